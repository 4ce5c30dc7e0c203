import Derived.Test.YtecppcijmhmapaaGreatDoorRnGB
import Derived.CheckFast
import Derived.Lib.Join
import Derived.Lib.ItoaNum
import Derived.LaidMore
import Derived.LaidHandle
import Derived.Lib.LaidTab
import Derived.Sort.Grow
import Derived.Deep.Draws
set_option maxRecDepth 100000
set_option maxHeartbeats 8000000
set_option linter.unusedSimpArgs false
set_option linter.unusedVariables false
namespace Go.Rn
open Go.RowKit
theorem sameKey_eq{a b:AV}(h:sameKey a b=some true):a=b:=by
 unfold sameKey at h;split at h<;>first|(cases h;done)|skip
 ·rename_i k x k' y;cases hk:decide (k=k') with
  |false=>rw[hk] at h;cases h
  |true=>
   rw[hk] at h;injection h with h
   have e1:=of_decide_eq_true hk;have e2:x=y:=by simpa using h
   rw[e1,e2]
 ·rename_i x y;injection h with h
  obtain⟨x⟩:=x;obtain⟨y⟩:=y;have e:x=y:=by have h':(x == y)=true:=h;exact eq_of_beq h'
  rw[e]
 ·rename_i x y;injection h with h
  have e:x=y:=by simpa using h
  rw[e]
theorem zH:∀{a b:List AV},lY a b=true->a=b
 |[],[],_=>rfl
 |[],_::_,h=>by simp[lY] at h
 |_::_,[],h=>by simp[lY] at h
 |x::xs,y::ys,h=>by
  unfold lY at h;split at h
  ·rename_i e;rw[sameKey_eq e,zH h]
  ·cases h
theorem GO{a b:AV}(h:sameBits a b=true):a=b:=by
 unfold sameBits at h;split at h
 ·rw[zH h]
 ·split at h
  ·rename_i e;exact sameKey_eq e
  ·cases h
theorem HC:∀{a b:List<|AV×AV},uY a b=true->a=b
 |[],[],_=>rfl
 |[],_::_,h=>by simp[uY] at h
 |_::_,[],h=>by simp[uY] at h
 |x::xs,y::ys,h=>by
  unfold uY at h;cases q:(sameBits x.1 y.1&&sameBits x.2 y.2) with
  |false=>rw[q] at h;cases h
  |true=>rw[q] at h;obtain⟨q1,q2⟩:=and_true.1 q;rw[HC h,Prod.ext (GO q1)<|GO q2]
theorem GP(x:AV×AV):∀l:List<|AV×AV,(x::l).Perm (AD x l)
 |[]=>List.Perm.refl _
 |y::l=>by
  unfold AD;split
  ·exact(List.Perm.swap y x l).trans<|List.Perm.cons y<|GP x l
  ·exact List.Perm.refl _
theorem GQ:∀l:List<|AV×AV,l.Perm (o5 l)
 |[]=>List.Perm.refl _
 |x::l=>(List.Perm.cons x<|GQ l).trans<|GP x _
theorem cH.perm{ρ:aj}{es fs:List<|AV×AV}(p:es.Perm fs):∀{l:List MapEntry},cH ρ es l->∃l',l.Perm l'/\cH ρ fs l':=by
 induction p with
 |nil=>intro l h;exact⟨l,List.Perm.refl _,h⟩
 |cons x p ih=>intro l h;simp only[cH] at h;obtain⟨e,dT,rfl,h1,h2,h3⟩:=h;obtain⟨l',q1,q2⟩:=ih h3;exact⟨e::l',q1.cons e,by simp only[cH];exact⟨e,l',rfl,h1,h2,q2⟩⟩
 |swap x y l0=>intro l h;simp only[cH] at h;obtain⟨e,dT,rfl,h1,h2,e2,rb,rfl,h3,h4,h5⟩:=h;exact⟨e2::e::rb,List.Perm.swap e2 e rb,by simp only[cH];exact⟨e2,_,rfl,h3,h4,e,rb,rfl,h1,h2,h5⟩⟩
 |trans _ _ TI ri=>intro l h;obtain⟨l1,q1,q2⟩:=TI h;obtain⟨l2,q3,q4⟩:=ri q2;exact⟨l2,q1.trans q3,q4⟩
theorem GR{k:AV}:∀{l:List<|AV×AV},AQ k l=false->∀p∈l,sameKey k p.1=some false
 |[],_,p,hp=>by cases hp
 |(x,y)::l,h,p,hp=>by
  unfold AQ at h;split at h
  ·rename_i e;rcases List.mem_cons.1 hp with rfl|hp
   ·exact e
   ·exact GR h p hp
  ·cases h
theorem Gt:∀{l:List<|AV×AV},sL l=true->gz l
 |[],_=>List.Pairwise.nil
 |(x,y)::l,h=>by
  unfold sL at h;split at h
  ·cases h
  ·rename_i e;refine List.Pairwise.cons (fun p hp=>?_)<|Gt h;have:=GR e p hp;exact⟨this,by rw[zB];exact this⟩
theorem Gg:∀{es:List<|Nat×List (AV×AV)},ux es=true->∀p∈es,sL p.2=true
 |[],_,p,hp=>by cases hp
 |(n,e)::l,h,p,hp=>by
  unfold ux at h;split at h
  ·rename_i q;rcases List.mem_cons.1 hp with rfl|hp
   ·exact q
   ·exact Gg h p hp
  ·cases h
theorem HD{s:AS}:∀{es:List<|Nat×List (AV×AV)},qD s es=true->∀p∈es,∃fs,pj s p.1=some fs/\o5 fs=p.2
 |[],_,p,hp=>by cases hp
 |(n,e)::l,h,p,hp=>by
  unfold qD at h;split at h
  ·cases h
  ·rename_i fs q;split at h
   ·rename_i q2;rcases List.mem_cons.1 hp with rfl|hp
    ·exact⟨fs,q,HC q2⟩
    ·exact HD h p hp
   ·cases h
theorem Ia{lo:Nat}{ns:List Nat}{es:List<|Nat×List (AV×AV)}{r:pJ}{rest:Option<|List AV}:∀{outs:List<|AV×AS},fits lo ns es r rest outs=true->∀x∈outs,
 (∀k∈x.2.wr,k<lo->k∈ns)/\qD x.2 es=true/\∃q,jv lo x.2 (l5 x.1)=some q/\oX q r=true/\CZ (qv x.1) rest=true
 |[],_,x,hx=>by cases hx
 |(v,s)::l,h,x,hx=>by
  unfold fits at h;split at h
  ·cases h
  ·rename_i q1;obtain⟨a1,a2⟩:=and_true.1 q1;split at h
   ·cases h
   ·rename_i q q2;split at h
    ·rename_i q3;rcases List.mem_cons.1 hx with rfl|hx
     ·refine⟨fun k hk aW=>?_,a2,q,q2,(and_true.1 q3).1,(and_true.1 q3).2⟩;exact uD.1<|List.all_eq_true.1 a1 k<|lS.2 ⟨hk,aW⟩
     ·exact Ia h x hx
    ·cases h
theorem Dk:∀{outs:List<|AV×AS},∀x∈outs,x.2.nx<=pk outs
 |[],x,hx=>by cases hx
 |(v,s)::l,x,hx=>by
  unfold pk;rcases List.mem_cons.1 hx with rfl|hx
  ·exact Nat.le_max_left _ _
  ·exact Nat.le_trans (Dk x hx)<|Nat.le_max_right _ _
theorem Ha{lo:Nat}{outs:List<|AV×AS}{p:xW}(h:o6 lo outs=some p):∃ns,p.es.map (·.1)=ns/\p.lo=lo/\p.skip=pk outs - lo/\ux p.es=true/\fits lo ns p.es p.ret p.rest outs=true:=by
 unfold o6 at h;split at h
 ·cases h
 ·rename_i v s1 l;split at h
  ·rename_i es r e1 e2;split at h
   ·cases h
   ·rename_i q;injection h with h
    subst h;obtain⟨q1,q2⟩:=and_true.1 q;exact⟨_,BY e1,rfl,rfl,q2,q1⟩
  ·cases h
section
variable {P:Program} {B:aH} {ρ σ:aj} {w w2:World} {s s1 s2:AS}
theorem B8:∀{l:List Nat} {s s1:AS} {u:Unit},km l s= .ok u s1->s1.h=s.h/\s1.nx=s.nx
 |[],s,s1,u,h=>by obtain⟨_,rfl⟩:=aQ (show M.pure () s= .ok u s1 from h);exact⟨rfl,rfl⟩
 |n::l,s,s1,u,h=>by obtain⟨o,s2,h1,h2⟩:=M.aL (show(a9 n).bind (fun _=>km l) s= .ok u s1 from h);obtain⟨_,_,e1,e2⟩:=eS h1;obtain⟨e3,e4⟩:=B8 h2;exact⟨e3.trans e1,e4.trans e2⟩
theorem MX{n:Nat}{es:List<|AV×AV}(h:lg n s= .ok es s1):n<s.nx/\(∃o,s.h.get n=some o/\o.plain=true/\o≠ .fp)/\s1.h=s.h/\s1.nx=s.nx:=by
 unfold lg at h;obtain⟨o,s2,h1,h2⟩:=M.aL h;obtain⟨hx,hg,e1,e2⟩:=eS h1;cases o with
 |map es aM=>obtain⟨_,rfl⟩:=aQ h2;exact⟨hx,⟨_,hg,rfl,by simp⟩,e1,e2⟩
 |cW es=>obtain⟨_,rfl⟩:=aQ h2;exact⟨hx,⟨_,hg,rfl,by simp⟩,e1,e2⟩
 |_=>cases h2
theorem Cr:∀{es:List<|Nat×List (AV×AV)} {s s1:AS} {u:Unit},ma es s= .ok u s1->s1.nx=s.nx/\(∀p∈es,p.1<s.nx/\s.h.get p.1≠some .fp)/\
 ∀k,k<top->(k ∉ es.map (·.1)/\s1.h.get k=s.h.get k)\/∃e,(k,e)∈es/\s1.h.get k=some (.cW e)
 |[],s,s1,u,h=>by obtain⟨_,rfl⟩:=aQ (show M.pure () s= .ok u s1 from h);exact⟨rfl,(fun p hp=>by cases hp),fun k _=>.inl ⟨by simp,rfl⟩⟩
 |(n,e)::l,s,s1,u,h=>by
  obtain⟨_,sa,h1,h2⟩:=M.aL (show(lg n).bind (fun _=>(ba n<|some<|.cW e).bind fun _=>ma l) s= .ok u s1 from h);obtain⟨_,sb,h3,h4⟩:=M.aL h2;obtain⟨a1,⟨o,a2,a3,a4⟩,a5,a6⟩:=MX h1;obtain⟨_,b1,_,b2,b3⟩:=hY h3;obtain⟨c1,c2,c3⟩:=Cr h4;have g:∀k,k<top->sb.h.get k=if k=n then some (.cW e) else s.h.get k:=fun k hk=>by rw[b2,a5];exact Tr.cV _ _ _ _ b1 hk
  refine⟨by rw[c1,b3,a6],fun p hp=>?_,fun k hk=>?_⟩
  ·rcases List.mem_cons.1 hp with rfl|hp
   ·exact⟨a1,by rw[a2];intro q;injection q with q;exact a4 q⟩
   ·obtain⟨d1,d2⟩:=c2 p hp;refine⟨by rw[b3,a6] at d1;exact d1,?_⟩;by_cases q:p.1=n
    ·rw[q,a2];intro q;injection q with q;exact a4 q
    ·by_cases q2:p.1<top
     ·rw[g _ q2,if_neg q] at d2;exact d2
     ·rw[b2,a5] at d2;intro q3;have:=Tr.nU s.h n p.1 (some<|.cW e) b1;rw[this,if_neg q] at d2;exact d2 q3
  ·rcases c3 k hk with⟨d1,d2⟩|⟨e',d1,d2⟩
   ·by_cases q:k=n
    ·subst q;refine .inr ⟨e,by simp,?_⟩;rw[d2,g _ hk,if_pos rfl]
    ·refine .inl ⟨?_,by rw[d2,g _ hk,if_neg q]⟩;simp only[List.map_cons,List.mem_cons,not_or];exact⟨q,d1⟩
   ·exact .inr ⟨e',List.mem_cons_of_mem _ d1,d2⟩
theorem zI:∀{k:Nat} {s s1:AS} {u:Unit},jS k s= .ok u s1->s1.nx=s.nx+k/\∀j,j<top->(s.nx<=j/\j<s1.nx/\s1.h.get j=none)\/(¬(s.nx<=j/\j<s1.nx)/\s1.h.get j=s.h.get j)
 |0,s,s1,u,h=>by obtain⟨_,rfl⟩:=aQ (show M.pure () s= .ok u s1 from h);exact⟨rfl,fun j _=>.inr ⟨by omega,rfl⟩⟩
 |k+1,s,s1,u,h=>by
  obtain⟨n,sa,h1,h2⟩:=M.aL (show(cZ .defs).bind (fun n=>(ba n none).bind fun _=>jS k) s= .ok u s1 from h);obtain⟨_,sb,h3,h4⟩:=M.aL h2;obtain⟨a1,rfl,rfl⟩:=kX h1;obtain⟨_,b1,_,b2,b3⟩:=hY h3;obtain⟨c1,c2⟩:=zI h4;have Vx:sb.nx=s.nx+1:=b3;have g:∀j,j<top->sb.h.get j=if j=s.nx then none else s.h.get j:=fun j hj=>by
   rw[b2,Tr.cV _ _ _ _ b1 hj];by_cases q:j=s.nx
   ·rw[if_pos q,if_pos q]
   ·rw[if_neg q,if_neg q];show(s.h.put s.nx<|some .defs).get j=_;rw[Tr.cV _ _ _ _ b1 hj,if_neg q]
  refine⟨by omega,fun j hj=>?_⟩;rcases c2 j hj with⟨d1,d2,d3⟩|⟨d1,d2⟩
  ·exact .inl ⟨by omega,d2,d3⟩
  ·by_cases q:j=s.nx
   ·refine .inl ⟨by omega,by omega,?_⟩;rw[d2,g j hj,if_pos q]
   ·refine .inr ⟨by omega,?_⟩;rw[d2,g j hj,if_neg q]
theorem zT{lo:Nat}{r:pJ}{x:AV}(h:po lo r s= .ok x s1):(s1=s/\((r= .none/\x= .tuple [])\/(r= .nil/\x= .slice none 0 (.known 0))))\/
 ∃n c len e,r= .row n c len e/\x= .slice (some (n,0)) len (.aU len e)/\s.nx<=n/\n<top/\s1.nx=n+1/\c.length<=top/\s1.h.get n=some (.cells c.length (Tr.fill c 0 .nil) [])/\(∀y∈c,y.bu=true)/\∀j,j<top->j≠n->(s.nx<=j/\j<s1.nx/\s1.h.get j=none)\/(¬(s.nx<=j/\j<s1.nx)/\s1.h.get j=s.h.get j):=by
 cases r with
 |none=>obtain⟨rfl,rfl⟩:=aQ (show M.pure (.tuple []) s= .ok x s1 from h);exact .inl ⟨rfl,.inl ⟨rfl,rfl⟩⟩
 |nil=>obtain⟨rfl,rfl⟩:=aQ (show M.pure (.slice none 0<|.known 0) s= .ok x s1 from h);exact .inl ⟨rfl,.inr ⟨rfl,rfl⟩⟩
 |row n c len e=>
  obtain⟨_,sa,h1,h2⟩:=M.aL (show((jS<|n - lo).bind fun _=>(newRow c).bind fun m=>aB (Nat.beq m n) <| M.pure<|.slice (some (n,0)) len<|.aU len e) s= .ok x s1 from h);obtain⟨m,sb,h3,h4⟩:=M.aL h2;obtain⟨q,h5⟩:=bP h4;obtain⟨rfl,rfl⟩:=aQ h5;unfold newRow at h3;obtain⟨q1,h6⟩:=bP h3;obtain⟨q2,q3⟩:=and_true.1 q1;obtain⟨a1,rfl,rfl⟩:=kX h6;have q':sa.nx=n:=cC.1 q;obtain⟨b1,b2⟩:=zI h1;refine .inr ⟨n,c,len,e,rfl,rfl,by omega,by omega,by show sa.nx+1=_;omega,aK.1 q2,?_,fun y hy=>List.all_eq_true.1 q3 y hy,fun j hj bS=>?_⟩
  ·show(sa.h.put sa.nx _).get n=_;rw[q',Tr.cV _ _ _ _ (by omega) (by omega),if_pos rfl]
  ·have e1:(sa.h.put sa.nx<|some<|.cells c.length (Tr.fill c 0 .nil) []).get j=sa.h.get j:=by rw[Tr.cV _ _ _ _ a1 hj,if_neg<|by omega]
   show(_/\j<sa.nx+1/\(sa.h.put sa.nx<|some<|.cells c.length (Tr.fill c 0 .nil) []).get j=none)\/(¬(_/\j<sa.nx+1)/\(sa.h.put sa.nx<|some<|.cells c.length (Tr.fill c 0 .nil) []).get j=s.h.get j);rw[e1];rcases b2 j hj with⟨d1,d2,d3⟩|⟨d1,d2⟩
   ·exact .inl ⟨d1,by omega,d3⟩
   ·exact .inr ⟨by omega,d2⟩
theorem OX{n:Nat}{fs:List<|AV×AV}(h:pj s n=some fs):∃o,s.h.get n=some o/\o.bQ=false/\((∃c,o= .map fs c)\/o= .cW fs):=by
 unfold pj at h;split at h
 ·rename_i es c e;injection h with h;subst h;exact⟨_,e,rfl,.inl ⟨c,rfl⟩⟩
 ·rename_i es e;injection h with h;subst h;exact⟨_,e,rfl,.inr rfl⟩
 ·cases h
theorem N5{N:Nat}{o:U}{fs:List<|AV×AV}{o':Obj}(h:(∃c,o= .map fs c)\/o= .cW fs)(hO:OR σ N o o')(hk:sL (o5 fs)=true):OR σ N (.cW<|o5 fs) o':=by
 have key:∀(l:Array MapEntry) (aM:Nat),l4 l.toList aM->my σ fs l.toList->OR σ N (.cW<|o5 fs) (.map l aM):=by intro l aM hb hp;obtain⟨l',p1,p2⟩:=hp;obtain⟨we,p3,p4⟩:=p2.perm<|GQ fs;exact⟨l,aM,rfl,Gt hk,hb,we,p1.trans p3,p4⟩
 rcases h with⟨c,rfl⟩|rfl
 ·obtain⟨l,rfl,hc,he⟩:=hO;exact key l c (by rw[hc];exact he.Jr) ⟨_,List.Perm.refl _,he.eqs⟩
 ·obtain⟨l,aM,rfl,_,hb,he⟩:=hO;exact key l aM hb he
theorem OY{outs:List<|AV×AS}{p:xW}{v x:AV}{u:Value}{dr dw:List Nat}(r:Rel B ρ s.h w)(hf:bL s.nx s2.nx ρ)(hp:o6 s.nx outs=some p)(fw:(v,s1)∈outs)(Ez:iw ⟨s.h,s.nx,s.nx,[],[]⟩ s1 dr dw)(hd:xu p s= .ok x s2)(e:Ext s.nx s1.nx ρ σ)(hv:VR σ v u)(rl:Rel B σ s1.h w2)(hb:bp B w w2):gC B ρ s s2 w x u w2:=by
 obtain⟨ns,gT,cx,Ru,Rv,D7⟩:=Ha hp;obtain⟨f1,f2,q,f3,f4,f5⟩:=Ia D7 _ fw;have f3:jv s.nx s1 (l5 v)=some q:=f3;have f5:CZ (qv v) p.rest=true:=f5;obtain⟨_,n1,d1,d2⟩:=M.aL (show((km p.note).bind fun _=>(ma p.es).bind fun _=>(po p.lo p.ret).bind fun v=>(jS p.skip).bind fun _=>M.pure<|w7 p.rest v) s= .ok x s2 from hd);obtain⟨_,n2,d3,d4⟩:=M.aL d2;obtain⟨y,n3,d5,d6⟩:=M.aL d4;obtain⟨_,n4,d7,d8⟩:=M.aL d6;obtain⟨rfl,rfl⟩:=aQ d8;obtain⟨a1,a2⟩:=B8 d1;obtain⟨b1,b2,b3⟩:=Cr d3;obtain⟨c1,c2⟩:=zI d7;have Fe:∀k∈dw,k<s.nx->k∈ns:=by intro k hk aW;refine f1 k ?_ aW;have:=Ez.wr;simp only[List.append_nil] at this;rw[this];exact hk
 have vJ:s.nx<=n3.nx/\s1.nx<=s2.nx:=by
  have hx:s1.nx<=pk outs:=Dk _ fw;rcases zT d5 with⟨rfl,_⟩|⟨n,c,len,ee,_,_,g1,_,g2,_⟩
  ·omega
  ·omega
 have yb:n3.nx<=s2.nx:=by omega
 have heap:∀k,k<top->(s2.h.get k=none/\s.nx<=k/\k<s2.nx)\/(∃es,(k,es)∈p.es/\s2.h.get k=some (.cW es))\/(k ∉ ns/\¬(s.nx<=k/\k<s2.nx)/\s2.h.get k=s.h.get k)\/
  (∃c len ee,p.ret= .row k c len ee/\s.nx<=k/\c.length<=top/\(∀y∈c,y.bu=true)/\s2.h.get k=some (.cells c.length (Tr.fill c 0 .nil) [])):=by
  intro k hk;have base:n2.nx=s.nx:=by omega
  have put:(k ∉ ns/\n2.h.get k=s.h.get k)\/∃es,(k,es)∈p.es/\n2.h.get k=some (.cW es):=by
   rcases b3 k hk with⟨g1,g2⟩|⟨es,g1,g2⟩
   ·exact .inl ⟨by rw[←gT];exact g1,by rw[g2,a1]⟩
   ·exact .inr ⟨es,g1,g2⟩
  have low:∀es,(k,es)∈p.es->k<s.nx:=fun es h=>by have:=(b2 _ h).1;omega
  have last:∀(hr:n3.h.get k=n2.h.get k) (hn:¬(s.nx<=k/\k<n3.nx)),(s2.h.get k=none/\s.nx<=k/\k<s2.nx)\/(∃es,(k,es)∈p.es/\s2.h.get k=some (.cW es))\/(k ∉ ns/\¬(s.nx<=k/\k<s2.nx)/\s2.h.get k=s.h.get k):=by
   intro hr hn;rcases c2 k hk with⟨g1,g2,g3⟩|⟨g1,g2⟩
   ·exact .inl ⟨g3,by omega,g2⟩
   ·rcases put with⟨p1,p2⟩|⟨es,p1,p2⟩
    ·exact .inr<|.inr ⟨p1,by omega,by rw[g2,hr,p2]⟩
    ·exact .inr<|.inl ⟨es,p1,by rw[g2,hr,p2]⟩
  rcases zT d5 with⟨rfl,_⟩|⟨n,c,len,ee,h1,_,h3,h4,h5,h6,h7,h8,h9⟩
  ·rcases last rfl (by omega) with h|h|h
   ·exact .inl h
   ·exact .inr<|.inl h
   ·exact .inr<|.inr<|.inl h
  ·by_cases oC:k=n
   ·subst oC;rcases c2 k hk with⟨g1,g2,g3⟩|⟨g1,g2⟩
    ·omega
    ·exact .inr<|.inr<|.inr ⟨c,len,ee,h1,by omega,h6,h8,by rw[g2,h7]⟩
   ·rcases h9 k hk oC with⟨g1,g2,g3⟩|⟨g1,g2⟩
    ·rcases c2 k hk with⟨i1,i2,i3⟩|⟨i1,i2⟩
     ·omega
     ·exact .inl ⟨by rw[i2,g3],by omega,by omega⟩
    ·rcases last g2 (by omega) with h|h|h
     ·exact .inl h
     ·exact .inr<|.inl h
     ·exact .inr<|.inr<|.inl h
 have kept:∀k,k<top->k ∉ ns->¬(s.nx<=k/\k<s2.nx)->s1.h.get k=s.h.get k:=by
  intro k hk h1 h2;by_cases h3:k<s.nx
  ·exact Ez.same k h3 fun h4=>h1<|Fe k h4 h3
  ·exact Ez.dB k (by omega) hk
 have row:∀k c len ee,p.ret= .row k c len ee->∃c',len<=c'/\l5 v= .slice (some (k,0)) len (.aU c' ee)/\k<s1.nx/\∃t z,s1.h.get k=some (.cells c.length t z)/\∀i,i<c.length->cellAt t z i=c[i]? :=by
  intro k c len ee hr;rw[hr] at f4;unfold jv at f3;split at f3
  ·injection f3 with f3;subst f3;simp[oX] at f4
  ·injection f3 with f3;subst f3;simp[oX] at f4
  ·rename_i n SA c' e' yf;split at f3
   ·rename_i k' t z hg;split at f3
    ·rename_i l hl;split at f3
     ·rename_i hq;injection f3 with f3;subst f3
      simp only[oX] at f4;obtain⟨g1,g2⟩:=and_true.1 f4;obtain⟨g3,g4⟩:=and_true.1 g2;obtain⟨g5,g6⟩:=and_true.1 g4;obtain⟨q1,q2⟩:=and_true.1 hq;obtain⟨q3,q4⟩:=and_true.1 q1;obtain⟨q5,q6⟩:=and_true.1 q2;obtain⟨q7,q8⟩:=and_true.1 q6;have e1:n=k:=cC.1 g1;have e2:l=c:=zH g3;have e3:SA=len:=cC.1 g5;have e4:e'=ee:=cC.1 g6;subst e1;subst e2;subst e3;subst e4;obtain⟨i1,i2⟩:=zF hl;subst i1;have hn:n<s1.nx:=by rw[←blt_eq];exact q4
      exact⟨c',aK.1 q7,yf,hn,t,z,hg,fun i hi=>by have:=i2 i hi;rw[Nat.zero_add] at this;exact this⟩
     ·cases f3
    ·cases f3
   ·cases f3
  ·cases f3
 have Ku:∀k es,(k,es)∈p.es->∃fs o,s1.h.get k=some o/\o.bQ=false/\((∃c,o= .map fs c)\/o= .cW fs)/\o5 fs=es/\sL es=true:=by intro k es h;obtain⟨fs,h1,h2⟩:=HD f2 _ h;obtain⟨o,h3,h4,h5⟩:=OX h1;exact⟨fs,o,h3,h4,h5,h2,Gg Rv _ h⟩
 have live:∀k,k<top->∀o,s2.h.get k=some o->∃o',s1.h.get k=some o'/\(o.bQ=false->o'.bQ=false):=by
  intro k hk o ho;rcases heap k hk with⟨h1,_⟩|⟨es,h1,h2⟩|⟨h1,h2,h3⟩|⟨c,len,ee,h1,_⟩
  ·rw[h1] at ho;cases ho
  ·obtain⟨fs,o',h3,h4,_⟩:=Ku k es h1;exact⟨o',h3,fun _=>h4⟩
  ·rw[h3] at ho;exact⟨o,by rw[kept k hk h1 h2];exact ho,id⟩
  ·obtain⟨_,_,_,_,t,z,h3,_⟩:=row k c len ee h1;exact⟨_,h3,fun _=>rfl⟩
 have DE:∀i,i<top->∀m es ex left cur,s2.h.get i=some (.iter m es ex left cur)->i ∉ ns/\¬(s.nx<=i/\i<s2.nx)/\s.h.get i=some (.iter m es ex left cur)/\s1.h.get i=some (.iter m es ex left cur):=by
  intro i hi m es ex left cur hq;rcases heap i hi with⟨h1,_⟩|⟨es,h1,h2⟩|⟨h1,h2,h3⟩|⟨c,len,ee,h1,_,_,_,h2⟩
  ·rw[h1] at hq;cases hq
  ·rw[h2] at hq;cases hq
  ·rw[h3] at hq;exact⟨h1,h2,hq,by rw[kept i hi h1 h2];exact hq⟩
  ·rw[h2] at hq;cases hq
 refine⟨σ,⟨e.le,fun k eX hk=>e.out k eX<|by omega⟩,?_,⟨?_,?_,?_,rl.size,?_,rl.fz.of (aj.le_refl _) (fun _ _ _=>rfl) (fun b1 _ hn=>hn.sub fun m q hm hq dm=>by
  obtain⟨y,e1,e2⟩:=live m hm q hq;exact⟨y,e1,e2 dm⟩),rl.tk.of (aj.le_refl _) (fun i q hi hq mj=>by
  rcases heap i hi with⟨h1,_⟩|⟨es,h1,h2⟩|⟨h1,h2,h3⟩|⟨c,len,ee,h1,_,_,_,h2⟩
  ·rw[h1] at hq;cases hq
  ·rw[h2] at hq;cases hq;cases mj
  ·rw[h3] at hq;rw[kept i hi h1 h2];exact hq
  ·rw[h2] at hq;cases hq;cases mj) (Nat.le_refl _) (fun _ _ _=>rfl) (fun b1 _ hn=>hn.sub fun m q hm hq dm=>by
  obtain⟨y,e1,e2⟩:=live m hm q hq;exact⟨y,e1,e2 dm⟩) fun _ _ _ _ _ e=>e⟩,hb⟩
 ·have val:∀u1,VR σ (l5 v) u1->VR σ y u1:=by
   intro u1 hv
   ·rcases zT d5 with⟨_,⟨hr,rfl⟩|⟨hr,rfl⟩⟩|⟨n,c,len,ee,hr,rfl,_⟩
    ·rw[hr] at f4;unfold jv at f3;split at f3
     ·rename_i yf;have Eb:l5 v= .tuple []:=yf;rw[←Eb];exact hv
     ·injection f3 with f3;subst f3;simp[oX] at f4
     ·split at f3
      ·split at f3
       ·split at f3
        ·injection f3 with f3;subst f3;simp[oX] at f4
        ·cases f3
       ·cases f3
      ·cases f3
     ·cases f3
    ·rw[hr] at f4;unfold jv at f3;split at f3
     ·injection f3 with f3;subst f3;simp[oX] at f4
     ·rename_i yf;have Eb:l5 v= .slice none 0 (.known 0):=yf;rw[←Eb];exact hv
     ·split at f3
      ·split at f3
       ·split at f3
        ·injection f3 with f3;subst f3;simp[oX] at f4
        ·cases f3
       ·cases f3
      ·cases f3
     ·cases f3
    ·obtain⟨c',h1,SB,_⟩:=row n c len ee hr;rw[SB] at hv;simp only[VR] at hv ⊢;obtain⟨b,N,cc,g1,g2,g3,g4,g5⟩:=hv;exact⟨b,N,cc,g1,g2,g4,g4,g5⟩
  cases v with
  |tuple vs=>
   cases vs with
   |nil=>
    cases hr:p.rest with
    |some l=>rw[hr] at f5;cases f5
    |none=>exact val u hv
   |cons v1 l=>
    cases hr:p.rest with
    |none=>rw[hr] at f5;cases f5
    |some m=>rw[hr] at f5;have el:l=m:=zH f5;subst el;simp only[VR,av] at hv;obtain⟨a,rfl,u1,us,e1,g1,g2⟩:=hv;show VR σ (.tuple<|y::l)<|.tuple a;simp only[VR,av];exact⟨a,rfl,u1,us,e1,val u1 g1,g2⟩
  |_=>
   cases hr:p.rest with
   |some l=>rw[hr] at f5;cases f5
   |none=>exact val u hv
 ·intro k o hk ho;rcases heap k hk with⟨h1,_⟩|⟨es,h1,h2⟩|⟨h1,h2,h3⟩|⟨c,len,ee,h1,h2,h3,h4,h5⟩
  ·rw[h1] at ho;cases ho
  ·rw[h2] at ho;injection ho with ho;subst ho
   obtain⟨fs,o,g1,g2,g3,rfl,g5⟩:=Ku k es h1;obtain⟨b,N,o',i1,i2,i3,i4⟩:=rl.is k o hk g1;exact⟨b,N,o',i1,i2,N5 g3 i3 g5,fun _=>i4 g2⟩
  ·rw[h3] at ho;exact rl.is k o hk (by rw[kept k hk h1 h2];exact ho)
  ·rw[h5] at ho;injection ho with ho;subst ho
   obtain⟨c',_,_,_,t,z,g1,g2⟩:=row k c len ee h1;obtain⟨b,N,o',i1,i2,i3,i4⟩:=rl.is k _ hk g1;obtain⟨cc,et,rfl,j1,j2,j3⟩:=i3;refine⟨b,N,_,i1,i2,⟨cc,et,rfl,j1,j2,fun i hi=>?_⟩,fun _=>i4 rfl⟩;obtain⟨y,yv,y1,y2,y3,y4⟩:=j3 i hi;exact⟨y,yv,by rw[p6 h3 hi, ←g2 i hi];exact y1,y2,y3,y4⟩
 ·intro k j o o' b N M hk hj ho iy ct h1 h2;obtain⟨y,hy,mA⟩:=live k hk o ho;obtain⟨z,hz,tK⟩:=live j hj o' iy;exact rl.one k j y z b N M hk hj hy hz (ct.imp mA tK) h1 h2
 ·intro i m es ex left cur hi hq;obtain⟨g1,g2,g3,g4⟩:=DE i hi m es ex left cur hq;obtain⟨h1,h2,h3⟩:=rl.iter i m es ex left cur hi g4;obtain⟨_,i2,_⟩:=r.iter i m es ex left cur hi g3;refine⟨h1,?_,h3⟩;rcases heap m h1 with⟨k1,k2,k3⟩|⟨dT,k1,k2⟩|⟨k1,k2,k3⟩|⟨c,len,ee,k1,k2,_⟩
  ·obtain⟨bb,N,_,j1,_⟩:=r.is m _ h1 i2;rw[hf m k2 k3 h1] at j1;cases j1
  ·have:=(b2 _ k1).2;rw[a1] at this;exact absurd i2 this
  ·rw[k3];exact i2
  ·obtain⟨bb,N,_,j1,_⟩:=r.is m _ h1 i2;obtain⟨_,_,_,l1,_⟩:=row m c len ee k1;rw[hf m k2 (by omega) h1] at j1;cases j1
 ·intro i j m es ex left cur dT fM fB fD hi hj h1 h2;exact rl.lone i j m _ _ _ _ _ _ _ _ hi hj (DE i hi _ _ _ _ _ h1).2.2.2 (DE j hj _ _ _ _ _ h2).2.2.2
end
end Go.Rn
namespace Go.Rn
open Go.RowKit
section
variable {P:Program} {B:aH} {ρ:aj} {w:World} {s s1:AS} {U7:aJ}
theorem B4{rs:List ResultVar}:∀{l:List<|(AF×Option Code)×AS} {outs:List<|AV×AS},lR P rs l=some outs->∀x∈l,∃v s1,finish P rs x.1.1 x.1.2 x.2= .ok v s1/\(v,s1)∈outs
 |[],outs,_,x,hx=>by cases hx
 |((fr,j),s)::l,outs,h,x,hx=>by
  simp only[lR] at h;cases e:finish P rs fr j s with
  |bad=>rw[e] at h;cases h
  |ok v s1=>
   rw[e] at h;cases e2:lR P rs l with
   |none=>simp only[e2] at h;cases h
   |some r=>
    simp only[e2] at h;injection h with h;subst h
    rcases List.mem_cons.1 hx with rfl|hx
    ·exact⟨v,s1,e,by simp⟩
    ·obtain⟨v',s',a,b⟩:=B4 e2 x hx;exact⟨v',s',a,List.mem_cons_of_mem _ b⟩
theorem OZ(cf:P.follows .mixedOrders=true)(hc:dD P B U7)(hl:∀t a,U5<|U7 t a){f:FuncId}{fn:Func}{body:Code}{args:List AV}{vs:Array Value}{x:AV}(cI:P.funcs[f]? =some fn)(di:fn.body=some body)(eT:(fn.name == "runtime.NumGoroutine")=false)(cO:dN body)(fi:aS s)(r:Rel B ρ s.h w)(hg:eh ρ)(hf:bL s.nx s1.nx ρ)(h:qE P U7 f fn.ntmps fn.results.toList body args s= .ok x s1)(hv:av ρ args vs.toList):fZ P ((callFunc f vs).run P w)<|gC B ρ s s1 w x:=by
 have bh:(callFunc f vs).run P w= .ok (.enter f vs) w:=by
  have nk:(program).run P w= .ok P w:=rfl;have hn:fn.name≠ "runtime.NumGoroutine" :=by simpa using eT
  simp only[callFunc,Sem.run_bind,nk,Result.andThen_ok,cI,eT,di];simp
 rw[bh];intro cs;unfold qE at h;cases e0:Nat.ble (max fn.ntmps args.length) top with
 |false=>simp only[e0] at h;cases h
 |true=>
  simp only[e0] at h;have jz:=aK.1 e0;cases e1:w8 P U7 f fn.ntmps fn.results.toList body args ⟨s.h,s.nx,s.nx,[],[]⟩ with
  |none=>simp only[e1] at h;cases h
  |some outs=>
   simp only[e1] at h;cases e2:o6 s.nx outs with
   |none=>simp only[e2] at h;cases h
   |some p=>
    simp only[e2] at h;have E3:=e1;unfold w8 at e1;cases e3:jl P U7 100000 ⟨f,bG args,max fn.ntmps args.length,[.code body],[],none⟩ ⟨s.h,s.nx,s.nx,[],[]⟩ with
    |none=>simp only[e3] at e1;cases e1
    |some l=>
     simp only[e3] at e1;have yX:aS (⟨s.h,s.nx,s.nx,[],[]⟩:AS):=⟨Nat.le_refl _,fi.nx⟩;obtain⟨_,v8,_⟩:=(F8 P fn.results.toList<|nP P hl _ _) ⟨s.h,s.nx,s.nx,[],[]⟩ outs yX E3;obtain⟨_,Kv,_⟩:=nP P hl _ _ ⟨s.h,s.nx,s.nx,[],[]⟩ l yX e3;have bq:∀x∈outs,x.2.nx<=s1.nx:=by
      intro y hy;have q1:=Dk y hy;obtain⟨ns,_,_,Ru,_,_⟩:=Ha e2;obtain⟨_,n1,d1,d2⟩:=M.aL (show((km p.note).bind fun _=>(ma p.es).bind fun _=>(po p.lo p.ret).bind fun v=>(jS p.skip).bind fun _=>M.pure<|w7 p.rest v) s= .ok x s1 from h);obtain⟨_,n2,d3,d4⟩:=M.aL d2;obtain⟨y',n3,d5,d6⟩:=M.aL d4;obtain⟨_,n4,d7,d8⟩:=M.aL d6;obtain⟨rfl,rfl⟩:=aQ d8;obtain⟨a1,a2⟩:=B8 d1;obtain⟨b1,_⟩:=Cr d3;obtain⟨c1,_⟩:=zI d7;rcases zT d5 with⟨rfl,_⟩|⟨n,c,len,ee,_,_,g1,_,g2,_⟩
      ·omega
      ·omega
     have pQ:∀y∈l,y.2.nx<=s1.nx:=by intro y hy;obtain⟨v,s3,q1,q2⟩:=B4 e1 y hy;obtain⟨dr,dw,d⟩:=Kv y hy;have:=(U5.finish P fn.results.toList y.1.1 y.1.2).le (d.bo yX) q1;exact Nat.le_trans this<|bq _ q2
     let b:Frame:={(default:Frame) with fn:=f,kind:=.normal,roundOf:=none};let a:Act:={tmps:=vs++Array.replicate (fn.ntmps - vs.size) undef,defers:=[]};have ll:Frame.enter P f vs .normal=b.atR a [.code body]:=by simp[Frame.enter,Frame.atR,cI,di,b,a]
     have aY:Fr ρ ⟨f,bG args,max fn.ntmps args.length,[.code body],[],none⟩ b a:=⟨rfl,rfl,trivial,rfl,.cons cO .nil⟩;have aC:At B ρ ⟨s.h,s.nx,s.nx,[],[]⟩ (max fn.ntmps args.length) (bG args) w a:=⟨wD hv _ jz,r,hg,jz,yX⟩;obtain⟨fr,j,s2,fw,σ,a',w',q1,q2,q3,q4,⟨q5,Vy,Vl⟩,q6,q7,q8⟩:=G9 (b:=b) (cs:=cs) cf hc hl 100000 aY aC (fun y hy=>hf.sub (Nat.le_refl _)<|pQ y hy) e3;obtain⟨v,s3,jy,om⟩:=B4 e1 _ fw;obtain⟨dr,dw,hd⟩:=v8 _ om;obtain⟨ox,qV,yY⟩:=Kv _ fw;have bU:aS s2:=yY.bo yX;obtain⟨hj,u2,s4,rs,h7,h9,hx⟩:=wM jy;have Lg:Leaves j fr.todo:=q7;obtain⟨d1,d2,w2,d3,d4,d5⟩:=uo (P:=P) (fr:=b) (cs:=cs) bU q2.rel q3 h7;have gW:aS s4:=(U5.jj _).bo bU h7;obtain⟨f1,f2,us,f3,f4⟩:=um (P:=P) (w:=w2) q2.tr gW d3 h9;have Rw:Steps P (lone (b.atR a' fr.todo) cs w')<|lone {b.atR a' fr.todo with mode:=.returning} cs w':=by
      rcases hj with rfl|rfl
      ·have e:fr.todo=[]:=Lg;rw[e];exact .one<|stepR_end rfl
      ·obtain⟨k,e⟩:=Lg;rw[e];exact .one<|stepR_ret rfl
     have lr:=d5 {b.atR a' fr.todo with mode:=.returning} cs (by simp) rfl;have jU:(results fn a'.tmps).run P w2= .ok (fK us) w2:=by
      unfold results;rw[Array.mapM_eq_mapM_toList];simp only[Sem.run_bind,map_eq_pure_bind,Sem.run_pure];refine Eq.trans (congrArg (fun r:Result (List Value)=>(r.andThen fun a w'=>Result.ok a.toArray w').andThen fun a w'=>Result.ok (if h:a.size=1 then a[0] else Value.tuple a) w') f3) ?_;have:∀l:List Value,(Result.ok (if h:l.toArray.size=1 then l.toArray[0] else Value.tuple l.toArray) w2:Result Value)= .ok (fK l) w2:=by
       intro l
       match l with
       |[]=>rfl
       |[v]=>rfl
       |v::v2::l=>simp[fK]
      exact this us
     have SC:gC B ρ s s1 w x (fK us) w2:=by
      refine OY (σ:=σ) r hf e2 om hd h ?_ ?_ ?_<|q4.trans d4
      ·rw[show s3.nx=s2.nx by rw[f2,d1]];exact q1
      ·rw[hx];exact wV f4
      ·rw[f1];exact d3
     refine⟨.returned<|fK us,w2,{b.atR a' fr.todo with mode:=.returning,defers:=[]},⟨_,rfl,SC⟩,?_,rfl,?_⟩
     ·rw[ll];exact Steps.trans q8<|Steps.trans Rw lr
     ·exact⟨rfl,rfl,rfl,fn,cI,jU⟩
structure IS (P:Program) (f:FuncId):Prop where
 is:∃fn,P.funcs[f]? =some fn/\fn.body=none/\(fn.name == "runtime.NumGoroutine")=false/\(Extern.findNext fn).isNone=true/\Extern.find fn=some Extern.MapsClone.clone
theorem Nv{f:FuncId}(hf:IS P f){vs:Array Value}{R:Value->World->Prop}{v:Value}{w':World}(h:(Extern.MapsClone.clone vs).run P w= .ok v w')(hR:R v w'):fZ P ((callFunc f vs).run P w) R:=by
 obtain⟨fn,h1,h2,h3,h4,h5⟩:=hf.is;have nk:(program).run P w= .ok P w:=rfl;have Rx:∀m,(mark m).run P w= .ok () w:=fun _=>rfl;have nH:Extern.findNext fn=none:=by simpa using h4
 have:(callFunc f vs).run P w= .ok (.value v) w':=by simp only[callFunc,Sem.run_bind,nk,Result.andThen_ok,h1,h2,h3,nH,h5];simp[h,Rx]
 rw[this];exact hR
theorem Qt{cL:FuncId->Nat}(hP:du P)(h3:∀f,cL f≠3)(h2:∀f,cL f=2->IS P f):DD P B cL:=by
 intro n f hw ih args x s s1 ρ w vs fi r hg hf h hv;rcases hw with e|e|e
 ·unfold qU at h;rw[e] at h;simp only at h;cases e1:P.funcs[f]? with
  |none=>rw[e1] at h;cases h
  |some fn=>
   rw[e1] at h;cases e2:fn.body with
   |none=>simp only[e2] at h;cases h
   |some body=>
    simp only[e2] at h;cases e3:(fn.name == "runtime.NumGoroutine") with
    |true=>simp only[e3] at h;cases h
    |false=>simp only[e3] at h;exact OZ hP.mixed ih (wK P cL n) e1 e2 e3 (hP.code f fn body e1 e2) fi r hg hf h hv
 ·unfold qU at h;rw[e] at h;have h':qe args s= .ok x s1:=h;obtain⟨σ,w',v,a1,a2,a3,a4,a5⟩:=N4 (P:=P) fi r hf hv h';exact Nv (h2 f e) a2 ⟨σ,a1,a3,a4,a5⟩
 ·exact absurd e<|h3 f
end
end Go.Rn
namespace Go.Rn
open Go.RowKit
noncomputable section
def dj(P:Program)(U7:aJ)(k:Nat):AF->M bN:= @Nat.rec (fun _=>AF->M bN) (fun fr=>M.pure<|.go fr) (fun _ ih fr=>(gk P U7 fr).bind fun x=> @bN.rec (fun _=>M bN) ih (fun fr j=>M.pure<|.leave fr j) x) k
def mT:List Nat->Code->Code
 |[],c=>c
 |0::l,.seq a _=>mT l a
 |_::l,.seq _ b=>mT l b
 |0::l,.cond _ a _=>mT l a
 |_::l,.cond _ _ b=>mT l b
 |_::l,.block _ b=>mT l b
 |_::l,.loop b=>mT l b
 |_::l,.scope b=>mT l b
 |0::l,.rangeFunc _ _ a _=>mT l a
 |_::l,.rangeFunc _ _ _ b=>mT l b
 |_::_,c=>c
def getAll(h:Tr U):List Nat->List (Option U)
 |[]=>[]
 |n::ns=>h.get n::getAll h ns
def Ib:List (Option U)->Bool
 |[]=>true
 |none::l=>Ib l
 |some o::l=>match o.plain with
  |true=>Ib l
  |false=>false
def DF(m:Nat):List Nat->Bool
 |[]=>true
 |n::l=>match Nat.blt n m with
  |true=>DF m l
  |false=>false
end
theorem Cs{m:Nat}:∀{l:List Nat},DF m l=true->∀n∈l,n<m
 |[],_,n,h=>by cases h
 |a::l,hp,n,h=>by
  unfold DF at hp;split at hp
  ·rename_i e;rcases List.mem_cons.1 h with rfl|h
   ·rw[←blt_eq];exact e
   ·exact Cs hp n h
  ·cases hp
section
variable {P:Program} {B:aH} {ρ:aj} {w:World} {s s1:AS} {U7:aJ} {b:Frame} {a:Act} {cs:List Frame}
theorem U5.dj(P:Program){U7:aJ}(bh:∀t a,U5<|U7 t a):∀(k:Nat) (fr:AF),U5 (dj P U7 k fr)
 |0,fr=>U5.pure _
 |k+1,fr=>by
  refine U5.bind (U5.gk P bh fr) fun x=>?_;cases x with
  |go fr=>exact U5.dj P bh k fr
  |leave fr j=>exact U5.pure _
theorem z7(cf:P.follows .mixedOrders=true)(hc:dD P B U7)(hl:∀t a,U5<|U7 t a):∀(k:Nat) {ρ:aj} {w:World} {s s1:AS} {a:Act} {af:AF} {x:bN},Fr ρ af b a->At B ρ s af.nt af.tmps w a->bL s.nx s1.nx ρ->
 dj P U7 k af s= .ok x s1->ja P B ρ s s1 w af b cs (lone (b.atR a af.todo) cs w) x
 |0,ρ,w,s,s1,a,af,x,aY,aC,hf,h=>by obtain⟨rfl,rfl⟩:=aQ (show M.pure (.go af) s= .ok x s1 from h);exact uy aY aC rfl rfl ⟨rfl,rfl,rfl⟩ aY.ok trivial<|Steps.refl _ _
 |k+1,ρ,w,s,s1,a,af,x,aY,aC,hf,h=>by
  obtain⟨y,s2,h1,h2⟩:=M.aL (show((gk P U7 af).bind fun x=> @bN.rec (fun _=>M bN) (dj P U7 k) (fun fr j=>M.pure<|.leave fr j) x) s= .ok x s1 from h);have gu:=(U5.gk P hl af).le aC.bo h1;have bU:=(U5.gk P hl af).bo aC.bo h1;cases y with
  |go fr=>have kP:dj P U7 k fr s2= .ok x s1:=h2;have kR:=(U5.dj P hl k fr).le bU kP;have w1:=wT (b:=b) (cs:=cs) cf hc hl aY aC (hf.sub (Nat.le_refl _) kR) h1;exact w1.Ea aY gu kR fun σ a' w' e1 tj tl=>z7 cf hc hl k tj tl (hf.next gu e1) kP
  |leave fr j=>obtain⟨rfl,rfl⟩:=aQ (show M.pure (.leave fr j) s2= .ok x s1 from h2);exact wT cf hc hl aY aC hf h1
theorem PH{h:Tr U}{nx:Nat}(hb:Nat.ble nx top=true):aS ⟨h,nx,0,[],[]⟩:=⟨Nat.zero_le _,aK.1 hb⟩
end
end Go.Rn
namespace Go.Rn
open Go.RowKit
structure Start (ae:Nat) (h0:Tr U) (ρ:aj) (w:World):Prop where
 g:eh ρ
 free:∀k,ae<=k->ρ k=none
 is:∀n o,n<top->h0.get n=some o->o.kA=true/\∃b N o',ρ n=some (b,N)/\w.heap[b]? =some o'/\OR ρ N o o'
theorem Start.rel{ae:Nat}{h0:Tr U}{ρ:aj}{w:World}(S:Start ae h0 ρ w)(ht:ae<=top):Rel (Qi w) ρ h0 w:=by
 refine⟨fun n o hn h=>?_,fun n m o p b N M hn hm h1 h2 ct _ _=>?_,fun n m es ex left cur hn h=>?_,fun _ hk=>hk,fun i j m es ex left cur dT fM fB fD hi _ h1 _=>?_,fun n b sh e=>absurd (S.free _<|Nat.le_trans ht<|fI n b sh) e,ov.no (fun n k v hn hg=>by have:=(S.is n _ hn hg).1;cases this) ⟨Nat.le_refl _,fun n o hn hg _=>by obtain⟨_,b,N,o',h1,h2,_⟩:=S.is n o hn hg;exact⟨b,N,h1,fU h2⟩⟩⟩
 ·obtain⟨hr,b,N,o',h1,h2,h3⟩:=S.is n o hn h;have hr:=U.iQ hr;exact⟨b,N,o',h1,h2,h3,fun q=>by rw[hr] at q;cases q⟩
 ·have e1:=U.iQ (S.is n o hn h1).1;have e2:=U.iQ (S.is m p hm h2).1;rcases ct with q|q
  ·rw[e1] at q;cases q
  ·rw[e2] at q;cases q
 ·have:=(S.is n _ hn h).1;cases this
 ·have:=(S.is i _ hi h1).1;cases this
section
variable {P:Program} {B:aH} {ρ:aj} {w:World} {s s1:AS} {U7:aJ}
end
noncomputable section
def vK(ae:Nat):AV->AV->Bool
 | .nilFunc,.nilFunc=>true
 | .func (.func f) [] [],.func (.func g) [] []=>Nat.beq f g
 | .slice none 0 (.known 0),.slice none 0 (.known 0)=>true
 | .ch a b c,.ch d e f=>and (Nat.beq a d)<|and (Nat.beq b e)<|and (Nat.beq c f)<|and (Nat.blt d ae)<|Nat.blt d top
 |x,y=>match sameKey x y with
  |some true=>true
  |_=>false
def xk(ae:Nat)(t u:Tr AV):Nat->Bool
 |0=>true
 |i+1=>match t.get i,u.get i with
  |some a,some b=>and (vK ae a b)<|xk ae t u i
  |_,_=>false
def n8(ae:Nat):U->U->Bool
 | .ro m t,.ro n u=>and (Nat.beq m n)<|xk ae t u n
 | .nf m t,.nf n u=>and (Nat.beq m n)<|xk ae t u n
 |_,_=>false
def gM(ae:Nat)(h0:Tr U):List Nat->M Unit
 |[]=>M.pure ()
 |n::ns=>(a9 n).bind fun o=>aG (h0.get n) fun p=>aB (n8 ae o p) <| gM ae h0 ns
end
theorem U5.gM(ae:Nat)(h0:Tr U):∀ns,U5 (gM ae h0 ns)
 |[]=>U5.pure _
 |n::ns=>U5.bind (U5.a9 n) fun _=>U5.aG fun _ _=>U5.aB fun _=>U5.gM ae h0 ns
theorem Ic{ae:Nat}{ρ:aj}{a b:AV}{v:Value}(h:vK ae a b=true)(hv:VR ρ a v):VR (fun k=>if k<ae then ρ k else none) b v:=by
 unfold vK at h;split at h
 ·simp only[VR] at hv ⊢;exact hv
 ·rename_i f g;have:f=g:=cC.1 h;subst this;simp only[VR,av] at hv ⊢;exact hv
 ·simp only[VR] at hv ⊢;exact hv
 ·obtain⟨q1,q2⟩:=and_true.1 h;obtain⟨q3,q4⟩:=and_true.1 q2;obtain⟨q5,q6⟩:=and_true.1 q4;have e1:=cC.1 q1;have e2:=cC.1 q3;have e3:=cC.1 q5;subst e1;subst e2;subst e3;obtain⟨q6,q7⟩:=and_true.1 q6;have aW:=(blt_eq _ _).mp q6;have cx:=(blt_eq _ _).mp q7;simp only[VR] at hv ⊢;rcases hv with hv|⟨b,sh,c,h1,h2⟩
  ·exact .inl hv
  ·exact .inr ⟨b,sh,c,.inl ⟨by omega,(if_pos aW).trans<|h1.low<|by omega⟩,h2⟩
 ·split at h
  ·rename_i e;have:=sameKey_eq e;subst this;unfold sameKey at e;split at e<;>first|(cases e;done)|(simp only[VR] at hv ⊢;exact hv)
  ·cases h
theorem Cj{ae:Nat}{t u:Tr AV}:∀{n:Nat},xk ae t u n=true->∀i,i<n->∃a b,t.get i=some a/\u.get i=some b/\vK ae a b=true
 |0,_,i,hi=>by omega
 |n+1,h,i,hi=>by
  unfold xk at h;split at h
  ·rename_i a b e1 e2;obtain⟨q1,q2⟩:=and_true.1 h;by_cases q:i=n
   ·subst q;exact⟨a,b,e1,e2,q1⟩
   ·exact Cj q2 i (by omega)
  ·cases h
theorem Hb{v:Value}{ρ:aj}{a:AV}{ae:Nat}{b:AV}(h:vK ae a b=true)(_:VR ρ a v):b.bu=true:=by
 unfold vK at h;split at h
 ·rfl
 ·rfl
 ·rfl
 ·rfl
 ·split at h
  ·rename_i e;have:=sameKey_eq e;subst this;unfold sameKey at e;split at e<;>first|(cases e;done)|rfl
  ·cases h
theorem Nw{ae N:Nat}{ρ:aj}{o p:U}{o':Obj}(h:n8 ae o p=true)(hO:OR ρ N o o'):p.kA=true/\OR (fun k=>if k<ae then ρ k else none) N p o':=by
 unfold n8 at h;split at h
 ·rename_i m t n u;obtain⟨q1,q2⟩:=and_true.1 h;have e1:=cC.1 q1;subst e1;obtain⟨c,e,fr,rfl,h1,h2,row⟩:=hO;refine⟨rfl,c,e,fr,rfl,h1,h2,fun i hi=>?_⟩;obtain⟨x,v,a1,a2,a3,a4⟩:=row i hi;obtain⟨a,b,b1,b2,b3⟩:=Cj q2 i hi;rw[a1] at b1;cases b1;exact⟨b,v,b2,Hb b3 a4,a3,Ic b3 a4⟩
 ·rename_i m t n u;obtain⟨q1,q2⟩:=and_true.1 h;have e1:=cC.1 q1;subst e1;obtain⟨c,e,fr,rfl,row⟩:=hO;refine⟨rfl,c,e,fr,rfl,fun i hi=>?_⟩;obtain⟨x,v,a1,a2,a3,a4⟩:=row i hi;obtain⟨a,b,b1,b2,b3⟩:=Cj q2 i hi;rw[a1] at b1;cases b1;exact⟨b,v,b2,Hb b3 a4,a3,Ic b3 a4⟩
 ·cases h
theorem zC{ae:Nat}{h0:Tr U}:∀{ns:List Nat} {s s1:AS} {u:Unit},gM ae h0 ns s= .ok u s1->s1.h=s.h/\s1.nx=s.nx/\∀n∈ns,n<s.nx/\∃o p,s.h.get n=some o/\h0.get n=some p/\n8 ae o p=true
 |[],s,s1,u,h=>by obtain⟨_,rfl⟩:=aQ (show M.pure () s= .ok u s1 from h);exact⟨rfl,rfl,fun n hn=>by cases hn⟩
 |m::ns,s,s1,u,h=>by
  obtain⟨o,s2,h1,h2⟩:=M.aL (show((a9 m).bind fun o=>aG (h0.get m) fun p=>aB (n8 ae o p) <| gM ae h0 ns) s= .ok u s1 from h);obtain⟨a1,a2,a3,a4⟩:=eS h1;obtain⟨p,h3,h4⟩:=bd h2;obtain⟨h5,h6⟩:=bP h4;obtain⟨b1,b2,b3⟩:=zC h6;refine⟨b1.trans a3,b2.trans a4,fun n hn=>?_⟩;rcases List.mem_cons.1 hn with rfl|hn
  ·exact⟨a1,o,p,a2,h3,h5⟩
  ·obtain⟨c1,q1,q2,c2,c3,c4⟩:=b3 n hn;exact⟨by rw[←a4];exact c1,q1,q2,by rw[←a3];exact c2,c3,c4⟩
end Go.Rn
namespace Go.Rn
open Go.RowKit
section
variable {P:Program} {B:aH} {ρ:aj} {w:World} {s s1:AS} {U7:aJ}
theorem Mm{g:FuncId}{fn:Func}{body:Code}{args:List AV}{vs:Array Value}{fr:AF}{j:Option Code}{s2 s3:AS}{x:AV}(cI:P.funcs[g]? =some fn)(di:fn.body=some body)(rj:aS s2)(hw:∀cs:List Frame,ja P B ρ s s2 w ⟨g,bG args,max fn.ntmps args.length,[.code body],[],none⟩ {(default:Frame) with fn:=g,kind:=.normal,roundOf:=none} cs
 (lone (({(default:Frame) with fn:=g,kind:=.normal,roundOf:=none}:Frame).atR {tmps:=vs++Array.replicate (fn.ntmps - vs.size) undef,defers:=[]} [.code body]) cs w) (.leave fr j))(jy:finish P fn.results.toList fr j s2= .ok x s3):Calls P g vs w fun e w'=>∃v,e= .returned v/\gC B ρ s s3 w x v w':=by
 intro cs;let b:Frame:={(default:Frame) with fn:=g,kind:=.normal,roundOf:=none};let a:Act:={tmps:=vs++Array.replicate (fn.ntmps - vs.size) undef,defers:=[]};have ll:Frame.enter P g vs .normal=b.atR a [.code body]:=by simp[Frame.enter,Frame.atR,cI,di,b,a]
 obtain⟨σ,a',w',e1,e2,e3,e4,⟨e5,tX,Sw⟩,e6,e7,e8⟩:=hw cs;obtain⟨hj,u2,s4,rs,h7,h9,hx⟩:=wM jy;have gW:aS s4:=(U5.jj _).bo rj h7;have jd:Leaves j fr.todo:=e7;obtain⟨d1,d2,w2,d3,d4,d5⟩:=uo (P:=P) (fr:=b) (cs:=cs) rj e2.rel e3 h7;obtain⟨f1,f2,us,f3,f4⟩:=um (P:=P) (w:=w2) e2.tr gW d3 h9;have om:Steps P (lone (b.atR a' fr.todo) cs w')<|lone {b.atR a' fr.todo with mode:=.returning} cs w':=by
  rcases hj with rfl|rfl
  ·have e:fr.todo=[]:=jd;rw[e];exact .one<|stepR_end rfl
  ·obtain⟨k,e⟩:=jd;rw[e];exact .one<|stepR_ret rfl
 have lr:=d5 {b.atR a' fr.todo with mode:=.returning} cs (by simp) rfl;have jU:(results fn a'.tmps).run P w2= .ok (fK us) w2:=by
  unfold results;rw[Array.mapM_eq_mapM_toList];simp only[Sem.run_bind,map_eq_pure_bind,Sem.run_pure];refine Eq.trans (congrArg (fun r:Result (List Value)=>(r.andThen fun a w'=>Result.ok a.toArray w').andThen fun a w'=>Result.ok (if h:a.size=1 then a[0] else Value.tuple a) w') f3) ?_;have:∀l:List Value,(Result.ok (if h:l.toArray.size=1 then l.toArray[0] else Value.tuple l.toArray) w2:Result Value)= .ok (fK l) w2:=by
   intro l
   match l with
   |[]=>rfl
   |[v]=>rfl
   |v::v2::l=>simp[fK]
  exact this us
 refine⟨.returned<|fK us,w2,{b.atR a' fr.todo with mode:=.returning,defers:=[]},⟨_,rfl,?_⟩,?_,rfl,?_⟩
 ·exact⟨σ,by rw[show s3.nx=s2.nx by rw[f2,d1]];exact e1,by rw[hx];exact wV f4,by rw[f1];exact d3,e4.trans d4⟩
 ·rw[ll];exact Steps.trans e8<|Steps.trans om lr
 ·exact⟨rfl,rfl,rfl,fn,cI,jU⟩
end
end Go.Rn
namespace Go.Rn
open Go.RowKit
noncomputable section
end
section
variable {P:Program} {U7:aJ}
end
end Go.Rn
namespace Go.Rn
open Go.RowKit
noncomputable section
def bN.IT:bN->Bool
 | .go _=>false
 | .leave _ _=>true
def ln(P:Program)(U7:aJ)(fr:AF):M bN:=fun s=> @dite (R bN) (∃k,∃x s1,dj P U7 k fr s= .ok x s1/\x.IT=true) (Classical.propDecidable _) (fun h=>dj P U7 h.choose fr s) fun _=>.bad
def o8(P:Program)(f ntmps:Nat)(rs:List ResultVar)(body:Code)(U7:aJ)(args:List AV):M AV:=
 aB (Nat.ble (max ntmps args.length) top) <|
 (ln P U7 ⟨f,bG args,max ntmps args.length,[.code body],[],none⟩).bind fun st=> @bN.rec (fun _=>M AV) (fun _=>fail) (fun fr j=>finish P rs fr j) st
def rM(P:Program)(U7:aJ)(l:Nat)(args:List AV):M AV:=(getLoop l).bind fun o=>match o with
 | .loop _ _ fn t nt ps a b _=>
  aB (and (Nat.beq args.length ps.length)<|ps.all fun p=>Nat.blt p nt) <|
  (ln P U7 ⟨fn,kl ps args t,nt,[.code a,.beginRound,.code b],[],some l⟩).bind fun st=> @bN.rec (fun _=>M AV) (fun _=>fail) (fun _ j=>endRound l j) st
 |_=>fail
abbrev Sp:=FuncId->Option (aJ->List AV->M AV)
def gX(P:Program)(sp:Sp)(f:FuncId):aJ->List AV->M AV:=
 match sp f with
 |some m=>m
 |none=>match P.funcs[f]? with
  |none=>fun _ _=>fail
  |some fn=>match fn.body with
   |none=>fun _ _=>fail
   |some body=>match fn.name == "runtime.NumGoroutine" with
    |true=>fun _ _=>fail
    |false=>o8 P f fn.ntmps fn.results.toList body
def lA(F:Nat->Option (List AV))(n o k:Nat):M AV:=aG (F n) fun l=>aB (Nat.ble (o+k) l.length) <| M.pure<|.agg<|(l.drop o).take k
def br(P:Program)(sp:Sp)(F:Nat->Option (List AV)):Nat->aJ
 |0=>fun t _=>match t with
  | .row n o k=>lA F n o k
  |_=>fail
 |n+1=>fun t args=>match t with
  | .fn f=>gX P sp f (br P sp F n) args
  | .round l=>rM P (br P sp F n) l args
  | .row n o k=>lA F n o k
end
section
variable {P:Program} {B:aH} {ρ:aj} {w:World} {s s1:AS} {U7:aJ} {b:Frame} {a:Act} {cs:List Frame}
theorem HE{k:Nat}{fr:AF}:dj P U7 (k+1) fr s=((gk P U7 fr).bind fun x=> @bN.rec (fun _=>M bN) (dj P U7 k) (fun fr j=>M.pure<|.leave fr j) x) s:=rfl
theorem Aq{k:Nat}{fr aX:AF}(h:gk P U7 fr s= .ok (.go aX) s1):dj P U7 (k+1) fr s=dj P U7 k aX s1:=by rw[HE,M.bg h]
theorem O0{k:Nat}{fr aX:AF}{j:Option Code}(h:gk P U7 fr s= .ok (.leave aX j) s1):dj P U7 (k+1) fr s= .ok (.leave aX j) s1:=by rw[HE,M.bg h];rfl
theorem CF:∀{k k':Nat} {fr aX:AF} {j:Option Code} {s s1:AS},dj P U7 k fr s= .ok (.leave aX j) s1->k<=k'->dj P U7 k' fr s= .ok (.leave aX j) s1
 |0,_,_,_,_,_,_,h,_=>by cases h
 |k+1,0,_,_,_,_,_,_,hk=>by omega
 |k+1,k'+1,fr,aX,j,s,s1,h,hk=>by
  obtain⟨y,s2,h1,h2⟩:=M.aL (show((gk P U7 fr).bind fun x=> @bN.rec (fun _=>M bN) (dj P U7 k) (fun fr j=>M.pure<|.leave fr j) x) s= .ok _ s1 from h);cases y with
  |go lI=>rw[Aq h1];exact CF (show dj P U7 k lI s2=_ from h2) (by omega)
  |leave lI j'=>rw[O0 h1];exact h2
theorem HF{k:Nat}{fr aX:AF}{j:Option Code}(h:dj P U7 k fr s= .ok (.leave aX j) s1):ln P U7 fr s= .ok (.leave aX j) s1:=by
 have hex:∃k,∃x s1,dj P U7 k fr s= .ok x s1/\x.IT=true:=⟨k,_,_,h,rfl⟩;unfold ln;rw[dif_pos hex];obtain⟨x,s2,h1,h2⟩:=hex.choose_spec;cases x with
 |go _=>cases h2
 |leave gr j2=>have e1:=CF h1<|Nat.le_max_left hex.choose k;have e2:=CF h<|Nat.le_max_right hex.choose k;rw[e1] at e2;rw[h1,e2]
theorem Hc{fr:AF}{x:bN}(h:ln P U7 fr s= .ok x s1):∃k aX j,x= .leave aX j/\dj P U7 k fr s= .ok (.leave aX j) s1:=by
 unfold ln at h;split at h
 ·rename_i hex;obtain⟨y,s2,h1,h2⟩:=hex.choose_spec;cases y with
  |go _=>cases h2
  |leave gr j2=>rw[h1] at h;cases h;exact⟨_,gr,j2,rfl,h1⟩
 ·cases h
theorem U5.ln(P:Program){U7:aJ}(hl:∀t a,U5<|U7 t a)(fr:AF):U5<|ln P U7 fr:=by intro s v s1 fi h;obtain⟨k,aX,j,rfl,h1⟩:=Hc h;obtain⟨dr,dw,d,al⟩:=U5.dj P hl k fr s _ s1 fi h1;refine⟨dr,dw,d,fun A m0 t ag hA=>?_⟩;obtain⟨t1,e1,e2⟩:=al A m0 t ag hA;exact⟨t1,HF e1,e2⟩
theorem U5.o8(P:Program)(f n:Nat)(rs:List ResultVar)(body:Code){U7:aJ}(bh:∀t a,U5<|U7 t a)(args:List AV):U5<|o8 P f n rs body U7 args:=
 U5.aB (fun _=>U5.bind (U5.ln P bh _) (fun x=>by
  cases x with
  |go fr=>exact U5.fail
  |leave fr j=>exact U5.finish P rs fr j))
theorem U5.rM(P:Program){U7:aJ}(bh:∀t a,U5<|U7 t a)(l:Nat)(args:List AV):U5<|rM P U7 l args:=by
 unfold Rn.rM;refine U5.bind (U5.getLoop _) fun o=>?_;split
 ·exact U5.aB fun _=>U5.bind (U5.ln P bh _) (fun x=>by
   cases x with
   |go fr=>exact U5.fail
   |leave fr j=>exact U5.endRound l j)
 ·exact U5.fail
structure Be (P:Program) (B:aH) (sp:Sp):Prop where
 loc:∀f m,sp f=some m->∀U7:aJ,(∀t a,U5<|U7 t a)->∀args,U5<|m U7 args
 yZ:∀f m,sp f=some m->∀U7:aJ,dD P B U7->(∀t a,U5<|U7 t a)->∀(args:List AV) (x:AV) (s s1:AS) (ρ:aj) (w:World) (vs:Array Value),aS s->Rel B ρ s.h w->eh ρ->bL s.nx s1.nx ρ->
  m U7 args s= .ok x s1->av ρ args vs.toList->fZ P ((callFunc f vs).run P w) (gC B ρ s s1 w x)
theorem sP{sp:Sp}{f:FuncId}{m:aJ->List AV->M AV}(h:sp f=some m):gX P sp f=m:=by unfold gX;rw[h]
theorem Ie{sp:Sp}{f:FuncId}{fn:Func}{body:Code}(h:sp f=none)(cI:P.funcs[f]? =some fn)(di:fn.body=some body)(eT:(fn.name == "runtime.NumGoroutine")=false):gX P sp f=o8 P f fn.ntmps fn.results.toList body:=by unfold gX;simp only[h,cI,di,eT]
theorem HG(sp:Sp)(f:FuncId):(∃m,sp f=some m/\gX P sp f=m)\/(gX P sp f=fun _ _=>fail)\/(∃fn body,P.funcs[f]? =some fn/\fn.body=some body/\(fn.name == "runtime.NumGoroutine")=false/\gX P sp f=o8 P f fn.ntmps fn.results.toList body):=by
 cases e:sp f with
 |some m=>exact .inl ⟨m,rfl,sP e⟩
 |none=>
  cases e1:P.funcs[f]? with
  |none=>refine .inr<|.inl ?_;unfold gX;simp only[e,e1]
  |some fn=>
   cases e2:fn.body with
   |none=>refine .inr<|.inl ?_;unfold gX;simp only[e,e1,e2]
   |some body=>
    cases e3:(fn.name == "runtime.NumGoroutine") with
    |true=>refine .inr<|.inl ?_;unfold gX;simp only[e,e1,e2,e3]
    |false=>exact .inr<|.inr ⟨fn,body,rfl,e2,e3,Ie e e1 e2 e3⟩
theorem N6(P:Program){sp:Sp}(hs:Be P B sp)(f:FuncId){U7:aJ}(hl:∀t a,U5<|U7 t a)(args:List AV):U5<|gX P sp f U7 args:=by
 rcases HG (P:=P) sp f with⟨m,e1,e2⟩|e|⟨fn,body,e1,e2,e3,e⟩
 ·rw[e2];exact hs.loc f m e1 U7 hl args
 ·rw[e];exact U5.fail
 ·rw[e];exact U5.o8 P _ _ _ _ hl _
theorem U5.lA(F:Nat->Option (List AV))(n o k:Nat):U5<|lA F n o k:=U5.aG fun _ _=>U5.aB fun _=>U5.pure _
theorem uv(P:Program){sp:Sp}(hs:Be P B sp)(F:Nat->Option (List AV)):∀(n:Nat) (t:yC) (args:List AV),U5 (br P sp F n t args)
 |0,.fn _,_=>U5.fail
 |0,.round _,_=>U5.fail
 |0,.row n o k,_=>U5.lA F n o k
 |n+1,.fn f,args=>N6 P hs f (fun t a=>uv P hs F n t a) args
 |n+1,.round l,args=>U5.rM P (fun t a=>uv P hs F n t a) l args
 |_+1,.row n o k,_=>U5.lA F n o k
theorem Jt{ρ:aj}{c:Array Value}:∀{l:List AV} {off:Nat},(∀(i:Nat) (x:AV),l[i]? =some x->∃v,c[off+i]? =some v/\VR ρ x v)->∃vs:List Value,vs.length=l.length/\av ρ l vs/\∀(j:Nat) (v:Value),vs[j]? =some v->c[off+j]? =some v
 |[],off,_=>⟨[],rfl,by simp only[av],fun j v h=>by simp at h⟩
 |x::l,off,h=>by
  obtain⟨v,h1,h2⟩:=h 0 x rfl;obtain⟨vs,g1,g2,g3⟩:=Jt (l:=l) (off:=off+1) (fun i y hy=>by obtain⟨u,k1,k2⟩:=h (i+1) y (by simpa using hy);exact⟨u,by rw[Nat.add_assoc,Nat.add_comm 1 i];exact k1,k2⟩);refine⟨v::vs,by simp[g1],by simp only[av];exact⟨v,vs,rfl,h2,g2⟩,fun j u hj=>?_⟩;cases j with
  |zero=>simp at hj;subst hj;simpa using h1
  |succ j=>have:=g3 j u (by simpa using hj);rw[Nat.add_assoc,Nat.add_comm 1 j] at this;exact this
theorem O1{F:Nat->Option (List AV)}{n o k:Nat}{x:AV}(h:lA F n o k s= .ok x s1):s1=s/\∃l,F n=some l/\o+k<=l.length/\x= .agg ((l.drop o).take k):=by unfold lA at h;obtain⟨l,h1,h2⟩:=bd h;obtain⟨h3,h4⟩:=bP h2;obtain⟨rfl,rfl⟩:=aQ h4;exact⟨rfl,l,h1,aK.1 h3,rfl⟩
theorem Ig{F:Nat->Option (List AV)}(hF:B.F=F){n o k:Nat}{x:AV}(r:Rel B ρ s.h w)(h:lA F n o k s= .ok x s1):
 s1.h=s.h/\s1.nx=s.nx/\∀b sh,ρ (hn n b sh)≠none->∃l vs,x= .agg l/\vs.length=k/\av ρ l vs/\∃c e fr,w.heap[b]? =some (.cells c e fr)/\∀(j:Nat) (v:Value),vs[j]? =some v->c[sh+o+j]? =some v:=by
 obtain⟨rfl,l,h1,h2,rfl⟩:=O1 h;rw[←hF] at h1;refine⟨rfl,rfl,fun b sh hb=>?_⟩;obtain⟨_,l',c,e,fr,g1,g2,_,g4⟩:=r.fz n b sh hb;rw[h1] at g1;cases g1;obtain⟨vs,q1,q2,q3⟩:=Jt (ρ:=ρ) (c:=c) (l:=(l.drop o).take k) (off:=sh+o) (fun i y hy=>by
  have mA:l[o+i]? =some y:=by
   rw[List.getElem?_take] at hy;split at hy
   ·rw[List.getElem?_drop] at hy;exact hy
   ·cases hy
  obtain⟨v,k1,k2,_⟩:=g4 (o+i) y mA;exact⟨v,by rw[Nat.add_assoc];exact k1,VR.mono (DA ρ) _ _ k2⟩)
 refine⟨_,vs,rfl,?_,q2,c,e,fr,g2,q3⟩;rw[q1,List.length_take,List.length_drop];omega
theorem Hd(cf:P.follows .mixedOrders=true)(hc:dD P B U7)(hl:∀t a,U5<|U7 t a){af:AF}{x:bN}(aY:Fr ρ af b a)(aC:At B ρ s af.nt af.tmps w a)(hf:bL s.nx s1.nx ρ)(h:ln P U7 af s= .ok x s1):ja P B ρ s s1 w af b cs (lone (b.atR a af.todo) cs w) x:=by obtain⟨k,aX,j,rfl,h1⟩:=Hc h;exact z7 cf hc hl k aY aC hf h1
theorem N7(cf:P.follows .mixedOrders=true)(hc:dD P B U7)(hl:∀t a,U5<|U7 t a){f:FuncId}{fn:Func}{body:Code}{args:List AV}{vs:Array Value}{x:AV}(cI:P.funcs[f]? =some fn)(di:fn.body=some body)(eT:(fn.name == "runtime.NumGoroutine")=false)(cO:dN body)(fi:aS s)(r:Rel B ρ s.h w)(hg:eh ρ)(hf:bL s.nx s1.nx ρ)(h:o8 P f fn.ntmps fn.results.toList body U7 args s= .ok x s1)(hv:av ρ args vs.toList):fZ P ((callFunc f vs).run P w)<|gC B ρ s s1 w x:=by
 have bh:(callFunc f vs).run P w= .ok (.enter f vs) w:=by
  have nk:(program).run P w= .ok P w:=rfl;have hn:fn.name≠ "runtime.NumGoroutine" :=by simpa using eT
  simp only[callFunc,Sem.run_bind,nk,Result.andThen_ok,cI,eT,di];simp
 rw[bh];unfold o8 at h;obtain⟨h1,h2⟩:=bP h;have jz:=aK.1 h1;obtain⟨y,s2,h3,h4⟩:=M.aL h2;cases y with
 |go fr=>cases h4
 |leave fr j=>have nH:finish P fn.results.toList fr j s2= .ok x s1:=h4;have bU:=(U5.ln P hl ⟨f,bG args,max fn.ntmps args.length,[.code body],[],none⟩).bo fi h3;have yU:=(U5.finish P fn.results.toList fr j).le bU nH;exact Mm cI di bU (fun cs=>Hd (b:={(default:Frame) with fn:=f,kind:=.normal,roundOf:=none}) (a:={tmps:=vs++Array.replicate (fn.ntmps - vs.size) undef,defers:=[]}) cf hc hl ⟨rfl,rfl,trivial,rfl,.cons cO .nil⟩ ⟨wD hv _ jz,r,hg,jz,fi⟩ (hf.sub (Nat.le_refl _) yU) h3) nH
theorem Nx(cf:P.follows .mixedOrders=true)(hc:dD P B U7)(hl:∀t a,U5<|U7 t a){l bl N:Nat}{args:List AV}{vs:Array Value}{x:AV}(fi:aS s)(r:Rel B ρ s.h w)(hg:eh ρ)(hf:bL s.nx s1.nx ρ)(h:rM P U7 l args s= .ok x s1)(hv:av ρ args vs.toList)(tW:ρ l=some (bl,N)):fZ P ((Instr.yield bl vs).run P w)<|gC B ρ s s1 w x:=by
 unfold rM at h;obtain⟨o,s2,h1,h2⟩:=M.aL h;obtain⟨h3,st,dP,fn,t,nt,ps,aa,bb,d,rfl⟩:=uu h1;obtain⟨h4,h5⟩:=bP h2;obtain⟨y,s3,h6,h7⟩:=M.aL h5;obtain⟨q1,q2⟩:=and_true.1 h4;have hlen:=cC.1 q1;have Fj:∀p∈ps,p<nt:=fun p hp=>by have:=List.all_eq_true.1 q2 p hp;rw[←blt_eq];exact this
 obtain⟨hx,gl,hh,bq⟩:=eS h3;have bU:aS s2:=(U5.a9 _).bo fi h3;have aW:l<top:=Nat.lt_of_lt_of_le hx fi.nx;obtain⟨o',hb,hO,hB⟩:=r.block aW gl tW;obtain⟨ta,db,M,rfl,pT,gH,hd,cx⟩:=hO;have DC:(Instr.yield bl vs).run P w= .ok (.round bl fn ((ps.zip vs.toList).foldl (fun tmps (t,a)=>tmps.setIfInBounds t a) ta) aa bb) w:=by
  have gU:¬(vs.size≠ps.toArray.size):=by have:=hv.length;simp at this ⊢;omega
  simp only[Instr.yield,Sem.run_bind,uk hb,Result.andThen_ok,if_neg gU,Sem.run_pure];rw[←Array.foldl_toList];simp
 rw[DC];intro c cs;cases y with
 |go fr=>cases h7
 |leave fr j=>
  have tM:endRound l j s3= .ok x s1:=h7;let b:Frame:={(default:Frame) with fn:=fn,kind:=.normal,roundOf:=some bl};let a:Act:={tmps:=(ps.zip vs.toList).foldl (fun tmps (t,a)=>tmps.setIfInBounds t a) ta,defers:=[]};have fE:=(U5.ln P hl ⟨fn,kl ps args t,nt,[.code aa,.beginRound,.code bb],[],some l⟩).bo bU h6;have yV:=(U5.endRound l j).le fE tM;have aY:Fr ρ ⟨fn,kl ps args t,nt,[.code aa,.beginRound,.code bb],[],some l⟩ b a:=⟨rfl,rfl,⟨N,tW⟩,rfl,.cons cx.assign<|.cons trivial<|.cons cx.body .nil⟩;have aC:At B ρ s2 nt (kl ps args t) w a:=⟨B3 gH pT hv Fj,by rw[hh];exact r,hg,gH,bU⟩;obtain⟨σ,a',w',e1,e2,e3,e4,_,_,e6,e7⟩:=Hd (cs:=c::cs) cf hc hl aY aC (by rw[bq];exact hf.sub (Nat.le_refl _) yV) h6;have eM:Leaves j fr.todo:=e6;obtain⟨f1,rfl,iB,f2,f3,f4⟩:=Gs (P:=P) fE e2.rel (e1.le _ _ tW) eM.code tM;refine⟨.bool j.isNone,iB,⟨σ,by rw[f1, ←bq];exact e1,by simp only[VR],f3,e4.trans f4⟩,?_⟩;have ll:Frame.round bl fn ((ps.zip vs.toList).foldl (fun tmps (t,a)=>tmps.setIfInBounds t a) ta) aa bb .normal=b.atR a [.code aa,.beginRound,.code bb]:=rfl;rw[ll];refine Steps.trans e7<|.one ?_;show step P (lone (b.atR a' fr.todo) (c::cs) w')=_;unfold Leaves at eM;split at eM
  ·rw[eM];exact stepR_round_end rfl rfl f2
  ·obtain⟨k,e⟩:=eM;rw[e];exact stepR_round_ret rfl rfl f2
  ·obtain⟨k,e,e'⟩:=eM;rw[e];exact stepR_round_exit rfl rfl e' f2
  ·obtain⟨k,e,e'⟩:=eM;rw[e];exact stepR_round_goto rfl rfl e' f2
  ·cases eM
theorem HH(hP:du P){sp:Sp}(hs:Be P B sp){F:Nat->Option (List AV)}(hF:B.F=F):∀(n:Nat),dD P B (br P sp F n)
 |0=>⟨(fun f args x s s1 ρ w vs _ _ _ _ h _=>by cases h),(fun l b N args x s s1 ρ w vs _ _ _ _ h _ _=>by cases h),(fun n o k x s s1 ρ w _ r h=>Ig hF r h)⟩
 |n+1=>by
  have ih:=HH hP hs hF n;refine⟨fun f args x s s1 ρ w vs fi r hg hf h hv=>?_,fun l b N args x s s1 ρ w vs fi r hg hf h hv hl=>Nx hP.mixed ih (uv P hs F n) fi r hg hf h hv hl,(fun n o k x s s1 ρ w _ r h=>Ig hF r h)⟩;have h':gX P sp f (br P sp F n) args s= .ok x s1:=h;rcases HG (P:=P) sp f with⟨m,e1,e2⟩|e|⟨fn,body,e1,e2,e3,e⟩
  ·rw[e2] at h';exact hs.yZ f m e1 _ ih (uv P hs F n) args x s s1 ρ w vs fi r hg hf h' hv
  ·rw[e] at h';cases h'
  ·rw[e] at h';exact N7 hP.mixed ih (uv P hs F n) e1 e2 e3 (hP.code f fn body e1 e2) fi r hg hf h' hv
end
end Go.Rn
namespace Go.Rn
open Go.RowKit
def bf(r:Nat->Nat)(x y:AV):Prop:=∀(ρ:aj) (v:Value),VR ρ x v->VR (fun k=>ρ<|r k) y v
def gm(r:Nat->Nat)(x y:U):Prop:=∀(ρ:aj) (N:Nat) (o:Obj),OR ρ N x o->OR (fun k=>ρ<|r k) N y o
def bw(P:Program)(B:aH)(ae:Nat)(Q:Tr AV->List Nat->Option Code->AS->Prop)(fr:AF)(s:AS):Prop:=∀(ρ:aj) (w:World) (b:Frame) (a:Act) (cs:List Frame),Fr ρ fr b a->At B ρ s fr.nt fr.tmps w a->(∀k,s.nx<=k->k<top->ρ k=none)->∃(aX:AF) (j:Option Code) (s1:AS) (σ:aj) (a':Act) (w':World),Q aX.tmps aX.defers j s1/\ae<=s1.nx/\(∀k,k<ae->k<top->σ k=ρ k)/\(∀k x,top<=k->ρ k=some x->σ k=some x)/\(∀k,s1.nx<=k->k<top->σ k=none)/\At B σ s1 fr.nt aX.tmps w' a'/\pv σ aX.defers a'.defers/\bp B w w'/\(aX.fn=fr.fn/\aX.nt=fr.nt/\aX.round=fr.round)/\fx aX.todo/\Leaves j aX.todo/\Steps P (lone (b.atR a fr.todo) cs w) (lone (b.atR a' aX.todo) cs w')
section
variable {P:Program} {B:aH} {ae:Nat} {Q:Tr AV->List Nat->Option Code->AS->Prop} {ρ:aj} {w:World} {s s1 s2:AS} {U7:aJ} {fr aX:AF} {j:Option Code}
theorem bw.chunk(cf:P.follows .mixedOrders=true)(hc:dD P B U7)(hl:∀t a,U5<|U7 t a){k:Nat}(h:dj P U7 k fr s= .ok (.go aX) s1)(h0:ae<=s.nx)(H:bw P B ae Q aX s1):bw P B ae Q fr s:=by intro ρ w b a cs aY aC hf;have gu:=(U5.dj P hl k fr).le aC.bo h;have Fc:=((U5.dj P hl k fr).bo aC.bo h).nx;obtain⟨σ,a1,w1,e1,e2,e3,e4,⟨e5,e6,e7⟩,e8,_,e9⟩:=z7 (b:=b) (cs:=cs) cf hc hl k aY aC (fun k h1 _ h3=>hf k h1 h3) h;have tX:aX.fn=fr.fn:=e5;have eM:aX.nt=fr.nt:=e6;have jd:aX.round=fr.round:=e7;obtain⟨gr,j,s2,τ,a2,w2,q0,qn,q1,Fo,q2,q3,q4,q5,⟨q6,q7,q8⟩,q9,TJ,TK⟩:=H σ w1 b a1 cs ⟨aY.fn.trans tX.symm,aY.kind,by rw[jd];exact aY.round.mono e1.le,e3,e8⟩ (by rw[eM];exact e2) fun k hk ht=>(e1.out k ht<|by omega).trans<|hf k (by omega) ht;exact⟨gr,j,s2,τ,a2,w2,q0,qn,fun k hk eX=>(q1 k hk eX).trans (e1.out k eX<|by omega),fun k x hk hx=>Fo k x hk<|e1.le _ _ hx,q2,by rw[←eM];exact q3,q4,e4.trans q5,⟨q6.trans tX,q7.trans eM,q8.trans jd⟩,q9,TJ,Steps.trans e9 TK⟩
theorem bw.leave(cf:P.follows .mixedOrders=true)(hc:dD P B U7)(hl:∀t a,U5<|U7 t a){k:Nat}(h:dj P U7 k fr s= .ok (.leave aX j) s1)(h0:ae<=s.nx)(hq:Q aX.tmps aX.defers j s1):bw P B ae Q fr s:=by intro ρ w b a cs aY aC hf;have gu:=(U5.dj P hl k fr).le aC.bo h;have Fc:=((U5.dj P hl k fr).bo aC.bo h).nx;obtain⟨σ,a1,w1,e1,e2,e3,e4,⟨e5,e6,e7⟩,e8,TL,e9⟩:=z7 (b:=b) (cs:=cs) cf hc hl k aY aC (fun k h1 _ h3=>hf k h1 h3) h;exact⟨aX,j,s1,σ,a1,w1,hq,Nat.le_trans h0 gu,fun k hk eX=>e1.out k eX (by omega),fun k x _ hx=>e1.le _ _ hx,fun k hk ht=>(e1.out k ht<|by omega).trans<|hf k (by omega) ht,e2,e3,e4,⟨e5,e6,e7⟩,e8,TL,e9⟩
abbrev gD:=List<|Nat×Nat×List AV
def Marks(fz:gD)(ρ iK:aj):Prop:=ρ.le iK/\(∀k,k<top->iK k=ρ k)/\∀p∈fz,∀b N,ρ p.1=some (b,N)->iK (hn p.2.1 b 0)≠none
open Classical in
noncomputable def marks(fz:gD)(ρ:aj):aj:=fun k=>if ρ k=none/\∃p∈fz,∃b N,ρ p.1=some (b,N)/\k=hn p.2.1 b 0 then some (0,0) else ρ k
theorem Ih(fz:gD)(ρ:aj):Marks fz ρ<|marks fz ρ:=by
 refine⟨fun k x e=>?_,fun k hk=>?_,fun p hp b N e=>?_⟩
 ·unfold marks;rw[if_neg (fun q=>by rw[e] at q;cases q.1)];exact e
 ·unfold marks;rw[if_neg (fun⟨_,p,_,b,N,_,q⟩=>by have:=fI p.2.1 b 0;omega)]
 ·unfold marks;by_cases q:ρ (hn p.2.1 b 0)=none
  ·rw[if_pos ⟨q,p,hp,b,N,e,rfl⟩];exact fun h=>by cases h
  ·rw[if_neg fun z=>q z.1];exact q
theorem HI{fz:gD}{ρ:aj}{k:Nat}(h:marks fz ρ k≠none):ρ k≠none\/∃p∈fz,∃b N,ρ p.1=some (b,N)/\k=hn p.2.1 b 0:=by
 unfold marks at h;split at h
 ·rename_i q;exact .inr q.2
 ·exact .inl h
def gQ(fz:gD)(r:Nat->Nat)(x y:AV):Prop:=∀(ρ iK:aj) (v:Value),Marks fz ρ iK->VR ρ x v->VR (fun k=>iK<|r k) y v
def fh(fz:gD)(r:Nat->Nat)(x y:U):Prop:=∀(ρ iK:aj) (N:Nat) (o:Obj),Marks fz ρ iK->OR ρ N x o->OR (fun k=>iK<|r k) N y o
theorem bf.z{fz:gD}{r:Nat->Nat}{x y:AV}(h:bf r x y):gQ fz r x y:=fun ρ iK v m hv=>h iK v<|VR.mono m.1 _ _ hv
theorem gm.z{fz:gD}{r:Nat->Nat}{x y:U}(h:gm r x y):fh fz r x y:=fun ρ iK N o m hv=>h iK N o<|hv.mono m.1
def JX(F:Nat->Option (List AV))(h:Tr U)(p:Nat×Nat×List AV):Prop:=p.1<top/\F p.2.1=some p.2.2/\∃N t z,h.get p.1=some (.cells N t z)/\∀i x,p.2.2[i]? =some x->i<N/\cellAt t z i=some x/\x.bu=true/\∀ρ v,VR ρ x v->VR (eL ρ) x v
def pw(l:List<|AV×AV):Prop:=∀p∈l,∃a b,p=(.int .i64 a,.int .i64 b)
def JY(r:Nat->Nat)(h h2:Tr U)(n:Nat)(o2:U):Prop:=o2.fJ=true\/(r n=n/\h.get n=some o2/\match o2 with
 | .fp=>True
 | .iter m es _ left cur=>r m=m/\h2.get m=some .fp/\pw es/\pw left/\∀x,cur=some x->pw [x]
 |_=>False)
theorem DG{ρ σ:aj}{l:List<|AV×AV}(hl:pw l){p:AV×AV}(hp:p∈l){a b:Value}(h1:VR ρ p.1 a)(h2:VR ρ p.2 b):VR σ p.1 a/\VR σ p.2 b:=by obtain⟨x,y,rfl⟩:=hl p hp;simp only[VR] at h1 h2 ⊢;exact⟨h1,h2⟩
theorem IU{ρ σ:aj}:∀{l:List<|AV×AV} {es:List MapEntry} {i:Nat},pw l->fq ρ l es i->fq σ l es i
 |[],_,_,_,k=>k
 |x::l,_,i,hl,k=>by obtain⟨e,es,r,a,b,c,d⟩:=k;obtain⟨a',b'⟩:=DG hl List.mem_cons_self a b;exact⟨e,es,r,a',b',c,IU (fun p hp=>hl p<|List.mem_cons_of_mem _ hp) d⟩
theorem Dl{ρ σ:aj}:∀{l:List<|AV×AV} {es:List MapEntry},pw l->cH ρ l es->cH σ l es
 |[],_,_,k=>k
 |x::l,_,hl,k=>by obtain⟨e,es,r,a,b,d⟩:=k;obtain⟨a',b'⟩:=DG hl List.mem_cons_self a b;exact⟨e,es,r,a',b',Dl (fun p hp=>hl p<|List.mem_cons_of_mem _ hp) d⟩
theorem N8{ρ σ:aj}{w:World}{n m:Nat}{es left:List<|AV×AV}{ex:Bool}{cur:Option<|AV×AV}(k:jr ρ w n m es ex left cur)(e1:σ n=ρ n)(e2:σ m=ρ m)(q1:pw es)(q2:pw left)(q3:∀x,cur=some x->pw [x]):jr σ w n m es ex left cur:=by
 obtain⟨b,N,bm,M,l,aM,seen,h1,h2,h3,h4,h5,h6,h7,⟨l',h8,TM⟩,h9⟩:=k;refine⟨b,N,bm,M,l,aM,seen,e1.trans h1,e2.trans h2,h3,h4,h5,fun e=>⟨(h6 e).1,IU q1 (h6 e).2⟩,fun e=>⟨(h7 e).1,?_⟩,⟨l',h8,Dl q2 TM⟩,?_⟩
 ·obtain⟨l2,a,b⟩:=(h7 e).2;exact⟨l2,a,Dl q1 b⟩
 ·cases cur with
  |none=>exact h9
  |some x=>obtain⟨e,a,b,c,d⟩:=h9;obtain⟨c',d'⟩:=DG (q3 x rfl) List.mem_cons_self c d;exact⟨e,a,b,c',d'⟩
theorem Rel.SD{B:aH}{ρ:aj}{h h2:Tr U}{w:World}{r:Nat->Nat}(fz:gD)(R:Rel B ρ h w)(tY:∀k,top<=k->r k=k)(hz:∀p∈fz,JX B.F h p)(hh:∀n o2,n<top->h2.get n=some o2->r n<top/\JY r h h2 n o2/\∃o1,h.get (r n)=some o1/\ff o1 o2/\fh fz r o1 o2)(lr:∀p∈fz,∀n o2,n<top->h2.get n=some o2->r n≠p.1)(vM:∀n m o p,n<top->m<top->h2.get n=some o->h2.get m=some p->r n=r m->n=m):Rel B (fun k=>marks fz ρ<|r k) h2 w:=by
 have hm:=Ih fz ρ;refine⟨fun n o hn hg=>?_,fun n m o p b N M hn da hg lK ct e1 e2=>?_,fun n m es ex left cur hn hg=>?_,R.size,fun i j m es ex left cur dT fM fB fD hi mE hg lK=>?_,fun n b sh e=>?_,?_⟩
 ·obtain⟨a1,_,o1,a3,a4,a5⟩:=hh n o hn hg;obtain⟨b,N,o',b1,b2,b3,b4⟩:=R.is (r n) o1 a1 a3;exact⟨b,N,o',(hm.2.1 _ a1).trans b1,b2,a5 ρ _ N o' hm b3,fun q=>b4<|a4.1 q⟩
 ·obtain⟨a1,_,o1,a3,a4,_⟩:=hh n o hn hg;obtain⟨c1,_,p1,c3,c4,_⟩:=hh m p da lK;have e1:marks fz ρ (r n)=some (b,N):=e1;have e2:marks fz ρ (r m)=some (b,M):=e2;rw[hm.2.1 _ a1] at e1;rw[hm.2.1 _ c1] at e2;exact vM n m o p hn da hg lK<|R.one (r n) (r m) o1 p1 b N M a1 c1 a3 c3 (ct.imp a4.1 c4.1) e1 e2
 ·rcases(hh n _ hn hg).2.1 with q|⟨q1,q2,q3,q4,q5,q6,q7⟩
  ·simp[U.fJ] at q
  ·obtain⟨i1,i2,i3⟩:=R.iter n m es ex left cur hn q2;exact⟨i1,q4,N8 i3 (by show marks fz ρ (r n)=_;rw[q1];exact hm.2.1 n hn) (by show marks fz ρ (r m)=_;rw[q3];exact hm.2.1 m i1) q5 q6 q7⟩
 ·rcases(hh i _ hi hg).2.1 with q|⟨_,q2,_⟩
  ·simp[U.fJ] at q
  ·rcases(hh j _ mE lK).2.1 with q'|⟨_,TN,_⟩
   ·simp[U.fJ] at q'
   ·exact R.lone i j m es ex left cur dT fM fB fD hi mE q2 TN
 ·have e:marks fz ρ (r<|hn n b sh)≠none:=e;rw[tY _<|fI _ _ _] at e;have hle:(eL ρ).le<|eL fun k=>marks fz ρ<|r k:=by
   intro k x e;unfold eL at e ⊢;split at e
   ·rename_i q;rw[if_pos q];show marks fz ρ (r k)=some x;rw[tY k q];exact hm.1 _ _ e
   ·cases e
  rcases HI e with e|⟨p,hp,b',N,e1,e2⟩
  ·obtain⟨g0,l,c,e',fr,g1,g3,g4,g5⟩:=R.fz n b sh e;refine⟨g0,l,c,e',fr,g1,g3,fun m o N da hg cn hr=>?_,fun i x hx=>by obtain⟨v,k1,k2,k3⟩:=g5 i x hx;exact⟨v,k1,VR.mono hle _ _ k2,k3⟩⟩;obtain⟨a1,_,o1,a3,a4,_⟩:=hh m o da hg;exact g4 (r m) o1 N a1 a3 (a4.1 cn) (by have hr:marks fz ρ (r m)=_:=hr;rw[hm.2.1 _ a1] at hr;exact hr)
  ·obtain⟨rfl,rfl,rfl⟩:=Dy e2;obtain⟨z1,z2,N0,t,z,z3,z4⟩:=hz p hp;obtain⟨b1,N1,o',k1,k2,k3,k4⟩:=R.is p.1 _ z1 z3;rw[e1] at k1;cases k1;obtain⟨c,et,rfl,_,_,row⟩:=k3;refine⟨.inr<|k4 rfl,p.2.2,c,et,_,z2,k2,fun m o M da hg cn hr=>?_,fun i x hx=>?_⟩
   ·obtain⟨a1,_,o1,a3,a4,_⟩:=hh m o da hg;have hr:marks fz ρ (r m)=_:=hr;rw[hm.2.1 _ a1] at hr;exact lr p hp m o da hg<|R.one (r m) p.1 o1 _ _ _ _ a1 z1 a3 z3 (.inl<|a4.1 cn) hr e1
   ·obtain⟨i1,i2,i3,i4⟩:=z4 i x hx;obtain⟨x',v,j1,j2,j3,j4⟩:=row i i1;rw[i2] at j1;cases j1;exact⟨v,by rw[Nat.zero_add];exact j3,VR.mono hle _ _<|i4 _ _ j4,i3⟩
 ·obtain⟨k0,H,k1,k2⟩:=R.tk;have hle:∀m x,top<=m->ρ m=some x->marks fz ρ (r m)=some x:=fun m x gI e=>by rw[tY m gI];exact hm.1 _ _ e
  have tok:∀n k v,n<top->h2.get n=some (.tok k v)->r n<top/\h.get (r n)=some (.tok k v):=fun n k v hn hg=>by obtain⟨a1,_,o1,a3,a4,_⟩:=hh n _ hn hg;rw[a4.2.1 rfl] at a3;exact⟨a1,a3⟩
  refine⟨⟨k0.1,fun n o hn hg hf=>?_⟩,fun n=>H<|r n,fun n k v hn hg=>?_,fun n m x k v k' v' hn da g1 g2 bS=>?_⟩
  ·obtain⟨a1,_,o1,a3,a4,a5⟩:=hh n o hn hg;obtain⟨b,N,e1,e2⟩:=k0.2 (r n) o1 a1 a3<|a4.2.2 hf;exact⟨b,N,(hm.2.1 _ a1).trans e1,e2⟩
  ·obtain⟨a1,a2⟩:=tok n k v hn hg;obtain⟨b,N,c1,c2,c3,c4⟩:=k1 (r n) k v a1 a2;refine⟨b,N,(hm.2.1 _ a1).trans c1,B.mono c2 hle fun _ _=>rfl,c3,fun x hx=>?_⟩;obtain⟨d1,d2,d3,d4⟩:=c4 x hx;refine⟨d1,d2,fun m o M da lK cn hr=>?_,fun j sh=>?_⟩
   ·obtain⟨e1,_,o1,e3,e4,_⟩:=hh m o da lK;exact d3 (r m) o1 M e1 e3 (e4.1 cn) (by have hr:marks fz ρ (r m)=_:=hr;rw[hm.2.1 _ e1] at hr;exact hr)
   ·show marks fz ρ (r<|Rn.hn j x sh)=none;rw[tY _<|fI _ _ _];refine Classical.byContradiction fun q=>?_;rcases HI q with q|⟨p,hp,b',N',e1,e2⟩
    ·exact q<|d4 j sh
    ·obtain⟨_,rfl,_⟩:=Dy e2;obtain⟨z1,_,N0,t,z,z3,_⟩:=hz p hp;exact d3 p.1 _ N' z1 z3 rfl e1
  ·obtain⟨a1,a2⟩:=tok n k v hn g1;obtain⟨a3,a4⟩:=tok m k' v' da g2;exact k2 (r n) (r m) x k v k' v' a1 a3 a2 a4 fun e=>bS<|vM n m _ _ hn da g1 g2 e
theorem bw.weaken{t2:Tr AV}(fz:gD)(r:Nat->Nat)(h0:∀k,k<ae->r k=k)(h1:∀k,s2.nx<=k->k<top->s.nx<=r k/\r k<top)(tY:∀k,top<=k->r k=k)(hg:gj<=ae)(TO:aS s2)(hd:fr.defers=[])(hr:fr.round=none)(hz:∀p∈fz,JX B.F s.h p)(ht:∀i y,t2.get i=some y->∃x,fr.tmps.get i=some x/\gQ fz r x y)(hh:∀n o2,n<top->s2.h.get n=some o2->r n<top/\JY r s.h s2.h n o2/\∃o1,s.h.get (r n)=some o1/\ff o1 o2/\fh fz r o1 o2)(lr:∀p∈fz,∀n o2,n<top->s2.h.get n=some o2->r n≠p.1)(vM:∀n m o p,n<top->m<top->s2.h.get n=some o->s2.h.get m=some p->r n=r m->n=m)(H:bw P B ae Q {fr with tmps:=t2} s2):bw P B ae Q fr s:=by
 intro ρ w b a cs aY aC hf;have hm:=Ih fz ρ;have jo:xw (fun k=>marks fz ρ<|r k) fr.round b.roundOf:=by
  have:=aY.round;rw[hr] at this ⊢;cases hb:b.roundOf with
  |none=>trivial
  |some l=>rw[hb] at this;cases this
 have Ry:pv (fun k=>marks fz ρ<|r k) fr.defers a.defers:=by have:=aY.defs;rw[hd] at this ⊢;exact this
 have cA:∀k,k<ae->k<top->marks fz ρ (r k)=ρ k:=fun k hk eX=>by rw[h0 k hk];exact hm.2.1 k eX
 have Rz:eh fun k=>marks fz ρ<|r k:=fun g mJ=>by obtain⟨N,e⟩:=aC.g g mJ;exact⟨N,(cA g (Nat.lt_of_lt_of_le mJ hg)<|Nat.lt_of_lt_of_le mJ (by unfold gj top;decide)).trans e⟩
 have pT:TR (fun k=>marks fz ρ<|r k) fr.nt t2 a.tmps:=⟨aC.tr.1,fun i y hy=>by obtain⟨x,e1,e2⟩:=ht i y hy;exact e2 ρ _ _ hm<|aC.tr.2 i x e1⟩;obtain⟨gr,j,s3,τ,a2,w2,q0,qn,q1,Fo,q2,q3,q4,q5,q6,q7,q8,q9⟩:=H (fun k=>marks fz ρ<|r k) w b a cs ⟨aY.fn,aY.kind,jo,Ry,aY.ok⟩ ⟨pT,aC.rel.SD fz tY hz hh lr vM,Rz,aC.nt,TO⟩ fun k hk ht=>(hm.2.1 _ (h1 k hk ht).2).trans<|hf _ (h1 k hk ht).1 (h1 k hk ht).2;exact⟨gr,j,s3,τ,a2,w2,q0,qn,fun k hk eX=>(q1 k hk eX).trans<|cA k hk eX,fun k x hk hx=>Fo k x hk (by show marks fz ρ (r k)=_;rw[tY k hk];exact hm.1 _ _ hx),q2,q3,q4,q5,q6,q7,q8,q9⟩
end
end Go.Rn
namespace Go.Rn
open Go.RowKit
noncomputable section
def cj:List (Nat×AV)->Tr AV
 |[]=>.nil
 |p::l=>(cj l).put p.1<|some p.2
def kD:List (Nat×Option U)->Tr U
 |[]=>.nil
 |p::l=>(kD l).put p.1 p.2
def J(l:List<|Nat×Option U)(nx:Nat):AS:=⟨kD l,nx,0,[],[]⟩
def Ju(P:Program)(f:FuncId):Code:=
 match P.funcs[f]? with
 |none=>.skip
 |some fn=>match fn.body with
  |none=>.skip
  |some c=>c
def aI(P:Program)(f:FuncId)(p:List Nat):Code:=mT p<|Ju P f
def opsOf:Code->Array Oper
 | .region _ ops _=>ops
 |_=> #[]
def ks(P:Program)(U7:aJ)(nt:Nat)(ops:Array Oper)(i n:Nat)(t:Tr AV):M<|Tr AV:=fY P U7 nt ops ((ops.toList.drop i).take n) t
def py(ops:Array Oper)(i:Nat):Option<|Op×Option Tmp×Option (Nat×Bool):=
 match ops[i]? with
 |none=>none
 |some o=>some (o.op,o.dst,o.guard)
end
section
variable {P:Program} {B:aH} {ae:Nat} {Q:Tr AV->List Nat->Option Code->AS->Prop} {ρ:aj} {w:World} {s s1 s2:AS} {U7:aJ} {t t1 t2:Tr AV} {ops:Array Oper} {nt:Nat}
theorem CG{o:Oper}{l:List Oper}:fY P U7 nt ops (o::l) t=(dz P U7 nt ops o t).bind (fY P U7 nt ops l):=rfl
theorem Ii:∀{l1 l2:List Oper} {t t1:Tr AV} {s s1:AS},fY P U7 nt ops l1 t s= .ok t1 s1->fY P U7 nt ops (l1++l2) t s=fY P U7 nt ops l2 t1 s1
 |[],l2,t,t1,s,s1,h=>by cases h;rfl
 |o::l1,l2,t,t1,s,s1,h=>by rw[CG] at h;obtain⟨t',s',h1,h2⟩:=M.aL h;show fY P U7 nt ops (o::(l1++l2)) t s=_;rw[CG,M.bg h1];exact Ii h2
theorem He{i n m:Nat}(h1:ks P U7 nt ops i n t s= .ok t1 s1)(h2:ks P U7 nt ops (i+n) m t1 s1= .ok t2 s2):ks P U7 nt ops i (n+m) t s= .ok t2 s2:=by unfold ks at h1 h2 ⊢;rw[List.take_add,Ii h1,List.drop_drop];exact h2
theorem Hf{i:Nat}{o:Oper}(ho:ops[i]? =some o)(h:dz P U7 nt ops o t s= .ok t1 s1):ks P U7 nt ops i 1 t s= .ok t1 s1:=by
 unfold ks;have:(ops.toList.drop i).take 1=[o]:=by
  have h1:ops.toList[i]? =some o:=by rw[Array.getElem?_toList];exact ho
  obtain⟨hi,e⟩:=List.getElem?_eq_some_iff.1 h1;rw[List.drop_eq_getElem_cons hi,e];rfl
 rw[this,CG,M.bg h];rfl
theorem z8{i:Nat}{op:Op}{d:Option Tmp}{g:Option<|Nat×Bool}(h:py ops i=some (op,d,g)):∃o,ops[i]? =some o/\o.op=op/\o.dst=d/\o.guard=g:=by
 unfold py at h;split at h
 ·cases h
 ·rename_i o e;injection h with h
  injection h with h1 h
  injection h with h2 h3
  exact⟨o,e,h1,h2,h3⟩
theorem TP{i:Nat}{op:Op}{d:Option Tmp}{v:AV}(ho:py ops i=some (op,d,none))(h:(bC P op).val U7 t s= .ok v s1)(hp:eU nt t d v=some t1):ks P U7 nt ops i 1 t s= .ok t1 s1:=by obtain⟨o,e,rfl,rfl,e3⟩:=z8 ho;refine Hf e ?_;unfold dz sW;rw[e3];show mz (bC P o.op) o.dst U7 nt t s=_;unfold mz;rw[M.bg h,hp];rfl
theorem SE{i:Nat}{op:Op}{d:Option Tmp}{g:Nat×Bool}{v:AV}(ho:py ops i=some (op,d,some g))(hk:mX ops t g.1=true)(hw:la ops g t=true)(h:(bC P op).val U7 t s= .ok v s1)(hp:eU nt t d v=some t1):ks P U7 nt ops i 1 t s= .ok t1 s1:=by obtain⟨o,e,rfl,rfl,e3⟩:=z8 ho;refine Hf e ?_;unfold dz sW;rw[e3];show ni ops g (bC P o.op) o.dst U7 nt t s=_;unfold ni;rw[hk,hw,bD];show((bC P o.op).val U7 t).bind (fun v=>lift<|eU nt t o.dst v) s=_;rw[M.bg h,hp];rfl
theorem Hg:∀{l:List<|List AV} {K i:Nat} {c:List AV},(∀c∈l,c.length=K)->l[i]? =some c->(l.flatten.drop<|i*K).take K=c
 |[],_,_,_,_,h=>by simp at h
 |x::l,K,0,c,hl,h=>by simp at h;subst h;have hx:=hl x List.mem_cons_self;rw[Nat.zero_mul,List.drop_zero,List.flatten_cons,List.take_append,hx,Nat.sub_self,List.take_zero,List.append_nil, ←hx,List.take_length]
 |x::l,K,i+1,c,hl,h=>by have hx:=hl x List.mem_cons_self;rw[List.flatten_cons,List.drop_append,hx,show(i+1)*K - K=i*K by rw[Nat.add_mul,Nat.one_mul];omega,List.drop_eq_nil_of_le (by rw[hx,Nat.add_mul,Nat.one_mul];omega),List.nil_append];exact Hg (fun c hc=>hl c<|List.mem_cons_of_mem _ hc) (by simpa using h)
end
end Go.Rn
namespace Go.Rn
open Go.RowKit
section
variable {P:Program} {s s1:AS} {U7:aJ} {t:Tr AV}
theorem PI{op:BinOp}{ty yt:TypeId}{x y:Operand}{k:IntKind}{a b:Int}{r:Bool}(hx:ar t x=some (.int k a))(hy:ar t y=some (.int k b))(hs:lX op=false)(hg:si P op ty x y (.int k a) (.int k b)=true)(hr:qA op k a b=some (.bool r)):
 (bC P<|.binOp op ty x y yt).val U7 t s= .ok (.bool r) s:=by
 show gB P op ty x y U7 t s=_;unfold gB;rw[hx,hy,aO,aO,hg,bD];have:kq P op ty (.int k a) (.int k b)=some (.bool r):=by unfold kq;simp only[hs,decide_true];exact hr
 rw[this];rfl
end
end Go.Rn
namespace Go.Rn
open Go.RowKit
section
variable {P:Program} {B:aH} {ae:Nat} {Q:Tr AV->List Nat->Option Code->AS->Prop} {s s1 s2:AS} {U7:aJ} {t t1 t2:Tr AV} {ops:Array Oper} {nt:Nat}
theorem PJ{op:BinOp}{ty yt:TypeId}{x y:Operand}{k:IntKind}{a b:Int}{r:AV}(hx:ar t x=some (.int k a))(hy:ar t y=some (.int k b))(hs:lX op=false)(hg:si P op ty x y (.int k a) (.int k b)=true)(hr:qA op k a b=some r):
 (bC P<|.binOp op ty x y yt).val U7 t s= .ok r s:=by
 show gB P op ty x y U7 t s=_;unfold gB;rw[hx,hy,aO,aO,hg,bD];have:kq P op ty (.int k a) (.int k b)=some r:=by unfold kq;simp only[hs,decide_true];exact hr
 rw[this];rfl
noncomputable def nu(P:Program)(U7:aJ)(nt:Nat)(ops:Array Oper)(i n:Nat)(t:Tr AV):M<|Tr AV×List bM:=iY P U7 nt ops ((ops.toList.drop i).take n) i t
theorem HJ:∀{l1 l2:List Oper} {i:Nat} {t t1 t2:Tr AV} {m1 m2:List bM} {s s1 s2:AS},iY P U7 nt ops l1 i t s= .ok (t1,m1) s1->iY P U7 nt ops l2 (i+l1.length) t1 s1= .ok (t2,m2) s2->iY P U7 nt ops (l1++l2) i t s= .ok (t2,m1++m2) s2
 |[],l2,i,t,t1,t2,m1,m2,s,s1,s2,h,k=>by cases h;exact k
 |o::l1,l2,i,t,t1,t2,m1,m2,s,s1,s2,h,k=>by
  have h':((alone i<|dz P U7 nt ops o t).bind fun x=>(iY P U7 nt ops l1 (i+1) x.1).bind fun y=>M.pure (y.1,x.2::y.2)) s= .ok (t1,m1) s1:=h;obtain⟨x,sx,e1,e2⟩:=M.aL h';obtain⟨y,sy,e3,e4⟩:=M.aL e2;obtain⟨e5,rfl⟩:=aQ e4;injection e5 with e6 e7
  subst e6;subst e7;have:=HJ (i:=i+1) e3 (by rw[show i+1+l1.length=i+(o::l1).length by simp;omega];exact k);show((alone i<|dz P U7 nt ops o t).bind fun x=>(iY P U7 nt ops (l1++l2) (i+1) x.1).bind fun y=>M.pure (y.1,x.2::y.2)) s=_;rw[M.bg e1,M.bg this];rfl
theorem Ij{i n m N:Nat}{m1 m2:List bM}(hN:ops.size=N)(hi:i+n<=N)(h1:nu P U7 nt ops i n t s= .ok (t1,m1) s1)(h2:nu P U7 nt ops (i+n) m t1 s1= .ok (t2,m2) s2):nu P U7 nt ops i (n+m) t s= .ok (t2,m1++m2) s2:=by unfold nu at h1 h2 ⊢;rw[List.take_add,List.drop_drop];refine HJ h1 ?_;rw[List.length_take,List.length_drop,Array.length_toList,hN,Nat.min_eq_left<|by omega];exact h2
theorem z9:∀{l:List<|Nat×AV} {i:Nat} {y:AV},(∀p∈l,p.1<top)->(cj l).get i=some y->(i,y)∈l
 |[],i,y,_,h=>by have:(Tr.nil:Tr AV).get i=some y:=h;rw[Tr.get_nil] at this;cases this
 |p::l,i,y,hl,h=>by
  have h':((cj l).put p.1<|some p.2).get i=some y:=h;rw[Tr.nU _ _ _ _<|hl p List.mem_cons_self] at h';by_cases e:i=p.1
  ·rw[if_pos e] at h';injection h' with h';subst h';subst e;exact List.mem_cons_self
  ·rw[if_neg e] at h';exact List.mem_cons_of_mem _<|z9 (fun q hq=>hl q<|List.mem_cons_of_mem _ hq) h'
theorem qf:∀{l:List<|Nat×Option U} {i:Nat} {y:U},(∀p∈l,p.1<top)->(kD l).get i=some y->(i,some y)∈l
 |[],i,y,_,h=>by have:(Tr.nil:Tr U).get i=some y:=h;rw[Tr.get_nil] at this;cases this
 |p::l,i,y,hl,h=>by
  have h':((kD l).put p.1 p.2).get i=some y:=h;rw[Tr.nU _ _ _ _<|hl p List.mem_cons_self] at h';by_cases e:i=p.1
  ·rw[if_pos e] at h';have:p=(i,some y):=by rw[e, ←h']
   rw[←this];exact List.mem_cons_self
  ·rw[if_neg e] at h';exact List.mem_cons_of_mem _<|qf (fun q hq=>hl q<|List.mem_cons_of_mem _ hq) h'
theorem bf.same(x:AV):bf (fun k=>k) x x:=fun _ _ h=>h
theorem gm.same(x:U):gm (fun k=>k) x x:=fun _ _ _ h=>h
def pb(t:Tr AV):List (Nat×AV)->Prop
 |[]=>True
 |p::l=>t.get p.1=some p.2/\pb t l
def pz(h:Tr U):List (Nat×Option U)->Prop
 |[]=>True
 |p::l=>(h.get p.1=p.2/\∀o,p.2=some o->o.fJ=true)/\pz h l
theorem pb.mem{t:Tr AV}:∀{l:List<|Nat×AV},pb t l->∀p∈l,t.get p.1=some p.2
 |[],_,p,hp=>by cases hp
 |q::l,h,p,hp=>by
  rcases List.mem_cons.1 hp with rfl|hp
  ·exact h.1
  ·exact pb.mem h.2 p hp
theorem pz.mem{h:Tr U}:∀{l:List<|Nat×Option U},pz h l->∀p∈l,h.get p.1=p.2/\∀o,p.2=some o->o.fJ=true
 |[],_,p,hp=>by cases hp
 |q::l,k,p,hp=>by
  rcases List.mem_cons.1 hp with rfl|hp
  ·exact k.1
  ·exact pz.mem k.2 p hp
def kF{α:Type}(n:Nat):List (Nat×α)->Bool
 |[]=>true
 |p::l=>Nat.blt p.1 n&&kF n l
theorem oU{α:Type}{n:Nat}:∀{l:List<|Nat×α},kF n l=true->∀p∈l,p.1<n
 |[],_,p,hp=>by cases hp
 |q::l,h,p,hp=>by
  obtain⟨h1,h2⟩:=and_true.1 h;rcases List.mem_cons.1 hp with rfl|hp
  ·exact(blt_eq _ _).mp h1
  ·exact oU h2 p hp
theorem bw.less{f:FuncId}{K:List Item}{l:List<|Nat×AV}{o:List<|Nat×Option U}{nx:Nat}(hl:kF top l=true)(ho:kF top o=true)(hn:(Nat.ble s.nx nx&&Nat.ble nx top)=true)(hg:gj<=ae)(ht:pb t l)(hh:pz s.h o)(H:bw P B ae Q ⟨f,cj l,nt,K,[],none⟩<|J o nx):bw P B ae Q ⟨f,t,nt,K,[],none⟩ s:=by
 obtain⟨nB,jZ⟩:=and_true.1 hn;have nB:=aK.1 nB;have jZ:=aK.1 jZ;refine bw.weaken (s2:=J o nx) (t2:=cj l) [] (fun k=>k) (fun _ _=>rfl) (fun k hk ht=>⟨Nat.le_trans nB hk,ht⟩) (fun _ _=>rfl) hg ⟨Nat.zero_le _,jZ⟩ rfl rfl (fun _ h=>by cases h) (fun i y hy=>?_) (fun n o2 hn hg=>?_) (fun _ h=>by cases h) (fun n m _ _ _ _ _ _ e=>e) H
 ·have:=z9 (fun p hp=>oU hl p hp) hy;exact⟨y,ht.mem _ this,(bf.same y).z⟩
 ·have:=qf (fun p hp=>oU ho p hp) hg;obtain⟨h1,h2⟩:=hh.mem _ this;exact⟨hn,.inl<|h2 o2 rfl,o2,h1,ff.refl _,(gm.same o2).z⟩
end
end Go.Rn
namespace Go.Rn
open Go.RowKit
section
variable {P:Program} {s s1:AS} {U7:aJ} {t:Tr AV}
theorem Ck{l z:List AV}(hl:l.length<=top):∀(k off:Nat),off+k<=l.length->fy (Tr.fill l 0 .nil) z k off=some ((l.drop off).take k)
 |0,off,_=>by simp[fy]
 |k+1,off,h=>by
  have aW:off<l.length:=by omega
  have hc:cellAt (Tr.fill l 0 .nil) z off=some l[off]:=by unfold cellAt;rw[Tr.nS _ _ _ _ (by omega),if_pos (by omega),Nat.sub_zero,List.getElem?_eq_getElem aW]
  simp only[fy,hc,Ck hl k (off+1)<|by omega];rw[List.drop_eq_getElem_cons aW,List.take_succ_cons]
noncomputable def aD{α:Type}(enc:α->List AV)(l:List α):U:=.cells (l.map enc).flatten.length (Tr.fill (l.map enc).flatten 0 .nil) []
theorem PK{o:U}(ht:s.nx<top):cZ o s= .ok s.nx {s with h:=s.h.put s.nx<|some o,nx:=s.nx+1}:=by
 obtain⟨hh,nx,mark,rd,wr⟩:=s;have e1:Nat.blt nx top=true:=by rw[blt_eq];exact ht
 show @Bool.rec (fun _=>R Nat) .bad (forced nx fun m=>.ok m ⟨hh.put m<|some o,m+1,mark,rd,wr⟩) (Nat.blt nx top)=_;rw[e1,qc]
theorem wW{l:List AV}(hl:l.length<=top)(h1:l.all AV.bu=true)(ht:s.nx<top):newRow l s= .ok s.nx {s with h:=s.h.put s.nx<|some<|.cells l.length (Tr.fill l 0 .nil) [],nx:=s.nx+1}:=by unfold newRow;rw[show(and (Nat.ble l.length top)<|l.all AV.bu)=true from and_true.2 ⟨aK.2 hl,h1⟩,bD];exact PK ht
end
end Go.Rn
namespace Go.Rn
open Go.RowKit
end Go.Rn
namespace Go.Rn
open Go.RowKit
noncomputable section
def cU(m:List<|Int×Int):List<|AV×AV:=m.map fun p=>(.int .i64 p.1,.int .i64 p.2)
def pC(m:List<|Int×Int):U:=.map (cU m) m.length
end
def getM:List (Int×Int)->Int->Int
 |[],_=>0
 |p::l,k=>if p.1=k then p.2 else getM l k
def jA:List (Int×Int)->Int->Int->List (Int×Int)
 |[],k,v=>[(k,v)]
 |p::l,k,v=>if p.1=k then(k,v)::l else p::jA l k v
section
variable {P:Program} {s s1:AS} {U7:aJ} {t:Tr AV}
theorem Ik(a b:Int):sameKey (.int .i64 a) (.int .i64 b)=some (a == b):=rfl
theorem Aa(k:Int):∀(m:List<|Int×Int) (i:Nat),(dW (.int .i64 k) (cU m) i=some none/\getM m k=0/\∀v,jA m k v=m++[(k,v)])\/
 ∃j y,dW (.int .i64 k) (cU m) i=some (some (i+j,.int .i64 y))/\getM m k=y/\m[j]? =some (k,y)/\∀v,putAt (cU m) j (.int .i64 k) (.int .i64 v)=cU (jA m k v)/\(jA m k v).length=m.length
 |[],i=>.inl ⟨rfl,rfl,fun _=>rfl⟩
 |p::l,i=>by
  have hf:dW (.int .i64 k) (cU<|p::l) i=(match some (k == p.1) with|none=>none|some true=>some (some (i,.int .i64 p.2))|some false=>dW (.int .i64 k) (cU l)<|i+1):=rfl;by_cases e:p.1=k
  ·refine .inr ⟨0,p.2,?_,?_,?_,fun v=>⟨?_,?_⟩⟩
   ·rw[hf,show(k == p.1)=true by simp[e]];rfl
   ·simp[getM,e]
   ·simp[←e]
   ·simp[jA,e,cU,putAt]
   ·simp[jA,e]
  ·have bS:(k == p.1)=false:=by simp;exact fun q=>e q.symm
   rcases Aa k l (i+1) with⟨h1,h2,h3⟩|⟨j,y,h1,h2,h3,h4⟩
   ·refine .inl ⟨?_,?_,fun v=>?_⟩
    ·rw[hf,bS];exact h1
    ·simp[getM,e,h2]
    ·simp[jA,e,h3 v]
   ·refine .inr ⟨j+1,y,?_,?_,?_,fun v=>⟨?_,?_⟩⟩
    ·rw[hf,bS];show dW _ _ _=_;rw[h1];congr 3;omega
    ·simp[getM,e,h2]
    ·simpa using h3
    ·have:=(h4 v).1;simp only[jA,e,if_false];show(_:AV×AV)::putAt (cU l) j _ _=_::cU (jA l k v);rw[this]
    ·simp[jA,e,(h4 v).2]
end
end Go.Rn
namespace Go.Rn
open Go.RowKit
section
variable {r:Nat->Nat}
theorem bf.int(k:IntKind)(n:Int):bf r (.int k n)<|.int k n:=fun _ _ h=>h
theorem bf.bool(b:Bool):bf r (.bool b)<|.bool b:=fun _ _ h=>h
theorem bf.Ab:bf r (.slice none 0<|.known 0)<|.slice none 0<|.known 0:=fun _ _ h=>h
theorem bf.ptr{n m o:Nat}(e:r m=n):bf r (.ptr<|some (n,o))<|.ptr<|some (m,o):=by intro ρ v h;simp only[VR] at h ⊢;rw[e];exact h
theorem bf.map{n m:Nat}(e:r m=n):bf r (.map<|some n)<|.map<|some m:=by intro ρ v h;simp only[VR] at h ⊢;rw[e];exact h
theorem bf.slice{n m o len:Nat}{c:aZ}(e:r m=n):bf r (.slice (some (n,o)) len c)<|.slice (some (m,o)) len c:=by intro ρ v h;cases c<;>simp only[VR] at h ⊢ <;>rw[e]<;>exact h
theorem bf.ch{n o len:Nat}(e:r n=n)(hr:∀k,top<=k->r k=k):bf r (.ch n o len)<|.ch n o len:=by intro ρ v h;simp only[VR] at h ⊢;refine h.imp id fun⟨b,sh,c,h1,h2⟩=>⟨b,sh,c,h1.imp (fun q=>⟨q.1,(congrArg ρ e).trans q.2⟩) fun q=>⟨q.1,fun z=>q.2<|(congrArg ρ<|hr _<|fI _ _ _).symm.trans z⟩,h2⟩
def AV.flat:AV->Bool
 | .bool _| .int _ _| .str _| .ph _=>true
 | .ptr none| .map none| .nilFunc| .nilIface=>true
 | .slice none _ (.known _)=>true
 |_=>false
theorem bf.flat{x:AV}(h:x.flat=true):bf r x x:=by
 intro ρ v k;cases x<;>first|exact k|skip
 case slice a len cap=>cases a with
  |some _=>cases h
  |none=>cases cap with
   |known c=>simp only[VR] at k ⊢;exact k
   |aU _ _=>cases h
   |lost=>cases h
 all_goals first|(cases h;done)|skip
 all_goals
  rename_i a;cases a with
  |none=>exact k
  |some _=>cases h
def lu(r:Nat->Nat):List AV->List AV->Prop
 |[],[]=>True
 |x::l,y::m=>bf r x y/\lu r l m
 |_,_=>False
theorem lu.length:∀{l m:List AV},lu r l m->l.length=m.length
 |[],[],_=>rfl
 |_::_,_::_,h=>by simp[lu.length h.2]
 |[],_::_,h=>by cases h
 |_::_,[],h=>by cases h
theorem lu.I:∀{l m:List AV} {i:Nat} {x y:AV},lu r l m->l[i]? =some x->m[i]? =some y->bf r x y
 |x::l,y::m,0,a,b,h,h1,h2=>by simp at h1 h2;subst h1;subst h2;exact h.1
 |x::l,y::m,i+1,a,b,h,h1,h2=>lu.I h.2 (by simpa using h1) (by simpa using h2)
 |[],[],_,_,_,_,h1,_=>by simp at h1
 |_::_,[],_,_,_,h,_,_=>by cases h
 |[],_::_,_,_,_,h,_,_=>by cases h
theorem lu.flat:∀{l:List AV},l.all AV.flat=true->lu r l l
 |[],_=>trivial
 |x::l,h=>by obtain⟨h1,h2⟩:=and_true.1 (show(x.flat&&l.all AV.flat)=true from h);exact⟨bf.flat h1,lu.flat h2⟩
theorem gm.cells{l m:List AV}(hl:l.length<=top)(h:lu r l m)(h1:m.all AV.bu=true):gm r (.cells l.length (Tr.fill l 0 .nil) [])<|.cells m.length (Tr.fill m 0 .nil) []:=by
 have hlen:=h.length;intro ρ N o k;obtain⟨c,e,rfl,k1,k2,k3⟩:=k;refine⟨c,e,rfl,k1,by omega,fun i hi=>?_⟩;obtain⟨x,v,a1,a2,a3,a4⟩:=k3 i (by omega);have hx:l[i]? =some x:=by unfold cellAt at a1;rw[Tr.nS _ _ _ _ (by omega),if_pos (by omega),Nat.sub_zero,List.getElem?_eq_getElem<|by omega] at a1;rw[List.getElem?_eq_getElem<|by omega];exact a1
 have hy:m[i]? =some m[i]:=List.getElem?_eq_getElem hi;refine⟨m[i],v,?_,?_,a3,h.I hx hy ρ v a4⟩
 ·unfold cellAt;rw[Tr.nS _ _ _ _ (by omega),if_pos (by omega),Nat.sub_zero,hy]
 ·exact List.all_eq_true.1 h1 _<|List.getElem_mem hi
theorem gm.aD{α:Type}{enc:α->List AV}{l:List α}(he:∀x,(enc x).all AV.flat=true/\(enc x).all AV.bu=true)(hl:(l.map enc).flatten.length<=top):gm r (aD enc l)<|aD enc l:=by
 have hf:∀(p:AV->Bool),(∀x,(enc x).all p=true)->∀l:List α,(l.map enc).flatten.all p=true:=by
  intro p hp l;induction l with
  |nil=>rfl
  |cons x l ih=>simp only[List.map_cons,List.flatten_cons,List.all_append,ih,hp x,Bool.and_true]
 exact gm.cells hl (lu.flat<|hf _ (fun x=>(he x).1) l)<|hf _ (fun x=>(he x).2) l
def RA(r:Nat->Nat)(h:Tr U):List (Nat×U)->Prop
 |[]=>True
 |p::l=>(p.2.plain=true/\∃x,h.get (r p.1)=some x/\(x.bQ=p.2.bQ/\x.kA=p.2.kA)/\gm r x p.2)/\RA r h l
def pc:List (Nat×U)->List (Nat×Option U)
 |[]=>[]
 |p::l=>(p.1,some p.2)::pc l
theorem HK:∀{l:List<|Nat×U} {i:Nat} {y:U},(i,some y)∈pc l->(i,y)∈l
 |p::l,i,y,h=>by
  rcases List.mem_cons.1 h with h|h
  ·injection h with h1 h2
   injection h2 with h2
   have:p=(i,y):=by rw[h1,h2]
   rw[←this];exact List.mem_cons_self
  ·exact List.mem_cons_of_mem _<|HK h
variable {P:Program} {B:aH} {Q:Tr AV->List Nat->Option Code->AS->Prop} {s:AS} {t:Tr AV} {nt:Nat}
end
end Go.Rn
namespace Go.Rn
end Go.Rn
namespace Go.Rn
open Go.RowKit
noncomputable section
def fieldsOf(P:Program)(ty:TypeId):List Field:=
 match P.underlying ty with
 |some (.struct fs)=>fs.toList
 |_=>[]
def xc(P:Program)(ty:TypeId):Bool:=
 match P.underlying ty with
 |some (.struct _)=>true
 |_=>false
def sC(P:Program)(xs ys:List AV):List Field->Option (List<|Int×Int)
 |[]=>some []
 |f::l=>match f.name == "_" with
  |true=>none
  |false=>match P.underlying f.type,js P f.type xs f.offset,js P f.type ys f.offset with
   |some (.int _),some (.int k a),some (.int k' b)=>match decide (k=k') with
    |true=>match sC P xs ys l with
     |some r=>some<|(a,b)::r
     |none=>none
    |false=>none
   |_,_,_=>none
def allEq(l:List<|Int×Int):Bool:=l.all fun p=>p.1 == p.2
end
section
variable {P:Program} {s s1:AS} {U7:aJ} {t:Tr AV}
theorem PL{d:Nat}{ty:TypeId}{k i:IntKind}{a b:Int}(hu:P.underlying ty=some (.int i)):gS P (d+1) ty (.int k a) (.int k b)=some (a == b):=by unfold gS;rw[hu];simp only[decide_true]
theorem Gb{d:Nat}{xs ys:List AV}:∀{fs:List Field} {l:List<|Int×Int},sC P xs ys fs=some l->eqFields P (gS P<|d+1) xs ys fs=some (allEq l)
 |[],l,h=>by cases h;rfl
 |f::fs,l,h=>by
  unfold sC at h;split at h
  ·cases h
  ·rename_i hn;split at h
   ·rename_i i k a k' b hu hx hy;split at h
    ·rename_i hk;have fu:k=k':=of_decide_eq_true hk;subst fu;split at h
     ·rename_i r hr;cases h;unfold eqFields;simp only[hn,hx,hy,PL hu];cases q:a == b with
      |false=>simp only[allEq,List.all_cons,q,Bool.false_and]
      |true=>simp only[allEq,List.all_cons,q,Bool.true_and];exact Gb hr
     ·cases h
    ·cases h
   ·cases h
theorem IV{d:Nat}{ty:TypeId}{xs ys:List AV}{l:List<|Int×Int}(hu:xc P ty=true)(hs:P.stoodInHeld ty=false)(h:sC P xs ys (fieldsOf P ty)=some l):gS P (d+2) ty (.agg xs) (.agg ys)=some (allEq l):=by
 unfold xc at hu;split at hu
 ·rename_i fs e;unfold fieldsOf at h;rw[e] at h;unfold gS;rw[e];simp only[hs];exact Gb h
 ·cases hu
theorem PM{ty yt:TypeId}{x y:Operand}{xs ys:List AV}{l:List<|Int×Int}{b:Bool}(hx:ar t x=some (.agg xs))(hy:ar t y=some (.agg ys))(hg:si P .neq ty x y (.agg xs) (.agg ys)=true)(hu:xc P ty=true)(hs:P.stoodInHeld ty=false)(h:sC P xs ys (fieldsOf P ty)=some l)(hb:allEq l=b):
 (bC P<|.binOp .neq ty x y yt).val U7 t s= .ok (.bool<|!b) s:=by
 show gB P .neq ty x y U7 t s=_;unfold gB;rw[hx,hy,aO,aO,hg,bD];have:kq P .neq ty (.agg xs) (.agg ys)=some (.bool<|!b):=by unfold kq;simp only;have e:=IV (d:=Op.maxDepth - 2) hu hs h;rw[show Op.maxDepth - 2+2=Op.maxDepth from rfl] at e;rw[e,hb]
 rw[this];rfl
theorem PN{ty yt:TypeId}{x y:Operand}{xs ys:List AV}{l:List<|Int×Int}{b:Bool}(hx:ar t x=some (.agg xs))(hy:ar t y=some (.agg ys))(hg:si P .eql ty x y (.agg xs) (.agg ys)=true)(hu:xc P ty=true)(hs:P.stoodInHeld ty=false)(h:sC P xs ys (fieldsOf P ty)=some l)(hb:allEq l=b):
 (bC P<|.binOp .eql ty x y yt).val U7 t s= .ok (.bool b) s:=by
 show gB P .eql ty x y U7 t s=_;unfold gB;rw[hx,hy,aO,aO,hg,bD];have:kq P .eql ty (.agg xs) (.agg ys)=some (.bool b):=by unfold kq;simp only;have e:=IV (d:=Op.maxDepth - 2) hu hs h;rw[show Op.maxDepth - 2+2=Op.maxDepth from rfl] at e;rw[e,hb]
 rw[this];rfl
end
end Go.Rn
namespace Go.Rn
open Go.RowKit
noncomputable section
def Fin(P:Program)(rs:List ResultVar)(R:AV->AS->Prop):Tr AV->List Nat->Option Code->AS->Prop:=fun t d j s=>∃x s3,finish P rs ⟨0,t,0,[],d,none⟩ j s= .ok x s3/\R x s3
end
section
variable {P:Program} {B:aH} {ρ:aj} {w:World} {s s1:AS} {U7:aJ}
theorem zU(rs:List ResultVar)(fr:AF)(j:Option Code):finish P rs fr j=finish P rs ⟨0,fr.tmps,0,[],fr.defers,none⟩ j:=rfl
theorem bw.calls(hP:du P){g:FuncId}{fn:Func}{body:Code}{args:List AV}{vs:Array Value}{R:AV->AS->Prop}(cI:P.funcs[g]? =some fn)(di:fn.body=some body)(jz:max fn.ntmps args.length<=top)(H:bw P B s.nx (Fin P fn.results.toList R) ⟨g,bG args,max fn.ntmps args.length,[.code body],[],none⟩ s)(fi:aS s)(r:Rel B ρ s.h w)(hg:eh ρ)(hf:∀k,s.nx<=k->k<top->ρ k=none)(hv:av ρ args vs.toList):
 Calls P g vs w fun e w'=>∃v x s3,e= .returned v/\R x s3/\s.nx<=s3.nx/\aS s3/\gC B ρ s s3 w x v w':=by
 intro cs;let b:Frame:={(default:Frame) with fn:=g,kind:=.normal,roundOf:=none};let a:Act:={tmps:=vs++Array.replicate (fn.ntmps - vs.size) undef,defers:=[]};have ll:Frame.enter P g vs .normal=b.atR a [.code body]:=by simp[Frame.enter,Frame.atR,cI,di,b,a]
 have aY:Fr ρ ⟨g,bG args,max fn.ntmps args.length,[.code body],[],none⟩ b a:=⟨rfl,rfl,trivial,rfl,.cons (hP.code g fn body cI di) .nil⟩;have aC:At B ρ s (max fn.ntmps args.length) (bG args) w a:=⟨wD hv _ jz,r,hg,jz,fi⟩;obtain⟨fr,j,s2,σ,a',w',⟨x,s3,jy,hR⟩,en,e0,Fp,e1,e2,e3,e4,e5,e6,e7,e8⟩:=H ρ w b a cs aY aC hf;have Ec:finish P fn.results.toList fr j s2= .ok x s3:=by rw[zU];exact jy
 have rj:aS s2:=e2.bo;have SF:Ext s.nx s2.nx ρ σ:=by
  refine⟨fun k y hk=>?_,fun k eX hk=>?_⟩
  ·by_cases qt:k<top
   ·by_cases q:s.nx<=k
    ·rw[hf k q qt] at hk;cases hk
    ·rw[e0 k (by omega) qt];exact hk
   ·exact Fp k y (by omega) hk
  ·by_cases q:k<s.nx
   ·exact e0 k q eX
   ·rw[e1 k (by omega) eX,hf k (by omega) eX]
 obtain⟨hj,u2,s4,rs,h7,h9,hx⟩:=wM Ec;have gW:aS s4:=(U5.jj _).bo rj h7;have jd:Leaves j fr.todo:=e7;obtain⟨d1,d2,w2,d3,d4,d5⟩:=uo (P:=P) (fr:=b) (cs:=cs) rj e2.rel e3 h7;obtain⟨f1,f2,us,f3,f4⟩:=um (P:=P) (w:=w2) e2.tr gW d3 h9;have fE:aS s3:=(U5.kW P fr.tmps _).bo gW h9;have om:Steps P (lone (b.atR a' fr.todo) cs w')<|lone {b.atR a' fr.todo with mode:=.returning} cs w':=by
  rcases hj with rfl|rfl
  ·have e:fr.todo=[]:=jd;rw[e];exact .one<|stepR_end rfl
  ·obtain⟨k,e⟩:=jd;rw[e];exact .one<|stepR_ret rfl
 have lr:=d5 {b.atR a' fr.todo with mode:=.returning} cs (by simp) rfl;have jU:(results fn a'.tmps).run P w2= .ok (fK us) w2:=by
  unfold results;rw[Array.mapM_eq_mapM_toList];simp only[Sem.run_bind,map_eq_pure_bind,Sem.run_pure];refine Eq.trans (congrArg (fun r:Result (List Value)=>(r.andThen fun a w'=>Result.ok a.toArray w').andThen fun a w'=>Result.ok (if h:a.size=1 then a[0] else Value.tuple a) w') f3) ?_;have:∀l:List Value,(Result.ok (if h:l.toArray.size=1 then l.toArray[0] else Value.tuple l.toArray) w2:Result Value)= .ok (fK l) w2:=by
   intro l
   match l with
   |[]=>rfl
   |[v]=>rfl
   |v::v2::l=>simp[fK]
  exact this us
 have Lh:s3.nx=s2.nx:=by rw[f2,d1]
 have hle:s.nx<=s3.nx:=by rw[Lh];exact en
 refine⟨.returned<|fK us,w2,{b.atR a' fr.todo with mode:=.returning,defers:=[]},⟨_,x,s3,rfl,hR,hle,fE,?_⟩,?_,rfl,?_⟩
 ·exact⟨σ,by rw[Lh];exact SF,by rw[hx];exact wV f4,by rw[f1];exact d3,e4.trans d4⟩
 ·rw[ll];exact Steps.trans e8<|Steps.trans om lr
 ·exact⟨rfl,rfl,rfl,fn,cI,jU⟩
end
end Go.Rn
namespace Go.Rn
variable {P:Program} {U7:aJ} {nt:Nat} {ops:Array Oper} {t t1:Tr AV}
theorem B9{P:Program}{w:World}{f:FuncId}{fn:Func}{body:Code}{vs:Array Value}(cI:P.funcs[f]? =some fn)(di:fn.body=some body)(eT:(fn.name == "runtime.NumGoroutine")=false):(callFunc f vs).run P w= .ok (.enter f vs) w:=by
 have nk:(program).run P w= .ok P w:=rfl;have hn:fn.name≠ "runtime.NumGoroutine" :=by simpa using eT
 simp only[callFunc,Sem.run_bind,nk,Result.andThen_ok,cI,eT,di];simp
theorem uw{K:Nat}:∀{l:List<|List AV},(∀c∈l,c.length=K)->l.flatten.length=l.length*K
 |[],_=>by simp
 |c::l,h=>by rw[List.flatten_cons,List.length_append,h c List.mem_cons_self,uw fun c' h'=>h c'<|List.mem_cons_of_mem _ h',List.length_cons,Nat.add_mul,Nat.one_mul];omega
theorem Qu{s:AS}{ty yt:TypeId}{x y:Operand}{k:IntKind}{a b c:Int}(hx:ar t x=some (.int k a))(hy:ar t y=some (.int k b))(h0:b≠0)(h:a.tmod b=c):(bC P<|.binOp .rem ty x y yt).val U7 t s= .ok (.int k c) s:=PJ hx hy rfl rfl (by subst h;simp only[qA,decide_eq_false h0])
end Go.Rn
namespace Go.Rn
open Go.RowKit
section
variable {P:Program} {U7:aJ} {nt:Nat} {ops:Array Oper} {t t1:Tr AV}
end
noncomputable section
end
end Go.Rn
namespace Go.Rn
open Go.RowKit
noncomputable section
instance:Inhabited<|Tr AV:=⟨.nil⟩
def Chunk(P:Program)(U7:aJ)(G:AF->AS->Prop):Prop:=∀(k:Nat) (fr aX:AF) (s s1:AS),dj P U7 k fr s= .ok (.go aX) s1->G aX s1->G fr s
def Ev(P:Program)(U7:aJ)(R:AF->Option Code->AS->Prop)(fr:AF)(s:AS):Prop:=∃k aX j s1,dj P U7 k fr s= .ok (.leave aX j) s1/\R aX j s1
def tm(P:Program)(B:aH)(ae:Nat)(Q:Tr AV->List Nat->Option Code->AS->Prop)(fr:AF)(s:AS):Prop:=ae<=s.nx->bw P B ae Q fr s
def pD(P:Program)(U7:aJ)(G:AF->AS->Prop)(f nt:Nat)(K:List Item)(ops:Array Oper)(i:Nat)(t:Tr AV)(s:AS):Prop:=∃t1 s1,ks P U7 nt ops i (ops.size - i) t s= .ok t1 s1/\G ⟨f,t1,nt,K,[],none⟩ s1
def kG(P:Program)(U7:aJ)(G:AF->AS->Prop)(f nt:Nat)(K:List Item)(ops:Array Oper)(acc:List bM)(i:Nat)(t:Tr AV)(s:AS):Prop:=∃t1 ms s1,nu P U7 nt ops i (ops.size - i) t s= .ok (t1,ms) s1/\lp (Region.before ops) (acc++ms) (acc++ms)=true/\G ⟨f,t1,nt,K,[],none⟩ s1
def yg:Tr U->List (Nat×Option U)->Tr U
 |t,[]=>t
 |t,p::l=>yg (t.put p.1 p.2) l
def AH(s:AS):AS:=⟨s.h,s.nx,s.nx,[],[]⟩
def pd(s s1:AS):AS:=⟨s1.h,s1.nx,s.mark,below s.mark s1.rd++s.rd,below s.mark s1.wr++s.wr⟩
def yh(i:Nat)(s s1:AS):bM:=⟨i,below s.nx s1.rd,below s.nx s1.wr,s.nx,s1.nx⟩
end
section
variable {P:Program} {B:aH} {ae:Nat} {Q:Tr AV->List Nat->Option Code->AS->Prop} {s s1:AS} {U7:aJ} {t:Tr AV} {ops:Array Oper} {f nt i:Nat} {K:List Item} {G:AF->AS->Prop} {acc:List bM}
theorem Chunk.yZ(cf:P.follows .mixedOrders=true)(hc:dD P B U7)(hl:∀t a,U5<|U7 t a):Chunk P U7<|tm P B ae Q:=by intro k fr aX s s1 h H h0 ρ w b a cs aY aC hf;have le:=(U5.dj P hl k fr).le aC.bo h;exact bw.chunk cf hc hl h h0 (H<|Nat.le_trans h0 le) ρ w b a cs aY aC hf
theorem HL:∀{k m:Nat} {fr aX:AF} {s s1:AS},dj P U7 k fr s= .ok (.go aX) s1->dj P U7 (k+m) fr s=dj P U7 m aX s1
 |0,m,fr,aX,s,s1,h=>by cases h;rw[Nat.zero_add]
 |k+1,m,fr,aX,s,s1,h=>by
  obtain⟨y,s2,h1,h2⟩:=M.aL (show((gk P U7 fr).bind fun x=> @bN.rec (fun _=>M bN) (dj P U7 k) (fun fr j=>M.pure<|.leave fr j) x) s= .ok _ s1 from h);cases y with
  |go lI=>rw[show k+1+m=(k+m)+1 by omega,Aq h1];exact HL h2
  |leave lI j'=>cases h2
theorem Chunk.ev{R:AF->Option Code->AS->Prop}:Chunk P U7<|Ev P U7 R:=by intro k fr aX s s1 h ⟨m,gr,j,s2,h1,h2⟩;exact⟨k+m,gr,j,s2,by rw[HL h];exact h1,h2⟩
theorem Chunk.rf(hG:Chunk P U7 G){c:Code}{id:Nat}(vt:c= .region id (opsOf c) false)(H:pD P U7 G f nt K (opsOf c) 0 t s):G ⟨f,t,nt,.code c::K,[],none⟩ s:=by
 obtain⟨t1,s1,h,H⟩:=H;refine hG 1 _ _ _ s1 (Aq ?_) H;have ht:((opsOf c).toList.drop 0).take ((opsOf c).size - 0)=(opsOf c).toList:=by rw[List.drop_zero,Nat.sub_zero, ←Array.length_toList,List.take_length]
 unfold ks at h;rw[ht] at h;rw[vt];show((fY P U7 nt (opsOf c) (opsOf c).toList t).bind fun t=>M.pure<|bN.go ⟨f,t,nt,K,[],none⟩) s=_;rw[M.bg h];rfl
theorem Chunk.SG(hG:Chunk P U7 G){c:Code}{id:Nat}(vt:c= .region id (opsOf c) true)(H:kG P U7 G f nt K (opsOf c) [] 0 t s):G ⟨f,t,nt,.code c::K,[],none⟩ s:=by
 obtain⟨t1,ms,s1,h,hm,H⟩:=H;rw[List.nil_append] at hm;refine hG 1 _ _ _ s1 (Aq ?_) H;have ht:((opsOf c).toList.drop 0).take ((opsOf c).size - 0)=(opsOf c).toList:=by rw[List.drop_zero,Nat.sub_zero, ←Array.length_toList,List.take_length]
 unfold nu at h;rw[ht] at h;rw[vt];show((oS P U7 nt (opsOf c) t).bind fun t=>M.pure<|bN.go ⟨f,t,nt,K,[],none⟩) s=_;have:oS P U7 nt (opsOf c) t s= .ok t1 s1:=by unfold oS;rw[M.bg h];show aB (lp (Region.before<|opsOf c) ms ms) (M.pure t1) s1=_;rw[hm,bD];rfl
 rw[M.bg this];rfl
theorem pD.done(h:Nat.ble ops.size i=true)(H:G ⟨f,t,nt,K,[],none⟩ s):pD P U7 G f nt K ops i t s:=by refine⟨t,s,?_,H⟩;rw[show ops.size - i=0 by have:=aK.1 h;omega];unfold ks;rw[List.take_zero];rfl
theorem kG.done(h:(Nat.ble ops.size i&&lp (Region.before ops) acc acc)=true)(H:G ⟨f,t,nt,K,[],none⟩ s):kG P U7 G f nt K ops acc i t s:=by obtain⟨h1,h2⟩:=and_true.1 h;refine⟨t,[],s,?_,by rw[List.append_nil];exact h2,H⟩;rw[show ops.size - i=0 by have:=aK.1 h1;omega];unfold nu;rw[List.take_zero];rfl
theorem pD.step{t1:Tr AV}(hn:Nat.blt i ops.size=true)(h:ks P U7 nt ops i 1 t s= .ok t1 s1)(H:pD P U7 G f nt K ops (i+1) t1 s1):pD P U7 G f nt K ops i t s:=by obtain⟨t2,s2,h1,h2⟩:=H;have aW:=(blt_eq _ _).mp hn;refine⟨t2,s2,?_,h2⟩;rw[show ops.size - i=1+(ops.size - (i+1)) by omega];exact He h h1
theorem kG.step{t1:Tr AV}{ms:List bM}(hn:Nat.blt i ops.size=true)(h:nu P U7 nt ops i 1 t s= .ok (t1,ms) s1)(H:kG P U7 G f nt K ops (acc++ms) (i+1) t1 s1):kG P U7 G f nt K ops acc i t s:=by obtain⟨t2,Vz,s2,h1,h2,h3⟩:=H;have aW:=(blt_eq _ _).mp hn;refine⟨t2,_,s2,?_,by rw[←List.append_assoc];exact h2,h3⟩;rw[show ops.size - i=1+(ops.size - (i+1)) by omega];exact Ij rfl (by omega) h h1
theorem IW{op:Op}{d:Option Tmp}{g:Option<|Nat×Bool}(h:py ops i=some (op,d,g)):Nat.blt i ops.size=true:=by obtain⟨o,e,_⟩:=z8 h;rw[blt_eq];exact(Array.getElem?_eq_some_iff.1 e).1
noncomputable def AU(ops:Array Oper)(g:Option<|Nat×Bool)(t:Tr AV):Bool:=
 match g with
 |none=>true
 |some g=>mX ops t g.1&&la ops g t
theorem Qv{op:Op}{d:Option Tmp}{g:Option<|Nat×Bool}{v:AV}{t1:Tr AV}(ho:py ops i=some (op,d,g))(hw:AU ops g t=true)(h:(bC P op).val U7 t s= .ok v s1)(hp:eU nt t d v=some t1):ks P U7 nt ops i 1 t s= .ok t1 s1:=by
 cases g with
 |none=>exact TP ho h hp
 |some g=>obtain⟨h1,h2⟩:=and_true.1 (show(mX ops t g.1&&la ops g t)=true from hw);exact SE ho h1 h2 h hp
theorem PO{op:Op}{d:Option Tmp}{g:Option<|Nat×Bool}{v:AV}{t1:Tr AV}(ho:py ops i=some (op,d,g))(hw:AU ops g t=true)(h:(bC P op).val U7 t (AH s)= .ok v s1)(hp:eU nt t d v=some t1):nu P U7 nt ops i 1 t s= .ok (t1,[yh i s s1]) (pd s s1):=by
 obtain⟨o,e,rfl,rfl,e3⟩:=z8 ho;unfold nu;have hl:(ops.toList.drop i).take 1=[o]:=by
  have h1:ops.toList[i]? =some o:=by rw[Array.getElem?_toList];exact e
  obtain⟨hi,e⟩:=List.getElem?_eq_some_iff.1 h1;rw[List.drop_eq_getElem_cons hi,e];rfl
 rw[hl];have ha:dz P U7 nt ops o t (AH s)= .ok t1 s1:=by
  unfold dz sW;rw[e3];cases g with
  |none=>show mz (bC P o.op) o.dst U7 nt t _=_;unfold mz;rw[M.bg h,hp];rfl
  |some g=>obtain⟨h1,h2⟩:=and_true.1 (show(mX ops t g.1&&la ops g t)=true from hw);show ni ops g (bC P o.op) o.dst U7 nt t _=_;unfold ni;rw[h1,h2,bD];show((bC P o.op).val U7 t).bind (fun v=>lift<|eU nt t o.dst v) _=_;rw[M.bg h,hp];rfl
 have TQ:alone i (dz P U7 nt ops o t) s= .ok (t1,yh i s s1) (pd s s1):=by obtain⟨hh,nx,mark,rd,wr⟩:=s;obtain⟨pL,eB,D4,dq,jF⟩:=s1;unfold alone;simp only[qc];show(@R.rec _ (fun _=>R<|Tr AV×bM) .bad (fun a s1=>_)<|dz P U7 nt ops o t<|AH ⟨hh,nx,mark,rd,wr⟩)=_;rw[ha];rfl
 show((alone i<|dz P U7 nt ops o t).bind fun x=>(iY P U7 nt ops [] (i+1) x.1).bind fun y=>M.pure (y.1,x.2::y.2)) s=_;rw[M.bg TQ];rfl
def EA:BinOp->Int->Int->Option Bool
 | .lss,a,b=>some<|decide<|a<b
 | .leq,a,b=>some<|decide<|a<=b
 | .gtr,a,b=>some<|decide<|a>b
 | .geq,a,b=>some<|decide<|a>=b
 | .eql,a,b=>some<|a == b
 | .neq,a,b=>some<|!(a == b)
 |_,_,_=>none
theorem Qw{op:BinOp}{ty yt:TypeId}{x y:Operand}{k:IntKind}{a b:Int}{r:Bool}(hx:ar t x=some (.int k a))(hy:ar t y=some (.int k b))(h:EA op a b=some r):(bC P<|.binOp op ty x y yt).val U7 t s= .ok (.bool r) s:=by cases op<;>simp only[EA,Option.some.injEq,reduceCtorEq] at h<;>exact PI hx hy rfl rfl (by subst h;rfl)
theorem tm.start(h:Nat.ble ae s.nx=true){fr:AF}(H:tm P B ae Q fr s):bw P B ae Q fr s:=H<|aK.1 h
theorem O2{g:FuncId}{fn:Func}(h:P.funcs[g]? =some fn)(hb:fn.body.isSome=true):fn.body=some (aI P g []):=by
 unfold aI Ju;rw[h];simp only[mT];cases e:fn.body with
 |none=>rw[e] at hb;cases hb
 |some c=>rfl
end
end Go.Rn
namespace Go.Rn
open Go.RowKit
theorem HM{α:Type}(u v:Option α):∀(p q:List Bool) (t:Tr α),p≠q->Tr.ig u p (Tr.ig v q t)=Tr.ig v q (Tr.ig u p t)
 |[],[],_,h=>absurd rfl h
 |[],b::q,t,_=>by
  cases t with
  |nil=>cases b<;>rfl
  |node l x r=>cases b<;>rfl
 |a::p,[],t,_=>by
  cases t with
  |nil=>cases a<;>rfl
  |node l x r=>cases a<;>rfl
 |a::p,b::q,t,h=>by
  have ih:∀t:Tr α,a=b->Tr.ig u p (Tr.ig v q t)=Tr.ig v q (Tr.ig u p t):=fun t e=>HM u v p q t (fun e2=>h<|by rw[e,e2]);cases t with
  |nil=>cases a<;>cases b<;>simp[Tr.CV,Tr.wO,ih]
  |node l x r=>cases a<;>cases b<;>simp[Tr.wO,ih]
theorem CH{α:Type}(u v:Option α):∀(p:List Bool) (t:Tr α),Tr.ig u p (Tr.ig v p t)=Tr.ig u p t
 |[],t=>by cases t<;>rfl
 |a::p,t=>by
  cases t with
  |nil=>cases a<;>simp[Tr.CV,Tr.wO,CH u v p]
  |node l x r=>cases a<;>simp[Tr.wO,CH u v p]
theorem put_comm{α:Type}(t:Tr α)(n m:Nat)(u v:Option α)(hn:n<top)(h:n≠m):(t.put m v).put n u=(t.put n u).put m v:=HM u v _ _ t fun e=>ID hn (fun e2=>h e2.symm) e.symm
theorem O3{α:Type}(t:Tr α)(n:Nat)(u v:Option α):(t.put n v).put n u=t.put n u:=CH u v _ t
theorem Il{α:Type}{x:α}:∀(l:List α) (i:Nat) (t:Tr α) (n:Nat),n<i->n<top->(Tr.fill l i t).put n (some x)=Tr.fill l i (t.put n<|some x)
 |[],_,_,_,_,_=>rfl
 |y::l,i,t,n,h,hn=>by show(Tr.fill l (i+1)<|t.put i<|some y).put n (some x)=Tr.fill l (i+1) ((t.put n<|some x).put i<|some y);rw[Il l (i+1) _ n (by omega) hn,put_comm t n i _ _ hn<|by omega]
theorem HN{α:Type}{x:α}:∀(l:List α) (i k:Nat) (t:Tr α),k<l.length->i+k<top->(Tr.fill l i t).put (i+k) (some x)=Tr.fill (l.set k x) i t
 |[],_,_,_,h,_=>by simp at h
 |y::l,i,0,t,_,h=>by show(Tr.fill l (i+1)<|t.put i<|some y).put i (some x)=Tr.fill l (i+1) (t.put i<|some x);rw[Il l (i+1) _ i (by omega) h,O3]
 |y::l,i,k+1,t,h,ht=>by show(Tr.fill l (i+1)<|t.put i<|some y).put (i+(k+1)) (some x)=Tr.fill (l.set k x) (i+1) (t.put i<|some y);rw[show i+(k+1)=i+1+k by omega];exact HN l (i+1) k _ (by simpa using h) (by omega)
def qN{α:Type}:List α->Nat->List α->List α
 |l,_,[]=>l
 |l,k,x::r=>qN (l.set k x) (k+1) r
theorem HO{α:Type}:∀(r l:List α) (k:Nat),k+r.length<=l.length->l.length<=top->Tr.fill r k (Tr.fill l 0 .nil)=Tr.fill (qN l k r) 0 .nil
 |[],_,_,_,_=>rfl
 |x::r,l,k,h,ht=>by simp only[List.length_cons] at h;show Tr.fill r (k+1) ((Tr.fill l 0 .nil).put k<|some x)=Tr.fill (qN (l.set k x) (k+1) r) 0 .nil;have:=HN (x:=x) l 0 k .nil (by omega) (by omega);rw[Nat.zero_add] at this;rw[this];exact HO r (l.set k x) (k+1) (by rw[List.length_set];omega) (by rw[List.length_set];exact ht)
theorem Dm{α:Type}:∀(r l:List α) (k i:Nat),k+r.length<=l.length->(qN l k r)[i]? =if k<=i/\i<k+r.length then r[i - k]? else l[i]?
 |[],l,k,i,_=>by show l[i]? =_;simp;intro h1 h2;omega
 |x::r,l,k,i,h=>by
  simp only[List.length_cons] at h ⊢;show(qN (l.set k x) (k+1) r)[i]? =_;rw[Dm r (l.set k x) (k+1) i (by rw[List.length_set];omega)];by_cases e:i=k
  ·subst e;rw[if_neg (by omega),if_pos (by omega),Nat.sub_self,List.getElem?_set];simp;omega
  ·by_cases q:k+1<=i/\i<k+1+r.length
   ·rw[if_pos q,if_pos<|by omega];obtain⟨j,rfl⟩:∃j,i=k+1+j:=⟨i - (k+1),by omega⟩;rw[show k+1+j - (k+1)=j by omega,show k+1+j - k=j+1 by omega];simp
   ·rw[if_neg q,if_neg (by omega),List.getElem?_set_ne<|by omega]
theorem Ar{K:Nat}{β:Type}:∀{L:List<|List β} {i j:Nat},(∀c∈L,c.length=K)->i<L.length->j<K->∀{c:List β},L[i]? =some c->L.flatten[i*K+j]? =c[j]?
 |[],_,_,_,h,_,_,_=>by simp at h
 |x::L,0,j,hL,_,hj,c,hc=>by simp at hc;subst hc;have hx:=hL x List.mem_cons_self;rw[List.flatten_cons,Nat.zero_mul,Nat.zero_add,List.getElem?_append_left<|by omega]
 |x::L,i+1,j,hL,hi,hj,c,hc=>by have hx:=hL x List.mem_cons_self;rw[List.flatten_cons,List.getElem?_append_right (by rw[hx,Nat.add_mul];omega),hx,show(i+1)*K+j - K=i*K+j by rw[Nat.add_mul];omega];exact Ar (fun c hc=>hL c<|List.mem_cons_of_mem _ hc) (by simpa using hi) hj (by simpa using hc)
theorem O4{α:Type}{K:Nat}{enc:α->List AV}(he:∀x,(enc x).length=K){l:List α}{i j:Nat}{c c':α}{r:List AV}(hc:l[i]? =some c)(hr:enc c'=qN (enc c) j r)(hj:j+r.length<=K):qN (l.map enc).flatten (i*K+j) r=((l.set i c').map enc).flatten:=by
 have hi:=(List.getElem?_eq_some_iff.1 hc).1;have ga:∀(l:List α),∀c∈l.map enc,c.length=K:=fun l c hc=>by obtain⟨x,_,rfl⟩:=List.mem_map.1 hc;exact he x
 have wc:∀l:List α,(l.map enc).flatten.length=l.length*K:=fun l=>by rw[uw<|ga l,List.length_map]
 have hmul:i*K+K<=l.length*K:=by have:=Nat.mul_le_mul_right K hi;rw[Nat.succ_mul] at this;exact this
 apply List.ext_getElem?;intro m;rw[Dm _ _ _ _ (by rw[wc];omega)];by_cases hm:m<l.length*K
 ·have hK:0<K:=by
   cases K with
   |zero=>simp at hm
   |succ k=>omega
  have hq:m / K<l.length:=by rw[Nat.div_lt_iff_lt_mul hK];exact hm
  have BN:m=m / K*K+m % K:=by rw[Nat.mul_comm];exact(Nat.div_add_mod m K).symm
  have Kw:m % K<K:=Nat.mod_lt _ hK;have hold:(l.map enc).flatten[m]? =(enc<|l[m / K]'hq)[m % K]? :=by
   conv=>lhs;rw[BN]
   exact Ar (ga l) (by rw[List.length_map];exact hq) Kw (by rw[List.getElem?_map,List.getElem?_eq_getElem hq];rfl)
  have dk:m / K<(l.set i c').length:=by rw[List.length_set];exact hq
  have jV:((l.set i c').map enc).flatten[m]? =(enc<|(l.set i c')[m / K]'dk)[m % K]? :=by
   conv=>lhs;rw[BN]
   exact Ar (ga _) (by rw[List.length_map];exact dk) Kw (by rw[List.getElem?_map,List.getElem?_eq_getElem dk];rfl)
  rw[jV,hold];by_cases e:m / K=i
  ·have cN:l[m / K]'hq=c:=by
    have:l[m / K]? =some c:=by rw[e];exact hc
    rw[List.getElem?_eq_getElem hq] at this;injection this
   have y5:(l.set i c')[m / K]'dk=c':=by simp[e]
   rw[y5,cN,hr,Dm _ _ _ _ (by rw[he];exact hj)];have Vm:m=i*K+m % K:=by rw[e] at BN;exact BN
   by_cases q:j<=m % K/\m % K<j+r.length
   ·rw[if_pos (by omega),if_pos q];congr 1;omega
   ·rw[if_neg (by intro q2;apply q;omega),if_neg q]
  ·have y5:(l.set i c')[m / K]'dk=l[m / K]'hq:=by rw[List.getElem_set_ne fun e2=>e e2.symm]
   rw[y5,if_neg];intro q;apply e;have h1:m<(i+1)*K:=by rw[Nat.add_mul];omega
   have h2:i*K<=m:=by omega
   have h3:=(Nat.le_div_iff_mul_le hK).2 h2;have h4:=(Nat.div_lt_iff_lt_mul hK).2 h1;omega
 ·rw[if_neg (by omega),List.getElem?_eq_none (by rw[wc];omega),List.getElem?_eq_none (by rw[wc,List.length_set];omega)]
noncomputable section
def aN(n:Nat)(s:AS):AS:= @Bool.rec (fun _=>AS) s ⟨s.h,s.nx,s.mark,n::s.rd,s.wr⟩<|Nat.blt n s.mark
def eY(n:Nat)(o:Option U)(s:AS):AS:= @Bool.rec (fun _=>AS) ⟨s.h.put n o,s.nx,s.mark,s.rd,s.wr⟩ ⟨s.h.put n o,s.nx,s.mark,n::s.rd,n::s.wr⟩<|Nat.blt n s.mark
end
section
variable {P:Program} {s:AS} {U7:aJ} {t:Tr AV}
theorem ko{n:Nat}{o:U}(h1:Nat.blt n s.nx=true)(h2:s.h.get n=some o):a9 n s= .ok o (aN n s):=by obtain⟨hh,nx,mark,rd,wr⟩:=s;have e1:Nat.blt n nx=true:=h1;have e2:hh.get n=some o:=h2;show @Bool.rec (fun _=>R U) .bad (@Option.rec U (fun _=>R U) .bad (fun o=> @Bool.rec (fun _=>R U) (.ok o ⟨hh,nx,mark,rd,wr⟩) (.ok o ⟨hh,nx,mark,n::rd,wr⟩)<|Nat.blt n mark)<|hh.get n) (Nat.blt n nx)=_;rw[e1,e2];show @Bool.rec (fun _=>R U) (.ok o ⟨hh,nx,mark,rd,wr⟩) (.ok o ⟨hh,nx,mark,n::rd,wr⟩) (Nat.blt n mark)= .ok o (@Bool.rec (fun _=>AS) ⟨hh,nx,mark,rd,wr⟩ ⟨hh,nx,mark,n::rd,wr⟩<|Nat.blt n mark);cases Nat.blt n mark<;>rfl
theorem fW(n:Nat)(s:AS):(aN n s).h=s.h/\(aN n s).nx=s.nx/\(aN n s).mark=s.mark:=by unfold aN;cases Nat.blt n s.mark<;>exact⟨rfl,rfl,rfl⟩
theorem qj{n:Nat}{o:Option U}{p:U}(h1:Nat.blt n s.nx=true)(h2:s.h.get n=some p)(h3:p.bQ=false)(ht:Nat.blt n top=true):ba n o s= .ok () (eY n o s):=by obtain⟨hh,nx,mark,rd,wr⟩:=s;have e1:(Nat.blt n nx&&Nat.blt n top)=true:=and_true.2 ⟨h1,ht⟩;have e2:hh.get n=some p:=h2;show @Bool.rec (fun _=>R Unit) .bad (@Option.rec U (fun _=>R Unit) .bad (fun p=> @Bool.rec (fun _=>R Unit) (@Bool.rec (fun _=>R Unit) (.ok () ⟨hh.put n o,nx,mark,rd,wr⟩) (.ok () ⟨hh.put n o,nx,mark,n::rd,n::wr⟩)<|Nat.blt n mark) .bad p.bQ)<|hh.get n) (Nat.blt n nx&&Nat.blt n top)=_;rw[e1,e2];show @Bool.rec (fun _=>R Unit) (@Bool.rec (fun _=>R Unit) (.ok () ⟨hh.put n o,nx,mark,rd,wr⟩) (.ok () ⟨hh.put n o,nx,mark,n::rd,n::wr⟩)<|Nat.blt n mark) .bad p.bQ=_;rw[h3];show @Bool.rec (fun _=>R Unit) (.ok () ⟨hh.put n o,nx,mark,rd,wr⟩) (.ok () ⟨hh.put n o,nx,mark,n::rd,n::wr⟩) (Nat.blt n mark)= .ok () (@Bool.rec (fun _=>AS) ⟨hh.put n o,nx,mark,rd,wr⟩ ⟨hh.put n o,nx,mark,n::rd,n::wr⟩<|Nat.blt n mark);cases Nat.blt n mark<;>rfl
theorem uI{α:Type}{K:Nat}{enc:α->List AV}(he:∀x,(enc x).length=K)(l:List α):(l.map enc).flatten.length=l.length*K:=by rw[uw (K:=K) (fun c hc=>by obtain⟨x,_,rfl⟩:=List.mem_map.1 hc;exact he x),List.length_map]
theorem IX{α:Type}{K:Nat}{enc:α->List AV}(he:∀x,(enc x).length=K){l:List α}{i j k:Nat}{c:α}(hc:l[i]? =some c)(hj:j+k<=K):i*K+j+k<=(l.map enc).flatten.length/\((l.map enc).flatten.drop<|i*K+j).take k=((enc c).drop j).take k:=by
 have hi:=(List.getElem?_eq_some_iff.1 hc).1;have hmul:i*K+K<=l.length*K:=by have:=Nat.mul_le_mul_right K hi;rw[Nat.succ_mul] at this;exact this
 refine⟨by rw[uI he];omega,?_⟩;apply List.ext_getElem?;intro m;rw[List.getElem?_take,List.getElem?_take];split
 ·rename_i hm;rw[List.getElem?_drop,List.getElem?_drop,Nat.add_assoc];exact Ar (fun c hc=>by obtain⟨x,_,rfl⟩:=List.mem_map.1 hc;exact he x) (by rw[List.length_map];exact hi) (by omega) (by rw[List.getElem?_map,hc];rfl)
 ·rfl
noncomputable def yj(op:BinOp)(k:IntKind)(a b:Int):Int:=
 match op with
 | .and=>k.wrap (BitVec.ofInt k.bits a&&& BitVec.ofInt k.bits b).toNat
 | .or=>k.wrap (BitVec.ofInt k.bits a|||BitVec.ofInt k.bits b).toNat
 | .xor=>k.wrap (BitVec.ofInt k.bits a ^^^ BitVec.ofInt k.bits b).toNat
 | .andNot=>k.wrap (BitVec.ofInt k.bits a&&& ~~~BitVec.ofInt k.bits b).toNat
 | .shl=>k.wrap<|a*2 ^ min b.toNat k.bits
 | .shr=>a.fdiv<|2 ^ min b.toNat k.bits
 |_=>0
theorem O5{op:BinOp}{ty yt:TypeId}{x y:Operand}{k k':IntKind}{a b:Int}(h0:(ar t x,ar t y,lX op)=(some<|.int k a,some<|.int k' b,true))(hb:0<=b):(bC P<|.binOp op ty x y yt).val U7 t s= .ok (.int k<|yj op k a b) s:=by
 injection h0 with hx h0
 injection h0 with hy hs
 show gB P op ty x y U7 t s=_;unfold gB;have hd:decide (b<0)=false:=decide_eq_false (by omega);cases op<;>first|(cases hs;done)|skip
 all_goals rw[hx,hy,aO,aO];show(aB true <| lift<|kq P _ ty (.int k a)<|.int k' b) s=_;rw[bD];unfold kq;simp only[lX];unfold Al;rw[hd];rfl
end
end Go.Rn
namespace Go.Rn
def Qx(ops:Array Oper):Bool:=ops.toList.zipIdx.all fun x=>x.1.after.toList.all fun e=> !Region.binds .any e||decide (e.on<x.2)
def Ed(ops:Array Oper)(x y:Oper):Bool:=
 match x.dst with
 |none=>false
 |some d=>(y.looksAt ops).contains d||y.dst == some d
def Qy(ops:Array Oper)(b:Array Nat):Bool:=ops.toList.zipIdx.all fun x=>ops.toList.zipIdx.all fun y=> !(Ed ops x.1 y.1)||(Nat.beq x.2 y.2|| !loose b x.2 y.2)
def EB(ops:Array Oper):Bool:=Qx ops&&Qy ops (CheckFast.beforeF ops)
def mU:Code->Bool
 | .seq a b=>mU a&&mU b
 | .cond _ a b=>mU a&&mU b
 | .block _ b=>mU b
 | .loop b=>mU b
 | .scope b=>mU b
 | .region _ ops draw=> !draw||EB ops
 | .rangeFunc _ _ a b=>mU a&&mU b
 |_=>true
def RB(P:Program):Bool:=P.funcs.toList.all fun fn=>match fn.body with
 |none=>true
 |some c=>mU c
theorem Ct{ops:Array Oper}{i:Nat}{o:Oper}(h:ops[i]? =some o):(o,i)∈ops.toList.zipIdx:=by rw[List.mem_zipIdx_iff_getElem?];simpa using h
theorem PQ{ops:Array Oper}(h:EB ops=true):AL ops:=by
 unfold EB at h;obtain⟨h1,h2⟩:=Bool.and_eq_true_iff.1 h;rw[CheckFast.beforeF_eq] at h2;refine⟨fun j o e ho hm hb=>?_,fun i j x y d dp hx hy hd ct=>?_⟩
 ·have:=List.all_eq_true.1 (List.all_eq_true.1 h1 _<|Ct ho) e<|Array.mem_toList_iff.2 hm;simp only[hb,Bool.not_true,Bool.false_or,decide_eq_true_eq] at this;exact this
 ·have:=List.all_eq_true.1 (List.all_eq_true.1 h2 _<|Ct hx) _<|Ct hy;have hc:Ed ops x y=true:=by
   unfold Ed;rw[hd];simp only[Bool.or_eq_true,beq_iff_eq];rcases ct with q|q
   ·exact .inl<|List.contains_iff_mem.2 q
   ·exact .inr q
  simp only[hc,Bool.not_true,Bool.false_or,Bool.or_eq_true,Bool.not_eq_true'] at this;rcases this with q|q
  ·exact absurd (Nat.beq_eq.mp q) dp
  ·exact q
theorem Ny:∀{c:Code},mU c=true->dN c:=by
 intro c;induction c with
 |seq a b tE tF=>intro h;obtain⟨h1,h2⟩:=Bool.and_eq_true_iff.1 h;exact⟨tE h1,tF h2⟩
 |cond _ a b tE tF=>intro h;obtain⟨h1,h2⟩:=Bool.and_eq_true_iff.1 h;exact⟨tE h1,tF h2⟩
 |block _ b ih=>intro h;exact ih h
 |loop b ih=>intro h;exact ih h
 |scope b ih=>intro h;exact ih h
 |region id ops draw=>intro h hd;subst hd;exact PQ h
 |rangeFunc _ _ a b tE tF=>intro h;obtain⟨h1,h2⟩:=Bool.and_eq_true_iff.1 h;exact⟨tE h1,tF h2⟩
 |_=>intro _;trivial
theorem U3{P:Program}(hm:P.follows .mixedOrders=true)(h:RB P=true):du P:=by refine⟨hm,fun f fn body hf hb=>?_⟩;have:=List.all_eq_true.1 h fn (List.mem_of_getElem?<|by simpa using hf);rw[hb] at this;exact Ny this
end Go.Rn
namespace Go.Rn
open Go.RowKit
noncomputable section
end
end Go.Rn
namespace Go.Rn
open Go.RowKit
noncomputable section
end
section
variable {P:Program} {s s1:AS} {U7:aJ} {t:Tr AV}
end
end Go.Rn
namespace Go.Rn
end Go.Rn
namespace Go.Rn
open Go.RowKit
theorem PR(k:IntKind)(lo hi:Int)(n:Int)(h:lo<=n/\n<=hi)(hk:(k.signed=true/\lo= -(2 ^ (k.bits - 1):Int)/\hi=(2 ^ (k.bits - 1):Int) - 1/\(2 ^ k.bits:Int)=2*(2 ^ (k.bits - 1):Int)/\(0:Int)<(2 ^ (k.bits - 1):Int))\/(k.signed=false/\lo=0/\hi=(2 ^ k.bits:Int) - 1)):IntKind.wrap k n=n:=by
 unfold IntKind.wrap;rcases hk with⟨hs,h1,h2,h3,h4⟩|⟨hs,h1,h2⟩
 ·simp only[hs,Bool.true_and,decide_eq_true_eq];subst h1;subst h2;rw[h3];generalize (2 ^ (k.bits - 1):Int)=p at*;by_cases q:0<=n
  ·have:n % (2*p)=n:=Int.emod_eq_of_lt q (by omega);rw[this,if_neg<|by omega]
  ·have:n % (2*p)=n+2*p:=by rw[←Int.add_emod_right,Int.emod_eq_of_lt (by omega)<|by omega]
   rw[this,if_pos<|by omega];omega
 ·simp only[hs,Bool.false_and];subst h1;subst h2;have:n % (2 ^ k.bits:Int)=n:=Int.emod_eq_of_lt h.1 (by omega);simp[this]
theorem MY{n:Int}(h: -9223372036854775808<=n/\n<=9223372036854775807):IntKind.wrap .i64 n=n:=PR .i64 _ _ n h<|.inl ⟨rfl,by decide,by decide,by decide,by decide⟩
section
variable {P:Program} {s s1:AS} {U7:aJ} {t:Tr AV}
end
def AV.bO(x:AV):Bool:=match x with
 | .ch n _ _=>Nat.ble top n
 |x=>x.flat
def AV.rp(x:AV):Bool:=match x with
 | .agg l=>l.all AV.bO
 |x=>x.bO
def AV.hi(x:AV):Bool:=match x with
 | .agg l=>l.all AV.bO
 | .tuple l=>l.all AV.rp
 |x=>x.bO
def jW(ρ σ:aj):Prop:=∀k x,top<=k->ρ k=some x->σ k=some x
theorem mg.hi{ρ σ:aj}(h:jW ρ σ){n b sh:Nat}(ht:top<=n)(k:mg ρ n b sh):mg σ n b sh:=.inr ⟨ht,fun e=>k.high ht (by
 cases q:ρ (hn n b sh) with
 |none=>rfl
 |some x=>rw[h _ _ (fI _ _ _) q] at e;cases e)⟩
theorem VR.flat{ρ σ:aj}{x:AV}{v:Value}(h:x.flat=true)(k:VR ρ x v):VR σ x v:=by
 cases x<;>first|(simp only[VR] at k ⊢;exact k)|(cases h;done)|skip
 case slice a len cap=>cases a with
  |some _=>cases h
  |none=>cases cap with
   |known c=>simp only[VR] at k ⊢;exact k
   |aU _ _=>cases h
   |lost=>cases h
 all_goals
  rename_i a;cases a with
  |none=>simp only[VR] at k ⊢;exact k
  |some _=>cases h
theorem AV.u0{ρ σ:aj}(fO:jW ρ σ){x:AV}{v:Value}(h:x.bO=true)(k:VR ρ x v):VR σ x v:=by
 unfold AV.bO at h;split at h
 ·have ht:=aK.1 h;simp only[VR] at k ⊢;exact k.imp id fun⟨b,sh,c,q1,q2⟩=>⟨b,sh,c,q1.hi fO ht,q2⟩
 ·exact VR.flat h k
theorem AV.Dn{ρ σ:aj}(fO:jW ρ σ):∀{l:List AV} {vs:List Value},l.all AV.bO=true->av ρ l vs->av σ l vs
 |[],_,_,hv=>by simpa only[av] using hv
 |y::l,vs,hy,hv=>by obtain⟨h1,h2⟩:=and_true.1 (show(y.bO&&l.all AV.bO)=true from hy);simp only[av] at hv ⊢;obtain⟨a,as,e,h3,h4⟩:=hv;exact⟨a,as,e,AV.u0 fO h1 h3,AV.Dn fO h2 h4⟩
theorem AV.Qz{ρ σ:aj}(fO:jW ρ σ){x:AV}{v:Value}(h:x.rp=true)(k:VR ρ x v):VR σ x v:=by
 unfold AV.rp at h;split at h
 ·simp only[VR] at k ⊢;obtain⟨a,e,q⟩:=k;exact⟨a,e,AV.Dn fO h q⟩
 ·exact AV.u0 fO h k
theorem AV.IY{ρ σ:aj}(fO:jW ρ σ):∀{l:List AV} {vs:List Value},l.all AV.rp=true->av ρ l vs->av σ l vs
 |[],_,_,hv=>by simpa only[av] using hv
 |y::l,vs,hy,hv=>by obtain⟨h1,h2⟩:=and_true.1 (show(y.rp&&l.all AV.rp)=true from hy);simp only[av] at hv ⊢;obtain⟨a,as,e,h3,h4⟩:=hv;exact⟨a,as,e,AV.Qz fO h1 h3,AV.IY fO h2 h4⟩
theorem AV.vu{ρ σ:aj}(fO:jW ρ σ){x:AV}{v:Value}(h:x.hi=true)(k:VR ρ x v):VR σ x v:=by
 unfold AV.hi at h;split at h
 ·simp only[VR] at k ⊢;obtain⟨a,e,q⟩:=k;exact⟨a,e,AV.Dn fO h q⟩
 ·simp only[VR] at k ⊢;obtain⟨a,e,q⟩:=k;exact⟨a,e,AV.IY fO h q⟩
 ·exact AV.u0 fO h k
theorem AV.DH{ρ σ:aj}(fO:jW ρ σ):∀{l:List AV} {vs:List Value},l.all AV.hi=true->av ρ l vs->av σ l vs
 |[],_,_,hv=>by simpa only[av] using hv
 |y::l,vs,hy,hv=>by obtain⟨h1,h2⟩:=and_true.1 (show(y.hi&&l.all AV.hi)=true from hy);simp only[av] at hv ⊢;obtain⟨a,as,e,h3,h4⟩:=hv;exact⟨a,as,e,AV.vu fO h1 h3,AV.DH fO h2 h4⟩
theorem QA{ρ:aj}:jW ρ<|eL ρ:=fun k x hk e=>by unfold eL;rw[if_pos hk];exact e
end Go.Rn
namespace Go.Rn
open Go.RowKit
def vN(sp:Sp)(g:FuncId)(m:aJ->List AV->M AV):Sp:=fun f=>bif Nat.beq f g then some m else sp f
theorem Hh{sp:Sp}{g:FuncId}{m m':aJ->List AV->M AV}{f:FuncId}(h:vN sp g m f=some m'):(f=g/\m'=m)\/sp f=some m':=by
 unfold vN at h;cases e:Nat.beq f g with
 |true=>rw[e] at h;injection h with h;exact .inl ⟨Nat.eq_of_beq_eq_true e,h.symm⟩
 |false=>rw[e] at h;exact .inr h
end Go.Rn
namespace Go.Rn
end Go.Rn
namespace Go.Rn
open Go.RowKit
section
variable {P:Program} {B:aH} {ρ:aj} {w:World} {s s1:AS}
end
end Go.Rn
namespace Go.Rn
open Go.RowKit
noncomputable section
def mm(ae:Nat)(h0:Tr U)(ns:List Nat)(s:AS):AS:=match gM ae h0 ns s with| .ok _ s1=>s1| .bad=>s
def yk(ae:Nat)(h0:Tr U)(ns:List Nat)(s:AS):Bool:=match gM ae h0 ns s with| .ok _ _=>true| .bad=>false
end
theorem xx{ae:Nat}{h0:Tr U}{ns:List Nat}{s:AS}(h:yk ae h0 ns s=true):gM ae h0 ns s= .ok () (mm ae h0 ns s):=by
 unfold yk at h;unfold mm;cases e:gM ae h0 ns s with
 |bad=>rw[e] at h;cases h
 |ok u s1=>rfl
section
variable {P:Program} {s s1:AS} {U7:aJ} {t:Tr AV}
theorem N9{ty yt:TypeId}{x y:Operand}{a b:ByteArray}{n m:Nat}(h0:(ar t x,ar t y)=(some<|.str a,some<|.str b))(ha:a.size<=n)(hb:b.size<=m)(hr:Nat.ble (n+m) room=true):(bC P<|.binOp .add ty x y yt).val U7 t s= .ok (.str<|a++b) s:=by
 injection h0 with hx hy
 show gB P .add ty x y U7 t s=_;unfold gB;rw[hx,hy,aO,aO];show aB true (lift<|kq P .add ty (.str a)<|.str b) s=_;rw[bD];have hle:Nat.ble (a.size+b.size) room=true:=aK.2<|Nat.le_trans (Nat.add_le_add ha hb)<|aK.1 hr;show lift (match Nat.ble (a.size+b.size) room with|true=>some (AV.str<|a++b)|false=>none) s=_;rw[hle];rfl
theorem Nz{ty yt:TypeId}{x y:Operand}{a b:ByteArray}(h0:(ar t x,ar t y)=(some<|.str a,some<|.str b))(h:a=b):(bC P<|.binOp .eql ty x y yt).val U7 t s= .ok (.bool true) s:=by
 injection h0 with hx hy
 subst h;show gB P .eql ty x y U7 t s=_;unfold gB;rw[hx,hy,aO,aO];show aB true (lift<|some<|AV.bool<|a.toList == a.toList) s=_;rw[bD,beq_self_eq_true];rfl
end
theorem MZ{a:Option<|Nat×Nat}{n:Nat}{c:aZ}{sep:ByteArray}{s s1:AS}{l:List AV}{ts:List<|List UInt8}{m:Nat}(h1:Nat.ble n (fA n c)=true)(h2:firstCells 1 n (.slice a n c) s= .ok l s1)(h3:su l=some ts)(h4:(mM sep.data.toList ts).length+n<=1048576):
 oT [.slice a n c,.str sep] s= .ok (.str ⟨(mM sep.data.toList ts).toArray⟩) s1:=by
 unfold oT;show((fL<|Nat.ble n<|fA n c).bind fun _=>(firstCells 1 n<|.slice a n c).bind fun l=>(lift<|su l).bind fun ts=>(fL<|Nat.ble ((mM sep.data.toList ts).length+n) 1048576).bind fun _=>M.pure<|AV.str ⟨(mM sep.data.toList ts).toArray⟩) s=_;rw[h1];rw[M.bg (show fL true s= .ok () s from rfl),M.bg h2,M.bg (show lift (su l) s1= .ok ts s1 by rw[h3];rfl),aK.2 h4,M.bg (show fL true s1= .ok () s1 from rfl)];rfl
theorem Oa{P:Program}{F:Nat->Option (List AV)}{sp:Sp}{g:FuncId}(h:sp g=some (fun _ args=>oT args)){n:Nat}{a:Option<|Nat×Nat}{k:Nat}{c:aZ}{sep:ByteArray}{s s1:AS}{l:List AV}{ts:List<|List UInt8}(h0:(Nat.ble k<|fA k c,firstCells 1 k (.slice a k c) s,su l)=(true,.ok l s1,some ts))(h4:(mM sep.data.toList ts).length+k<=1048576):
 br P sp F (n+1) (.fn g) [.slice a k c,.str sep] s= .ok (.str ⟨(mM sep.data.toList ts).toArray⟩) s1:=by
 injection h0 with h1 h0
 injection h0 with h2 h3
 show gX P sp g (br P sp F n) _ s=_;rw[sP h];exact MZ (m:=0) h1 h2 h3 h4
def JZ(n:Int):Prop:= -9223372036854775808<=n/\n<=9223372036854775807
instance (n:Int):Decidable<|JZ n:=by unfold JZ;infer_instance
end Go.Rn
namespace Go.Rn
open Go.RowKit
def As(P:Program):DataW (List UInt8)->Option FuncId->Bool
 | .nil,none=>true
 | .held (b::r),some f=>(List.range P.funcs.size).filter (fun f=>(P.funcs[f]?).any (·.name.toUTF8.data.toList == b::r)) == [f]
 |_,_=>false
def sD(P:Program):List (DataW<|List UInt8)->List (Option FuncId)->Bool
 |[],[]=>true
 |d::ds,f::fs=>As P d f&&sD P ds fs
 |_,_=>false
def RC(P:Program)(d:DataW<|List UInt8)(fs:List<|Option FuncId):Bool:=
 match d with
 | .agg ds=>sD P ds fs
 |_=>false
def Au:Option FuncId->AV
 |none=>.nilFunc
 |some f=>.func (.func f) [] []
def u6:Option FuncId->Value
 |none=>.nilFunc
 |some f=>.func (.func f) #[] #[]
theorem U4(ρ:aj)(f:Option FuncId):VR ρ (Au f)<|u6 f:=by
 cases f with
 |none=>simp only[Au,u6,VR]
 |some f=>simp only[Au,u6,VR,av];exact⟨rfl,_,_,rfl,rfl,rfl⟩
theorem Im{α β:Type}{f:α->Option β}:∀{l:List α} {r:List β},l.mapM f=some r->l.length=r.length/\∀(i:Nat) (x:α),l[i]? =some x->∃y,r[i]? =some y/\f x=some y
 |[],r,h=>by simp at h;subst h;exact⟨rfl,fun i x hx=>by simp at hx⟩
 |a::l,r,h=>by
  rw[List.mapM_cons] at h;cases e:f a with
  |none=>simp[e] at h
  |some b=>
   cases e2:l.mapM f with
   |none=>simp[e,e2] at h
   |some bs=>
    simp[e,e2] at h;subst h;obtain⟨h1,h2⟩:=Im e2;refine⟨by simp[h1],fun i x hx=>?_⟩;cases i with
    |zero=>simp at hx;subst hx;exact⟨b,rfl,e⟩
    |succ i=>simp at hx;obtain⟨y,h3,h4⟩:=h2 i x hx;exact⟨y,by simpa using h3,h4⟩
theorem Mn{P:Program}{w:World}{e:TypeId}{ps rs:Array TypeId}{va:Bool}{fuel:Nat}{v:Value}{d:DataW<|List UInt8}{q:List MemPlace}{f:Option FuncId}(he:P.underlying e=some (.func ps rs va))(h:DataW.trod (funcToken P) P w 0 (fun _=>true) true fuel e [v]=some (d,q))(hk:As P d f=true):v=u6 f:=by
 unfold As at hk;split at hk
 ·cases fuel with
  |zero=>simp[DataW.trod] at h
  |succ n=>cases v<;>simp[DataW.trod,he] at h;rfl
 ·exact func_of_trod he (by simpa using hk) h
 ·cases hk
theorem GS{P:Program}:∀{ds:List<|DataW<|List UInt8} {fs:List<|Option FuncId},sD P ds fs=true->ds.length=fs.length/\∀(i:Nat) d f,ds[i]? =some d->fs[i]? =some f->As P d f=true
 |[],[],_=>⟨rfl,fun i d f h=>by simp at h⟩
 |[],_::_,h=>by simp[sD] at h
 |_::_,[],h=>by simp[sD] at h
 |d::ds,f::fs,h=>by
  simp only[sD,Bool.and_eq_true] at h;obtain⟨h1,h2⟩:=GS h.2;refine⟨by simp[h1],fun i a b ha hb=>?_⟩;cases i with
  |zero=>simp at ha hb;subst ha;subst hb;exact h.1
  |succ i=>simp at ha hb;exact h2 i a b ha hb
theorem U2{P:Program}{W:World}{name:String}{d:DataW Unit}{g:Nat}{t e:TypeId}{n:Nat}{ps rs:Array TypeId}{va:Bool}{fs:List<|Option FuncId}(h:funcsAt P W name d)(hg:P.globalNamed name=some g)(TS:(P.globals[g]?).map (·.type)=some t)(ht:P.underlying t=some (.array n e))(he:P.underlying e=some (.func ps rs va))(hc:P.cellsOf e=1)(TT:P.cellsOf t=n)(hd:RC P d.funcsOut fs=true):
 ∃c ty fr,W.heap[g]? =some (.cells c ty fr)/\fs.length=c.size/\∀(i:Nat) f,fs[i]? =some f->c[i]? =some (u6 f):=by
 obtain⟨g',t',cs,fuel,p,h1,h2,h3,h4⟩:=h;obtain rfl:g=g':=Option.some.inj<|hg.symm.trans h1;obtain rfl:t=t':=Option.some.inj<|TS.symm.trans h2;have kx:∃ty fr,W.heap[g]? =some (.cells cs ty fr):=by
  unfold World.var? at h3;rw[hg] at h3;simp only[Option.bind_some] at h3;split at h3
  ·rename_i c ty fr e;injection h3 with h3;subst h3;exact⟨ty,fr,e⟩
  ·cases h3
 obtain⟨ty,fr,kx⟩:=kx;cases fuel with
 |zero=>simp[DataW.trod] at h4
 |succ m=>
  rw[DataW.trod_step] at h4;unfold DataW.trodStep at h4;simp only[ht,hc,Nat.mul_one] at h4;split at h4
  ·rename_i hlen;rw[Option.map_eq_some_iff] at h4;obtain⟨xs,h5,h6⟩:=h4;obtain⟨h7,h8⟩:=Im h5;have SH:d.funcsOut= .agg (xs.map (·.1)):=by injection h6 with h6 _;exact h6.symm
   rw[SH] at hd;obtain⟨h9,dU⟩:=GS (show sD P (xs.map (·.1)) fs=true from hd);have VA:xs.length=fs.length:=by simpa using h9
   have get:∀(i:Nat) f,fs[i]? =some f->cs[i]? =some (u6 f):=by
    intro i f hf;have hi:i<fs.length:=(List.getElem?_eq_some_iff.1 hf).1;obtain⟨y,yK,nF⟩:=h8 i i (by rw[List.getElem?_range (by simp at h7;omega)]);obtain⟨v,hv⟩:∃v,(cs.toList.drop i).take 1=[v]:=by
     cases hq:(cs.toList.drop i).take 1 with
     |nil=>
      rw[hq] at nF;cases m with
      |zero=>simp[DataW.trod] at nF
      |succ k=>simp[DataW.trod,he] at nF
     |cons v l=>
      have:((cs.toList.drop i).take 1).length<=1:=List.length_take_le _ _;rw[hq] at this;cases l with
      |nil=>exact⟨v,rfl⟩
      |cons=>simp at this
    rw[hv] at nF;have yc:=Mn (f:=f) (d:=y.1) (q:=y.2) he nF<|dU i y.1 f (by rw[List.getElem?_map,yK];rfl) hf;have:(cs.toList.drop i)[0]? =some v:=by
     have:((cs.toList.drop i).take 1)[0]? =some v:=by rw[hv];rfl
     rw[List.getElem?_take_of_lt<|by omega] at this;exact this
    rw[List.getElem?_drop,Nat.add_zero,Array.getElem?_toList] at this;rw[this,yc]
   refine⟨cs,ty,fr,kx,?_,get⟩;have J0:=hlen;rw[TT] at J0;simp at J0 h7;omega
  ·cases h4
theorem O6(l:List AV)(hl:l.length<=top)(i:Nat)(hi:i<l.length):(Tr.fill l 0 .nil).get i=l[i]? :=by rw[Tr.nS _ _ _ _ (by omega),if_pos<|by omega];simp
end Go.Rn
namespace Go.Rn
open Go.RowKit
noncomputable section
end
end Go.Rn
namespace Go.Rn
open Go.RowKit
noncomputable section
end
section
variable {P:Program} {B:aH} {ae:Nat} {s s1:AS} {U7:aJ} {t:Tr AV} {ops:Array Oper} {f nt i:Nat} {K:List Item} {G:AF->AS->Prop} {acc:List bM} {rs:List ResultVar} {v v':AV}
end
section
variable {P:Program} {s s1:AS} {U7:aJ} {t:Tr AV}
end
noncomputable section
end
section
variable {P:Program} {F:Nat->Option (List AV)} {sp:Sp} {g n k:Nat} {ad:Option<|Nat×Nat} {cp:aZ} {s:AS} {l:List AV} {a b c d:ByteArray} {n1 n2 n3 n4:Nat}
end
end Go.Rn
namespace Go.Rn
open Go.RowKit
noncomputable section
end
end Go.Rn
namespace Go.Rn
end Go.Rn
namespace Go.Rn
open Go.RowKit
section
variable {P:Program} {s:AS} {U7:aJ} {t:Tr AV}
theorem rB{n off k:Nat}{l:List AV}(h1:Nat.blt n s.nx=true)(h2:s.h.get n=some (.cells l.length (Tr.fill l 0 .nil) []))(hl:l.length<=top)(VB:0<k)(hk:off+k<=l.length):dH n off k s= .ok ((l.drop off).take k) (aN n s):=by
 cases k with
 |zero=>omega
 |succ k=>
  show((a9 n).bind fun o=>match o with
   | .cells m t z=>aB (Nat.ble (off+(k+1)) m) <| lift (fy t z (k+1) off)
   | .ro m t=>aB (Nat.ble (off+(k+1)) m) <| lift (fy t [] (k+1) off)
   |_=>fail) s=_
  rw[M.bg<|ko h1 h2];show aB (Nat.ble (off+(k+1)) l.length) (lift<|fy (Tr.fill l 0 .nil) [] (k+1) off) (aN n s)=_;rw[aK.2 hk,bD,Ck hl _ _ hk];rfl
theorem QB{α:Type}{enc:α->List AV}{ts:Array TypeId}{ty e:TypeId}{i:TypeInfo}{x y:Operand}{l L:List α}{n len:Nat}{cap:aZ}{n0 o0 k0:Nat}(hx:ar t x=some (.slice (some (n,0)) len cap))(hlen:len=l.length)(hy:ar t y=some (.ch n0 o0 k0))(h0:ts[0]? =some ty)(hu:P.underlying ty=some (.slice e))(hi:P.info? e=some i)(hz:and (lT i) (jO P ts[1]?)=true)(cO:D1 i.size len cap=true)(gG:top<=n0)(dQ:∀s,U7 (.row n0 o0<|k0*i.size) [] s= .ok (.agg (L.map enc).flatten) s)(hk:k0=L.length)(hn:s.h.get n=some (aD enc l))(cA:(Nat.blt n s.nx&&Nat.blt s.nx top)=true)(pE:∀x:α,(enc x).length=i.size/\(enc x).all AV.bu=true)(hb:Nat.beq i.bytes 0=false)(nj:2*(l.length+L.length)*i.bytes+4096*i.bytes<=room)(gU:(l.length+L.length)*i.size<=top):
 ∃rd wr,(∀k∈rd,k=n\/k∈s.rd)/\(∀k∈wr,k=n\/k∈s.wr)/\(s.mark=0->rd=s.rd/\wr=s.wr)/\(bC P<|.call ⟨.builtin .append, #[x,y],ts⟩).val U7 t s= .ok (.slice (some (s.nx,0)) (l++L).length<|.aU (l++L).length i.size) ⟨(s.h.put n none).put s.nx<|some<|aD enc<|l++L,s.nx+1,s.mark,rd,wr⟩:=by
 subst hlen;subst hk;obtain⟨jI,oD⟩:=and_true.1 cA;have SI:=(blt_eq _ _).mp jI;have tp:=(blt_eq _ _).mp oD;have jT:∀l:List α,(l.map enc).flatten.length=l.length*i.size:=fun l=>by
  have:=uw (K:=i.size) (l:=l.map enc) fun c hc=>by obtain⟨a,_,rfl⟩:=List.mem_map.1 hc;exact(pE a).1
  rw[this,List.length_map]
 have mh:∀l:List α,(l.map enc).flatten.all AV.bu=true:=by
  intro l;induction l with
  |nil=>rfl
  |cons x l ih=>simp only[List.map_cons,List.flatten_cons,List.all_append,ih,(pE x).2,Bool.and_true]
 have aW:(l.map enc).flatten.length<=top:=by rw[jT];have:=Nat.mul_le_mul_right i.size (show l.length<=l.length+L.length by omega);omega
 have Ee:∃rd,(∀k∈rd,k=n\/k∈s.rd)/\(s.mark=0->rd=s.rd)/\dH n 0 (l.length*i.size) s= .ok (l.map enc).flatten ⟨s.h,s.nx,s.mark,rd,s.wr⟩:=by
  cases hk:l.length*i.size with
  |zero=>have:(l.map enc).flatten=[]:=List.eq_nil_of_length_eq_zero (by rw[jT,hk]);rw[this];exact⟨s.rd,fun k h=>.inr h,fun _=>rfl,rfl⟩
  |succ k=>
   have hr:=rB (n:=n) (off:=0) (k:=k+1) (l:=(l.map enc).flatten) (s:=s) jI hn aW (Nat.succ_pos _) (by rw[jT,hk];omega);rw[List.drop_zero, ←hk, ←jT,List.take_length] at hr;rw[←hk, ←jT];refine⟨(aN n s).rd,?_,fun hm=>?_,?_⟩
   ·intro k h;unfold aN at h;cases q:Nat.blt n s.mark with
    |false=>rw[q] at h;exact .inr h
    |true=>rw[q] at h;rcases List.mem_cons.1 h with h|h;exact .inl h;exact .inr h
   ·unfold aN;rw[hm,show Nat.blt n 0=false from by cases q:Nat.blt n 0 with|false=>rfl|true=>have:=(blt_eq _ _).mp q;omega]
   ·rw[hr];congr 1;unfold aN;cases Nat.blt n s.mark<;>rfl
 obtain⟨dq,a1,a2,a3⟩:=Ee;have jy:∃rd wr,(∀k∈rd,k=n\/k∈s.rd)/\(∀k∈wr,k=n\/k∈s.wr)/\(s.mark=0->rd=s.rd/\wr=s.wr)/\
  ((a9 n).bind fun ob=>aB ob.nV <| (ba n none).bind fun _=>grown i.size i.bytes (l.length+L.length) (l.map enc).flatten (L.map enc).flatten) ⟨s.h,s.nx,s.mark,dq,s.wr⟩= .ok (.slice (some (s.nx,0)) (l.length+L.length)<|.aU (l.length+L.length) i.size) ⟨(s.h.put n none).put s.nx<|some<|aD enc<|l++L,s.nx+1,s.mark,rd,wr⟩:=by
  rw[M.bg<|ko (s:=⟨s.h,s.nx,s.mark,dq,s.wr⟩) jI hn];rw[show(aD enc l).nV=true from rfl,bD];obtain⟨b1,b2,b3⟩:=fW n ⟨s.h,s.nx,s.mark,dq,s.wr⟩;rw[M.bg<|qj (o:=none) (p:=aD enc l) (s:=aN n ⟨s.h,s.nx,s.mark,dq,s.wr⟩) (by rw[b2];exact jI) (by rw[b1];exact hn) rfl (by rw[blt_eq];omega)];have EC:(l.map enc).flatten++(L.map enc).flatten=((l++L).map enc).flatten:=by rw[List.map_append,List.flatten_append]
  unfold grown;rw[show(and (Nat.ble (2*(l.length+L.length)*i.bytes+4096*i.bytes) room)<|not<|Nat.beq i.bytes 0)=true from and_true.2 ⟨aK.2 nj,by rw[hb];rfl⟩,bD,EC];have hw:∃rd wr,(∀k∈rd,k=n\/k∈s.rd)/\(∀k∈wr,k=n\/k∈s.wr)/\(s.mark=0->rd=s.rd/\wr=s.wr)/\eY n none (aN n ⟨s.h,s.nx,s.mark,dq,s.wr⟩)=⟨s.h.put n none,s.nx,s.mark,rd,wr⟩:=by
   unfold eY aN;cases q:Nat.blt n s.mark with
   |false=>refine⟨dq,s.wr,a1,fun k h=>.inr h,fun hm=>⟨a2 hm,rfl⟩,?_⟩;show(@Bool.rec (fun _=>AS) _ _<|Nat.blt n s.mark)=_;rw[q]
   |true=>
    refine⟨n::n::dq,n::s.wr,?_,?_,fun hm=>?_,?_⟩
    ·intro k h;rcases List.mem_cons.1 h with h|h
     ·exact .inl h
     ·rcases List.mem_cons.1 h with h|h
      ·exact .inl h
      ·exact a1 k h
    ·intro k h;rcases List.mem_cons.1 h with h|h
     ·exact .inl h
     ·exact .inr h
    ·rw[hm] at q;have:=(blt_eq _ _).mp q;omega
    ·show(@Bool.rec (fun _=>AS) _ _<|Nat.blt n s.mark)=_;rw[q]
  obtain⟨rd,wr,c1,c2,c3,c4⟩:=hw;rw[c4];refine⟨rd,wr,c1,c2,c3,?_⟩;have jV:=wW (s:=⟨s.h.put n none,s.nx,s.mark,rd,wr⟩) (l:=((l++L).map enc).flatten) (by rw[jT];simpa using gU) (mh _) tp;exact(M.bg jV).trans rfl
 obtain⟨rd,wr,d1,d2,d3,d4⟩:=jy;refine⟨rd,wr,d1,d2,d3,?_⟩;show iP P .append ts [x,y] U7 t s=_;unfold iP;have iH:eJ (ar t) [x,y]=some [.slice (some (n,0)) l.length cap,.ch n0 o0 L.length]:=by simp only[eJ,hx,hy]
 rw[iH,aO];show sq P U7 ts (.slice (some (n,0)) l.length cap) n0 o0 L.length s=_;unfold sq;rw[aK.2 gG,bD,h0,aO];simp only[hu];rw[hi,aO,hz,bD,cO,bD];have hr:mN U7 n0 o0 (L.length*i.size) s= .ok (L.map enc).flatten s:=by
  rcases Nat.eq_zero_or_pos (L.length*i.size) with Fq|Fq
  ·rw[List.eq_nil_of_length_eq_zero<|(jT L).trans Fq,Fq];rfl
  rw[show mN U7 n0 o0 (L.length*i.size)=(U7 (.row n0 o0<|L.length*i.size) []).bind fun x=>match x with
   | .agg l=>aB (Nat.beq l.length<|L.length*i.size) <| M.pure l
   |_=>fail from by obtain⟨m,hm⟩:∃m,L.length*i.size=m+1:=⟨L.length*i.size - 1,by omega⟩;rw[hm];rfl]
  rw[M.bg<|dQ s];show aB (Nat.beq (L.map enc).flatten.length<|L.length*i.size) (M.pure (L.map enc).flatten) s=_;rw[jT,cC.2 rfl,bD];rfl
 rw[M.bg hr,M.bg a3,d4];simp
theorem QC{α:Type}{enc:α->List AV}{ts:Array TypeId}{ty e:TypeId}{i:TypeInfo}{x y:Operand}{l:List α}{c:α}{n m:Nat}(hx:ar t x=some (.slice (some (n,0)) l.length<|.aU l.length i.size))(hy:ar t y=some (.slice (some (m,0)) 1<|.known 1))(h0:ts[0]? =some ty)(hu:P.underlying ty=some (.slice e))(hi:P.info? e=some i)(hz:and (lT i) (jO P ts[1]?)=true)(hn:s.h.get n=some (aD enc l))(hm:s.h.get m=some (.cells (enc c).length (Tr.fill (enc c) 0 .nil) []))(cA:(Nat.blt n s.nx&&(Nat.blt m s.nx&&Nat.blt s.nx top))=true)(pE:∀x:α,(enc x).length=i.size/\(enc x).all AV.bu=true)(Bf:0<i.size)(hb:Nat.beq i.bytes 0=false)(nj:2*(l.length+1)*i.bytes+4096*i.bytes<=room)(gU:(l.length+1)*i.size<=top):
 ∃rd wr,(∀k∈rd,k=n\/k=m\/k∈s.rd)/\(∀k∈wr,k=n\/k∈s.wr)/\(s.mark=0->rd=s.rd/\wr=s.wr)/\(bC P<|.call ⟨.builtin .append, #[x,y],ts⟩).val U7 t s= .ok (.slice (some (s.nx,0)) (l++[c]).length<|.aU (l++[c]).length i.size) ⟨(s.h.put n none).put s.nx<|some<|aD enc<|l++[c],s.nx+1,s.mark,rd,wr⟩:=by
 obtain⟨jI,cA⟩:=and_true.1 cA;obtain⟨da,oD⟩:=and_true.1 cA;have SI:=(blt_eq _ _).mp jI;have tp:=(blt_eq _ _).mp oD;have jT:∀l:List α,(l.map enc).flatten.length=l.length*i.size:=fun l=>by
  have:=uw (K:=i.size) (l:=l.map enc) fun c hc=>by obtain⟨a,_,rfl⟩:=List.mem_map.1 hc;exact(pE a).1
  rw[this,List.length_map]
 have mh:∀l:List α,(l.map enc).flatten.all AV.bu=true:=by
  intro l;induction l with
  |nil=>rfl
  |cons x l ih=>simp only[List.map_cons,List.flatten_cons,List.all_append,ih,(pE x).2,Bool.and_true]
 have Ko:(l.length+1)*i.size=l.length*i.size+i.size:=by rw[Nat.add_mul,Nat.one_mul]
 have aW:(l.map enc).flatten.length<=top:=by rw[jT];omega
 have nr:∀{k q:Nat} {s':AS},k∈(aN q s').rd->k=q\/k∈s'.rd:=by
  intro k q s' h;unfold aN at h;cases z:Nat.blt q s'.mark with
  |false=>rw[z] at h;exact .inr h
  |true=>rw[z] at h;rcases List.mem_cons.1 h with h|h;exact .inl h;exact .inr h
 have fN:∀(q:Nat) (s':AS),s'.mark=0->aN q s'=s':=by intro q s' h;unfold aN;rw[h,show Nat.blt q 0=false from by cases z:Nat.blt q 0 with|false=>rfl|true=>have:=(blt_eq _ _).mp z;omega]
 have J1:∀(q:Nat) (s':AS),aN q s'=⟨s'.h,s'.nx,s'.mark,(aN q s').rd,s'.wr⟩:=by intro q s';unfold aN;cases Nat.blt q s'.mark<;>rfl
 have hf:firstCells i.size 1 (.slice (some (m,0)) 1<|.known 1) s= .ok (enc c) (aN m s):=by rw[uj (by simp),Nat.one_mul];have hr:=rB (n:=m) (off:=0) (k:=i.size) (l:=enc c) (s:=s) da hm (by rw[(pE c).1];omega) Bf (by rw[(pE c).1];omega);rw[hr,List.drop_zero, ←(pE c).1,List.take_length]
 let s1:AS:=⟨s.h,s.nx,s.mark,(aN m s).rd,s.wr⟩;have TU:aN m s=s1:=J1 m s;have Ee:∃rd,(∀k∈rd,k=n\/k∈s1.rd)/\(s.mark=0->rd=s1.rd)/\dH n 0 (l.length*i.size) s1= .ok (l.map enc).flatten ⟨s.h,s.nx,s.mark,rd,s.wr⟩:=by
  cases hk:l.length*i.size with
  |zero=>have:(l.map enc).flatten=[]:=List.eq_nil_of_length_eq_zero (by rw[jT,hk]);rw[this];exact⟨s1.rd,fun k h=>.inr h,fun _=>rfl,rfl⟩
  |succ k=>have hr:=rB (n:=n) (off:=0) (k:=k+1) (l:=(l.map enc).flatten) (s:=s1) jI hn aW (Nat.succ_pos _) (by rw[jT,hk];omega);rw[List.drop_zero, ←hk, ←jT,List.take_length] at hr;rw[←hk, ←jT];exact⟨(aN n s1).rd,fun k h=>nr h,fun qX=>by rw[fN n s1 qX],hr.trans<|congrArg _<|J1 n s1⟩
 obtain⟨dq,a1,a2,a3⟩:=Ee;have jy:∃rd wr,(∀k∈rd,k=n\/k∈s1.rd)/\(∀k∈wr,k=n\/k∈s.wr)/\(s.mark=0->rd=s1.rd/\wr=s.wr)/\
  ((a9 n).bind fun ob=>aB ob.nV <| (ba n none).bind fun _=>grown i.size i.bytes (l.length+1) (l.map enc).flatten<|enc c) ⟨s.h,s.nx,s.mark,dq,s.wr⟩= .ok (.slice (some (s.nx,0)) (l.length+1)<|.aU (l.length+1) i.size) ⟨(s.h.put n none).put s.nx<|some<|aD enc<|l++[c],s.nx+1,s.mark,rd,wr⟩:=by
  rw[M.bg<|ko (s:=⟨s.h,s.nx,s.mark,dq,s.wr⟩) jI hn];rw[show(aD enc l).nV=true from rfl,bD];obtain⟨b1,b2,b3⟩:=fW n ⟨s.h,s.nx,s.mark,dq,s.wr⟩;rw[M.bg<|qj (o:=none) (p:=aD enc l) (s:=aN n ⟨s.h,s.nx,s.mark,dq,s.wr⟩) (by rw[b2];exact jI) (by rw[b1];exact hn) rfl (by rw[blt_eq];omega)];have EC:(l.map enc).flatten++enc c=((l++[c]).map enc).flatten:=by simp
  unfold grown;rw[show(and (Nat.ble (2*(l.length+1)*i.bytes+4096*i.bytes) room)<|not<|Nat.beq i.bytes 0)=true from and_true.2 ⟨aK.2 nj,by rw[hb];rfl⟩,bD,EC];have hw:∃rd wr,(∀k∈rd,k=n\/k∈s1.rd)/\(∀k∈wr,k=n\/k∈s.wr)/\(s.mark=0->rd=s1.rd/\wr=s.wr)/\eY n none (aN n ⟨s.h,s.nx,s.mark,dq,s.wr⟩)=⟨s.h.put n none,s.nx,s.mark,rd,wr⟩:=by
   unfold eY aN;cases q:Nat.blt n s.mark with
   |false=>refine⟨dq,s.wr,a1,fun k h=>.inr h,fun hm=>⟨a2 hm,rfl⟩,?_⟩;show(@Bool.rec (fun _=>AS) _ _<|Nat.blt n s.mark)=_;rw[q]
   |true=>
    refine⟨n::n::dq,n::s.wr,?_,?_,fun hm=>?_,?_⟩
    ·intro k h;rcases List.mem_cons.1 h with h|h
     ·exact .inl h
     ·rcases List.mem_cons.1 h with h|h
      ·exact .inl h
      ·exact a1 k h
    ·intro k h;rcases List.mem_cons.1 h with h|h
     ·exact .inl h
     ·exact .inr h
    ·rw[hm] at q;have:=(blt_eq _ _).mp q;omega
    ·show(@Bool.rec (fun _=>AS) _ _<|Nat.blt n s.mark)=_;rw[q]
  obtain⟨rd,wr,c1,c2,c3,c4⟩:=hw;rw[c4];refine⟨rd,wr,c1,c2,c3,?_⟩;have jV:=wW (s:=⟨s.h.put n none,s.nx,s.mark,rd,wr⟩) (l:=((l++[c]).map enc).flatten) (by rw[jT];simpa using gU) (mh _) tp;exact(M.bg jV).trans rfl
 obtain⟨rd,wr,d1,d2,d3,d4⟩:=jy;refine⟨rd,wr,fun k h=>?_,d2,fun h=>⟨(d3 h).1.trans (by show(aN m s).rd=s.rd;rw[fN m s h]),(d3 h).2⟩,?_⟩
 ·rcases d1 k h with h|h
  ·exact .inl h
  ·exact .inr<|nr h
 show iP P .append ts [x,y] U7 t s=_;unfold iP;have iH:eJ (ar t) [x,y]=some [.slice (some (n,0)) l.length<|.aU l.length i.size,.slice (some (m,0)) 1<|.known 1]:=by simp only[eJ,hx,hy]
 rw[iH,aO];show gL P ts (.slice (some (n,0)) l.length<|.aU l.length i.size) (.slice (some (m,0)) 1<|.known 1) s=_;unfold gL;rw[h0,aO];simp only[hu];rw[hi,aO,hz,bD];show((firstCells i.size 1<|.slice (some (m,0)) 1<|.known 1).bind fun new=>aB (Nat.beq new.length<|1*i.size) <| ji i.size i.bytes (some (n,0)) l.length (.aU l.length i.size) 1 new) s=_;rw[M.bg hf,(pE c).1,Nat.one_mul,cC.2 rfl,bD,TU];show(aB (Nat.beq i.size i.size) <| match Nat.ble (l.length+1) l.length with
  |true=>match (some (n,0):Option<|Nat×Nat) with
   |some (m,o)=>(oR m (o+l.length*i.size)<|enc c).bind fun _=>M.pure (.slice (some (m,o)) (l.length+1)<|.aU l.length i.size)
   |none=>fail
  |false=>match (some (n,0):Option<|Nat×Nat) with
   |some (m,0)=>(dH m 0<|l.length*i.size).bind fun bJ=>(a9 m).bind fun o=>aB o.nV <| (ba m none).bind fun _=>grown i.size i.bytes (l.length+1) bJ (enc c)
   |_=>fail) s1=_
 have yl:Nat.ble (l.length+1) l.length=false:=by
  cases q:Nat.ble (l.length+1) l.length with
  |false=>rfl
  |true=>have:=aK.1 q;omega
 rw[cC.2 rfl,bD];simp only[yl];rw[M.bg a3,d4];simp
end
end Go.Rn
namespace Go.Rn
open Go.RowKit
section
variable {P:Program} {s s1:AS} {U7:aJ} {t:Tr AV}
theorem RD{ty kt et:TypeId}{x i:Operand}{k:Int}{m:List<|Int×Int}{n:Nat}(hx:ar t x=some (.map<|some n))(hi:ar t i=some (.int .i64 k))(hu:P.underlying ty=some (.map kt et))(hk:fV P 10000 kt (.int .i64 k)=true)(hp:plainKey P kt (.int .i64 k)=true)(hz:fC P et=some (.int .i64 0))(hn:s.h.get n=some (pC m))(cA:Nat.blt n s.nx=true):(bC P<|.lookup ty x i false).val U7 t s= .ok (.int .i64<|getM m k) (aN n s):=by
 show kZ P ty x i false U7 t s=_;unfold kZ;rw[hx,hi,aO,aO];unfold kY;simp only[hu];have hf:nZ P kt (.int .i64 k) (.map<|some n) s= .ok (cU m) (aN n s):=by
  show((a9 n).bind fun o=>match o with
   | .map es _=>M.pure es
   | .cW es=>aB (or (plainKey P kt<|.int .i64 k)<|short es) <| M.pure es
   |_=>fail) s=_
  rw[M.bg<|ko cA hn];rfl
 rw[M.bg hf,hk,bD];have nI:findKey P kt (.int .i64 k) (cU m)=dW (.int .i64 k) (cU m) 0:=by unfold findKey;simp only[jY,hp]
 rw[nI];rcases Aa k m 0 with⟨h1,h2,_⟩|⟨j,y,h1,h2,_⟩
 ·rw[h1,aO,h2];show(aG (fC P et) fun z=>M.pure<|ow false z false) (aN n s)=_;rw[hz,aO];rfl
 ·rw[h1,aO,h2];rfl
theorem RE{ty kt et:TypeId}{x i y:Operand}{k v:Int}{m:List<|Int×Int}{n:Nat}(hx:ar t x=some (.map<|some n))(hi:ar t i=some (.int .i64 k))(hy:ar t y=some (.int .i64 v))(hu:P.underlying ty=some (.map kt et))(hk:fV P 10000 kt (.int .i64 k)=true)(hp:plainKey P kt (.int .i64 k)=true)(hn:s.h.get n=some (pC m))(q1:Nat.blt n s.nx=true)(q2:Nat.blt n top=true):(bC P<|.mapUpdate ty x i y).val U7 t s= .ok (.tuple []) (eY n (some<|pC<|jA m k v)<|aN n s):=by
 show iR P ty x i y U7 t s=_;unfold iR;rw[hx,hi,hy,aO,aO,aO];have w:∀o:U,ba n (some o) (aN n s)= .ok () (eY n (some o)<|aN n s):=fun o=>qj (by rw[(fW n s).2.1];exact q1) (by rw[(fW n s).1];exact hn) rfl q2;have ED:jP P ty (.map<|some n) (.int .i64 k) (.int .i64 v) s= .ok () (eY n (some<|pC<|jA m k v)<|aN n s):=by
  unfold jP;simp only[hu];rw[M.bg<|ko q1 hn];show(aB (fV P 10000 kt<|.int .i64 k) <| aG (findKey P kt (.int .i64 k)<|cU m) fun f=>qB n (.int .i64 k) (.int .i64 v) (cU m) m.length f) (aN n s)=_;rw[hk,bD];have nI:findKey P kt (.int .i64 k) (cU m)=dW (.int .i64 k) (cU m) 0:=by unfold findKey;simp only[jY,hp]
  rw[nI];rcases Aa k m 0 with⟨h1,_,h3⟩|⟨j,z,h1,_,h3,h4⟩
  ·rw[h1,aO];show ba n (some<|.map (cU m++[(.int .i64 k,.int .i64 v)])<|m.length+1) (aN n s)=_;rw[w,h3 v];simp only[pC,cU,List.map_append,List.map_cons,List.map_nil,List.length_append,List.length_cons,List.length_nil]
  ·rw[h1,aO];show(aG (cU m)[0+j]? fun bJ=>aB (sameBits bJ.1<|.int .i64 k) <| ba n<|some<|.map (putAt (cU m) (0+j) (.int .i64 k)<|.int .i64 v) m.length) (aN n s)=_;rw[Nat.zero_add];have he:(cU m)[j]? =some (.int .i64 k,.int .i64 z):=by unfold cU;rw[List.getElem?_map,h3];rfl
   rw[he,aO];have hs:sameBits (.int .i64 k) (.int .i64 k)=true:=by show(match sameKey (.int .i64 k) (.int .i64 k) with|some true=>true|_=>false)=true;rw[Ik];simp
   show(aB (sameBits (.int .i64 k)<|.int .i64 k) <| ba n<|some<|.map (putAt (cU m) j (.int .i64 k)<|.int .i64 v) m.length) (aN n s)=_;rw[hs,bD,w,(h4 v).1];simp only[pC,(h4 v).2]
 rw[M.bg ED];rfl
noncomputable def qH(m:List<|Int×Int):U:=.cW<|cU m
def mn:List (Int×Int)->Int->Bool
 |[],_=>false
 |p::l,k=>if p.1=k then true else mn l k
theorem Io(k:Int):∀(m:List<|Int×Int) (i:Nat),(mn m k=false/\dW (.int .i64 k) (cU m) i=some none)\/∃j,mn m k=true/\dW (.int .i64 k) (cU m) i=some (some (j,.int .i64<|getM m k))
 |[],i=>.inl ⟨rfl,rfl⟩
 |p::l,i=>by
  have hf:dW (.int .i64 k) (cU<|p::l) i=(match some (k == p.1) with|none=>none|some true=>some (some (i,.int .i64 p.2))|some false=>dW (.int .i64 k) (cU l)<|i+1):=rfl;by_cases e:p.1=k
  ·refine .inr ⟨i,by unfold mn;rw[if_pos e],?_⟩;rw[hf,show(k == p.1)=true by simp[e],show getM (p::l) k=p.2 by simp[getM,e]]
  ·have bS:(k == p.1)=false:=by simp;exact fun q=>e q.symm
   rw[hf,bS,show mn (p::l) k=mn l k by simp[mn,e],show getM (p::l) k=getM l k by simp[getM,e]];exact Io k l<|i+1
theorem QD{ty kt et:TypeId}{x i:Operand}{k:Int}{m:List<|Int×Int}{n:Nat}(hx:ar t x=some (.map<|some n))(hi:ar t i=some (.int .i64 k))(hu:P.underlying ty=some (.map kt et))(hk:fV P 10000 kt (.int .i64 k)=true)(hp:plainKey P kt (.int .i64 k)=true)(hz:fC P et=some (.int .i64 0))(hn:s.h.get n=some (qH m))(cA:Nat.blt n s.nx=true):(bC P<|.lookup ty x i true).val U7 t s= .ok (.tuple [.int .i64 (if mn m k=true then getM m k else 0),.bool<|mn m k]) (aN n s):=by
 show kZ P ty x i true U7 t s=_;unfold kZ;rw[hx,hi,aO,aO];unfold kY;simp only[hu];have hf:nZ P kt (.int .i64 k) (.map<|some n) s= .ok (cU m) (aN n s):=by
  show((a9 n).bind fun o=>match o with
   | .map es _=>M.pure es
   | .cW es=>aB (or (plainKey P kt<|.int .i64 k)<|short es) <| M.pure es
   |_=>fail) s=_
  rw[M.bg<|ko cA hn];show(aB (or (plainKey P kt<|.int .i64 k)<|short<|cU m) <| M.pure<|cU m) (aN n s)=_;rw[hp,show(or true<|short<|cU m)=true from rfl,bD];rfl
 rw[M.bg hf,hk,bD];have nI:findKey P kt (.int .i64 k) (cU m)=dW (.int .i64 k) (cU m) 0:=by unfold findKey;simp only[jY,hp]
 rw[nI];rcases Io k m 0 with⟨h1,h2⟩|⟨j,h1,h2⟩
 ·rw[h2,aO,h1];show(aG (fC P et) fun z=>M.pure<|ow true z false) (aN n s)=_;rw[hz,aO];rfl
 ·rw[h2,aO,h1];rfl
theorem QE{ty kt et:TypeId}{x i y:Operand}{k v:Int}{m:List<|Int×Int}{n:Nat}(hx:ar t x=some (.map<|some n))(hi:ar t i=some (.int .i64 k))(hy:ar t y=some (.int .i64 v))(hu:P.underlying ty=some (.map kt et))(hk:fV P 10000 kt (.int .i64 k)=true)(hp:plainKey P kt (.int .i64 k)=true)(hn:s.h.get n=some (qH m))(q1:Nat.blt n s.nx=true)(q2:Nat.blt n top=true):(bC P<|.mapUpdate ty x i y).val U7 t s= .ok (.tuple []) (eY n (some<|qH<|jA m k v)<|aN n s):=by
 show iR P ty x i y U7 t s=_;unfold iR;rw[hx,hi,hy,aO,aO,aO];have w:∀o:U,ba n (some o) (aN n s)= .ok () (eY n (some o)<|aN n s):=fun o=>qj (by rw[(fW n s).2.1];exact q1) (by rw[(fW n s).1];exact hn) rfl q2;have ED:jP P ty (.map<|some n) (.int .i64 k) (.int .i64 v) s= .ok () (eY n (some<|qH<|jA m k v)<|aN n s):=by
  unfold jP;simp only[hu];rw[M.bg<|ko q1 hn];show(aB (and (plainKey P kt<|.int .i64 k)<|fV P 10000 kt<|.int .i64 k) <| aG (findKey P kt (.int .i64 k)<|cU m) fun f=>rN n (.int .i64 k) (.int .i64 v) (cU m) f) (aN n s)=_;rw[hk,hp,show(and true true)=true from rfl,bD];have nI:findKey P kt (.int .i64 k) (cU m)=dW (.int .i64 k) (cU m) 0:=by unfold findKey;simp only[jY,hp]
  rw[nI];rcases Aa k m 0 with⟨h1,_,h3⟩|⟨j,z,h1,_,h3,h4⟩
  ·rw[h1,aO];show ba n (some<|.cW<|cU m++[(.int .i64 k,.int .i64 v)]) (aN n s)=_;rw[w,h3 v];simp only[qH,cU,List.map_append,List.map_cons,List.map_nil]
  ·rw[h1,aO];show ba n (some<|.cW<|putAt (cU m) (0+j) (.int .i64 k)<|.int .i64 v) (aN n s)=_;rw[Nat.zero_add,w,(h4 v).1];rfl
 rw[M.bg ED];rfl
end
end Go.Rn
namespace Go.Rn
open Go.RowKit
section
variable {P:Program} {s:AS} {U7:aJ} {t:Tr AV}
theorem HP{n k:Nat}{l:List AV}{s:AS}(h1:Nat.blt n s.nx=true)(h2:s.h.get n=some (.cells l.length (Tr.fill l 0 .nil) []))(hl:l.length<=top)(hk:k<=l.length):
 ∃rd,(∀x∈rd,x=n\/x∈s.rd)/\(s.mark=0->rd=s.rd)/\dH n 0 k s= .ok (l.take k) ⟨s.h,s.nx,s.mark,rd,s.wr⟩:=by
 cases k with
 |zero=>exact⟨s.rd,fun x h=>.inr h,fun _=>rfl,rfl⟩
 |succ k=>
  have hr:=rB (n:=n) (off:=0) (k:=k+1) (l:=l) (s:=s) h1 h2 hl (Nat.succ_pos _) (by omega);rw[List.drop_zero] at hr;refine⟨(aN n s).rd,?_,fun hm=>?_,?_⟩
  ·intro k h;unfold aN at h;cases q:Nat.blt n s.mark with
   |false=>rw[q] at h;exact .inr h
   |true=>rw[q] at h;rcases List.mem_cons.1 h with h|h;exact .inl h;exact .inr h
  ·unfold aN;rw[hm,show Nat.blt n 0=false from by cases q:Nat.blt n 0 with|false=>rfl|true=>have:=(blt_eq _ _).mp q;omega]
  ·rw[hr];congr 1;unfold aN;cases Nat.blt n s.mark<;>rfl
theorem QF{ts:Array TypeId}{ty e:TypeId}{i:TypeInfo}{x y:Operand}{L1 L2 l:List AV}{n m len k:Nat}{im:aZ}(hx:ar t x=some (.slice (some (n,0)) len<|.known len))(hy:ar t y=some (.slice (some (m,0)) k im))(h0:ts[0]? =some ty)(hu:P.underlying ty=some (.slice e))(hi:P.info? e=some i)(hz:and (lT i) (jO P ts[1]?)=true)(hk:1<=k)(hn:s.h.get n=some (.cells L1.length (Tr.fill L1 0 .nil) []))(hm:s.h.get m=some (.cells L2.length (Tr.fill L2 0 .nil) []))(kO:L1.length<=top)(gV:L2.length<=top)(h1:len*i.size<=L1.length)(h2:k*i.size<=L2.length)(he:L1.take (len*i.size)++L2.take (k*i.size)=l)(cA:(Nat.blt n s.nx&&(Nat.blt m s.nx&&Nat.blt s.nx top))=true)(mh:l.all AV.bu=true)(hb:Nat.beq i.bytes 0=false)(nj:2*(len+k)*i.bytes+4096*i.bytes<=room)(gU:l.length<=top):
 ∃rd wr,(∀q∈rd,q=n\/q=m\/q∈s.rd)/\(∀q∈wr,q∈s.wr)/\(s.mark=0->rd=s.rd/\wr=s.wr)/\(bC P<|.call ⟨.builtin .append, #[x,y],ts⟩).val U7 t s= .ok (.slice (some (s.nx,0)) (len+k)<|.aU (len+k) i.size) ⟨s.h.put s.nx<|some<|.cells l.length (Tr.fill l 0 .nil) [],s.nx+1,s.mark,rd,wr⟩:=by
 obtain⟨jI,cA⟩:=and_true.1 cA;obtain⟨da,oD⟩:=and_true.1 cA;have tp:=(blt_eq _ _).mp oD;have hf:firstCells i.size k (.slice (some (m,0)) k im) s=dH m 0 (k*i.size) s:=by
  cases k with
  |zero=>omega
  |succ k=>cases im<;>rfl
 obtain⟨dq,a1,a2,a3⟩:=HP da hm gV h2;obtain⟨tQ,b1,b2,b3⟩:=HP (s:=⟨s.h,s.nx,s.mark,dq,s.wr⟩) jI hn kO h1;refine⟨tQ,s.wr,fun q hq=>?_,fun q hq=>hq,fun qX=>⟨(b2 qX).trans<|a2 qX,rfl⟩,?_⟩
 ·rcases b1 q hq with h|h
  ·exact .inl h
  ·exact .inr<|a1 q h
 show iP P .append ts [x,y] U7 t s=_;unfold iP;have iH:eJ (ar t) [x,y]=some [.slice (some (n,0)) len<|.known len,.slice (some (m,0)) k im]:=by simp only[eJ,hx,hy]
 rw[iH,aO];show gL P ts (.slice (some (n,0)) len<|.known len) (.slice (some (m,0)) k im) s=_;unfold gL;rw[h0,aO];simp only[hu];rw[hi,aO,hz,bD];show(aG (some k) fun tZ=>(firstCells i.size tZ<|.slice (some (m,0)) k im).bind fun new=>aB (Nat.beq new.length<|tZ*i.size) <| ji i.size i.bytes (some (n,0)) len (.known len) tZ new) s=_;rw[aO,M.bg<|hf.trans a3];have Ef:(L2.take<|k*i.size).length=k*i.size:=by rw[List.length_take];omega
 rw[Ef,cC.2 rfl,bD];unfold ji;have yl:Nat.ble (len+k) len=false:=by cases q:Nat.ble (len+k) len with|false=>rfl|true=>have:=aK.1 q;omega
 simp only[yl];have Fs:firstCells i.size len (.slice (some (n,0)) len<|.known len) ⟨s.h,s.nx,s.mark,dq,s.wr⟩=dH n 0 (len*i.size) ⟨s.h,s.nx,s.mark,dq,s.wr⟩:=by cases len<;>rfl
 rw[M.bg<|Fs.trans b3];unfold grown;rw[show(and (Nat.ble (2*(len+k)*i.bytes+4096*i.bytes) room)<|not<|Nat.beq i.bytes 0)=true from and_true.2 ⟨aK.2 nj,by rw[hb];rfl⟩,bD,he];have jV:=wW (s:=⟨s.h,s.nx,s.mark,tQ,s.wr⟩) (l:=l) gU mh tp;exact(M.bg jV).trans rfl
noncomputable def oo(o:U)(s:AS):AS:=⟨s.h.put s.nx<|some o,s.nx+1,s.mark,s.rd,s.wr⟩
theorem QG{ts:Array TypeId}{ty e:TypeId}{i:TypeInfo}{x y:Operand}{L1 L2 l:List AV}{n m len k:Nat}{im:aZ}(hx:ar t x=some (.slice (some (n,0)) len<|.known len))(hy:ar t y=some (.slice (some (m,0)) k im))(h0:ts[0]? =some ty)(hu:P.underlying ty=some (.slice e))(hi:P.info? e=some i)(hz:and (lT i) (jO P ts[1]?)=true)(hlen:1<=len)(hk:1<=k)(hs:1<=i.size)(hn:s.h.get n=some (.cells L1.length (Tr.fill L1 0 .nil) []))(hm:s.h.get m=some (.cells L2.length (Tr.fill L2 0 .nil) []))(kO:L1.length<=top)(gV:L2.length<=top)(h1:len*i.size<=L1.length)(h2:k*i.size<=L2.length)(he:L1.take (len*i.size)++L2.take (k*i.size)=l)(cA:(Nat.blt n s.nx&&(Nat.blt m s.nx&&Nat.blt s.nx top))=true)(mh:l.all AV.bu=true)(hb:Nat.beq i.bytes 0=false)(nj:2*(len+k)*i.bytes+4096*i.bytes<=room)(gU:l.length<=top):
 (bC P<|.call ⟨.builtin .append, #[x,y],ts⟩).val U7 t s= .ok (.slice (some (s.nx,0)) (len+k)<|.aU (len+k) i.size) (oo (.cells l.length (Tr.fill l 0 .nil) [])<|aN n<|aN m s):=by
 obtain⟨jI,cA⟩:=and_true.1 cA;obtain⟨da,oD⟩:=and_true.1 cA;have tp:=(blt_eq _ _).mp oD;have hf:firstCells i.size k (.slice (some (m,0)) k im) s=dH m 0 (k*i.size) s:=by
  cases k with
  |zero=>omega
  |succ k=>cases im<;>rfl
 have p1:0<k*i.size:=Nat.mul_pos (by omega) (by omega);have p2:0<len*i.size:=Nat.mul_pos (by omega) (by omega);have a3:=rB (n:=m) (off:=0) (k:=k*i.size) (l:=L2) (s:=s) da hm gV p1 (by omega);have b3:=rB (n:=n) (off:=0) (k:=len*i.size) (l:=L1) (s:=aN m s) (by rw[(fW m s).2.1];exact jI) (by rw[(fW m s).1];exact hn) kO p2 (by omega);rw[List.drop_zero] at a3 b3;show iP P .append ts [x,y] U7 t s=_;unfold iP;have iH:eJ (ar t) [x,y]=some [.slice (some (n,0)) len<|.known len,.slice (some (m,0)) k im]:=by simp only[eJ,hx,hy]
 rw[iH,aO];show gL P ts (.slice (some (n,0)) len<|.known len) (.slice (some (m,0)) k im) s=_;unfold gL;rw[h0,aO];simp only[hu];rw[hi,aO,hz,bD];show(aG (some k) fun tZ=>(firstCells i.size tZ<|.slice (some (m,0)) k im).bind fun new=>aB (Nat.beq new.length<|tZ*i.size) <| ji i.size i.bytes (some (n,0)) len (.known len) tZ new) s=_;rw[aO,M.bg<|hf.trans a3];have Ef:(L2.take<|k*i.size).length=k*i.size:=by rw[List.length_take];omega
 rw[Ef,cC.2 rfl,bD];unfold ji;have yl:Nat.ble (len+k) len=false:=by cases q:Nat.ble (len+k) len with|false=>rfl|true=>have:=aK.1 q;omega
 simp only[yl];have Fs:firstCells i.size len (.slice (some (n,0)) len<|.known len) (aN m s)=dH n 0 (len*i.size) (aN m s):=by
  cases len with
  |zero=>omega
  |succ k=>rfl
 rw[M.bg<|Fs.trans b3];unfold grown;rw[show(and (Nat.ble (2*(len+k)*i.bytes+4096*i.bytes) room)<|not<|Nat.beq i.bytes 0)=true from and_true.2 ⟨aK.2 nj,by rw[hb];rfl⟩,bD,he];have bq:(aN n<|aN m s).nx=s.nx:=by rw[(fW n _).2.1,(fW m _).2.1]
 have jV:=wW (s:=aN n<|aN m s) (l:=l) gU mh (by rw[bq];exact tp);rw[bq] at jV;refine(M.bg jV).trans ?_;unfold oo;rw[bq];rfl
end
end Go.Rn
namespace Go.Rn
open Go.RowKit
noncomputable section
inductive Pl where
 |no
 |st (k:Nat) (p:Pl)
 |rg (p:Pl)
 |go (n:Nat) (p:Pl)
 |en (p:Pl)
 |fk (p q:Pl)
 |vl (v:AV) (p:Pl)
 |kn (v:AV) (p:Pl)
 |kp (c:Prop) (d:Decidable c) (p q:Pl)
 |ca (n m:Nat) (p:Pl)
 |ef (p q:Pl)
 |jn (v:ByteArray) (p:Pl)
 |ss (p:Pl)
 |cu (v:AV) (s2:AS) (p:Pl)
 |cg (v:AV) (F:AS->AS) (Q:AS->Prop) (p:Pl)
 |lx (v:AV) (F:AS->AS) (Q:AS->Prop) (p:Pl)
 |mx (F:AS->AS) (Q:AS->Prop) (p:Pl)
 |ml (v:AV) (F:AS->AS) (Q:AS->Prop) (p:Pl)
 |px (v:AV) (F:AS->AS) (Q:AS->Prop) (p:Pl)
 |c2 (φ:Prop) (v1:AV) (L1:List<|Nat×Option U) (v2:AV) (L2:List<|Nat×Option U) (eB:Nat) (R W:List Nat) (p q:Pl)
 |ap (α:Type) (enc:α->List AV) (l:List α) (c:α) (p:Pl)
 |al (α:Type) (enc:α->List AV) (l L:List α) (p:Pl)
 |sf (lo hi:Int) (p:Pl)
 |ix (p:Pl)
 |bV (p:Pl)
 |ld (cs:List AV) (p:Pl)
 |wg (b:Bool) (p q:Pl)
 |bW (cs:List AV) (p:Pl)
 |lL (o:U) (p:Pl)
 |sh (p:Pl)
 |rm (p:Pl)
 |lk (m:List<|Int×Int) (p:Pl)
 |mu (m:List<|Int×Int) (p:Pl)
 |ls (l:List<|Nat×AV) (o:List<|Nat×Option U) (nx:Nat) (p:Pl)
 |rn (l0:List<|Nat×AV) (o0:List<|Nat×Option U) (l:List<|Nat×AV) (o:List<|Nat×Option U) (aP nx:Nat) (p:Pl)
 |bk (l:List<|Nat×AV) (o:List<|Nat×Option U) (nx:Nat) (p:Pl)
 |cy (v:AV) (s2:AS) (p:Pl)
 |TV (p:Pl)
 |kt (y v':AV) (p:Pl)
 |nt (v:Option AV) (res:AV->AV) (p:Pl)
 |TW (m:List<|Int×Int) (p q:Pl)
 |TY (m:List<|Int×Int) (p:Pl)
 |so (p:Pl)
 |s3 (p:Pl)
 |ao (L1 L2 l:List AV) (p:Pl)
 |an (L1 L2 l:List AV) (p:Pl)
 |il (p:Pl)
 |rt (k:Nat) (p:Pl)
 |cut (p:Pl)
inductive BO where
 |fr (f nt:Nat) (K:List Item) (t:Tr AV) (s:AS)
 |rg (f nt:Nat) (K:List Item) (ops:Array Oper) (D:Option<|List bM) (i:Nat) (t:Tr AV) (s:AS)
structure Env where
 P:Program
 sp:Sp
 F:Nat->Option (List AV)
 nJ:FuncId->Option (List AV->Option AV)
 jn:FuncId->Bool
 ck:AS->Bool
 cs:AS->AS
 lo:Nat
 fg:Bool
 tt:FuncId->Option (Nat×(AV->List AV->Option (AV×AV)))
 tn:FuncId->Option (Nat×(List AV->Option (Option AV×(AV->AV))))
 n0:Nat
def vO(nx:Nat)(l:List<|Nat×AV)(o:List<|Nat×Option U):Prop:=∀r:Nat->Nat,(∀k,k<nx->r k=k)->(∀k,top<=k->r k=k)->(∀p∈l,bf r p.2 p.2)/\(∀p∈o,∀x,p.2=some x->gm r x x)
def gE(F:Nat->Option (List AV))(lo aP:Nat)(l0:List<|Nat×AV)(o0:List<|Nat×Option U)(l:List<|Nat×AV)(o:List<|Nat×Option U)(nx:Nat):Prop:=
 ∃(fz:gD) (r:Nat->Nat),(∀k,k<lo->r k=k)/\(∀k,nx<=k->k<top->aP<=r k/\r k<top)/\(∀k,top<=k->r k=k)/\nx<=top/\(∀p∈l,p.1<top/\∃x,(p.1,x)∈l0/\gQ fz r x p.2)/\
  (∀p∈o,p.1<top/\∀y,p.2=some y->r p.1<top/\y.fJ=true/\∃x,(r p.1,some x)∈o0/\ff x y/\fh fz r x y)/\
  (∀p∈o,∀q∈o,p.2≠none->q.2≠none->r p.1=r q.1->p.1=q.1)/\
  (∀p∈fz,p.1<top/\F p.2.1=some p.2.2/\∃N t z,(p.1,some<|.cells N t z)∈o0/\∀i x,p.2.2[i]? =some x->i<N/\cellAt t z i=some x/\x.bu=true/\x.bO=true)/\
  (∀p∈fz,∀q∈o,q.2≠none->r q.1≠p.1)
def Li(n k:Nat)(v:AV)(s:AS):AS:=eY n (some<|.tok k v)<|aN n s
def TZ(k:Nat)(v:AV)(s:AS):AS:=⟨s.h.put s.nx<|some<|.tok k v,s.nx+1,s.mark,s.rd,s.wr⟩
def Lj(res:AV->AV)(s:AS):Option AV->AV
 |none=>res<|.ptr none
 |some _=>res<|.ptr<|some (s.nx,0)
def Lk(k:Nat)(s:AS):Option AV->AS
 |none=>s
 |some v=>TZ k v s
structure Env.Ok (E:Env):Prop where
 nJ:∀g val args v s n,E.nJ g=some val->val args=some v->E.ck s=true->br E.P E.sp E.F (n+1) (.fn g) args s= .ok v (E.cs s)
 tt:∀g q m v rest y v' s n,E.tt g=some q->E.ck s=true->Nat.ble E.n0 m=true->Nat.blt m (E.cs s).nx=true->Nat.blt m top=true->(E.cs s).h.get m=some (.tok q.1 v)->q.2 v rest=some (y,v')->
  br E.P E.sp E.F (n+1) (.fn g) (.ptr (some (m,0))::rest) s= .ok y (Li m q.1 v'<|E.cs s)
 tn:∀g q args v res s n,E.tn g=some q->E.ck s=true->Nat.blt (E.cs s).nx top=true->q.2 args=some (v,res)->br E.P E.sp E.F (n+1) (.fn g) args s= .ok (Lj res (E.cs s) v) (Lk q.1 (E.cs s) v)
 jn:∀g,E.jn g=true->E.sp g=some (fun _ args=>oT args)
def wo{α:Type}(o:Option α)(k:α->Prop):Prop:= @Option.rec α (fun _=>Prop) False k o
def wr{α:Type}(r:R α)(k:α->AS->Prop):Prop:= @R.rec α (fun _=>Prop) False k r
def wb(b:Bool)(k:Prop):Prop:= @Bool.rec (fun _=>Prop) False k b
def Kt:=AV->AS->Pl->Prop
def vP:=AF->AS->Pl->Prop
def Rec:=Nat->BO->Pl->List ResultVar->Kt->vP->Prop
def qg(op:Op):Option<|BinOp×TypeId×Operand×Operand×TypeId:=match op with
 | .binOp o ty x y yt=>some (o,ty,x,y,yt)
 |_=>none
def callParts(op:Op):Option<|Operand×Array Operand×Array TypeId:=match op with
 | .call ⟨.value fo,xs,ts⟩=>some (fo,xs,ts)
 |_=>none
def EE(fi args ca:List AV):List AV:=match fi,ca with
 |[],[]=>args
 |_,_=>fi++args++ca
def EF(v:AV):Option<|FuncId×List AV×List AV:=match v with
 | .func (.func g) fi ca=>some (g,fi,ca)
 |_=>none
def asInt(v:AV):Option<|IntKind×Int:=match v with
 | .int k n=>some (k,n)
 |_=>none
def sY(v:AV):Option ByteArray:=match v with
 | .str b=>some b
 |_=>none
def asAgg(v:AV):Option<|List AV:=match v with
 | .agg l=>some l
 |_=>none
def asSlice(v:AV):Option<|Option (Nat×Nat)×Nat×aZ:=match v with
 | .slice a n c=>some (a,n,c)
 |_=>none
def Eg(x:bN):Option<|Nat×Nat×List Item×Tr AV:=match x with
 | .go ⟨f,t,nt,K,[],none⟩=>some (f,nt,K,t)
 |_=>none
def Eh(x:bN):Option<|AF×Option Code:=match x with
 | .leave fr j=>some (fr,j)
 |_=>none
def Dp(K:List Item):Option<|Array Oper×Bool×List Item:=match K with
 | .code (.region _ ops d)::K=>some (ops,d,K)
 |_=>none
def EG(l:List AV):Option<|AV×AV:=match l with
 |[x,y]=>some (x,y)
 |_=>none
def EH(o:BinOp)(a b:Int):Option Prop:=match o with
 | .lss=>some<|a<b
 | .leq=>some<|a<=b
 | .gtr=>some<|a>b
 | .geq=>some<|a>=b
 | .eql=>some<|a=b
 | .neq=>some<|a≠b
 |_=>none
def cK(D:Option<|List bM)(s:AS):AS:=match D with
 |none=>s
 |some _=>AH s
def qO(D:Option<|List bM)(s s1:AS):AS:=match D with
 |none=>s1
 |some _=>pd s s1
def Bg(D:Option<|List bM)(i:Nat)(s s1:AS):Option<|List bM:=match D with
 |none=>none
 |some acc=>some<|acc++[yh i s s1]
def J2(d:Bool):Option<|List bM:=match d with
 |true=>some []
 |false=>none
def EI(P:Program)(U7:aJ)(nt:Nat)(ops:Array Oper)(D:Option<|List bM)(i n:Nat)(t:Tr AV):M<|Tr AV×Option (List bM):=match D with
 |none=>fun s=>match ks P U7 nt ops i n t s with
  | .ok t s=>.ok (t,none) s
  | .bad=>.bad
 |some acc=>fun s=>match nu P U7 nt ops i n t s with
  | .ok x s=>.ok (x.1,some<|acc++x.2) s
  | .bad=>.bad
def J3(ops:Array Oper)(D:Option<|List bM):Bool:=match D with
 |none=>true
 |some acc=>lp (Region.before ops) acc acc
def sZ(n:Nat):Option Nat:=match n with
 |0=>none
 |n+1=>some n
def l6(t:Tr AV)(op:Op):Option<|FuncId×List AV:=match callParts op with
 |none=>none
 |some x=>match ar t x.1 with
  |none=>none
  |some fv=>match EF fv with
   |none=>none
   |some g=>match eJ (ar t) x.2.1.toList with
    |none=>none
    |some args=>some (g.1,EE g.2.1 args g.2.2)
def Dq(t:Tr AV)(op:Op):Option<|Nat×List AV:=match callParts op with
 |none=>none
 |some x=>match ar t x.1 with
  |some (.yield l)=>(match eJ (ar t) x.2.1.toList with
   |none=>none
   |some args=>some (l,args))
  |_=>none
def xd(op:Op):Option<|TypeId×Operand×Operand:=match op with
 | .indexAddr ty x y=>some (ty,x,y)
 |_=>none
def wX(op:Op):Option<|TypeId×Operand:=match op with
 | .load ty a=>some (ty,a)
 |_=>none
def Cu(op:Op):Option<|TypeId×Operand×Operand:=match op with
 | .store ty a x=>some (ty,a,x)
 |_=>none
def rW(op:Op):Option<|Operand×Operand×Array TypeId:=match op with
 | .call ⟨.builtin .append,xs,ts⟩=>match xs.toList with
  |[x,y]=>some (x,y,ts)
  |_=>none
 |_=>none
def EJ(v:AV):Option<|Nat×Nat×Nat×Nat:=match v with
 | .slice (some (n,0)) len (.aU m k)=>some (n,len,m,k)
 |_=>none
def DI(v:AV):Option Nat:=match v with
 | .slice (some (m,0)) 1 (.known 1)=>some m
 |_=>none
def uJ(P:Program)(ts:Array TypeId):Option<|Nat×Nat:=match ts[0]? with
 |some ty=>match P.underlying ty with
  |some (.slice e)=>match P.info? e with
   |some i=>match lT i&&(jO P ts[1]? && !(Nat.beq i.bytes 0)) with
    |true=>some (i.size,i.bytes)
    |false=>none
   |none=>none
  |_=>none
 |none=>none
def xJ(v:AV):Option<|Nat×Nat×Nat:=match v with
 | .ch n o k=>some (n,o,k)
 |_=>none
def DJ(v:AV):Option<|Nat×Nat:=match v with
 | .kz n o=>some (n,o)
 |_=>none
def jQ(P:Program)(ty:TypeId):Option Nat:=match P.underlying ty with
 |some (.slice e)=>cd P e
 |_=>none
def Ei(P:Program)(ty:TypeId):Option<|Nat×Nat:=match P.underlying ty with
 |some (.array n e)=>(cd P e).map fun k=>(n,k)
 |_=>none
def cellsOf(o:Option U)(off k:Nat):Option<|List AV:=match o with
 |some (.cells m t z)=>(match Nat.ble (off+k) m with|true=>fy t z k off|false=>none)
 |_=>none
def gA(o:Option U)(off:Nat)(l:List AV):Option U:=match o with
 |some (.cells m t z)=>(match (Nat.ble (off+l.length) m&&(Nat.ble m top&&l.all AV.bu)) with|true=>some (.cells m (Tr.fill l off t) z)|false=>none)
 |_=>none
def fj(F:Nat->Option (List AV))(n off k:Nat):Option<|List AV:=match F n with
 |some l=>(match Nat.ble (off+k) l.length with|true=>some ((l.drop off).take k)|false=>none)
 |none=>none
def pe(k:Nat):Bool:=Nat.blt 0 k
def ym(ag:Bool)(cs:List AV):Option AV:=match ag with
 |true=>some<|.agg cs
 |false=>one cs
def xy(P:Program)(ty:TypeId)(ag:Bool):Option Nat:=match ag with
 |true=>cd P ty
 |false=>some 1
def DK(o:Option U):Bool:=match o with
 |none=>true
 |some o=>o.fJ
def SJ(φ:Prop)(E:Env)(n:Nat)(g:FuncId)(args:List AV)(s:AS)(v1:AV)(L1:List<|Nat×Option U)(v2:AV)(L2:List<|Nat×Option U)(eB:Nat)(R W:List Nat):Prop:=∃rd wr,(∀k∈rd,k∈R)/\(∀k∈wr,k∈W)/\((φ/\br E.P E.sp E.F n (.fn g) args s= .ok v1 ⟨yg s.h L1,eB,s.mark,rd,wr⟩)\/br E.P E.sp E.F n (.fn g) args s= .ok v2 ⟨yg s.h L2,eB,s.mark,rd,wr⟩)
def Bh(dr:Bool)(s:AS)(h:Tr U)(R W:List Nat):AS:=match dr with
 |true=>⟨h,s.nx+1,s.mark,R,W⟩
 |false=>⟨h,s.nx+1,s.mark,s.rd,s.wr⟩
def pF(v:AV):Option<|Nat×Nat×aZ:=match v with
 | .slice (some (n,0)) len cap=>some (n,len,cap)
 |_=>none
def zJ(op:Op):Option<|TypeId×Operand×Option Operand×Option Operand:=match op with
 | .slice ty x lo hi none=>some (ty,x,lo,hi)
 |_=>none
def Cl(op:Op):Option<|TypeId×Operand×Operand×Operand:=match op with
 | .slice ty x none (some hi) (some mx)=>some (ty,x,hi,mx)
 |_=>none
def kept(c:aZ):Bool:=match c with
 | .lost=>false
 |_=>true
def n9(t:Tr AV)(o:Option Operand)(d:Int):Option Int:=match o with
 |none=>some d
 |some y=>match ar t y with
  |some (.int _ n)=>some n
  |_=>none
def CJ(op:Op):Option<|TypeId×Operand×Operand:=match op with
 | .lookup ty x i false=>some (ty,x,i)
 |_=>none
def zK(op:Op):Option<|TypeId×Operand×Operand:=match op with
 | .lookup ty x i true=>some (ty,x,i)
 |_=>none
def xe(op:Op):Option<|TypeId×Operand×Operand×Operand:=match op with
 | .mapUpdate ty x i y=>some (ty,x,i,y)
 |_=>none
def RG(v:AV):Bool:=match v with
 | .ch _ _ _=>false
 |_=>true
def Dr(op:Op):Option<|TypeId×Operand×Operand:=match op with
 | .makeSlice ty l c=>some (ty,l,c)
 |_=>none
def vw(v:AV):Option Nat:=match v with
 | .map (some n)=>some n
 |_=>none
def u7(P:Program)(ty:TypeId):Option<|TypeId×TypeId:=match P.underlying ty with
 |some (.map k e)=>some (k,e)
 |_=>none
def qI(k:IntKind):Bool:=match k with
 | .i64=>true
 |_=>false
def Bi(v:Option AV):Bool:=match v with
 |some (.int .i64 (.ofNat 0))=>true
 |_=>false
def Ds(l:List AV):Option<|Nat×List AV:=match l with
 | .ptr (some (n,0))::r=>some (n,r)
 |_=>none
def Ej(o:Option U):Option<|Nat×AV:=match o with
 |some (.tok k v)=>some (k,v)
 |_=>none
def Ll(E:Env)(dr:Bool)(ih:Rec)(n:Nat)(nx:AV->AS->Pl->Prop)(s:AS)(t:Tr AV)(op:Op)(p:Pl):Prop:=match p with
 | .fk p q=>wo (qg op) fun x=>wo (ar t x.2.2.1) fun a=>wo (ar t x.2.2.2.1) fun b=>wo (asInt a) fun a=>wo (asInt b) fun b=>wb (decide<|a.1=b.1)<|wo (EH x.1 a.2 b.2) fun c=>(c->nx (.bool true) s p)/\(¬c->nx (.bool false) s q)
 | .vl v p=>wr ((bC E.P op).val (br E.P E.sp E.F n) t s) fun v' s1=>v'=v/\nx v s1 p
 | .kn v p=>wo (l6 t op) fun x=>wo (sZ n) fun _=>wo (E.nJ x.1) fun val=>wb (E.ck s)<|val x.2=some v/\nx v (E.cs s) p
 | .kp c d p q=>wo (l6 t op) fun x=>wo (sZ n) fun _=>wo (E.nJ x.1) fun val=>wb (E.ck s)<|val x.2=some (.bool<|@decide c d)/\(c->nx (.bool true) (E.cs s) p)/\(¬c->nx (.bool false) (E.cs s) q)
 | .ca k m p=>wo (qg op) fun x=>wb (match x.1 with| .add=>true|_=>false)<|wo (ar t x.2.2.1) fun a=>wo (ar t x.2.2.2.1) fun b=>wo (sY a) fun a=>wo (sY b) fun b=>wb (Nat.ble (k+m) room)<|a.size<=k/\b.size<=m/\nx (.str<|a++b) s p
 | .ef p q=>wo (qg op) fun x=>wo (ar t x.2.2.1) fun a=>wo (ar t x.2.2.2.1) fun b=>wo (asAgg a) fun xs=>wo (asAgg b) fun ys=>wb (si E.P x.1 x.2.1 x.2.2.1 x.2.2.2.1 (.agg xs)<|.agg ys)<|wb (xc E.P x.2.1)<|wb (!E.P.stoodInHeld x.2.1) (wo (sC E.P xs ys<|fieldsOf E.P x.2.1) fun l=>match x.1 with
  | .eql=>(allEq l=true->nx (.bool true) s p)/\(allEq l=false->nx (.bool false) s q)
  | .neq=>(allEq l=true->nx (.bool false) s p)/\(allEq l=false->nx (.bool true) s q)
  |_=>False)
 | .jn v p=>wo (l6 t op) fun x=>wo (sZ n) fun _=>wb (E.jn x.1)<|wo (EG x.2) fun y=>wo (asSlice y.1) fun a=>wo (sY y.2) fun sep=>wb (Nat.ble a.2.1<|fA a.2.1 a.2.2)<|wr (firstCells 1 a.2.1 (.slice a.1 a.2.1 a.2.2) s) fun l s1=>wo (su l) fun ts=>(⟨(mM sep.data.toList ts).toArray⟩:ByteArray)=v/\(mM sep.data.toList ts).length+a.2.1<=1048576/\nx (.str v) s1 p
 | .ss p=>wo (qg op) fun x=>wb (match x.1 with| .eql=>true|_=>false)<|wo (ar t x.2.2.1) fun a=>wo (ar t x.2.2.2.1) fun b=>wo (sY a) fun a=>wo (sY b) fun b=>a=b/\nx (.bool true) s p
 | .cu v s2 p=>wo (l6 t op) fun x=>br E.P E.sp E.F n (.fn x.1) x.2 s= .ok v s2/\nx v s2 p
 | .cg v F Q p=>wo (l6 t op) fun x=>(∀s,Q s->br E.P E.sp E.F n (.fn x.1) x.2 s= .ok v (F s))/\Q s/\nx v (F s) p
 | .lx v F Q p=>wo (zK op) fun x=>wo (ar t x.2.1) fun a=>wo (ar t x.2.2) fun i=>(∀s,Q s->kY E.P x.1 a i true s= .ok v (F s))/\Q s/\nx v (F s) p
 | .mx F Q p=>wo (xe op) fun x=>wo (ar t x.2.1) fun a=>wo (ar t x.2.2.1) fun i=>wo (ar t x.2.2.2) fun y=>(∀s,Q s->jP E.P x.1 a i y s= .ok () (F s))/\Q s/\nx (.tuple []) (F s) p
 | .ml v F Q p=>wo (Dr op) fun x=>wo (ar t x.2.1) fun a=>wo (ar t x.2.2) fun b=>(∀s,Q s->makeSlice E.P x.1 a b s= .ok v (F s))/\Q s/\nx v (F s) p
 | .px v F Q p=>wo (rW op) fun x=>wo (ar t x.1) fun a=>wo (ar t x.2.1) fun b=>wb (RG b)<|(∀s,Q s->gL E.P x.2.2 a b s= .ok v (F s))/\Q s/\nx v (F s) p
 | .c2 φ v1 L1 v2 L2 eB R W p q=>wb dr<|wo (l6 t op) fun x=>SJ φ E n x.1 x.2 s v1 L1 v2 L2 eB R W/\(φ->nx v1 ⟨yg s.h L1,eB,s.mark,R,W⟩ p)/\nx v2 ⟨yg s.h L2,eB,s.mark,R,W⟩ q
 | .ap _ enc l c p=>wo (rW op) fun x=>wo (ar t x.1) fun a=>wo (EJ a) fun a=>wo (ar t x.2.1) fun b=>wo (DI b) fun m=>wo (uJ E.P x.2.2) fun i=>wb (Nat.beq a.2.2.2 i.1&&(pe i.1&&(Nat.blt a.1 s.nx&&(Nat.blt m s.nx&&(Nat.blt s.nx top&&(dr||Nat.beq s.mark 0))))))<|a.2.1=l.length/\a.2.2.1=l.length/\s.h.get a.1=some (aD enc l)/\s.h.get m=some (.cells (enc c).length (Tr.fill (enc c) 0 .nil) [])/\(∀x,(enc x).length=i.1/\(enc x).all AV.bu=true)/\2*(l.length+1)*i.2+4096*i.2<=room/\(l.length+1)*i.1<=top/\nx (.slice (some (s.nx,0)) (l++[c]).length<|.aU (l++[c]).length i.1) (Bh dr s ((s.h.put a.1 none).put s.nx<|some<|aD enc<|l++[c]) [a.1,m] [a.1]) p
 | .ix p=>wo (xd op) fun x=>wo (ar t x.2.1) fun a=>wo (asSlice a) fun a=>wo a.1 fun ad=>wo (ar t x.2.2) fun z=>wo (asInt z) fun z=>wo (jQ E.P x.1) fun K=>wb (Nat.beq ad.2 0)<|0<=z.2/\z.2<(Int.ofNat a.2.1)/\nx (.ptr<|some (ad.1,z.2.toNat*K)) s p
 | .bV p=>wo (xd op) fun x=>wo (ar t x.2.1) fun a=>wo (xJ a) fun a=>wo (ar t x.2.2) fun z=>wo (asInt z) fun z=>wo (jQ E.P x.1) fun K=>0<=z.2/\z.2<(Int.ofNat a.2.2)/\nx (.kz a.1<|a.2.1+z.2.toNat*K) s p
 | .ld cs p=>wo (wX op) fun x=>wo (ar t x.2) fun a=>wo (addrOf a) fun a=>wo (ly E.P x.1) fun ag=>wo (xy E.P x.1 ag) fun k=>wb (pe k)<|wb (Nat.blt a.1 s.nx)<|wo (ym ag cs) fun v=>cellsOf (s.h.get a.1) a.2 k=some cs/\nx v (aN a.1 s) p
 | .wg b p q=>wo (wX op) fun x=>wo (ar t x.2) fun a=>wo (addrOf a) fun a=>wo (ly E.P x.1) fun ag=>wb (!ag)<|wb (Nat.blt a.1 s.nx)<|cellsOf (s.h.get a.1) a.2 1=some [.bool b]/\(b=true->nx (.bool true) (aN a.1 s) p)/\(b=false->nx (.bool false) (aN a.1 s) q)
 | .bW cs p=>wo (wX op) fun x=>wo (ar t x.2) fun a=>wo (DJ a) fun a=>wo (ly E.P x.1) fun ag=>wo (cd E.P x.1) fun _=>wo (xy E.P x.1 ag) fun k=>wo (ym ag cs) fun v=>top<=a.1/\fj E.F a.1 a.2 k=some cs/\nx v s p
 | .lL o p=>wo (Cu op) fun x=>wo (ar t x.2.1) fun a=>wo (addrOf a) fun a=>wo (ar t x.2.2) fun v=>wo (cd E.P x.1) fun k=>wb (Nat.beq v.cells.length k)<|wb (pe k)<|wb (Nat.blt a.1 s.nx)<|wb (Nat.blt a.1 top)<|gA (s.h.get a.1) a.2 v.cells=some o/\nx jN (eY a.1 (some o)<|aN a.1 s) p
 | .sh p=>wo (qg op) fun x=>wb (lX x.1)<|wo (ar t x.2.2.1) fun a=>wo (ar t x.2.2.2.1) fun b=>wo (asInt a) fun a=>wo (asInt b) fun b=>0<=b.2/\nx (.int a.1<|yj x.1 a.1 a.2 b.2) s p
 | .rm p=>wo (qg op) fun x=>wb (match x.1 with| .rem=>true|_=>false)<|wo (ar t x.2.2.1) fun a=>wo (ar t x.2.2.2.1) fun b=>wo (asInt a) fun a=>wo (asInt b) fun b=>wb (decide<|a.1=b.1)<|b.2≠0/\nx (.int a.1<|Int.tmod a.2 b.2) s p
 | .al _ enc l L p=>wo (rW op) fun x=>wo (ar t x.1) fun a=>wo (pF a) fun a=>wo (ar t x.2.1) fun b=>wo (xJ b) fun b=>wo (uJ E.P x.2.2) fun i=>wb (D1 i.1 a.2.1 a.2.2&&(Nat.blt a.1 s.nx&&(Nat.blt s.nx top&&(dr||Nat.beq s.mark 0))))<|a.2.1=l.length/\s.h.get a.1=some (aD enc l)/\top<=b.1/\fj E.F b.1 b.2.1 (b.2.2*i.1)=some (L.map enc).flatten/\b.2.2=L.length/\(∀x,(enc x).length=i.1/\(enc x).all AV.bu=true)/\2*(l.length+L.length)*i.2+4096*i.2<=room/\(l.length+L.length)*i.1<=top/\nx (.slice (some (s.nx,0)) (l++L).length<|.aU (l++L).length i.1) (Bh dr s ((s.h.put a.1 none).put s.nx<|some<|aD enc<|l++L) [a.1] [a.1]) p
 | .sf lo hi p=>wo (zJ op) fun x=>wo (ar t x.2.1) fun a=>wo (xJ a) fun a=>wo (jQ E.P x.1) fun K=>wo (n9 t x.2.2.1 0) fun iz=>wo (n9 t x.2.2.2<|Int.ofNat a.2.2) fun bR=>iz=lo/\bR=hi/\top<=a.1/\0<=lo/\lo<=hi/\hi<=(Int.ofNat a.2.2)/\nx (.ch a.1 (a.2.1+lo.toNat*K)<|hi.toNat - lo.toNat) s p
 | .lk m p=>wo (CJ op) fun x=>wo (ar t x.2.1) fun a=>wo (vw a) fun n=>wo (ar t x.2.2) fun i=>wo (asInt i) fun i=>wo (u7 E.P x.1) fun y=>wb (fV E.P 10000 y.1 (.int .i64 i.2)&&(plainKey E.P y.1 (.int .i64 i.2)&&(qI i.1&&(Bi (fC E.P y.2)&&Nat.blt n s.nx))))<|s.h.get n=some (pC m)/\nx (.int .i64<|getM m i.2) (aN n s) p
 | .mu m p=>wo (xe op) fun x=>wo (ar t x.2.1) fun a=>wo (vw a) fun n=>wo (ar t x.2.2.1) fun i=>wo (asInt i) fun i=>wo (ar t x.2.2.2) fun v=>wo (asInt v) fun v=>wo (u7 E.P x.1) fun y=>wb (fV E.P 10000 y.1 (.int .i64 i.2)&&(plainKey E.P y.1 (.int .i64 i.2)&&(qI i.1&&(qI v.1&&(Nat.blt n s.nx&&Nat.blt n top)))))<|s.h.get n=some (pC m)/\nx (.tuple []) (eY n (some<|pC<|jA m i.2 v.2)<|aN n s) p
 | .cy v s2 p=>wo (Dq t op) fun x=>br E.P E.sp E.F n (.round x.1) x.2 s= .ok v s2/\nx v s2 p
 | .TV p=>wo (xd op) fun x=>wo (ar t x.2.1) fun a=>wo (addrOf a) fun a=>wo (ar t x.2.2) fun z=>wo (asInt z) fun z=>wo (Ei E.P x.1) fun K=>0<=z.2/\z.2<(Int.ofNat K.1)/\nx (.ptr<|some (a.1,a.2+z.2.toNat*K.2)) s p
 | .kt y v' p=>wo (l6 t op) fun x=>wo (sZ n) fun _=>wo (E.tt x.1) fun q=>wo (Ds x.2) fun z=>wo (Ej<|(E.cs s).h.get z.1) fun u=>wb (E.ck s&&(Nat.beq q.1 u.1&&(Nat.ble E.n0 z.1&&(Nat.blt z.1 (E.cs s).nx&&Nat.blt z.1 top))))<|q.2 u.2 z.2=some (y,v')/\nx y (Li z.1 q.1 v'<|E.cs s) p
 | .nt v res p=>wo (l6 t op) fun x=>wo (sZ n) fun _=>wo (E.tn x.1) fun q=>wb (E.ck s&&Nat.blt (E.cs s).nx top)<|q.2 x.2=some (v,res)/\nx (Lj res (E.cs s) v) (Lk q.1 (E.cs s) v) p
 | .TW m p q=>wo (zK op) fun x=>wo (ar t x.2.1) fun a=>wo (vw a) fun n=>wo (ar t x.2.2) fun i=>wo (asInt i) fun i=>wo (u7 E.P x.1) fun y=>wb (fV E.P 10000 y.1 (.int .i64 i.2)&&(plainKey E.P y.1 (.int .i64 i.2)&&(qI i.1&&(Bi (fC E.P y.2)&&Nat.blt n s.nx))))<|s.h.get n=some (qH m)/\(mn m i.2=true->nx (.tuple [.int .i64<|getM m i.2,.bool true]) (aN n s) p)/\(mn m i.2=false->nx (.tuple [.int .i64 0,.bool false]) (aN n s) q)
 | .TY m p=>wo (xe op) fun x=>wo (ar t x.2.1) fun a=>wo (vw a) fun n=>wo (ar t x.2.2.1) fun i=>wo (asInt i) fun i=>wo (ar t x.2.2.2) fun v=>wo (asInt v) fun v=>wo (u7 E.P x.1) fun y=>wb (fV E.P 10000 y.1 (.int .i64 i.2)&&(plainKey E.P y.1 (.int .i64 i.2)&&(qI i.1&&(qI v.1&&(Nat.blt n s.nx&&Nat.blt n top)))))<|s.h.get n=some (qH m)/\nx (.tuple []) (eY n (some<|qH<|jA m i.2 v.2)<|aN n s) p
 | .so p=>wo (zJ op) fun x=>wo (ar t x.2.1) fun a=>wo (pF a) fun a=>wo (jQ E.P x.1) fun _=>wo (n9 t x.2.2.1 0) fun lo=>wo (n9 t x.2.2.2<|Int.ofNat a.2.1) fun hi=>wb (kept a.2.2)<|lo=0/\0<=hi/\hi<=Int.ofNat (fA a.2.1 a.2.2)/\nx (.slice (some (a.1,0)) hi.toNat a.2.2) s p
 | .s3 p=>wo (Cl op) fun x=>wo (ar t x.2.1) fun a=>wo (pF a) fun a=>wo (jQ E.P x.1) fun _=>wo (ar t x.2.2.1) fun hi=>wo (asInt hi) fun hi=>wo (ar t x.2.2.2) fun mx=>wo (asInt mx) fun mx=>wb (kept a.2.2)<|0<=hi.2/\hi.2<=mx.2/\mx.2<=Int.ofNat (fA a.2.1 a.2.2)/\nx (.slice (some (a.1,0)) hi.2.toNat<|.known mx.2.toNat) s p
 | .ao L1 L2 l p=>wo (rW op) fun x=>wo (ar t x.1) fun a=>wo (pF a) fun a=>wo (ar t x.2.1) fun b=>wo (pF b) fun b=>wo (uJ E.P x.2.2) fun i=>wb (Nat.blt a.1 s.nx&&(Nat.blt b.1 s.nx&&(Nat.blt s.nx top&&(dr||Nat.beq s.mark 0))))
  (a.2.2= .known a.2.1/\1<=b.2.1/\s.h.get a.1=some (.cells L1.length (Tr.fill L1 0 .nil) [])/\s.h.get b.1=some (.cells L2.length (Tr.fill L2 0 .nil) [])/\L1.length<=top/\L2.length<=top/\a.2.1*i.1<=L1.length/\b.2.1*i.1<=L2.length/\
   L1.take (a.2.1*i.1)++L2.take (b.2.1*i.1)=l/\l.all AV.bu=true/\2*(a.2.1+b.2.1)*i.2+4096*i.2<=room/\l.length<=top/\
   nx (.slice (some (s.nx,0)) (a.2.1+b.2.1)<|.aU (a.2.1+b.2.1) i.1) (Bh dr s (s.h.put s.nx<|some<|.cells l.length (Tr.fill l 0 .nil) []) [a.1,b.1] []) p)
 | .an L1 L2 l p=>wo (rW op) fun x=>wo (ar t x.1) fun a=>wo (pF a) fun a=>wo (ar t x.2.1) fun b=>wo (pF b) fun b=>wo (uJ E.P x.2.2) fun i=>wb (pe i.1&&(Nat.blt a.1 s.nx&&(Nat.blt b.1 s.nx&&Nat.blt s.nx top)))
  (a.2.2= .known a.2.1/\1<=a.2.1/\1<=b.2.1/\s.h.get a.1=some (.cells L1.length (Tr.fill L1 0 .nil) [])/\s.h.get b.1=some (.cells L2.length (Tr.fill L2 0 .nil) [])/\L1.length<=top/\L2.length<=top/\a.2.1*i.1<=L1.length/\b.2.1*i.1<=L2.length/\
   L1.take (a.2.1*i.1)++L2.take (b.2.1*i.1)=l/\l.all AV.bu=true/\2*(a.2.1+b.2.1)*i.2+4096*i.2<=room/\l.length<=top/\
   nx (.slice (some (s.nx,0)) (a.2.1+b.2.1)<|.aU (a.2.1+b.2.1) i.1) (oo (.cells l.length (Tr.fill l 0 .nil) [])<|aN a.1<|aN b.1 s) p)
 | .il p=>wo (l6 t op) fun x=>wo (sZ n) fun m=>match E.sp x.1 with
  |some _=>False
  |none=>wo (E.P.funcs[x.1]?) fun fn=>wo fn.body fun body=>wb (!(fn.name == "runtime.NumGoroutine"))<|wb (Nat.ble (max fn.ntmps x.2.length) top)<|ih m (.fr x.1 (max fn.ntmps x.2.length) [.code body] (bG x.2) s) p fn.results.toList nx fun _ _ _=>False
 |_=>False
def Ft(E:Env)(ih:Rec)(n:Nat)(c:BO)(p:Pl)(rs:List ResultVar)(k:Kt)(C:vP):Prop:=match c with
 | .fr f nt K t s=>match p with
  | .st j p=>wr (dj E.P (br E.P E.sp E.F n) j ⟨f,t,nt,K,[],none⟩ s) fun x s1=>wo (Eg x) fun y=>ih n (.fr y.1 y.2.1 y.2.2.1 y.2.2.2 s1) p rs k C
  | .rg p=>wo (Dp K) fun x=>ih n (.rg f nt x.2.2 x.1 (J2 x.2.1) 0 t s) p rs k C
  | .rt j p=>wr (dj E.P (br E.P E.sp E.F n) j ⟨f,t,nt,K,[],none⟩ s) fun x s1=>wo (Eh x) fun y=>wr (finish E.P rs y.1 y.2 s1) fun v s2=>k v s2 p
  | .cut p=>C ⟨f,t,nt,K,[],none⟩ s p
  | .ls l o nx p=>wb (E.fg&&(kF top l&&(kF top o&&((Nat.ble s.nx nx&&Nat.ble nx top)&&o.all fun q=>DK q.2))))<|l.map (fun q=>t.get q.1)=l.map (fun q=>some q.2)/\o.map (fun q=>s.h.get q.1)=o.map (fun q=>q.2)/\C ⟨f,cj l,nt,K,[],none⟩ (J o nx) p
  | .rn l0 o0 l o aP nx p=>wb (E.fg&&Nat.beq s.nx aP)<|l0.map (fun q=>t.get q.1)=l0.map (fun q=>some q.2)/\o0.map (fun q=>s.h.get q.1)=o0.map (fun q=>q.2)/\gE E.F E.lo aP l0 o0 l o nx/\C ⟨f,cj l,nt,K,[],none⟩ (J o nx) p
  | .bk l o nx p=>wb (E.fg&&(kF top l&&(kF nx o&&((Nat.ble nx s.nx&&(Nat.blt s.nx top&&Nat.ble E.lo nx))&&o.all fun q=>DK q.2))))<|l.map (fun q=>t.get q.1)=l.map (fun q=>some q.2)/\o.map (fun q=>s.h.get q.1)=o.map (fun q=>q.2)/\vO nx l o/\C ⟨f,cj l,nt,K,[],none⟩ (J o nx) p
  |_=>False
 | .rg f nt K ops D i t s=>match p with
  | .go m p=>wb (Nat.ble (i+m) ops.size)<|wr (EI E.P (br E.P E.sp E.F n) nt ops D i m t s) fun x s1=>ih n (.rg f nt K ops x.2 (i+m) x.1 s1) p rs k C
  | .en p=>wb (Nat.ble ops.size i)<|wb (J3 ops D)<|ih n (.fr f nt K t s) p rs k C
  |p=>wo (py ops i) fun o=>wb (AU ops o.2.2 t)<|Ll E (D.isSome&&Nat.beq s.mark 0) ih n (fun v s1 p=>wo (eU nt t o.2.1 v) fun t1=>ih n (.rg f nt K ops (Bg D i (s) s1) (i+1) t1<|qO D s s1) p rs k C) (cK D s) t o.1 p
def wp(E:Env)(fuel:Nat):Rec:= @Nat.rec (fun _=>Rec) (fun _ _ _ _ _ _=>False) (fun _ ih=>Ft E ih) fuel
def gp(P:Program)(U7:aJ)(G:AF->AS->Prop)(f nt:Nat)(K:List Item)(ops:Array Oper)(D:Option<|List bM)(i:Nat)(t:Tr AV)(s:AS):Prop:=match D with
 |none=>pD P U7 G f nt K ops i t s
 |some acc=>kG P U7 G f nt K ops acc i t s
def T0(P:Program)(U7:aJ)(G:AF->AS->Prop)(c:BO):Prop:=match c with
 | .fr f nt K t s=>G ⟨f,t,nt,K,[],none⟩ s
 | .rg f nt K ops D i t s=>gp P U7 G f nt K ops D i t s
end
theorem az{α:Type}{o:Option α}{k:α->Prop}(h:wo o k):∃x,o=some x/\k x:=by
 cases o with
 |none=>exact h.elim
 |some x=>exact⟨x,rfl,h⟩
theorem u9{α:Type}{r:R α}{k:α->AS->Prop}(h:wr r k):∃x s,r= .ok x s/\k x s:=by
 cases r with
 |bad=>exact h.elim
 |ok x s=>exact⟨x,s,rfl,h⟩
theorem cD{b:Bool}{k:Prop}(h:wb b k):b=true/\k:=by
 cases b with
 |false=>exact h.elim
 |true=>exact⟨rfl,h⟩
theorem PS(fi args ca:List AV):EE fi args ca=fi++args++ca:=by
 unfold EE;split
 ·simp
 ·rfl
theorem O7{v:AV}{g:FuncId×List AV×List AV}(h:EF v=some g):v= .func (.func g.1) g.2.1 g.2.2:=by
 unfold EF at h;split at h
 ·injection h with h;subst h;rfl
 ·cases h
theorem iO{v:AV}{x:IntKind×Int}(h:asInt v=some x):v= .int x.1 x.2:=by
 unfold asInt at h;split at h
 ·injection h with h;subst h;rfl
 ·cases h
theorem wY{v:AV}{x:ByteArray}(h:sY v=some x):v= .str x:=by
 unfold sY at h;split at h
 ·injection h with h;subst h;rfl
 ·cases h
theorem HQ{v:AV}{x:List AV}(h:asAgg v=some x):v= .agg x:=by
 unfold asAgg at h;split at h
 ·injection h with h;subst h;rfl
 ·cases h
theorem GU{v:AV}{x:Option (Nat×Nat)×Nat×aZ}(h:asSlice v=some x):v= .slice x.1 x.2.1 x.2.2:=by
 unfold asSlice at h;split at h
 ·injection h with h;subst h;rfl
 ·cases h
theorem O8{l:List AV}{x:AV×AV}(h:EG l=some x):l=[x.1,x.2]:=by
 unfold EG at h;split at h
 ·injection h with h;subst h;rfl
 ·cases h
theorem Ob{x:bN}{y:Nat×Nat×List Item×Tr AV}(h:Eg x=some y):x= .go ⟨y.1,y.2.2.2,y.2.1,y.2.2.1,[],none⟩:=by
 unfold Eg at h;split at h
 ·injection h with h;subst h;rfl
 ·cases h
theorem Oc{x:bN}{y:AF×Option Code}(h:Eh x=some y):x= .leave y.1 y.2:=by
 unfold Eh at h;split at h
 ·injection h with h;subst h;rfl
 ·cases h
theorem M0{K:List Item}{y:Array Oper×Bool×List Item}(h:Dp K=some y):∃id,K= .code (.region id y.1 y.2.1)::y.2.2:=by
 unfold Dp at h;split at h
 ·injection h with h;subst h;exact⟨_,rfl⟩
 ·cases h
theorem uz{n m:Nat}(h:sZ n=some m):n=m+1:=by
 cases n with
 |zero=>cases h
 |succ n=>injection h with h;subst h;rfl
theorem ur{op:Op}{x:BinOp×TypeId×Operand×Operand×TypeId}(h:qg op=some x):op= .binOp x.1 x.2.1 x.2.2.1 x.2.2.2.1 x.2.2.2.2:=by
 unfold qg at h;split at h
 ·injection h with h;subst h;rfl
 ·cases h
theorem NA{t:Tr AV}{op:Op}{x:FuncId×List AV}(h:l6 t op=some x):∃fo xs ts fi args ca,op= .call ⟨.value fo,xs,ts⟩/\ar t fo=some (.func (.func x.1) fi ca)/\eJ (ar t) xs.toList=some args/\x.2=fi++args++ca:=by
 unfold l6 at h;split at h
 ·cases h
 ·rename_i y hy;have cM:op= .call ⟨.value y.1,y.2.1,y.2.2⟩:=by
   unfold callParts at hy;split at hy
   ·injection hy with hy;subst hy;rfl
   ·cases hy
  split at h
  ·cases h
  ·rename_i fv hf;split at h
   ·cases h
   ·rename_i g hg;split at h
    ·cases h
    ·rename_i args ha;injection h with h;subst h
     exact⟨_,_,_,g.2.1,_,g.2.2,cM,by rw[hf,O7 hg],ha,PS _ _ _⟩
section
variable {P:Program} {s s1:AS} {U7:aJ} {t t1:Tr AV} {ops:Array Oper} {f nt i:Nat} {K:List Item} {G:AF->AS->Prop} {D:Option<|List bM}
theorem PT{o:BinOp}{a b:Int}{c:Prop}(h:EH o a b=some c):∃r,EA o a b=some r/\(r=true↔c):=by
 unfold EH at h;split at h<;>first|(injection h with h;subst h)|cases h
 ·exact⟨_,rfl,by rw[decide_eq_true_iff]⟩
 ·exact⟨_,rfl,by rw[decide_eq_true_iff]⟩
 ·exact⟨_,rfl,by rw[decide_eq_true_iff]⟩
 ·exact⟨_,rfl,by rw[decide_eq_true_iff]⟩
 ·exact⟨_,rfl,by simp⟩
 ·exact⟨_,rfl,by simp⟩
theorem gp.op{op:Op}{d:Option Tmp}{g:Option<|Nat×Bool}{v:AV}(ho:py ops i=some (op,d,g))(hw:AU ops g t=true)(h:(bC P op).val U7 t (cK D s)= .ok v s1)(hp:eU nt t d v=some t1)(H:gp P U7 G f nt K ops (Bg D i s s1) (i+1) t1<|qO D s s1):gp P U7 G f nt K ops D i t s:=by
 cases D with
 |none=>exact pD.step (IW ho) (Qv ho hw h hp) H
 |some acc=>exact kG.step (IW ho) (PO ho hw h hp) H
theorem gp.go{n:Nat}{x:Tr AV×Option (List bM)}(hn:Nat.ble (i+n) ops.size=true)(h:EI P U7 nt ops D i n t s= .ok x s1)(H:gp P U7 G f nt K ops x.2 (i+n) x.1 s1):gp P U7 G f nt K ops D i t s:=by
 have hle:=aK.1 hn;unfold EI at h;cases D with
 |none=>
  simp only at h;split at h
  ·rename_i t2 s2 e;injection h with h1 h2;subst h1;subst h2
   obtain⟨t3,s3,q1,q2⟩:=H;refine⟨t3,s3,?_,q2⟩;rw[show ops.size - i=n+(ops.size - (i+n)) by omega];exact He e q1
  ·cases h
 |some acc=>
  simp only at h;split at h
  ·rename_i y s2 e;injection h with h1 h2;subst h1;subst h2
   obtain⟨t3,ms,s3,q1,q2,q3⟩:=H;refine⟨t3,_,s3,?_,by rw[←List.append_assoc];exact q2,q3⟩;rw[show ops.size - i=n+(ops.size - (i+n)) by omega];exact Ij rfl (by omega) e q1
  ·cases h
theorem gp.done(h:Nat.ble ops.size i=true)(ho:J3 ops D=true)(H:G ⟨f,t,nt,K,[],none⟩ s):gp P U7 G f nt K ops D i t s:=by
 cases D with
 |none=>exact pD.done h H
 |some acc=>exact kG.done (and_true.2 ⟨h,ho⟩) H
theorem gp.SK(hG:Chunk P U7 G){id:Nat}{d:Bool}(H:gp P U7 G f nt K ops (J2 d) 0 t s):G ⟨f,t,nt,.code (.region id ops d)::K,[],none⟩ s:=by
 cases d with
 |false=>exact Chunk.rf hG (c:=.region id ops false) rfl H
 |true=>exact Chunk.SG hG (c:=.region id ops true) rfl H
theorem NB{op:Op}{x:Nat×List AV}{v:AV}(h:Dq t op=some x)(hv:U7 (.round x.1) x.2 s= .ok v s1):(bC P op).val U7 t s= .ok v s1:=by
 unfold Dq at h;split at h
 ·cases h
 ·rename_i y e;split at h
  ·rename_i l e2;split at h
   ·cases h
   ·rename_i args e3;injection h with h;subst h
    unfold callParts at e;split at e
    ·rename_i fo xs ts;injection e with e;subst e
     show nh fo xs.toList U7 t s=_;unfold nh;simp only at e2 e3;rw[e3,aO,e2,aO];show jt U7 (.yield l) args s=_;exact hv
    ·cases e
  ·cases h
theorem nT{op:Op}{x:FuncId×List AV}{v:AV}(h:l6 t op=some x)(hv:U7 (.fn x.1) x.2 s= .ok v s1):(bC P op).val U7 t s= .ok v s1:=by obtain⟨fo,xs,ts,fi,args,ca,rfl,h1,h2,h3⟩:=NA h;show nh fo xs.toList U7 t s=_;unfold nh;rw[h2,aO,h1,aO];show U7 (.fn x.1) (fi++args++ca) s=_;rw[←h3];exact hv
end
theorem Mp{op:Op}{x:TypeId×Operand×Operand}(h:CJ op=some x):op= .lookup x.1 x.2.1 x.2.2 false:=by
 unfold CJ at h;split at h
 ·injection h with h;subst h;rfl
 ·cases h
theorem Gc{op:Op}{x:TypeId×Operand×Operand}(h:zK op=some x):op= .lookup x.1 x.2.1 x.2.2 true:=by
 unfold zK at h;split at h
 ·injection h with h;subst h;rfl
 ·cases h
theorem Ca{op:Op}{x:TypeId×Operand×Operand×Operand}(h:xe op=some x):op= .mapUpdate x.1 x.2.1 x.2.2.1 x.2.2.2:=by
 unfold xe at h;split at h
 ·injection h with h;subst h;rfl
 ·cases h
theorem M3{op:Op}{x:TypeId×Operand×Operand}(h:Dr op=some x):op= .makeSlice x.1 x.2.1 x.2.2:=by
 unfold Dr at h;split at h
 ·injection h with h;subst h;rfl
 ·cases h
theorem zV{v:AV}{n:Nat}(h:vw v=some n):v= .map (some n):=by
 unfold vw at h;split at h
 ·injection h with h;subst h;rfl
 ·cases h
theorem zL{P:Program}{ty:TypeId}{y:TypeId×TypeId}(h:u7 P ty=some y):P.underlying ty=some (.map y.1 y.2):=by
 unfold u7 at h;split at h
 ·rename_i e;injection h with h;subst h;exact e
 ·cases h
theorem uA{k:IntKind}(h:qI k=true):k= .i64:=by
 unfold qI at h;split at h
 ·rfl
 ·cases h
theorem Ip{v:Option AV}(h:Bi v=true):v=some (.int .i64 0):=by
 unfold Bi at h;split at h
 ·rfl
 ·cases h
theorem Cb{op:Op}{x:TypeId×Operand×Operand}(h:xd op=some x):op= .indexAddr x.1 x.2.1 x.2.2:=by
 unfold xd at h;split at h
 ·injection h with h;subst h;rfl
 ·cases h
theorem wF{op:Op}{x:Operand×Operand×Array TypeId}(h:rW op=some x):op= .call ⟨.builtin .append, #[x.1,x.2.1],x.2.2⟩:=by
 unfold rW at h;split at h
 ·rename_i xs ts;split at h
  ·rename_i a b e;injection h with h;subst h
   have:xs= #[a,b]:=Array.ext' e;rw[this]
  ·cases h
 ·cases h
theorem O9{v:AV}{x:Nat×Nat×Nat×Nat}(h:EJ v=some x):v= .slice (some (x.1,0)) x.2.1 (.aU x.2.2.1 x.2.2.2):=by
 unfold EJ at h;split at h
 ·injection h with h;subst h;rfl
 ·cases h
theorem NC{v:AV}{m:Nat}(h:DI v=some m):v= .slice (some (m,0)) 1 (.known 1):=by
 unfold DI at h;split at h
 ·injection h with h;subst h;rfl
 ·cases h
theorem zD{P:Program}{ts:Array TypeId}{x:Nat×Nat}(h:uJ P ts=some x):∃ty e,ts[0]? =some ty/\P.underlying ty=some (.slice e)/\(P.info? e).map (fun i=>(i.size,i.bytes,lT i))=some (x.1,x.2,true)/\jO P ts[1]? =true/\Nat.beq x.2 0=false:=by
 unfold uJ at h;split at h
 ·rename_i ty h1;split at h
  ·rename_i e h2;split at h
   ·rename_i i h3;split at h
    ·rename_i hb;injection h with h;subst h
     obtain⟨b1,b2⟩:=and_true.1 hb;obtain⟨b2,b3⟩:=and_true.1 b2;refine⟨ty,e,h1,h2,by rw[h3];simp only[Option.map_some,b1],b2,by simpa using b3⟩
    ·cases h
   ·cases h
  ·cases h
 ·cases h
theorem zz{op:Op}{x:TypeId×Operand}(h:wX op=some x):op= .load x.1 x.2:=by
 unfold wX at h;split at h
 ·injection h with h;subst h;rfl
 ·cases h
theorem Md{op:Op}{x:TypeId×Operand×Operand}(h:Cu op=some x):op= .store x.1 x.2.1 x.2.2:=by
 unfold Cu at h;split at h
 ·injection h with h;subst h;rfl
 ·cases h
theorem CK{v:AV}{x:Nat×Nat×Nat}(h:xJ v=some x):v= .ch x.1 x.2.1 x.2.2:=by
 unfold xJ at h;split at h
 ·injection h with h;subst h;rfl
 ·cases h
theorem ND{v:AV}{x:Nat×Nat}(h:DJ v=some x):v= .kz x.1 x.2:=by
 unfold DJ at h;split at h
 ·injection h with h;subst h;rfl
 ·cases h
theorem zM{v:AV}{x:Nat×Nat}(h:addrOf v=some x):v= .ptr (some x):=by
 unfold addrOf at h;split at h
 ·injection h with h;subst h;rfl
 ·cases h
theorem CL{z:Int}{len:Nat}(h1:0<=z)(h2:z<Int.ofNat len):within z len=some z.toNat:=by
 obtain⟨m,rfl⟩:=Int.eq_ofNat_of_zero_le h1;show within (Int.ofNat m) len=some m;have h2:(m:Int)<(len:Int):=h2;unfold within;have:Nat.blt m len=true:=by rw[blt_eq];omega
 simp only[this]
section
variable {P:Program} {s s1:AS} {U7:aJ} {t:Tr AV}
theorem RH{x:TypeId×Operand×Operand}{n len K:Nat}{cap:aZ}{ik:IntKind}{z:Int}(hx:ar t x.2.1=some (.slice (some (n,0)) len cap))(hz:ar t x.2.2=some (.int ik z))(hk:jQ P x.1=some K)(h1:0<=z)(h2:z<Int.ofNat len):(bC P<|.indexAddr x.1 x.2.1 x.2.2).val U7 t s= .ok (.ptr<|some (n,z.toNat*K)) s:=by
 show kV P x.1 x.2.1 x.2.2 U7 t s=_;unfold kV;rw[hx,hz,aO,aO];unfold jQ at hk;split at hk
 ·rename_i e he;show lift (indexAddr P x.1 (.slice (some (n,0)) len cap)<|.int ik z) s=_;unfold indexAddr intOf;simp only[he,hk,CL h1 h2,Nat.zero_add];rfl
 ·cases hk
theorem QH{x:TypeId×Operand×Operand}{n o:Nat}{K:Nat×Nat}{ik:IntKind}{z:Int}(hx:ar t x.2.1=some (.ptr<|some (n,o)))(hz:ar t x.2.2=some (.int ik z))(hk:Ei P x.1=some K)(h1:0<=z)(h2:z<Int.ofNat K.1):(bC P<|.indexAddr x.1 x.2.1 x.2.2).val U7 t s= .ok (.ptr<|some (n,o+z.toNat*K.2)) s:=by
 show kV P x.1 x.2.1 x.2.2 U7 t s=_;unfold kV;rw[hx,hz,aO,aO];unfold Ei at hk;split at hk
 ·rename_i m e he;cases hs:cd P e with
  |none=>rw[hs] at hk;cases hk
  |some k=>
   rw[hs] at hk;injection hk with hk
   subst hk;show lift (indexAddr P x.1 (.ptr<|some (n,o))<|.int ik z) s=_;unfold indexAddr intOf;simp only[he,hs,CL h1 h2];rfl
 ·cases hk
theorem QI{x:TypeId×Operand×Operand}{n o len K:Nat}{ik:IntKind}{z:Int}(hx:ar t x.2.1=some (.ch n o len))(hz:ar t x.2.2=some (.int ik z))(hk:jQ P x.1=some K)(h1:0<=z)(h2:z<Int.ofNat len):(bC P<|.indexAddr x.1 x.2.1 x.2.2).val U7 t s= .ok (.kz n<|o+z.toNat*K) s:=by
 show kV P x.1 x.2.1 x.2.2 U7 t s=_;unfold kV;rw[hx,hz,aO,aO];unfold jQ at hk;split at hk
 ·rename_i e he;show lift (indexAddr P x.1 (.ch n o len)<|.int ik z) s=_;unfold indexAddr intOf;simp only[he,hk,CL h1 h2];rfl
 ·cases hk
theorem Gu{n off k:Nat}{cs:List AV}(hk:pe k=true)(hn:Nat.blt n s.nx=true)(h:cellsOf (s.h.get n) off k=some cs):dH n off k s= .ok cs (aN n s):=by
 cases k with
 |zero=>cases hk
 |succ k=>
  unfold cellsOf at h;split at h
  ·rename_i m tt z hg;split at h
   ·rename_i hb;show((a9 n).bind fun o=>match o with
     | .cells m t z=>aB (Nat.ble (off+(k+1)) m) <| lift (fy t z (k+1) off)
     | .ro m t=>aB (Nat.ble (off+(k+1)) m) <| lift (fy t [] (k+1) off)
     |_=>fail) s=_
    rw[M.bg<|ko hn hg];show aB (Nat.ble (off+(k+1)) m) (lift<|fy tt z (k+1) off) (aN n s)=_;rw[hb,bD,h];rfl
   ·cases h
  ·cases h
theorem NF{ty:TypeId}{n off k:Nat}{cs:List AV}{ag:Bool}{v:AV}(hg:ly P ty=some ag)(hw:xy P ty ag=some k)(hk:pe k=true)(hn:Nat.blt n s.nx=true)(hv:ym ag cs=some v)(h:cellsOf (s.h.get n) off k=some cs):loadVar P ty n off s= .ok v (aN n s):=by
 unfold loadVar;rw[hg,aO];cases ag with
 |true=>
  have hw:cd P ty=some k:=hw;injection hv with hv;subst hv
  show(aG (cd P ty) fun k=>(dH n off k).bind fun l=>M.pure<|AV.agg l) s=_;rw[hw,aO,M.bg<|Gu hk hn h];rfl
 |false=>
  injection hw with hw;subst hw
  show((dH n off 1).bind fun l=>lift<|one l) s=_;rw[M.bg<|Gu hk hn h];show lift (one cs) (aN n s)=_;rw[show one cs=some v from hv];rfl
theorem Ek{x:TypeId×Operand}{a:Nat×Nat}{k:Nat}{cs:List AV}{ag:Bool}{v:AV}(ha:ar t x.2=some (.ptr<|some a))(hg:ly P x.1=some ag)(hw:xy P x.1 ag=some k)(hk:pe k=true)(hn:Nat.blt a.1 s.nx=true)(hv:ym ag cs=some v)(h:cellsOf (s.h.get a.1) a.2 k=some cs):(bC P<|.load x.1 x.2).val U7 t s= .ok v (aN a.1 s):=by show ng P x.1 x.2 U7 t s=_;unfold ng;rw[ha,aO];show loadVar P x.1 a.1 a.2 s=_;exact NF hg hw hk hn hv h
theorem QJ{x:TypeId×Operand×Operand}{a:Nat×Nat}{k:Nat}{v:AV}{o:U}(ha:ar t x.2.1=some (.ptr<|some a))(hv:ar t x.2.2=some v)(hk:cd P x.1=some k)(hl:Nat.beq v.cells.length k=true)(hp:pe k=true)(hn:Nat.blt a.1 s.nx=true)(ht:Nat.blt a.1 top=true)(h:gA (s.h.get a.1) a.2 v.cells=some o):(bC P<|.store x.1 x.2.1 x.2.2).val U7 t s= .ok jN (eY a.1 (some o)<|aN a.1 s):=by
 show o4 P x.1 x.2.1 x.2.2 U7 t s=_;unfold o4;rw[ha,aO];show aG (ar t x.2.2) (fun v=>(storeVar P x.1 a.1 a.2 v).bind fun _=>M.pure jN) s=_;rw[hv,aO];have hw:storeVar P x.1 a.1 a.2 v s= .ok () (eY a.1 (some o)<|aN a.1 s):=by
  unfold storeVar;rw[hk,aO,hl,bD];unfold gA at h;split at h
  ·rename_i m tt z hg;split at h
   ·rename_i hb;injection h with h;subst h
    cases hc:v.cells with
    |nil=>rw[hc] at hl;have:=Nat.eq_of_beq_eq_true hl;subst this;cases hp
    |cons y r=>
     rw[hc] at hb;show((a9 a.1).bind fun o=>match o with
      | .cells m t z=>aB (and (Nat.ble (a.2+(r.length+1)) m)<|and (Nat.ble m top)<|(y::r).all AV.bu) <| ba a.1 (some<|.cells m (Tr.fill (y::r) a.2 t) z)
      |_=>fail) s=_
     rw[M.bg<|ko hn hg];show aB (and (Nat.ble (a.2+(r.length+1)) m)<|and (Nat.ble m top)<|(y::r).all AV.bu) (ba a.1<|some<|.cells m (Tr.fill (y::r) a.2 tt) z) (aN a.1 s)=_;rw[show(and (Nat.ble (a.2+(r.length+1)) m)<|and (Nat.ble m top)<|(y::r).all AV.bu)=true from hb,bD];obtain⟨e1,e2,_⟩:=fW a.1 s;exact qj (p:=.cells m tt z) (by rw[e2];exact hn) (by rw[e1];exact hg) rfl ht
   ·cases h
  ·cases h
 rw[M.bg hw];rfl
theorem QK{sp:Sp}{F:Nat->Option (List AV)}{n:Nat}{x:TypeId×Operand}{a:Nat×Nat}{k:Nat}{cs:List AV}{ag:Bool}{v:AV}(ha:ar t x.2=some (.kz a.1 a.2))(hg:ly P x.1=some ag){z:Nat}(hz:cd P x.1=some z)(hw:xy P x.1 ag=some k)(hv:ym ag cs=some v)(ht:top<=a.1)(h:fj F a.1 a.2 k=some cs):(bC P<|.load x.1 x.2).val (br P sp F n) t s= .ok v s:=by
 show ng P x.1 x.2 (br P sp F n) t s=_;unfold ng;rw[ha,aO];show(match Nat.ble top a.1 with
  |true=>n6 P x.1 (br P sp F n) a.1 a.2
  |false=>oW P x.1 a.1 a.2) s=_
 rw[aK.2 ht];have hr:∀k,fj F a.1 a.2 k=some cs->br P sp F n (.row a.1 a.2 k) [] s= .ok (.agg cs) s:=by
  intro k h;have:lA F a.1 a.2 k s= .ok (.agg cs) s:=by
   unfold fj at h;unfold lA;cases e:F a.1 with
   |none=>rw[e] at h;cases h
   |some l=>
    rw[e] at h;simp only at h;split at h
    ·rename_i hb;injection h with h;subst h
     rw[aO,hb,bD];rfl
    ·cases h
  cases n<;>exact this
 show n6 P x.1 (br P sp F n) a.1 a.2 s=_;unfold n6;rw[hg,aO];rw[hz,aO];cases ag with
 |true=>
  have hw:cd P x.1=some k:=hw;rw[hz] at hw;injection hw with hw;subst hw
  injection hv with hv;subst hv
  show((br P sp F n (.row a.1 a.2 z) []).bind fun v=>_) s=_;rw[M.bg<|hr z h];rfl
 |false=>
  injection hw with hw;subst hw
  show((br P sp F n (.row a.1 a.2 1) []).bind fun v=>_) s=_;rw[M.bg<|hr 1 h];show lift (one cs) s=_;rw[show one cs=some v from hv];rfl
theorem RI{x:BinOp×TypeId×Operand×Operand×TypeId}{k:IntKind}{a b:Int}(ho:x.1= .rem)(hx:ar t x.2.2.1=some (.int k a))(hy:ar t x.2.2.2.1=some (.int k b))(hb:b≠0):(bC P<|.binOp x.1 x.2.1 x.2.2.1 x.2.2.2.1 x.2.2.2.2).val U7 t s= .ok (.int k<|Int.tmod a b) s:=by rw[ho];exact Qu hx hy hb rfl
theorem RJ{x:BinOp×TypeId×Operand×Operand×TypeId}{k k':IntKind}{a b:Int}(ho:lX x.1=true)(hx:ar t x.2.2.1=some (.int k a))(hy:ar t x.2.2.2.1=some (.int k' b))(hb:0<=b):(bC P<|.binOp x.1 x.2.1 x.2.2.1 x.2.2.2.1 x.2.2.2.2).val U7 t s= .ok (.int k<|yj x.1 k a b) s:=by obtain⟨o,ty,p,q,yt⟩:=x;exact O5 (by rw[hx,hy];exact congrArg _<|congrArg _ ho) hb
theorem C6:∀{l:List<|Nat×AV},l.map (fun q=>t.get q.1)=l.map (fun q=>some q.2)->pb t l
 |[],_=>trivial
 |p::l,h=>by simp only[List.map_cons,List.cons.injEq] at h;exact⟨h.1,C6 h.2⟩
theorem Dt{h:Tr U}:∀{o:List<|Nat×Option U},o.map (fun q=>h.get q.1)=o.map (fun q=>q.2)->(o.all fun q=>DK q.2)=true->pz h o
 |[],_,_=>trivial
 |p::l,e,k=>by simp only[List.map_cons,List.cons.injEq] at e;rw[List.all_cons] at k;obtain⟨k1,k2⟩:=and_true.1 k;exact⟨⟨e.1,fun o ho=>by rw[ho] at k1;exact k1⟩,Dt e.2 k2⟩
end
def rr(m m':bM):Prop:=m.i=m'.i/\(∀n∈m.rd,n∈m'.rd)/\(∀n∈m.wr,n∈m'.wr)/\m.lo=m'.lo/\m.hi=m'.hi
def iq:List bM->List bM->Prop
 |[],[]=>True
 |x::l,y::m=>rr x y/\iq l m
 |_,_=>False
theorem rr.refl(m:bM):rr m m:=⟨rfl,fun _ h=>h,fun _ h=>h,rfl,rfl⟩
theorem iq.refl:∀l:List bM,iq l l
 |[]=>trivial
 |x::l=>⟨rr.refl x,iq.refl l⟩
theorem iq.app:∀{a a' b b':List bM},iq a a'->iq b b'->iq (a++b) (a'++b')
 |[],[],_,_,_,h=>h
 |_::_,_::_,_,_,h,k=>⟨h.1,iq.app h.2 k⟩
 |[],_::_,_,_,h,_=>h.elim
 |_::_,[],_,_,h,_=>h.elim
theorem CM{lo hi:Nat}:∀{l:List Nat},qC lo hi l=true↔∃n∈l,lo<=n/\n<hi
 |[]=>by simp[qC]
 |x::l=>by
  have ih:=CM (lo:=lo) (hi:=hi) (l:=l);unfold qC;cases q:(Nat.ble lo x&&Nat.blt x hi) with
  |true=>obtain⟨h1,h2⟩:=and_true.1 q;exact⟨fun _=>⟨x,List.mem_cons_self,aK.1 h1,(blt_eq _ _).mp h2⟩,fun _=>rfl⟩
  |false=>
   refine ih.trans ⟨fun⟨n,a,b⟩=>⟨n,List.mem_cons_of_mem _ a,b⟩,fun⟨n,a,b⟩=>?_⟩;rcases List.mem_cons.1 a with rfl|a
   ·exfalso;rw[show(Nat.ble lo n&&Nat.blt n hi)=true from and_true.2 ⟨aK.2 b.1,(blt_eq _ _).mpr b.2⟩] at q;cases q
   ·exact⟨n,a,b⟩
theorem CN:∀{a b:List Nat},meets a b=true↔∃n∈a,n∈b
 |[],b=>by simp[meets]
 |x::a,b=>by
  have ih:=CN (a:=a) (b:=b);unfold meets;cases q:oi x b with
  |true=>exact⟨fun _=>⟨x,List.mem_cons_self,uD.1 q⟩,fun _=>rfl⟩
  |false=>
   refine ih.trans ⟨fun⟨n,h,k⟩=>⟨n,List.mem_cons_of_mem _ h,k⟩,fun⟨n,h,k⟩=>?_⟩;rcases List.mem_cons.1 h with rfl|h
   ·rw[uD.2 k] at q;cases q
   ·exact⟨n,h,k⟩
theorem zW{m:Nat}{a b:List Nat}(h:∀k∈a,k∈b)(n:Nat)(hn:n∈below m a):n∈below m b:=by obtain⟨h1,h2⟩:=lS.1 hn;exact lS.2 ⟨h n h1,h2⟩
theorem p9(l:List Nat):below 0 l=[]:=rfl
theorem NG{x x' y y':bM}(hx:rr x x')(hy:rr y y')(h:mY x' y'=true):mY x y=true:=by
 unfold mY at h ⊢;obtain⟨h1,h2⟩:=and_true.1 h;refine and_true.2 ⟨?_,?_⟩
 ·cases q:meets x.wr y.rd with
  |false=>rfl
  |true=>obtain⟨n,a,b⟩:=CN.1 q;rw[CN.2 ⟨n,hx.2.2.1 n a,hy.2.1 n b⟩] at h1;cases h1
 ·cases q:qC x.lo x.hi y.rd with
  |false=>rfl
  |true=>obtain⟨n,a,b⟩:=CM.1 q;rw[hx.2.2.2.1,hx.2.2.2.2] at b;rw[CM.2 ⟨n,hy.2.1 n a,b⟩] at h2;cases h2
theorem NH{x x':bM}(hx:rr x x')(h:mZ x'=true):mZ x=true:=by
 unfold mZ at h ⊢;cases e:x'.wr with
 |cons a l=>rw[e] at h;cases h
 |nil=>
  rw[e] at h;cases e2:x.wr with
  |nil=>rw[hx.2.2.2.1,hx.2.2.2.2];exact h
  |cons a l=>have:=hx.2.2.1 a (by rw[e2];exact List.mem_cons_self);rw[e] at this;cases this
theorem Gd{b:Array Nat}{x x':bM}(hx:rr x x'):∀{l l':List bM},iq l l'->mL b x' l'=true->mL b x l=true
 |[],[],_,_=>rfl
 |[],_::_,h,_=>h.elim
 |_::_,[],h,_=>h.elim
 |y::l,y'::l',hl,h=>by
  unfold mL at h ⊢;cases q:(Nat.beq x'.i y'.i||(mY x' y'|| !loose b x'.i y'.i)) with
  |false=>rw[q] at h;cases h
  |true=>
   rw[q] at h;have:(Nat.beq x.i y.i||(mY x y|| !loose b x.i y.i))=true:=by
    rw[hx.1,hl.1.1];cases q1:Nat.beq x'.i y'.i with
    |true=>rfl
    |false=>
     rw[q1] at q;cases q2:mY x' y' with
     |true=>rw[NG hx hl.1 q2];rfl
     |false=>
      rw[q2] at q;cases mY x y
      ·exact q
      ·rfl
   rw[this];exact Gd hx hl.2 h
theorem HR{b:Array Nat}{all EK:List bM}(ha:iq all EK):∀{l l':List bM},iq l l'->lp b EK l'=true->lp b all l=true
 |[],[],_,_=>rfl
 |[],_::_,h,_=>h.elim
 |_::_,[],h,_=>h.elim
 |x::l,x'::l',hl,h=>by
  unfold lp at h ⊢;cases q:(mZ x'||mL b x' EK) with
  |false=>rw[q] at h;cases h
  |true=>
   rw[q] at h;have:(mZ x||mL b x all)=true:=by
    cases q1:mZ x' with
    |true=>rw[NH hl.1 q1];rfl
    |false=>rw[q1] at q;rw[Gd hl.1 ha q];cases mZ x<;>rfl
   rw[this];exact HR ha hl.2 h
theorem kG.cover{P:Program}{U7:aJ}{G:AF->AS->Prop}{f nt:Nat}{K:List Item}{ops:Array Oper}{acc Bj:List bM}{i:Nat}{t:Tr AV}{s:AS}(h:iq acc Bj)(H:kG P U7 G f nt K ops Bj i t s):kG P U7 G f nt K ops acc i t s:=by obtain⟨t1,ms,s1,q1,q2,q3⟩:=H;exact⟨t1,ms,s1,q1,HR (h.app<|iq.refl ms) (h.app<|iq.refl ms) q2,q3⟩
theorem Od{b:Bool}{A B X:Prop}(hy:b=true->A)(fN:b=false->B)(ha:b=true->A->X)(hb:b=false->B->X):X:=by
 cases b with
 |true=>exact ha rfl<|hy rfl
 |false=>exact hb rfl<|fN rfl
theorem Pa{o:Option AV}{c:Prop}{d:Decidable c}{A B X:Prop}(h:o=some (.bool<|@decide c d))(hy:c->A)(fN:¬c->B)(ha:o=some (.bool true)->A->X)(hb:o=some (.bool false)->B->X):X:=by
 by_cases q:c
 ·rw[decide_eq_true q] at h;exact ha h<|hy q
 ·rw[decide_eq_false q] at h;exact hb h<|fN q
theorem rY{v:AV}{x:Nat×Nat×aZ}(h:pF v=some x):v= .slice (some (x.1,0)) x.2.1 x.2.2:=by
 unfold pF at h;split at h
 ·injection h with h;subst h;rfl
 ·cases h
theorem Ge{op:Op}{x:TypeId×Operand×Option Operand×Option Operand}(h:zJ op=some x):op= .slice x.1 x.2.1 x.2.2.1 x.2.2.2 none:=by
 unfold zJ at h;split at h
 ·injection h with h;subst h;rfl
 ·cases h
theorem CO{i:Int}{n:Nat}(h0:0<=i)(h1:i<(n:Int)):within i n=some i.toNat:=by
 obtain⟨k,rfl⟩:=Int.eq_ofNat_of_zero_le h0;have hk:k<n:=by omega
 show(match (Int.ofNat k) with| .ofNat k=>(match Nat.blt k n with|true=>some k|false=>none)| .negSucc _=>none)=some k;have:Nat.blt k n=true:=by rw[blt_eq];exact hk
 simp only[this]
theorem zE{t:Tr AV}{o:Option Operand}{d v:Int}{lz:Nat}(h:n9 t o d=some v)(h0:0<=v)(h1:v<=(lz:Int)):∃y,opt (ar t) o=some y/\∀dn:Nat,(Int.ofNat dn=d)->bound y lz dn=some v.toNat:=by
 cases o with
 |none=>
  injection h with h;subst h
  exact⟨none,rfl,fun dn e=>by subst e;rfl⟩
 |some x=>
  unfold n9 at h;simp only at h;cases e:ar t x with
  |none=>rw[e] at h;cases h
  |some z=>
   rw[e] at h;cases z<;>simp only at h<;>first|(cases h;done)|skip
   rename_i k n;injection h with h;subst h
   refine⟨some<|.int k n,?_,fun dn _=>?_⟩
   ·show(match ar t x with|none=>none|some v=>some<|some v)=_;rw[e]
   ·show within n (lz+1)=_;exact CO h0 (by omega)
theorem RK{P:Program}{U7:aJ}{t:Tr AV}{s:AS}{x:TypeId×Operand×Option Operand×Option Operand}{n o len K:Nat}{lo hi:Int}(hx:ar t x.2.1=some (.ch n o len))(hk:jQ P x.1=some K)(h1:n9 t x.2.2.1 0=some lo)(h2:n9 t x.2.2.2 (Int.ofNat len)=some hi)(ht:top<=n)(a1:0<=lo)(a2:lo<=hi)(a3:hi<=Int.ofNat len):
 (bC P<|.slice x.1 x.2.1 x.2.2.1 x.2.2.2 none).val U7 t s= .ok (.ch n (o+lo.toNat*K)<|hi.toNat - lo.toNat) s:=by
 obtain⟨y1,e1,f1⟩:=zE (lz:=hi.toNat) h1 a1 (by omega);obtain⟨y2,e2,f2⟩:=zE (lz:=len) h2 (by omega) a3;show lh P x.1 x.2.1 x.2.2.1 x.2.2.2 none U7 t s=_;unfold lh;rw[hx,aO,e1,aO,e2,aO];show lift (lW P x.1 (.ch n o len) y1 y2 none) s=_;have:lW P x.1 (.ch n o len) y1 y2 none=some (.ch n (o+lo.toNat*K)<|hi.toNat - lo.toNat):=by
  unfold jQ at hk;split at hk<;>first|(cases hk;done)|skip
  rename_i e hu;unfold lW;rw[hu];simp only[hk,f2 len rfl,f1 0 rfl,aK.2 ht]
 rw[this];rfl
theorem L6{op:Op}{x:TypeId×Operand×Operand×Operand}(h:Cl op=some x):op= .slice x.1 x.2.1 none (some x.2.2.1) (some x.2.2.2):=by
 unfold Cl at h;split at h
 ·injection h with h;subst h;rfl
 ·cases h
theorem RL{P:Program}{U7:aJ}{t:Tr AV}{s:AS}{x:TypeId×Operand×Option Operand×Option Operand}{n len K:Nat}{cap:aZ}{hi:Int}(hx:ar t x.2.1=some (.slice (some (n,0)) len cap))(hk:jQ P x.1=some K)(h1:n9 t x.2.2.1 0=some 0)(h2:n9 t x.2.2.2 (Int.ofNat len)=some hi)(hc:kept cap=true)(a1:0<=hi)(a2:hi<=Int.ofNat (fA len cap)):
 (bC P<|.slice x.1 x.2.1 x.2.2.1 x.2.2.2 none).val U7 t s= .ok (.slice (some (n,0)) hi.toNat cap) s:=by
 obtain⟨y1,e1,f1⟩:=zE (lz:=hi.toNat) h1 (by omega) (by omega);obtain⟨y2,e2,f2⟩:=zE (lz:=fA len cap) h2 a1 a2;show lh P x.1 x.2.1 x.2.2.1 x.2.2.2 none U7 t s=_;unfold lh;rw[hx,aO,e1,aO,e2,aO];show lift (lW P x.1 (.slice (some (n,0)) len cap) y1 y2 none) s=_;have:lW P x.1 (.slice (some (n,0)) len cap) y1 y2 none=some (.slice (some (n,0)) hi.toNat cap):=by
  unfold jQ at hk;split at hk<;>first|(cases hk;done)|skip
  rename_i e hu;unfold lW;rw[hu];have T1:=f1 0 rfl;simp only[hk,f2 len rfl];rw[T1];cases cap with
  |known c=>
   show(match Nat.beq c 0 with
    |true=>some (AV.slice (some (n,0)) (hi.toNat - 0)<|.known<|c - 0)
    |false=>some<|AV.slice (some (n,0+0*K)) (hi.toNat - 0)<|.known<|c - 0)=_
   rw[Nat.zero_mul];cases Nat.beq c 0<;>rfl
  |aU b e=>rfl
  |lost=>cases hc
 rw[this];rfl
theorem RM{P:Program}{U7:aJ}{t:Tr AV}{s:AS}{x:TypeId×Operand×Operand×Operand}{n len K:Nat}{cap:aZ}{hi mx:IntKind×Int}(hx:ar t x.2.1=some (.slice (some (n,0)) len cap))(hk:jQ P x.1=some K)(h1:ar t x.2.2.1=some (.int hi.1 hi.2))(h2:ar t x.2.2.2=some (.int mx.1 mx.2))(hc:kept cap=true)(a1:0<=hi.2)(a2:hi.2<=mx.2)(a3:mx.2<=Int.ofNat (fA len cap)):
 (bC P<|.slice x.1 x.2.1 none (some x.2.2.1)<|some x.2.2.2).val U7 t s= .ok (.slice (some (n,0)) hi.2.toNat<|.known mx.2.toNat) s:=by
 show lh P x.1 x.2.1 none (some x.2.2.1) (some x.2.2.2) U7 t s=_;unfold lh;have o1:opt (ar t) (some x.2.2.1)=some (some<|.int hi.1 hi.2):=by show(match ar t x.2.2.1 with|none=>none|some v=>some<|some v)=_;rw[h1]
 have o2:opt (ar t) (some x.2.2.2)=some (some<|.int mx.1 mx.2):=by show(match ar t x.2.2.2 with|none=>none|some v=>some<|some v)=_;rw[h2]
 rw[hx,aO,show opt (ar t) none=some none from rfl,aO,o1,aO,o2,aO];show lift (lW P x.1 (.slice (some (n,0)) len cap) none (some<|.int hi.1 hi.2)<|some<|.int mx.1 mx.2) s=_;have b1:bound (some<|.int mx.1 mx.2) (fA len cap) 0=some mx.2.toNat:=CO (by omega) (by have:(Int.ofNat<|fA len cap)=((fA len cap:Nat):Int):=rfl;omega);have b2:bound (some<|.int hi.1 hi.2) mx.2.toNat 0=some hi.2.toNat:=CO a1 (by omega);have:lW P x.1 (.slice (some (n,0)) len cap) none (some<|.int hi.1 hi.2) (some<|.int mx.1 mx.2)=some (.slice (some (n,0)) hi.2.toNat<|.known mx.2.toNat):=by
  unfold jQ at hk;split at hk<;>first|(cases hk;done)|skip
  rename_i e hu;unfold lW;rw[hu];simp only[hk];have h3:slice3 K (some (n,0)) (fA len cap) none (some<|.int hi.1 hi.2) (.int mx.1 mx.2)=some (.slice (some (n,0)) hi.2.toNat<|.known mx.2.toNat):=by
   unfold slice3;rw[b1];simp only;rw[b2];show(match Nat.beq mx.2.toNat 0 with
    |true=>some (AV.slice (some (n,0)) (hi.2.toNat - 0)<|.known<|mx.2.toNat - 0)
    |false=>some<|AV.slice (some (n,0+0*K)) (hi.2.toNat - 0)<|.known<|mx.2.toNat - 0)=_
   rw[Nat.zero_mul];cases Nat.beq mx.2.toNat 0<;>rfl
  cases cap with
  |known c=>exact h3
  |aU b e=>exact h3
  |lost=>cases hc
 rw[this];rfl
theorem Pb{P:Program}{sp:Sp}{F:Nat->Option (List AV)}{m n o k:Nat}{cs:List AV}{s:AS}(h:fj F n o k=some cs):br P sp F m (.row n o k) [] s= .ok (.agg cs) s:=by
 have:lA F n o k s= .ok (.agg cs) s:=by
  unfold fj at h;unfold lA;split at h
  ·rename_i l e;split at h
   ·rename_i q;injection h with h;subst h
    rw[e,aO,q,bD];rfl
   ·cases h
  ·cases h
 cases m<;>exact this
theorem M5{l:List AV}{z:Nat×List AV}(h:Ds l=some z):l= .ptr (some (z.1,0))::z.2:=by
 unfold Ds at h;split at h
 ·injection h with h;subst h;rfl
 ·cases h
theorem Oe{o:Option U}{u:Nat×AV}(h:Ej o=some u):o=some (.tok u.1 u.2):=by
 unfold Ej at h;split at h
 ·injection h with h;subst h;rfl
 ·cases h
theorem C7{E:Env}(hE:E.Ok):∀(fuel n:Nat) (c:BO) (p:Pl) (rs:List ResultVar) (k:Kt) (C:vP) (G:AF->AS->Prop),Chunk E.P (br E.P E.sp E.F n) G->
 (∀fr s j aX jm s1 x s2 p,dj E.P (br E.P E.sp E.F n) j fr s= .ok (.leave aX jm) s1->finish E.P rs aX jm s1= .ok x s2->k x s2 p->G fr s)->(∀fr s p,C fr s p->G fr s)->(∀f nt K t s l o nx p,E.fg=true->kF top l=true->kF top o=true->(Nat.ble s.nx nx&&Nat.ble nx top)=true->pb t l->pz s.h o->C ⟨f,cj l,nt,K,[],none⟩ (J o nx) p->G ⟨f,t,nt,K,[],none⟩ s)->(∀f nt K t s l0 o0 l o nx p,E.fg=true->l0.map (fun q=>t.get q.1)=l0.map (fun q=>some q.2)->o0.map (fun q=>s.h.get q.1)=o0.map (fun q=>q.2)->gE E.F E.lo s.nx l0 o0 l o nx->C ⟨f,cj l,nt,K,[],none⟩ (J o nx) p->G ⟨f,t,nt,K,[],none⟩ s)->(∀f nt K t s l o nx p,E.fg=true->kF top l=true->kF nx o=true->(Nat.ble nx s.nx&&(Nat.blt s.nx top&&Nat.ble E.lo nx))=true->pb t l->pz s.h o->vO nx l o->C ⟨f,cj l,nt,K,[],none⟩ (J o nx) p->G ⟨f,t,nt,K,[],none⟩ s)->wp E fuel n c p rs k C->T0 E.P (br E.P E.sp E.F n) G c
 |0,n,c,p,rs,k,C,G,hG,hk,hC,hL,hR,hB,h=>h.elim
 |fuel+1,n,c,p,rs,k,C,G,hG,hk,hC,hL,hR,hB,h=>by
  have ih:=C7 hE fuel;have h:Ft E (wp E fuel) n c p rs k C:=h;unfold Ft at h;cases c with
  |fr f nt K t s=>
   simp only at h;split at h
   ·obtain⟨x,s1,h1,h⟩:=u9 h;obtain⟨y,h2,h⟩:=az h;rw[Ob h2] at h1;exact hG _ _ _ _ _ h1<|ih n _ _ rs k C G hG hk hC hL hR hB h
   ·obtain⟨x,h1,h⟩:=az h;obtain⟨id,rfl⟩:=M0 h1;exact gp.SK hG<|ih n _ _ rs k C G hG hk hC hL hR hB h
   ·obtain⟨x,s1,h1,h⟩:=u9 h;obtain⟨y,h2,h⟩:=az h;obtain⟨v,s2,h3,h⟩:=u9 h;rw[Oc h2] at h1;exact hk _ _ _ _ _ _ _ _ _ h1 h3 h
   ·exact hC _ _ _ h
   ·obtain⟨h1,h2,h3,h⟩:=cD h;obtain⟨q0,h1⟩:=and_true.1 h1;obtain⟨q1,h1⟩:=and_true.1 h1;obtain⟨q2,h1⟩:=and_true.1 h1;obtain⟨q3,q4⟩:=and_true.1 h1;exact hL _ _ _ _ _ _ _ _ _ q0 q1 q2 q3 (C6 h2) (Dt h3 q4) h
   ·obtain⟨h1,h2,h3,h4,h⟩:=cD h;obtain⟨q0,q1⟩:=and_true.1 h1;have q1:=Nat.eq_of_beq_eq_true q1;rw[←q1] at h4;exact hR _ _ _ _ _ _ _ _ _ _ _ q0 h2 h3 h4 h
   ·obtain⟨h1,h2,h3,h4,h⟩:=cD h;obtain⟨q0,h1⟩:=and_true.1 h1;obtain⟨q1,h1⟩:=and_true.1 h1;obtain⟨q2,h1⟩:=and_true.1 h1;obtain⟨q3,q4⟩:=and_true.1 h1;exact hB _ _ _ _ _ _ _ _ _ q0 q1 q2 q3 (C6 h2) (Dt h3 q4) h4 h
   ·exact h.elim
  |rg f nt K ops D i t s=>
   simp only at h;split at h
   ·obtain⟨h1,h⟩:=cD h;obtain⟨x,s1,h2,h⟩:=u9 h;exact gp.go h1 h2<|ih n _ _ rs k C G hG hk hC hL hR hB h
   ·obtain⟨h1,h⟩:=cD h;obtain⟨h2,h⟩:=cD h;exact gp.done h1 h2<|ih n _ _ rs k C G hG hk hC hL hR hB h
   ·obtain⟨o,ho,h⟩:=az h;obtain⟨hw,h⟩:=cD h;obtain⟨op,d,g⟩:=o;simp only at hw h;have hn:∀v s1 p,(bC E.P op).val (br E.P E.sp E.F n) t (cK D s)= .ok v s1->(wo (eU nt t d v) fun t1=>wp E fuel n (.rg f nt K ops (Bg D i s s1) (i+1) t1<|qO D s s1) p rs k C)->gp E.P (br E.P E.sp E.F n) G f nt K ops D i t s:=by intro v s1 p hv h;obtain⟨t1,hp,h⟩:=az h;exact gp.op ho hw hv hp (ih n _ _ rs k C G hG hk hC hL hR hB h)
    generalize bq:(fun(v:AV) (s1:AS) (p:Pl)=>wo (eU nt t d v) fun t1=>wp E fuel n (.rg f nt K ops (Bg D i s s1) (i+1) t1<|qO D s s1) p rs k C)=nx at h;have hn:∀v s1 p,(bC E.P op).val (br E.P E.sp E.F n) t (cK D s)= .ok v s1->nx v s1 p->gp E.P (br E.P E.sp E.F n) G f nt K ops D i t s:=by intro v s1 p hv h;rw[←bq] at h;exact hn v s1 p hv h
    have jU:∀v h2 R W p,((D.isSome&&Nat.beq s.mark 0)||Nat.beq (cK D s).mark 0)=true->(∃rd wr,(∀k∈rd,k∈R\/k∈(cK D s).rd)/\(∀k∈wr,k∈W\/k∈(cK D s).wr)/\((cK D s).mark=0->rd=(cK D s).rd/\wr=(cK D s).wr)/\
     (bC E.P op).val (br E.P E.sp E.F n) t (cK D s)= .ok v ⟨h2,(cK D s).nx+1,(cK D s).mark,rd,wr⟩)->nx v (Bh (D.isSome&&Nat.beq s.mark 0) (cK D s) h2 R W) p->gp E.P (br E.P E.sp E.F n) G f nt K ops D i t s:=by
     rintro v h2 R W p ct ⟨rd,wr,a1,a2,a3,hv⟩ h;cases y6:(D.isSome&&Nat.beq s.mark 0) with
     |false=>rw[y6] at ct h;have qX:=Nat.eq_of_beq_eq_true (show Nat.beq (cK D s).mark 0=true from ct);obtain⟨rfl,rfl⟩:=a3 qX;exact hn _ _ _ hv h
     |true=>
      rw[y6] at h;obtain⟨yY,Fu⟩:=and_true.1 y6;cases D with
      |none=>cases yY
      |some acc=>
       have hm:s.mark=0:=Nat.eq_of_beq_eq_true Fu;have a1:∀k∈rd,k∈R:=fun k hk=>(a1 k hk).resolve_right (by show ¬k∈([]:List Nat);simp);have a2:∀k∈wr,k∈W:=fun k hk=>(a2 k hk).resolve_right (by show ¬k∈([]:List Nat);simp);have h:nx v ⟨h2,(cK (some acc) s).nx+1,(cK (some acc) s).mark,R,W⟩ p:=h;rw[←bq] at h;obtain⟨t1,hp,h⟩:=az h;refine gp.op ho hw hv hp ?_;have H:=ih n _ _ rs k C G hG hk hC hL hR hB h;have e:qO (some acc) s ⟨h2,(cK (some acc) s).nx+1,(cK (some acc) s).mark,rd,wr⟩=qO (some acc) s ⟨h2,(cK (some acc) s).nx+1,(cK (some acc) s).mark,R,W⟩:=by show pd s _=pd s _;unfold pd;rw[hm,p9,p9,p9,p9]
       rw[e];exact kG.cover (Bj:=acc++[yh i s ⟨h2,(cK (some acc) s).nx+1,(cK (some acc) s).mark,R,W⟩]) (iq.app (iq.refl acc) ⟨⟨rfl,fun n h=>zW a1 n h,fun n h=>zW a2 n h,rfl,rfl⟩,trivial⟩) H
    show gp E.P (br E.P E.sp E.F n) G f nt K ops D i t s;unfold Ll at h;split at h
    ·obtain⟨x,h1,h⟩:=az h;obtain⟨a,h2,h⟩:=az h;obtain⟨b,h3,h⟩:=az h;obtain⟨a1,h4,h⟩:=az h;obtain⟨b1,h5,h⟩:=az h;obtain⟨h6,h⟩:=cD h;obtain⟨c,h7,hy,fN⟩:=az h;have h6:=of_decide_eq_true h6;have e:=ur h1;rw[iO h4] at h2;rw[iO h5, ←h6] at h3;obtain⟨r,hr,Lm⟩:=PT h7;have hv:(bC E.P op).val (br E.P E.sp E.F n) t (cK D s)= .ok (.bool r) (cK D s):=by rw[e];exact Qw h2 h3 hr
     cases r with
     |true=>exact hn _ _ _ hv<|hy<|Lm.1 rfl
     |false=>exact hn _ _ _ hv (fN fun q=>by have:=Lm.2 q;cases this)
    ·obtain⟨v',s1,h1,rfl,h⟩:=u9 h;exact hn _ _ _ h1 h
    ·obtain⟨x,h1,h⟩:=az h;obtain⟨m,hm,h⟩:=az h;obtain⟨val,h2,h⟩:=az h;obtain⟨h3,h4,h⟩:=cD h;have e:=uz hm;exact hn _ _ _ (by rw[e];exact nT h1<|hE.nJ _ _ _ _ _ _ h2 h4 h3) h
    ·obtain⟨x,h1,h⟩:=az h;obtain⟨m,hm,h⟩:=az h;obtain⟨val,h2,h⟩:=az h;obtain⟨h3,h4,hy,fN⟩:=cD h;have e:=uz hm;have hv:=fun b (h4:val x.2=some (.bool b))=>(show(bC E.P op).val (br E.P E.sp E.F n) t (cK D s)= .ok (.bool b) (E.cs<|cK D s) by rw[e];exact nT (P:=E.P) h1<|hE.nJ _ _ _ _ _ m h2 h4 h3);exact Pa h4 hy fN (fun q h=>hn _ _ _ (hv _ q) h) fun q h=>hn _ _ _ (hv _ q) h
    ·obtain⟨x,h1,h⟩:=az h;obtain⟨h6,h⟩:=cD h;obtain⟨a,h2,h⟩:=az h;obtain⟨b,h3,h⟩:=az h;obtain⟨a1,h4,h⟩:=az h;obtain⟨b1,h5,h⟩:=az h;obtain⟨h7,h8,h9,h⟩:=cD h;have e:=ur h1;have ea:x.1= .add:=by revert h6;split<;>intro h6<;>first|assumption|cases h6
     rw[wY h4] at h2;rw[wY h5] at h3;refine hn _ _ _ ?_ h;rw[e,ea];exact N9 (by rw[h2,h3]) h8 h9 h7
    ·obtain⟨x,h1,h⟩:=az h;obtain⟨a,h2,h⟩:=az h;obtain⟨b,h3,h⟩:=az h;obtain⟨xs,h4,h⟩:=az h;obtain⟨ys,h5,h⟩:=az h;obtain⟨h6,h⟩:=cD h;obtain⟨h7,h⟩:=cD h;obtain⟨h8,h⟩:=cD h;obtain⟨l,h9,h⟩:=az h;have e:=ur h1;rw[HQ h4] at h2;rw[HQ h5] at h3;have h8:E.P.stoodInHeld x.2.1=false:=by simpa using h8
     split at h
     ·rename_i eo;rw[eo] at h6 e;obtain⟨hy,fN⟩:=h;have hv:(bC E.P op).val (br E.P E.sp E.F n) t (cK D s)= .ok (.bool<|allEq l) (cK D s):=by rw[e];exact PN h2 h3 h6 h7 h8 h9 rfl
      cases q:allEq l with
      |true=>rw[q] at hv;exact hn _ _ _ hv<|hy q
      |false=>rw[q] at hv;exact hn _ _ _ hv<|fN q
     ·rename_i eo;rw[eo] at h6 e;obtain⟨hy,fN⟩:=h;have hv:(bC E.P op).val (br E.P E.sp E.F n) t (cK D s)= .ok (.bool<|!allEq l) (cK D s):=by rw[e];exact PM h2 h3 h6 h7 h8 h9 rfl
      cases q:allEq l with
      |true=>rw[q] at hv;exact hn _ _ _ hv<|hy q
      |false=>rw[q] at hv;exact hn _ _ _ hv<|fN q
     ·exact h.elim
    ·obtain⟨x,h1,h⟩:=az h;obtain⟨m,hm,h⟩:=az h;obtain⟨h2,h⟩:=cD h;obtain⟨y,h3,h⟩:=az h;obtain⟨a,h4,h⟩:=az h;obtain⟨sep,h5,h⟩:=az h;obtain⟨h6,h⟩:=cD h;obtain⟨l,s1,h7,h⟩:=u9 h;obtain⟨ts,h8,h9,dU,h⟩:=az h;have e:=uz hm;refine hn _ _ _ ?_ h;rw[e];refine nT h1 ?_;rw[O8 h3,GU h4,wY h5, ←h9];exact Oa (hE.jn _ h2) (by rw[h6,h7,h8]) dU
    ·obtain⟨x,h1,h⟩:=az h;obtain⟨h6,h⟩:=cD h;obtain⟨a,h2,h⟩:=az h;obtain⟨b,h3,h⟩:=az h;obtain⟨a1,h4,h⟩:=az h;obtain⟨b1,h5,h7,h⟩:=az h;have e:=ur h1;have ea:x.1= .eql:=by revert h6;split<;>intro h6<;>first|assumption|cases h6
     rw[wY h4] at h2;rw[wY h5] at h3;refine hn _ _ _ ?_ h;rw[e,ea];exact Nz (by rw[h2,h3]) h7
    ·obtain⟨x,h1,h2,h⟩:=az h;exact hn _ _ _ (nT h1 h2) h
    ·obtain⟨x,h1,h2,h3,h⟩:=az h;exact hn _ _ _ (nT h1<|h2 _ h3) h
    ·obtain⟨x,h1,h⟩:=az h;obtain⟨a,h2,h⟩:=az h;obtain⟨i',h3,h4,h5,h⟩:=az h;refine hn _ _ _ ?_ h;rw[Gc h1];show kZ E.P x.1 x.2.1 x.2.2 true (br E.P E.sp E.F n) t (cK _ s)=_;unfold kZ;rw[h2,h3,aO,aO];exact h4 _ h5
    ·obtain⟨x,h1,h⟩:=az h;obtain⟨a,h2,h⟩:=az h;obtain⟨i',h3,h⟩:=az h;obtain⟨y',h4,h5,h6,h⟩:=az h;refine hn _ _ _ ?_ h;rw[Ca h1];show iR E.P x.1 x.2.1 x.2.2.1 x.2.2.2 (br E.P E.sp E.F n) t (cK _ s)=_;unfold iR;rw[h2,h3,h4,aO,aO,aO,M.bg<|h5 _ h6];rfl
    ·obtain⟨x,h1,h⟩:=az h;obtain⟨a,h2,h⟩:=az h;obtain⟨b',h3,h4,h5,h⟩:=az h;refine hn _ _ _ ?_ h;rw[M3 h1];show oQ E.P x.1 x.2.1 x.2.2 (br E.P E.sp E.F n) t (cK _ s)=_;unfold oQ;rw[h2,h3,aO,aO];exact h4 _ h5
    ·obtain⟨x,h1,h⟩:=az h;obtain⟨a,h2,h⟩:=az h;obtain⟨b',h3,h⟩:=az h;obtain⟨hb,h4,h5,h⟩:=cD h;refine hn _ _ _ ?_ h;rw[wF h1];show iP E.P .append x.2.2 [x.1,x.2.1] (br E.P E.sp E.F n) t (cK _ s)=_;unfold iP;have iH:eJ (ar t) [x.1,x.2.1]=some [a,b']:=by simp only[eJ,h2,h3]
     rw[iH,aO];cases b' with
     |ch=>cases hb
     |_=>exact h4 _ h5
    ·obtain⟨y6,h⟩:=cD h;obtain⟨x,h1,⟨rd,wr,k1,k2,k3⟩,hy,fN⟩:=az h;obtain⟨yY,Fu⟩:=and_true.1 y6;cases D with
     |none=>cases yY
     |some acc=>
      have hm:s.mark=0:=Nat.eq_of_beq_eq_true Fu;have Kx:∀v h2 eB R W p,(∀k∈rd,k∈R)->(∀k∈wr,k∈W)->(bC E.P op).val (br E.P E.sp E.F n) t (cK (some acc) s)= .ok v ⟨h2,eB,(cK (some acc) s).mark,rd,wr⟩->nx v ⟨h2,eB,(cK (some acc) s).mark,R,W⟩ p->gp E.P (br E.P E.sp E.F n) G f nt K ops (some acc) i t s:=by
       intro v h2 eB R W p a1 a2 hv h;rw[←bq] at h;obtain⟨t1,hp,h⟩:=az h;refine gp.op ho hw hv hp ?_;have H:=ih n _ _ rs k C G hG hk hC hL hR hB h;have e:qO (some acc) s ⟨h2,eB,(cK (some acc) s).mark,rd,wr⟩=qO (some acc) s ⟨h2,eB,(cK (some acc) s).mark,R,W⟩:=by show pd s _=pd s _;unfold pd;rw[hm,p9,p9,p9,p9]
       rw[e];exact kG.cover (Bj:=acc++[yh i s ⟨h2,eB,(cK (some acc) s).mark,R,W⟩]) (iq.app (iq.refl acc) ⟨⟨rfl,fun n h=>zW a1 n h,fun n h=>zW a2 n h,rfl,rfl⟩,trivial⟩) H
      rcases k3 with⟨T2,k3⟩|k3
      ·exact Kx _ _ _ _ _ _ k1 k2 (nT h1 k3)<|hy T2
      ·exact Kx _ _ _ _ _ _ k1 k2 (nT h1 k3) fN
    ·obtain⟨x,h1,h⟩:=az h;obtain⟨a,h2,h⟩:=az h;obtain⟨a',h3,h⟩:=az h;obtain⟨b,h4,h⟩:=az h;obtain⟨m,h5,h⟩:=az h;obtain⟨i1,h6,h⟩:=az h;obtain⟨hb,k1,k2,k3,k4,k5,k6,k7,h⟩:=cD h;obtain⟨b1,hb⟩:=and_true.1 hb;obtain⟨b0,hb⟩:=and_true.1 hb;obtain⟨b2,hb⟩:=and_true.1 hb;obtain⟨b3,hb⟩:=and_true.1 hb;obtain⟨b4,b5⟩:=and_true.1 hb;have b1:=Nat.eq_of_beq_eq_true b1;obtain⟨ty,e,e1,e2,e3,e4,e5⟩:=zD h6;cases bR:E.P.info? e with
     |none=>rw[bR] at e3;cases e3
     |some i0=>rw[bR] at e3;simp only[Option.map_some,Option.some.injEq,Prod.mk.injEq] at e3;obtain⟨q1,q2,q3⟩:=e3;rw[O9 h3,k1,k2,b1, ←q1] at h2;rw[NC h5] at h4;rw[←q1] at k5 k7 h b0;rw[←q2] at k6 e5;refine jU _ _ _ _ _ b5 ?_ h;rw[wF h1];obtain⟨rd,wr,d1,d2,d3,d4⟩:=QC h2 h4 e1 e2 bR (by rw[q3,e4];rfl) k3 k4 (by rw[b2,b3,b4];rfl) k5 ((blt_eq _ _).mp b0) e5 k6 k7;exact⟨rd,wr,fun k hk=>by rcases d1 k hk with rfl|rfl|h;exact .inl (by simp);exact .inl (by simp);exact .inr h,fun k hk=>by rcases d2 k hk with rfl|h;exact .inl (by simp);exact .inr h,d3,d4⟩
    ·obtain⟨x,h1,h⟩:=az h;obtain⟨a,h2,h⟩:=az h;obtain⟨a',h3,h⟩:=az h;obtain⟨ad,h4,h⟩:=az h;obtain⟨z,h5,h⟩:=az h;obtain⟨z',h6,h⟩:=az h;obtain⟨K1,h7,h⟩:=az h;obtain⟨h8,h9,dU,h⟩:=cD h;refine hn _ _ _ ?_ h;rw[Cb h1];rw[GU h3,h4] at h2;obtain⟨n0,o0⟩:=ad;have h8:o0=0:=Nat.eq_of_beq_eq_true h8;subst h8;rw[iO h6] at h5;exact RH h2 h5 h7 h9 dU
    ·obtain⟨x,h1,h⟩:=az h;obtain⟨a,h2,h⟩:=az h;obtain⟨a',h3,h⟩:=az h;obtain⟨z,h5,h⟩:=az h;obtain⟨z',h6,h⟩:=az h;obtain⟨K1,h7,h9,dU,h⟩:=az h;refine hn _ _ _ ?_ h;rw[Cb h1];rw[CK h3] at h2;rw[iO h6] at h5;exact QI h2 h5 h7 h9 dU
    ·obtain⟨x,h1,h⟩:=az h;obtain⟨a,h2,h⟩:=az h;obtain⟨a',h3,h⟩:=az h;obtain⟨ag,h4,h⟩:=az h;obtain⟨k1,h5,h⟩:=az h;obtain⟨h6,h⟩:=cD h;obtain⟨h7,h⟩:=cD h;obtain⟨v,h8,h9,h⟩:=az h;refine hn _ _ _ ?_ h;rw[zz h1];rw[zM h3] at h2;exact Ek h2 h4 h5 h6 h7 h8 h9
    ·obtain⟨x,h1,h⟩:=az h;obtain⟨a,h2,h⟩:=az h;obtain⟨a',h3,h⟩:=az h;obtain⟨ag,h4,h⟩:=az h;obtain⟨h5,h⟩:=cD h;obtain⟨h7,h8,hy,fN⟩:=cD h;have h5:ag=false:=by simpa using h5
     subst h5;rw[zM h3] at h2;exact Od hy fN (fun e h=>hn _ _ _ (by rw[zz h1];exact Ek h2 h4 rfl rfl h7 rfl<|by rw[h8,e]) h) fun e h=>hn _ _ _ (by rw[zz h1];exact Ek h2 h4 rfl rfl h7 rfl<|by rw[h8,e]) h
    ·obtain⟨x,h1,h⟩:=az h;obtain⟨a,h2,h⟩:=az h;obtain⟨a',h3,h⟩:=az h;obtain⟨ag,h4,h⟩:=az h;obtain⟨z,hz,h⟩:=az h;obtain⟨k1,h5,h⟩:=az h;obtain⟨v,h8,h9,dU,h⟩:=az h;refine hn _ _ _ ?_ h;rw[zz h1];rw[ND h3] at h2;exact QK h2 h4 hz h5 h8 h9 dU
    ·obtain⟨x,h1,h⟩:=az h;obtain⟨a,h2,h⟩:=az h;obtain⟨a',h3,h⟩:=az h;obtain⟨v,h4,h⟩:=az h;obtain⟨k1,h5,h⟩:=az h;obtain⟨h6,h⟩:=cD h;obtain⟨h7,h⟩:=cD h;obtain⟨h8,h⟩:=cD h;obtain⟨h9,dU,h⟩:=cD h;refine hn _ _ _ ?_ h;rw[Md h1];rw[zM h3] at h2;exact QJ h2 h4 h5 h6 h7 h8 h9 dU
    ·obtain⟨x,h1,h⟩:=az h;obtain⟨h6,h⟩:=cD h;obtain⟨a,h2,h⟩:=az h;obtain⟨b,h3,h⟩:=az h;obtain⟨a1,h4,h⟩:=az h;obtain⟨b1,h5,h7,h⟩:=az h;refine hn _ _ _ ?_ h;rw[ur h1];rw[iO h4] at h2;rw[iO h5] at h3;exact RJ h6 h2 h3 h7
    ·obtain⟨x,h1,h⟩:=az h;obtain⟨h6,h⟩:=cD h;obtain⟨a,h2,h⟩:=az h;obtain⟨b,h3,h⟩:=az h;obtain⟨a1,h4,h⟩:=az h;obtain⟨b1,h5,h⟩:=az h;obtain⟨h8,h7,h⟩:=cD h;have ea:x.1= .rem:=by revert h6;split<;>intro h6<;>first|assumption|cases h6
     have h8:=of_decide_eq_true h8;refine hn _ _ _ ?_ h;rw[ur h1];rw[iO h4] at h2;rw[iO h5, ←h8] at h3;exact RI ea h2 h3 h7
    ·obtain⟨x,h1,h⟩:=az h;obtain⟨a,h2,h⟩:=az h;obtain⟨a',h3,h⟩:=az h;obtain⟨b,h4,h⟩:=az h;obtain⟨b',h5,h⟩:=az h;obtain⟨i1,h6,h⟩:=az h;obtain⟨hb,k1,k2,k3,k4,k5,k6,k7,k8,h⟩:=cD h;obtain⟨b1,hb⟩:=and_true.1 hb;obtain⟨b2,hb⟩:=and_true.1 hb;obtain⟨b3,b4⟩:=and_true.1 hb;obtain⟨ty,e,e1,e2,e3,e4,e5⟩:=zD h6;cases bR:E.P.info? e with
     |none=>rw[bR] at e3;cases e3
     |some i0=>rw[bR] at e3;simp only[Option.map_some,Option.some.injEq,Prod.mk.injEq] at e3;obtain⟨q1,q2,q3⟩:=e3;rw[rY h3] at h2;rw[CK h5] at h4;rw[←q1] at k4 k6 k8 h b1;rw[←q2] at k7 e5;refine jU _ _ _ _ _ b4 ?_ h;rw[wF h1];obtain⟨rd,wr,d1,d2,d3,d4⟩:=QB (s:=cK D s) (U7:=br E.P E.sp E.F n) h2 k1 h4 e1 e2 bR (by rw[q3,e4];rfl) b1 k3 (fun s'=>Pb k4) k5 k2 (by rw[b2,b3];rfl) k6 e5 k7 k8;exact⟨rd,wr,fun k hk=>by rcases d1 k hk with rfl|h;exact .inl (by simp);exact .inr h,fun k hk=>by rcases d2 k hk with rfl|h;exact .inl (by simp);exact .inr h,d3,d4⟩
    ·obtain⟨x,h1,h⟩:=az h;obtain⟨a,h2,h⟩:=az h;obtain⟨a',h3,h⟩:=az h;obtain⟨K1,h4,h⟩:=az h;obtain⟨iz,h5,h⟩:=az h;obtain⟨bR,h6,h7,h8,h9,k1,k2,k3,h⟩:=az h;subst h7;subst h8;rw[CK h3] at h2;refine hn _ _ _ ?_ h;rw[Ge h1];exact RK h2 h4 h5 h6 h9 k1 k2 k3
    ·obtain⟨x,h1,h⟩:=az h;obtain⟨a,h2,h⟩:=az h;obtain⟨n',h3,h⟩:=az h;obtain⟨i',h4,h⟩:=az h;obtain⟨i1,h5,h⟩:=az h;obtain⟨y,h6,h⟩:=az h;obtain⟨hb,h7,h⟩:=cD h;obtain⟨b1,hb⟩:=and_true.1 hb;obtain⟨b2,hb⟩:=and_true.1 hb;obtain⟨b3,hb⟩:=and_true.1 hb;obtain⟨b4,b5⟩:=and_true.1 hb;refine hn _ _ _ ?_ h;rw[Mp h1];rw[zV h3] at h2;rw[iO h5,uA b3] at h4;exact RD h2 h4 (zL h6) b1 b2 (Ip b4) h7 b5
    ·obtain⟨x,h1,h⟩:=az h;obtain⟨a,h2,h⟩:=az h;obtain⟨n',h3,h⟩:=az h;obtain⟨i',h4,h⟩:=az h;obtain⟨i1,h5,h⟩:=az h;obtain⟨v',h8,h⟩:=az h;obtain⟨v1,h9,h⟩:=az h;obtain⟨y,h6,h⟩:=az h;obtain⟨hb,h7,h⟩:=cD h;obtain⟨b1,hb⟩:=and_true.1 hb;obtain⟨b2,hb⟩:=and_true.1 hb;obtain⟨b3,hb⟩:=and_true.1 hb;obtain⟨b4,hb⟩:=and_true.1 hb;obtain⟨b5,b6⟩:=and_true.1 hb;refine hn _ _ _ ?_ h;rw[Ca h1];rw[zV h3] at h2;rw[iO h5,uA b3] at h4;rw[iO h9,uA b4] at h8;exact RE h2 h4 h8 (zL h6) b1 b2 h7 b5 b6
    ·obtain⟨x,h1,h2,h⟩:=az h;exact hn _ _ _ (NB h1 h2) h
    ·obtain⟨x,h1,h⟩:=az h;obtain⟨a,h2,h⟩:=az h;obtain⟨a',h3,h⟩:=az h;obtain⟨z,h5,h⟩:=az h;obtain⟨z',h6,h⟩:=az h;obtain⟨K1,h7,h9,dU,h⟩:=az h;refine hn _ _ _ ?_ h;rw[Cb h1];rw[zM h3] at h2;rw[iO h6] at h5;exact QH h2 h5 h7 h9 dU
    ·obtain⟨x,h1,h⟩:=az h;obtain⟨m,hm,h⟩:=az h;obtain⟨q,h2,h⟩:=az h;obtain⟨z,h3,h⟩:=az h;obtain⟨u,h4,h⟩:=az h;obtain⟨h5,h6,h⟩:=cD h;obtain⟨c1,h5⟩:=and_true.1 h5;obtain⟨c2,h5⟩:=and_true.1 h5;obtain⟨c3,h5⟩:=and_true.1 h5;obtain⟨c4,c5⟩:=and_true.1 h5;have e:=uz hm;have c2:q.1=u.1:=Nat.eq_of_beq_eq_true c2;refine hn _ _ _ ?_ h;rw[e];refine nT h1 ?_;rw[M5 h3];exact hE.tt _ _ _ _ _ _ _ _ _ h2 c1 c3 c4 c5 (by rw[Oe h4,c2]) h6
    ·obtain⟨x,h1,h⟩:=az h;obtain⟨m,hm,h⟩:=az h;obtain⟨q,h2,h⟩:=az h;obtain⟨h5,h6,h⟩:=cD h;obtain⟨c1,c2⟩:=and_true.1 h5;have e:=uz hm;refine hn _ _ _ ?_ h;rw[e];exact nT h1<|hE.tn _ _ _ _ _ _ _ h2 c1 c2 h6
    ·obtain⟨x,h1,h⟩:=az h;obtain⟨a,h2,h⟩:=az h;obtain⟨n',h3,h⟩:=az h;obtain⟨i',h4,h⟩:=az h;obtain⟨i1,h5,h⟩:=az h;obtain⟨y,h6,h⟩:=az h;obtain⟨hb,h7,h8,h9⟩:=cD h;obtain⟨b1,hb⟩:=and_true.1 hb;obtain⟨b2,hb⟩:=and_true.1 hb;obtain⟨b3,hb⟩:=and_true.1 hb;obtain⟨b4,b5⟩:=and_true.1 hb;rw[zV h3] at h2;rw[iO h5,uA b3] at h4;have key:=QD (P:=E.P) (U7:=br E.P E.sp E.F n) h2 h4 (zL h6) b1 b2 (Ip b4) h7 b5;rw[←Gc h1] at key;cases hq:mn _ i1.2 with
     |true=>rw[hq,if_pos rfl] at key;exact hn _ _ _ key<|h8 hq
     |false=>rw[hq,if_neg (by intro e;cases e)] at key;exact hn _ _ _ key<|h9 hq
    ·obtain⟨x,h1,h⟩:=az h;obtain⟨a,h2,h⟩:=az h;obtain⟨n',h3,h⟩:=az h;obtain⟨i',h4,h⟩:=az h;obtain⟨i1,h5,h⟩:=az h;obtain⟨v',h8,h⟩:=az h;obtain⟨v1,h9,h⟩:=az h;obtain⟨y,h6,h⟩:=az h;obtain⟨hb,h7,h⟩:=cD h;obtain⟨b1,hb⟩:=and_true.1 hb;obtain⟨b2,hb⟩:=and_true.1 hb;obtain⟨b3,hb⟩:=and_true.1 hb;obtain⟨b4,hb⟩:=and_true.1 hb;obtain⟨b5,b6⟩:=and_true.1 hb;refine hn _ _ _ ?_ h;rw[Ca h1];rw[zV h3] at h2;rw[iO h5,uA b3] at h4;rw[iO h9,uA b4] at h8;exact QE h2 h4 h8 (zL h6) b1 b2 h7 b5 b6
    ·obtain⟨x,h1,h⟩:=az h;obtain⟨a,h2,h⟩:=az h;obtain⟨a',h3,h⟩:=az h;obtain⟨K1,h4,h⟩:=az h;obtain⟨iz,h5,h⟩:=az h;obtain⟨bR,h6,h⟩:=az h;obtain⟨h7,h8,h9,k1,hz⟩:=cD h;rw[h8] at h5;rw[rY h3] at h2;refine hn _ _ _ ?_ hz;rw[Ge h1];exact RL h2 h4 h5 h6 h7 h9 k1
    ·obtain⟨x,h1,h⟩:=az h;obtain⟨a,h2,h⟩:=az h;obtain⟨a',h3,h⟩:=az h;obtain⟨K1,h4,h⟩:=az h;obtain⟨hi,h5,h⟩:=az h;obtain⟨bR,h6,h⟩:=az h;obtain⟨mx,h7,h⟩:=az h;obtain⟨tN,h8,h⟩:=az h;obtain⟨h9,k1,k2,k3,h⟩:=cD h;rw[rY h3] at h2;rw[iO h6] at h5;rw[iO h8] at h7;refine hn _ _ _ ?_ h;rw[L6 h1];exact RM h2 h4 h5 h7 h9 k1 k2 k3
    ·obtain⟨x,h1,h⟩:=az h;obtain⟨a,h2,h⟩:=az h;obtain⟨a',h3,h⟩:=az h;obtain⟨b,h4,h⟩:=az h;obtain⟨b',h5,h⟩:=az h;obtain⟨i1,h6,h⟩:=az h;obtain⟨hb,k0,k1,k2,k3,k4,k5,k6,k7,k8,k9,y7,Fv,h⟩:=cD h;obtain⟨b1,hb⟩:=and_true.1 hb;obtain⟨b2,hb⟩:=and_true.1 hb;obtain⟨b3,b4⟩:=and_true.1 hb;obtain⟨ty,e,e1,e2,e3,e4,e5⟩:=zD h6;cases bR:E.P.info? e with
     |none=>rw[bR] at e3;cases e3
     |some i0=>rw[bR] at e3;simp only[Option.map_some,Option.some.injEq,Prod.mk.injEq] at e3;obtain⟨q1,q2,q3⟩:=e3;rw[rY h3,k0] at h2;rw[rY h5] at h4;rw[←q1] at k6 k7 k8 h;rw[←q2] at y7 e5;refine jU _ _ _ _ _ b4 ?_ h;rw[wF h1];obtain⟨rd,wr,d1,d2,d3,d4⟩:=QF (s:=cK D s) (U7:=br E.P E.sp E.F n) h2 h4 e1 e2 bR (by rw[q3,e4];rfl) k1 k2 k3 k4 k5 k6 k7 k8 (by rw[b1,b2,b3];rfl) k9 e5 y7 Fv;exact⟨rd,wr,fun k hk=>by rcases d1 k hk with rfl|rfl|h;exact .inl (by simp);exact .inl (by simp);exact .inr h,fun k hk=>.inr<|d2 k hk,d3,d4⟩
    ·obtain⟨x,h1,h⟩:=az h;obtain⟨a,h2,h⟩:=az h;obtain⟨a',h3,h⟩:=az h;obtain⟨b,h4,h⟩:=az h;obtain⟨b',h5,h⟩:=az h;obtain⟨i1,h6,h⟩:=az h;obtain⟨hb,k0,kk,k1,k2,k3,k4,k5,k6,k7,k8,k9,y7,Fv,h⟩:=cD h;obtain⟨b0,hb⟩:=and_true.1 hb;obtain⟨b1,hb⟩:=and_true.1 hb;obtain⟨b2,b3⟩:=and_true.1 hb;obtain⟨ty,e,e1,e2,e3,e4,e5⟩:=zD h6;cases bR:E.P.info? e with
     |none=>rw[bR] at e3;cases e3
     |some i0=>rw[bR] at e3;simp only[Option.map_some,Option.some.injEq,Prod.mk.injEq] at e3;obtain⟨q1,q2,q3⟩:=e3;rw[rY h3,k0] at h2;rw[rY h5] at h4;rw[←q1] at k6 k7 k8 h b0;rw[←q2] at y7 e5;refine hn _ _ _ ?_ h;rw[wF h1];exact QG (s:=cK D s) (U7:=br E.P E.sp E.F n) h2 h4 e1 e2 bR (by rw[q3,e4];rfl) kk k1 (by unfold pe at b0;exact(blt_eq _ _).mp b0) k2 k3 k4 k5 k6 k7 k8 (by rw[b1,b2,b3];rfl) k9 e5 y7 Fv
    ·obtain⟨x,h1,h⟩:=az h;obtain⟨m,hm,h⟩:=az h;have e:=uz hm;split at h
     ·exact h.elim
     ·rename_i T3;obtain⟨fn,cI,h⟩:=az h;obtain⟨body,di,h⟩:=az h;obtain⟨eT,h⟩:=cD h;obtain⟨jz,h⟩:=cD h;have eT:(fn.name == "runtime.NumGoroutine")=false:=by simpa using eT
      have H:=ih m _ _ _ nx (fun _ _ _=>False) (Ev E.P (br E.P E.sp E.F m) fun aX jm s1=>∃v s2 p,finish E.P fn.results.toList aX jm s1= .ok v s2/\nx v s2 p) Chunk.ev (fun fr s j aX jm s1 v s2 p q1 q2 q3=>⟨j,aX,jm,s1,q1,v,s2,p,q2,q3⟩) (fun _ _ _ q=>q.elim) (fun _ _ _ _ _ _ _ _ _ _ _ _ _ _ _ q=>q.elim) (fun _ _ _ _ _ _ _ _ _ _ _ _ _ _ _ q=>q.elim) (fun _ _ _ _ _ _ _ _ _ _ _ _ _ _ _ _ q=>q.elim) h;obtain⟨j,aX,jm,s1,q1,v,s2,p,q2,q3⟩:=H;refine hn _ _ _ (nT h1 ?_) q3;rw[e];show gX E.P E.sp x.1 (br E.P E.sp E.F m) x.2 _=_;rw[Ie T3 cI di eT];unfold o8;rw[jz,bD,M.bg<|HF q1];exact q2
    ·exact h.elim
theorem ay{A B:Prop}(c:Prop)(x:c->A)(y:¬c->B):(c->A)/\(¬c->B):=⟨x,y⟩
theorem bw.back{P:Program}{B:aH}{ae:Nat}{Q:Tr AV->List Nat->Option Code->AS->Prop}{s:AS}{t:Tr AV}{nt f:Nat}{K:List Item}{l:List<|Nat×AV}{o:List<|Nat×Option U}{nx:Nat}(hl:kF top l=true)(ho:kF nx o=true)(hn:(Nat.ble nx s.nx&&(Nat.blt s.nx top&&Nat.ble ae nx))=true)(hg:gj<=ae)(ht:pb t l)(hh:pz s.h o)(he:vO nx l o)(H:bw P B ae Q ⟨f,cj l,nt,K,[],none⟩<|J o nx):bw P B ae Q ⟨f,t,nt,K,[],none⟩ s:=by
 obtain⟨n1,n2⟩:=and_true.1 hn;obtain⟨n2,n3⟩:=and_true.1 n2;have n1:=aK.1 n1;have n2:=(blt_eq _ _).mp n2;have n3:=aK.1 n3;let r:Nat->Nat:=fun k=>if k<nx\/top<=k then k else max k s.nx
 have r1:∀k,k<nx->r k=k:=fun k hk=>by show(if _ then _ else _)=_;rw[if_pos<|.inl hk]
 have r2:∀k,top<=k->r k=k:=fun k hk=>by show(if _ then _ else _)=_;rw[if_pos<|.inr hk]
 obtain⟨e1,e2⟩:=he r r1 r2;refine bw.weaken (s2:=J o nx) (t2:=cj l) [] r (fun k hk=>r1 k<|by omega) (fun k hk ht=>?_) r2 hg ⟨Nat.zero_le _,by show nx<=top;omega⟩ rfl rfl (fun _ h=>by cases h) (fun i y hy=>?_) (fun n o2 hn hg=>?_) (fun _ h=>by cases h) (fun n m x y hn hm h1 h2 e=>?_) H
 ·have fu:nx<=k:=hk;show s.nx<=(if _ then _ else _)/\(if _ then _ else _)<top;rw[if_neg<|by omega];omega
 ·have hm:=z9 (fun p hp=>oU hl p hp) hy;exact⟨y,ht.mem _ hm,(e1 _ hm).z⟩
 ·have cA:∀p∈o,p.1<top:=fun p hp=>by have:=oU ho p hp;omega
  have hm:=qf cA hg;obtain⟨h1,h2⟩:=hh.mem _ hm;have aW:n<nx:=oU ho _ hm;rw[r1 n aW];exact⟨hn,.inl<|h2 o2 rfl,o2,h1,ff.refl _,(e2 _ hm o2 rfl).z⟩
 ·have cA:∀p∈o,p.1<top:=fun p hp=>by have:=oU ho p hp;omega
  have a1:n<nx:=oU ho _<|qf cA h1;have a2:m<nx:=oU ho _<|qf cA h2;rw[r1 n a1,r1 m a2] at e;exact e
theorem bw.rn{P:Program}{B:aH}{ae:Nat}{Q:Tr AV->List Nat->Option Code->AS->Prop}{s:AS}{t:Tr AV}{nt f:Nat}{K:List Item}{l0 l:List<|Nat×AV}{o0 o:List<|Nat×Option U}{nx:Nat}(hg:gj<=ae)(h1:l0.map (fun q=>t.get q.1)=l0.map (fun q=>some q.2))(h2:o0.map (fun q=>s.h.get q.1)=o0.map (fun q=>q.2))(hw:gE B.F ae s.nx l0 o0 l o nx)(H:bw P B ae Q ⟨f,cj l,nt,K,[],none⟩<|J o nx):bw P B ae Q ⟨f,t,nt,K,[],none⟩ s:=by
 obtain⟨fz,r,r1,r2,r3,r4,r5,r6,r7,r8,r9⟩:=hw;have hs:∀(l0:List<|Nat×AV),l0.map (fun q=>t.get q.1)=l0.map (fun q=>some q.2)->∀p∈l0,t.get p.1=some p.2:=by
  intro l0;induction l0 with
  |nil=>intro _ p hp;cases hp
  |cons a l ih=>
   intro h p hp;simp only[List.map_cons,List.cons.injEq] at h;rcases List.mem_cons.1 hp with rfl|hp
   ·exact h.1
   ·exact ih h.2 p hp
 have ho:∀(o0:List<|Nat×Option U),o0.map (fun q=>s.h.get q.1)=o0.map (fun q=>q.2)->∀p∈o0,s.h.get p.1=p.2:=by
  intro o0;induction o0 with
  |nil=>intro _ p hp;cases hp
  |cons a l ih=>
   intro h p hp;simp only[List.map_cons,List.cons.injEq] at h;rcases List.mem_cons.1 hp with rfl|hp
   ·exact h.1
   ·exact ih h.2 p hp
 have pU:∀n y,n<top->(kD o).get n=some y->(n,some y)∈o:=fun n y hn hg=>qf (fun p hp=>(r6 p hp).1) hg;refine bw.weaken (s2:=J o nx) (t2:=cj l) fz r r1 (fun k hk ht=>r2 k hk ht) r3 hg ⟨Nat.zero_le _,r4⟩ rfl rfl (fun p hp=>?_) (fun i y hy=>?_) (fun n y hn hg=>?_) (fun p hp n y hn hg=>?_) (fun n m x y hn hm e1 e2 e=>?_) H
 ·obtain⟨q1,q2,N,t',z,q3,q4⟩:=r8 p hp;exact⟨q1,q2,N,t',z,ho o0 h2 _ q3,fun i x hx=>by obtain⟨i1,i2,i3,i4⟩:=q4 i x hx;exact⟨i1,i2,i3,fun ρ v hv=>AV.u0 QA i4 hv⟩⟩
 ·have hm:=z9 (fun p hp=>(r5 p hp).1) hy;obtain⟨_,x,hx,hv⟩:=r5 _ hm;exact⟨x,hs l0 h1 _ hx,hv⟩
 ·obtain⟨_,q⟩:=r6 _<|pU n y hn hg;obtain⟨q1,q2,x,q3,q4,q5⟩:=q y rfl;exact⟨q1,.inl q2,x,ho o0 h2 _ q3,q4,q5⟩
 ·exact r9 p hp _ (pU n y hn hg) (by simp)
 ·exact r7 _ (pU n x hn e1) _ (pU m y hm e2) (by simp) (by simp) e
theorem DL{E:Env}(hE:E.Ok){P:Program}(hP:E.P=P){B:aH}{ae n f nt:Nat}{t:Tr AV}{K:List Item}{s:AS}{rs:List ResultVar}{R:AV->AS->Prop}(cf:P.follows .mixedOrders=true)(hc:dD P B<|br E.P E.sp E.F n)(hl:∀t a,U5<|br E.P E.sp E.F n t a)(hg:gj<=ae)(cx:E.lo=ae)(hF:B.F=E.F){C:vP}(hC:∀fr s p,C fr s p->bw P B ae (Fin P rs R) fr s)(fuel:Nat)(p:Pl){T:Prop}(x:T)(h:T=wp E fuel n (.fr f nt K t s) p rs (fun v s _=>R v s) C:=by as_aux_lemma=>kernel_rfl)(h0:Nat.ble ae s.nx=true:=by as_aux_lemma=>kernel_rfl):bw P B ae (Fin P rs R) ⟨f,t,nt,K,[],none⟩ s:=by
 subst hP;have H:=C7 hE fuel n (.fr f nt K t s) p rs (fun v s _=>R v s) C (tm E.P B ae<|Fin E.P rs R) (Chunk.yZ cf hc hl)
  (fun fr s j aX jm s1 v s2 p q1 q2 q3 h0=>bw.leave cf hc hl q1 h0 ⟨v,s2,by rw[←zU];exact q2,q3⟩) (fun fr s p q _=>hC fr s p q)
  (fun f nt K t s l o nx p _ q1 q2 q3 q4 q5 q6 _=>bw.less q1 q2 q3 hg q4 q5<|hC _ _ _ q6) (fun f nt K t s l0 o0 l o nx p _ q1 q2 q3 q4 _=>bw.rn hg q1 q2 (by rw[←cx,hF];exact q3)<|hC _ _ _ q4) (fun f nt K t s l o nx p _ q1 q2 q3 q4 q5 q6 q7 _=>bw.back q1 q2 (by rw[←cx];exact q3) hg q4 q5 q6<|hC _ _ _ q7) (h▸x)
 exact tm.start h0 H
theorem DM{E:Env}(hE:E.Ok){P:Program}(hP:E.P=P){B:aH}{ae n f nt:Nat}{t:Tr AV}{K:List Item}{s:AS}{rs:List ResultVar}{R:AV->AS->Prop}(cf:P.follows .mixedOrders=true)(hc:dD P B<|br E.P E.sp E.F n)(hl:∀t a,U5<|br E.P E.sp E.F n t a)(fuel:Nat)(p:Pl){T:Prop}(x:T)(h:T=wp E fuel n (.fr f nt K t s) p rs (fun v s _=>R v s) (fun _ _ _=>False):=by as_aux_lemma=>kernel_rfl)(h0:Nat.ble ae s.nx=true:=by as_aux_lemma=>kernel_rfl):bw P B ae (Fin P rs R) ⟨f,t,nt,K,[],none⟩ s:=by subst hP;have H:=C7 hE fuel n (.fr f nt K t s) p rs (fun v s _=>R v s) (fun _ _ _=>False) (tm E.P B ae<|Fin E.P rs R) (Chunk.yZ cf hc hl) (fun fr s j aX jm s1 v s2 p q1 q2 q3 h0=>bw.leave cf hc hl q1 h0 ⟨v,s2,by rw[←zU];exact q2,q3⟩) (fun _ _ _ q=>q.elim) (fun _ _ _ _ _ _ _ _ _ _ _ _ _ _ _ q=>q.elim) (fun _ _ _ _ _ _ _ _ _ _ _ _ _ _ _ q=>q.elim) (fun _ _ _ _ _ _ _ _ _ _ _ _ _ _ _ _ q=>q.elim)<|h▸x;exact tm.start h0 H
end Go.Rn
namespace Go.Rn
open Go.RowKit
theorem DN{α:Type}{enc:α->List AV}{K:Nat}(he:∀x,(enc x).length=K){l:List α}{i:Nat}{c:α}(hl:l.length*K<=top)(hc:l[i]? =some c)(j k:Nat)(hj:Nat.ble (j+k) K=true):cellsOf (some<|aD enc l) (i*K+j) k=some (((enc c).drop j).take k):=by have mE:=aK.1 hj;obtain⟨q1,q2⟩:=IX he (k:=k) hc mE;show(match Nat.ble (i*K+j+k) (l.map enc).flatten.length with|true=>fy (Tr.fill (l.map enc).flatten 0 .nil) [] k (i*K+j)|false=>none)=_;rw[aK.2 q1];show fy (Tr.fill (l.map enc).flatten 0 .nil) [] k (i*K+j)=_;rw[Ck (by rw[uI he];exact hl) _ _ q1,q2]
theorem DO{α:Type}{enc:α->List AV}{K:Nat}(he:∀x,(enc x).length=K){l:List α}{i:Nat}{c c':α}{r:List AV}(hl:l.length*K<=top)(hc:l[i]? =some c)(j:Nat)(hr:enc c'=qN (enc c) j r)(hj:Nat.ble (j+r.length) K=true)(h1:r.all AV.bu=true):gA (some<|aD enc l) (i*K+j) r=some (aD enc<|l.set i c'):=by
 have mE:=aK.1 hj;obtain⟨q1,_⟩:=IX he (k:=r.length) hc mE;have x9:=O4 he hc hr mE;have hlen:(l.map enc).flatten.length<=top:=by rw[uI he];exact hl
 show(match (Nat.ble (i*K+j+r.length) (l.map enc).flatten.length&&(Nat.ble (l.map enc).flatten.length top&&r.all AV.bu)) with|true=>some (U.cells (l.map enc).flatten.length (Tr.fill r (i*K+j)<|Tr.fill (l.map enc).flatten 0 .nil) [])|false=>none)=_;rw[show(Nat.ble (i*K+j+r.length) (l.map enc).flatten.length&&(Nat.ble (l.map enc).flatten.length top&&r.all AV.bu))=true from and_true.2 ⟨aK.2 q1,and_true.2 ⟨aK.2 hlen,h1⟩⟩];show some _=some _;congr 1;unfold aD;rw[HO r _ _ q1 hlen,x9,uI he,uI he,List.length_set]
end Go.Rn
namespace Go.Rn
open Go.RowKit
def yn(nx:Nat)(x:AV):Bool:=match x with
 | .ch n _ _=>Nat.blt n nx&&Nat.blt n top
 | .func (.func _) [] []=>true
 | .slice none 0 (.known 0)=>true
 |x=>x.flat
theorem bf.Of{r:Nat->Nat}{n o len:Nat}(e:r n=n)(h:n<top):bf r (.ch n o len)<|.ch n o len:=by intro ρ v k;simp only[VR] at k ⊢;exact k.imp id fun⟨b,sh,c,h1,h2⟩=>⟨b,sh,c,.inl ⟨by omega,(congrArg ρ e).trans<|h1.low<|by omega⟩,h2⟩
theorem Iq{nx:Nat}{x:AV}{r:Nat->Nat}(r1:∀k,k<nx->r k=k)(h:yn nx x=true):bf r x x:=by
 unfold yn at h;split at h
 ·obtain⟨h1,h2⟩:=and_true.1 h;exact bf.Of (r1 _<|(blt_eq _ _).mp h1)<|(blt_eq _ _).mp h2
 ·intro ρ v k;simp only[VR,av] at k ⊢;exact k
 ·exact bf.Ab
 ·exact bf.flat h
noncomputable def yo(nx:Nat)(t:Tr AV):Nat->Bool
 |0=>true
 |n+1=>(match t.get n with|some x=>yn nx x|none=>true)&&yo nx t n
theorem Du{nx:Nat}{t:Tr AV}:∀{n i:Nat} {x:AV},yo nx t n=true->i<n->t.get i=some x->yn nx x=true
 |0,_,_,_,h,_=>by omega
 |n+1,i,x,h,hi,hx=>by
  obtain⟨h1,h2⟩:=and_true.1 (show((match t.get n with|some x=>yn nx x|none=>true)&&yo nx t n)=true from h);by_cases q:i=n
  ·subst q;rw[hx] at h1;exact h1
  ·exact Du h2 (by omega) hx
noncomputable def EL(nx:Nat)(o:U):Bool:=match o with
 | .ro n t=>yo nx t n
 | .nf n t=>yo nx t n
 |_=>false
theorem Pc{nx:Nat}{o:U}{r:Nat->Nat}(r1:∀k,k<nx->r k=k)(h:EL nx o=true):gm r o o:=by
 unfold EL at h;split at h
 ·intro ρ N ob k;simp only[OR] at k ⊢;obtain⟨c,e,fr,k1,k2,k3,k4⟩:=k;exact⟨c,e,fr,k1,k2,k3,fun i hi=>let ⟨x,v,a1,a2,a3,a4⟩:=k4 i hi;⟨x,v,a1,a2,a3,Iq r1 (Du h hi a1) ρ v a4⟩⟩
 ·intro ρ N ob k;simp only[OR] at k ⊢;obtain⟨c,e,fr,k1,k4⟩:=k;exact⟨c,e,fr,k1,fun i hi=>let ⟨x,v,a1,a2,a3,a4⟩:=k4 i hi;⟨x,v,a1,a2,a3,Iq r1 (Du h hi a1) ρ v a4⟩⟩
 ·cases h
theorem Ac{nx:Nat}{o:List<|Nat×Option U}{r:Nat->Nat}(r1:∀k,k<nx->r k=k)(h:(o.all fun p=>match p.2 with|some x=>EL nx x|none=>true)=true):∀p∈o,∀x,p.2=some x->gm r x x:=by intro p hp x hx;have:=List.all_eq_true.1 h p hp;rw[hx] at this;exact Pc r1 this
end Go.Rn
namespace Go.Rn
end Go.Rn
namespace Go.Rn
open Go.RowKit
def lv:List Nat->Nat
 |[]=>0
 |x::l=>pr x<|lv l
theorem Jv(a b:Nat):0<pr a b:=Nat.mul_pos (Nat.pow_pos<|by omega) (by omega)
theorem CP:∀{l m:List Nat},lv l=lv m->l=m
 |[],[],_=>rfl
 |[],x::m,h=>by have:=Jv x<|lv m;simp only[lv] at h;omega
 |x::l,[],h=>by have:=Jv x<|lv l;simp only[lv] at h;omega
 |x::l,y::m,h=>by obtain⟨h1,h2⟩:=de (show pr x (lv l)=pr y (lv m) from h);rw[h1,CP h2]
def xK:Int->Nat
 | .ofNat n=>2*n
 | .negSucc n=>2*n+1
theorem Og:∀{a b:Int},xK a=xK b->a=b
 | .ofNat n,.ofNat m,h=>by have h:2*n=2*m:=h;rw[show n=m by omega]
 | .ofNat n,.negSucc m,h=>by have h:2*n=2*m+1:=h;omega
 | .negSucc n,.ofNat m,h=>by have h:2*n+1=2*m:=h;omega
 | .negSucc n,.negSucc m,h=>by have h:2*n+1=2*m+1:=h;rw[show n=m by omega]
def s8:AV->Nat
 | .bool b=>pr 0 b.toNat
 | .int k n=>pr 1<|pr k.ctorIdx<|xK n
 | .str s=>pr 2<|lv<|s.data.toList.map UInt8.toNat
 | .ch n o len=>pr 3<|pr n<|pr o len
 | .nilFunc=>pr 4 0
 | .nilIface=>pr 4 1
 | .ptr none=>pr 4 2
 | .map none=>pr 4 3
 |_=>0
def AV.fX(x:AV):Bool:=match x with
 | .bool _| .int _ _| .str _| .nilFunc| .nilIface| .ptr none| .map none=>true
 | .ch n _ _=>Nat.ble top n
 |_=>false
theorem Pd:∀{k l:IntKind},k.ctorIdx=l.ctorIdx->k=l:=by intro k l h;cases k<;>cases l<;>first|rfl|(exact absurd h<|by decide)
theorem bytes_inj{s u:ByteArray}(h:s.data.toList.map UInt8.toNat=u.data.toList.map UInt8.toNat):s=u:=by
 have e:s.data.toList=u.data.toList:=by
  refine List.ext_getElem? fun i=>?_;have:=congrArg (fun l=>l[i]?) h;simp only[List.getElem?_map] at this;cases e1:s.data.toList[i]? with
  |none=>rw[e1] at this;cases e2:u.data.toList[i]? with
   |none=>rfl
   |some y=>rw[e2] at this;cases this
  |some x=>rw[e1] at this;cases e2:u.data.toList[i]? with
   |none=>rw[e2] at this;cases this
   |some y=>rw[e2] at this;simp only[Option.map_some,Option.some.injEq] at this;rw[UInt8.toNat_inj.1 this]
 obtain⟨⟨a⟩⟩:=s;obtain⟨⟨b⟩⟩:=u;have e:a=b:=e;rw[e]
theorem Oh:∀{x y:AV},x.fX=true->y.fX=true->s8 x=s8 y->x=y:=by
 intro x y hx hy h;cases x<;>first|(cases hx;done)|skip
 case bool a=>
  cases y<;>first|(cases hy;done)|skip
  case bool b=>have:=(de (show pr 0 a.toNat=pr 0 b.toNat from h)).2;cases a<;>cases b<;>first|rfl|(exact absurd this<|by decide)
  case ptr b=>cases b<;>first|(cases hy;done)|(exact absurd (de (show pr 0 a.toNat=pr 4 2 from h)).1<|by decide)
  case map b=>cases b<;>first|(cases hy;done)|(exact absurd (de (show pr 0 a.toNat=pr 4 3 from h)).1<|by decide)
  all_goals exact absurd (de (show pr 0 a.toNat=pr _ _ from h)).1 (by decide)
 case int k n=>
  cases y<;>first|(cases hy;done)|skip
  case int k' n'=>obtain⟨h3,h4⟩:=de (de (show pr 1 (pr k.ctorIdx<|xK n)=pr 1 (pr k'.ctorIdx<|xK n') from h)).2;rw[Pd h3,Og h4]
  case ptr b=>cases b<;>first|(cases hy;done)|(exact absurd (de (show pr 1 _=pr 4 2 from h)).1<|by decide)
  case map b=>cases b<;>first|(cases hy;done)|(exact absurd (de (show pr 1 _=pr 4 3 from h)).1<|by decide)
  all_goals exact absurd (de (show pr 1 _=pr _ _ from h)).1 (by decide)
 case str u=>
  cases y<;>first|(cases hy;done)|skip
  case str u'=>rw[bytes_inj<|CP (de (show pr 2 _=pr 2 _ from h)).2]
  case ptr b=>cases b<;>first|(cases hy;done)|(exact absurd (de (show pr 2 _=pr 4 2 from h)).1<|by decide)
  case map b=>cases b<;>first|(cases hy;done)|(exact absurd (de (show pr 2 _=pr 4 3 from h)).1<|by decide)
  all_goals exact absurd (de (show pr 2 _=pr _ _ from h)).1 (by decide)
 case ch n o l=>
  cases y<;>first|(cases hy;done)|skip
  case ch n' o' l'=>obtain⟨h3,h4⟩:=de (de (show pr 3 (pr n<|pr o l)=pr 3 (pr n'<|pr o' l') from h)).2;obtain⟨h5,h6⟩:=de h4;rw[h3,h5,h6]
  case ptr b=>cases b<;>first|(cases hy;done)|(exact absurd (de (show pr 3 _=pr 4 2 from h)).1<|by decide)
  case map b=>cases b<;>first|(cases hy;done)|(exact absurd (de (show pr 3 _=pr 4 3 from h)).1<|by decide)
  all_goals exact absurd (de (show pr 3 _=pr _ _ from h)).1 (by decide)
 case nilFunc=>
  cases y<;>first|(cases hy;done)|rfl|skip
  case ptr b=>cases b<;>first|(cases hy;done)|(exact absurd (de (show pr 4 0=pr 4 2 from h)).2<|by decide)
  case map b=>cases b<;>first|(cases hy;done)|(exact absurd (de (show pr 4 0=pr 4 3 from h)).2<|by decide)
  case nilIface=>exact absurd (de (show pr 4 0=pr 4 1 from h)).2 (by decide)
  all_goals exact absurd (de (show pr 4 0=pr _ _ from h)).1 (by decide)
 case nilIface=>
  cases y<;>first|(cases hy;done)|rfl|skip
  case ptr b=>cases b<;>first|(cases hy;done)|(exact absurd (de (show pr 4 1=pr 4 2 from h)).2<|by decide)
  case map b=>cases b<;>first|(cases hy;done)|(exact absurd (de (show pr 4 1=pr 4 3 from h)).2<|by decide)
  case nilFunc=>exact absurd (de (show pr 4 1=pr 4 0 from h)).2 (by decide)
  all_goals exact absurd (de (show pr 4 1=pr _ _ from h)).1 (by decide)
 case ptr a=>
  cases a<;>first|(cases hx;done)|skip
  cases y<;>first|(cases hy;done)|skip
  case ptr b=>cases b<;>first|(cases hy;done)|rfl
  case map b=>cases b<;>first|(cases hy;done)|(exact absurd (de (show pr 4 2=pr 4 3 from h)).2<|by decide)
  case nilIface=>exact absurd (de (show pr 4 2=pr 4 1 from h)).2 (by decide)
  case nilFunc=>exact absurd (de (show pr 4 2=pr 4 0 from h)).2 (by decide)
  all_goals exact absurd (de (show pr 4 2=pr _ _ from h)).1 (by decide)
 case map a=>
  cases a<;>first|(cases hx;done)|skip
  cases y<;>first|(cases hy;done)|skip
  case ptr b=>cases b<;>first|(cases hy;done)|(exact absurd (de (show pr 4 3=pr 4 2 from h)).2<|by decide)
  case map b=>cases b<;>first|(cases hy;done)|rfl
  case nilIface=>exact absurd (de (show pr 4 3=pr 4 1 from h)).2 (by decide)
  case nilFunc=>exact absurd (de (show pr 4 3=pr 4 0 from h)).2 (by decide)
  all_goals exact absurd (de (show pr 4 3=pr _ _ from h)).1 (by decide)
theorem Hi:∀{l m:List AV},l.all AV.fX=true->m.all AV.fX=true->l.map s8=m.map s8->l=m
 |[],[],_,_,_=>rfl
 |[],_::_,_,_,h=>by cases h
 |_::_,[],_,_,h=>by cases h
 |x::l,y::m,hx,hy,h=>by obtain⟨a1,a2⟩:=and_true.1 (show(x.fX&&l.all AV.fX)=true from hx);obtain⟨b1,b2⟩:=and_true.1 (show(y.fX&&m.all AV.fX)=true from hy);simp only[List.map_cons,List.cons.injEq] at h;rw[Oh a1 b1 h.1,Hi a2 b2 h.2]
noncomputable section
def nm(cs:List AV):Nat:=top+2+lv (cs.map s8)
open Classical in
def FU(n:Nat):Option<|List AV:=if h:∃cs:List AV,cs.all AV.fX=true/\nm cs=n then some h.choose else none
def aq{α:Type}(enc:α->List AV)(l:List α):AV:=.ch (nm (l.map enc).flatten) 0 l.length
end
theorem bj(cs:List AV):top<=nm cs:=Nat.le_trans (Nat.le_add_right top 2)<|Nat.le_add_right _ _
theorem xL(cs:List AV):nm cs≠top/\nm cs≠top+1:=by unfold nm;omega
theorem El{cs:List AV}(h:cs.all AV.fX=true):FU (nm cs)=some cs:=by have hx:∃ds:List AV,ds.all AV.fX=true/\nm ds=nm cs:=⟨cs,h,rfl⟩;unfold FU;rw[dif_pos hx];obtain⟨h1,h2⟩:=hx.choose_spec;exact congrArg some<|Hi h1 h<|CP (by have h3:top+2+lv (hx.choose.map s8)=top+2+lv (cs.map s8):=h2;omega)
theorem CR{x:AV}(h:x.fX=true):x.bu=true:=by cases x<;>first|rfl|(cases h;done)
theorem Ad{x:AV}(h:x.fX=true):x.bO=true:=by
 cases x<;>first|rfl|(cases h;done)|skip
 ·rename_i a;cases a with
  |none=>rfl
  |some _=>cases h
 ·exact h
 ·rename_i a;cases a with
  |none=>rfl
  |some _=>cases h
theorem QL{cs:List AV}(h:cs.all AV.fX=true){off k:Nat}(hk:off+k<=cs.length):fj FU (nm cs) off k=some ((cs.drop off).take k):=by unfold fj;rw[El h];simp only[(aK.2 hk:Nat.ble (off+k) cs.length=true)]
structure lB {α:Type} (K:Nat) (enc:α->List AV):Prop where
 len:∀a,(enc a).length=K
 fX:∀a,(enc a).all AV.fX=true
theorem lB.all{α:Type}{K:Nat}{enc:α->List AV}(h:lB K enc):∀l:List α,(l.map enc).flatten.all AV.fX=true
 |[]=>rfl
 |a::l=>by rw[List.map_cons,List.flatten_cons,List.all_append,h.fX a,lB.all h l];rfl
theorem lB.length{α:Type}{K:Nat}{enc:α->List AV}(h:lB K enc)(l:List α):(l.map enc).flatten.length=l.length*K:=by
 have:=uw (K:=K) (l:=l.map enc) fun c hc=>by obtain⟨a,_,rfl⟩:=List.mem_map.1 hc;exact h.len a
 rw[this,List.length_map]
theorem qy{α:Type}{K:Nat}{enc:α->List AV}(h:lB K enc){l:List α}{i:Nat}{a:α}(ha:l[i]? =some a)(j k:Nat)(hk:j+k<=K):fj FU (nm (l.map enc).flatten) (i*K+j) k=some (((enc a).drop j).take k):=by
 have hi:=(List.getElem?_eq_some_iff.1 ha).1;have hle:i*K+K<=(l.map enc).flatten.length:=by rw[h.length];have:=Nat.mul_le_mul_right K (show i+1<=l.length from hi);rw[Nat.add_mul,Nat.one_mul] at this;exact this
 rw[QL (h.all l)<|by omega];have hf:=Hg (l:=l.map enc) (K:=K) (i:=i) (c:=enc a) (fun c hc=>by obtain⟨a,_,rfl⟩:=List.mem_map.1 hc;exact h.len a) (by rw[List.getElem?_map,ha];rfl);have hd:((l.map enc).flatten.drop<|i*K+j).take k=((((l.map enc).flatten.drop<|i*K).take K).drop j).take k:=by rw[List.drop_take,List.take_take,List.drop_drop,Nat.min_eq_left<|by omega]
 rw[hd,hf]
def iI(ae:Nat)(ρ:aj):aj:=fun k=>if k<ae then ρ k else eL ρ k
def xN(B:aH)(ρ:aj)(w:World):aH:=⟨fun k=>w.heap.size<=k,B.F,fun k=>ρ k≠none,B.inv,B.pI,B.mono⟩
theorem uP{ae:Nat}{ρ:aj}(ht:ae<=top){k:Nat}(hk:top<=k):iI ae ρ k=ρ k:=by unfold iI eL;rw[if_neg (by omega),if_pos hk]
noncomputable section
def l9(ae:Nat)(ns:List Nat)(h0:Tr U)(val:List AV->Option AV):aJ->List AV->M AV:=fun _ args=>aB (args.all AV.hi) <| (gM ae h0 ns).bind fun _=>aG (val args) fun v=>aB v.hi <| M.pure v
end
theorem U5.l9(ae:Nat)(ns:List Nat)(h0:Tr U)(val:List AV->Option AV)(U7:aJ)(args:List AV):U5<|l9 ae ns h0 val U7 args:=U5.aB fun _=>U5.bind (U5.gM ae h0 ns) fun _=>U5.aG fun _ _=>U5.aB fun _=>U5.pure _
theorem Cn{ae:Nat}{o p:U}(h:n8 ae o p=true):o.kA=true:=by unfold n8 at h;split at h<;>first|rfl|cases h
theorem Em{B:aH}{ρ:aj}{h h0:Tr U}{w:World}{ae:Nat}{ns:List Nat}(ht:ae<=top)(r:Rel B ρ h w)(ga:∀n o,n<top->h0.get n=some o->n∈ns)(gT:∀n∈ns,n<ae)(a3:∀n∈ns,∃o p,h.get n=some o/\h0.get n=some p/\n8 ae o p=true):Rel (xN B ρ w) (iI ae ρ) h0 w:=by
 have cn:∀n o,n<top->h0.get n=some o->o.kA=true/\∃b N o',iI ae ρ n=some (b,N)/\w.heap[b]? =some o'/\OR (iI ae ρ) N o o':=by
  intro n o hn ho;have fw:=ga n o hn ho;obtain⟨p1,p2,c2,c3,c4⟩:=a3 n fw;rw[ho] at c3;cases c3;obtain⟨b,N,o',i1,i2,i3,_⟩:=r.is n p1 hn c2;obtain⟨j1,j2⟩:=Nw c4 i3;refine⟨j1,b,N,o',?_,i2,j2.mono fun k x e=>?_⟩
  ·unfold iI;rw[if_pos<|gT n fw];exact i1
  ·have e:(if k<ae then ρ k else none)=some x:=e;unfold iI;split at e
   ·rename_i q;rw[if_pos q];exact e
   ·cases e
 refine⟨fun n o hn ho=>?_,fun n m o p b N M hn hm h1 h2 ct _ _=>?_,fun n m es ex left cur hn ho=>?_,fun _ hk=>hk,fun i j m es ex left cur dT fM fB fD hi _ h1 _=>?_,fun n b sh e=>?_,ov.no (fun n k v hn hg=>by have:=(cn n _ hn hg).1;cases this) ⟨r.tk.1.1,fun n o hn ho _=>by have fw:=ga n o hn ho;obtain⟨p1,p2,c2,c3,c4⟩:=a3 n fw;rw[ho] at c3;cases c3;obtain⟨b,N,e1,e2⟩:=r.tk.1.2 n p1 hn c2<|Cn c4;exact⟨b,N,by unfold iI;rw[if_pos<|gT n fw];exact e1,e2⟩⟩⟩
 ·obtain⟨h1,b,N,o',h2,h3,h4⟩:=cn n o hn ho;have h1:=U.iQ h1;exact⟨b,N,o',h2,h3,h4,fun q=>by rw[h1] at q;cases q⟩
 ·have e1:=U.iQ (cn n o hn h1).1;have e2:=U.iQ (cn m p hm h2).1;rw[e1,e2] at ct;rcases ct with q|q<;>cases q
 ·have:=(cn n _ hn ho).1;cases this
 ·have:=(cn i _ hi h1).1;cases this
 ·rw[uP ht<|fI _ _ _] at e;obtain⟨_,l,c,e',fr,g1,g2,g3,g4⟩:=r.fz n b sh e;refine⟨.inl e,l,c,e',fr,g1,g2,fun m o N hm ho hr _=>?_,fun i x hx=>?_⟩
  ·rw[U.iQ (cn m o hm ho).1] at hr;cases hr
  ·obtain⟨v,k1,k2,k3⟩:=g4 i x hx;refine⟨v,k1,VR.mono (fun k y q=>?_) _ _ k2,k3⟩;unfold eL at q ⊢;split at q
   ·rename_i hk;rw[if_pos hk,uP ht hk];exact q
   ·cases q
def dI(ρ σ:aj):aj:=fun k=>if top<=k then σ k else ρ k
theorem Jw{B:aH}{ρ σ:aj}{h h4:Tr U}{w w':World}{ae a:Nat}(ht:ae<=top)(r:Rel B ρ h w)(q3:Rel (xN B ρ w) σ h4 w')(q4:bp (xN B ρ w) w w')(hle:(iI ae ρ).le σ):
 Ext a a ρ (dI ρ σ)/\jW σ (dI ρ σ)/\Rel B (dI ρ σ) h w'/\bp B w w':=by
 have hold:∀k x,top<=k->ρ k=some x->σ k=some x:=fun k x hk e=>hle k x (by rw[uP ht hk];exact e);have hl:ρ.le<|dI ρ σ:=by
  intro k x e;unfold dI;by_cases hk:top<=k
  ·rw[if_pos hk];exact hold k x hk e
  ·rw[if_neg hk];exact e
 have cA:∀k,k<top->dI ρ σ k=ρ k:=fun k hk=>by unfold dI;rw[if_neg<|by omega]
 have yd:bp B w w':=⟨q4.os,q4.tape,q4.output,q4.size,fun k hk _=>q4.block k hk (by show ¬(w.heap.size<=k);omega)⟩;have AW:∀b,b<w.heap.size->w'.heap[b]? =w.heap[b]? :=fun b hb=>q4.block b hb (by show ¬(w.heap.size<=b);omega);refine⟨⟨hl,fun k hk _=>cA k hk⟩,fun k x hk e=>by unfold dI;rw[if_pos hk];exact e,⟨?_,?_,?_,fun k hk=>r.size k<|Nat.le_trans q4.size hk,r.lone,?_,r.tk.of hl (fun _ _ _ e _=>e) q4.size (fun b hb _=>AW b hb) (fun b1 _ hn m o N hm ho hr hb=>hn m o N hm ho hr (by rw[cA m hm] at hb;exact hb)) (fun j x sh hx _ e=>by
  unfold dI;rw[if_pos<|fI _ _ _];refine Classical.byContradiction fun q=>?_;rcases(q3.fz j x sh q).1 with z|z
  ·exact z e
  ·exact absurd hx (by have z:w.heap.size<=x:=z;omega))⟩,yd⟩
 ·intro n o hn ho;obtain⟨b,N,o',h1,h2,h3,h5⟩:=r.is n o hn ho;exact⟨b,N,o',(cA n hn).trans h1,(AW b<|fU h2).trans h2,h3.mono hl,h5⟩
 ·intro n m o p b N M hn hm h1 h2 ct e1 e2;rw[cA n hn] at e1;rw[cA m hm] at e2;exact r.one n m o p b N M hn hm h1 h2 ct e1 e2
 ·intro n m es ex left cur hn ho;obtain⟨hm,dO,b,N,bm,M,l,aM,seen,h1,h2,h3,h5,h6⟩:=r.iter n m es ex left cur hn ho;have u:jr ρ w' n m es ex left cur:=⟨b,N,bm,M,l,aM,seen,h1,h2,(AW b<|fU h3).trans h3,(AW bm<|fU h5).trans h5,h6⟩;exact⟨hm,dO,u.mono hl⟩
 ·intro n b sh e;have e:σ (hn n b sh)≠none:=by unfold dI at e;rw[if_pos<|fI _ _ _] at e;exact e
  obtain⟨g0,l,c,e',fr,g1,g2,_,g4⟩:=q3.fz n b sh e;have gv:(eL σ).le<|eL<|dI ρ σ:=by
   intro k x q;unfold eL at q ⊢;split at q
   ·rename_i hk;rw[if_pos hk];unfold dI;rw[if_pos hk];exact q
   ·cases q
  have kx:∀i x,l[i]? =some x->∃v,c[sh+i]? =some v/\VR (eL<|dI ρ σ) x v/\x.bu=true:=fun i x hx=>by obtain⟨v,k1,k2,k3⟩:=g4 i x hx;exact⟨v,k1,VR.mono gv _ _ k2,k3⟩
  by_cases q:ρ (hn n b sh)≠none
  ·obtain⟨z0,l',c',e2,gr,z1,z2,z3,_⟩:=r.fz n b sh q;refine⟨z0,l,c,e',fr,g1,g2,fun m o N hm ho hr hb=>?_,kx⟩;rw[cA m hm] at hb;exact z3 m o N hm ho hr hb
  ·have hb:w.heap.size<=b:=g0.resolve_left q;refine⟨.inr<|r.size b hb,l,c,e',fr,g1,g2,fun m o N hm ho hr ft=>?_,kx⟩;rw[cA m hm] at ft;obtain⟨b1,N1,o1,h1,h2,_⟩:=r.is m o hm ho;rw[ft] at h1;cases h1;have:=fU h2;omega
noncomputable section
def kH(val:List AV->Option AV)(args:List AV):Option AV:=match args.all AV.hi with
 |true=>(val args).bind fun v=>match v.hi with
  |true=>some v
  |false=>none
 |false=>none
end
theorem qk{val:List AV->Option AV}{args:List AV}{v:AV}(h:val args=some v)(ha:args.all AV.hi=true)(hv:v.hi=true):kH val args=some v:=by unfold kH;rw[ha,h];simp only[Option.bind_some,hv]
theorem Pe{val:List AV->Option AV}{args:List AV}{v:AV}(h:kH val args=some v):val args=some v/\args.all AV.hi=true/\v.hi=true:=by
 unfold kH at h;split at h
 ·rename_i ha;cases e:val args with
  |none=>rw[e] at h;cases h
  |some u=>
   rw[e] at h;simp only[Option.bind_some] at h;split at h
   ·rename_i hu;injection h with h;subst h;exact⟨rfl,ha,hu⟩
   ·cases h
 ·cases h
theorem Oi{ae:Nat}{ns:List Nat}{h0:Tr U}{val:List AV->Option AV}{U7:aJ}{args:List AV}{v:AV}{s:AS}(h:kH val args=some v)(hc:yk ae h0 ns s=true):l9 ae ns h0 val U7 args s= .ok v (mm ae h0 ns s):=by obtain⟨h1,h2,h3⟩:=Pe h;unfold l9;rw[h2,bD,M.bg<|xx hc,h1,aO,h3,bD];rfl
end Go.Rn
