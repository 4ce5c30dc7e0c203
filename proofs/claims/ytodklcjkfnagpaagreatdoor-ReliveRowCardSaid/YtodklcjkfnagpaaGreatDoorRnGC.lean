import Derived.Test.YtodklcjkfnagpaaGreatDoorRnGB
import Derived.CheckFast
import Derived.Lib.Join
import Derived.Lib.ItoaNum
import Derived.LaidMore
import Derived.LaidHandle
import Derived.Lib.LaidTab
import Derived.Sort.Grow
import Derived.Deep.Draws
set_option maxRecDepth 100000
set_option maxHeartbeats 8000000
set_option linter.unusedSimpArgs false
set_option linter.unusedVariables false
namespace Go.Rn
open Go.RowKit
theorem sameKey_eq{a b:AV}(h:sameKey a b=some true):a=b:=by
 unfold sameKey at h;split at h<;>first|(cases h;done)|skip
 ·rename_i k x k' y;cases hk:decide (k=k') with
  |false=>rw[hk] at h;cases h
  |true=>
   rw[hk] at h;injection h with h
   have e1:=of_decide_eq_true hk;have e2:x=y:=by simpa using h
   rw[e1,e2]
 ·rename_i x y;injection h with h
  obtain⟨x⟩:=x;obtain⟨y⟩:=y;have e:x=y:=by have h':(x == y)=true:=h;exact eq_of_beq h'
  rw[e]
 ·rename_i x y;injection h with h
  have e:x=y:=by simpa using h
  rw[e]
theorem yg:∀{a b:List AV},kI a b=true->a=b
 |[],[],_=>rfl
 |[],_::_,h=>by simp[kI] at h
 |_::_,[],h=>by simp[kI] at h
 |x::xs,y::ys,h=>by
  unfold kI at h;split at h
  ·rename_i e;rw[sameKey_eq e,yg h]
  ·cases h
theorem E7{a b:AV}(h:sameBits a b=true):a=b:=by
 unfold sameBits at h;split at h
 ·rw[yg h]
 ·split at h
  ·rename_i e;exact sameKey_eq e
  ·cases h
theorem F0:∀{a b:List<|AV×AV},tC a b=true->a=b
 |[],[],_=>rfl
 |[],_::_,h=>by simp[tC] at h
 |_::_,[],h=>by simp[tC] at h
 |x::xs,y::ys,h=>by
  unfold tC at h;cases q:(sameBits x.1 y.1&&sameBits x.2 y.2) with
  |false=>rw[q] at h;cases h
  |true=>rw[q] at h;obtain⟨q1,q2⟩:=and_true.1 q;rw[F0 h,Prod.ext (E7 q1)<|E7 q2]
theorem E8(x:AV×AV):∀l:List<|AV×AV,(x::l).Perm (zc x l)
 |[]=>List.Perm.refl _
 |y::l=>by
  unfold zc;split
  ·exact(List.Perm.swap y x l).trans<|List.Perm.cons y<|E8 x l
  ·exact List.Perm.refl _
theorem E9:∀l:List<|AV×AV,l.Perm (nV l)
 |[]=>List.Perm.refl _
 |x::l=>(List.Perm.cons x<|E9 l).trans<|E8 x _
theorem cq.perm{ρ:ah}{es fs:List<|AV×AV}(p:es.Perm fs):∀{l:List MapEntry},cq ρ es l->∃l',l.Perm l'/\cq ρ fs l':=by
 induction p with
 |nil=>intro l h;exact⟨l,List.Perm.refl _,h⟩
 |cons x p ih=>intro l h;simp only[cq] at h;obtain⟨e,dD,rfl,h1,h2,h3⟩:=h;obtain⟨l',q1,q2⟩:=ih h3;exact⟨e::l',q1.cons e,by simp only[cq];exact⟨e,l',rfl,h1,h2,q2⟩⟩
 |swap x y l0=>intro l h;simp only[cq] at h;obtain⟨e,dD,rfl,h1,h2,e2,pT,rfl,h3,h4,h5⟩:=h;exact⟨e2::e::pT,List.Perm.swap e2 e pT,by simp only[cq];exact⟨e2,_,rfl,h3,h4,e,pT,rfl,h1,h2,h5⟩⟩
 |trans _ _ Q7 Q8=>intro l h;obtain⟨l1,q1,q2⟩:=Q7 h;obtain⟨l2,q3,q4⟩:=Q8 q2;exact⟨l2,q1.trans q3,q4⟩
theorem Fa{k:AV}:∀{l:List<|AV×AV},zq k l=false->∀p∈l,sameKey k p.1=some false
 |[],_,p,hp=>by cases hp
 |(x,y)::l,h,p,hp=>by
  unfold zq at h;split at h
  ·rename_i e;rcases List.mem_cons.1 hp with rfl|hp
   ·exact e
   ·exact Fa h p hp
  ·cases h
theorem EM:∀{l:List<|AV×AV},qU l=true->fK l
 |[],_=>List.Pairwise.nil
 |(x,y)::l,h=>by
  unfold qU at h;split at h
  ·cases h
  ·rename_i e;refine List.Pairwise.cons (fun p hp=>?_)<|EM h;have:=Fa e p hp;exact⟨this,by rw[x9];exact this⟩
theorem EA:∀{es:List<|Nat×List (AV×AV)},sW es=true->∀p∈es,qU p.2=true
 |[],_,p,hp=>by cases hp
 |(n,e)::l,h,p,hp=>by
  unfold sW at h;split at h
  ·rename_i q;rcases List.mem_cons.1 hp with rfl|hp
   ·exact q
   ·exact EA h p hp
  ·cases h
theorem F1{s:AS}:∀{es:List<|Nat×List (AV×AV)},pw s es=true->∀p∈es,∃fs,og s p.1=some fs/\nV fs=p.2
 |[],_,p,hp=>by cases hp
 |(n,e)::l,h,p,hp=>by
  unfold pw at h;split at h
  ·cases h
  ·rename_i fs q;split at h
   ·rename_i q2;rcases List.mem_cons.1 hp with rfl|hp
    ·exact⟨fs,q,F0 q2⟩
    ·exact F1 h p hp
   ·cases h
theorem Gv{lo:Nat}{ns:List Nat}{es:List<|Nat×List (AV×AV)}{r:oB}{rest:Option<|List AV}:∀{outs:List<|AV×AS},fits lo ns es r rest outs=true->∀x∈outs,
 (∀k∈x.2.wr,k<lo->k∈ns)/\pw x.2 es=true/\∃q,ij lo x.2 (kL x.1)=some q/\nS q r=true/\Bx (ph x.1) rest=true
 |[],_,x,hx=>by cases hx
 |(v,s)::l,h,x,hx=>by
  unfold fits at h;split at h
  ·cases h
  ·rename_i q1;obtain⟨a1,a2⟩:=and_true.1 q1;split at h
   ·cases h
   ·rename_i q q2;split at h
    ·rename_i q3;rcases List.mem_cons.1 hx with rfl|hx
     ·refine⟨fun k hk aS=>?_,a2,q,q2,(and_true.1 q3).1,(and_true.1 q3).2⟩;exact tb.1<|List.all_eq_true.1 a1 k<|kB.2 ⟨hk,aS⟩
     ·exact Gv h x hx
    ·cases h
theorem BT:∀{outs:List<|AV×AS},∀x∈outs,x.2.nx<=oh outs
 |[],x,hx=>by cases hx
 |(v,s)::l,x,hx=>by
  unfold oh;rcases List.mem_cons.1 hx with rfl|hx
  ·exact Nat.le_max_left _ _
  ·exact Nat.le_trans (BT x hx)<|Nat.le_max_right _ _
theorem Fv{lo:Nat}{outs:List<|AV×AS}{p:wk}(h:nW lo outs=some p):∃ns,p.es.map (·.1)=ns/\p.lo=lo/\p.skip=oh outs - lo/\sW p.es=true/\fits lo ns p.es p.ret p.rest outs=true:=by
 unfold nW at h;split at h
 ·cases h
 ·rename_i v s1 l;split at h
  ·rename_i es r e1 e2;split at h
   ·cases h
   ·rename_i q;injection h with h
    subst h;obtain⟨q1,q2⟩:=and_true.1 q;exact⟨_,Av e1,rfl,rfl,q2,q1⟩
  ·cases h
section
variable {P:Program} {B:aC} {ρ σ:ah} {w w2:World} {s s1 s2:AS}
theorem AH:∀{l:List Nat} {s s1:AS} {u:Unit},jj l s= .ok u s1->s1.h=s.h/\s1.nx=s.nx
 |[],s,s1,u,h=>by obtain⟨_,rfl⟩:=aM (show M.pure () s= .ok u s1 from h);exact⟨rfl,rfl⟩
 |n::l,s,s1,u,h=>by obtain⟨o,s2,h1,h2⟩:=M.aI (show(aY n).bind (fun _=>jj l) s= .ok u s1 from h);obtain⟨_,_,e1,e2⟩:=dW h1;obtain⟨e3,e4⟩:=AH h2;exact⟨e3.trans e1,e4.trans e2⟩
theorem Kq{n:Nat}{es:List<|AV×AV}(h:jW n s= .ok es s1):n<s.nx/\(∃o,s.h.get n=some o/\o.plain=true/\o≠ .ep)/\s1.h=s.h/\s1.nx=s.nx:=by
 unfold jW at h;obtain⟨o,s2,h1,h2⟩:=M.aI h;obtain⟨hx,hg,e1,e2⟩:=dW h1;cases o with
 |map es aK=>obtain⟨_,rfl⟩:=aM h2;exact⟨hx,⟨_,hg,rfl,by simp⟩,e1,e2⟩
 |cK es=>obtain⟨_,rfl⟩:=aM h2;exact⟨hx,⟨_,hg,rfl,by simp⟩,e1,e2⟩
 |_=>cases h2
theorem A1:∀{es:List<|Nat×List (AV×AV)} {s s1:AS} {u:Unit},kP es s= .ok u s1->s1.nx=s.nx/\(∀p∈es,p.1<s.nx/\s.h.get p.1≠some .ep)/\
 ∀k,k<top->(k ∉ es.map (·.1)/\s1.h.get k=s.h.get k)\/∃e,(k,e)∈es/\s1.h.get k=some (.cK e)
 |[],s,s1,u,h=>by obtain⟨_,rfl⟩:=aM (show M.pure () s= .ok u s1 from h);exact⟨rfl,(fun p hp=>by cases hp),fun k _=>.inl ⟨by simp,rfl⟩⟩
 |(n,e)::l,s,s1,u,h=>by
  obtain⟨_,sa,h1,h2⟩:=M.aI (show(jW n).bind (fun _=>(aZ n<|some<|.cK e).bind fun _=>kP l) s= .ok u s1 from h);obtain⟨_,sb,h3,h4⟩:=M.aI h2;obtain⟨a1,⟨o,a2,a3,a4⟩,a5,a6⟩:=Kq h1;obtain⟨_,b1,_,b2,b3⟩:=gj h3;obtain⟨c1,c2,c3⟩:=A1 h4;have g:∀k,k<top->sb.h.get k=if k=n then some (.cK e) else s.h.get k:=fun k hk=>by rw[b2,a5];exact Tr.cJ _ _ _ _ b1 hk
  refine⟨by rw[c1,b3,a6],fun p hp=>?_,fun k hk=>?_⟩
  ·rcases List.mem_cons.1 hp with rfl|hp
   ·exact⟨a1,by rw[a2];intro q;injection q with q;exact a4 q⟩
   ·obtain⟨d1,d2⟩:=c2 p hp;refine⟨by rw[b3,a6] at d1;exact d1,?_⟩;by_cases q:p.1=n
    ·rw[q,a2];intro q;injection q with q;exact a4 q
    ·by_cases q2:p.1<top
     ·rw[g _ q2,if_neg q] at d2;exact d2
     ·rw[b2,a5] at d2;intro q3;have:=Tr.mK s.h n p.1 (some<|.cK e) b1;rw[this,if_neg q] at d2;exact d2 q3
  ·rcases c3 k hk with⟨d1,d2⟩|⟨e',d1,d2⟩
   ·by_cases q:k=n
    ·subst q;refine .inr ⟨e,by simp,?_⟩;rw[d2,g _ hk,if_pos rfl]
    ·refine .inl ⟨?_,by rw[d2,g _ hk,if_neg q]⟩;simp only[List.map_cons,List.mem_cons,not_or];exact⟨q,d1⟩
   ·exact .inr ⟨e',List.mem_cons_of_mem _ d1,d2⟩
theorem yh:∀{k:Nat} {s s1:AS} {u:Unit},iM k s= .ok u s1->s1.nx=s.nx+k/\∀j,j<top->(s.nx<=j/\j<s1.nx/\s1.h.get j=none)\/(¬(s.nx<=j/\j<s1.nx)/\s1.h.get j=s.h.get j)
 |0,s,s1,u,h=>by obtain⟨_,rfl⟩:=aM (show M.pure () s= .ok u s1 from h);exact⟨rfl,fun j _=>.inr ⟨by omega,rfl⟩⟩
 |k+1,s,s1,u,h=>by
  obtain⟨n,sa,h1,h2⟩:=M.aI (show(cN .defs).bind (fun n=>(aZ n none).bind fun _=>iM k) s= .ok u s1 from h);obtain⟨_,sb,h3,h4⟩:=M.aI h2;obtain⟨a1,rfl,rfl⟩:=jQ h1;obtain⟨_,b1,_,b2,b3⟩:=gj h3;obtain⟨c1,c2⟩:=yh h4;have S1:sb.nx=s.nx+1:=b3;have g:∀j,j<top->sb.h.get j=if j=s.nx then none else s.h.get j:=fun j hj=>by
   rw[b2,Tr.cJ _ _ _ _ b1 hj];by_cases q:j=s.nx
   ·rw[if_pos q,if_pos q]
   ·rw[if_neg q,if_neg q];show(s.h.put s.nx<|some .defs).get j=_;rw[Tr.cJ _ _ _ _ b1 hj,if_neg q]
  refine⟨by omega,fun j hj=>?_⟩;rcases c2 j hj with⟨d1,d2,d3⟩|⟨d1,d2⟩
  ·exact .inl ⟨by omega,d2,d3⟩
  ·by_cases q:j=s.nx
   ·refine .inl ⟨by omega,by omega,?_⟩;rw[d2,g j hj,if_pos q]
   ·refine .inr ⟨by omega,?_⟩;rw[d2,g j hj,if_neg q]
theorem yw{lo:Nat}{r:oB}{x:AV}(h:oi lo r s= .ok x s1):(s1=s/\((r= .none/\x= .tuple [])\/(r= .nil/\x= .slice none 0 (.known 0))))\/
 ∃n c len e,r= .row n c len e/\x= .slice (some (n,0)) len (.bA len e)/\s.nx<=n/\n<top/\s1.nx=n+1/\c.length<=top/\s1.h.get n=some (.cells c.length (Tr.fill c 0 .nil) [])/\(∀y∈c,y.bB=true)/\∀j,j<top->j≠n->(s.nx<=j/\j<s1.nx/\s1.h.get j=none)\/(¬(s.nx<=j/\j<s1.nx)/\s1.h.get j=s.h.get j):=by
 cases r with
 |none=>obtain⟨rfl,rfl⟩:=aM (show M.pure (.tuple []) s= .ok x s1 from h);exact .inl ⟨rfl,.inl ⟨rfl,rfl⟩⟩
 |nil=>obtain⟨rfl,rfl⟩:=aM (show M.pure (.slice none 0<|.known 0) s= .ok x s1 from h);exact .inl ⟨rfl,.inr ⟨rfl,rfl⟩⟩
 |row n c len e=>
  obtain⟨_,sa,h1,h2⟩:=M.aI (show((iM<|n - lo).bind fun _=>(newRow c).bind fun m=>ay (Nat.beq m n) <| M.pure<|.slice (some (n,0)) len<|.bA len e) s= .ok x s1 from h);obtain⟨m,sb,h3,h4⟩:=M.aI h2;obtain⟨q,h5⟩:=bM h4;obtain⟨rfl,rfl⟩:=aM h5;unfold newRow at h3;obtain⟨q1,h6⟩:=bM h3;obtain⟨q2,q3⟩:=and_true.1 q1;obtain⟨a1,rfl,rfl⟩:=jQ h6;have q':sa.nx=n:=cj.1 q;obtain⟨b1,b2⟩:=yh h1;refine .inr ⟨n,c,len,e,rfl,rfl,by omega,by omega,by show sa.nx+1=_;omega,aL.1 q2,?_,fun y hy=>List.all_eq_true.1 q3 y hy,fun j hj bO=>?_⟩
  ·show(sa.h.put sa.nx _).get n=_;rw[q',Tr.cJ _ _ _ _ (by omega) (by omega),if_pos rfl]
  ·have e1:(sa.h.put sa.nx<|some<|.cells c.length (Tr.fill c 0 .nil) []).get j=sa.h.get j:=by rw[Tr.cJ _ _ _ _ a1 hj,if_neg<|by omega]
   show(_/\j<sa.nx+1/\(sa.h.put sa.nx<|some<|.cells c.length (Tr.fill c 0 .nil) []).get j=none)\/(¬(_/\j<sa.nx+1)/\(sa.h.put sa.nx<|some<|.cells c.length (Tr.fill c 0 .nil) []).get j=s.h.get j);rw[e1];rcases b2 j hj with⟨d1,d2,d3⟩|⟨d1,d2⟩
   ·exact .inl ⟨d1,by omega,d3⟩
   ·exact .inr ⟨by omega,d2⟩
theorem MF{n:Nat}{fs:List<|AV×AV}(h:og s n=some fs):∃o,s.h.get n=some o/\o.bN=false/\((∃c,o= .map fs c)\/o= .cK fs):=by
 unfold og at h;split at h
 ·rename_i es c e;injection h with h;subst h;exact⟨_,e,rfl,.inl ⟨c,rfl⟩⟩
 ·rename_i es e;injection h with h;subst h;exact⟨_,e,rfl,.inr rfl⟩
 ·cases h
theorem LN{N:Nat}{o:U}{fs:List<|AV×AV}{o':Obj}(h:(∃c,o= .map fs c)\/o= .cK fs)(hO:OR σ N o o')(hk:qU (nV fs)=true):OR σ N (.cK<|nV fs) o':=by
 have key:∀(l:Array MapEntry) (aK:Nat),kK l.toList aK->lh σ fs l.toList->OR σ N (.cK<|nV fs) (.map l aK):=by intro l aK hb hp;obtain⟨l',p1,p2⟩:=hp;obtain⟨uH,p3,p4⟩:=p2.perm<|E9 fs;exact⟨l,aK,rfl,EM hk,hb,uH,p1.trans p3,p4⟩
 rcases h with⟨c,rfl⟩|rfl
 ·obtain⟨l,rfl,hc,he⟩:=hO;exact key l c (by rw[hc];exact he.HD) ⟨_,List.Perm.refl _,he.eqs⟩
 ·obtain⟨l,aK,rfl,_,hb,he⟩:=hO;exact key l aK hb he
theorem MG{outs:List<|AV×AS}{p:wk}{v x:AV}{u:Value}{dr dw:List Nat}(r:Rel B ρ s.h w)(hf:bH s.nx s2.nx ρ)(hp:nW s.nx outs=some p)(eM:(v,s1)∈outs)(C8:gw ⟨s.h,s.nx,s.nx,[],[]⟩ s1 dr dw)(hd:vO p s= .ok x s2)(e:Ext s.nx s1.nx ρ σ)(hv:VR σ v u)(rl:Rel B σ s1.h w2)(hb:bh B w w2):fM B ρ s s2 w x u w2:=by
 obtain⟨ns,ga,cr,Pa,Pb,CF⟩:=Fv hp;obtain⟨f1,f2,q,f3,f4,f5⟩:=Gv CF _ eM;have f3:ij s.nx s1 (kL v)=some q:=f3;have f5:Bx (ph v) p.rest=true:=f5;obtain⟨_,n1,d1,d2⟩:=M.aI (show((jj p.note).bind fun _=>(kP p.es).bind fun _=>(oi p.lo p.ret).bind fun v=>(iM p.skip).bind fun _=>M.pure<|vu p.rest v) s= .ok x s2 from hd);obtain⟨_,n2,d3,d4⟩:=M.aI d2;obtain⟨y,n3,d5,d6⟩:=M.aI d4;obtain⟨_,n4,d7,d8⟩:=M.aI d6;obtain⟨rfl,rfl⟩:=aM d8;obtain⟨a1,a2⟩:=AH d1;obtain⟨b1,b2,b3⟩:=A1 d3;obtain⟨c1,c2⟩:=yh d7;have DL:∀k∈dw,k<s.nx->k∈ns:=by intro k hk aS;refine f1 k ?_ aS;have:=C8.wr;simp only[List.append_nil] at this;rw[this];exact hk
 have ub:s.nx<=n3.nx/\s1.nx<=s2.nx:=by
  have hx:s1.nx<=oh outs:=BT _ eM;rcases yw d5 with⟨rfl,_⟩|⟨n,c,len,ee,_,_,g1,_,g2,_⟩
  ·omega
  ·omega
 have wy:n3.nx<=s2.nx:=by omega
 have heap:∀k,k<top->(s2.h.get k=none/\s.nx<=k/\k<s2.nx)\/(∃es,(k,es)∈p.es/\s2.h.get k=some (.cK es))\/(k ∉ ns/\¬(s.nx<=k/\k<s2.nx)/\s2.h.get k=s.h.get k)\/
  (∃c len ee,p.ret= .row k c len ee/\s.nx<=k/\c.length<=top/\(∀y∈c,y.bB=true)/\s2.h.get k=some (.cells c.length (Tr.fill c 0 .nil) [])):=by
  intro k hk;have base:n2.nx=s.nx:=by omega
  have put:(k ∉ ns/\n2.h.get k=s.h.get k)\/∃es,(k,es)∈p.es/\n2.h.get k=some (.cK es):=by
   rcases b3 k hk with⟨g1,g2⟩|⟨es,g1,g2⟩
   ·exact .inl ⟨by rw[←ga];exact g1,by rw[g2,a1]⟩
   ·exact .inr ⟨es,g1,g2⟩
  have low:∀es,(k,es)∈p.es->k<s.nx:=fun es h=>by have:=(b2 _ h).1;omega
  have last:∀(hr:n3.h.get k=n2.h.get k) (hn:¬(s.nx<=k/\k<n3.nx)),(s2.h.get k=none/\s.nx<=k/\k<s2.nx)\/(∃es,(k,es)∈p.es/\s2.h.get k=some (.cK es))\/(k ∉ ns/\¬(s.nx<=k/\k<s2.nx)/\s2.h.get k=s.h.get k):=by
   intro hr hn;rcases c2 k hk with⟨g1,g2,g3⟩|⟨g1,g2⟩
   ·exact .inl ⟨g3,by omega,g2⟩
   ·rcases put with⟨p1,p2⟩|⟨es,p1,p2⟩
    ·exact .inr<|.inr ⟨p1,by omega,by rw[g2,hr,p2]⟩
    ·exact .inr<|.inl ⟨es,p1,by rw[g2,hr,p2]⟩
  rcases yw d5 with⟨rfl,_⟩|⟨n,c,len,ee,h1,_,h3,h4,h5,h6,h7,h8,h9⟩
  ·rcases last rfl (by omega) with h|h|h
   ·exact .inl h
   ·exact .inr<|.inl h
   ·exact .inr<|.inr<|.inl h
  ·by_cases nz:k=n
   ·subst nz;rcases c2 k hk with⟨g1,g2,g3⟩|⟨g1,g2⟩
    ·omega
    ·exact .inr<|.inr<|.inr ⟨c,len,ee,h1,by omega,h6,h8,by rw[g2,h7]⟩
   ·rcases h9 k hk nz with⟨g1,g2,g3⟩|⟨g1,g2⟩
    ·rcases c2 k hk with⟨i1,i2,i3⟩|⟨i1,i2⟩
     ·omega
     ·exact .inl ⟨by rw[i2,g3],by omega,by omega⟩
    ·rcases last g2 (by omega) with h|h|h
     ·exact .inl h
     ·exact .inr<|.inl h
     ·exact .inr<|.inr<|.inl h
 have kept:∀k,k<top->k ∉ ns->¬(s.nx<=k/\k<s2.nx)->s1.h.get k=s.h.get k:=by
  intro k hk h1 h2;by_cases h3:k<s.nx
  ·exact C8.same k h3 fun h4=>h1<|DL k h4 h3
  ·exact C8.dk k (by omega) hk
 have row:∀k c len ee,p.ret= .row k c len ee->∃c',len<=c'/\kL v= .slice (some (k,0)) len (.bA c' ee)/\k<s1.nx/\∃t z,s1.h.get k=some (.cells c.length t z)/\∀i,i<c.length->cellAt t z i=c[i]? :=by
  intro k c len ee hr;rw[hr] at f4;unfold ij at f3;split at f3
  ·injection f3 with f3;subst f3;simp[nS] at f4
  ·injection f3 with f3;subst f3;simp[nS] at f4
  ·rename_i n P5 c' e' wJ;split at f3
   ·rename_i k' t z hg;split at f3
    ·rename_i l hl;split at f3
     ·rename_i hq;injection f3 with f3;subst f3
      simp only[nS] at f4;obtain⟨g1,g2⟩:=and_true.1 f4;obtain⟨g3,g4⟩:=and_true.1 g2;obtain⟨g5,g6⟩:=and_true.1 g4;obtain⟨q1,q2⟩:=and_true.1 hq;obtain⟨q3,q4⟩:=and_true.1 q1;obtain⟨q5,q6⟩:=and_true.1 q2;obtain⟨q7,q8⟩:=and_true.1 q6;have e1:n=k:=cj.1 g1;have e2:l=c:=yg g3;have e3:P5=len:=cj.1 g5;have e4:e'=ee:=cj.1 g6;subst e1;subst e2;subst e3;subst e4;obtain⟨i1,i2⟩:=ye hl;subst i1;have hn:n<s1.nx:=by rw[←blt_eq];exact q4
      exact⟨c',aL.1 q7,wJ,hn,t,z,hg,fun i hi=>by have:=i2 i hi;rw[Nat.zero_add] at this;exact this⟩
     ·cases f3
    ·cases f3
   ·cases f3
  ·cases f3
 have IB:∀k es,(k,es)∈p.es->∃fs o,s1.h.get k=some o/\o.bN=false/\((∃c,o= .map fs c)\/o= .cK fs)/\nV fs=es/\qU es=true:=by intro k es h;obtain⟨fs,h1,h2⟩:=F1 f2 _ h;obtain⟨o,h3,h4,h5⟩:=MF h1;exact⟨fs,o,h3,h4,h5,h2,EA Pb _ h⟩
 have live:∀k,k<top->∀o,s2.h.get k=some o->∃o',s1.h.get k=some o'/\(o.bN=false->o'.bN=false):=by
  intro k hk o ho;rcases heap k hk with⟨h1,_⟩|⟨es,h1,h2⟩|⟨h1,h2,h3⟩|⟨c,len,ee,h1,_⟩
  ·rw[h1] at ho;cases ho
  ·obtain⟨fs,o',h3,h4,_⟩:=IB k es h1;exact⟨o',h3,fun _=>h4⟩
  ·rw[h3] at ho;exact⟨o,by rw[kept k hk h1 h2];exact ho,id⟩
  ·obtain⟨_,_,_,_,t,z,h3,_⟩:=row k c len ee h1;exact⟨_,h3,fun _=>rfl⟩
 have Ce:∀i,i<top->∀m es ex left cur,s2.h.get i=some (.iter m es ex left cur)->i ∉ ns/\¬(s.nx<=i/\i<s2.nx)/\s.h.get i=some (.iter m es ex left cur)/\s1.h.get i=some (.iter m es ex left cur):=by
  intro i hi m es ex left cur hq;rcases heap i hi with⟨h1,_⟩|⟨es,h1,h2⟩|⟨h1,h2,h3⟩|⟨c,len,ee,h1,_,_,_,h2⟩
  ·rw[h1] at hq;cases hq
  ·rw[h2] at hq;cases hq
  ·rw[h3] at hq;exact⟨h1,h2,hq,by rw[kept i hi h1 h2];exact hq⟩
  ·rw[h2] at hq;cases hq
 refine⟨σ,⟨e.le,fun k dZ hk=>e.out k dZ<|by omega⟩,?_,⟨?_,?_,?_,rl.size,?_,rl.fz.of (ah.le_refl _) (fun _ _ _=>rfl) (fun b1 _ hn=>hn.sub fun m q hm hq da=>by
  obtain⟨y,e1,e2⟩:=live m hm q hq;exact⟨y,e1,e2 da⟩),rl.tk.of (ah.le_refl _) (fun i q hi hq kT=>by
  rcases heap i hi with⟨h1,_⟩|⟨es,h1,h2⟩|⟨h1,h2,h3⟩|⟨c,len,ee,h1,_,_,_,h2⟩
  ·rw[h1] at hq;cases hq
  ·rw[h2] at hq;cases hq;cases kT
  ·rw[h3] at hq;rw[kept i hi h1 h2];exact hq
  ·rw[h2] at hq;cases hq;cases kT) (Nat.le_refl _) (fun _ _ _=>rfl) (fun b1 _ hn=>hn.sub fun m q hm hq da=>by
  obtain⟨y,e1,e2⟩:=live m hm q hq;exact⟨y,e1,e2 da⟩) fun _ _ _ _ _ e=>e⟩,hb⟩
 ·have val:∀u1,VR σ (kL v) u1->VR σ y u1:=by
   intro u1 hv
   ·rcases yw d5 with⟨_,⟨hr,rfl⟩|⟨hr,rfl⟩⟩|⟨n,c,len,ee,hr,rfl,_⟩
    ·rw[hr] at f4;unfold ij at f3;split at f3
     ·rename_i wJ;have CK:kL v= .tuple []:=wJ;rw[←CK];exact hv
     ·injection f3 with f3;subst f3;simp[nS] at f4
     ·split at f3
      ·split at f3
       ·split at f3
        ·injection f3 with f3;subst f3;simp[nS] at f4
        ·cases f3
       ·cases f3
      ·cases f3
     ·cases f3
    ·rw[hr] at f4;unfold ij at f3;split at f3
     ·injection f3 with f3;subst f3;simp[nS] at f4
     ·rename_i wJ;have CK:kL v= .slice none 0 (.known 0):=wJ;rw[←CK];exact hv
     ·split at f3
      ·split at f3
       ·split at f3
        ·injection f3 with f3;subst f3;simp[nS] at f4
        ·cases f3
       ·cases f3
      ·cases f3
     ·cases f3
    ·obtain⟨c',h1,P6,_⟩:=row n c len ee hr;rw[P6] at hv;simp only[VR] at hv ⊢;obtain⟨b,N,cc,g1,g2,g3,g4,g5⟩:=hv;exact⟨b,N,cc,g1,g2,g4,g4,g5⟩
  cases v with
  |tuple vs=>
   cases vs with
   |nil=>
    cases hr:p.rest with
    |some l=>rw[hr] at f5;cases f5
    |none=>exact val u hv
   |cons v1 l=>
    cases hr:p.rest with
    |none=>rw[hr] at f5;cases f5
    |some m=>rw[hr] at f5;have el:l=m:=yg f5;subst el;simp only[VR,aq] at hv;obtain⟨a,rfl,u1,us,e1,g1,g2⟩:=hv;show VR σ (.tuple<|y::l)<|.tuple a;simp only[VR,aq];exact⟨a,rfl,u1,us,e1,val u1 g1,g2⟩
  |_=>
   cases hr:p.rest with
   |some l=>rw[hr] at f5;cases f5
   |none=>exact val u hv
 ·intro k o hk ho;rcases heap k hk with⟨h1,_⟩|⟨es,h1,h2⟩|⟨h1,h2,h3⟩|⟨c,len,ee,h1,h2,h3,h4,h5⟩
  ·rw[h1] at ho;cases ho
  ·rw[h2] at ho;injection ho with ho;subst ho
   obtain⟨fs,o,g1,g2,g3,rfl,g5⟩:=IB k es h1;obtain⟨b,N,o',i1,i2,i3,i4⟩:=rl.is k o hk g1;exact⟨b,N,o',i1,i2,LN g3 i3 g5,fun _=>i4 g2⟩
  ·rw[h3] at ho;exact rl.is k o hk (by rw[kept k hk h1 h2];exact ho)
  ·rw[h5] at ho;injection ho with ho;subst ho
   obtain⟨c',_,_,_,t,z,g1,g2⟩:=row k c len ee h1;obtain⟨b,N,o',i1,i2,i3,i4⟩:=rl.is k _ hk g1;obtain⟨cc,et,rfl,j1,j2,j3⟩:=i3;refine⟨b,N,_,i1,i2,⟨cc,et,rfl,j1,j2,fun i hi=>?_⟩,fun _=>i4 rfl⟩;obtain⟨y,yv,y1,y2,y3,y4⟩:=j3 i hi;exact⟨y,yv,by rw[oW h3 hi, ←g2 i hi];exact y1,y2,y3,y4⟩
 ·intro k j o o' b N M hk hj ho gx b8 h1 h2;obtain⟨y,hy,ln⟩:=live k hk o ho;obtain⟨z,hz,rP⟩:=live j hj o' gx;exact rl.one k j y z b N M hk hj hy hz (b8.imp ln rP) h1 h2
 ·intro i m es ex left cur hi hq;obtain⟨g1,g2,g3,g4⟩:=Ce i hi m es ex left cur hq;obtain⟨h1,h2,h3⟩:=rl.iter i m es ex left cur hi g4;obtain⟨_,i2,_⟩:=r.iter i m es ex left cur hi g3;refine⟨h1,?_,h3⟩;rcases heap m h1 with⟨k1,k2,k3⟩|⟨dD,k1,k2⟩|⟨k1,k2,k3⟩|⟨c,len,ee,k1,k2,_⟩
  ·obtain⟨bb,N,_,j1,_⟩:=r.is m _ h1 i2;rw[hf m k2 k3 h1] at j1;cases j1
  ·have:=(b2 _ k1).2;rw[a1] at this;exact absurd i2 this
  ·rw[k3];exact i2
  ·obtain⟨bb,N,_,j1,_⟩:=r.is m _ h1 i2;obtain⟨_,_,_,l1,_⟩:=row m c len ee k1;rw[hf m k2 (by omega) h1] at j1;cases j1
 ·intro i j m es ex left cur dD eW eJ eL hi hj h1 h2;exact rl.lone i j m _ _ _ _ _ _ _ _ hi hj (Ce i hi _ _ _ _ _ h1).2.2.2 (Ce j hj _ _ _ _ _ h2).2.2.2
end
end Go.Rn
namespace Go.Rn
open Go.RowKit
section
variable {P:Program} {B:aC} {ρ:ah} {w:World} {s s1:AS} {Sy:aD}
theorem AB{rs:List ResultVar}:∀{l:List<|(AF×Option Code)×AS} {outs:List<|AV×AS},kA P rs l=some outs->∀x∈l,∃v s1,finish P rs x.1.1 x.1.2 x.2= .ok v s1/\(v,s1)∈outs
 |[],outs,_,x,hx=>by cases hx
 |((fr,j),s)::l,outs,h,x,hx=>by
  simp only[kA] at h;cases e:finish P rs fr j s with
  |bad=>rw[e] at h;cases h
  |ok v s1=>
   rw[e] at h;cases e2:kA P rs l with
   |none=>simp only[e2] at h;cases h
   |some r=>
    simp only[e2] at h;injection h with h;subst h
    rcases List.mem_cons.1 hx with rfl|hx
    ·exact⟨v,s1,e,by simp⟩
    ·obtain⟨v',s',a,b⟩:=AB e2 x hx;exact⟨v',s',a,List.mem_cons_of_mem _ b⟩
theorem MH(bX:P.follows .mixedOrders=true)(hc:dm P B Sy)(hl:∀t a,Sx<|Sy t a){f:FuncId}{fn:Func}{body:Code}{args:List AV}{vs:Array Value}{x:AV}(cw:P.funcs[f]? =some fn)(cV:fn.body=some body)(dX:(fn.name == "runtime.NumGoroutine")=false)(cC:dx body)(fi:aO s)(r:Rel B ρ s.h w)(hg:dN ρ)(hf:bH s.nx s1.nx ρ)(h:px P Sy f fn.ntmps fn.results.toList body args s= .ok x s1)(hv:aq ρ args vs.toList):fm P ((callFunc f vs).run P w)<|fM B ρ s s1 w x:=by
 have bd:(callFunc f vs).run P w= .ok (.enter f vs) w:=by
  have l4:(program).run P w= .ok P w:=rfl;have hn:fn.name≠ "runtime.NumGoroutine" :=by simpa using dX
  simp only[callFunc,Sem.run_bind,l4,Result.andThen_ok,cw,dX,cV];simp
 rw[bd];intro cs;unfold px at h;cases e0:Nat.ble (max fn.ntmps args.length) top with
 |false=>simp only[e0] at h;cases h
 |true=>
  simp only[e0] at h;have ir:=aL.1 e0;cases e1:vw P Sy f fn.ntmps fn.results.toList body args ⟨s.h,s.nx,s.nx,[],[]⟩ with
  |none=>simp only[e1] at h;cases h
  |some outs=>
   simp only[e1] at h;cases e2:nW s.nx outs with
   |none=>simp only[e2] at h;cases h
   |some p=>
    simp only[e2] at h;have DB:=e1;unfold vw at e1;cases e3:hX P Sy 100000 ⟨f,bt args,max fn.ntmps args.length,[.code body],[],none⟩ ⟨s.h,s.nx,s.nx,[],[]⟩ with
    |none=>simp only[e3] at e1;cases e1
    |some l=>
     simp only[e3] at e1;have xw:aO (⟨s.h,s.nx,s.nx,[],[]⟩:AS):=⟨Nat.le_refl _,fi.nx⟩;obtain⟨_,uB,_⟩:=(Er P fn.results.toList<|mH P hl _ _) ⟨s.h,s.nx,s.nx,[],[]⟩ outs xw DB;obtain⟨_,IC,_⟩:=mH P hl _ _ ⟨s.h,s.nx,s.nx,[],[]⟩ l xw e3;have bj:∀x∈outs,x.2.nx<=s1.nx:=by
      intro y hy;have q1:=BT y hy;obtain⟨ns,_,_,Pa,_,_⟩:=Fv e2;obtain⟨_,n1,d1,d2⟩:=M.aI (show((jj p.note).bind fun _=>(kP p.es).bind fun _=>(oi p.lo p.ret).bind fun v=>(iM p.skip).bind fun _=>M.pure<|vu p.rest v) s= .ok x s1 from h);obtain⟨_,n2,d3,d4⟩:=M.aI d2;obtain⟨y',n3,d5,d6⟩:=M.aI d4;obtain⟨_,n4,d7,d8⟩:=M.aI d6;obtain⟨rfl,rfl⟩:=aM d8;obtain⟨a1,a2⟩:=AH d1;obtain⟨b1,_⟩:=A1 d3;obtain⟨c1,_⟩:=yh d7;rcases yw d5 with⟨rfl,_⟩|⟨n,c,len,ee,_,_,g1,_,g2,_⟩
      ·omega
      ·omega
     have oM:∀y∈l,y.2.nx<=s1.nx:=by intro y hy;obtain⟨v,s3,q1,q2⟩:=AB e1 y hy;obtain⟨dr,dw,d⟩:=IC y hy;have:=(Sx.finish P fn.results.toList y.1.1 y.1.2).le (d.bg xw) q1;exact Nat.le_trans this<|bj _ q2
     let b:Frame:={(default:Frame) with fn:=f,kind:=.normal,roundOf:=none};let a:Act:={tmps:=vs++Array.replicate (fn.ntmps - vs.size) undef,defers:=[]};have jY:Frame.enter P f vs .normal=b.atR a [.code body]:=by simp[Frame.enter,Frame.atR,cw,cV,b,a]
     have aW:Fr ρ ⟨f,bt args,max fn.ntmps args.length,[.code body],[],none⟩ b a:=⟨rfl,rfl,trivial,rfl,.cons cC .nil⟩;have aB:At B ρ ⟨s.h,s.nx,s.nx,[],[]⟩ (max fn.ntmps args.length) (bt args) w a:=⟨uX hv _ ir,r,hg,ir,xw⟩;obtain⟨fr,j,s2,eM,σ,a',w',q1,q2,q3,q4,⟨q5,S2,SP⟩,q6,q7,q8⟩:=Fu (b:=b) (cs:=cs) bX hc hl 100000 aW aB (fun y hy=>hf.sub (Nat.le_refl _)<|oM y hy) e3;obtain⟨v,s3,iq,nh⟩:=AB e1 _ eM;obtain⟨dr,dw,hd⟩:=uB _ nh;obtain⟨np,pO,xx⟩:=IC _ eM;have bR:aO s2:=xx.bg xw;obtain⟨hj,u2,s4,rs,h7,h9,hx⟩:=u0 iq;have I5:Leaves j fr.todo:=q7;obtain⟨d1,d2,w2,d3,d4,d5⟩:=sO (P:=P) (fr:=b) (cs:=cs) bR q2.rel q3 h7;have gf:aO s4:=(Sx.hJ _).bg bR h7;obtain⟨f1,f2,us,f3,f4⟩:=sM (P:=P) (w:=w2) q2.tr gf d3 h9;have Pc:Steps P (lone (b.atR a' fr.todo) cs w')<|lone {b.atR a' fr.todo with mode:=.returning} cs w':=by
      rcases hj with rfl|rfl
      ·have e:fr.todo=[]:=I5;rw[e];exact .one<|stepR_end rfl
      ·obtain⟨k,e⟩:=I5;rw[e];exact .one<|stepR_ret rfl
     have j9:=d5 {b.atR a' fr.todo with mode:=.returning} cs (by simp) rfl;have iQ:(results fn a'.tmps).run P w2= .ok (eS us) w2:=by
      unfold results;rw[Array.mapM_eq_mapM_toList];simp only[Sem.run_bind,map_eq_pure_bind,Sem.run_pure];refine Eq.trans (congrArg (fun r:Result (List Value)=>(r.andThen fun a w'=>Result.ok a.toArray w').andThen fun a w'=>Result.ok (if h:a.size=1 then a[0] else Value.tuple a) w') f3) ?_;have:∀l:List Value,(Result.ok (if h:l.toArray.size=1 then l.toArray[0] else Value.tuple l.toArray) w2:Result Value)= .ok (eS l) w2:=by
       intro l
       match l with
       |[]=>rfl
       |[v]=>rfl
       |v::v2::l=>simp[eS]
      exact this us
     have P7:fM B ρ s s1 w x (eS us) w2:=by
      refine MG (σ:=σ) r hf e2 nh hd h ?_ ?_ ?_<|q4.trans d4
      ·rw[show s3.nx=s2.nx by rw[f2,d1]];exact q1
      ·rw[hx];exact vg f4
      ·rw[f1];exact d3
     refine⟨.returned<|eS us,w2,{b.atR a' fr.todo with mode:=.returning,defers:=[]},⟨_,rfl,P7⟩,?_,rfl,?_⟩
     ·rw[jY];exact Steps.trans q8<|Steps.trans Pc j9
     ·exact⟨rfl,rfl,rfl,fn,cw,iQ⟩
structure G9 (P:Program) (f:FuncId):Prop where
 is:∃fn,P.funcs[f]? =some fn/\fn.body=none/\(fn.name == "runtime.NumGoroutine")=false/\(Extern.findNext fn).isNone=true/\Extern.find fn=some Extern.MapsClone.clone
theorem Lg{f:FuncId}(hf:G9 P f){vs:Array Value}{R:Value->World->Prop}{v:Value}{w':World}(h:(Extern.MapsClone.clone vs).run P w= .ok v w')(hR:R v w'):fm P ((callFunc f vs).run P w) R:=by
 obtain⟨fn,h1,h2,h3,h4,h5⟩:=hf.is;have l4:(program).run P w= .ok P w:=rfl;have Pd:∀m,(mark m).run P w= .ok () w:=fun _=>rfl;have mq:Extern.findNext fn=none:=by simpa using h4
 have:(callFunc f vs).run P w= .ok (.value v) w':=by simp only[callFunc,Sem.run_bind,l4,Result.andThen_ok,h1,h2,h3,mq,h5];simp[h,Pd]
 rw[this];exact hR
theorem Od{cx:FuncId->Nat}(hP:dp P)(h3:∀f,cx f≠3)(h2:∀f,cx f=2->G9 P f):Cd P B cx:=by
 intro n f hw ih args x s s1 ρ w vs fi r hg hf h hv;rcases hw with e|e|e
 ·unfold pN at h;rw[e] at h;simp only at h;cases e1:P.funcs[f]? with
  |none=>rw[e1] at h;cases h
  |some fn=>
   rw[e1] at h;cases e2:fn.body with
   |none=>simp only[e2] at h;cases h
   |some body=>
    simp only[e2] at h;cases e3:(fn.name == "runtime.NumGoroutine") with
    |true=>simp only[e3] at h;cases h
    |false=>simp only[e3] at h;exact MH hP.mixed ih (uZ P cx n) e1 e2 e3 (hP.code f fn body e1 e2) fi r hg hf h hv
 ·unfold pN at h;rw[e] at h;have h':o5 args s= .ok x s1:=h;obtain⟨σ,w',v,a1,a2,a3,a4,a5⟩:=LM (P:=P) fi r hf hv h';exact Lg (h2 f e) a2 ⟨σ,a1,a3,a4,a5⟩
 ·exact absurd e<|h3 f
end
end Go.Rn
namespace Go.Rn
open Go.RowKit
noncomputable section
def cW(P:Program)(Sy:aD)(k:Nat):AF->M bK:= @Nat.rec (fun _=>AF->M bK) (fun fr=>M.pure<|.go fr) (fun _ ih fr=>(fx P Sy fr).bind fun x=> @bK.rec (fun _=>M bK) ih (fun fr j=>M.pure<|.leave fr j) x) k
def lN:List Nat->Code->Code
 |[],c=>c
 |0::l,.seq a _=>lN l a
 |_::l,.seq _ b=>lN l b
 |0::l,.cond _ a _=>lN l a
 |_::l,.cond _ _ b=>lN l b
 |_::l,.block _ b=>lN l b
 |_::l,.loop b=>lN l b
 |_::l,.scope b=>lN l b
 |0::l,.rangeFunc _ _ a _=>lN l a
 |_::l,.rangeFunc _ _ _ b=>lN l b
 |_::_,c=>c
def getAll(h:Tr U):List Nat->List (Option U)
 |[]=>[]
 |n::ns=>h.get n::getAll h ns
def Gw:List (Option U)->Bool
 |[]=>true
 |none::l=>Gw l
 |some o::l=>match o.plain with
  |true=>Gw l
  |false=>false
def Cf(m:Nat):List Nat->Bool
 |[]=>true
 |n::l=>match Nat.blt n m with
  |true=>Cf m l
  |false=>false
end
theorem A2{m:Nat}:∀{l:List Nat},Cf m l=true->∀n∈l,n<m
 |[],_,n,h=>by cases h
 |a::l,hp,n,h=>by
  unfold Cf at hp;split at hp
  ·rename_i e;rcases List.mem_cons.1 h with rfl|h
   ·rw[←blt_eq];exact e
   ·exact A2 hp n h
  ·cases hp
section
variable {P:Program} {B:aC} {ρ:ah} {w:World} {s s1:AS} {Sy:aD} {b:Frame} {a:Act} {cs:List Frame}
theorem Sx.cW(P:Program){Sy:aD}(bd:∀t a,Sx<|Sy t a):∀(k:Nat) (fr:AF),Sx (cW P Sy k fr)
 |0,fr=>Sx.pure _
 |k+1,fr=>by
  refine Sx.bind (Sx.fx P bd fr) fun x=>?_;cases x with
  |go fr=>exact Sx.cW P bd k fr
  |leave fr j=>exact Sx.pure _
theorem yG(bX:P.follows .mixedOrders=true)(hc:dm P B Sy)(hl:∀t a,Sx<|Sy t a):∀(k:Nat) {ρ:ah} {w:World} {s s1:AS} {a:Act} {af:AF} {x:bK},Fr ρ af b a->At B ρ s af.nt af.tmps w a->bH s.nx s1.nx ρ->
 cW P Sy k af s= .ok x s1->gX P B ρ s s1 w af b cs (lone (b.atR a af.todo) cs w) x
 |0,ρ,w,s,s1,a,af,x,aW,aB,hf,h=>by obtain⟨rfl,rfl⟩:=aM (show M.pure (.go af) s= .ok x s1 from h);exact sX aW aB rfl rfl ⟨rfl,rfl,rfl⟩ aW.ok trivial<|Steps.refl _ _
 |k+1,ρ,w,s,s1,a,af,x,aW,aB,hf,h=>by
  obtain⟨y,s2,h1,h2⟩:=M.aI (show((fx P Sy af).bind fun x=> @bK.rec (fun _=>M bK) (cW P Sy k) (fun fr j=>M.pure<|.leave fr j) x) s= .ok x s1 from h);have fD:=(Sx.fx P hl af).le aB.bg h1;have bR:=(Sx.fx P hl af).bg aB.bg h1;cases y with
  |go fr=>have jI:cW P Sy k fr s2= .ok x s1:=h2;have jK:=(Sx.cW P hl k fr).le bR jI;have w1:=vd (b:=b) (cs:=cs) bX hc hl aW aB (hf.sub (Nat.le_refl _) jK) h1;exact w1.CJ aW fD jK fun σ a' w' e1 ry rz=>yG bX hc hl k ry rz (hf.next fD e1) jI
  |leave fr j=>obtain⟨rfl,rfl⟩:=aM (show M.pure (.leave fr j) s2= .ok x s1 from h2);exact vd bX hc hl aW aB hf h1
theorem Nq{h:Tr U}{nx:Nat}(hb:Nat.ble nx top=true):aO ⟨h,nx,0,[],[]⟩:=⟨Nat.zero_le _,aL.1 hb⟩
end
end Go.Rn
namespace Go.Rn
open Go.RowKit
structure Start (J:Nat) (h0:Tr U) (ρ:ah) (w:World):Prop where
 g:dN ρ
 free:∀k,J<=k->ρ k=none
 is:∀n o,n<top->h0.get n=some o->o.jy=true/\∃b N o',ρ n=some (b,N)/\w.heap[b]? =some o'/\OR ρ N o o'
theorem Start.rel{J:Nat}{h0:Tr U}{ρ:ah}{w:World}(S:Start J h0 ρ w)(ht:J<=top):Rel (NZ w) ρ h0 w:=by
 refine⟨fun n o hn h=>?_,fun n m o p b N M hn hm h1 h2 b8 _ _=>?_,fun n m es ex left cur hn h=>?_,fun _ hk=>hk,fun i j m es ex left cur dD eW eJ eL hi _ h1 _=>?_,fun n b sh e=>absurd (S.free _<|Nat.le_trans ht<|eR n b sh) e,nk.no (fun n k v hn hg=>by have:=(S.is n _ hn hg).1;cases this) ⟨Nat.le_refl _,fun n o hn hg _=>by obtain⟨_,b,N,o',h1,h2,_⟩:=S.is n o hn hg;exact⟨b,N,h1,ff h2⟩⟩⟩
 ·obtain⟨hr,b,N,o',h1,h2,h3⟩:=S.is n o hn h;have hr:=U.gO hr;exact⟨b,N,o',h1,h2,h3,fun q=>by rw[hr] at q;cases q⟩
 ·have e1:=U.gO (S.is n o hn h1).1;have e2:=U.gO (S.is m p hm h2).1;rcases b8 with q|q
  ·rw[e1] at q;cases q
  ·rw[e2] at q;cases q
 ·have:=(S.is n _ hn h).1;cases this
 ·have:=(S.is i _ hi h1).1;cases this
section
variable {P:Program} {B:aC} {ρ:ah} {w:World} {s s1:AS} {Sy:aD}
end
noncomputable section
def uc(J:Nat):AV->AV->Bool
 | .nilFunc,.nilFunc=>true
 | .func (.func f) [] [],.func (.func g) [] []=>Nat.beq f g
 | .slice none 0 (.known 0),.slice none 0 (.known 0)=>true
 | .b9 a b c,.b9 d e f=>and (Nat.beq a d)<|and (Nat.beq b e)<|and (Nat.beq c f)<|and (Nat.blt d J)<|Nat.blt d top
 |x,y=>match sameKey x y with
  |some true=>true
  |_=>false
def vI(J:Nat)(t u:Tr AV):Nat->Bool
 |0=>true
 |i+1=>match t.get i,u.get i with
  |some a,some b=>and (uc J a b)<|vI J t u i
  |_,_=>false
def mT(J:Nat):U->U->Bool
 | .ro m t,.ro n u=>and (Nat.beq m n)<|vI J t u n
 | .lV m t,.lV n u=>and (Nat.beq m n)<|vI J t u n
 |_,_=>false
def fV(J:Nat)(h0:Tr U):List Nat->M Unit
 |[]=>M.pure ()
 |n::ns=>(aY n).bind fun o=>aA (h0.get n) fun p=>ay (mT J o p) <| fV J h0 ns
end
theorem Sx.fV(J:Nat)(h0:Tr U):∀ns,Sx (fV J h0 ns)
 |[]=>Sx.pure _
 |n::ns=>Sx.bind (Sx.aY n) fun _=>Sx.aA fun _ _=>Sx.ay fun _=>Sx.fV J h0 ns
theorem Gx{J:Nat}{ρ:ah}{a b:AV}{v:Value}(h:uc J a b=true)(hv:VR ρ a v):VR (fun k=>if k<J then ρ k else none) b v:=by
 unfold uc at h;split at h
 ·simp only[VR] at hv ⊢;exact hv
 ·rename_i f g;have:f=g:=cj.1 h;subst this;simp only[VR,aq] at hv ⊢;exact hv
 ·simp only[VR] at hv ⊢;exact hv
 ·obtain⟨q1,q2⟩:=and_true.1 h;obtain⟨q3,q4⟩:=and_true.1 q2;obtain⟨q5,q6⟩:=and_true.1 q4;have e1:=cj.1 q1;have e2:=cj.1 q3;have e3:=cj.1 q5;subst e1;subst e2;subst e3;obtain⟨q6,q7⟩:=and_true.1 q6;have aS:=(blt_eq _ _).mp q6;have cr:=(blt_eq _ _).mp q7;simp only[VR] at hv ⊢;rcases hv with hv|⟨b,sh,c,h1,h2⟩
  ·exact .inl hv
  ·exact .inr ⟨b,sh,c,.inl ⟨by omega,(if_pos aS).trans<|h1.low<|by omega⟩,h2⟩
 ·split at h
  ·rename_i e;have:=sameKey_eq e;subst this;unfold sameKey at e;split at e<;>first|(cases e;done)|(simp only[VR] at hv ⊢;exact hv)
  ·cases h
theorem AT{J:Nat}{t u:Tr AV}:∀{n:Nat},vI J t u n=true->∀i,i<n->∃a b,t.get i=some a/\u.get i=some b/\uc J a b=true
 |0,_,i,hi=>by omega
 |n+1,h,i,hi=>by
  unfold vI at h;split at h
  ·rename_i a b e1 e2;obtain⟨q1,q2⟩:=and_true.1 h;by_cases q:i=n
   ·subst q;exact⟨a,b,e1,e2,q1⟩
   ·exact AT q2 i (by omega)
  ·cases h
theorem Fw{v:Value}{ρ:ah}{a:AV}{J:Nat}{b:AV}(h:uc J a b=true)(_:VR ρ a v):b.bB=true:=by
 unfold uc at h;split at h
 ·rfl
 ·rfl
 ·rfl
 ·rfl
 ·split at h
  ·rename_i e;have:=sameKey_eq e;subst this;unfold sameKey at e;split at e<;>first|(cases e;done)|rfl
  ·cases h
theorem Lh{J N:Nat}{ρ:ah}{o p:U}{o':Obj}(h:mT J o p=true)(hO:OR ρ N o o'):p.jy=true/\OR (fun k=>if k<J then ρ k else none) N p o':=by
 unfold mT at h;split at h
 ·rename_i m t n u;obtain⟨q1,q2⟩:=and_true.1 h;have e1:=cj.1 q1;subst e1;obtain⟨c,e,fr,rfl,h1,h2,row⟩:=hO;refine⟨rfl,c,e,fr,rfl,h1,h2,fun i hi=>?_⟩;obtain⟨x,v,a1,a2,a3,a4⟩:=row i hi;obtain⟨a,b,b1,b2,b3⟩:=AT q2 i hi;rw[a1] at b1;cases b1;exact⟨b,v,b2,Fw b3 a4,a3,Gx b3 a4⟩
 ·rename_i m t n u;obtain⟨q1,q2⟩:=and_true.1 h;have e1:=cj.1 q1;subst e1;obtain⟨c,e,fr,rfl,row⟩:=hO;refine⟨rfl,c,e,fr,rfl,fun i hi=>?_⟩;obtain⟨x,v,a1,a2,a3,a4⟩:=row i hi;obtain⟨a,b,b1,b2,b3⟩:=AT q2 i hi;rw[a1] at b1;cases b1;exact⟨b,v,b2,Fw b3 a4,a3,Gx b3 a4⟩
 ·cases h
theorem ya{J:Nat}{h0:Tr U}:∀{ns:List Nat} {s s1:AS} {u:Unit},fV J h0 ns s= .ok u s1->s1.h=s.h/\s1.nx=s.nx/\∀n∈ns,n<s.nx/\∃o p,s.h.get n=some o/\h0.get n=some p/\mT J o p=true
 |[],s,s1,u,h=>by obtain⟨_,rfl⟩:=aM (show M.pure () s= .ok u s1 from h);exact⟨rfl,rfl,fun n hn=>by cases hn⟩
 |m::ns,s,s1,u,h=>by
  obtain⟨o,s2,h1,h2⟩:=M.aI (show((aY m).bind fun o=>aA (h0.get m) fun p=>ay (mT J o p) <| fV J h0 ns) s= .ok u s1 from h);obtain⟨a1,a2,a3,a4⟩:=dW h1;obtain⟨p,h3,h4⟩:=aX h2;obtain⟨h5,h6⟩:=bM h4;obtain⟨b1,b2,b3⟩:=ya h6;refine⟨b1.trans a3,b2.trans a4,fun n hn=>?_⟩;rcases List.mem_cons.1 hn with rfl|hn
  ·exact⟨a1,o,p,a2,h3,h5⟩
  ·obtain⟨c1,q1,q2,c2,c3,c4⟩:=b3 n hn;exact⟨by rw[←a4];exact c1,q1,q2,by rw[←a3];exact c2,c3,c4⟩
end Go.Rn
namespace Go.Rn
open Go.RowKit
section
variable {P:Program} {B:aC} {ρ:ah} {w:World} {s s1:AS} {Sy:aD}
theorem JR{g:FuncId}{fn:Func}{body:Code}{args:List AV}{vs:Array Value}{fr:AF}{j:Option Code}{s2 s3:AS}{x:AV}(cw:P.funcs[g]? =some fn)(cV:fn.body=some body)(pX:aO s2)(hw:∀cs:List Frame,gX P B ρ s s2 w ⟨g,bt args,max fn.ntmps args.length,[.code body],[],none⟩ {(default:Frame) with fn:=g,kind:=.normal,roundOf:=none} cs
 (lone (({(default:Frame) with fn:=g,kind:=.normal,roundOf:=none}:Frame).atR {tmps:=vs++Array.replicate (fn.ntmps - vs.size) undef,defers:=[]} [.code body]) cs w) (.leave fr j))(iq:finish P fn.results.toList fr j s2= .ok x s3):Calls P g vs w fun e w'=>∃v,e= .returned v/\fM B ρ s s3 w x v w':=by
 intro cs;let b:Frame:={(default:Frame) with fn:=g,kind:=.normal,roundOf:=none};let a:Act:={tmps:=vs++Array.replicate (fn.ntmps - vs.size) undef,defers:=[]};have jY:Frame.enter P g vs .normal=b.atR a [.code body]:=by simp[Frame.enter,Frame.atR,cw,cV,b,a]
 obtain⟨σ,a',w',e1,e2,e3,e4,⟨e5,sj,P1⟩,e6,e7,e8⟩:=hw cs;obtain⟨hj,u2,s4,rs,h7,h9,hx⟩:=u0 iq;have gf:aO s4:=(Sx.hJ _).bg pX h7;have hH:Leaves j fr.todo:=e7;obtain⟨d1,d2,w2,d3,d4,d5⟩:=sO (P:=P) (fr:=b) (cs:=cs) pX e2.rel e3 h7;obtain⟨f1,f2,us,f3,f4⟩:=sM (P:=P) (w:=w2) e2.tr gf d3 h9;have nh:Steps P (lone (b.atR a' fr.todo) cs w')<|lone {b.atR a' fr.todo with mode:=.returning} cs w':=by
  rcases hj with rfl|rfl
  ·have e:fr.todo=[]:=hH;rw[e];exact .one<|stepR_end rfl
  ·obtain⟨k,e⟩:=hH;rw[e];exact .one<|stepR_ret rfl
 have j9:=d5 {b.atR a' fr.todo with mode:=.returning} cs (by simp) rfl;have iQ:(results fn a'.tmps).run P w2= .ok (eS us) w2:=by
  unfold results;rw[Array.mapM_eq_mapM_toList];simp only[Sem.run_bind,map_eq_pure_bind,Sem.run_pure];refine Eq.trans (congrArg (fun r:Result (List Value)=>(r.andThen fun a w'=>Result.ok a.toArray w').andThen fun a w'=>Result.ok (if h:a.size=1 then a[0] else Value.tuple a) w') f3) ?_;have:∀l:List Value,(Result.ok (if h:l.toArray.size=1 then l.toArray[0] else Value.tuple l.toArray) w2:Result Value)= .ok (eS l) w2:=by
   intro l
   match l with
   |[]=>rfl
   |[v]=>rfl
   |v::v2::l=>simp[eS]
  exact this us
 refine⟨.returned<|eS us,w2,{b.atR a' fr.todo with mode:=.returning,defers:=[]},⟨_,rfl,?_⟩,?_,rfl,?_⟩
 ·exact⟨σ,by rw[show s3.nx=s2.nx by rw[f2,d1]];exact e1,by rw[hx];exact vg f4,by rw[f1];exact d3,e4.trans d4⟩
 ·rw[jY];exact Steps.trans e8<|Steps.trans nh j9
 ·exact⟨rfl,rfl,rfl,fn,cw,iQ⟩
end
end Go.Rn
namespace Go.Rn
open Go.RowKit
noncomputable section
end
section
variable {P:Program} {Sy:aD}
end
end Go.Rn
namespace Go.Rn
open Go.RowKit
noncomputable section
def bK.Ha:bK->Bool
 | .go _=>false
 | .leave _ _=>true
def jZ(P:Program)(Sy:aD)(fr:AF):M bK:=fun s=> @dite (R bK) (∃k,∃x s1,cW P Sy k fr s= .ok x s1/\x.Ha=true) (Classical.propDecidable _) (fun h=>cW P Sy h.choose fr s) fun _=>.bad
def nY(P:Program)(f ntmps:Nat)(rs:List ResultVar)(body:Code)(Sy:aD)(args:List AV):M AV:=
 ay (Nat.ble (max ntmps args.length) top) <|
 (jZ P Sy ⟨f,bt args,max ntmps args.length,[.code body],[],none⟩).bind fun st=> @bK.rec (fun _=>M AV) (fun _=>fail) (fun fr j=>finish P rs fr j) st
def qp(P:Program)(Sy:aD)(l:Nat)(args:List AV):M AV:=(getLoop l).bind fun o=>match o with
 | .loop _ _ fn t nt ps a b _=>
  ay (and (Nat.beq args.length ps.length)<|ps.all fun p=>Nat.blt p nt) <|
  (jZ P Sy ⟨fn,jh ps args t,nt,[.code a,.beginRound,.code b],[],some l⟩).bind fun st=> @bK.rec (fun _=>M AV) (fun _=>fail) (fun _ j=>endRound l j) st
 |_=>fail
abbrev Sp:=FuncId->Option (aD->List AV->M AV)
def gg(P:Program)(sp:Sp)(f:FuncId):aD->List AV->M AV:=
 match sp f with
 |some m=>m
 |none=>match P.funcs[f]? with
  |none=>fun _ _=>fail
  |some fn=>match fn.body with
   |none=>fun _ _=>fail
   |some body=>match fn.name == "runtime.NumGoroutine" with
    |true=>fun _ _=>fail
    |false=>nY P f fn.ntmps fn.results.toList body
def kg(F:Nat->Option (List AV))(n o k:Nat):M AV:=aA (F n) fun l=>ay (Nat.ble (o+k) l.length) <| M.pure<|.agg<|(l.drop o).take k
def br(P:Program)(sp:Sp)(F:Nat->Option (List AV)):Nat->aD
 |0=>fun t _=>match t with
  | .row n o k=>kg F n o k
  |_=>fail
 |n+1=>fun t args=>match t with
  | .fn f=>gg P sp f (br P sp F n) args
  | .round l=>qp P (br P sp F n) l args
  | .row n o k=>kg F n o k
end
section
variable {P:Program} {B:aC} {ρ:ah} {w:World} {s s1:AS} {Sy:aD} {b:Frame} {a:Act} {cs:List Frame}
theorem F2{k:Nat}{fr:AF}:cW P Sy (k+1) fr s=((fx P Sy fr).bind fun x=> @bK.rec (fun _=>M bK) (cW P Sy k) (fun fr j=>M.pure<|.leave fr j) x) s:=rfl
theorem yU{k:Nat}{fr aU:AF}(h:fx P Sy fr s= .ok (.go aU) s1):cW P Sy (k+1) fr s=cW P Sy k aU s1:=by rw[F2,M.bo h]
theorem MI{k:Nat}{fr aU:AF}{j:Option Code}(h:fx P Sy fr s= .ok (.leave aU j) s1):cW P Sy (k+1) fr s= .ok (.leave aU j) s1:=by rw[F2,M.bo h];rfl
theorem Bf:∀{k k':Nat} {fr aU:AF} {j:Option Code} {s s1:AS},cW P Sy k fr s= .ok (.leave aU j) s1->k<=k'->cW P Sy k' fr s= .ok (.leave aU j) s1
 |0,_,_,_,_,_,_,h,_=>by cases h
 |k+1,0,_,_,_,_,_,_,hk=>by omega
 |k+1,k'+1,fr,aU,j,s,s1,h,hk=>by
  obtain⟨y,s2,h1,h2⟩:=M.aI (show((fx P Sy fr).bind fun x=> @bK.rec (fun _=>M bK) (cW P Sy k) (fun fr j=>M.pure<|.leave fr j) x) s= .ok _ s1 from h);cases y with
  |go ko=>rw[yU h1];exact Bf (show cW P Sy k ko s2=_ from h2) (by omega)
  |leave ko j'=>rw[MI h1];exact h2
theorem F3{k:Nat}{fr aU:AF}{j:Option Code}(h:cW P Sy k fr s= .ok (.leave aU j) s1):jZ P Sy fr s= .ok (.leave aU j) s1:=by
 have hex:∃k,∃x s1,cW P Sy k fr s= .ok x s1/\x.Ha=true:=⟨k,_,_,h,rfl⟩;unfold jZ;rw[dif_pos hex];obtain⟨x,s2,h1,h2⟩:=hex.choose_spec;cases x with
 |go _=>cases h2
 |leave fC j2=>have e1:=Bf h1<|Nat.le_max_left hex.choose k;have e2:=Bf h<|Nat.le_max_right hex.choose k;rw[e1] at e2;rw[h1,e2]
theorem Fx{fr:AF}{x:bK}(h:jZ P Sy fr s= .ok x s1):∃k aU j,x= .leave aU j/\cW P Sy k fr s= .ok (.leave aU j) s1:=by
 unfold jZ at h;split at h
 ·rename_i hex;obtain⟨y,s2,h1,h2⟩:=hex.choose_spec;cases y with
  |go _=>cases h2
  |leave fC j2=>rw[h1] at h;cases h;exact⟨_,fC,j2,rfl,h1⟩
 ·cases h
theorem Sx.jZ(P:Program){Sy:aD}(hl:∀t a,Sx<|Sy t a)(fr:AF):Sx<|jZ P Sy fr:=by intro s v s1 fi h;obtain⟨k,aU,j,rfl,h1⟩:=Fx h;obtain⟨dr,dw,d,al⟩:=Sx.cW P hl k fr s _ s1 fi h1;refine⟨dr,dw,d,fun A m0 t ag hA=>?_⟩;obtain⟨t1,e1,e2⟩:=al A m0 t ag hA;exact⟨t1,F3 e1,e2⟩
theorem Sx.nY(P:Program)(f n:Nat)(rs:List ResultVar)(body:Code){Sy:aD}(bd:∀t a,Sx<|Sy t a)(args:List AV):Sx<|nY P f n rs body Sy args:=
 Sx.ay (fun _=>Sx.bind (Sx.jZ P bd _) (fun x=>by
  cases x with
  |go fr=>exact Sx.fail
  |leave fr j=>exact Sx.finish P rs fr j))
theorem Sx.qp(P:Program){Sy:aD}(bd:∀t a,Sx<|Sy t a)(l:Nat)(args:List AV):Sx<|qp P Sy l args:=by
 unfold Rn.qp;refine Sx.bind (Sx.getLoop _) fun o=>?_;split
 ·exact Sx.ay fun _=>Sx.bind (Sx.jZ P bd _) (fun x=>by
   cases x with
   |go fr=>exact Sx.fail
   |leave fr j=>exact Sx.endRound l j)
 ·exact Sx.fail
structure zJ (P:Program) (B:aC) (sp:Sp):Prop where
 loc:∀f m,sp f=some m->∀Sy:aD,(∀t a,Sx<|Sy t a)->∀args,Sx<|m Sy args
 xy:∀f m,sp f=some m->∀Sy:aD,dm P B Sy->(∀t a,Sx<|Sy t a)->∀(args:List AV) (x:AV) (s s1:AS) (ρ:ah) (w:World) (vs:Array Value),aO s->Rel B ρ s.h w->dN ρ->bH s.nx s1.nx ρ->
  m Sy args s= .ok x s1->aq ρ args vs.toList->fm P ((callFunc f vs).run P w) (fM B ρ s s1 w x)
theorem qY{sp:Sp}{f:FuncId}{m:aD->List AV->M AV}(h:sp f=some m):gg P sp f=m:=by unfold gg;rw[h]
theorem Gy{sp:Sp}{f:FuncId}{fn:Func}{body:Code}(h:sp f=none)(cw:P.funcs[f]? =some fn)(cV:fn.body=some body)(dX:(fn.name == "runtime.NumGoroutine")=false):gg P sp f=nY P f fn.ntmps fn.results.toList body:=by unfold gg;simp only[h,cw,cV,dX]
theorem F4(sp:Sp)(f:FuncId):(∃m,sp f=some m/\gg P sp f=m)\/(gg P sp f=fun _ _=>fail)\/(∃fn body,P.funcs[f]? =some fn/\fn.body=some body/\(fn.name == "runtime.NumGoroutine")=false/\gg P sp f=nY P f fn.ntmps fn.results.toList body):=by
 cases e:sp f with
 |some m=>exact .inl ⟨m,rfl,qY e⟩
 |none=>
  cases e1:P.funcs[f]? with
  |none=>refine .inr<|.inl ?_;unfold gg;simp only[e,e1]
  |some fn=>
   cases e2:fn.body with
   |none=>refine .inr<|.inl ?_;unfold gg;simp only[e,e1,e2]
   |some body=>
    cases e3:(fn.name == "runtime.NumGoroutine") with
    |true=>refine .inr<|.inl ?_;unfold gg;simp only[e,e1,e2,e3]
    |false=>exact .inr<|.inr ⟨fn,body,rfl,e2,e3,Gy e e1 e2 e3⟩
theorem LO(P:Program){sp:Sp}(hs:zJ P B sp)(f:FuncId){Sy:aD}(hl:∀t a,Sx<|Sy t a)(args:List AV):Sx<|gg P sp f Sy args:=by
 rcases F4 (P:=P) sp f with⟨m,e1,e2⟩|e|⟨fn,body,e1,e2,e3,e⟩
 ·rw[e2];exact hs.loc f m e1 Sy hl args
 ·rw[e];exact Sx.fail
 ·rw[e];exact Sx.nY P _ _ _ _ hl _
theorem Sx.kg(F:Nat->Option (List AV))(n o k:Nat):Sx<|kg F n o k:=Sx.aA fun _ _=>Sx.ay fun _=>Sx.pure _
theorem sS(P:Program){sp:Sp}(hs:zJ P B sp)(F:Nat->Option (List AV)):∀(n:Nat) (t:w7) (args:List AV),Sx (br P sp F n t args)
 |0,.fn _,_=>Sx.fail
 |0,.round _,_=>Sx.fail
 |0,.row n o k,_=>Sx.kg F n o k
 |n+1,.fn f,args=>LO P hs f (fun t a=>sS P hs F n t a) args
 |n+1,.round l,args=>Sx.qp P (fun t a=>sS P hs F n t a) l args
 |_+1,.row n o k,_=>Sx.kg F n o k
theorem HF{ρ:ah}{c:Array Value}:∀{l:List AV} {off:Nat},(∀(i:Nat) (x:AV),l[i]? =some x->∃v,c[off+i]? =some v/\VR ρ x v)->∃vs:List Value,vs.length=l.length/\aq ρ l vs/\∀(j:Nat) (v:Value),vs[j]? =some v->c[off+j]? =some v
 |[],off,_=>⟨[],rfl,by simp only[aq],fun j v h=>by simp at h⟩
 |x::l,off,h=>by
  obtain⟨v,h1,h2⟩:=h 0 x rfl;obtain⟨vs,g1,g2,g3⟩:=HF (l:=l) (off:=off+1) (fun i y hy=>by obtain⟨u,k1,k2⟩:=h (i+1) y (by simpa using hy);exact⟨u,by rw[Nat.add_assoc,Nat.add_comm 1 i];exact k1,k2⟩);refine⟨v::vs,by simp[g1],by simp only[aq];exact⟨v,vs,rfl,h2,g2⟩,fun j u hj=>?_⟩;cases j with
  |zero=>simp at hj;subst hj;simpa using h1
  |succ j=>have:=g3 j u (by simpa using hj);rw[Nat.add_assoc,Nat.add_comm 1 j] at this;exact this
theorem MJ{F:Nat->Option (List AV)}{n o k:Nat}{x:AV}(h:kg F n o k s= .ok x s1):s1=s/\∃l,F n=some l/\o+k<=l.length/\x= .agg ((l.drop o).take k):=by unfold kg at h;obtain⟨l,h1,h2⟩:=aX h;obtain⟨h3,h4⟩:=bM h2;obtain⟨rfl,rfl⟩:=aM h4;exact⟨rfl,l,h1,aL.1 h3,rfl⟩
theorem Gz{F:Nat->Option (List AV)}(hF:B.F=F){n o k:Nat}{x:AV}(r:Rel B ρ s.h w)(h:kg F n o k s= .ok x s1):
 s1.h=s.h/\s1.nx=s.nx/\∀b sh,ρ (hn n b sh)≠none->∃l vs,x= .agg l/\vs.length=k/\aq ρ l vs/\∃c e fr,w.heap[b]? =some (.cells c e fr)/\∀(j:Nat) (v:Value),vs[j]? =some v->c[sh+o+j]? =some v:=by
 obtain⟨rfl,l,h1,h2,rfl⟩:=MJ h;rw[←hF] at h1;refine⟨rfl,rfl,fun b sh hb=>?_⟩;obtain⟨_,l',c,e,fr,g1,g2,_,g4⟩:=r.fz n b sh hb;rw[h1] at g1;cases g1;obtain⟨vs,q1,q2,q3⟩:=HF (ρ:=ρ) (c:=c) (l:=(l.drop o).take k) (off:=sh+o) (fun i y hy=>by
  have ln:l[o+i]? =some y:=by
   rw[List.getElem?_take] at hy;split at hy
   ·rw[List.getElem?_drop] at hy;exact hy
   ·cases hy
  obtain⟨v,k1,k2,_⟩:=g4 (o+i) y ln;exact⟨v,by rw[Nat.add_assoc];exact k1,VR.mono (Ca ρ) _ _ k2⟩)
 refine⟨_,vs,rfl,?_,q2,c,e,fr,g2,q3⟩;rw[q1,List.length_take,List.length_drop];omega
theorem Fy(bX:P.follows .mixedOrders=true)(hc:dm P B Sy)(hl:∀t a,Sx<|Sy t a){af:AF}{x:bK}(aW:Fr ρ af b a)(aB:At B ρ s af.nt af.tmps w a)(hf:bH s.nx s1.nx ρ)(h:jZ P Sy af s= .ok x s1):gX P B ρ s s1 w af b cs (lone (b.atR a af.todo) cs w) x:=by obtain⟨k,aU,j,rfl,h1⟩:=Fx h;exact yG bX hc hl k aW aB hf h1
theorem LP(bX:P.follows .mixedOrders=true)(hc:dm P B Sy)(hl:∀t a,Sx<|Sy t a){f:FuncId}{fn:Func}{body:Code}{args:List AV}{vs:Array Value}{x:AV}(cw:P.funcs[f]? =some fn)(cV:fn.body=some body)(dX:(fn.name == "runtime.NumGoroutine")=false)(cC:dx body)(fi:aO s)(r:Rel B ρ s.h w)(hg:dN ρ)(hf:bH s.nx s1.nx ρ)(h:nY P f fn.ntmps fn.results.toList body Sy args s= .ok x s1)(hv:aq ρ args vs.toList):fm P ((callFunc f vs).run P w)<|fM B ρ s s1 w x:=by
 have bd:(callFunc f vs).run P w= .ok (.enter f vs) w:=by
  have l4:(program).run P w= .ok P w:=rfl;have hn:fn.name≠ "runtime.NumGoroutine" :=by simpa using dX
  simp only[callFunc,Sem.run_bind,l4,Result.andThen_ok,cw,dX,cV];simp
 rw[bd];unfold nY at h;obtain⟨h1,h2⟩:=bM h;have ir:=aL.1 h1;obtain⟨y,s2,h3,h4⟩:=M.aI h2;cases y with
 |go fr=>cases h4
 |leave fr j=>have mq:finish P fn.results.toList fr j s2= .ok x s1:=h4;have bR:=(Sx.jZ P hl ⟨f,bt args,max fn.ntmps args.length,[.code body],[],none⟩).bg fi h3;have xq:=(Sx.finish P fn.results.toList fr j).le bR mq;exact JR cw cV bR (fun cs=>Fy (b:={(default:Frame) with fn:=f,kind:=.normal,roundOf:=none}) (a:={tmps:=vs++Array.replicate (fn.ntmps - vs.size) undef,defers:=[]}) bX hc hl ⟨rfl,rfl,trivial,rfl,.cons cC .nil⟩ ⟨uX hv _ ir,r,hg,ir,fi⟩ (hf.sub (Nat.le_refl _) xq) h3) mq
theorem Li(bX:P.follows .mixedOrders=true)(hc:dm P B Sy)(hl:∀t a,Sx<|Sy t a){l bl N:Nat}{args:List AV}{vs:Array Value}{x:AV}(fi:aO s)(r:Rel B ρ s.h w)(hg:dN ρ)(hf:bH s.nx s1.nx ρ)(h:qp P Sy l args s= .ok x s1)(hv:aq ρ args vs.toList)(si:ρ l=some (bl,N)):fm P ((Instr.yield bl vs).run P w)<|fM B ρ s s1 w x:=by
 unfold qp at h;obtain⟨o,s2,h1,h2⟩:=M.aI h;obtain⟨h3,st,dA,fn,t,nt,ps,aa,bb,d,rfl⟩:=sR h1;obtain⟨h4,h5⟩:=bM h2;obtain⟨y,s3,h6,h7⟩:=M.aI h5;obtain⟨q1,q2⟩:=and_true.1 h4;have hlen:=cj.1 q1;have DQ:∀p∈ps,p<nt:=fun p hp=>by have:=List.all_eq_true.1 q2 p hp;rw[←blt_eq];exact this
 obtain⟨hx,fA,hh,bj⟩:=dW h3;have bR:aO s2:=(Sx.aY _).bg fi h3;have aS:l<top:=Nat.lt_of_lt_of_le hx fi.nx;obtain⟨o',hb,hO,hB⟩:=r.block aS fA si;obtain⟨ta,db,M,rfl,oO,fR,hd,cr⟩:=hO;have Cc:(Instr.yield bl vs).run P w= .ok (.round bl fn ((ps.zip vs.toList).foldl (fun tmps (t,a)=>tmps.setIfInBounds t a) ta) aa bb) w:=by
  have gb:¬(vs.size≠ps.toArray.size):=by have:=hv.length;simp at this ⊢;omega
  simp only[Instr.yield,Sem.run_bind,sL hb,Result.andThen_ok,if_neg gb,Sem.run_pure];rw[←Array.foldl_toList];simp
 rw[Cc];intro c cs;cases y with
 |go fr=>cases h7
 |leave fr j=>
  have rR:endRound l j s3= .ok x s1:=h7;let b:Frame:={(default:Frame) with fn:=fn,kind:=.normal,roundOf:=some bl};let a:Act:={tmps:=(ps.zip vs.toList).foldl (fun tmps (t,a)=>tmps.setIfInBounds t a) ta,defers:=[]};have eN:=(Sx.jZ P hl ⟨fn,jh ps args t,nt,[.code aa,.beginRound,.code bb],[],some l⟩).bg bR h6;have xr:=(Sx.endRound l j).le eN rR;have aW:Fr ρ ⟨fn,jh ps args t,nt,[.code aa,.beginRound,.code bb],[],some l⟩ b a:=⟨rfl,rfl,⟨N,si⟩,rfl,.cons cr.assign<|.cons trivial<|.cons cr.body .nil⟩;have aB:At B ρ s2 nt (jh ps args t) w a:=⟨AA fR oO hv DQ,by rw[hh];exact r,hg,fR,bR⟩;obtain⟨σ,a',w',e1,e2,e3,e4,_,_,e6,e7⟩:=Fy (cs:=c::cs) bX hc hl aW aB (by rw[bj];exact hf.sub (Nat.le_refl _) xr) h6;have dV:Leaves j fr.todo:=e6;obtain⟨f1,rfl,gz,f2,f3,f4⟩:=EL (P:=P) eN e2.rel (e1.le _ _ si) dV.code rR;refine⟨.bool j.isNone,gz,⟨σ,by rw[f1, ←bj];exact e1,by simp only[VR],f3,e4.trans f4⟩,?_⟩;have jY:Frame.round bl fn ((ps.zip vs.toList).foldl (fun tmps (t,a)=>tmps.setIfInBounds t a) ta) aa bb .normal=b.atR a [.code aa,.beginRound,.code bb]:=rfl;rw[jY];refine Steps.trans e7<|.one ?_;show step P (lone (b.atR a' fr.todo) (c::cs) w')=_;unfold Leaves at dV;split at dV
  ·rw[dV];exact stepR_round_end rfl rfl f2
  ·obtain⟨k,e⟩:=dV;rw[e];exact stepR_round_ret rfl rfl f2
  ·obtain⟨k,e,e'⟩:=dV;rw[e];exact stepR_round_exit rfl rfl e' f2
  ·obtain⟨k,e,e'⟩:=dV;rw[e];exact stepR_round_goto rfl rfl e' f2
  ·cases dV
theorem F5(hP:dp P){sp:Sp}(hs:zJ P B sp){F:Nat->Option (List AV)}(hF:B.F=F):∀(n:Nat),dm P B (br P sp F n)
 |0=>⟨(fun f args x s s1 ρ w vs _ _ _ _ h _=>by cases h),(fun l b N args x s s1 ρ w vs _ _ _ _ h _ _=>by cases h),(fun n o k x s s1 ρ w _ r h=>Gz hF r h)⟩
 |n+1=>by
  have ih:=F5 hP hs hF n;refine⟨fun f args x s s1 ρ w vs fi r hg hf h hv=>?_,fun l b N args x s s1 ρ w vs fi r hg hf h hv hl=>Li hP.mixed ih (sS P hs F n) fi r hg hf h hv hl,(fun n o k x s s1 ρ w _ r h=>Gz hF r h)⟩;have h':gg P sp f (br P sp F n) args s= .ok x s1:=h;rcases F4 (P:=P) sp f with⟨m,e1,e2⟩|e|⟨fn,body,e1,e2,e3,e⟩
  ·rw[e2] at h';exact hs.xy f m e1 _ ih (sS P hs F n) args x s s1 ρ w vs fi r hg hf h' hv
  ·rw[e] at h';cases h'
  ·rw[e] at h';exact LP hP.mixed ih (sS P hs F n) e1 e2 e3 (hP.code f fn body e1 e2) fi r hg hf h' hv
end
end Go.Rn
namespace Go.Rn
open Go.RowKit
def cn(r:Nat->Nat)(x y:AV):Prop:=∀(ρ:ah) (v:Value),VR ρ x v->VR (fun k=>ρ<|r k) y v
def fX(r:Nat->Nat)(x y:U):Prop:=∀(ρ:ah) (N:Nat) (o:Obj),OR ρ N x o->OR (fun k=>ρ<|r k) N y o
def bp(P:Program)(B:aC)(J:Nat)(Q:Tr AV->List Nat->Option Code->AS->Prop)(fr:AF)(s:AS):Prop:=∀(ρ:ah) (w:World) (b:Frame) (a:Act) (cs:List Frame),Fr ρ fr b a->At B ρ s fr.nt fr.tmps w a->(∀k,s.nx<=k->k<top->ρ k=none)->∃(aU:AF) (j:Option Code) (s1:AS) (σ:ah) (a':Act) (w':World),Q aU.tmps aU.defers j s1/\J<=s1.nx/\(∀k,k<J->k<top->σ k=ρ k)/\(∀k x,top<=k->ρ k=some x->σ k=some x)/\(∀k,s1.nx<=k->k<top->σ k=none)/\At B σ s1 fr.nt aU.tmps w' a'/\om σ aU.defers a'.defers/\bh B w w'/\(aU.fn=fr.fn/\aU.nt=fr.nt/\aU.round=fr.round)/\eE aU.todo/\Leaves j aU.todo/\Steps P (lone (b.atR a fr.todo) cs w) (lone (b.atR a' aU.todo) cs w')
section
variable {P:Program} {B:aC} {J:Nat} {Q:Tr AV->List Nat->Option Code->AS->Prop} {ρ:ah} {w:World} {s s1 s2:AS} {Sy:aD} {fr aU:AF} {j:Option Code}
theorem bp.chunk(bX:P.follows .mixedOrders=true)(hc:dm P B Sy)(hl:∀t a,Sx<|Sy t a){k:Nat}(h:cW P Sy k fr s= .ok (.go aU) s1)(h0:J<=s.nx)(H:bp P B J Q aU s1):bp P B J Q fr s:=by intro ρ w b a cs aW aB hf;have fD:=(Sx.cW P hl k fr).le aB.bg h;have DK:=((Sx.cW P hl k fr).bg aB.bg h).nx;obtain⟨σ,a1,w1,e1,e2,e3,e4,⟨e5,e6,e7⟩,e8,_,e9⟩:=yG (b:=b) (cs:=cs) bX hc hl k aW aB (fun k h1 _ h3=>hf k h1 h3) h;have sj:aU.fn=fr.fn:=e5;have dV:aU.nt=fr.nt:=e6;have hH:aU.round=fr.round:=e7;obtain⟨fC,j,s2,τ,a2,w2,q0,qn,q1,DU,q2,q3,q4,q5,⟨q6,q7,q8⟩,q9,Q9,Ra⟩:=H σ w1 b a1 cs ⟨aW.fn.trans sj.symm,aW.kind,by rw[hH];exact aW.round.mono e1.le,e3,e8⟩ (by rw[dV];exact e2) fun k hk ht=>(e1.out k ht<|by omega).trans<|hf k (by omega) ht;exact⟨fC,j,s2,τ,a2,w2,q0,qn,fun k hk dZ=>(q1 k hk dZ).trans (e1.out k dZ<|by omega),fun k x hk hx=>DU k x hk<|e1.le _ _ hx,q2,by rw[←dV];exact q3,q4,e4.trans q5,⟨q6.trans sj,q7.trans dV,q8.trans hH⟩,q9,Q9,Steps.trans e9 Ra⟩
theorem bp.leave(bX:P.follows .mixedOrders=true)(hc:dm P B Sy)(hl:∀t a,Sx<|Sy t a){k:Nat}(h:cW P Sy k fr s= .ok (.leave aU j) s1)(h0:J<=s.nx)(hq:Q aU.tmps aU.defers j s1):bp P B J Q fr s:=by intro ρ w b a cs aW aB hf;have fD:=(Sx.cW P hl k fr).le aB.bg h;have DK:=((Sx.cW P hl k fr).bg aB.bg h).nx;obtain⟨σ,a1,w1,e1,e2,e3,e4,⟨e5,e6,e7⟩,e8,Rb,e9⟩:=yG (b:=b) (cs:=cs) bX hc hl k aW aB (fun k h1 _ h3=>hf k h1 h3) h;exact⟨aU,j,s1,σ,a1,w1,hq,Nat.le_trans h0 fD,fun k hk dZ=>e1.out k dZ (by omega),fun k x _ hx=>e1.le _ _ hx,fun k hk ht=>(e1.out k ht<|by omega).trans<|hf k (by omega) ht,e2,e3,e4,⟨e5,e6,e7⟩,e8,Rb,e9⟩
abbrev fN:=List<|Nat×Nat×List AV
def Marks(fz:fN)(ρ gJ:ah):Prop:=ρ.le gJ/\(∀k,k<top->gJ k=ρ k)/\∀p∈fz,∀b N,ρ p.1=some (b,N)->gJ (hn p.2.1 b 0)≠none
open Classical in
noncomputable def marks(fz:fN)(ρ:ah):ah:=fun k=>if ρ k=none/\∃p∈fz,∃b N,ρ p.1=some (b,N)/\k=hn p.2.1 b 0 then some (0,0) else ρ k
theorem GA(fz:fN)(ρ:ah):Marks fz ρ<|marks fz ρ:=by
 refine⟨fun k x e=>?_,fun k hk=>?_,fun p hp b N e=>?_⟩
 ·unfold marks;rw[if_neg (fun q=>by rw[e] at q;cases q.1)];exact e
 ·unfold marks;rw[if_neg (fun⟨_,p,_,b,N,_,q⟩=>by have:=eR p.2.1 b 0;omega)]
 ·unfold marks;by_cases q:ρ (hn p.2.1 b 0)=none
  ·rw[if_pos ⟨q,p,hp,b,N,e,rfl⟩];exact fun h=>by cases h
  ·rw[if_neg fun z=>q z.1];exact q
theorem F6{fz:fN}{ρ:ah}{k:Nat}(h:marks fz ρ k≠none):ρ k≠none\/∃p∈fz,∃b N,ρ p.1=some (b,N)/\k=hn p.2.1 b 0:=by
 unfold marks at h;split at h
 ·rename_i q;exact .inr q.2
 ·exact .inl h
def ju(fz:fN)(r:Nat->Nat)(x y:AV):Prop:=∀(ρ gJ:ah) (v:Value),Marks fz ρ gJ->VR ρ x v->VR (fun k=>gJ<|r k) y v
def jv(fz:fN)(r:Nat->Nat)(x y:U):Prop:=∀(ρ gJ:ah) (N:Nat) (o:Obj),Marks fz ρ gJ->OR ρ N x o->OR (fun k=>gJ<|r k) N y o
theorem cn.z{fz:fN}{r:Nat->Nat}{x y:AV}(h:cn r x y):ju fz r x y:=fun ρ gJ v m hv=>h gJ v<|VR.mono m.1 _ _ hv
theorem fX.z{fz:fN}{r:Nat->Nat}{x y:U}(h:fX r x y):jv fz r x y:=fun ρ gJ N o m hv=>h gJ N o<|hv.mono m.1
def H5(F:Nat->Option (List AV))(h:Tr U)(p:Nat×Nat×List AV):Prop:=p.1<top/\F p.2.1=some p.2.2/\∃N t z,h.get p.1=some (.cells N t z)/\∀i x,p.2.2[i]? =some x->i<N/\cellAt t z i=some x/\x.bB=true/\∀ρ v,VR ρ x v->VR (dU ρ) x v
def oo(l:List<|AV×AV):Prop:=∀p∈l,∃a b,p=(.int .i64 a,.int .i64 b)
def H6(r:Nat->Nat)(h h2:Tr U)(n:Nat)(o2:U):Prop:=o2.gQ=true\/(r n=n/\h.get n=some o2/\match o2 with
 | .ep=>True
 | .iter m es _ left cur=>r m=m/\h2.get m=some .ep/\oo es/\oo left/\∀x,cur=some x->oo [x]
 |_=>False)
theorem Cg{ρ σ:ah}{l:List<|AV×AV}(hl:oo l){p:AV×AV}(hp:p∈l){a b:Value}(h1:VR ρ p.1 a)(h2:VR ρ p.2 b):VR σ p.1 a/\VR σ p.2 b:=by obtain⟨x,y,rfl⟩:=hl p hp;simp only[VR] at h1 h2 ⊢;exact⟨h1,h2⟩
theorem Hb{ρ σ:ah}:∀{l:List<|AV×AV} {es:List MapEntry} {i:Nat},oo l->eC ρ l es i->eC σ l es i
 |[],_,_,_,k=>k
 |x::l,_,i,hl,k=>by obtain⟨e,es,r,a,b,c,d⟩:=k;obtain⟨a',b'⟩:=Cg hl List.mem_cons_self a b;exact⟨e,es,r,a',b',c,Hb (fun p hp=>hl p<|List.mem_cons_of_mem _ hp) d⟩
theorem BU{ρ σ:ah}:∀{l:List<|AV×AV} {es:List MapEntry},oo l->cq ρ l es->cq σ l es
 |[],_,_,k=>k
 |x::l,_,hl,k=>by obtain⟨e,es,r,a,b,d⟩:=k;obtain⟨a',b'⟩:=Cg hl List.mem_cons_self a b;exact⟨e,es,r,a',b',BU (fun p hp=>hl p<|List.mem_cons_of_mem _ hp) d⟩
theorem LS{ρ σ:ah}{w:World}{n m:Nat}{es left:List<|AV×AV}{ex:Bool}{cur:Option<|AV×AV}(k:hZ ρ w n m es ex left cur)(e1:σ n=ρ n)(e2:σ m=ρ m)(q1:oo es)(q2:oo left)(q3:∀x,cur=some x->oo [x]):hZ σ w n m es ex left cur:=by
 obtain⟨b,N,bm,M,l,aK,seen,h1,h2,h3,h4,h5,h6,h7,⟨l',h8,Rc⟩,h9⟩:=k;refine⟨b,N,bm,M,l,aK,seen,e1.trans h1,e2.trans h2,h3,h4,h5,fun e=>⟨(h6 e).1,Hb q1 (h6 e).2⟩,fun e=>⟨(h7 e).1,?_⟩,⟨l',h8,BU q2 Rc⟩,?_⟩
 ·obtain⟨l2,a,b⟩:=(h7 e).2;exact⟨l2,a,BU q1 b⟩
 ·cases cur with
  |none=>exact h9
  |some x=>obtain⟨e,a,b,c,d⟩:=h9;obtain⟨c',d'⟩:=Cg (q3 x rfl) List.mem_cons_self c d;exact⟨e,a,b,c',d'⟩
theorem Rel.P8{B:aC}{ρ:ah}{h h2:Tr U}{w:World}{r:Nat->Nat}(fz:fN)(R:Rel B ρ h w)(sk:∀k,top<=k->r k=k)(hz:∀p∈fz,H5 B.F h p)(hh:∀n o2,n<top->h2.get n=some o2->r n<top/\H6 r h h2 n o2/\∃o1,h.get (r n)=some o1/\gU o1 o2/\jv fz r o1 o2)(j9:∀p∈fz,∀n o2,n<top->h2.get n=some o2->r n≠p.1)(ud:∀n m o p,n<top->m<top->h2.get n=some o->h2.get m=some p->r n=r m->n=m):Rel B (fun k=>marks fz ρ<|r k) h2 w:=by
 have hm:=GA fz ρ;refine⟨fun n o hn hg=>?_,fun n m o p b N M hn cO hg kr b8 e1 e2=>?_,fun n m es ex left cur hn hg=>?_,R.size,fun i j m es ex left cur dD eW eJ eL hi lv hg kr=>?_,fun n b sh e=>?_,?_⟩
 ·obtain⟨a1,_,o1,a3,a4,a5⟩:=hh n o hn hg;obtain⟨b,N,o',b1,b2,b3,b4⟩:=R.is (r n) o1 a1 a3;exact⟨b,N,o',(hm.2.1 _ a1).trans b1,b2,a5 ρ _ N o' hm b3,fun q=>b4<|a4.1 q⟩
 ·obtain⟨a1,_,o1,a3,a4,_⟩:=hh n o hn hg;obtain⟨c1,_,p1,c3,c4,_⟩:=hh m p cO kr;have e1:marks fz ρ (r n)=some (b,N):=e1;have e2:marks fz ρ (r m)=some (b,M):=e2;rw[hm.2.1 _ a1] at e1;rw[hm.2.1 _ c1] at e2;exact ud n m o p hn cO hg kr<|R.one (r n) (r m) o1 p1 b N M a1 c1 a3 c3 (b8.imp a4.1 c4.1) e1 e2
 ·rcases(hh n _ hn hg).2.1 with q|⟨q1,q2,q3,q4,q5,q6,q7⟩
  ·simp[U.gQ] at q
  ·obtain⟨i1,i2,i3⟩:=R.iter n m es ex left cur hn q2;exact⟨i1,q4,LS i3 (by show marks fz ρ (r n)=_;rw[q1];exact hm.2.1 n hn) (by show marks fz ρ (r m)=_;rw[q3];exact hm.2.1 m i1) q5 q6 q7⟩
 ·rcases(hh i _ hi hg).2.1 with q|⟨_,q2,_⟩
  ·simp[U.gQ] at q
  ·rcases(hh j _ lv kr).2.1 with q'|⟨_,Re,_⟩
   ·simp[U.gQ] at q'
   ·exact R.lone i j m es ex left cur dD eW eJ eL hi lv q2 Re
 ·have e:marks fz ρ (r<|hn n b sh)≠none:=e;rw[sk _<|eR _ _ _] at e;have hle:(dU ρ).le<|dU fun k=>marks fz ρ<|r k:=by
   intro k x e;unfold dU at e ⊢;split at e
   ·rename_i q;rw[if_pos q];show marks fz ρ (r k)=some x;rw[sk k q];exact hm.1 _ _ e
   ·cases e
  rcases F6 e with e|⟨p,hp,b',N,e1,e2⟩
  ·obtain⟨g0,l,c,e',fr,g1,g3,g4,g5⟩:=R.fz n b sh e;refine⟨g0,l,c,e',fr,g1,g3,fun m o N cO hg bY hr=>?_,fun i x hx=>by obtain⟨v,k1,k2,k3⟩:=g5 i x hx;exact⟨v,k1,VR.mono hle _ _ k2,k3⟩⟩;obtain⟨a1,_,o1,a3,a4,_⟩:=hh m o cO hg;exact g4 (r m) o1 N a1 a3 (a4.1 bY) (by have hr:marks fz ρ (r m)=_:=hr;rw[hm.2.1 _ a1] at hr;exact hr)
  ·obtain⟨rfl,rfl,rfl⟩:=B8 e2;obtain⟨z1,z2,N0,t,z,z3,z4⟩:=hz p hp;obtain⟨b1,N1,o',k1,k2,k3,k4⟩:=R.is p.1 _ z1 z3;rw[e1] at k1;cases k1;obtain⟨c,et,rfl,_,_,row⟩:=k3;refine⟨.inr<|k4 rfl,p.2.2,c,et,_,z2,k2,fun m o M cO hg bY hr=>?_,fun i x hx=>?_⟩
   ·obtain⟨a1,_,o1,a3,a4,_⟩:=hh m o cO hg;have hr:marks fz ρ (r m)=_:=hr;rw[hm.2.1 _ a1] at hr;exact j9 p hp m o cO hg<|R.one (r m) p.1 o1 _ _ _ _ a1 z1 a3 z3 (.inl<|a4.1 bY) hr e1
   ·obtain⟨i1,i2,i3,i4⟩:=z4 i x hx;obtain⟨x',v,j1,j2,j3,j4⟩:=row i i1;rw[i2] at j1;cases j1;exact⟨v,by rw[Nat.zero_add];exact j3,VR.mono hle _ _<|i4 _ _ j4,i3⟩
 ·obtain⟨k0,H,k1,k2⟩:=R.tk;have hle:∀m x,top<=m->ρ m=some x->marks fz ρ (r m)=some x:=fun m x eZ e=>by rw[sk m eZ];exact hm.1 _ _ e
  have tok:∀n k v,n<top->h2.get n=some (.tok k v)->r n<top/\h.get (r n)=some (.tok k v):=fun n k v hn hg=>by obtain⟨a1,_,o1,a3,a4,_⟩:=hh n _ hn hg;rw[a4.2.1 rfl] at a3;exact⟨a1,a3⟩
  refine⟨⟨k0.1,fun n o hn hg hf=>?_⟩,fun n=>H<|r n,fun n k v hn hg=>?_,fun n m x k v k' v' hn cO g1 g2 bO=>?_⟩
  ·obtain⟨a1,_,o1,a3,a4,a5⟩:=hh n o hn hg;obtain⟨b,N,e1,e2⟩:=k0.2 (r n) o1 a1 a3<|a4.2.2 hf;exact⟨b,N,(hm.2.1 _ a1).trans e1,e2⟩
  ·obtain⟨a1,a2⟩:=tok n k v hn hg;obtain⟨b,N,c1,c2,c3,c4⟩:=k1 (r n) k v a1 a2;refine⟨b,N,(hm.2.1 _ a1).trans c1,B.mono c2 hle fun _ _=>rfl,c3,fun x hx=>?_⟩;obtain⟨d1,d2,d3,d4⟩:=c4 x hx;refine⟨d1,d2,fun m o M cO kr bY hr=>?_,fun j sh=>?_⟩
   ·obtain⟨e1,_,o1,e3,e4,_⟩:=hh m o cO kr;exact d3 (r m) o1 M e1 e3 (e4.1 bY) (by have hr:marks fz ρ (r m)=_:=hr;rw[hm.2.1 _ e1] at hr;exact hr)
   ·show marks fz ρ (r<|Rn.hn j x sh)=none;rw[sk _<|eR _ _ _];refine Classical.byContradiction fun q=>?_;rcases F6 q with q|⟨p,hp,b',N',e1,e2⟩
    ·exact q<|d4 j sh
    ·obtain⟨_,rfl,_⟩:=B8 e2;obtain⟨z1,_,N0,t,z,z3,_⟩:=hz p hp;exact d3 p.1 _ N' z1 z3 rfl e1
  ·obtain⟨a1,a2⟩:=tok n k v hn g1;obtain⟨a3,a4⟩:=tok m k' v' cO g2;exact k2 (r n) (r m) x k v k' v' a1 a3 a2 a4 fun e=>bO<|ud n m _ _ hn cO g1 g2 e
theorem bp.weaken{t2:Tr AV}(fz:fN)(r:Nat->Nat)(h0:∀k,k<J->r k=k)(h1:∀k,s2.nx<=k->k<top->s.nx<=r k/\r k<top)(sk:∀k,top<=k->r k=k)(hg:fw<=J)(Rf:aO s2)(hd:fr.defers=[])(hr:fr.round=none)(hz:∀p∈fz,H5 B.F s.h p)(ht:∀i y,t2.get i=some y->∃x,fr.tmps.get i=some x/\ju fz r x y)(hh:∀n o2,n<top->s2.h.get n=some o2->r n<top/\H6 r s.h s2.h n o2/\∃o1,s.h.get (r n)=some o1/\gU o1 o2/\jv fz r o1 o2)(j9:∀p∈fz,∀n o2,n<top->s2.h.get n=some o2->r n≠p.1)(ud:∀n m o p,n<top->m<top->s2.h.get n=some o->s2.h.get m=some p->r n=r m->n=m)(H:bp P B J Q {fr with tmps:=t2} s2):bp P B J Q fr s:=by
 intro ρ w b a cs aW aB hf;have hm:=GA fz ρ;have hY:vP (fun k=>marks fz ρ<|r k) fr.round b.roundOf:=by
  have:=aW.round;rw[hr] at this ⊢;cases hb:b.roundOf with
  |none=>trivial
  |some l=>rw[hb] at this;cases this
 have Pe:om (fun k=>marks fz ρ<|r k) fr.defers a.defers:=by have:=aW.defs;rw[hd] at this ⊢;exact this
 have ch:∀k,k<J->k<top->marks fz ρ (r k)=ρ k:=fun k hk dZ=>by rw[h0 k hk];exact hm.2.1 k dZ
 have Pf:dN fun k=>marks fz ρ<|r k:=fun g lB=>by obtain⟨N,e⟩:=aB.g g lB;exact⟨N,(ch g (Nat.lt_of_lt_of_le lB hg)<|Nat.lt_of_lt_of_le lB (by unfold fw top;decide)).trans e⟩
 have oO:TR (fun k=>marks fz ρ<|r k) fr.nt t2 a.tmps:=⟨aB.tr.1,fun i y hy=>by obtain⟨x,e1,e2⟩:=ht i y hy;exact e2 ρ _ _ hm<|aB.tr.2 i x e1⟩;obtain⟨fC,j,s3,τ,a2,w2,q0,qn,q1,DU,q2,q3,q4,q5,q6,q7,q8,q9⟩:=H (fun k=>marks fz ρ<|r k) w b a cs ⟨aW.fn,aW.kind,hY,Pe,aW.ok⟩ ⟨oO,aB.rel.P8 fz sk hz hh j9 ud,Pf,aB.nt,Rf⟩ fun k hk ht=>(hm.2.1 _ (h1 k hk ht).2).trans<|hf _ (h1 k hk ht).1 (h1 k hk ht).2;exact⟨fC,j,s3,τ,a2,w2,q0,qn,fun k hk dZ=>(q1 k hk dZ).trans<|ch k hk dZ,fun k x hk hx=>DU k x hk (by show marks fz ρ (r k)=_;rw[sk k hk];exact hm.1 _ _ hx),q2,q3,q4,q5,q6,q7,q8,q9⟩
end
end Go.Rn
namespace Go.Rn
open Go.RowKit
noncomputable section
def cH:List (Nat×AV)->Tr AV
 |[]=>.nil
 |p::l=>(cH l).put p.1<|some p.2
def jA:List (Nat×Option U)->Tr U
 |[]=>.nil
 |p::l=>(jA l).put p.1 p.2
def ab(l:List<|Nat×Option U)(nx:Nat):AS:=⟨jA l,nx,0,[],[]⟩
def HG(P:Program)(f:FuncId):Code:=
 match P.funcs[f]? with
 |none=>.skip
 |some fn=>match fn.body with
  |none=>.skip
  |some c=>c
def aJ(P:Program)(f:FuncId)(p:List Nat):Code:=lN p<|HG P f
def opsOf:Code->Array Oper
 | .region _ ops _=>ops
 |_=> #[]
def jq(P:Program)(Sy:aD)(nt:Nat)(ops:Array Oper)(i n:Nat)(t:Tr AV):M<|Tr AV:=fj P Sy nt ops ((ops.toList.drop i).take n) t
def oq(ops:Array Oper)(i:Nat):Option<|Op×Option Tmp×Option (Nat×Bool):=
 match ops[i]? with
 |none=>none
 |some o=>some (o.op,o.dst,o.guard)
end
section
variable {P:Program} {B:aC} {J:Nat} {Q:Tr AV->List Nat->Option Code->AS->Prop} {ρ:ah} {w:World} {s s1 s2:AS} {Sy:aD} {t t1 t2:Tr AV} {ops:Array Oper} {nt:Nat}
theorem Bg{o:Oper}{l:List Oper}:fj P Sy nt ops (o::l) t=(di P Sy nt ops o t).bind (fj P Sy nt ops l):=rfl
theorem GB:∀{l1 l2:List Oper} {t t1:Tr AV} {s s1:AS},fj P Sy nt ops l1 t s= .ok t1 s1->fj P Sy nt ops (l1++l2) t s=fj P Sy nt ops l2 t1 s1
 |[],l2,t,t1,s,s1,h=>by cases h;rfl
 |o::l1,l2,t,t1,s,s1,h=>by rw[Bg] at h;obtain⟨t',s',h1,h2⟩:=M.aI h;show fj P Sy nt ops (o::(l1++l2)) t s=_;rw[Bg,M.bo h1];exact GB h2
theorem FA{i n m:Nat}(h1:jq P Sy nt ops i n t s= .ok t1 s1)(h2:jq P Sy nt ops (i+n) m t1 s1= .ok t2 s2):jq P Sy nt ops i (n+m) t s= .ok t2 s2:=by unfold jq at h1 h2 ⊢;rw[List.take_add,GB h1,List.drop_drop];exact h2
theorem FB{i:Nat}{o:Oper}(ho:ops[i]? =some o)(h:di P Sy nt ops o t s= .ok t1 s1):jq P Sy nt ops i 1 t s= .ok t1 s1:=by
 unfold jq;have:(ops.toList.drop i).take 1=[o]:=by
  have h1:ops.toList[i]? =some o:=by rw[Array.getElem?_toList];exact ho
  obtain⟨hi,e⟩:=List.getElem?_eq_some_iff.1 h1;rw[List.drop_eq_getElem_cons hi,e];rfl
 rw[this,Bg,M.bo h];rfl
theorem yH{i:Nat}{op:Op}{d:Option Tmp}{g:Option<|Nat×Bool}(h:oq ops i=some (op,d,g)):∃o,ops[i]? =some o/\o.op=op/\o.dst=d/\o.guard=g:=by
 unfold oq at h;split at h
 ·cases h
 ·rename_i o e;injection h with h
  injection h with h1 h
  injection h with h2 h3
  exact⟨o,e,h1,h2,h3⟩
theorem Rh{i:Nat}{op:Op}{d:Option Tmp}{v:AV}(ho:oq ops i=some (op,d,none))(h:(bz P op).val Sy t s= .ok v s1)(hp:dY nt t d v=some t1):jq P Sy nt ops i 1 t s= .ok t1 s1:=by obtain⟨o,e,rfl,rfl,e3⟩:=yH ho;refine FB e ?_;unfold di re;rw[e3];show ll (bz P o.op) o.dst Sy nt t s=_;unfold ll;rw[M.bo h,hp];rfl
theorem P9{i:Nat}{op:Op}{d:Option Tmp}{g:Nat×Bool}{v:AV}(ho:oq ops i=some (op,d,some g))(hk:lP ops t g.1=true)(hw:jT ops g t=true)(h:(bz P op).val Sy t s= .ok v s1)(hp:dY nt t d v=some t1):jq P Sy nt ops i 1 t s= .ok t1 s1:=by obtain⟨o,e,rfl,rfl,e3⟩:=yH ho;refine FB e ?_;unfold di re;rw[e3];show lY ops g (bz P o.op) o.dst Sy nt t s=_;unfold lY;rw[hk,hw,bC];show((bz P o.op).val Sy t).bind (fun v=>lift<|dY nt t o.dst v) s=_;rw[M.bo h,hp];rfl
theorem FC:∀{l:List<|List AV} {K i:Nat} {c:List AV},(∀c∈l,c.length=K)->l[i]? =some c->(l.flatten.drop<|i*K).take K=c
 |[],_,_,_,_,h=>by simp at h
 |x::l,K,0,c,hl,h=>by simp at h;subst h;have hx:=hl x List.mem_cons_self;rw[Nat.zero_mul,List.drop_zero,List.flatten_cons,List.take_append,hx,Nat.sub_self,List.take_zero,List.append_nil, ←hx,List.take_length]
 |x::l,K,i+1,c,hl,h=>by have hx:=hl x List.mem_cons_self;rw[List.flatten_cons,List.drop_append,hx,show(i+1)*K - K=i*K by rw[Nat.add_mul,Nat.one_mul];omega,List.drop_eq_nil_of_le (by rw[hx,Nat.add_mul,Nat.one_mul];omega),List.nil_append];exact FC (fun c hc=>hl c<|List.mem_cons_of_mem _ hc) (by simpa using h)
end
end Go.Rn
namespace Go.Rn
open Go.RowKit
section
variable {P:Program} {s s1:AS} {Sy:aD} {t:Tr AV}
theorem Nr{op:BinOp}{ty yt:TypeId}{x y:Operand}{k:IntKind}{a b:Int}{r:Bool}(hx:ak t x=some (.int k a))(hy:ak t y=some (.int k b))(hs:kH op=false)(hg:qF P op ty x y (.int k a) (.int k b)=true)(hr:po op k a b=some (.bool r)):
 (bz P<|.binOp op ty x y yt).val Sy t s= .ok (.bool r) s:=by
 show fL P op ty x y Sy t s=_;unfold fL;rw[hx,hy,aP,aP,hg,bC];have:jl P op ty (.int k a) (.int k b)=some (.bool r):=by unfold jl;simp only[hs,decide_true];exact hr
 rw[this];rfl
end
end Go.Rn
namespace Go.Rn
open Go.RowKit
section
variable {P:Program} {B:aC} {J:Nat} {Q:Tr AV->List Nat->Option Code->AS->Prop} {s s1 s2:AS} {Sy:aD} {t t1 t2:Tr AV} {ops:Array Oper} {nt:Nat}
theorem Ns{op:BinOp}{ty yt:TypeId}{x y:Operand}{k:IntKind}{a b:Int}{r:AV}(hx:ak t x=some (.int k a))(hy:ak t y=some (.int k b))(hs:kH op=false)(hg:qF P op ty x y (.int k a) (.int k b)=true)(hr:po op k a b=some r):
 (bz P<|.binOp op ty x y yt).val Sy t s= .ok r s:=by
 show fL P op ty x y Sy t s=_;unfold fL;rw[hx,hy,aP,aP,hg,bC];have:jl P op ty (.int k a) (.int k b)=some r:=by unfold jl;simp only[hs,decide_true];exact hr
 rw[this];rfl
noncomputable def mb(P:Program)(Sy:aD)(nt:Nat)(ops:Array Oper)(i n:Nat)(t:Tr AV):M<|Tr AV×List bI:=gT P Sy nt ops ((ops.toList.drop i).take n) i t
theorem F7:∀{l1 l2:List Oper} {i:Nat} {t t1 t2:Tr AV} {m1 m2:List bI} {s s1 s2:AS},gT P Sy nt ops l1 i t s= .ok (t1,m1) s1->gT P Sy nt ops l2 (i+l1.length) t1 s1= .ok (t2,m2) s2->gT P Sy nt ops (l1++l2) i t s= .ok (t2,m1++m2) s2
 |[],l2,i,t,t1,t2,m1,m2,s,s1,s2,h,k=>by cases h;exact k
 |o::l1,l2,i,t,t1,t2,m1,m2,s,s1,s2,h,k=>by
  have h':((alone i<|di P Sy nt ops o t).bind fun x=>(gT P Sy nt ops l1 (i+1) x.1).bind fun y=>M.pure (y.1,x.2::y.2)) s= .ok (t1,m1) s1:=h;obtain⟨x,sx,e1,e2⟩:=M.aI h';obtain⟨y,sy,e3,e4⟩:=M.aI e2;obtain⟨e5,rfl⟩:=aM e4;injection e5 with e6 e7
  subst e6;subst e7;have:=F7 (i:=i+1) e3 (by rw[show i+1+l1.length=i+(o::l1).length by simp;omega];exact k);show((alone i<|di P Sy nt ops o t).bind fun x=>(gT P Sy nt ops (l1++l2) (i+1) x.1).bind fun y=>M.pure (y.1,x.2::y.2)) s=_;rw[M.bo e1,M.bo this];rfl
theorem GC{i n m N:Nat}{m1 m2:List bI}(hN:ops.size=N)(hi:i+n<=N)(h1:mb P Sy nt ops i n t s= .ok (t1,m1) s1)(h2:mb P Sy nt ops (i+n) m t1 s1= .ok (t2,m2) s2):mb P Sy nt ops i (n+m) t s= .ok (t2,m1++m2) s2:=by unfold mb at h1 h2 ⊢;rw[List.take_add,List.drop_drop];refine F7 h1 ?_;rw[List.length_take,List.length_drop,Array.length_toList,hN,Nat.min_eq_left<|by omega];exact h2
theorem yI:∀{l:List<|Nat×AV} {i:Nat} {y:AV},(∀p∈l,p.1<top)->(cH l).get i=some y->(i,y)∈l
 |[],i,y,_,h=>by have:(Tr.nil:Tr AV).get i=some y:=h;rw[Tr.get_nil] at this;cases this
 |p::l,i,y,hl,h=>by
  have h':((cH l).put p.1<|some p.2).get i=some y:=h;rw[Tr.mK _ _ _ _<|hl p List.mem_cons_self] at h';by_cases e:i=p.1
  ·rw[if_pos e] at h';injection h' with h';subst h';subst e;exact List.mem_cons_self
  ·rw[if_neg e] at h';exact List.mem_cons_of_mem _<|yI (fun q hq=>hl q<|List.mem_cons_of_mem _ hq) h'
theorem o6:∀{l:List<|Nat×Option U} {i:Nat} {y:U},(∀p∈l,p.1<top)->(jA l).get i=some y->(i,some y)∈l
 |[],i,y,_,h=>by have:(Tr.nil:Tr U).get i=some y:=h;rw[Tr.get_nil] at this;cases this
 |p::l,i,y,hl,h=>by
  have h':((jA l).put p.1 p.2).get i=some y:=h;rw[Tr.mK _ _ _ _<|hl p List.mem_cons_self] at h';by_cases e:i=p.1
  ·rw[if_pos e] at h';have:p=(i,some y):=by rw[e, ←h']
   rw[←this];exact List.mem_cons_self
  ·rw[if_neg e] at h';exact List.mem_cons_of_mem _<|o6 (fun q hq=>hl q<|List.mem_cons_of_mem _ hq) h'
theorem cn.same(x:AV):cn (fun k=>k) x x:=fun _ _ h=>h
theorem fX.same(x:U):fX (fun k=>k) x x:=fun _ _ _ h=>h
def n8(t:Tr AV):List (Nat×AV)->Prop
 |[]=>True
 |p::l=>t.get p.1=some p.2/\n8 t l
def ot(h:Tr U):List (Nat×Option U)->Prop
 |[]=>True
 |p::l=>(h.get p.1=p.2/\∀o,p.2=some o->o.gQ=true)/\ot h l
theorem n8.mem{t:Tr AV}:∀{l:List<|Nat×AV},n8 t l->∀p∈l,t.get p.1=some p.2
 |[],_,p,hp=>by cases hp
 |q::l,h,p,hp=>by
  rcases List.mem_cons.1 hp with rfl|hp
  ·exact h.1
  ·exact n8.mem h.2 p hp
theorem ot.mem{h:Tr U}:∀{l:List<|Nat×Option U},ot h l->∀p∈l,h.get p.1=p.2/\∀o,p.2=some o->o.gQ=true
 |[],_,p,hp=>by cases hp
 |q::l,k,p,hp=>by
  rcases List.mem_cons.1 hp with rfl|hp
  ·exact k.1
  ·exact ot.mem k.2 p hp
def jB{α:Type}(n:Nat):List (Nat×α)->Bool
 |[]=>true
 |p::l=>Nat.blt p.1 n&&jB n l
theorem nO{α:Type}{n:Nat}:∀{l:List<|Nat×α},jB n l=true->∀p∈l,p.1<n
 |[],_,p,hp=>by cases hp
 |q::l,h,p,hp=>by
  obtain⟨h1,h2⟩:=and_true.1 h;rcases List.mem_cons.1 hp with rfl|hp
  ·exact(blt_eq _ _).mp h1
  ·exact nO h2 p hp
theorem bp.less{f:FuncId}{K:List Item}{l:List<|Nat×AV}{o:List<|Nat×Option U}{nx:Nat}(hl:jB top l=true)(ho:jB top o=true)(hn:(Nat.ble s.nx nx&&Nat.ble nx top)=true)(hg:fw<=J)(ht:n8 t l)(hh:ot s.h o)(H:bp P B J Q ⟨f,cH l,nt,K,[],none⟩<|ab o nx):bp P B J Q ⟨f,t,nt,K,[],none⟩ s:=by
 obtain⟨mj,iZ⟩:=and_true.1 hn;have mj:=aL.1 mj;have iZ:=aL.1 iZ;refine bp.weaken (s2:=ab o nx) (t2:=cH l) [] (fun k=>k) (fun _ _=>rfl) (fun k hk ht=>⟨Nat.le_trans mj hk,ht⟩) (fun _ _=>rfl) hg ⟨Nat.zero_le _,iZ⟩ rfl rfl (fun _ h=>by cases h) (fun i y hy=>?_) (fun n o2 hn hg=>?_) (fun _ h=>by cases h) (fun n m _ _ _ _ _ _ e=>e) H
 ·have:=yI (fun p hp=>nO hl p hp) hy;exact⟨y,ht.mem _ this,(cn.same y).z⟩
 ·have:=o6 (fun p hp=>nO ho p hp) hg;obtain⟨h1,h2⟩:=hh.mem _ this;exact⟨hn,.inl<|h2 o2 rfl,o2,h1,gU.refl _,(fX.same o2).z⟩
end
end Go.Rn
namespace Go.Rn
open Go.RowKit
section
variable {P:Program} {s s1:AS} {Sy:aD} {t:Tr AV}
theorem AU{l z:List AV}(hl:l.length<=top):∀(k off:Nat),off+k<=l.length->eF (Tr.fill l 0 .nil) z k off=some ((l.drop off).take k)
 |0,off,_=>by simp[eF]
 |k+1,off,h=>by
  have aS:off<l.length:=by omega
  have hc:cellAt (Tr.fill l 0 .nil) z off=some l[off]:=by unfold cellAt;rw[Tr.nK _ _ _ _ (by omega),if_pos (by omega),Nat.sub_zero,List.getElem?_eq_getElem aS]
  simp only[eF,hc,AU hl k (off+1)<|by omega];rw[List.drop_eq_getElem_cons aS,List.take_succ_cons]
noncomputable def aG{α:Type}(enc:α->List AV)(l:List α):U:=.cells (l.map enc).flatten.length (Tr.fill (l.map enc).flatten 0 .nil) []
theorem Nt{o:U}(ht:s.nx<top):cN o s= .ok s.nx {s with h:=s.h.put s.nx<|some o,nx:=s.nx+1}:=by
 obtain⟨hh,nx,mark,rd,wr⟩:=s;have e1:Nat.blt nx top=true:=by rw[blt_eq];exact ht
 show @Bool.rec (fun _=>R Nat) .bad (forced nx fun m=>.ok m ⟨hh.put m<|some o,m+1,mark,rd,wr⟩) (Nat.blt nx top)=_;rw[e1,o3]
theorem yx{l:List AV}(hl:l.length<=top)(h1:l.all AV.bB=true)(ht:s.nx<top):newRow l s= .ok s.nx {s with h:=s.h.put s.nx<|some<|.cells l.length (Tr.fill l 0 .nil) [],nx:=s.nx+1}:=by unfold newRow;rw[show(and (Nat.ble l.length top)<|l.all AV.bB)=true from and_true.2 ⟨aL.2 hl,h1⟩,bC];exact Nt ht
end
end Go.Rn
namespace Go.Rn
open Go.RowKit
end Go.Rn
namespace Go.Rn
open Go.RowKit
noncomputable section
def cI(m:List<|Int×Int):List<|AV×AV:=m.map fun p=>(.int .i64 p.1,.int .i64 p.2)
def ou(m:List<|Int×Int):U:=.map (cI m) m.length
end
def getM:List (Int×Int)->Int->Int
 |[],_=>0
 |p::l,k=>if p.1=k then p.2 else getM l k
def iv:List (Int×Int)->Int->Int->List (Int×Int)
 |[],k,v=>[(k,v)]
 |p::l,k,v=>if p.1=k then(k,v)::l else p::iv l k v
section
variable {P:Program} {s s1:AS} {Sy:aD} {t:Tr AV}
theorem GD(a b:Int):sameKey (.int .i64 a) (.int .i64 b)=some (a == b):=rfl
theorem yJ(k:Int):∀(m:List<|Int×Int) (i:Nat),(dH (.int .i64 k) (cI m) i=some none/\getM m k=0/\∀v,iv m k v=m++[(k,v)])\/
 ∃j y,dH (.int .i64 k) (cI m) i=some (some (i+j,.int .i64 y))/\getM m k=y/\m[j]? =some (k,y)/\∀v,putAt (cI m) j (.int .i64 k) (.int .i64 v)=cI (iv m k v)/\(iv m k v).length=m.length
 |[],i=>.inl ⟨rfl,rfl,fun _=>rfl⟩
 |p::l,i=>by
  have hf:dH (.int .i64 k) (cI<|p::l) i=(match some (k == p.1) with|none=>none|some true=>some (some (i,.int .i64 p.2))|some false=>dH (.int .i64 k) (cI l)<|i+1):=rfl;by_cases e:p.1=k
  ·refine .inr ⟨0,p.2,?_,?_,?_,fun v=>⟨?_,?_⟩⟩
   ·rw[hf,show(k == p.1)=true by simp[e]];rfl
   ·simp[getM,e]
   ·simp[←e]
   ·simp[iv,e,cI,putAt]
   ·simp[iv,e]
  ·have bO:(k == p.1)=false:=by simp;exact fun q=>e q.symm
   rcases yJ k l (i+1) with⟨h1,h2,h3⟩|⟨j,y,h1,h2,h3,h4⟩
   ·refine .inl ⟨?_,?_,fun v=>?_⟩
    ·rw[hf,bO];exact h1
    ·simp[getM,e,h2]
    ·simp[iv,e,h3 v]
   ·refine .inr ⟨j+1,y,?_,?_,?_,fun v=>⟨?_,?_⟩⟩
    ·rw[hf,bO];show dH _ _ _=_;rw[h1];congr 3;omega
    ·simp[getM,e,h2]
    ·simpa using h3
    ·have:=(h4 v).1;simp only[iv,e,if_false];show(_:AV×AV)::putAt (cI l) j _ _=_::cI (iv l k v);rw[this]
    ·simp[iv,e,(h4 v).2]
end
end Go.Rn
namespace Go.Rn
open Go.RowKit
section
variable {r:Nat->Nat}
theorem cn.int(k:IntKind)(n:Int):cn r (.int k n)<|.int k n:=fun _ _ h=>h
theorem cn.bool(b:Bool):cn r (.bool b)<|.bool b:=fun _ _ h=>h
theorem cn.GF:cn r (.slice none 0<|.known 0)<|.slice none 0<|.known 0:=fun _ _ h=>h
theorem cn.ptr{n m o:Nat}(e:r m=n):cn r (.ptr<|some (n,o))<|.ptr<|some (m,o):=by intro ρ v h;simp only[VR] at h ⊢;rw[e];exact h
theorem cn.map{n m:Nat}(e:r m=n):cn r (.map<|some n)<|.map<|some m:=by intro ρ v h;simp only[VR] at h ⊢;rw[e];exact h
theorem cn.slice{n m o len:Nat}{c:bc}(e:r m=n):cn r (.slice (some (n,o)) len c)<|.slice (some (m,o)) len c:=by intro ρ v h;cases c<;>simp only[VR] at h ⊢ <;>rw[e]<;>exact h
theorem cn.b9{n o len:Nat}(e:r n=n)(hr:∀k,top<=k->r k=k):cn r (.b9 n o len)<|.b9 n o len:=by intro ρ v h;simp only[VR] at h ⊢;refine h.imp id fun⟨b,sh,c,h1,h2⟩=>⟨b,sh,c,h1.imp (fun q=>⟨q.1,(congrArg ρ e).trans q.2⟩) fun q=>⟨q.1,fun z=>q.2<|(congrArg ρ<|hr _<|eR _ _ _).symm.trans z⟩,h2⟩
def AV.flat:AV->Bool
 | .bool _| .int _ _| .str _| .oe _=>true
 | .ptr none| .map none| .nilFunc| .nilIface=>true
 | .slice none _ (.known _)=>true
 |_=>false
theorem cn.flat{x:AV}(h:x.flat=true):cn r x x:=by
 intro ρ v k;cases x<;>first|exact k|skip
 case slice a len cap=>cases a with
  |some _=>cases h
  |none=>cases cap with
   |known c=>simp only[VR] at k ⊢;exact k
   |bA _ _=>cases h
   |lost=>cases h
 all_goals first|(cases h;done)|skip
 all_goals
  rename_i a;cases a with
  |none=>exact k
  |some _=>cases h
def kb(r:Nat->Nat):List AV->List AV->Prop
 |[],[]=>True
 |x::l,y::m=>cn r x y/\kb r l m
 |_,_=>False
theorem kb.length:∀{l m:List AV},kb r l m->l.length=m.length
 |[],[],_=>rfl
 |_::_,_::_,h=>by simp[kb.length h.2]
 |[],_::_,h=>by cases h
 |_::_,[],h=>by cases h
theorem kb.I:∀{l m:List AV} {i:Nat} {x y:AV},kb r l m->l[i]? =some x->m[i]? =some y->cn r x y
 |x::l,y::m,0,a,b,h,h1,h2=>by simp at h1 h2;subst h1;subst h2;exact h.1
 |x::l,y::m,i+1,a,b,h,h1,h2=>kb.I h.2 (by simpa using h1) (by simpa using h2)
 |[],[],_,_,_,_,h1,_=>by simp at h1
 |_::_,[],_,_,_,h,_,_=>by cases h
 |[],_::_,_,_,_,h,_,_=>by cases h
theorem kb.flat:∀{l:List AV},l.all AV.flat=true->kb r l l
 |[],_=>trivial
 |x::l,h=>by obtain⟨h1,h2⟩:=and_true.1 (show(x.flat&&l.all AV.flat)=true from h);exact⟨cn.flat h1,kb.flat h2⟩
theorem fX.cells{l m:List AV}(hl:l.length<=top)(h:kb r l m)(h1:m.all AV.bB=true):fX r (.cells l.length (Tr.fill l 0 .nil) [])<|.cells m.length (Tr.fill m 0 .nil) []:=by
 have hlen:=h.length;intro ρ N o k;obtain⟨c,e,rfl,k1,k2,k3⟩:=k;refine⟨c,e,rfl,k1,by omega,fun i hi=>?_⟩;obtain⟨x,v,a1,a2,a3,a4⟩:=k3 i (by omega);have hx:l[i]? =some x:=by unfold cellAt at a1;rw[Tr.nK _ _ _ _ (by omega),if_pos (by omega),Nat.sub_zero,List.getElem?_eq_getElem<|by omega] at a1;rw[List.getElem?_eq_getElem<|by omega];exact a1
 have hy:m[i]? =some m[i]:=List.getElem?_eq_getElem hi;refine⟨m[i],v,?_,?_,a3,h.I hx hy ρ v a4⟩
 ·unfold cellAt;rw[Tr.nK _ _ _ _ (by omega),if_pos (by omega),Nat.sub_zero,hy]
 ·exact List.all_eq_true.1 h1 _<|List.getElem_mem hi
theorem fX.aG{α:Type}{enc:α->List AV}{l:List α}(he:∀x,(enc x).all AV.flat=true/\(enc x).all AV.bB=true)(hl:(l.map enc).flatten.length<=top):fX r (aG enc l)<|aG enc l:=by
 have hf:∀(p:AV->Bool),(∀x,(enc x).all p=true)->∀l:List α,(l.map enc).flatten.all p=true:=by
  intro p hp l;induction l with
  |nil=>rfl
  |cons x l ih=>simp only[List.map_cons,List.flatten_cons,List.all_append,ih,hp x,Bool.and_true]
 exact fX.cells hl (kb.flat<|hf _ (fun x=>(he x).1) l)<|hf _ (fun x=>(he x).2) l
def Pg(r:Nat->Nat)(h:Tr U):List (Nat×U)->Prop
 |[]=>True
 |p::l=>(p.2.plain=true/\∃x,h.get (r p.1)=some x/\(x.bN=p.2.bN/\x.jy=p.2.jy)/\fX r x p.2)/\Pg r h l
def n9:List (Nat×U)->List (Nat×Option U)
 |[]=>[]
 |p::l=>(p.1,some p.2)::n9 l
theorem F8:∀{l:List<|Nat×U} {i:Nat} {y:U},(i,some y)∈n9 l->(i,y)∈l
 |p::l,i,y,h=>by
  rcases List.mem_cons.1 h with h|h
  ·injection h with h1 h2
   injection h2 with h2
   have:p=(i,y):=by rw[h1,h2]
   rw[←this];exact List.mem_cons_self
  ·exact List.mem_cons_of_mem _<|F8 h
variable {P:Program} {B:aC} {Q:Tr AV->List Nat->Option Code->AS->Prop} {s:AS} {t:Tr AV} {nt:Nat}
end
end Go.Rn
namespace Go.Rn
end Go.Rn
namespace Go.Rn
open Go.RowKit
noncomputable section
def fieldsOf(P:Program)(ty:TypeId):List Field:=
 match P.underlying ty with
 |some (.struct fs)=>fs.toList
 |_=>[]
def vA(P:Program)(ty:TypeId):Bool:=
 match P.underlying ty with
 |some (.struct _)=>true
 |_=>false
def qM(P:Program)(xs ys:List AV):List Field->Option (List<|Int×Int)
 |[]=>some []
 |f::l=>match f.name == "_" with
  |true=>none
  |false=>match P.underlying f.type,ia P f.type xs f.offset,ia P f.type ys f.offset with
   |some (.int _),some (.int k a),some (.int k' b)=>match decide (k=k') with
    |true=>match qM P xs ys l with
     |some r=>some<|(a,b)::r
     |none=>none
    |false=>none
   |_,_,_=>none
def allEq(l:List<|Int×Int):Bool:=l.all fun p=>p.1 == p.2
end
section
variable {P:Program} {s s1:AS} {Sy:aD} {t:Tr AV}
theorem Nu{d:Nat}{ty:TypeId}{k i:IntKind}{a b:Int}(hu:P.underlying ty=some (.int i)):fZ P (d+1) ty (.int k a) (.int k b)=some (a == b):=by unfold fZ;rw[hu];simp only[decide_true]
theorem Eu{d:Nat}{xs ys:List AV}:∀{fs:List Field} {l:List<|Int×Int},qM P xs ys fs=some l->eqFields P (fZ P<|d+1) xs ys fs=some (allEq l)
 |[],l,h=>by cases h;rfl
 |f::fs,l,h=>by
  unfold qM at h;split at h
  ·cases h
  ·rename_i hn;split at h
   ·rename_i i k a k' b hu hx hy;split at h
    ·rename_i hk;have gI:k=k':=of_decide_eq_true hk;subst gI;split at h
     ·rename_i r hr;cases h;unfold eqFields;simp only[hn,hx,hy,Nu hu];cases q:a == b with
      |false=>simp only[allEq,List.all_cons,q,Bool.false_and]
      |true=>simp only[allEq,List.all_cons,q,Bool.true_and];exact Eu hr
     ·cases h
    ·cases h
   ·cases h
theorem Hc{d:Nat}{ty:TypeId}{xs ys:List AV}{l:List<|Int×Int}(hu:vA P ty=true)(hs:P.stoodInHeld ty=false)(h:qM P xs ys (fieldsOf P ty)=some l):fZ P (d+2) ty (.agg xs) (.agg ys)=some (allEq l):=by
 unfold vA at hu;split at hu
 ·rename_i fs e;unfold fieldsOf at h;rw[e] at h;unfold fZ;rw[e];simp only[hs];exact Eu h
 ·cases hu
theorem Nv{ty yt:TypeId}{x y:Operand}{xs ys:List AV}{l:List<|Int×Int}{b:Bool}(hx:ak t x=some (.agg xs))(hy:ak t y=some (.agg ys))(hg:qF P .neq ty x y (.agg xs) (.agg ys)=true)(hu:vA P ty=true)(hs:P.stoodInHeld ty=false)(h:qM P xs ys (fieldsOf P ty)=some l)(hb:allEq l=b):
 (bz P<|.binOp .neq ty x y yt).val Sy t s= .ok (.bool<|!b) s:=by
 show fL P .neq ty x y Sy t s=_;unfold fL;rw[hx,hy,aP,aP,hg,bC];have:jl P .neq ty (.agg xs) (.agg ys)=some (.bool<|!b):=by unfold jl;simp only;have e:=Hc (d:=Op.maxDepth - 2) hu hs h;rw[show Op.maxDepth - 2+2=Op.maxDepth from rfl] at e;rw[e,hb]
 rw[this];rfl
theorem Nw{ty yt:TypeId}{x y:Operand}{xs ys:List AV}{l:List<|Int×Int}{b:Bool}(hx:ak t x=some (.agg xs))(hy:ak t y=some (.agg ys))(hg:qF P .eql ty x y (.agg xs) (.agg ys)=true)(hu:vA P ty=true)(hs:P.stoodInHeld ty=false)(h:qM P xs ys (fieldsOf P ty)=some l)(hb:allEq l=b):
 (bz P<|.binOp .eql ty x y yt).val Sy t s= .ok (.bool b) s:=by
 show fL P .eql ty x y Sy t s=_;unfold fL;rw[hx,hy,aP,aP,hg,bC];have:jl P .eql ty (.agg xs) (.agg ys)=some (.bool b):=by unfold jl;simp only;have e:=Hc (d:=Op.maxDepth - 2) hu hs h;rw[show Op.maxDepth - 2+2=Op.maxDepth from rfl] at e;rw[e,hb]
 rw[this];rfl
end
end Go.Rn
namespace Go.Rn
open Go.RowKit
noncomputable section
def Fin(P:Program)(rs:List ResultVar)(R:AV->AS->Prop):Tr AV->List Nat->Option Code->AS->Prop:=fun t d j s=>∃x s3,finish P rs ⟨0,t,0,[],d,none⟩ j s= .ok x s3/\R x s3
end
section
variable {P:Program} {B:aC} {ρ:ah} {w:World} {s s1:AS} {Sy:aD}
theorem yy(rs:List ResultVar)(fr:AF)(j:Option Code):finish P rs fr j=finish P rs ⟨0,fr.tmps,0,[],fr.defers,none⟩ j:=rfl
theorem bp.calls(hP:dp P){g:FuncId}{fn:Func}{body:Code}{args:List AV}{vs:Array Value}{R:AV->AS->Prop}(cw:P.funcs[g]? =some fn)(cV:fn.body=some body)(ir:max fn.ntmps args.length<=top)(H:bp P B s.nx (Fin P fn.results.toList R) ⟨g,bt args,max fn.ntmps args.length,[.code body],[],none⟩ s)(fi:aO s)(r:Rel B ρ s.h w)(hg:dN ρ)(hf:∀k,s.nx<=k->k<top->ρ k=none)(hv:aq ρ args vs.toList):
 Calls P g vs w fun e w'=>∃v x s3,e= .returned v/\R x s3/\s.nx<=s3.nx/\aO s3/\fM B ρ s s3 w x v w':=by
 intro cs;let b:Frame:={(default:Frame) with fn:=g,kind:=.normal,roundOf:=none};let a:Act:={tmps:=vs++Array.replicate (fn.ntmps - vs.size) undef,defers:=[]};have jY:Frame.enter P g vs .normal=b.atR a [.code body]:=by simp[Frame.enter,Frame.atR,cw,cV,b,a]
 have aW:Fr ρ ⟨g,bt args,max fn.ntmps args.length,[.code body],[],none⟩ b a:=⟨rfl,rfl,trivial,rfl,.cons (hP.code g fn body cw cV) .nil⟩;have aB:At B ρ s (max fn.ntmps args.length) (bt args) w a:=⟨uX hv _ ir,r,hg,ir,fi⟩;obtain⟨fr,j,s2,σ,a',w',⟨x,s3,iq,hR⟩,en,e0,DV,e1,e2,e3,e4,e5,e6,e7,e8⟩:=H ρ w b a cs aW aB hf;have CL:finish P fn.results.toList fr j s2= .ok x s3:=by rw[yy];exact iq
 have pX:aO s2:=e2.bg;have Qa:Ext s.nx s2.nx ρ σ:=by
  refine⟨fun k y hk=>?_,fun k dZ hk=>?_⟩
  ·by_cases qt:k<top
   ·by_cases q:s.nx<=k
    ·rw[hf k q qt] at hk;cases hk
    ·rw[e0 k (by omega) qt];exact hk
   ·exact DV k y (by omega) hk
  ·by_cases q:k<s.nx
   ·exact e0 k q dZ
   ·rw[e1 k (by omega) dZ,hf k (by omega) dZ]
 obtain⟨hj,u2,s4,rs,h7,h9,hx⟩:=u0 CL;have gf:aO s4:=(Sx.hJ _).bg pX h7;have hH:Leaves j fr.todo:=e7;obtain⟨d1,d2,w2,d3,d4,d5⟩:=sO (P:=P) (fr:=b) (cs:=cs) pX e2.rel e3 h7;obtain⟨f1,f2,us,f3,f4⟩:=sM (P:=P) (w:=w2) e2.tr gf d3 h9;have eN:aO s3:=(Sx.jP P fr.tmps _).bg gf h9;have nh:Steps P (lone (b.atR a' fr.todo) cs w')<|lone {b.atR a' fr.todo with mode:=.returning} cs w':=by
  rcases hj with rfl|rfl
  ·have e:fr.todo=[]:=hH;rw[e];exact .one<|stepR_end rfl
  ·obtain⟨k,e⟩:=hH;rw[e];exact .one<|stepR_ret rfl
 have j9:=d5 {b.atR a' fr.todo with mode:=.returning} cs (by simp) rfl;have iQ:(results fn a'.tmps).run P w2= .ok (eS us) w2:=by
  unfold results;rw[Array.mapM_eq_mapM_toList];simp only[Sem.run_bind,map_eq_pure_bind,Sem.run_pure];refine Eq.trans (congrArg (fun r:Result (List Value)=>(r.andThen fun a w'=>Result.ok a.toArray w').andThen fun a w'=>Result.ok (if h:a.size=1 then a[0] else Value.tuple a) w') f3) ?_;have:∀l:List Value,(Result.ok (if h:l.toArray.size=1 then l.toArray[0] else Value.tuple l.toArray) w2:Result Value)= .ok (eS l) w2:=by
   intro l
   match l with
   |[]=>rfl
   |[v]=>rfl
   |v::v2::l=>simp[eS]
  exact this us
 have I6:s3.nx=s2.nx:=by rw[f2,d1]
 have hle:s.nx<=s3.nx:=by rw[I6];exact en
 refine⟨.returned<|eS us,w2,{b.atR a' fr.todo with mode:=.returning,defers:=[]},⟨_,x,s3,rfl,hR,hle,eN,?_⟩,?_,rfl,?_⟩
 ·exact⟨σ,by rw[I6];exact Qa,by rw[hx];exact vg f4,by rw[f1];exact d3,e4.trans d4⟩
 ·rw[jY];exact Steps.trans e8<|Steps.trans nh j9
 ·exact⟨rfl,rfl,rfl,fn,cw,iQ⟩
end
end Go.Rn
namespace Go.Rn
variable {P:Program} {Sy:aD} {nt:Nat} {ops:Array Oper} {t t1:Tr AV}
theorem AI{P:Program}{w:World}{f:FuncId}{fn:Func}{body:Code}{vs:Array Value}(cw:P.funcs[f]? =some fn)(cV:fn.body=some body)(dX:(fn.name == "runtime.NumGoroutine")=false):(callFunc f vs).run P w= .ok (.enter f vs) w:=by
 have l4:(program).run P w= .ok P w:=rfl;have hn:fn.name≠ "runtime.NumGoroutine" :=by simpa using dX
 simp only[callFunc,Sem.run_bind,l4,Result.andThen_ok,cw,dX,cV];simp
theorem sU{K:Nat}:∀{l:List<|List AV},(∀c∈l,c.length=K)->l.flatten.length=l.length*K
 |[],_=>by simp
 |c::l,h=>by rw[List.flatten_cons,List.length_append,h c List.mem_cons_self,sU fun c' h'=>h c'<|List.mem_cons_of_mem _ h',List.length_cons,Nat.add_mul,Nat.one_mul];omega
theorem Oe{s:AS}{ty yt:TypeId}{x y:Operand}{k:IntKind}{a b c:Int}(hx:ak t x=some (.int k a))(hy:ak t y=some (.int k b))(h0:b≠0)(h:a.tmod b=c):(bz P<|.binOp .rem ty x y yt).val Sy t s= .ok (.int k c) s:=Ns hx hy rfl rfl (by subst h;simp only[po,decide_eq_false h0])
end Go.Rn
namespace Go.Rn
open Go.RowKit
section
variable {P:Program} {Sy:aD} {nt:Nat} {ops:Array Oper} {t t1:Tr AV}
end
noncomputable section
end
end Go.Rn
namespace Go.Rn
open Go.RowKit
noncomputable section
instance:Inhabited<|Tr AV:=⟨.nil⟩
def Chunk(P:Program)(Sy:aD)(G:AF->AS->Prop):Prop:=∀(k:Nat) (fr aU:AF) (s s1:AS),cW P Sy k fr s= .ok (.go aU) s1->G aU s1->G fr s
def Ev(P:Program)(Sy:aD)(R:AF->Option Code->AS->Prop)(fr:AF)(s:AS):Prop:=∃k aU j s1,cW P Sy k fr s= .ok (.leave aU j) s1/\R aU j s1
def rA(P:Program)(B:aC)(J:Nat)(Q:Tr AV->List Nat->Option Code->AS->Prop)(fr:AF)(s:AS):Prop:=J<=s.nx->bp P B J Q fr s
def ov(P:Program)(Sy:aD)(G:AF->AS->Prop)(f nt:Nat)(K:List Item)(ops:Array Oper)(i:Nat)(t:Tr AV)(s:AS):Prop:=∃t1 s1,jq P Sy nt ops i (ops.size - i) t s= .ok t1 s1/\G ⟨f,t1,nt,K,[],none⟩ s1
def jC(P:Program)(Sy:aD)(G:AF->AS->Prop)(f nt:Nat)(K:List Item)(ops:Array Oper)(acc:List bI)(i:Nat)(t:Tr AV)(s:AS):Prop:=∃t1 ms s1,mb P Sy nt ops i (ops.size - i) t s= .ok (t1,ms) s1/\j0 (Region.before ops) (acc++ms) (acc++ms)=true/\G ⟨f,t1,nt,K,[],none⟩ s1
def wK:Tr U->List (Nat×Option U)->Tr U
 |t,[]=>t
 |t,p::l=>wK (t.put p.1 p.2) l
def zf(s:AS):AS:=⟨s.h,s.nx,s.nx,[],[]⟩
def oa(s s1:AS):AS:=⟨s1.h,s1.nx,s.mark,below s.mark s1.rd++s.rd,below s.mark s1.wr++s.wr⟩
def wM(i:Nat)(s s1:AS):bI:=⟨i,below s.nx s1.rd,below s.nx s1.wr,s.nx,s1.nx⟩
end
section
variable {P:Program} {B:aC} {J:Nat} {Q:Tr AV->List Nat->Option Code->AS->Prop} {s s1:AS} {Sy:aD} {t:Tr AV} {ops:Array Oper} {f nt i:Nat} {K:List Item} {G:AF->AS->Prop} {acc:List bI}
theorem Chunk.xy(bX:P.follows .mixedOrders=true)(hc:dm P B Sy)(hl:∀t a,Sx<|Sy t a):Chunk P Sy<|rA P B J Q:=by intro k fr aU s s1 h H h0 ρ w b a cs aW aB hf;have le:=(Sx.cW P hl k fr).le aB.bg h;exact bp.chunk bX hc hl h h0 (H<|Nat.le_trans h0 le) ρ w b a cs aW aB hf
theorem F9:∀{k m:Nat} {fr aU:AF} {s s1:AS},cW P Sy k fr s= .ok (.go aU) s1->cW P Sy (k+m) fr s=cW P Sy m aU s1
 |0,m,fr,aU,s,s1,h=>by cases h;rw[Nat.zero_add]
 |k+1,m,fr,aU,s,s1,h=>by
  obtain⟨y,s2,h1,h2⟩:=M.aI (show((fx P Sy fr).bind fun x=> @bK.rec (fun _=>M bK) (cW P Sy k) (fun fr j=>M.pure<|.leave fr j) x) s= .ok _ s1 from h);cases y with
  |go ko=>rw[show k+1+m=(k+m)+1 by omega,yU h1];exact F9 h2
  |leave ko j'=>cases h2
theorem Chunk.ev{R:AF->Option Code->AS->Prop}:Chunk P Sy<|Ev P Sy R:=by intro k fr aU s s1 h ⟨m,fC,j,s2,h1,h2⟩;exact⟨k+m,fC,j,s2,by rw[F9 h];exact h1,h2⟩
theorem Chunk.pV(hG:Chunk P Sy G){c:Code}{id:Nat}(tO:c= .region id (opsOf c) false)(H:ov P Sy G f nt K (opsOf c) 0 t s):G ⟨f,t,nt,.code c::K,[],none⟩ s:=by
 obtain⟨t1,s1,h,H⟩:=H;refine hG 1 _ _ _ s1 (yU ?_) H;have ht:((opsOf c).toList.drop 0).take ((opsOf c).size - 0)=(opsOf c).toList:=by rw[List.drop_zero,Nat.sub_zero, ←Array.length_toList,List.take_length]
 unfold jq at h;rw[ht] at h;rw[tO];show((fj P Sy nt (opsOf c) (opsOf c).toList t).bind fun t=>M.pure<|bK.go ⟨f,t,nt,K,[],none⟩) s=_;rw[M.bo h];rfl
theorem Chunk.Qb(hG:Chunk P Sy G){c:Code}{id:Nat}(tO:c= .region id (opsOf c) true)(H:jC P Sy G f nt K (opsOf c) [] 0 t s):G ⟨f,t,nt,.code c::K,[],none⟩ s:=by
 obtain⟨t1,ms,s1,h,hm,H⟩:=H;rw[List.nil_append] at hm;refine hG 1 _ _ _ s1 (yU ?_) H;have ht:((opsOf c).toList.drop 0).take ((opsOf c).size - 0)=(opsOf c).toList:=by rw[List.drop_zero,Nat.sub_zero, ←Array.length_toList,List.take_length]
 unfold mb at h;rw[ht] at h;rw[tO];show((nM P Sy nt (opsOf c) t).bind fun t=>M.pure<|bK.go ⟨f,t,nt,K,[],none⟩) s=_;have:nM P Sy nt (opsOf c) t s= .ok t1 s1:=by unfold nM;rw[M.bo h];show ay (j0 (Region.before<|opsOf c) ms ms) (M.pure t1) s1=_;rw[hm,bC];rfl
 rw[M.bo this];rfl
theorem ov.done(h:Nat.ble ops.size i=true)(H:G ⟨f,t,nt,K,[],none⟩ s):ov P Sy G f nt K ops i t s:=by refine⟨t,s,?_,H⟩;rw[show ops.size - i=0 by have:=aL.1 h;omega];unfold jq;rw[List.take_zero];rfl
theorem jC.done(h:(Nat.ble ops.size i&&j0 (Region.before ops) acc acc)=true)(H:G ⟨f,t,nt,K,[],none⟩ s):jC P Sy G f nt K ops acc i t s:=by obtain⟨h1,h2⟩:=and_true.1 h;refine⟨t,[],s,?_,by rw[List.append_nil];exact h2,H⟩;rw[show ops.size - i=0 by have:=aL.1 h1;omega];unfold mb;rw[List.take_zero];rfl
theorem ov.step{t1:Tr AV}(hn:Nat.blt i ops.size=true)(h:jq P Sy nt ops i 1 t s= .ok t1 s1)(H:ov P Sy G f nt K ops (i+1) t1 s1):ov P Sy G f nt K ops i t s:=by obtain⟨t2,s2,h1,h2⟩:=H;have aS:=(blt_eq _ _).mp hn;refine⟨t2,s2,?_,h2⟩;rw[show ops.size - i=1+(ops.size - (i+1)) by omega];exact FA h h1
theorem jC.step{t1:Tr AV}{ms:List bI}(hn:Nat.blt i ops.size=true)(h:mb P Sy nt ops i 1 t s= .ok (t1,ms) s1)(H:jC P Sy G f nt K ops (acc++ms) (i+1) t1 s1):jC P Sy G f nt K ops acc i t s:=by obtain⟨t2,S3,s2,h1,h2,h3⟩:=H;have aS:=(blt_eq _ _).mp hn;refine⟨t2,_,s2,?_,by rw[←List.append_assoc];exact h2,h3⟩;rw[show ops.size - i=1+(ops.size - (i+1)) by omega];exact GC rfl (by omega) h h1
theorem Hd{op:Op}{d:Option Tmp}{g:Option<|Nat×Bool}(h:oq ops i=some (op,d,g)):Nat.blt i ops.size=true:=by obtain⟨o,e,_⟩:=yH h;rw[blt_eq];exact(Array.getElem?_eq_some_iff.1 e).1
noncomputable def zu(ops:Array Oper)(g:Option<|Nat×Bool)(t:Tr AV):Bool:=
 match g with
 |none=>true
 |some g=>lP ops t g.1&&jT ops g t
theorem Of{op:Op}{d:Option Tmp}{g:Option<|Nat×Bool}{v:AV}{t1:Tr AV}(ho:oq ops i=some (op,d,g))(hw:zu ops g t=true)(h:(bz P op).val Sy t s= .ok v s1)(hp:dY nt t d v=some t1):jq P Sy nt ops i 1 t s= .ok t1 s1:=by
 cases g with
 |none=>exact Rh ho h hp
 |some g=>obtain⟨h1,h2⟩:=and_true.1 (show(lP ops t g.1&&jT ops g t)=true from hw);exact P9 ho h1 h2 h hp
theorem Nx{op:Op}{d:Option Tmp}{g:Option<|Nat×Bool}{v:AV}{t1:Tr AV}(ho:oq ops i=some (op,d,g))(hw:zu ops g t=true)(h:(bz P op).val Sy t (zf s)= .ok v s1)(hp:dY nt t d v=some t1):mb P Sy nt ops i 1 t s= .ok (t1,[wM i s s1]) (oa s s1):=by
 obtain⟨o,e,rfl,rfl,e3⟩:=yH ho;unfold mb;have hl:(ops.toList.drop i).take 1=[o]:=by
  have h1:ops.toList[i]? =some o:=by rw[Array.getElem?_toList];exact e
  obtain⟨hi,e⟩:=List.getElem?_eq_some_iff.1 h1;rw[List.drop_eq_getElem_cons hi,e];rfl
 rw[hl];have ha:di P Sy nt ops o t (zf s)= .ok t1 s1:=by
  unfold di re;rw[e3];cases g with
  |none=>show ll (bz P o.op) o.dst Sy nt t _=_;unfold ll;rw[M.bo h,hp];rfl
  |some g=>obtain⟨h1,h2⟩:=and_true.1 (show(lP ops t g.1&&jT ops g t)=true from hw);show lY ops g (bz P o.op) o.dst Sy nt t _=_;unfold lY;rw[h1,h2,bC];show((bz P o.op).val Sy t).bind (fun v=>lift<|dY nt t o.dst v) _=_;rw[M.bo h,hp];rfl
 have Ri:alone i (di P Sy nt ops o t) s= .ok (t1,wM i s s1) (oa s s1):=by obtain⟨hh,nx,mark,rd,wr⟩:=s;obtain⟨oG,dO,CC,dc,iB⟩:=s1;unfold alone;simp only[o3];show(@R.rec _ (fun _=>R<|Tr AV×bI) .bad (fun a s1=>_)<|di P Sy nt ops o t<|zf ⟨hh,nx,mark,rd,wr⟩)=_;rw[ha];rfl
 show((alone i<|di P Sy nt ops o t).bind fun x=>(gT P Sy nt ops [] (i+1) x.1).bind fun y=>M.pure (y.1,x.2::y.2)) s=_;rw[M.bo Ri];rfl
def C9:BinOp->Int->Int->Option Bool
 | .lss,a,b=>some<|decide<|a<b
 | .leq,a,b=>some<|decide<|a<=b
 | .gtr,a,b=>some<|decide<|a>b
 | .geq,a,b=>some<|decide<|a>=b
 | .eql,a,b=>some<|a == b
 | .neq,a,b=>some<|!(a == b)
 |_,_,_=>none
theorem Og{op:BinOp}{ty yt:TypeId}{x y:Operand}{k:IntKind}{a b:Int}{r:Bool}(hx:ak t x=some (.int k a))(hy:ak t y=some (.int k b))(h:C9 op a b=some r):(bz P<|.binOp op ty x y yt).val Sy t s= .ok (.bool r) s:=by cases op<;>simp only[C9,Option.some.injEq,reduceCtorEq] at h<;>exact Nr hx hy rfl rfl (by subst h;rfl)
theorem rA.start(h:Nat.ble J s.nx=true){fr:AF}(H:rA P B J Q fr s):bp P B J Q fr s:=H<|aL.1 h
theorem MK{g:FuncId}{fn:Func}(h:P.funcs[g]? =some fn)(hb:fn.body.isSome=true):fn.body=some (aJ P g []):=by
 unfold aJ HG;rw[h];simp only[lN];cases e:fn.body with
 |none=>rw[e] at hb;cases hb
 |some c=>rfl
end
end Go.Rn
namespace Go.Rn
open Go.RowKit
theorem Ga{α:Type}(u v:Option α):∀(p q:List Bool) (t:Tr α),p≠q->Tr.gm u p (Tr.gm v q t)=Tr.gm v q (Tr.gm u p t)
 |[],[],_,h=>absurd rfl h
 |[],b::q,t,_=>by
  cases t with
  |nil=>cases b<;>rfl
  |node l x r=>cases b<;>rfl
 |a::p,[],t,_=>by
  cases t with
  |nil=>cases a<;>rfl
  |node l x r=>cases a<;>rfl
 |a::p,b::q,t,h=>by
  have ih:∀t:Tr α,a=b->Tr.gm u p (Tr.gm v q t)=Tr.gm v q (Tr.gm u p t):=fun t e=>Ga u v p q t (fun e2=>h<|by rw[e,e2]);cases t with
  |nil=>cases a<;>cases b<;>simp[Tr.Bt,Tr.u6,ih]
  |node l x r=>cases a<;>cases b<;>simp[Tr.u6,ih]
theorem Bh{α:Type}(u v:Option α):∀(p:List Bool) (t:Tr α),Tr.gm u p (Tr.gm v p t)=Tr.gm u p t
 |[],t=>by cases t<;>rfl
 |a::p,t=>by
  cases t with
  |nil=>cases a<;>simp[Tr.Bt,Tr.u6,Bh u v p]
  |node l x r=>cases a<;>simp[Tr.u6,Bh u v p]
theorem put_comm{α:Type}(t:Tr α)(n m:Nat)(u v:Option α)(hn:n<top)(h:n≠m):(t.put m v).put n u=(t.put n u).put m v:=Ga u v _ _ t fun e=>GW hn (fun e2=>h e2.symm) e.symm
theorem ML{α:Type}(t:Tr α)(n:Nat)(u v:Option α):(t.put n v).put n u=t.put n u:=Bh u v _ t
theorem GG{α:Type}{x:α}:∀(l:List α) (i:Nat) (t:Tr α) (n:Nat),n<i->n<top->(Tr.fill l i t).put n (some x)=Tr.fill l i (t.put n<|some x)
 |[],_,_,_,_,_=>rfl
 |y::l,i,t,n,h,hn=>by show(Tr.fill l (i+1)<|t.put i<|some y).put n (some x)=Tr.fill l (i+1) ((t.put n<|some x).put i<|some y);rw[GG l (i+1) _ n (by omega) hn,put_comm t n i _ _ hn<|by omega]
theorem Gb{α:Type}{x:α}:∀(l:List α) (i k:Nat) (t:Tr α),k<l.length->i+k<top->(Tr.fill l i t).put (i+k) (some x)=Tr.fill (l.set k x) i t
 |[],_,_,_,h,_=>by simp at h
 |y::l,i,0,t,_,h=>by show(Tr.fill l (i+1)<|t.put i<|some y).put i (some x)=Tr.fill l (i+1) (t.put i<|some x);rw[GG l (i+1) _ i (by omega) h,ML]
 |y::l,i,k+1,t,h,ht=>by show(Tr.fill l (i+1)<|t.put i<|some y).put (i+(k+1)) (some x)=Tr.fill (l.set k x) (i+1) (t.put i<|some y);rw[show i+(k+1)=i+1+k by omega];exact Gb l (i+1) k _ (by simpa using h) (by omega)
def pH{α:Type}:List α->Nat->List α->List α
 |l,_,[]=>l
 |l,k,x::r=>pH (l.set k x) (k+1) r
theorem Gc{α:Type}:∀(r l:List α) (k:Nat),k+r.length<=l.length->l.length<=top->Tr.fill r k (Tr.fill l 0 .nil)=Tr.fill (pH l k r) 0 .nil
 |[],_,_,_,_=>rfl
 |x::r,l,k,h,ht=>by simp only[List.length_cons] at h;show Tr.fill r (k+1) ((Tr.fill l 0 .nil).put k<|some x)=Tr.fill (pH (l.set k x) (k+1) r) 0 .nil;have:=Gb (x:=x) l 0 k .nil (by omega) (by omega);rw[Nat.zero_add] at this;rw[this];exact Gc r (l.set k x) (k+1) (by rw[List.length_set];omega) (by rw[List.length_set];exact ht)
theorem BV{α:Type}:∀(r l:List α) (k i:Nat),k+r.length<=l.length->(pH l k r)[i]? =if k<=i/\i<k+r.length then r[i - k]? else l[i]?
 |[],l,k,i,_=>by show l[i]? =_;simp;intro h1 h2;omega
 |x::r,l,k,i,h=>by
  simp only[List.length_cons] at h ⊢;show(pH (l.set k x) (k+1) r)[i]? =_;rw[BV r (l.set k x) (k+1) i (by rw[List.length_set];omega)];by_cases e:i=k
  ·subst e;rw[if_neg (by omega),if_pos (by omega),Nat.sub_self,List.getElem?_set];simp;omega
  ·by_cases q:k+1<=i/\i<k+1+r.length
   ·rw[if_pos q,if_pos<|by omega];obtain⟨j,rfl⟩:∃j,i=k+1+j:=⟨i - (k+1),by omega⟩;rw[show k+1+j - (k+1)=j by omega,show k+1+j - k=j+1 by omega];simp
   ·rw[if_neg q,if_neg (by omega),List.getElem?_set_ne<|by omega]
theorem yV{K:Nat}{β:Type}:∀{L:List<|List β} {i j:Nat},(∀c∈L,c.length=K)->i<L.length->j<K->∀{c:List β},L[i]? =some c->L.flatten[i*K+j]? =c[j]?
 |[],_,_,_,h,_,_,_=>by simp at h
 |x::L,0,j,hL,_,hj,c,hc=>by simp at hc;subst hc;have hx:=hL x List.mem_cons_self;rw[List.flatten_cons,Nat.zero_mul,Nat.zero_add,List.getElem?_append_left<|by omega]
 |x::L,i+1,j,hL,hi,hj,c,hc=>by have hx:=hL x List.mem_cons_self;rw[List.flatten_cons,List.getElem?_append_right (by rw[hx,Nat.add_mul];omega),hx,show(i+1)*K+j - K=i*K+j by rw[Nat.add_mul];omega];exact yV (fun c hc=>hL c<|List.mem_cons_of_mem _ hc) (by simpa using hi) hj (by simpa using hc)
theorem MM{α:Type}{K:Nat}{enc:α->List AV}(he:∀x,(enc x).length=K){l:List α}{i j:Nat}{c c':α}{r:List AV}(hc:l[i]? =some c)(hr:enc c'=pH (enc c) j r)(hj:j+r.length<=K):pH (l.map enc).flatten (i*K+j) r=((l.set i c').map enc).flatten:=by
 have hi:=(List.getElem?_eq_some_iff.1 hc).1;have fp:∀(l:List α),∀c∈l.map enc,c.length=K:=fun l c hc=>by obtain⟨x,_,rfl⟩:=List.mem_map.1 hc;exact he x
 have uF:∀l:List α,(l.map enc).flatten.length=l.length*K:=fun l=>by rw[sU<|fp l,List.length_map]
 have hmul:i*K+K<=l.length*K:=by have:=Nat.mul_le_mul_right K hi;rw[Nat.succ_mul] at this;exact this
 apply List.ext_getElem?;intro m;rw[BV _ _ _ _ (by rw[uF];omega)];by_cases hm:m<l.length*K
 ·have hK:0<K:=by
   cases K with
   |zero=>simp at hm
   |succ k=>omega
  have hq:m / K<l.length:=by rw[Nat.div_lt_iff_lt_mul hK];exact hm
  have Al:m=m / K*K+m % K:=by rw[Nat.mul_comm];exact(Nat.div_add_mod m K).symm
  have ID:m % K<K:=Nat.mod_lt _ hK;have hold:(l.map enc).flatten[m]? =(enc<|l[m / K]'hq)[m % K]? :=by
   conv=>lhs;rw[Al]
   exact yV (fp l) (by rw[List.length_map];exact hq) ID (by rw[List.getElem?_map,List.getElem?_eq_getElem hq];rfl)
  have cZ:m / K<(l.set i c').length:=by rw[List.length_set];exact hq
  have iR:((l.set i c').map enc).flatten[m]? =(enc<|(l.set i c')[m / K]'cZ)[m % K]? :=by
   conv=>lhs;rw[Al]
   exact yV (fp _) (by rw[List.length_map];exact cZ) ID (by rw[List.getElem?_map,List.getElem?_eq_getElem cZ];rfl)
  rw[iR,hold];by_cases e:m / K=i
  ·have cA:l[m / K]'hq=c:=by
    have:l[m / K]? =some c:=by rw[e];exact hc
    rw[List.getElem?_eq_getElem hq] at this;injection this
   have xz:(l.set i c')[m / K]'cZ=c':=by simp[e]
   rw[xz,cA,hr,BV _ _ _ _ (by rw[he];exact hj)];have SR:m=i*K+m % K:=by rw[e] at Al;exact Al
   by_cases q:j<=m % K/\m % K<j+r.length
   ·rw[if_pos (by omega),if_pos q];congr 1;omega
   ·rw[if_neg (by intro q2;apply q;omega),if_neg q]
  ·have xz:(l.set i c')[m / K]'cZ=l[m / K]'hq:=by rw[List.getElem_set_ne fun e2=>e e2.symm]
   rw[xz,if_neg];intro q;apply e;have h1:m<(i+1)*K:=by rw[Nat.add_mul];omega
   have h2:i*K<=m:=by omega
   have h3:=(Nat.le_div_iff_mul_le hK).2 h2;have h4:=(Nat.div_lt_iff_lt_mul hK).2 h1;omega
 ·rw[if_neg (by omega),List.getElem?_eq_none (by rw[uF];omega),List.getElem?_eq_none (by rw[uF,List.length_set];omega)]
noncomputable section
def aV(n:Nat)(s:AS):AS:= @Bool.rec (fun _=>AS) s ⟨s.h,s.nx,s.mark,n::s.rd,s.wr⟩<|Nat.blt n s.mark
def fS(n:Nat)(o:Option U)(s:AS):AS:= @Bool.rec (fun _=>AS) ⟨s.h.put n o,s.nx,s.mark,s.rd,s.wr⟩ ⟨s.h.put n o,s.nx,s.mark,n::s.rd,n::s.wr⟩<|Nat.blt n s.mark
end
section
variable {P:Program} {s:AS} {Sy:aD} {t:Tr AV}
theorem jV{n:Nat}{o:U}(h1:Nat.blt n s.nx=true)(h2:s.h.get n=some o):aY n s= .ok o (aV n s):=by obtain⟨hh,nx,mark,rd,wr⟩:=s;have e1:Nat.blt n nx=true:=h1;have e2:hh.get n=some o:=h2;show @Bool.rec (fun _=>R U) .bad (@Option.rec U (fun _=>R U) .bad (fun o=> @Bool.rec (fun _=>R U) (.ok o ⟨hh,nx,mark,rd,wr⟩) (.ok o ⟨hh,nx,mark,n::rd,wr⟩)<|Nat.blt n mark)<|hh.get n) (Nat.blt n nx)=_;rw[e1,e2];show @Bool.rec (fun _=>R U) (.ok o ⟨hh,nx,mark,rd,wr⟩) (.ok o ⟨hh,nx,mark,n::rd,wr⟩) (Nat.blt n mark)= .ok o (@Bool.rec (fun _=>AS) ⟨hh,nx,mark,rd,wr⟩ ⟨hh,nx,mark,n::rd,wr⟩<|Nat.blt n mark);cases Nat.blt n mark<;>rfl
theorem gk(n:Nat)(s:AS):(aV n s).h=s.h/\(aV n s).nx=s.nx/\(aV n s).mark=s.mark:=by unfold aV;cases Nat.blt n s.mark<;>exact⟨rfl,rfl,rfl⟩
theorem qN{n:Nat}{o:Option U}{p:U}(h1:Nat.blt n s.nx=true)(h2:s.h.get n=some p)(h3:p.bN=false)(ht:Nat.blt n top=true):aZ n o s= .ok () (fS n o s):=by obtain⟨hh,nx,mark,rd,wr⟩:=s;have e1:(Nat.blt n nx&&Nat.blt n top)=true:=and_true.2 ⟨h1,ht⟩;have e2:hh.get n=some p:=h2;show @Bool.rec (fun _=>R Unit) .bad (@Option.rec U (fun _=>R Unit) .bad (fun p=> @Bool.rec (fun _=>R Unit) (@Bool.rec (fun _=>R Unit) (.ok () ⟨hh.put n o,nx,mark,rd,wr⟩) (.ok () ⟨hh.put n o,nx,mark,n::rd,n::wr⟩)<|Nat.blt n mark) .bad p.bN)<|hh.get n) (Nat.blt n nx&&Nat.blt n top)=_;rw[e1,e2];show @Bool.rec (fun _=>R Unit) (@Bool.rec (fun _=>R Unit) (.ok () ⟨hh.put n o,nx,mark,rd,wr⟩) (.ok () ⟨hh.put n o,nx,mark,n::rd,n::wr⟩)<|Nat.blt n mark) .bad p.bN=_;rw[h3];show @Bool.rec (fun _=>R Unit) (.ok () ⟨hh.put n o,nx,mark,rd,wr⟩) (.ok () ⟨hh.put n o,nx,mark,n::rd,n::wr⟩) (Nat.blt n mark)= .ok () (@Bool.rec (fun _=>AS) ⟨hh.put n o,nx,mark,rd,wr⟩ ⟨hh.put n o,nx,mark,n::rd,n::wr⟩<|Nat.blt n mark);cases Nat.blt n mark<;>rfl
theorem te{α:Type}{K:Nat}{enc:α->List AV}(he:∀x,(enc x).length=K)(l:List α):(l.map enc).flatten.length=l.length*K:=by rw[sU (K:=K) (fun c hc=>by obtain⟨x,_,rfl⟩:=List.mem_map.1 hc;exact he x),List.length_map]
theorem He{α:Type}{K:Nat}{enc:α->List AV}(he:∀x,(enc x).length=K){l:List α}{i j k:Nat}{c:α}(hc:l[i]? =some c)(hj:j+k<=K):i*K+j+k<=(l.map enc).flatten.length/\((l.map enc).flatten.drop<|i*K+j).take k=((enc c).drop j).take k:=by
 have hi:=(List.getElem?_eq_some_iff.1 hc).1;have hmul:i*K+K<=l.length*K:=by have:=Nat.mul_le_mul_right K hi;rw[Nat.succ_mul] at this;exact this
 refine⟨by rw[te he];omega,?_⟩;apply List.ext_getElem?;intro m;rw[List.getElem?_take,List.getElem?_take];split
 ·rename_i hm;rw[List.getElem?_drop,List.getElem?_drop,Nat.add_assoc];exact yV (fun c hc=>by obtain⟨x,_,rfl⟩:=List.mem_map.1 hc;exact he x) (by rw[List.length_map];exact hi) (by omega) (by rw[List.getElem?_map,hc];rfl)
 ·rfl
noncomputable def wO(op:BinOp)(k:IntKind)(a b:Int):Int:=
 match op with
 | .and=>k.wrap (BitVec.ofInt k.bits a&&& BitVec.ofInt k.bits b).toNat
 | .or=>k.wrap (BitVec.ofInt k.bits a|||BitVec.ofInt k.bits b).toNat
 | .xor=>k.wrap (BitVec.ofInt k.bits a ^^^ BitVec.ofInt k.bits b).toNat
 | .andNot=>k.wrap (BitVec.ofInt k.bits a&&& ~~~BitVec.ofInt k.bits b).toNat
 | .shl=>k.wrap<|a*2 ^ min b.toNat k.bits
 | .shr=>a.fdiv<|2 ^ min b.toNat k.bits
 |_=>0
theorem MN{op:BinOp}{ty yt:TypeId}{x y:Operand}{k k':IntKind}{a b:Int}(h0:(ak t x,ak t y,kH op)=(some<|.int k a,some<|.int k' b,true))(hb:0<=b):(bz P<|.binOp op ty x y yt).val Sy t s= .ok (.int k<|wO op k a b) s:=by
 injection h0 with hx h0
 injection h0 with hy hs
 show fL P op ty x y Sy t s=_;unfold fL;have hd:decide (b<0)=false:=decide_eq_false (by omega);cases op<;>first|(cases hs;done)|skip
 all_goals rw[hx,hy,aP,aP];show(ay true <| lift<|jl P _ ty (.int k a)<|.int k' b) s=_;rw[bC];unfold jl;simp only[kH];unfold yQ;rw[hd];rfl
end
end Go.Rn
namespace Go.Rn
def Oh(ops:Array Oper):Bool:=ops.toList.zipIdx.all fun x=>x.1.after.toList.all fun e=> !Region.binds .any e||decide (e.on<x.2)
def CM(ops:Array Oper)(x y:Oper):Bool:=
 match x.dst with
 |none=>false
 |some d=>(y.looksAt ops).contains d||y.dst == some d
def Oi(ops:Array Oper)(b:Array Nat):Bool:=ops.toList.zipIdx.all fun x=>ops.toList.zipIdx.all fun y=> !(CM ops x.1 y.1)||(Nat.beq x.2 y.2|| !loose b x.2 y.2)
def Da(ops:Array Oper):Bool:=Oh ops&&Oi ops (CheckFast.beforeF ops)
def lO:Code->Bool
 | .seq a b=>lO a&&lO b
 | .cond _ a b=>lO a&&lO b
 | .block _ b=>lO b
 | .loop b=>lO b
 | .scope b=>lO b
 | .region _ ops draw=> !draw||Da ops
 | .rangeFunc _ _ a b=>lO a&&lO b
 |_=>true
def Ph(P:Program):Bool:=P.funcs.toList.all fun fn=>match fn.body with
 |none=>true
 |some c=>lO c
theorem A3{ops:Array Oper}{i:Nat}{o:Oper}(h:ops[i]? =some o):(o,i)∈ops.toList.zipIdx:=by rw[List.mem_zipIdx_iff_getElem?];simpa using h
theorem Ny{ops:Array Oper}(h:Da ops=true):zk ops:=by
 unfold Da at h;obtain⟨h1,h2⟩:=Bool.and_eq_true_iff.1 h;rw[CheckFast.beforeF_eq] at h2;refine⟨fun j o e ho hm hb=>?_,fun i j x y d dq hx hy hd b8=>?_⟩
 ·have:=List.all_eq_true.1 (List.all_eq_true.1 h1 _<|A3 ho) e<|Array.mem_toList_iff.2 hm;simp only[hb,Bool.not_true,Bool.false_or,decide_eq_true_eq] at this;exact this
 ·have:=List.all_eq_true.1 (List.all_eq_true.1 h2 _<|A3 hx) _<|A3 hy;have hc:CM ops x y=true:=by
   unfold CM;rw[hd];simp only[Bool.or_eq_true,beq_iff_eq];rcases b8 with q|q
   ·exact .inl<|List.contains_iff_mem.2 q
   ·exact .inr q
  simp only[hc,Bool.not_true,Bool.false_or,Bool.or_eq_true,Bool.not_eq_true'] at this;rcases this with q|q
  ·exact absurd (Nat.beq_eq.mp q) dq
  ·exact q
theorem Lj:∀{c:Code},lO c=true->dx c:=by
 intro c;induction c with
 |seq a b rJ rK=>intro h;obtain⟨h1,h2⟩:=Bool.and_eq_true_iff.1 h;exact⟨rJ h1,rK h2⟩
 |cond _ a b rJ rK=>intro h;obtain⟨h1,h2⟩:=Bool.and_eq_true_iff.1 h;exact⟨rJ h1,rK h2⟩
 |block _ b ih=>intro h;exact ih h
 |loop b ih=>intro h;exact ih h
 |scope b ih=>intro h;exact ih h
 |region id ops draw=>intro h hd;subst hd;exact Ny h
 |rangeFunc _ _ a b rJ rK=>intro h;obtain⟨h1,h2⟩:=Bool.and_eq_true_iff.1 h;exact⟨rJ h1,rK h2⟩
 |_=>intro _;trivial
theorem Sv{P:Program}(hm:P.follows .mixedOrders=true)(h:Ph P=true):dp P:=by refine⟨hm,fun f fn body hf hb=>?_⟩;have:=List.all_eq_true.1 h fn (List.mem_of_getElem?<|by simpa using hf);rw[hb] at this;exact Lj this
end Go.Rn
namespace Go.Rn
open Go.RowKit
noncomputable section
end
end Go.Rn
namespace Go.Rn
open Go.RowKit
noncomputable section
end
section
variable {P:Program} {s s1:AS} {Sy:aD} {t:Tr AV}
end
end Go.Rn
namespace Go.Rn
end Go.Rn
namespace Go.Rn
open Go.RowKit
theorem Nz(k:IntKind)(lo hi:Int)(n:Int)(h:lo<=n/\n<=hi)(hk:(k.signed=true/\lo= -(2 ^ (k.bits - 1):Int)/\hi=(2 ^ (k.bits - 1):Int) - 1/\(2 ^ k.bits:Int)=2*(2 ^ (k.bits - 1):Int)/\(0:Int)<(2 ^ (k.bits - 1):Int))\/(k.signed=false/\lo=0/\hi=(2 ^ k.bits:Int) - 1)):IntKind.wrap k n=n:=by
 unfold IntKind.wrap;rcases hk with⟨hs,h1,h2,h3,h4⟩|⟨hs,h1,h2⟩
 ·simp only[hs,Bool.true_and,decide_eq_true_eq];subst h1;subst h2;rw[h3];generalize (2 ^ (k.bits - 1):Int)=p at*;by_cases q:0<=n
  ·have:n % (2*p)=n:=Int.emod_eq_of_lt q (by omega);rw[this,if_neg<|by omega]
  ·have:n % (2*p)=n+2*p:=by rw[←Int.add_emod_right,Int.emod_eq_of_lt (by omega)<|by omega]
   rw[this,if_pos<|by omega];omega
 ·simp only[hs,Bool.false_and];subst h1;subst h2;have:n % (2 ^ k.bits:Int)=n:=Int.emod_eq_of_lt h.1 (by omega);simp[this]
theorem Kr{n:Int}(h: -9223372036854775808<=n/\n<=9223372036854775807):IntKind.wrap .i64 n=n:=Nz .i64 _ _ n h<|.inl ⟨rfl,by decide,by decide,by decide,by decide⟩
section
variable {P:Program} {s s1:AS} {Sy:aD} {t:Tr AV}
end
def AV.bV(x:AV):Bool:=match x with
 | .b9 n _ _=>Nat.ble top n
 |x=>x.flat
def AV.pY(x:AV):Bool:=match x with
 | .agg l=>l.all AV.bV
 |x=>x.bV
def AV.hi(x:AV):Bool:=match x with
 | .agg l=>l.all AV.bV
 | .tuple l=>l.all AV.pY
 |x=>x.bV
def iT(ρ σ:ah):Prop:=∀k x,top<=k->ρ k=some x->σ k=some x
theorem kS.hi{ρ σ:ah}(h:iT ρ σ){n b sh:Nat}(ht:top<=n)(k:kS ρ n b sh):kS σ n b sh:=.inr ⟨ht,fun e=>k.high ht (by
 cases q:ρ (hn n b sh) with
 |none=>rfl
 |some x=>rw[h _ _ (eR _ _ _) q] at e;cases e)⟩
theorem VR.flat{ρ σ:ah}{x:AV}{v:Value}(h:x.flat=true)(k:VR ρ x v):VR σ x v:=by
 cases x<;>first|(simp only[VR] at k ⊢;exact k)|(cases h;done)|skip
 case slice a len cap=>cases a with
  |some _=>cases h
  |none=>cases cap with
   |known c=>simp only[VR] at k ⊢;exact k
   |bA _ _=>cases h
   |lost=>cases h
 all_goals
  rename_i a;cases a with
  |none=>simp only[VR] at k ⊢;exact k
  |some _=>cases h
theorem AV.tE{ρ σ:ah}(eY:iT ρ σ){x:AV}{v:Value}(h:x.bV=true)(k:VR ρ x v):VR σ x v:=by
 unfold AV.bV at h;split at h
 ·have ht:=aL.1 h;simp only[VR] at k ⊢;exact k.imp id fun⟨b,sh,c,q1,q2⟩=>⟨b,sh,c,q1.hi eY ht,q2⟩
 ·exact VR.flat h k
theorem AV.BW{ρ σ:ah}(eY:iT ρ σ):∀{l:List AV} {vs:List Value},l.all AV.bV=true->aq ρ l vs->aq σ l vs
 |[],_,_,hv=>by simpa only[aq] using hv
 |y::l,vs,hy,hv=>by obtain⟨h1,h2⟩:=and_true.1 (show(y.bV&&l.all AV.bV)=true from hy);simp only[aq] at hv ⊢;obtain⟨a,as,e,h3,h4⟩:=hv;exact⟨a,as,e,AV.tE eY h1 h3,AV.BW eY h2 h4⟩
theorem AV.Oj{ρ σ:ah}(eY:iT ρ σ){x:AV}{v:Value}(h:x.pY=true)(k:VR ρ x v):VR σ x v:=by
 unfold AV.pY at h;split at h
 ·simp only[VR] at k ⊢;obtain⟨a,e,q⟩:=k;exact⟨a,e,AV.BW eY h q⟩
 ·exact AV.tE eY h k
theorem AV.Hf{ρ σ:ah}(eY:iT ρ σ):∀{l:List AV} {vs:List Value},l.all AV.pY=true->aq ρ l vs->aq σ l vs
 |[],_,_,hv=>by simpa only[aq] using hv
 |y::l,vs,hy,hv=>by obtain⟨h1,h2⟩:=and_true.1 (show(y.pY&&l.all AV.pY)=true from hy);simp only[aq] at hv ⊢;obtain⟨a,as,e,h3,h4⟩:=hv;exact⟨a,as,e,AV.Oj eY h1 h3,AV.Hf eY h2 h4⟩
theorem AV.tP{ρ σ:ah}(eY:iT ρ σ){x:AV}{v:Value}(h:x.hi=true)(k:VR ρ x v):VR σ x v:=by
 unfold AV.hi at h;split at h
 ·simp only[VR] at k ⊢;obtain⟨a,e,q⟩:=k;exact⟨a,e,AV.BW eY h q⟩
 ·simp only[VR] at k ⊢;obtain⟨a,e,q⟩:=k;exact⟨a,e,AV.Hf eY h q⟩
 ·exact AV.tE eY h k
theorem AV.Ch{ρ σ:ah}(eY:iT ρ σ):∀{l:List AV} {vs:List Value},l.all AV.hi=true->aq ρ l vs->aq σ l vs
 |[],_,_,hv=>by simpa only[aq] using hv
 |y::l,vs,hy,hv=>by obtain⟨h1,h2⟩:=and_true.1 (show(y.hi&&l.all AV.hi)=true from hy);simp only[aq] at hv ⊢;obtain⟨a,as,e,h3,h4⟩:=hv;exact⟨a,as,e,AV.tP eY h1 h3,AV.Ch eY h2 h4⟩
theorem Ol{ρ:ah}:iT ρ<|dU ρ:=fun k x hk e=>by unfold dU;rw[if_pos hk];exact e
end Go.Rn
namespace Go.Rn
open Go.RowKit
def ue(sp:Sp)(g:FuncId)(m:aD->List AV->M AV):Sp:=fun f=>bif Nat.beq f g then some m else sp f
theorem FD{sp:Sp}{g:FuncId}{m m':aD->List AV->M AV}{f:FuncId}(h:ue sp g m f=some m'):(f=g/\m'=m)\/sp f=some m':=by
 unfold ue at h;cases e:Nat.beq f g with
 |true=>rw[e] at h;injection h with h;exact .inl ⟨Nat.eq_of_beq_eq_true e,h.symm⟩
 |false=>rw[e] at h;exact .inr h
end Go.Rn
namespace Go.Rn
end Go.Rn
namespace Go.Rn
open Go.RowKit
section
variable {P:Program} {B:aC} {ρ:ah} {w:World} {s s1:AS}
end
end Go.Rn
namespace Go.Rn
open Go.RowKit
noncomputable section
def kU(J:Nat)(h0:Tr U)(ns:List Nat)(s:AS):AS:=match fV J h0 ns s with| .ok _ s1=>s1| .bad=>s
def wP(J:Nat)(h0:Tr U)(ns:List Nat)(s:AS):Bool:=match fV J h0 ns s with| .ok _ _=>true| .bad=>false
end
theorem vQ{J:Nat}{h0:Tr U}{ns:List Nat}{s:AS}(h:wP J h0 ns s=true):fV J h0 ns s= .ok () (kU J h0 ns s):=by
 unfold wP at h;unfold kU;cases e:fV J h0 ns s with
 |bad=>rw[e] at h;cases h
 |ok u s1=>rfl
section
variable {P:Program} {s s1:AS} {Sy:aD} {t:Tr AV}
theorem LU{ty yt:TypeId}{x y:Operand}{a b:ByteArray}{n m:Nat}(h0:(ak t x,ak t y)=(some<|.str a,some<|.str b))(ha:a.size<=n)(hb:b.size<=m)(hr:Nat.ble (n+m) room=true):(bz P<|.binOp .add ty x y yt).val Sy t s= .ok (.str<|a++b) s:=by
 injection h0 with hx hy
 show fL P .add ty x y Sy t s=_;unfold fL;rw[hx,hy,aP,aP];show ay true (lift<|jl P .add ty (.str a)<|.str b) s=_;rw[bC];have hle:Nat.ble (a.size+b.size) room=true:=aL.2<|Nat.le_trans (Nat.add_le_add ha hb)<|aL.1 hr;show lift (match Nat.ble (a.size+b.size) room with|true=>some (AV.str<|a++b)|false=>none) s=_;rw[hle];rfl
theorem Lk{ty yt:TypeId}{x y:Operand}{a b:ByteArray}(h0:(ak t x,ak t y)=(some<|.str a,some<|.str b))(h:a=b):(bz P<|.binOp .eql ty x y yt).val Sy t s= .ok (.bool true) s:=by
 injection h0 with hx hy
 subst h;show fL P .eql ty x y Sy t s=_;unfold fL;rw[hx,hy,aP,aP];show ay true (lift<|some<|AV.bool<|a.toList == a.toList) s=_;rw[bC,beq_self_eq_true];rfl
end
theorem Ks{a:Option<|Nat×Nat}{n:Nat}{c:bc}{sep:ByteArray}{s s1:AS}{l:List AV}{ts:List<|List UInt8}{m:Nat}(h1:Nat.ble n (eG n c)=true)(h2:firstCells 1 n (.slice a n c) s= .ok l s1)(h3:qK l=some ts)(h4:(lH sep.data.toList ts).length+n<=1048576):
 nN [.slice a n c,.str sep] s= .ok (.str ⟨(lH sep.data.toList ts).toArray⟩) s1:=by
 unfold nN;show((eV<|Nat.ble n<|eG n c).bind fun _=>(firstCells 1 n<|.slice a n c).bind fun l=>(lift<|qK l).bind fun ts=>(eV<|Nat.ble ((lH sep.data.toList ts).length+n) 1048576).bind fun _=>M.pure<|AV.str ⟨(lH sep.data.toList ts).toArray⟩) s=_;rw[h1];rw[M.bo (show eV true s= .ok () s from rfl),M.bo h2,M.bo (show lift (qK l) s1= .ok ts s1 by rw[h3];rfl),aL.2 h4,M.bo (show eV true s1= .ok () s1 from rfl)];rfl
theorem LV{P:Program}{F:Nat->Option (List AV)}{sp:Sp}{g:FuncId}(h:sp g=some (fun _ args=>nN args)){n:Nat}{a:Option<|Nat×Nat}{k:Nat}{c:bc}{sep:ByteArray}{s s1:AS}{l:List AV}{ts:List<|List UInt8}(h0:(Nat.ble k<|eG k c,firstCells 1 k (.slice a k c) s,qK l)=(true,.ok l s1,some ts))(h4:(lH sep.data.toList ts).length+k<=1048576):
 br P sp F (n+1) (.fn g) [.slice a k c,.str sep] s= .ok (.str ⟨(lH sep.data.toList ts).toArray⟩) s1:=by
 injection h0 with h1 h0
 injection h0 with h2 h3
 show gg P sp g (br P sp F n) _ s=_;rw[qY h];exact Ks (m:=0) h1 h2 h3 h4
def H7(n:Int):Prop:= -9223372036854775808<=n/\n<=9223372036854775807
instance (n:Int):Decidable<|H7 n:=by unfold H7;infer_instance
end Go.Rn
namespace Go.Rn
open Go.RowKit
def yW(P:Program):DataW (List UInt8)->Option FuncId->Bool
 | .nil,none=>true
 | .held (b::r),some f=>(List.range P.funcs.size).filter (fun f=>(P.funcs[f]?).any (·.name.toUTF8.data.toList == b::r)) == [f]
 |_,_=>false
def qO(P:Program):List (DataW<|List UInt8)->List (Option FuncId)->Bool
 |[],[]=>true
 |d::ds,f::fs=>yW P d f&&qO P ds fs
 |_,_=>false
def Pj(P:Program)(d:DataW<|List UInt8)(fs:List<|Option FuncId):Bool:=
 match d with
 | .agg ds=>qO P ds fs
 |_=>false
def yX:Option FuncId->AV
 |none=>.nilFunc
 |some f=>.func (.func f) [] []
def tF:Option FuncId->Value
 |none=>.nilFunc
 |some f=>.func (.func f) #[] #[]
theorem Sw(ρ:ah)(f:Option FuncId):VR ρ (yX f)<|tF f:=by
 cases f with
 |none=>simp only[yX,tF,VR]
 |some f=>simp only[yX,tF,VR,aq];exact⟨rfl,_,_,rfl,rfl,rfl⟩
theorem GH{α β:Type}{f:α->Option β}:∀{l:List α} {r:List β},l.mapM f=some r->l.length=r.length/\∀(i:Nat) (x:α),l[i]? =some x->∃y,r[i]? =some y/\f x=some y
 |[],r,h=>by simp at h;subst h;exact⟨rfl,fun i x hx=>by simp at hx⟩
 |a::l,r,h=>by
  rw[List.mapM_cons] at h;cases e:f a with
  |none=>simp[e] at h
  |some b=>
   cases e2:l.mapM f with
   |none=>simp[e,e2] at h
   |some bs=>
    simp[e,e2] at h;subst h;obtain⟨h1,h2⟩:=GH e2;refine⟨by simp[h1],fun i x hx=>?_⟩;cases i with
    |zero=>simp at hx;subst hx;exact⟨b,rfl,e⟩
    |succ i=>simp at hx;obtain⟨y,h3,h4⟩:=h2 i x hx;exact⟨y,by simpa using h3,h4⟩
theorem JS{P:Program}{w:World}{e:TypeId}{ps rs:Array TypeId}{va:Bool}{fuel:Nat}{v:Value}{d:DataW<|List UInt8}{q:List MemPlace}{f:Option FuncId}(he:P.underlying e=some (.func ps rs va))(h:DataW.trod (funcToken P) P w 0 (fun _=>true) true fuel e [v]=some (d,q))(hk:yW P d f=true):v=tF f:=by
 unfold yW at hk;split at hk
 ·cases fuel with
  |zero=>simp[DataW.trod] at h
  |succ n=>cases v<;>simp[DataW.trod,he] at h;rfl
 ·exact func_of_trod he (by simpa using hk) h
 ·cases hk
theorem Fb{P:Program}:∀{ds:List<|DataW<|List UInt8} {fs:List<|Option FuncId},qO P ds fs=true->ds.length=fs.length/\∀(i:Nat) d f,ds[i]? =some d->fs[i]? =some f->yW P d f=true
 |[],[],_=>⟨rfl,fun i d f h=>by simp at h⟩
 |[],_::_,h=>by simp[qO] at h
 |_::_,[],h=>by simp[qO] at h
 |d::ds,f::fs,h=>by
  simp only[qO,Bool.and_eq_true] at h;obtain⟨h1,h2⟩:=Fb h.2;refine⟨by simp[h1],fun i a b ha hb=>?_⟩;cases i with
  |zero=>simp at ha hb;subst ha;subst hb;exact h.1
  |succ i=>simp at ha hb;exact h2 i a b ha hb
theorem Su{P:Program}{W:World}{name:String}{d:DataW Unit}{g:Nat}{t e:TypeId}{n:Nat}{ps rs:Array TypeId}{va:Bool}{fs:List<|Option FuncId}(h:funcsAt P W name d)(hg:P.globalNamed name=some g)(Rj:(P.globals[g]?).map (·.type)=some t)(ht:P.underlying t=some (.array n e))(he:P.underlying e=some (.func ps rs va))(hc:P.cellsOf e=1)(Rk:P.cellsOf t=n)(hd:Pj P d.funcsOut fs=true):
 ∃c ty fr,W.heap[g]? =some (.cells c ty fr)/\fs.length=c.size/\∀(i:Nat) f,fs[i]? =some f->c[i]? =some (tF f):=by
 obtain⟨g',t',cs,fuel,p,h1,h2,h3,h4⟩:=h;obtain rfl:g=g':=Option.some.inj<|hg.symm.trans h1;obtain rfl:t=t':=Option.some.inj<|Rj.symm.trans h2;have jt:∃ty fr,W.heap[g]? =some (.cells cs ty fr):=by
  unfold World.var? at h3;rw[hg] at h3;simp only[Option.bind_some] at h3;split at h3
  ·rename_i c ty fr e;injection h3 with h3;subst h3;exact⟨ty,fr,e⟩
  ·cases h3
 obtain⟨ty,fr,jt⟩:=jt;cases fuel with
 |zero=>simp[DataW.trod] at h4
 |succ m=>
  rw[DataW.trod_step] at h4;unfold DataW.trodStep at h4;simp only[ht,hc,Nat.mul_one] at h4;split at h4
  ·rename_i hlen;rw[Option.map_eq_some_iff] at h4;obtain⟨xs,h5,h6⟩:=h4;obtain⟨h7,h8⟩:=GH h5;have Qc:d.funcsOut= .agg (xs.map (·.1)):=by injection h6 with h6 _;exact h6.symm
   rw[Qc] at hd;obtain⟨h9,dF⟩:=Fb (show qO P (xs.map (·.1)) fs=true from hd);have S4:xs.length=fs.length:=by simpa using h9
   have get:∀(i:Nat) f,fs[i]? =some f->cs[i]? =some (tF f):=by
    intro i f hf;have hi:i<fs.length:=(List.getElem?_eq_some_iff.1 hf).1;obtain⟨y,xf,mo⟩:=h8 i i (by rw[List.getElem?_range (by simp at h7;omega)]);obtain⟨v,hv⟩:∃v,(cs.toList.drop i).take 1=[v]:=by
     cases hq:(cs.toList.drop i).take 1 with
     |nil=>
      rw[hq] at mo;cases m with
      |zero=>simp[DataW.trod] at mo
      |succ k=>simp[DataW.trod,he] at mo
     |cons v l=>
      have:((cs.toList.drop i).take 1).length<=1:=List.length_take_le _ _;rw[hq] at this;cases l with
      |nil=>exact⟨v,rfl⟩
      |cons=>simp at this
    rw[hv] at mo;have wz:=JS (f:=f) (d:=y.1) (q:=y.2) he mo<|dF i y.1 f (by rw[List.getElem?_map,xf];rfl) hf;have:(cs.toList.drop i)[0]? =some v:=by
     have:((cs.toList.drop i).take 1)[0]? =some v:=by rw[hv];rfl
     rw[List.getElem?_take_of_lt<|by omega] at this;exact this
    rw[List.getElem?_drop,Nat.add_zero,Array.getElem?_toList] at this;rw[this,wz]
   refine⟨cs,ty,fr,jt,?_,get⟩;have H8:=hlen;rw[Rk] at H8;simp at H8 h7;omega
  ·cases h4
theorem MO(l:List AV)(hl:l.length<=top)(i:Nat)(hi:i<l.length):(Tr.fill l 0 .nil).get i=l[i]? :=by rw[Tr.nK _ _ _ _ (by omega),if_pos<|by omega];simp
end Go.Rn
namespace Go.Rn
open Go.RowKit
noncomputable section
end
end Go.Rn
namespace Go.Rn
open Go.RowKit
noncomputable section
end
section
variable {P:Program} {B:aC} {J:Nat} {s s1:AS} {Sy:aD} {t:Tr AV} {ops:Array Oper} {f nt i:Nat} {K:List Item} {G:AF->AS->Prop} {acc:List bI} {rs:List ResultVar} {v v':AV}
end
section
variable {P:Program} {s s1:AS} {Sy:aD} {t:Tr AV}
end
noncomputable section
end
section
variable {P:Program} {F:Nat->Option (List AV)} {sp:Sp} {g n k:Nat} {ad:Option<|Nat×Nat} {cp:bc} {s:AS} {l:List AV} {a b c d:ByteArray} {n1 n2 n3 n4:Nat}
end
end Go.Rn
namespace Go.Rn
open Go.RowKit
noncomputable section
end
end Go.Rn
namespace Go.Rn
end Go.Rn
namespace Go.Rn
open Go.RowKit
section
variable {P:Program} {s:AS} {Sy:aD} {t:Tr AV}
theorem sN{n off k:Nat}{l:List AV}(h1:Nat.blt n s.nx=true)(h2:s.h.get n=some (.cells l.length (Tr.fill l 0 .nil) []))(hl:l.length<=top)(S5:0<k)(hk:off+k<=l.length):dG n off k s= .ok ((l.drop off).take k) (aV n s):=by
 cases k with
 |zero=>omega
 |succ k=>
  show((aY n).bind fun o=>match o with
   | .cells m t z=>ay (Nat.ble (off+(k+1)) m) <| lift (eF t z (k+1) off)
   | .ro m t=>ay (Nat.ble (off+(k+1)) m) <| lift (eF t [] (k+1) off)
   |_=>fail) s=_
  rw[M.bo<|jV h1 h2];show ay (Nat.ble (off+(k+1)) l.length) (lift<|eF (Tr.fill l 0 .nil) [] (k+1) off) (aV n s)=_;rw[aL.2 hk,bC,AU hl _ _ hk];rfl
theorem Om{α:Type}{enc:α->List AV}{ts:Array TypeId}{ty e:TypeId}{i:TypeInfo}{x y:Operand}{l L:List α}{n len:Nat}{cap:bc}{n0 o0 k0:Nat}(hx:ak t x=some (.slice (some (n,0)) len cap))(hlen:len=l.length)(hy:ak t y=some (.b9 n0 o0 k0))(h0:ts[0]? =some ty)(hu:P.underlying ty=some (.slice e))(hi:P.info? e=some i)(hz:and (lI i) (jk P ts[1]?)=true)(cC:Cz i.size len cap=true)(fP:top<=n0)(dB:∀s,Sy (.row n0 o0<|k0*i.size) [] s= .ok (.agg (L.map enc).flatten) s)(hk:k0=L.length)(hn:s.h.get n=some (aG enc l))(ch:(Nat.blt n s.nx&&Nat.blt s.nx top)=true)(ow:∀x:α,(enc x).length=i.size/\(enc x).all AV.bB=true)(hb:Nat.beq i.bytes 0=false)(lZ:2*(l.length+L.length)*i.bytes+4096*i.bytes<=room)(gb:(l.length+L.length)*i.size<=top):
 ∃rd wr,(∀k∈rd,k=n\/k∈s.rd)/\(∀k∈wr,k=n\/k∈s.wr)/\(s.mark=0->rd=s.rd/\wr=s.wr)/\(bz P<|.call ⟨.builtin .append, #[x,y],ts⟩).val Sy t s= .ok (.slice (some (s.nx,0)) (l++L).length<|.bA (l++L).length i.size) ⟨(s.h.put n none).put s.nx<|some<|aG enc<|l++L,s.nx+1,s.mark,rd,wr⟩:=by
 subst hlen;subst hk;obtain⟨iD,sq⟩:=and_true.1 ch;have Qd:=(blt_eq _ _).mp iD;have rB:=(blt_eq _ _).mp sq;have iO:∀l:List α,(l.map enc).flatten.length=l.length*i.size:=fun l=>by
  have:=sU (K:=i.size) (l:=l.map enc) fun c hc=>by obtain⟨a,_,rfl⟩:=List.mem_map.1 hc;exact(ow a).1
  rw[this,List.length_map]
 have ng:∀l:List α,(l.map enc).flatten.all AV.bB=true:=by
  intro l;induction l with
  |nil=>rfl
  |cons x l ih=>simp only[List.map_cons,List.flatten_cons,List.all_append,ih,(ow x).2,Bool.and_true]
 have aS:(l.map enc).flatten.length<=top:=by rw[iO];have:=Nat.mul_le_mul_right i.size (show l.length<=l.length+L.length by omega);omega
 have CN:∃rd,(∀k∈rd,k=n\/k∈s.rd)/\(s.mark=0->rd=s.rd)/\dG n 0 (l.length*i.size) s= .ok (l.map enc).flatten ⟨s.h,s.nx,s.mark,rd,s.wr⟩:=by
  cases hk:l.length*i.size with
  |zero=>have:(l.map enc).flatten=[]:=List.eq_nil_of_length_eq_zero (by rw[iO,hk]);rw[this];exact⟨s.rd,fun k h=>.inr h,fun _=>rfl,rfl⟩
  |succ k=>
   have hr:=sN (n:=n) (off:=0) (k:=k+1) (l:=(l.map enc).flatten) (s:=s) iD hn aS (Nat.succ_pos _) (by rw[iO,hk];omega);rw[List.drop_zero, ←hk, ←iO,List.take_length] at hr;rw[←hk, ←iO];refine⟨(aV n s).rd,?_,fun hm=>?_,?_⟩
   ·intro k h;unfold aV at h;cases q:Nat.blt n s.mark with
    |false=>rw[q] at h;exact .inr h
    |true=>rw[q] at h;rcases List.mem_cons.1 h with h|h;exact .inl h;exact .inr h
   ·unfold aV;rw[hm,show Nat.blt n 0=false from by cases q:Nat.blt n 0 with|false=>rfl|true=>have:=(blt_eq _ _).mp q;omega]
   ·rw[hr];congr 1;unfold aV;cases Nat.blt n s.mark<;>rfl
 obtain⟨dc,a1,a2,a3⟩:=CN;have iq:∃rd wr,(∀k∈rd,k=n\/k∈s.rd)/\(∀k∈wr,k=n\/k∈s.wr)/\(s.mark=0->rd=s.rd/\wr=s.wr)/\
  ((aY n).bind fun ob=>ay ob.o9 <| (aZ n none).bind fun _=>grown i.size i.bytes (l.length+L.length) (l.map enc).flatten (L.map enc).flatten) ⟨s.h,s.nx,s.mark,dc,s.wr⟩= .ok (.slice (some (s.nx,0)) (l.length+L.length)<|.bA (l.length+L.length) i.size) ⟨(s.h.put n none).put s.nx<|some<|aG enc<|l++L,s.nx+1,s.mark,rd,wr⟩:=by
  rw[M.bo<|jV (s:=⟨s.h,s.nx,s.mark,dc,s.wr⟩) iD hn];rw[show(aG enc l).o9=true from rfl,bC];obtain⟨b1,b2,b3⟩:=gk n ⟨s.h,s.nx,s.mark,dc,s.wr⟩;rw[M.bo<|qN (o:=none) (p:=aG enc l) (s:=aV n ⟨s.h,s.nx,s.mark,dc,s.wr⟩) (by rw[b2];exact iD) (by rw[b1];exact hn) rfl (by rw[blt_eq];omega)];have Db:(l.map enc).flatten++(L.map enc).flatten=((l++L).map enc).flatten:=by rw[List.map_append,List.flatten_append]
  unfold grown;rw[show(and (Nat.ble (2*(l.length+L.length)*i.bytes+4096*i.bytes) room)<|not<|Nat.beq i.bytes 0)=true from and_true.2 ⟨aL.2 lZ,by rw[hb];rfl⟩,bC,Db];have hw:∃rd wr,(∀k∈rd,k=n\/k∈s.rd)/\(∀k∈wr,k=n\/k∈s.wr)/\(s.mark=0->rd=s.rd/\wr=s.wr)/\fS n none (aV n ⟨s.h,s.nx,s.mark,dc,s.wr⟩)=⟨s.h.put n none,s.nx,s.mark,rd,wr⟩:=by
   unfold fS aV;cases q:Nat.blt n s.mark with
   |false=>refine⟨dc,s.wr,a1,fun k h=>.inr h,fun hm=>⟨a2 hm,rfl⟩,?_⟩;show(@Bool.rec (fun _=>AS) _ _<|Nat.blt n s.mark)=_;rw[q]
   |true=>
    refine⟨n::n::dc,n::s.wr,?_,?_,fun hm=>?_,?_⟩
    ·intro k h;rcases List.mem_cons.1 h with h|h
     ·exact .inl h
     ·rcases List.mem_cons.1 h with h|h
      ·exact .inl h
      ·exact a1 k h
    ·intro k h;rcases List.mem_cons.1 h with h|h
     ·exact .inl h
     ·exact .inr h
    ·rw[hm] at q;have:=(blt_eq _ _).mp q;omega
    ·show(@Bool.rec (fun _=>AS) _ _<|Nat.blt n s.mark)=_;rw[q]
  obtain⟨rd,wr,c1,c2,c3,c4⟩:=hw;rw[c4];refine⟨rd,wr,c1,c2,c3,?_⟩;have iR:=yx (s:=⟨s.h.put n none,s.nx,s.mark,rd,wr⟩) (l:=((l++L).map enc).flatten) (by rw[iO];simpa using gb) (ng _) rB;exact(M.bo iR).trans rfl
 obtain⟨rd,wr,d1,d2,d3,d4⟩:=iq;refine⟨rd,wr,d1,d2,d3,?_⟩;show iG P .append ts [x,y] Sy t s=_;unfold iG;have iu:eB (ak t) [x,y]=some [.slice (some (n,0)) l.length cap,.b9 n0 o0 L.length]:=by simp only[eB,hx,hy]
 rw[iu,aP];show qI P Sy ts (.slice (some (n,0)) l.length cap) n0 o0 L.length s=_;unfold qI;rw[aL.2 fP,bC,h0,aP];simp only[hu];rw[hi,aP,hz,bC,cC,bC];have hr:lJ Sy n0 o0 (L.length*i.size) s= .ok (L.map enc).flatten s:=by
  rcases Nat.eq_zero_or_pos (L.length*i.size) with DW|DW
  ·rw[List.eq_nil_of_length_eq_zero<|(iO L).trans DW,DW];rfl
  rw[show lJ Sy n0 o0 (L.length*i.size)=(Sy (.row n0 o0<|L.length*i.size) []).bind fun x=>match x with
   | .agg l=>ay (Nat.beq l.length<|L.length*i.size) <| M.pure l
   |_=>fail from by obtain⟨m,hm⟩:∃m,L.length*i.size=m+1:=⟨L.length*i.size - 1,by omega⟩;rw[hm];rfl]
  rw[M.bo<|dB s];show ay (Nat.beq (L.map enc).flatten.length<|L.length*i.size) (M.pure (L.map enc).flatten) s=_;rw[iO,cj.2 rfl,bC];rfl
 rw[M.bo hr,M.bo a3,d4];simp
theorem On{α:Type}{enc:α->List AV}{ts:Array TypeId}{ty e:TypeId}{i:TypeInfo}{x y:Operand}{l:List α}{c:α}{n m:Nat}(hx:ak t x=some (.slice (some (n,0)) l.length<|.bA l.length i.size))(hy:ak t y=some (.slice (some (m,0)) 1<|.known 1))(h0:ts[0]? =some ty)(hu:P.underlying ty=some (.slice e))(hi:P.info? e=some i)(hz:and (lI i) (jk P ts[1]?)=true)(hn:s.h.get n=some (aG enc l))(hm:s.h.get m=some (.cells (enc c).length (Tr.fill (enc c) 0 .nil) []))(ch:(Nat.blt n s.nx&&(Nat.blt m s.nx&&Nat.blt s.nx top))=true)(ow:∀x:α,(enc x).length=i.size/\(enc x).all AV.bB=true)(zK:0<i.size)(hb:Nat.beq i.bytes 0=false)(lZ:2*(l.length+1)*i.bytes+4096*i.bytes<=room)(gb:(l.length+1)*i.size<=top):
 ∃rd wr,(∀k∈rd,k=n\/k=m\/k∈s.rd)/\(∀k∈wr,k=n\/k∈s.wr)/\(s.mark=0->rd=s.rd/\wr=s.wr)/\(bz P<|.call ⟨.builtin .append, #[x,y],ts⟩).val Sy t s= .ok (.slice (some (s.nx,0)) (l++[c]).length<|.bA (l++[c]).length i.size) ⟨(s.h.put n none).put s.nx<|some<|aG enc<|l++[c],s.nx+1,s.mark,rd,wr⟩:=by
 obtain⟨iD,ch⟩:=and_true.1 ch;obtain⟨cO,sq⟩:=and_true.1 ch;have Qd:=(blt_eq _ _).mp iD;have rB:=(blt_eq _ _).mp sq;have iO:∀l:List α,(l.map enc).flatten.length=l.length*i.size:=fun l=>by
  have:=sU (K:=i.size) (l:=l.map enc) fun c hc=>by obtain⟨a,_,rfl⟩:=List.mem_map.1 hc;exact(ow a).1
  rw[this,List.length_map]
 have ng:∀l:List α,(l.map enc).flatten.all AV.bB=true:=by
  intro l;induction l with
  |nil=>rfl
  |cons x l ih=>simp only[List.map_cons,List.flatten_cons,List.all_append,ih,(ow x).2,Bool.and_true]
 have Iw:(l.length+1)*i.size=l.length*i.size+i.size:=by rw[Nat.add_mul,Nat.one_mul]
 have aS:(l.map enc).flatten.length<=top:=by rw[iO];omega
 have ma:∀{k q:Nat} {s':AS},k∈(aV q s').rd->k=q\/k∈s'.rd:=by
  intro k q s' h;unfold aV at h;cases z:Nat.blt q s'.mark with
  |false=>rw[z] at h;exact .inr h
  |true=>rw[z] at h;rcases List.mem_cons.1 h with h|h;exact .inl h;exact .inr h
 have eX:∀(q:Nat) (s':AS),s'.mark=0->aV q s'=s':=by intro q s' h;unfold aV;rw[h,show Nat.blt q 0=false from by cases z:Nat.blt q 0 with|false=>rfl|true=>have:=(blt_eq _ _).mp z;omega]
 have H9:∀(q:Nat) (s':AS),aV q s'=⟨s'.h,s'.nx,s'.mark,(aV q s').rd,s'.wr⟩:=by intro q s';unfold aV;cases Nat.blt q s'.mark<;>rfl
 have hf:firstCells i.size 1 (.slice (some (m,0)) 1<|.known 1) s= .ok (enc c) (aV m s):=by rw[sK (by simp),Nat.one_mul];have hr:=sN (n:=m) (off:=0) (k:=i.size) (l:=enc c) (s:=s) cO hm (by rw[(ow c).1];omega) zK (by rw[(ow c).1];omega);rw[hr,List.drop_zero, ←(ow c).1,List.take_length]
 let s1:AS:=⟨s.h,s.nx,s.mark,(aV m s).rd,s.wr⟩;have Rl:aV m s=s1:=H9 m s;have CN:∃rd,(∀k∈rd,k=n\/k∈s1.rd)/\(s.mark=0->rd=s1.rd)/\dG n 0 (l.length*i.size) s1= .ok (l.map enc).flatten ⟨s.h,s.nx,s.mark,rd,s.wr⟩:=by
  cases hk:l.length*i.size with
  |zero=>have:(l.map enc).flatten=[]:=List.eq_nil_of_length_eq_zero (by rw[iO,hk]);rw[this];exact⟨s1.rd,fun k h=>.inr h,fun _=>rfl,rfl⟩
  |succ k=>have hr:=sN (n:=n) (off:=0) (k:=k+1) (l:=(l.map enc).flatten) (s:=s1) iD hn aS (Nat.succ_pos _) (by rw[iO,hk];omega);rw[List.drop_zero, ←hk, ←iO,List.take_length] at hr;rw[←hk, ←iO];exact⟨(aV n s1).rd,fun k h=>ma h,fun pQ=>by rw[eX n s1 pQ],hr.trans<|congrArg _<|H9 n s1⟩
 obtain⟨dc,a1,a2,a3⟩:=CN;have iq:∃rd wr,(∀k∈rd,k=n\/k∈s1.rd)/\(∀k∈wr,k=n\/k∈s.wr)/\(s.mark=0->rd=s1.rd/\wr=s.wr)/\
  ((aY n).bind fun ob=>ay ob.o9 <| (aZ n none).bind fun _=>grown i.size i.bytes (l.length+1) (l.map enc).flatten<|enc c) ⟨s.h,s.nx,s.mark,dc,s.wr⟩= .ok (.slice (some (s.nx,0)) (l.length+1)<|.bA (l.length+1) i.size) ⟨(s.h.put n none).put s.nx<|some<|aG enc<|l++[c],s.nx+1,s.mark,rd,wr⟩:=by
  rw[M.bo<|jV (s:=⟨s.h,s.nx,s.mark,dc,s.wr⟩) iD hn];rw[show(aG enc l).o9=true from rfl,bC];obtain⟨b1,b2,b3⟩:=gk n ⟨s.h,s.nx,s.mark,dc,s.wr⟩;rw[M.bo<|qN (o:=none) (p:=aG enc l) (s:=aV n ⟨s.h,s.nx,s.mark,dc,s.wr⟩) (by rw[b2];exact iD) (by rw[b1];exact hn) rfl (by rw[blt_eq];omega)];have Db:(l.map enc).flatten++enc c=((l++[c]).map enc).flatten:=by simp
  unfold grown;rw[show(and (Nat.ble (2*(l.length+1)*i.bytes+4096*i.bytes) room)<|not<|Nat.beq i.bytes 0)=true from and_true.2 ⟨aL.2 lZ,by rw[hb];rfl⟩,bC,Db];have hw:∃rd wr,(∀k∈rd,k=n\/k∈s1.rd)/\(∀k∈wr,k=n\/k∈s.wr)/\(s.mark=0->rd=s1.rd/\wr=s.wr)/\fS n none (aV n ⟨s.h,s.nx,s.mark,dc,s.wr⟩)=⟨s.h.put n none,s.nx,s.mark,rd,wr⟩:=by
   unfold fS aV;cases q:Nat.blt n s.mark with
   |false=>refine⟨dc,s.wr,a1,fun k h=>.inr h,fun hm=>⟨a2 hm,rfl⟩,?_⟩;show(@Bool.rec (fun _=>AS) _ _<|Nat.blt n s.mark)=_;rw[q]
   |true=>
    refine⟨n::n::dc,n::s.wr,?_,?_,fun hm=>?_,?_⟩
    ·intro k h;rcases List.mem_cons.1 h with h|h
     ·exact .inl h
     ·rcases List.mem_cons.1 h with h|h
      ·exact .inl h
      ·exact a1 k h
    ·intro k h;rcases List.mem_cons.1 h with h|h
     ·exact .inl h
     ·exact .inr h
    ·rw[hm] at q;have:=(blt_eq _ _).mp q;omega
    ·show(@Bool.rec (fun _=>AS) _ _<|Nat.blt n s.mark)=_;rw[q]
  obtain⟨rd,wr,c1,c2,c3,c4⟩:=hw;rw[c4];refine⟨rd,wr,c1,c2,c3,?_⟩;have iR:=yx (s:=⟨s.h.put n none,s.nx,s.mark,rd,wr⟩) (l:=((l++[c]).map enc).flatten) (by rw[iO];simpa using gb) (ng _) rB;exact(M.bo iR).trans rfl
 obtain⟨rd,wr,d1,d2,d3,d4⟩:=iq;refine⟨rd,wr,fun k h=>?_,d2,fun h=>⟨(d3 h).1.trans (by show(aV m s).rd=s.rd;rw[eX m s h]),(d3 h).2⟩,?_⟩
 ·rcases d1 k h with h|h
  ·exact .inl h
  ·exact .inr<|ma h
 show iG P .append ts [x,y] Sy t s=_;unfold iG;have iu:eB (ak t) [x,y]=some [.slice (some (n,0)) l.length<|.bA l.length i.size,.slice (some (m,0)) 1<|.known 1]:=by simp only[eB,hx,hy]
 rw[iu,aP];show ji P ts (.slice (some (n,0)) l.length<|.bA l.length i.size) (.slice (some (m,0)) 1<|.known 1) s=_;unfold ji;rw[h0,aP];simp only[hu];rw[hi,aP,hz,bC];show((firstCells i.size 1<|.slice (some (m,0)) 1<|.known 1).bind fun new=>ay (Nat.beq new.length<|1*i.size) <| kz i.size i.bytes (some (n,0)) l.length (.bA l.length i.size) 1 new) s=_;rw[M.bo hf,(ow c).1,Nat.one_mul,cj.2 rfl,bC,Rl];show(ay (Nat.beq i.size i.size) <| match Nat.ble (l.length+1) l.length with
  |true=>match (some (n,0):Option<|Nat×Nat) with
   |some (m,o)=>(nL m (o+l.length*i.size)<|enc c).bind fun _=>M.pure (.slice (some (m,o)) (l.length+1)<|.bA l.length i.size)
   |none=>fail
  |false=>match (some (n,0):Option<|Nat×Nat) with
   |some (m,0)=>(dG m 0<|l.length*i.size).bind fun bD=>(aY m).bind fun o=>ay o.o9 <| (aZ m none).bind fun _=>grown i.size i.bytes (l.length+1) bD (enc c)
   |_=>fail) s1=_
 have wQ:Nat.ble (l.length+1) l.length=false:=by
  cases q:Nat.ble (l.length+1) l.length with
  |false=>rfl
  |true=>have:=aL.1 q;omega
 rw[cj.2 rfl,bC];simp only[wQ];rw[M.bo a3,d4];simp
end
end Go.Rn
namespace Go.Rn
open Go.RowKit
section
variable {P:Program} {s s1:AS} {Sy:aD} {t:Tr AV}
theorem Pk{ty kt et:TypeId}{x i:Operand}{k:Int}{m:List<|Int×Int}{n:Nat}(hx:ak t x=some (.map<|some n))(hi:ak t i=some (.int .i64 k))(hu:P.underlying ty=some (.map kt et))(hk:fh P 10000 kt (.int .i64 k)=true)(hp:plainKey P kt (.int .i64 k)=true)(hz:eT P et=some (.int .i64 0))(hn:s.h.get n=some (ou m))(ch:Nat.blt n s.nx=true):(bz P<|.lookup ty x i false).val Sy t s= .ok (.int .i64<|getM m k) (aV n s):=by
 show jS P ty x i false Sy t s=_;unfold jS;rw[hx,hi,aP,aP];unfold jR;simp only[hu];have hf:mN P kt (.int .i64 k) (.map<|some n) s= .ok (cI m) (aV n s):=by
  show((aY n).bind fun o=>match o with
   | .map es _=>M.pure es
   | .cK es=>ay (or (plainKey P kt<|.int .i64 k)<|short es) <| M.pure es
   |_=>fail) s=_
  rw[M.bo<|jV ch hn];rfl
 rw[M.bo hf,hk,bC];have mr:findKey P kt (.int .i64 k) (cI m)=dH (.int .i64 k) (cI m) 0:=by unfold findKey;simp only[iY,hp]
 rw[mr];rcases yJ k m 0 with⟨h1,h2,_⟩|⟨j,y,h1,h2,_⟩
 ·rw[h1,aP,h2];show(aA (eT P et) fun z=>M.pure<|nn false z false) (aV n s)=_;rw[hz,aP];rfl
 ·rw[h1,aP,h2];rfl
theorem Pm{ty kt et:TypeId}{x i y:Operand}{k v:Int}{m:List<|Int×Int}{n:Nat}(hx:ak t x=some (.map<|some n))(hi:ak t i=some (.int .i64 k))(hy:ak t y=some (.int .i64 v))(hu:P.underlying ty=some (.map kt et))(hk:fh P 10000 kt (.int .i64 k)=true)(hp:plainKey P kt (.int .i64 k)=true)(hn:s.h.get n=some (ou m))(q1:Nat.blt n s.nx=true)(q2:Nat.blt n top=true):(bz P<|.mapUpdate ty x i y).val Sy t s= .ok (.tuple []) (fS n (some<|ou<|iv m k v)<|aV n s):=by
 show gP P ty x i y Sy t s=_;unfold gP;rw[hx,hi,hy,aP,aP,aP];have w:∀o:U,aZ n (some o) (aV n s)= .ok () (fS n (some o)<|aV n s):=fun o=>qN (by rw[(gk n s).2.1];exact q1) (by rw[(gk n s).1];exact hn) rfl q2;have Dc:iJ P ty (.map<|some n) (.int .i64 k) (.int .i64 v) s= .ok () (fS n (some<|ou<|iv m k v)<|aV n s):=by
  unfold iJ;simp only[hu];rw[M.bo<|jV q1 hn];show(ay (fh P 10000 kt<|.int .i64 k) <| aA (findKey P kt (.int .i64 k)<|cI m) fun f=>pq n (.int .i64 k) (.int .i64 v) (cI m) m.length f) (aV n s)=_;rw[hk,bC];have mr:findKey P kt (.int .i64 k) (cI m)=dH (.int .i64 k) (cI m) 0:=by unfold findKey;simp only[iY,hp]
  rw[mr];rcases yJ k m 0 with⟨h1,_,h3⟩|⟨j,z,h1,_,h3,h4⟩
  ·rw[h1,aP];show aZ n (some<|.map (cI m++[(.int .i64 k,.int .i64 v)])<|m.length+1) (aV n s)=_;rw[w,h3 v];simp only[ou,cI,List.map_append,List.map_cons,List.map_nil,List.length_append,List.length_cons,List.length_nil]
  ·rw[h1,aP];show(aA (cI m)[0+j]? fun bD=>ay (sameBits bD.1<|.int .i64 k) <| aZ n<|some<|.map (putAt (cI m) (0+j) (.int .i64 k)<|.int .i64 v) m.length) (aV n s)=_;rw[Nat.zero_add];have he:(cI m)[j]? =some (.int .i64 k,.int .i64 z):=by unfold cI;rw[List.getElem?_map,h3];rfl
   rw[he,aP];have hs:sameBits (.int .i64 k) (.int .i64 k)=true:=by show(match sameKey (.int .i64 k) (.int .i64 k) with|some true=>true|_=>false)=true;rw[GD];simp
   show(ay (sameBits (.int .i64 k)<|.int .i64 k) <| aZ n<|some<|.map (putAt (cI m) j (.int .i64 k)<|.int .i64 v) m.length) (aV n s)=_;rw[hs,bC,w,(h4 v).1];simp only[ou,(h4 v).2]
 rw[M.bo Dc];rfl
noncomputable def pC(m:List<|Int×Int):U:=.cK<|cI m
def kV:List (Int×Int)->Int->Bool
 |[],_=>false
 |p::l,k=>if p.1=k then true else kV l k
theorem GI(k:Int):∀(m:List<|Int×Int) (i:Nat),(kV m k=false/\dH (.int .i64 k) (cI m) i=some none)\/∃j,kV m k=true/\dH (.int .i64 k) (cI m) i=some (some (j,.int .i64<|getM m k))
 |[],i=>.inl ⟨rfl,rfl⟩
 |p::l,i=>by
  have hf:dH (.int .i64 k) (cI<|p::l) i=(match some (k == p.1) with|none=>none|some true=>some (some (i,.int .i64 p.2))|some false=>dH (.int .i64 k) (cI l)<|i+1):=rfl;by_cases e:p.1=k
  ·refine .inr ⟨i,by unfold kV;rw[if_pos e],?_⟩;rw[hf,show(k == p.1)=true by simp[e],show getM (p::l) k=p.2 by simp[getM,e]]
  ·have bO:(k == p.1)=false:=by simp;exact fun q=>e q.symm
   rw[hf,bO,show kV (p::l) k=kV l k by simp[kV,e],show getM (p::l) k=getM l k by simp[getM,e]];exact GI k l<|i+1
theorem Oo{ty kt et:TypeId}{x i:Operand}{k:Int}{m:List<|Int×Int}{n:Nat}(hx:ak t x=some (.map<|some n))(hi:ak t i=some (.int .i64 k))(hu:P.underlying ty=some (.map kt et))(hk:fh P 10000 kt (.int .i64 k)=true)(hp:plainKey P kt (.int .i64 k)=true)(hz:eT P et=some (.int .i64 0))(hn:s.h.get n=some (pC m))(ch:Nat.blt n s.nx=true):(bz P<|.lookup ty x i true).val Sy t s= .ok (.tuple [.int .i64 (if kV m k=true then getM m k else 0),.bool<|kV m k]) (aV n s):=by
 show jS P ty x i true Sy t s=_;unfold jS;rw[hx,hi,aP,aP];unfold jR;simp only[hu];have hf:mN P kt (.int .i64 k) (.map<|some n) s= .ok (cI m) (aV n s):=by
  show((aY n).bind fun o=>match o with
   | .map es _=>M.pure es
   | .cK es=>ay (or (plainKey P kt<|.int .i64 k)<|short es) <| M.pure es
   |_=>fail) s=_
  rw[M.bo<|jV ch hn];show(ay (or (plainKey P kt<|.int .i64 k)<|short<|cI m) <| M.pure<|cI m) (aV n s)=_;rw[hp,show(or true<|short<|cI m)=true from rfl,bC];rfl
 rw[M.bo hf,hk,bC];have mr:findKey P kt (.int .i64 k) (cI m)=dH (.int .i64 k) (cI m) 0:=by unfold findKey;simp only[iY,hp]
 rw[mr];rcases GI k m 0 with⟨h1,h2⟩|⟨j,h1,h2⟩
 ·rw[h2,aP,h1];show(aA (eT P et) fun z=>M.pure<|nn true z false) (aV n s)=_;rw[hz,aP];rfl
 ·rw[h2,aP,h1];rfl
theorem Oq{ty kt et:TypeId}{x i y:Operand}{k v:Int}{m:List<|Int×Int}{n:Nat}(hx:ak t x=some (.map<|some n))(hi:ak t i=some (.int .i64 k))(hy:ak t y=some (.int .i64 v))(hu:P.underlying ty=some (.map kt et))(hk:fh P 10000 kt (.int .i64 k)=true)(hp:plainKey P kt (.int .i64 k)=true)(hn:s.h.get n=some (pC m))(q1:Nat.blt n s.nx=true)(q2:Nat.blt n top=true):(bz P<|.mapUpdate ty x i y).val Sy t s= .ok (.tuple []) (fS n (some<|pC<|iv m k v)<|aV n s):=by
 show gP P ty x i y Sy t s=_;unfold gP;rw[hx,hi,hy,aP,aP,aP];have w:∀o:U,aZ n (some o) (aV n s)= .ok () (fS n (some o)<|aV n s):=fun o=>qN (by rw[(gk n s).2.1];exact q1) (by rw[(gk n s).1];exact hn) rfl q2;have Dc:iJ P ty (.map<|some n) (.int .i64 k) (.int .i64 v) s= .ok () (fS n (some<|pC<|iv m k v)<|aV n s):=by
  unfold iJ;simp only[hu];rw[M.bo<|jV q1 hn];show(ay (and (plainKey P kt<|.int .i64 k)<|fh P 10000 kt<|.int .i64 k) <| aA (findKey P kt (.int .i64 k)<|cI m) fun f=>qq n (.int .i64 k) (.int .i64 v) (cI m) f) (aV n s)=_;rw[hk,hp,show(and true true)=true from rfl,bC];have mr:findKey P kt (.int .i64 k) (cI m)=dH (.int .i64 k) (cI m) 0:=by unfold findKey;simp only[iY,hp]
  rw[mr];rcases yJ k m 0 with⟨h1,_,h3⟩|⟨j,z,h1,_,h3,h4⟩
  ·rw[h1,aP];show aZ n (some<|.cK<|cI m++[(.int .i64 k,.int .i64 v)]) (aV n s)=_;rw[w,h3 v];simp only[pC,cI,List.map_append,List.map_cons,List.map_nil]
  ·rw[h1,aP];show aZ n (some<|.cK<|putAt (cI m) (0+j) (.int .i64 k)<|.int .i64 v) (aV n s)=_;rw[Nat.zero_add,w,(h4 v).1];rfl
 rw[M.bo Dc];rfl
end
end Go.Rn
namespace Go.Rn
open Go.RowKit
section
variable {P:Program} {s:AS} {Sy:aD} {t:Tr AV}
theorem Gd{n k:Nat}{l:List AV}{s:AS}(h1:Nat.blt n s.nx=true)(h2:s.h.get n=some (.cells l.length (Tr.fill l 0 .nil) []))(hl:l.length<=top)(hk:k<=l.length):
 ∃rd,(∀x∈rd,x=n\/x∈s.rd)/\(s.mark=0->rd=s.rd)/\dG n 0 k s= .ok (l.take k) ⟨s.h,s.nx,s.mark,rd,s.wr⟩:=by
 cases k with
 |zero=>exact⟨s.rd,fun x h=>.inr h,fun _=>rfl,rfl⟩
 |succ k=>
  have hr:=sN (n:=n) (off:=0) (k:=k+1) (l:=l) (s:=s) h1 h2 hl (Nat.succ_pos _) (by omega);rw[List.drop_zero] at hr;refine⟨(aV n s).rd,?_,fun hm=>?_,?_⟩
  ·intro k h;unfold aV at h;cases q:Nat.blt n s.mark with
   |false=>rw[q] at h;exact .inr h
   |true=>rw[q] at h;rcases List.mem_cons.1 h with h|h;exact .inl h;exact .inr h
  ·unfold aV;rw[hm,show Nat.blt n 0=false from by cases q:Nat.blt n 0 with|false=>rfl|true=>have:=(blt_eq _ _).mp q;omega]
  ·rw[hr];congr 1;unfold aV;cases Nat.blt n s.mark<;>rfl
theorem Ot{ts:Array TypeId}{ty e:TypeId}{i:TypeInfo}{x y:Operand}{L1 L2 l:List AV}{n m len k:Nat}{gq:bc}(hx:ak t x=some (.slice (some (n,0)) len<|.known len))(hy:ak t y=some (.slice (some (m,0)) k gq))(h0:ts[0]? =some ty)(hu:P.underlying ty=some (.slice e))(hi:P.info? e=some i)(hz:and (lI i) (jk P ts[1]?)=true)(hk:1<=k)(hn:s.h.get n=some (.cells L1.length (Tr.fill L1 0 .nil) []))(hm:s.h.get m=some (.cells L2.length (Tr.fill L2 0 .nil) []))(jH:L1.length<=top)(gd:L2.length<=top)(h1:len*i.size<=L1.length)(h2:k*i.size<=L2.length)(he:L1.take (len*i.size)++L2.take (k*i.size)=l)(ch:(Nat.blt n s.nx&&(Nat.blt m s.nx&&Nat.blt s.nx top))=true)(ng:l.all AV.bB=true)(hb:Nat.beq i.bytes 0=false)(lZ:2*(len+k)*i.bytes+4096*i.bytes<=room)(gb:l.length<=top):
 ∃rd wr,(∀q∈rd,q=n\/q=m\/q∈s.rd)/\(∀q∈wr,q∈s.wr)/\(s.mark=0->rd=s.rd/\wr=s.wr)/\(bz P<|.call ⟨.builtin .append, #[x,y],ts⟩).val Sy t s= .ok (.slice (some (s.nx,0)) (len+k)<|.bA (len+k) i.size) ⟨s.h.put s.nx<|some<|.cells l.length (Tr.fill l 0 .nil) [],s.nx+1,s.mark,rd,wr⟩:=by
 obtain⟨iD,ch⟩:=and_true.1 ch;obtain⟨cO,sq⟩:=and_true.1 ch;have rB:=(blt_eq _ _).mp sq;have hf:firstCells i.size k (.slice (some (m,0)) k gq) s=dG m 0 (k*i.size) s:=by
  cases k with
  |zero=>omega
  |succ k=>cases gq<;>rfl
 obtain⟨dc,a1,a2,a3⟩:=Gd cO hm gd h2;obtain⟨rV,b1,b2,b3⟩:=Gd (s:=⟨s.h,s.nx,s.mark,dc,s.wr⟩) iD hn jH h1;refine⟨rV,s.wr,fun q hq=>?_,fun q hq=>hq,fun pQ=>⟨(b2 pQ).trans<|a2 pQ,rfl⟩,?_⟩
 ·rcases b1 q hq with h|h
  ·exact .inl h
  ·exact .inr<|a1 q h
 show iG P .append ts [x,y] Sy t s=_;unfold iG;have iu:eB (ak t) [x,y]=some [.slice (some (n,0)) len<|.known len,.slice (some (m,0)) k gq]:=by simp only[eB,hx,hy]
 rw[iu,aP];show ji P ts (.slice (some (n,0)) len<|.known len) (.slice (some (m,0)) k gq) s=_;unfold ji;rw[h0,aP];simp only[hu];rw[hi,aP,hz,bC];show(aA (some k) fun sr=>(firstCells i.size sr<|.slice (some (m,0)) k gq).bind fun new=>ay (Nat.beq new.length<|sr*i.size) <| kz i.size i.bytes (some (n,0)) len (.known len) sr new) s=_;rw[aP,M.bo<|hf.trans a3];have CO:(L2.take<|k*i.size).length=k*i.size:=by rw[List.length_take];omega
 rw[CO,cj.2 rfl,bC];unfold kz;have wQ:Nat.ble (len+k) len=false:=by cases q:Nat.ble (len+k) len with|false=>rfl|true=>have:=aL.1 q;omega
 simp only[wQ];have DX:firstCells i.size len (.slice (some (n,0)) len<|.known len) ⟨s.h,s.nx,s.mark,dc,s.wr⟩=dG n 0 (len*i.size) ⟨s.h,s.nx,s.mark,dc,s.wr⟩:=by cases len<;>rfl
 rw[M.bo<|DX.trans b3];unfold grown;rw[show(and (Nat.ble (2*(len+k)*i.bytes+4096*i.bytes) room)<|not<|Nat.beq i.bytes 0)=true from and_true.2 ⟨aL.2 lZ,by rw[hb];rfl⟩,bC,he];have iR:=yx (s:=⟨s.h,s.nx,s.mark,rV,s.wr⟩) (l:=l) gb ng rB;exact(M.bo iR).trans rfl
noncomputable def wR(o:U)(s:AS):AS:=⟨s.h.put s.nx<|some o,s.nx+1,s.mark,s.rd,s.wr⟩
theorem Ou{ts:Array TypeId}{ty e:TypeId}{i:TypeInfo}{x y:Operand}{L1 L2 l:List AV}{n m len k:Nat}{gq:bc}(hx:ak t x=some (.slice (some (n,0)) len<|.known len))(hy:ak t y=some (.slice (some (m,0)) k gq))(h0:ts[0]? =some ty)(hu:P.underlying ty=some (.slice e))(hi:P.info? e=some i)(hz:and (lI i) (jk P ts[1]?)=true)(hlen:1<=len)(hk:1<=k)(hs:1<=i.size)(hn:s.h.get n=some (.cells L1.length (Tr.fill L1 0 .nil) []))(hm:s.h.get m=some (.cells L2.length (Tr.fill L2 0 .nil) []))(jH:L1.length<=top)(gd:L2.length<=top)(h1:len*i.size<=L1.length)(h2:k*i.size<=L2.length)(he:L1.take (len*i.size)++L2.take (k*i.size)=l)(ch:(Nat.blt n s.nx&&(Nat.blt m s.nx&&Nat.blt s.nx top))=true)(ng:l.all AV.bB=true)(hb:Nat.beq i.bytes 0=false)(lZ:2*(len+k)*i.bytes+4096*i.bytes<=room)(gb:l.length<=top):
 (bz P<|.call ⟨.builtin .append, #[x,y],ts⟩).val Sy t s= .ok (.slice (some (s.nx,0)) (len+k)<|.bA (len+k) i.size) (wR (.cells l.length (Tr.fill l 0 .nil) [])<|aV n<|aV m s):=by
 obtain⟨iD,ch⟩:=and_true.1 ch;obtain⟨cO,sq⟩:=and_true.1 ch;have rB:=(blt_eq _ _).mp sq;have hf:firstCells i.size k (.slice (some (m,0)) k gq) s=dG m 0 (k*i.size) s:=by
  cases k with
  |zero=>omega
  |succ k=>cases gq<;>rfl
 have p1:0<k*i.size:=Nat.mul_pos (by omega) (by omega);have p2:0<len*i.size:=Nat.mul_pos (by omega) (by omega);have a3:=sN (n:=m) (off:=0) (k:=k*i.size) (l:=L2) (s:=s) cO hm gd p1 (by omega);have b3:=sN (n:=n) (off:=0) (k:=len*i.size) (l:=L1) (s:=aV m s) (by rw[(gk m s).2.1];exact iD) (by rw[(gk m s).1];exact hn) jH p2 (by omega);rw[List.drop_zero] at a3 b3;show iG P .append ts [x,y] Sy t s=_;unfold iG;have iu:eB (ak t) [x,y]=some [.slice (some (n,0)) len<|.known len,.slice (some (m,0)) k gq]:=by simp only[eB,hx,hy]
 rw[iu,aP];show ji P ts (.slice (some (n,0)) len<|.known len) (.slice (some (m,0)) k gq) s=_;unfold ji;rw[h0,aP];simp only[hu];rw[hi,aP,hz,bC];show(aA (some k) fun sr=>(firstCells i.size sr<|.slice (some (m,0)) k gq).bind fun new=>ay (Nat.beq new.length<|sr*i.size) <| kz i.size i.bytes (some (n,0)) len (.known len) sr new) s=_;rw[aP,M.bo<|hf.trans a3];have CO:(L2.take<|k*i.size).length=k*i.size:=by rw[List.length_take];omega
 rw[CO,cj.2 rfl,bC];unfold kz;have wQ:Nat.ble (len+k) len=false:=by cases q:Nat.ble (len+k) len with|false=>rfl|true=>have:=aL.1 q;omega
 simp only[wQ];have DX:firstCells i.size len (.slice (some (n,0)) len<|.known len) (aV m s)=dG n 0 (len*i.size) (aV m s):=by
  cases len with
  |zero=>omega
  |succ k=>rfl
 rw[M.bo<|DX.trans b3];unfold grown;rw[show(and (Nat.ble (2*(len+k)*i.bytes+4096*i.bytes) room)<|not<|Nat.beq i.bytes 0)=true from and_true.2 ⟨aL.2 lZ,by rw[hb];rfl⟩,bC,he];have bj:(aV n<|aV m s).nx=s.nx:=by rw[(gk n _).2.1,(gk m _).2.1]
 have iR:=yx (s:=aV n<|aV m s) (l:=l) gb ng (by rw[bj];exact rB);rw[bj] at iR;refine(M.bo iR).trans ?_;unfold wR;rw[bj];rfl
end
end Go.Rn
namespace Go.Rn
open Go.RowKit
noncomputable section
inductive Pl where
 |no
 |st (k:Nat) (p:Pl)
 |rg (p:Pl)
 |go (n:Nat) (p:Pl)
 |en (p:Pl)
 |fk (p q:Pl)
 |vl (v:AV) (p:Pl)
 |kn (v:AV) (p:Pl)
 |kp (c:Prop) (d:Decidable c) (p q:Pl)
 |ca (n m:Nat) (p:Pl)
 |ef (p q:Pl)
 |jn (v:ByteArray) (p:Pl)
 |ss (p:Pl)
 |cu (v:AV) (s2:AS) (p:Pl)
 |cg (v:AV) (F:AS->AS) (Q:AS->Prop) (p:Pl)
 |lx (v:AV) (F:AS->AS) (Q:AS->Prop) (p:Pl)
 |mx (F:AS->AS) (Q:AS->Prop) (p:Pl)
 |ml (v:AV) (F:AS->AS) (Q:AS->Prop) (p:Pl)
 |c2 (φ:Prop) (v1:AV) (L1:List<|Nat×Option U) (v2:AV) (L2:List<|Nat×Option U) (dO:Nat) (R W:List Nat) (p q:Pl)
 |ap (α:Type) (enc:α->List AV) (l:List α) (c:α) (p:Pl)
 |al (α:Type) (enc:α->List AV) (l L:List α) (p:Pl)
 |sf (lo hi:Int) (p:Pl)
 |ix (p:Pl)
 |a9 (p:Pl)
 |ld (cs:List AV) (p:Pl)
 |jL (b:Bool) (p q:Pl)
 |ba (cs:List AV) (p:Pl)
 |jM (o:U) (p:Pl)
 |sh (p:Pl)
 |rm (p:Pl)
 |lk (m:List<|Int×Int) (p:Pl)
 |mu (m:List<|Int×Int) (p:Pl)
 |ls (l:List<|Nat×AV) (o:List<|Nat×Option U) (nx:Nat) (p:Pl)
 |rn (l0:List<|Nat×AV) (o0:List<|Nat×Option U) (l:List<|Nat×AV) (o:List<|Nat×Option U) (bJ nx:Nat) (p:Pl)
 |bk (l:List<|Nat×AV) (o:List<|Nat×Option U) (nx:Nat) (p:Pl)
 |cy (v:AV) (s2:AS) (p:Pl)
 |Rm (p:Pl)
 |kt (y v':AV) (p:Pl)
 |nt (v:Option AV) (res:AV->AV) (p:Pl)
 |Ro (m:List<|Int×Int) (p q:Pl)
 |Rp (m:List<|Int×Int) (p:Pl)
 |so (p:Pl)
 |s3 (p:Pl)
 |ao (L1 L2 l:List AV) (p:Pl)
 |an (L1 L2 l:List AV) (p:Pl)
 |il (p:Pl)
 |rt (k:Nat) (p:Pl)
 |cut (p:Pl)
inductive Am where
 |fr (f nt:Nat) (K:List Item) (t:Tr AV) (s:AS)
 |rg (f nt:Nat) (K:List Item) (ops:Array Oper) (D:Option<|List bI) (i:Nat) (t:Tr AV) (s:AS)
structure Env where
 P:Program
 sp:Sp
 F:Nat->Option (List AV)
 mv:FuncId->Option (List AV->Option AV)
 jn:FuncId->Bool
 ck:AS->Bool
 cs:AS->AS
 lo:Nat
 fg:Bool
 tt:FuncId->Option (Nat×(AV->List AV->Option (AV×AV)))
 tn:FuncId->Option (Nat×(List AV->Option (Option AV×(AV->AV))))
 n0:Nat
def uf(nx:Nat)(l:List<|Nat×AV)(o:List<|Nat×Option U):Prop:=∀r:Nat->Nat,(∀k,k<nx->r k=k)->(∀k,top<=k->r k=k)->(∀p∈l,cn r p.2 p.2)/\(∀p∈o,∀x,p.2=some x->fX r x x)
def kW(F:Nat->Option (List AV))(lo bJ:Nat)(l0:List<|Nat×AV)(o0:List<|Nat×Option U)(l:List<|Nat×AV)(o:List<|Nat×Option U)(nx:Nat):Prop:=
 ∃(fz:fN) (r:Nat->Nat),(∀k,k<lo->r k=k)/\(∀k,nx<=k->k<top->bJ<=r k/\r k<top)/\(∀k,top<=k->r k=k)/\nx<=top/\(∀p∈l,p.1<top/\∃x,(p.1,x)∈l0/\ju fz r x p.2)/\
  (∀p∈o,p.1<top/\∀y,p.2=some y->r p.1<top/\y.gQ=true/\∃x,(r p.1,some x)∈o0/\gU x y/\jv fz r x y)/\
  (∀p∈o,∀q∈o,p.2≠none->q.2≠none->r p.1=r q.1->p.1=q.1)/\
  (∀p∈fz,p.1<top/\F p.2.1=some p.2.2/\∃N t z,(p.1,some<|.cells N t z)∈o0/\∀i x,p.2.2[i]? =some x->i<N/\cellAt t z i=some x/\x.bB=true/\x.bV=true)/\
  (∀p∈fz,∀q∈o,q.2≠none->r q.1≠p.1)
def I7(n k:Nat)(v:AV)(s:AS):AS:=fS n (some<|.tok k v)<|aV n s
def Rq(k:Nat)(v:AV)(s:AS):AS:=⟨s.h.put s.nx<|some<|.tok k v,s.nx+1,s.mark,s.rd,s.wr⟩
def I8(res:AV->AV)(s:AS):Option AV->AV
 |none=>res<|.ptr none
 |some _=>res<|.ptr<|some (s.nx,0)
def I9(k:Nat)(s:AS):Option AV->AS
 |none=>s
 |some v=>Rq k v s
structure Env.Ok (E:Env):Prop where
 mv:∀g val args v s n,E.mv g=some val->val args=some v->E.ck s=true->br E.P E.sp E.F (n+1) (.fn g) args s= .ok v (E.cs s)
 tt:∀g q m v rest y v' s n,E.tt g=some q->E.ck s=true->Nat.ble E.n0 m=true->Nat.blt m (E.cs s).nx=true->Nat.blt m top=true->(E.cs s).h.get m=some (.tok q.1 v)->q.2 v rest=some (y,v')->
  br E.P E.sp E.F (n+1) (.fn g) (.ptr (some (m,0))::rest) s= .ok y (I7 m q.1 v'<|E.cs s)
 tn:∀g q args v res s n,E.tn g=some q->E.ck s=true->Nat.blt (E.cs s).nx top=true->q.2 args=some (v,res)->br E.P E.sp E.F (n+1) (.fn g) args s= .ok (I8 res (E.cs s) v) (I9 q.1 (E.cs s) v)
 jn:∀g,E.jn g=true->E.sp g=some (fun _ args=>nN args)
def wo{α:Type}(o:Option α)(k:α->Prop):Prop:= @Option.rec α (fun _=>Prop) False k o
def wr{α:Type}(r:R α)(k:α->AS->Prop):Prop:= @R.rec α (fun _=>Prop) False k r
def wb(b:Bool)(k:Prop):Prop:= @Bool.rec (fun _=>Prop) False k b
def Kt:=AV->AS->Pl->Prop
def ug:=AF->AS->Pl->Prop
def Rec:=Nat->Am->Pl->List ResultVar->Kt->ug->Prop
def o7(op:Op):Option<|BinOp×TypeId×Operand×Operand×TypeId:=match op with
 | .binOp o ty x y yt=>some (o,ty,x,y,yt)
 |_=>none
def callParts(op:Op):Option<|Operand×Array Operand×Array TypeId:=match op with
 | .call ⟨.value fo,xs,ts⟩=>some (fo,xs,ts)
 |_=>none
def Dd(fi args ca:List AV):List AV:=match fi,ca with
 |[],[]=>args
 |_,_=>fi++args++ca
def De(v:AV):Option<|FuncId×List AV×List AV:=match v with
 | .func (.func g) fi ca=>some (g,fi,ca)
 |_=>none
def asInt(v:AV):Option<|IntKind×Int:=match v with
 | .int k n=>some (k,n)
 |_=>none
def rh(v:AV):Option ByteArray:=match v with
 | .str b=>some b
 |_=>none
def asAgg(v:AV):Option<|List AV:=match v with
 | .agg l=>some l
 |_=>none
def asSlice(v:AV):Option<|Option (Nat×Nat)×Nat×bc:=match v with
 | .slice a n c=>some (a,n,c)
 |_=>none
def CP(x:bK):Option<|Nat×Nat×List Item×Tr AV:=match x with
 | .go ⟨f,t,nt,K,[],none⟩=>some (f,nt,K,t)
 |_=>none
def CR(x:bK):Option<|AF×Option Code:=match x with
 | .leave fr j=>some (fr,j)
 |_=>none
def BX(K:List Item):Option<|Array Oper×Bool×List Item:=match K with
 | .code (.region _ ops d)::K=>some (ops,d,K)
 |_=>none
def Df(l:List AV):Option<|AV×AV:=match l with
 |[x,y]=>some (x,y)
 |_=>none
def Dg(o:BinOp)(a b:Int):Option Prop:=match o with
 | .lss=>some<|a<b
 | .leq=>some<|a<=b
 | .gtr=>some<|a>b
 | .geq=>some<|a>=b
 | .eql=>some<|a=b
 | .neq=>some<|a≠b
 |_=>none
def cB(D:Option<|List bI)(s:AS):AS:=match D with
 |none=>s
 |some _=>zf s
def pI(D:Option<|List bI)(s s1:AS):AS:=match D with
 |none=>s1
 |some _=>oa s s1
def zL(D:Option<|List bI)(i:Nat)(s s1:AS):Option<|List bI:=match D with
 |none=>none
 |some acc=>some<|acc++[wM i s s1]
def Ia(d:Bool):Option<|List bI:=match d with
 |true=>some []
 |false=>none
def Dh(P:Program)(Sy:aD)(nt:Nat)(ops:Array Oper)(D:Option<|List bI)(i n:Nat)(t:Tr AV):M<|Tr AV×Option (List bI):=match D with
 |none=>fun s=>match jq P Sy nt ops i n t s with
  | .ok t s=>.ok (t,none) s
  | .bad=>.bad
 |some acc=>fun s=>match mb P Sy nt ops i n t s with
  | .ok x s=>.ok (x.1,some<|acc++x.2) s
  | .bad=>.bad
def Ib(ops:Array Oper)(D:Option<|List bI):Bool:=match D with
 |none=>true
 |some acc=>j0 (Region.before ops) acc acc
def ri(n:Nat):Option Nat:=match n with
 |0=>none
 |n+1=>some n
def kM(t:Tr AV)(op:Op):Option<|FuncId×List AV:=match callParts op with
 |none=>none
 |some x=>match ak t x.1 with
  |none=>none
  |some fv=>match De fv with
   |none=>none
   |some g=>match eB (ak t) x.2.1.toList with
    |none=>none
    |some args=>some (g.1,Dd g.2.1 args g.2.2)
def BY(t:Tr AV)(op:Op):Option<|Nat×List AV:=match callParts op with
 |none=>none
 |some x=>match ak t x.1 with
  |some (.yield l)=>(match eB (ak t) x.2.1.toList with
   |none=>none
   |some args=>some (l,args))
  |_=>none
def vB(op:Op):Option<|TypeId×Operand×Operand:=match op with
 | .indexAddr ty x y=>some (ty,x,y)
 |_=>none
def vh(op:Op):Option<|TypeId×Operand:=match op with
 | .load ty a=>some (ty,a)
 |_=>none
def A4(op:Op):Option<|TypeId×Operand×Operand:=match op with
 | .store ty a x=>some (ty,a,x)
 |_=>none
def tf(op:Op):Option<|Operand×Operand×Array TypeId:=match op with
 | .call ⟨.builtin .append,xs,ts⟩=>match xs.toList with
  |[x,y]=>some (x,y,ts)
  |_=>none
 |_=>none
def Di(v:AV):Option<|Nat×Nat×Nat×Nat:=match v with
 | .slice (some (n,0)) len (.bA m k)=>some (n,len,m,k)
 |_=>none
def Ci(v:AV):Option Nat:=match v with
 | .slice (some (m,0)) 1 (.known 1)=>some m
 |_=>none
def tg(P:Program)(ts:Array TypeId):Option<|Nat×Nat:=match ts[0]? with
 |some ty=>match P.underlying ty with
  |some (.slice e)=>match P.info? e with
   |some i=>match lI i&&(jk P ts[1]? && !(Nat.beq i.bytes 0)) with
    |true=>some (i.size,i.bytes)
    |false=>none
   |none=>none
  |_=>none
 |none=>none
def vY(v:AV):Option<|Nat×Nat×Nat:=match v with
 | .b9 n o k=>some (n,o,k)
 |_=>none
def Cj(v:AV):Option<|Nat×Nat:=match v with
 | .jx n o=>some (n,o)
 |_=>none
def iK(P:Program)(ty:TypeId):Option Nat:=match P.underlying ty with
 |some (.slice e)=>bW P e
 |_=>none
def CS(P:Program)(ty:TypeId):Option<|Nat×Nat:=match P.underlying ty with
 |some (.array n e)=>(bW P e).map fun k=>(n,k)
 |_=>none
def cellsOf(o:Option U)(off k:Nat):Option<|List AV:=match o with
 |some (.cells m t z)=>(match Nat.ble (off+k) m with|true=>eF t z k off|false=>none)
 |_=>none
def gW(o:Option U)(off:Nat)(l:List AV):Option U:=match o with
 |some (.cells m t z)=>(match (Nat.ble (off+l.length) m&&(Nat.ble m top&&l.all AV.bB)) with|true=>some (.cells m (Tr.fill l off t) z)|false=>none)
 |_=>none
def eK(F:Nat->Option (List AV))(n off k:Nat):Option<|List AV:=match F n with
 |some l=>(match Nat.ble (off+k) l.length with|true=>some ((l.drop off).take k)|false=>none)
 |none=>none
def oc(k:Nat):Bool:=Nat.blt 0 k
def wT(ag:Bool)(cs:List AV):Option AV:=match ag with
 |true=>some<|.agg cs
 |false=>one cs
def vR(P:Program)(ty:TypeId)(ag:Bool):Option Nat:=match ag with
 |true=>bW P ty
 |false=>some 1
def Ck(o:Option U):Bool:=match o with
 |none=>true
 |some o=>o.gQ
def Qe(φ:Prop)(E:Env)(n:Nat)(g:FuncId)(args:List AV)(s:AS)(v1:AV)(L1:List<|Nat×Option U)(v2:AV)(L2:List<|Nat×Option U)(dO:Nat)(R W:List Nat):Prop:=∃rd wr,(∀k∈rd,k∈R)/\(∀k∈wr,k∈W)/\((φ/\br E.P E.sp E.F n (.fn g) args s= .ok v1 ⟨wK s.h L1,dO,s.mark,rd,wr⟩)\/br E.P E.sp E.F n (.fn g) args s= .ok v2 ⟨wK s.h L2,dO,s.mark,rd,wr⟩)
def zM(dr:Bool)(s:AS)(h:Tr U)(R W:List Nat):AS:=match dr with
 |true=>⟨h,s.nx+1,s.mark,R,W⟩
 |false=>⟨h,s.nx+1,s.mark,s.rd,s.wr⟩
def ox(v:AV):Option<|Nat×Nat×bc:=match v with
 | .slice (some (n,0)) len cap=>some (n,len,cap)
 |_=>none
def yj(op:Op):Option<|TypeId×Operand×Option Operand×Option Operand:=match op with
 | .slice ty x lo hi none=>some (ty,x,lo,hi)
 |_=>none
def AW(op:Op):Option<|TypeId×Operand×Operand×Operand:=match op with
 | .slice ty x none (some hi) (some mx)=>some (ty,x,hi,mx)
 |_=>none
def kept(c:bc):Bool:=match c with
 | .lost=>false
 |_=>true
def mU(t:Tr AV)(o:Option Operand)(d:Int):Option Int:=match o with
 |none=>some d
 |some y=>match ak t y with
  |some (.int _ n)=>some n
  |_=>none
def Bi(op:Op):Option<|TypeId×Operand×Operand:=match op with
 | .lookup ty x i false=>some (ty,x,i)
 |_=>none
def yk(op:Op):Option<|TypeId×Operand×Operand:=match op with
 | .lookup ty x i true=>some (ty,x,i)
 |_=>none
def vD(op:Op):Option<|TypeId×Operand×Operand×Operand:=match op with
 | .mapUpdate ty x i y=>some (ty,x,i,y)
 |_=>none
def BZ(op:Op):Option<|TypeId×Operand×Operand:=match op with
 | .makeSlice ty l c=>some (ty,l,c)
 |_=>none
def tQ(v:AV):Option Nat:=match v with
 | .map (some n)=>some n
 |_=>none
def tG(P:Program)(ty:TypeId):Option<|TypeId×TypeId:=match P.underlying ty with
 |some (.map k e)=>some (k,e)
 |_=>none
def pD(k:IntKind):Bool:=match k with
 | .i64=>true
 |_=>false
def zN(v:Option AV):Bool:=match v with
 |some (.int .i64 (.ofNat 0))=>true
 |_=>false
def B0(l:List AV):Option<|Nat×List AV:=match l with
 | .ptr (some (n,0))::r=>some (n,r)
 |_=>none
def CT(o:Option U):Option<|Nat×AV:=match o with
 |some (.tok k v)=>some (k,v)
 |_=>none
def Ja(E:Env)(dr:Bool)(ih:Rec)(n:Nat)(nx:AV->AS->Pl->Prop)(s:AS)(t:Tr AV)(op:Op)(p:Pl):Prop:=match p with
 | .fk p q=>wo (o7 op) fun x=>wo (ak t x.2.2.1) fun a=>wo (ak t x.2.2.2.1) fun b=>wo (asInt a) fun a=>wo (asInt b) fun b=>wb (decide<|a.1=b.1)<|wo (Dg x.1 a.2 b.2) fun c=>(c->nx (.bool true) s p)/\(¬c->nx (.bool false) s q)
 | .vl v p=>wr ((bz E.P op).val (br E.P E.sp E.F n) t s) fun v' s1=>v'=v/\nx v s1 p
 | .kn v p=>wo (kM t op) fun x=>wo (ri n) fun _=>wo (E.mv x.1) fun val=>wb (E.ck s)<|val x.2=some v/\nx v (E.cs s) p
 | .kp c d p q=>wo (kM t op) fun x=>wo (ri n) fun _=>wo (E.mv x.1) fun val=>wb (E.ck s)<|val x.2=some (.bool<|@decide c d)/\(c->nx (.bool true) (E.cs s) p)/\(¬c->nx (.bool false) (E.cs s) q)
 | .ca k m p=>wo (o7 op) fun x=>wb (match x.1 with| .add=>true|_=>false)<|wo (ak t x.2.2.1) fun a=>wo (ak t x.2.2.2.1) fun b=>wo (rh a) fun a=>wo (rh b) fun b=>wb (Nat.ble (k+m) room)<|a.size<=k/\b.size<=m/\nx (.str<|a++b) s p
 | .ef p q=>wo (o7 op) fun x=>wo (ak t x.2.2.1) fun a=>wo (ak t x.2.2.2.1) fun b=>wo (asAgg a) fun xs=>wo (asAgg b) fun ys=>wb (qF E.P x.1 x.2.1 x.2.2.1 x.2.2.2.1 (.agg xs)<|.agg ys)<|wb (vA E.P x.2.1)<|wb (!E.P.stoodInHeld x.2.1) (wo (qM E.P xs ys<|fieldsOf E.P x.2.1) fun l=>match x.1 with
  | .eql=>(allEq l=true->nx (.bool true) s p)/\(allEq l=false->nx (.bool false) s q)
  | .neq=>(allEq l=true->nx (.bool false) s p)/\(allEq l=false->nx (.bool true) s q)
  |_=>False)
 | .jn v p=>wo (kM t op) fun x=>wo (ri n) fun _=>wb (E.jn x.1)<|wo (Df x.2) fun y=>wo (asSlice y.1) fun a=>wo (rh y.2) fun sep=>wb (Nat.ble a.2.1<|eG a.2.1 a.2.2)<|wr (firstCells 1 a.2.1 (.slice a.1 a.2.1 a.2.2) s) fun l s1=>wo (qK l) fun ts=>(⟨(lH sep.data.toList ts).toArray⟩:ByteArray)=v/\(lH sep.data.toList ts).length+a.2.1<=1048576/\nx (.str v) s1 p
 | .ss p=>wo (o7 op) fun x=>wb (match x.1 with| .eql=>true|_=>false)<|wo (ak t x.2.2.1) fun a=>wo (ak t x.2.2.2.1) fun b=>wo (rh a) fun a=>wo (rh b) fun b=>a=b/\nx (.bool true) s p
 | .cu v s2 p=>wo (kM t op) fun x=>br E.P E.sp E.F n (.fn x.1) x.2 s= .ok v s2/\nx v s2 p
 | .cg v F Q p=>wo (kM t op) fun x=>(∀s,Q s->br E.P E.sp E.F n (.fn x.1) x.2 s= .ok v (F s))/\Q s/\nx v (F s) p
 | .lx v F Q p=>wo (yk op) fun x=>wo (ak t x.2.1) fun a=>wo (ak t x.2.2) fun i=>(∀s,Q s->jR E.P x.1 a i true s= .ok v (F s))/\Q s/\nx v (F s) p
 | .mx F Q p=>wo (vD op) fun x=>wo (ak t x.2.1) fun a=>wo (ak t x.2.2.1) fun i=>wo (ak t x.2.2.2) fun y=>(∀s,Q s->iJ E.P x.1 a i y s= .ok () (F s))/\Q s/\nx (.tuple []) (F s) p
 | .ml v F Q p=>wo (BZ op) fun x=>wo (ak t x.2.1) fun a=>wo (ak t x.2.2) fun b=>(∀s,Q s->makeSlice E.P x.1 a b s= .ok v (F s))/\Q s/\nx v (F s) p
 | .c2 φ v1 L1 v2 L2 dO R W p q=>wb dr<|wo (kM t op) fun x=>Qe φ E n x.1 x.2 s v1 L1 v2 L2 dO R W/\(φ->nx v1 ⟨wK s.h L1,dO,s.mark,R,W⟩ p)/\nx v2 ⟨wK s.h L2,dO,s.mark,R,W⟩ q
 | .ap _ enc l c p=>wo (tf op) fun x=>wo (ak t x.1) fun a=>wo (Di a) fun a=>wo (ak t x.2.1) fun b=>wo (Ci b) fun m=>wo (tg E.P x.2.2) fun i=>wb (Nat.beq a.2.2.2 i.1&&(oc i.1&&(Nat.blt a.1 s.nx&&(Nat.blt m s.nx&&(Nat.blt s.nx top&&(dr||Nat.beq s.mark 0))))))<|a.2.1=l.length/\a.2.2.1=l.length/\s.h.get a.1=some (aG enc l)/\s.h.get m=some (.cells (enc c).length (Tr.fill (enc c) 0 .nil) [])/\(∀x,(enc x).length=i.1/\(enc x).all AV.bB=true)/\2*(l.length+1)*i.2+4096*i.2<=room/\(l.length+1)*i.1<=top/\nx (.slice (some (s.nx,0)) (l++[c]).length<|.bA (l++[c]).length i.1) (zM dr s ((s.h.put a.1 none).put s.nx<|some<|aG enc<|l++[c]) [a.1,m] [a.1]) p
 | .ix p=>wo (vB op) fun x=>wo (ak t x.2.1) fun a=>wo (asSlice a) fun a=>wo a.1 fun ad=>wo (ak t x.2.2) fun z=>wo (asInt z) fun z=>wo (iK E.P x.1) fun K=>wb (Nat.beq ad.2 0)<|0<=z.2/\z.2<(Int.ofNat a.2.1)/\nx (.ptr<|some (ad.1,z.2.toNat*K)) s p
 | .a9 p=>wo (vB op) fun x=>wo (ak t x.2.1) fun a=>wo (vY a) fun a=>wo (ak t x.2.2) fun z=>wo (asInt z) fun z=>wo (iK E.P x.1) fun K=>0<=z.2/\z.2<(Int.ofNat a.2.2)/\nx (.jx a.1<|a.2.1+z.2.toNat*K) s p
 | .ld cs p=>wo (vh op) fun x=>wo (ak t x.2) fun a=>wo (addrOf a) fun a=>wo (ke E.P x.1) fun ag=>wo (vR E.P x.1 ag) fun k=>wb (oc k)<|wb (Nat.blt a.1 s.nx)<|wo (wT ag cs) fun v=>cellsOf (s.h.get a.1) a.2 k=some cs/\nx v (aV a.1 s) p
 | .jL b p q=>wo (vh op) fun x=>wo (ak t x.2) fun a=>wo (addrOf a) fun a=>wo (ke E.P x.1) fun ag=>wb (!ag)<|wb (Nat.blt a.1 s.nx)<|cellsOf (s.h.get a.1) a.2 1=some [.bool b]/\(b=true->nx (.bool true) (aV a.1 s) p)/\(b=false->nx (.bool false) (aV a.1 s) q)
 | .ba cs p=>wo (vh op) fun x=>wo (ak t x.2) fun a=>wo (Cj a) fun a=>wo (ke E.P x.1) fun ag=>wo (bW E.P x.1) fun _=>wo (vR E.P x.1 ag) fun k=>wo (wT ag cs) fun v=>top<=a.1/\eK E.F a.1 a.2 k=some cs/\nx v s p
 | .jM o p=>wo (A4 op) fun x=>wo (ak t x.2.1) fun a=>wo (addrOf a) fun a=>wo (ak t x.2.2) fun v=>wo (bW E.P x.1) fun k=>wb (Nat.beq v.cells.length k)<|wb (oc k)<|wb (Nat.blt a.1 s.nx)<|wb (Nat.blt a.1 top)<|gW (s.h.get a.1) a.2 v.cells=some o/\nx iI (fS a.1 (some o)<|aV a.1 s) p
 | .sh p=>wo (o7 op) fun x=>wb (kH x.1)<|wo (ak t x.2.2.1) fun a=>wo (ak t x.2.2.2.1) fun b=>wo (asInt a) fun a=>wo (asInt b) fun b=>0<=b.2/\nx (.int a.1<|wO x.1 a.1 a.2 b.2) s p
 | .rm p=>wo (o7 op) fun x=>wb (match x.1 with| .rem=>true|_=>false)<|wo (ak t x.2.2.1) fun a=>wo (ak t x.2.2.2.1) fun b=>wo (asInt a) fun a=>wo (asInt b) fun b=>wb (decide<|a.1=b.1)<|b.2≠0/\nx (.int a.1<|Int.tmod a.2 b.2) s p
 | .al _ enc l L p=>wo (tf op) fun x=>wo (ak t x.1) fun a=>wo (ox a) fun a=>wo (ak t x.2.1) fun b=>wo (vY b) fun b=>wo (tg E.P x.2.2) fun i=>wb (Cz i.1 a.2.1 a.2.2&&(Nat.blt a.1 s.nx&&(Nat.blt s.nx top&&(dr||Nat.beq s.mark 0))))<|a.2.1=l.length/\s.h.get a.1=some (aG enc l)/\top<=b.1/\eK E.F b.1 b.2.1 (b.2.2*i.1)=some (L.map enc).flatten/\b.2.2=L.length/\(∀x,(enc x).length=i.1/\(enc x).all AV.bB=true)/\2*(l.length+L.length)*i.2+4096*i.2<=room/\(l.length+L.length)*i.1<=top/\nx (.slice (some (s.nx,0)) (l++L).length<|.bA (l++L).length i.1) (zM dr s ((s.h.put a.1 none).put s.nx<|some<|aG enc<|l++L) [a.1] [a.1]) p
 | .sf lo hi p=>wo (yj op) fun x=>wo (ak t x.2.1) fun a=>wo (vY a) fun a=>wo (iK E.P x.1) fun K=>wo (mU t x.2.2.1 0) fun gy=>wo (mU t x.2.2.2<|Int.ofNat a.2.2) fun bP=>gy=lo/\bP=hi/\top<=a.1/\0<=lo/\lo<=hi/\hi<=(Int.ofNat a.2.2)/\nx (.b9 a.1 (a.2.1+lo.toNat*K)<|hi.toNat - lo.toNat) s p
 | .lk m p=>wo (Bi op) fun x=>wo (ak t x.2.1) fun a=>wo (tQ a) fun n=>wo (ak t x.2.2) fun i=>wo (asInt i) fun i=>wo (tG E.P x.1) fun y=>wb (fh E.P 10000 y.1 (.int .i64 i.2)&&(plainKey E.P y.1 (.int .i64 i.2)&&(pD i.1&&(zN (eT E.P y.2)&&Nat.blt n s.nx))))<|s.h.get n=some (ou m)/\nx (.int .i64<|getM m i.2) (aV n s) p
 | .mu m p=>wo (vD op) fun x=>wo (ak t x.2.1) fun a=>wo (tQ a) fun n=>wo (ak t x.2.2.1) fun i=>wo (asInt i) fun i=>wo (ak t x.2.2.2) fun v=>wo (asInt v) fun v=>wo (tG E.P x.1) fun y=>wb (fh E.P 10000 y.1 (.int .i64 i.2)&&(plainKey E.P y.1 (.int .i64 i.2)&&(pD i.1&&(pD v.1&&(Nat.blt n s.nx&&Nat.blt n top)))))<|s.h.get n=some (ou m)/\nx (.tuple []) (fS n (some<|ou<|iv m i.2 v.2)<|aV n s) p
 | .cy v s2 p=>wo (BY t op) fun x=>br E.P E.sp E.F n (.round x.1) x.2 s= .ok v s2/\nx v s2 p
 | .Rm p=>wo (vB op) fun x=>wo (ak t x.2.1) fun a=>wo (addrOf a) fun a=>wo (ak t x.2.2) fun z=>wo (asInt z) fun z=>wo (CS E.P x.1) fun K=>0<=z.2/\z.2<(Int.ofNat K.1)/\nx (.ptr<|some (a.1,a.2+z.2.toNat*K.2)) s p
 | .kt y v' p=>wo (kM t op) fun x=>wo (ri n) fun _=>wo (E.tt x.1) fun q=>wo (B0 x.2) fun z=>wo (CT<|(E.cs s).h.get z.1) fun u=>wb (E.ck s&&(Nat.beq q.1 u.1&&(Nat.ble E.n0 z.1&&(Nat.blt z.1 (E.cs s).nx&&Nat.blt z.1 top))))<|q.2 u.2 z.2=some (y,v')/\nx y (I7 z.1 q.1 v'<|E.cs s) p
 | .nt v res p=>wo (kM t op) fun x=>wo (ri n) fun _=>wo (E.tn x.1) fun q=>wb (E.ck s&&Nat.blt (E.cs s).nx top)<|q.2 x.2=some (v,res)/\nx (I8 res (E.cs s) v) (I9 q.1 (E.cs s) v) p
 | .Ro m p q=>wo (yk op) fun x=>wo (ak t x.2.1) fun a=>wo (tQ a) fun n=>wo (ak t x.2.2) fun i=>wo (asInt i) fun i=>wo (tG E.P x.1) fun y=>wb (fh E.P 10000 y.1 (.int .i64 i.2)&&(plainKey E.P y.1 (.int .i64 i.2)&&(pD i.1&&(zN (eT E.P y.2)&&Nat.blt n s.nx))))<|s.h.get n=some (pC m)/\(kV m i.2=true->nx (.tuple [.int .i64<|getM m i.2,.bool true]) (aV n s) p)/\(kV m i.2=false->nx (.tuple [.int .i64 0,.bool false]) (aV n s) q)
 | .Rp m p=>wo (vD op) fun x=>wo (ak t x.2.1) fun a=>wo (tQ a) fun n=>wo (ak t x.2.2.1) fun i=>wo (asInt i) fun i=>wo (ak t x.2.2.2) fun v=>wo (asInt v) fun v=>wo (tG E.P x.1) fun y=>wb (fh E.P 10000 y.1 (.int .i64 i.2)&&(plainKey E.P y.1 (.int .i64 i.2)&&(pD i.1&&(pD v.1&&(Nat.blt n s.nx&&Nat.blt n top)))))<|s.h.get n=some (pC m)/\nx (.tuple []) (fS n (some<|pC<|iv m i.2 v.2)<|aV n s) p
 | .so p=>wo (yj op) fun x=>wo (ak t x.2.1) fun a=>wo (ox a) fun a=>wo (iK E.P x.1) fun _=>wo (mU t x.2.2.1 0) fun lo=>wo (mU t x.2.2.2<|Int.ofNat a.2.1) fun hi=>wb (kept a.2.2)<|lo=0/\0<=hi/\hi<=Int.ofNat (eG a.2.1 a.2.2)/\nx (.slice (some (a.1,0)) hi.toNat a.2.2) s p
 | .s3 p=>wo (AW op) fun x=>wo (ak t x.2.1) fun a=>wo (ox a) fun a=>wo (iK E.P x.1) fun _=>wo (ak t x.2.2.1) fun hi=>wo (asInt hi) fun hi=>wo (ak t x.2.2.2) fun mx=>wo (asInt mx) fun mx=>wb (kept a.2.2)<|0<=hi.2/\hi.2<=mx.2/\mx.2<=Int.ofNat (eG a.2.1 a.2.2)/\nx (.slice (some (a.1,0)) hi.2.toNat<|.known mx.2.toNat) s p
 | .ao L1 L2 l p=>wo (tf op) fun x=>wo (ak t x.1) fun a=>wo (ox a) fun a=>wo (ak t x.2.1) fun b=>wo (ox b) fun b=>wo (tg E.P x.2.2) fun i=>wb (Nat.blt a.1 s.nx&&(Nat.blt b.1 s.nx&&(Nat.blt s.nx top&&(dr||Nat.beq s.mark 0))))
  (a.2.2= .known a.2.1/\1<=b.2.1/\s.h.get a.1=some (.cells L1.length (Tr.fill L1 0 .nil) [])/\s.h.get b.1=some (.cells L2.length (Tr.fill L2 0 .nil) [])/\L1.length<=top/\L2.length<=top/\a.2.1*i.1<=L1.length/\b.2.1*i.1<=L2.length/\
   L1.take (a.2.1*i.1)++L2.take (b.2.1*i.1)=l/\l.all AV.bB=true/\2*(a.2.1+b.2.1)*i.2+4096*i.2<=room/\l.length<=top/\
   nx (.slice (some (s.nx,0)) (a.2.1+b.2.1)<|.bA (a.2.1+b.2.1) i.1) (zM dr s (s.h.put s.nx<|some<|.cells l.length (Tr.fill l 0 .nil) []) [a.1,b.1] []) p)
 | .an L1 L2 l p=>wo (tf op) fun x=>wo (ak t x.1) fun a=>wo (ox a) fun a=>wo (ak t x.2.1) fun b=>wo (ox b) fun b=>wo (tg E.P x.2.2) fun i=>wb (oc i.1&&(Nat.blt a.1 s.nx&&(Nat.blt b.1 s.nx&&Nat.blt s.nx top)))
  (a.2.2= .known a.2.1/\1<=a.2.1/\1<=b.2.1/\s.h.get a.1=some (.cells L1.length (Tr.fill L1 0 .nil) [])/\s.h.get b.1=some (.cells L2.length (Tr.fill L2 0 .nil) [])/\L1.length<=top/\L2.length<=top/\a.2.1*i.1<=L1.length/\b.2.1*i.1<=L2.length/\
   L1.take (a.2.1*i.1)++L2.take (b.2.1*i.1)=l/\l.all AV.bB=true/\2*(a.2.1+b.2.1)*i.2+4096*i.2<=room/\l.length<=top/\
   nx (.slice (some (s.nx,0)) (a.2.1+b.2.1)<|.bA (a.2.1+b.2.1) i.1) (wR (.cells l.length (Tr.fill l 0 .nil) [])<|aV a.1<|aV b.1 s) p)
 | .il p=>wo (kM t op) fun x=>wo (ri n) fun m=>match E.sp x.1 with
  |some _=>False
  |none=>wo (E.P.funcs[x.1]?) fun fn=>wo fn.body fun body=>wb (!(fn.name == "runtime.NumGoroutine"))<|wb (Nat.ble (max fn.ntmps x.2.length) top)<|ih m (.fr x.1 (max fn.ntmps x.2.length) [.code body] (bt x.2) s) p fn.results.toList nx fun _ _ _=>False
 |_=>False
def DY(E:Env)(ih:Rec)(n:Nat)(c:Am)(p:Pl)(rs:List ResultVar)(k:Kt)(C:ug):Prop:=match c with
 | .fr f nt K t s=>match p with
  | .st j p=>wr (cW E.P (br E.P E.sp E.F n) j ⟨f,t,nt,K,[],none⟩ s) fun x s1=>wo (CP x) fun y=>ih n (.fr y.1 y.2.1 y.2.2.1 y.2.2.2 s1) p rs k C
  | .rg p=>wo (BX K) fun x=>ih n (.rg f nt x.2.2 x.1 (Ia x.2.1) 0 t s) p rs k C
  | .rt j p=>wr (cW E.P (br E.P E.sp E.F n) j ⟨f,t,nt,K,[],none⟩ s) fun x s1=>wo (CR x) fun y=>wr (finish E.P rs y.1 y.2 s1) fun v s2=>k v s2 p
  | .cut p=>C ⟨f,t,nt,K,[],none⟩ s p
  | .ls l o nx p=>wb (E.fg&&(jB top l&&(jB top o&&((Nat.ble s.nx nx&&Nat.ble nx top)&&o.all fun q=>Ck q.2))))<|l.map (fun q=>t.get q.1)=l.map (fun q=>some q.2)/\o.map (fun q=>s.h.get q.1)=o.map (fun q=>q.2)/\C ⟨f,cH l,nt,K,[],none⟩ (ab o nx) p
  | .rn l0 o0 l o bJ nx p=>wb (E.fg&&Nat.beq s.nx bJ)<|l0.map (fun q=>t.get q.1)=l0.map (fun q=>some q.2)/\o0.map (fun q=>s.h.get q.1)=o0.map (fun q=>q.2)/\kW E.F E.lo bJ l0 o0 l o nx/\C ⟨f,cH l,nt,K,[],none⟩ (ab o nx) p
  | .bk l o nx p=>wb (E.fg&&(jB top l&&(jB nx o&&((Nat.ble nx s.nx&&(Nat.blt s.nx top&&Nat.ble E.lo nx))&&o.all fun q=>Ck q.2))))<|l.map (fun q=>t.get q.1)=l.map (fun q=>some q.2)/\o.map (fun q=>s.h.get q.1)=o.map (fun q=>q.2)/\uf nx l o/\C ⟨f,cH l,nt,K,[],none⟩ (ab o nx) p
  |_=>False
 | .rg f nt K ops D i t s=>match p with
  | .go m p=>wb (Nat.ble (i+m) ops.size)<|wr (Dh E.P (br E.P E.sp E.F n) nt ops D i m t s) fun x s1=>ih n (.rg f nt K ops x.2 (i+m) x.1 s1) p rs k C
  | .en p=>wb (Nat.ble ops.size i)<|wb (Ib ops D)<|ih n (.fr f nt K t s) p rs k C
  |p=>wo (oq ops i) fun o=>wb (zu ops o.2.2 t)<|Ja E (D.isSome&&Nat.beq s.mark 0) ih n (fun v s1 p=>wo (dY nt t o.2.1 v) fun t1=>ih n (.rg f nt K ops (zL D i (s) s1) (i+1) t1<|pI D s s1) p rs k C) (cB D s) t o.1 p
def wp(E:Env)(fuel:Nat):Rec:= @Nat.rec (fun _=>Rec) (fun _ _ _ _ _ _=>False) (fun _ ih=>DY E ih) fuel
def fB(P:Program)(Sy:aD)(G:AF->AS->Prop)(f nt:Nat)(K:List Item)(ops:Array Oper)(D:Option<|List bI)(i:Nat)(t:Tr AV)(s:AS):Prop:=match D with
 |none=>ov P Sy G f nt K ops i t s
 |some acc=>jC P Sy G f nt K ops acc i t s
def Rr(P:Program)(Sy:aD)(G:AF->AS->Prop)(c:Am):Prop:=match c with
 | .fr f nt K t s=>G ⟨f,t,nt,K,[],none⟩ s
 | .rg f nt K ops D i t s=>fB P Sy G f nt K ops D i t s
end
theorem ax{α:Type}{o:Option α}{k:α->Prop}(h:wo o k):∃x,o=some x/\k x:=by
 cases o with
 |none=>exact h.elim
 |some x=>exact⟨x,rfl,h⟩
theorem tH{α:Type}{r:R α}{k:α->AS->Prop}(h:wr r k):∃x s,r= .ok x s/\k x s:=by
 cases r with
 |bad=>exact h.elim
 |ok x s=>exact⟨x,s,rfl,h⟩
theorem ct{b:Bool}{k:Prop}(h:wb b k):b=true/\k:=by
 cases b with
 |false=>exact h.elim
 |true=>exact⟨rfl,h⟩
theorem NA(fi args ca:List AV):Dd fi args ca=fi++args++ca:=by
 unfold Dd;split
 ·simp
 ·rfl
theorem MP{v:AV}{g:FuncId×List AV×List AV}(h:De v=some g):v= .func (.func g.1) g.2.1 g.2.2:=by
 unfold De at h;split at h
 ·injection h with h;subst h;rfl
 ·cases h
theorem gN{v:AV}{x:IntKind×Int}(h:asInt v=some x):v= .int x.1 x.2:=by
 unfold asInt at h;split at h
 ·injection h with h;subst h;rfl
 ·cases h
theorem vj{v:AV}{x:ByteArray}(h:rh v=some x):v= .str x:=by
 unfold rh at h;split at h
 ·injection h with h;subst h;rfl
 ·cases h
theorem Ge{v:AV}{x:List AV}(h:asAgg v=some x):v= .agg x:=by
 unfold asAgg at h;split at h
 ·injection h with h;subst h;rfl
 ·cases h
theorem Fc{v:AV}{x:Option (Nat×Nat)×Nat×bc}(h:asSlice v=some x):v= .slice x.1 x.2.1 x.2.2:=by
 unfold asSlice at h;split at h
 ·injection h with h;subst h;rfl
 ·cases h
theorem MQ{l:List AV}{x:AV×AV}(h:Df l=some x):l=[x.1,x.2]:=by
 unfold Df at h;split at h
 ·injection h with h;subst h;rfl
 ·cases h
theorem LW{x:bK}{y:Nat×Nat×List Item×Tr AV}(h:CP x=some y):x= .go ⟨y.1,y.2.2.2,y.2.1,y.2.2.1,[],none⟩:=by
 unfold CP at h;split at h
 ·injection h with h;subst h;rfl
 ·cases h
theorem LX{x:bK}{y:AF×Option Code}(h:CR x=some y):x= .leave y.1 y.2:=by
 unfold CR at h;split at h
 ·injection h with h;subst h;rfl
 ·cases h
theorem Ku{K:List Item}{y:Array Oper×Bool×List Item}(h:BX K=some y):∃id,K= .code (.region id y.1 y.2.1)::y.2.2:=by
 unfold BX at h;split at h
 ·injection h with h;subst h;exact⟨_,rfl⟩
 ·cases h
theorem sY{n m:Nat}(h:ri n=some m):n=m+1:=by
 cases n with
 |zero=>cases h
 |succ n=>injection h with h;subst h;rfl
theorem sP{op:Op}{x:BinOp×TypeId×Operand×Operand×TypeId}(h:o7 op=some x):op= .binOp x.1 x.2.1 x.2.2.1 x.2.2.2.1 x.2.2.2.2:=by
 unfold o7 at h;split at h
 ·injection h with h;subst h;rfl
 ·cases h
theorem Ll{t:Tr AV}{op:Op}{x:FuncId×List AV}(h:kM t op=some x):∃fo xs ts fi args ca,op= .call ⟨.value fo,xs,ts⟩/\ak t fo=some (.func (.func x.1) fi ca)/\eB (ak t) xs.toList=some args/\x.2=fi++args++ca:=by
 unfold kM at h;split at h
 ·cases h
 ·rename_i y hy;have cz:op= .call ⟨.value y.1,y.2.1,y.2.2⟩:=by
   unfold callParts at hy;split at hy
   ·injection hy with hy;subst hy;rfl
   ·cases hy
  split at h
  ·cases h
  ·rename_i fv hf;split at h
   ·cases h
   ·rename_i g hg;split at h
    ·cases h
    ·rename_i args ha;injection h with h;subst h
     exact⟨_,_,_,g.2.1,_,g.2.2,cz,by rw[hf,MP hg],ha,NA _ _ _⟩
section
variable {P:Program} {s s1:AS} {Sy:aD} {t t1:Tr AV} {ops:Array Oper} {f nt i:Nat} {K:List Item} {G:AF->AS->Prop} {D:Option<|List bI}
theorem NB{o:BinOp}{a b:Int}{c:Prop}(h:Dg o a b=some c):∃r,C9 o a b=some r/\(r=true↔c):=by
 unfold Dg at h;split at h<;>first|(injection h with h;subst h)|cases h
 ·exact⟨_,rfl,by rw[decide_eq_true_iff]⟩
 ·exact⟨_,rfl,by rw[decide_eq_true_iff]⟩
 ·exact⟨_,rfl,by rw[decide_eq_true_iff]⟩
 ·exact⟨_,rfl,by rw[decide_eq_true_iff]⟩
 ·exact⟨_,rfl,by simp⟩
 ·exact⟨_,rfl,by simp⟩
theorem fB.op{op:Op}{d:Option Tmp}{g:Option<|Nat×Bool}{v:AV}(ho:oq ops i=some (op,d,g))(hw:zu ops g t=true)(h:(bz P op).val Sy t (cB D s)= .ok v s1)(hp:dY nt t d v=some t1)(H:fB P Sy G f nt K ops (zL D i s s1) (i+1) t1<|pI D s s1):fB P Sy G f nt K ops D i t s:=by
 cases D with
 |none=>exact ov.step (Hd ho) (Of ho hw h hp) H
 |some acc=>exact jC.step (Hd ho) (Nx ho hw h hp) H
theorem fB.go{n:Nat}{x:Tr AV×Option (List bI)}(hn:Nat.ble (i+n) ops.size=true)(h:Dh P Sy nt ops D i n t s= .ok x s1)(H:fB P Sy G f nt K ops x.2 (i+n) x.1 s1):fB P Sy G f nt K ops D i t s:=by
 have hle:=aL.1 hn;unfold Dh at h;cases D with
 |none=>
  simp only at h;split at h
  ·rename_i t2 s2 e;injection h with h1 h2;subst h1;subst h2
   obtain⟨t3,s3,q1,q2⟩:=H;refine⟨t3,s3,?_,q2⟩;rw[show ops.size - i=n+(ops.size - (i+n)) by omega];exact FA e q1
  ·cases h
 |some acc=>
  simp only at h;split at h
  ·rename_i y s2 e;injection h with h1 h2;subst h1;subst h2
   obtain⟨t3,ms,s3,q1,q2,q3⟩:=H;refine⟨t3,_,s3,?_,by rw[←List.append_assoc];exact q2,q3⟩;rw[show ops.size - i=n+(ops.size - (i+n)) by omega];exact GC rfl (by omega) e q1
  ·cases h
theorem fB.done(h:Nat.ble ops.size i=true)(ho:Ib ops D=true)(H:G ⟨f,t,nt,K,[],none⟩ s):fB P Sy G f nt K ops D i t s:=by
 cases D with
 |none=>exact ov.done h H
 |some acc=>exact jC.done (and_true.2 ⟨h,ho⟩) H
theorem fB.Qf(hG:Chunk P Sy G){id:Nat}{d:Bool}(H:fB P Sy G f nt K ops (Ia d) 0 t s):G ⟨f,t,nt,.code (.region id ops d)::K,[],none⟩ s:=by
 cases d with
 |false=>exact Chunk.pV hG (c:=.region id ops false) rfl H
 |true=>exact Chunk.Qb hG (c:=.region id ops true) rfl H
theorem Lm{op:Op}{x:Nat×List AV}{v:AV}(h:BY t op=some x)(hv:Sy (.round x.1) x.2 s= .ok v s1):(bz P op).val Sy t s= .ok v s1:=by
 unfold BY at h;split at h
 ·cases h
 ·rename_i y e;split at h
  ·rename_i l e2;split at h
   ·cases h
   ·rename_i args e3;injection h with h;subst h
    unfold callParts at e;split at e
    ·rename_i fo xs ts;injection e with e;subst e
     show lX fo xs.toList Sy t s=_;unfold lX;simp only at e2 e3;rw[e3,aP,e2,aP];show ib Sy (.yield l) args s=_;exact hv
    ·cases e
  ·cases h
theorem mJ{op:Op}{x:FuncId×List AV}{v:AV}(h:kM t op=some x)(hv:Sy (.fn x.1) x.2 s= .ok v s1):(bz P op).val Sy t s= .ok v s1:=by obtain⟨fo,xs,ts,fi,args,ca,rfl,h1,h2,h3⟩:=Ll h;show lX fo xs.toList Sy t s=_;unfold lX;rw[h2,aP,h1,aP];show Sy (.fn x.1) (fi++args++ca) s=_;rw[←h3];exact hv
end
theorem JT{op:Op}{x:TypeId×Operand×Operand}(h:Bi op=some x):op= .lookup x.1 x.2.1 x.2.2 false:=by
 unfold Bi at h;split at h
 ·injection h with h;subst h;rfl
 ·cases h
theorem Ew{op:Op}{x:TypeId×Operand×Operand}(h:yk op=some x):op= .lookup x.1 x.2.1 x.2.2 true:=by
 unfold yk at h;split at h
 ·injection h with h;subst h;rfl
 ·cases h
theorem AJ{op:Op}{x:TypeId×Operand×Operand×Operand}(h:vD op=some x):op= .mapUpdate x.1 x.2.1 x.2.2.1 x.2.2.2:=by
 unfold vD at h;split at h
 ·injection h with h;subst h;rfl
 ·cases h
theorem Kv{op:Op}{x:TypeId×Operand×Operand}(h:BZ op=some x):op= .makeSlice x.1 x.2.1 x.2.2:=by
 unfold BZ at h;split at h
 ·injection h with h;subst h;rfl
 ·cases h
theorem yz{v:AV}{n:Nat}(h:tQ v=some n):v= .map (some n):=by
 unfold tQ at h;split at h
 ·injection h with h;subst h;rfl
 ·cases h
theorem yl{P:Program}{ty:TypeId}{y:TypeId×TypeId}(h:tG P ty=some y):P.underlying ty=some (.map y.1 y.2):=by
 unfold tG at h;split at h
 ·rename_i e;injection h with h;subst h;exact e
 ·cases h
theorem sZ{k:IntKind}(h:pD k=true):k= .i64:=by
 unfold pD at h;split at h
 ·rfl
 ·cases h
theorem GJ{v:Option AV}(h:zN v=true):v=some (.int .i64 0):=by
 unfold zN at h;split at h
 ·rfl
 ·cases h
theorem AK{op:Op}{x:TypeId×Operand×Operand}(h:vB op=some x):op= .indexAddr x.1 x.2.1 x.2.2:=by
 unfold vB at h;split at h
 ·injection h with h;subst h;rfl
 ·cases h
theorem yb{op:Op}{x:Operand×Operand×Array TypeId}(h:tf op=some x):op= .call ⟨.builtin .append, #[x.1,x.2.1],x.2.2⟩:=by
 unfold tf at h;split at h
 ·rename_i xs ts;split at h
  ·rename_i a b e;injection h with h;subst h
   have:xs= #[a,b]:=Array.ext' e;rw[this]
  ·cases h
 ·cases h
theorem MR{v:AV}{x:Nat×Nat×Nat×Nat}(h:Di v=some x):v= .slice (some (x.1,0)) x.2.1 (.bA x.2.2.1 x.2.2.2):=by
 unfold Di at h;split at h
 ·injection h with h;subst h;rfl
 ·cases h
theorem Ln{v:AV}{m:Nat}(h:Ci v=some m):v= .slice (some (m,0)) 1 (.known 1):=by
 unfold Ci at h;split at h
 ·injection h with h;subst h;rfl
 ·cases h
theorem yc{P:Program}{ts:Array TypeId}{x:Nat×Nat}(h:tg P ts=some x):∃ty e,ts[0]? =some ty/\P.underlying ty=some (.slice e)/\(P.info? e).map (fun i=>(i.size,i.bytes,lI i))=some (x.1,x.2,true)/\jk P ts[1]? =true/\Nat.beq x.2 0=false:=by
 unfold tg at h;split at h
 ·rename_i ty h1;split at h
  ·rename_i e h2;split at h
   ·rename_i i h3;split at h
    ·rename_i hb;injection h with h;subst h
     obtain⟨b1,b2⟩:=and_true.1 hb;obtain⟨b2,b3⟩:=and_true.1 b2;refine⟨ty,e,h1,h2,by rw[h3];simp only[Option.map_some,b1],b2,by simpa using b3⟩
    ·cases h
   ·cases h
  ·cases h
 ·cases h
theorem xY{op:Op}{x:TypeId×Operand}(h:vh op=some x):op= .load x.1 x.2:=by
 unfold vh at h;split at h
 ·injection h with h;subst h;rfl
 ·cases h
theorem JI{op:Op}{x:TypeId×Operand×Operand}(h:A4 op=some x):op= .store x.1 x.2.1 x.2.2:=by
 unfold A4 at h;split at h
 ·injection h with h;subst h;rfl
 ·cases h
theorem Bj{v:AV}{x:Nat×Nat×Nat}(h:vY v=some x):v= .b9 x.1 x.2.1 x.2.2:=by
 unfold vY at h;split at h
 ·injection h with h;subst h;rfl
 ·cases h
theorem Lo{v:AV}{x:Nat×Nat}(h:Cj v=some x):v= .jx x.1 x.2:=by
 unfold Cj at h;split at h
 ·injection h with h;subst h;rfl
 ·cases h
theorem ym{v:AV}{x:Nat×Nat}(h:addrOf v=some x):v= .ptr (some x):=by
 unfold addrOf at h;split at h
 ·injection h with h;subst h;rfl
 ·cases h
theorem Bk{z:Int}{len:Nat}(h1:0<=z)(h2:z<Int.ofNat len):within z len=some z.toNat:=by
 obtain⟨m,rfl⟩:=Int.eq_ofNat_of_zero_le h1;show within (Int.ofNat m) len=some m;have h2:(m:Int)<(len:Int):=h2;unfold within;have:Nat.blt m len=true:=by rw[blt_eq];omega
 simp only[this]
section
variable {P:Program} {s s1:AS} {Sy:aD} {t:Tr AV}
theorem Pn{x:TypeId×Operand×Operand}{n len K:Nat}{cap:bc}{ik:IntKind}{z:Int}(hx:ak t x.2.1=some (.slice (some (n,0)) len cap))(hz:ak t x.2.2=some (.int ik z))(hk:iK P x.1=some K)(h1:0<=z)(h2:z<Int.ofNat len):(bz P<|.indexAddr x.1 x.2.1 x.2.2).val Sy t s= .ok (.ptr<|some (n,z.toNat*K)) s:=by
 show jO P x.1 x.2.1 x.2.2 Sy t s=_;unfold jO;rw[hx,hz,aP,aP];unfold iK at hk;split at hk
 ·rename_i e he;show lift (indexAddr P x.1 (.slice (some (n,0)) len cap)<|.int ik z) s=_;unfold indexAddr intOf;simp only[he,hk,Bk h1 h2,Nat.zero_add];rfl
 ·cases hk
theorem Ov{x:TypeId×Operand×Operand}{n o:Nat}{K:Nat×Nat}{ik:IntKind}{z:Int}(hx:ak t x.2.1=some (.ptr<|some (n,o)))(hz:ak t x.2.2=some (.int ik z))(hk:CS P x.1=some K)(h1:0<=z)(h2:z<Int.ofNat K.1):(bz P<|.indexAddr x.1 x.2.1 x.2.2).val Sy t s= .ok (.ptr<|some (n,o+z.toNat*K.2)) s:=by
 show jO P x.1 x.2.1 x.2.2 Sy t s=_;unfold jO;rw[hx,hz,aP,aP];unfold CS at hk;split at hk
 ·rename_i m e he;cases hs:bW P e with
  |none=>rw[hs] at hk;cases hk
  |some k=>
   rw[hs] at hk;injection hk with hk
   subst hk;show lift (indexAddr P x.1 (.ptr<|some (n,o))<|.int ik z) s=_;unfold indexAddr intOf;simp only[he,hs,Bk h1 h2];rfl
 ·cases hk
theorem Ow{x:TypeId×Operand×Operand}{n o len K:Nat}{ik:IntKind}{z:Int}(hx:ak t x.2.1=some (.b9 n o len))(hz:ak t x.2.2=some (.int ik z))(hk:iK P x.1=some K)(h1:0<=z)(h2:z<Int.ofNat len):(bz P<|.indexAddr x.1 x.2.1 x.2.2).val Sy t s= .ok (.jx n<|o+z.toNat*K) s:=by
 show jO P x.1 x.2.1 x.2.2 Sy t s=_;unfold jO;rw[hx,hz,aP,aP];unfold iK at hk;split at hk
 ·rename_i e he;show lift (indexAddr P x.1 (.b9 n o len)<|.int ik z) s=_;unfold indexAddr intOf;simp only[he,hk,Bk h1 h2];rfl
 ·cases hk
theorem EN{n off k:Nat}{cs:List AV}(hk:oc k=true)(hn:Nat.blt n s.nx=true)(h:cellsOf (s.h.get n) off k=some cs):dG n off k s= .ok cs (aV n s):=by
 cases k with
 |zero=>cases hk
 |succ k=>
  unfold cellsOf at h;split at h
  ·rename_i m tt z hg;split at h
   ·rename_i hb;show((aY n).bind fun o=>match o with
     | .cells m t z=>ay (Nat.ble (off+(k+1)) m) <| lift (eF t z (k+1) off)
     | .ro m t=>ay (Nat.ble (off+(k+1)) m) <| lift (eF t [] (k+1) off)
     |_=>fail) s=_
    rw[M.bo<|jV hn hg];show ay (Nat.ble (off+(k+1)) m) (lift<|eF tt z (k+1) off) (aV n s)=_;rw[hb,bC,h];rfl
   ·cases h
  ·cases h
theorem Lp{ty:TypeId}{n off k:Nat}{cs:List AV}{ag:Bool}{v:AV}(hg:ke P ty=some ag)(hw:vR P ty ag=some k)(hk:oc k=true)(hn:Nat.blt n s.nx=true)(hv:wT ag cs=some v)(h:cellsOf (s.h.get n) off k=some cs):loadVar P ty n off s= .ok v (aV n s):=by
 unfold loadVar;rw[hg,aP];cases ag with
 |true=>
  have hw:bW P ty=some k:=hw;injection hv with hv;subst hv
  show(aA (bW P ty) fun k=>(dG n off k).bind fun l=>M.pure<|AV.agg l) s=_;rw[hw,aP,M.bo<|EN hk hn h];rfl
 |false=>
  injection hw with hw;subst hw
  show((dG n off 1).bind fun l=>lift<|one l) s=_;rw[M.bo<|EN hk hn h];show lift (one cs) (aV n s)=_;rw[show one cs=some v from hv];rfl
theorem CU{x:TypeId×Operand}{a:Nat×Nat}{k:Nat}{cs:List AV}{ag:Bool}{v:AV}(ha:ak t x.2=some (.ptr<|some a))(hg:ke P x.1=some ag)(hw:vR P x.1 ag=some k)(hk:oc k=true)(hn:Nat.blt a.1 s.nx=true)(hv:wT ag cs=some v)(h:cellsOf (s.h.get a.1) a.2 k=some cs):(bz P<|.load x.1 x.2).val Sy t s= .ok v (aV a.1 s):=by show lW P x.1 x.2 Sy t s=_;unfold lW;rw[ha,aP];show loadVar P x.1 a.1 a.2 s=_;exact Lp hg hw hk hn hv h
theorem Ox{x:TypeId×Operand×Operand}{a:Nat×Nat}{k:Nat}{v:AV}{o:U}(ha:ak t x.2.1=some (.ptr<|some a))(hv:ak t x.2.2=some v)(hk:bW P x.1=some k)(hl:Nat.beq v.cells.length k=true)(hp:oc k=true)(hn:Nat.blt a.1 s.nx=true)(ht:Nat.blt a.1 top=true)(h:gW (s.h.get a.1) a.2 v.cells=some o):(bz P<|.store x.1 x.2.1 x.2.2).val Sy t s= .ok iI (fS a.1 (some o)<|aV a.1 s):=by
 show nU P x.1 x.2.1 x.2.2 Sy t s=_;unfold nU;rw[ha,aP];show aA (ak t x.2.2) (fun v=>(storeVar P x.1 a.1 a.2 v).bind fun _=>M.pure iI) s=_;rw[hv,aP];have hw:storeVar P x.1 a.1 a.2 v s= .ok () (fS a.1 (some o)<|aV a.1 s):=by
  unfold storeVar;rw[hk,aP,hl,bC];unfold gW at h;split at h
  ·rename_i m tt z hg;split at h
   ·rename_i hb;injection h with h;subst h
    cases hc:v.cells with
    |nil=>rw[hc] at hl;have:=Nat.eq_of_beq_eq_true hl;subst this;cases hp
    |cons y r=>
     rw[hc] at hb;show((aY a.1).bind fun o=>match o with
      | .cells m t z=>ay (and (Nat.ble (a.2+(r.length+1)) m)<|and (Nat.ble m top)<|(y::r).all AV.bB) <| aZ a.1 (some<|.cells m (Tr.fill (y::r) a.2 t) z)
      |_=>fail) s=_
     rw[M.bo<|jV hn hg];show ay (and (Nat.ble (a.2+(r.length+1)) m)<|and (Nat.ble m top)<|(y::r).all AV.bB) (aZ a.1<|some<|.cells m (Tr.fill (y::r) a.2 tt) z) (aV a.1 s)=_;rw[show(and (Nat.ble (a.2+(r.length+1)) m)<|and (Nat.ble m top)<|(y::r).all AV.bB)=true from hb,bC];obtain⟨e1,e2,_⟩:=gk a.1 s;exact qN (p:=.cells m tt z) (by rw[e2];exact hn) (by rw[e1];exact hg) rfl ht
   ·cases h
  ·cases h
 rw[M.bo hw];rfl
theorem Oy{sp:Sp}{F:Nat->Option (List AV)}{n:Nat}{x:TypeId×Operand}{a:Nat×Nat}{k:Nat}{cs:List AV}{ag:Bool}{v:AV}(ha:ak t x.2=some (.jx a.1 a.2))(hg:ke P x.1=some ag){z:Nat}(hz:bW P x.1=some z)(hw:vR P x.1 ag=some k)(hv:wT ag cs=some v)(ht:top<=a.1)(h:eK F a.1 a.2 k=some cs):(bz P<|.load x.1 x.2).val (br P sp F n) t s= .ok v s:=by
 show lW P x.1 x.2 (br P sp F n) t s=_;unfold lW;rw[ha,aP];show(match Nat.ble top a.1 with
  |true=>mP P x.1 (br P sp F n) a.1 a.2
  |false=>nR P x.1 a.1 a.2) s=_
 rw[aL.2 ht];have hr:∀k,eK F a.1 a.2 k=some cs->br P sp F n (.row a.1 a.2 k) [] s= .ok (.agg cs) s:=by
  intro k h;have:kg F a.1 a.2 k s= .ok (.agg cs) s:=by
   unfold eK at h;unfold kg;cases e:F a.1 with
   |none=>rw[e] at h;cases h
   |some l=>
    rw[e] at h;simp only at h;split at h
    ·rename_i hb;injection h with h;subst h
     rw[aP,hb,bC];rfl
    ·cases h
  cases n<;>exact this
 show mP P x.1 (br P sp F n) a.1 a.2 s=_;unfold mP;rw[hg,aP];rw[hz,aP];cases ag with
 |true=>
  have hw:bW P x.1=some k:=hw;rw[hz] at hw;injection hw with hw;subst hw
  injection hv with hv;subst hv
  show((br P sp F n (.row a.1 a.2 z) []).bind fun v=>_) s=_;rw[M.bo<|hr z h];rfl
 |false=>
  injection hw with hw;subst hw
  show((br P sp F n (.row a.1 a.2 1) []).bind fun v=>_) s=_;rw[M.bo<|hr 1 h];show lift (one cs) s=_;rw[show one cs=some v from hv];rfl
theorem Po{x:BinOp×TypeId×Operand×Operand×TypeId}{k:IntKind}{a b:Int}(ho:x.1= .rem)(hx:ak t x.2.2.1=some (.int k a))(hy:ak t x.2.2.2.1=some (.int k b))(hb:b≠0):(bz P<|.binOp x.1 x.2.1 x.2.2.1 x.2.2.2.1 x.2.2.2.2).val Sy t s= .ok (.int k<|Int.tmod a b) s:=by rw[ho];exact Oe hx hy hb rfl
theorem Pp{x:BinOp×TypeId×Operand×Operand×TypeId}{k k':IntKind}{a b:Int}(ho:kH x.1=true)(hx:ak t x.2.2.1=some (.int k a))(hy:ak t x.2.2.2.1=some (.int k' b))(hb:0<=b):(bz P<|.binOp x.1 x.2.1 x.2.2.1 x.2.2.2.1 x.2.2.2.2).val Sy t s= .ok (.int k<|wO x.1 k a b) s:=by obtain⟨o,ty,p,q,yt⟩:=x;exact MN (by rw[hx,hy];exact congrArg _<|congrArg _ ho) hb
theorem BE:∀{l:List<|Nat×AV},l.map (fun q=>t.get q.1)=l.map (fun q=>some q.2)->n8 t l
 |[],_=>trivial
 |p::l,h=>by simp only[List.map_cons,List.cons.injEq] at h;exact⟨h.1,BE h.2⟩
theorem B1{h:Tr U}:∀{o:List<|Nat×Option U},o.map (fun q=>h.get q.1)=o.map (fun q=>q.2)->(o.all fun q=>Ck q.2)=true->ot h o
 |[],_,_=>trivial
 |p::l,e,k=>by simp only[List.map_cons,List.cons.injEq] at e;rw[List.all_cons] at k;obtain⟨k1,k2⟩:=and_true.1 k;exact⟨⟨e.1,fun o ho=>by rw[ho] at k1;exact k1⟩,B1 e.2 k2⟩
end
def pZ(m m':bI):Prop:=m.i=m'.i/\(∀n∈m.rd,n∈m'.rd)/\(∀n∈m.wr,n∈m'.wr)/\m.lo=m'.lo/\m.hi=m'.hi
def gr:List bI->List bI->Prop
 |[],[]=>True
 |x::l,y::m=>pZ x y/\gr l m
 |_,_=>False
theorem pZ.refl(m:bI):pZ m m:=⟨rfl,fun _ h=>h,fun _ h=>h,rfl,rfl⟩
theorem gr.refl:∀l:List bI,gr l l
 |[]=>trivial
 |x::l=>⟨pZ.refl x,gr.refl l⟩
theorem gr.app:∀{a a' b b':List bI},gr a a'->gr b b'->gr (a++b) (a'++b')
 |[],[],_,_,_,h=>h
 |_::_,_::_,_,_,h,k=>⟨h.1,gr.app h.2 k⟩
 |[],_::_,_,_,h,_=>h.elim
 |_::_,[],_,_,h,_=>h.elim
theorem Bm{lo hi:Nat}:∀{l:List Nat},pv lo hi l=true↔∃n∈l,lo<=n/\n<hi
 |[]=>by simp[pv]
 |x::l=>by
  have ih:=Bm (lo:=lo) (hi:=hi) (l:=l);unfold pv;cases q:(Nat.ble lo x&&Nat.blt x hi) with
  |true=>obtain⟨h1,h2⟩:=and_true.1 q;exact⟨fun _=>⟨x,List.mem_cons_self,aL.1 h1,(blt_eq _ _).mp h2⟩,fun _=>rfl⟩
  |false=>
   refine ih.trans ⟨fun⟨n,a,b⟩=>⟨n,List.mem_cons_of_mem _ a,b⟩,fun⟨n,a,b⟩=>?_⟩;rcases List.mem_cons.1 a with rfl|a
   ·exfalso;rw[show(Nat.ble lo n&&Nat.blt n hi)=true from and_true.2 ⟨aL.2 b.1,(blt_eq _ _).mpr b.2⟩] at q;cases q
   ·exact⟨n,a,b⟩
theorem Bn:∀{a b:List Nat},meets a b=true↔∃n∈a,n∈b
 |[],b=>by simp[meets]
 |x::a,b=>by
  have ih:=Bn (a:=a) (b:=b);unfold meets;cases q:nb x b with
  |true=>exact⟨fun _=>⟨x,List.mem_cons_self,tb.1 q⟩,fun _=>rfl⟩
  |false=>
   refine ih.trans ⟨fun⟨n,h,k⟩=>⟨n,List.mem_cons_of_mem _ h,k⟩,fun⟨n,h,k⟩=>?_⟩;rcases List.mem_cons.1 h with rfl|h
   ·rw[tb.2 k] at q;cases q
   ·exact⟨n,h,k⟩
theorem yA{m:Nat}{a b:List Nat}(h:∀k∈a,k∈b)(n:Nat)(hn:n∈below m a):n∈below m b:=by obtain⟨h1,h2⟩:=kB.1 hn;exact kB.2 ⟨h n h1,h2⟩
theorem oZ(l:List Nat):below 0 l=[]:=rfl
theorem Lr{x x' y y':bI}(hx:pZ x x')(hy:pZ y y')(h:lR x' y'=true):lR x y=true:=by
 unfold lR at h ⊢;obtain⟨h1,h2⟩:=and_true.1 h;refine and_true.2 ⟨?_,?_⟩
 ·cases q:meets x.wr y.rd with
  |false=>rfl
  |true=>obtain⟨n,a,b⟩:=Bn.1 q;rw[Bn.2 ⟨n,hx.2.2.1 n a,hy.2.1 n b⟩] at h1;cases h1
 ·cases q:pv x.lo x.hi y.rd with
  |false=>rfl
  |true=>obtain⟨n,a,b⟩:=Bm.1 q;rw[hx.2.2.2.1,hx.2.2.2.2] at b;rw[Bm.2 ⟨n,hy.2.1 n a,b⟩] at h2;cases h2
theorem Ls{x x':bI}(hx:pZ x x')(h:lS x'=true):lS x=true:=by
 unfold lS at h ⊢;cases e:x'.wr with
 |cons a l=>rw[e] at h;cases h
 |nil=>
  rw[e] at h;cases e2:x.wr with
  |nil=>rw[hx.2.2.2.1,hx.2.2.2.2];exact h
  |cons a l=>have:=hx.2.2.1 a (by rw[e2];exact List.mem_cons_self);rw[e] at this;cases this
theorem Ex{b:Array Nat}{x x':bI}(hx:pZ x x'):∀{l l':List bI},gr l l'->lF b x' l'=true->lF b x l=true
 |[],[],_,_=>rfl
 |[],_::_,h,_=>h.elim
 |_::_,[],h,_=>h.elim
 |y::l,y'::l',hl,h=>by
  unfold lF at h ⊢;cases q:(Nat.beq x'.i y'.i||(lR x' y'|| !loose b x'.i y'.i)) with
  |false=>rw[q] at h;cases h
  |true=>
   rw[q] at h;have:(Nat.beq x.i y.i||(lR x y|| !loose b x.i y.i))=true:=by
    rw[hx.1,hl.1.1];cases q1:Nat.beq x'.i y'.i with
    |true=>rfl
    |false=>
     rw[q1] at q;cases q2:lR x' y' with
     |true=>rw[Lr hx hl.1 q2];rfl
     |false=>
      rw[q2] at q;cases lR x y
      ·exact q
      ·rfl
   rw[this];exact Ex hx hl.2 h
theorem Gf{b:Array Nat}{all Dj:List bI}(ha:gr all Dj):∀{l l':List bI},gr l l'->j0 b Dj l'=true->j0 b all l=true
 |[],[],_,_=>rfl
 |[],_::_,h,_=>h.elim
 |_::_,[],h,_=>h.elim
 |x::l,x'::l',hl,h=>by
  unfold j0 at h ⊢;cases q:(lS x'||lF b x' Dj) with
  |false=>rw[q] at h;cases h
  |true=>
   rw[q] at h;have:(lS x||lF b x all)=true:=by
    cases q1:lS x' with
    |true=>rw[Ls hl.1 q1];rfl
    |false=>rw[q1] at q;rw[Ex hl.1 ha q];cases lS x<;>rfl
   rw[this];exact Gf ha hl.2 h
theorem jC.cover{P:Program}{Sy:aD}{G:AF->AS->Prop}{f nt:Nat}{K:List Item}{ops:Array Oper}{acc zO:List bI}{i:Nat}{t:Tr AV}{s:AS}(h:gr acc zO)(H:jC P Sy G f nt K ops zO i t s):jC P Sy G f nt K ops acc i t s:=by obtain⟨t1,ms,s1,q1,q2,q3⟩:=H;exact⟨t1,ms,s1,q1,Gf (h.app<|gr.refl ms) (h.app<|gr.refl ms) q2,q3⟩
theorem LY{b:Bool}{A B X:Prop}(hy:b=true->A)(eX:b=false->B)(ha:b=true->A->X)(hb:b=false->B->X):X:=by
 cases b with
 |true=>exact ha rfl<|hy rfl
 |false=>exact hb rfl<|eX rfl
theorem MS{o:Option AV}{c:Prop}{d:Decidable c}{A B X:Prop}(h:o=some (.bool<|@decide c d))(hy:c->A)(eX:¬c->B)(ha:o=some (.bool true)->A->X)(hb:o=some (.bool false)->B->X):X:=by
 by_cases q:c
 ·rw[decide_eq_true q] at h;exact ha h<|hy q
 ·rw[decide_eq_false q] at h;exact hb h<|eX q
theorem qB{v:AV}{x:Nat×Nat×bc}(h:ox v=some x):v= .slice (some (x.1,0)) x.2.1 x.2.2:=by
 unfold ox at h;split at h
 ·injection h with h;subst h;rfl
 ·cases h
theorem Ey{op:Op}{x:TypeId×Operand×Option Operand×Option Operand}(h:yj op=some x):op= .slice x.1 x.2.1 x.2.2.1 x.2.2.2 none:=by
 unfold yj at h;split at h
 ·injection h with h;subst h;rfl
 ·cases h
theorem Bo{i:Int}{n:Nat}(h0:0<=i)(h1:i<(n:Int)):within i n=some i.toNat:=by
 obtain⟨k,rfl⟩:=Int.eq_ofNat_of_zero_le h0;have hk:k<n:=by omega
 show(match (Int.ofNat k) with| .ofNat k=>(match Nat.blt k n with|true=>some k|false=>none)| .negSucc _=>none)=some k;have:Nat.blt k n=true:=by rw[blt_eq];exact hk
 simp only[this]
theorem yd{t:Tr AV}{o:Option Operand}{d v:Int}{kf:Nat}(h:mU t o d=some v)(h0:0<=v)(h1:v<=(kf:Int)):∃y,opt (ak t) o=some y/\∀dn:Nat,(Int.ofNat dn=d)->bound y kf dn=some v.toNat:=by
 cases o with
 |none=>
  injection h with h;subst h
  exact⟨none,rfl,fun dn e=>by subst e;rfl⟩
 |some x=>
  unfold mU at h;simp only at h;cases e:ak t x with
  |none=>rw[e] at h;cases h
  |some z=>
   rw[e] at h;cases z<;>simp only at h<;>first|(cases h;done)|skip
   rename_i k n;injection h with h;subst h
   refine⟨some<|.int k n,?_,fun dn _=>?_⟩
   ·show(match ak t x with|none=>none|some v=>some<|some v)=_;rw[e]
   ·show within n (kf+1)=_;exact Bo h0 (by omega)
theorem Pq{P:Program}{Sy:aD}{t:Tr AV}{s:AS}{x:TypeId×Operand×Option Operand×Option Operand}{n o len K:Nat}{lo hi:Int}(hx:ak t x.2.1=some (.b9 n o len))(hk:iK P x.1=some K)(h1:mU t x.2.2.1 0=some lo)(h2:mU t x.2.2.2 (Int.ofNat len)=some hi)(ht:top<=n)(a1:0<=lo)(a2:lo<=hi)(a3:hi<=Int.ofNat len):
 (bz P<|.slice x.1 x.2.1 x.2.2.1 x.2.2.2 none).val Sy t s= .ok (.b9 n (o+lo.toNat*K)<|hi.toNat - lo.toNat) s:=by
 obtain⟨y1,e1,f1⟩:=yd (kf:=hi.toNat) h1 a1 (by omega);obtain⟨y2,e2,f2⟩:=yd (kf:=len) h2 (by omega) a3;show jX P x.1 x.2.1 x.2.2.1 x.2.2.2 none Sy t s=_;unfold jX;rw[hx,aP,e1,aP,e2,aP];show lift (kG P x.1 (.b9 n o len) y1 y2 none) s=_;have:kG P x.1 (.b9 n o len) y1 y2 none=some (.b9 n (o+lo.toNat*K)<|hi.toNat - lo.toNat):=by
  unfold iK at hk;split at hk<;>first|(cases hk;done)|skip
  rename_i e hu;unfold kG;rw[hu];simp only[hk,f2 len rfl,f1 0 rfl,aL.2 ht]
 rw[this];rfl
theorem JC{op:Op}{x:TypeId×Operand×Operand×Operand}(h:AW op=some x):op= .slice x.1 x.2.1 none (some x.2.2.1) (some x.2.2.2):=by
 unfold AW at h;split at h
 ·injection h with h;subst h;rfl
 ·cases h
theorem Ps{P:Program}{Sy:aD}{t:Tr AV}{s:AS}{x:TypeId×Operand×Option Operand×Option Operand}{n len K:Nat}{cap:bc}{hi:Int}(hx:ak t x.2.1=some (.slice (some (n,0)) len cap))(hk:iK P x.1=some K)(h1:mU t x.2.2.1 0=some 0)(h2:mU t x.2.2.2 (Int.ofNat len)=some hi)(hc:kept cap=true)(a1:0<=hi)(a2:hi<=Int.ofNat (eG len cap)):
 (bz P<|.slice x.1 x.2.1 x.2.2.1 x.2.2.2 none).val Sy t s= .ok (.slice (some (n,0)) hi.toNat cap) s:=by
 obtain⟨y1,e1,f1⟩:=yd (kf:=hi.toNat) h1 (by omega) (by omega);obtain⟨y2,e2,f2⟩:=yd (kf:=eG len cap) h2 a1 a2;show jX P x.1 x.2.1 x.2.2.1 x.2.2.2 none Sy t s=_;unfold jX;rw[hx,aP,e1,aP,e2,aP];show lift (kG P x.1 (.slice (some (n,0)) len cap) y1 y2 none) s=_;have:kG P x.1 (.slice (some (n,0)) len cap) y1 y2 none=some (.slice (some (n,0)) hi.toNat cap):=by
  unfold iK at hk;split at hk<;>first|(cases hk;done)|skip
  rename_i e hu;unfold kG;rw[hu];have Rs:=f1 0 rfl;simp only[hk,f2 len rfl];rw[Rs];cases cap with
  |known c=>
   show(match Nat.beq c 0 with
    |true=>some (AV.slice (some (n,0)) (hi.toNat - 0)<|.known<|c - 0)
    |false=>some<|AV.slice (some (n,0+0*K)) (hi.toNat - 0)<|.known<|c - 0)=_
   rw[Nat.zero_mul];cases Nat.beq c 0<;>rfl
  |bA b e=>rfl
  |lost=>cases hc
 rw[this];rfl
theorem Pt{P:Program}{Sy:aD}{t:Tr AV}{s:AS}{x:TypeId×Operand×Operand×Operand}{n len K:Nat}{cap:bc}{hi mx:IntKind×Int}(hx:ak t x.2.1=some (.slice (some (n,0)) len cap))(hk:iK P x.1=some K)(h1:ak t x.2.2.1=some (.int hi.1 hi.2))(h2:ak t x.2.2.2=some (.int mx.1 mx.2))(hc:kept cap=true)(a1:0<=hi.2)(a2:hi.2<=mx.2)(a3:mx.2<=Int.ofNat (eG len cap)):
 (bz P<|.slice x.1 x.2.1 none (some x.2.2.1)<|some x.2.2.2).val Sy t s= .ok (.slice (some (n,0)) hi.2.toNat<|.known mx.2.toNat) s:=by
 show jX P x.1 x.2.1 none (some x.2.2.1) (some x.2.2.2) Sy t s=_;unfold jX;have o1:opt (ak t) (some x.2.2.1)=some (some<|.int hi.1 hi.2):=by show(match ak t x.2.2.1 with|none=>none|some v=>some<|some v)=_;rw[h1]
 have o2:opt (ak t) (some x.2.2.2)=some (some<|.int mx.1 mx.2):=by show(match ak t x.2.2.2 with|none=>none|some v=>some<|some v)=_;rw[h2]
 rw[hx,aP,show opt (ak t) none=some none from rfl,aP,o1,aP,o2,aP];show lift (kG P x.1 (.slice (some (n,0)) len cap) none (some<|.int hi.1 hi.2)<|some<|.int mx.1 mx.2) s=_;have b1:bound (some<|.int mx.1 mx.2) (eG len cap) 0=some mx.2.toNat:=Bo (by omega) (by have:(Int.ofNat<|eG len cap)=((eG len cap:Nat):Int):=rfl;omega);have b2:bound (some<|.int hi.1 hi.2) mx.2.toNat 0=some hi.2.toNat:=Bo a1 (by omega);have:kG P x.1 (.slice (some (n,0)) len cap) none (some<|.int hi.1 hi.2) (some<|.int mx.1 mx.2)=some (.slice (some (n,0)) hi.2.toNat<|.known mx.2.toNat):=by
  unfold iK at hk;split at hk<;>first|(cases hk;done)|skip
  rename_i e hu;unfold kG;rw[hu];simp only[hk];have h3:slice3 K (some (n,0)) (eG len cap) none (some<|.int hi.1 hi.2) (.int mx.1 mx.2)=some (.slice (some (n,0)) hi.2.toNat<|.known mx.2.toNat):=by
   unfold slice3;rw[b1];simp only;rw[b2];show(match Nat.beq mx.2.toNat 0 with
    |true=>some (AV.slice (some (n,0)) (hi.2.toNat - 0)<|.known<|mx.2.toNat - 0)
    |false=>some<|AV.slice (some (n,0+0*K)) (hi.2.toNat - 0)<|.known<|mx.2.toNat - 0)=_
   rw[Nat.zero_mul];cases Nat.beq mx.2.toNat 0<;>rfl
  cases cap with
  |known c=>exact h3
  |bA b e=>exact h3
  |lost=>cases hc
 rw[this];rfl
theorem MT{P:Program}{sp:Sp}{F:Nat->Option (List AV)}{m n o k:Nat}{cs:List AV}{s:AS}(h:eK F n o k=some cs):br P sp F m (.row n o k) [] s= .ok (.agg cs) s:=by
 have:kg F n o k s= .ok (.agg cs) s:=by
  unfold eK at h;unfold kg;split at h
  ·rename_i l e;split at h
   ·rename_i q;injection h with h;subst h
    rw[e,aP,q,bC];rfl
   ·cases h
  ·cases h
 cases m<;>exact this
theorem Kw{l:List AV}{z:Nat×List AV}(h:B0 l=some z):l= .ptr (some (z.1,0))::z.2:=by
 unfold B0 at h;split at h
 ·injection h with h;subst h;rfl
 ·cases h
theorem LZ{o:Option U}{u:Nat×AV}(h:CT o=some u):o=some (.tok u.1 u.2):=by
 unfold CT at h;split at h
 ·injection h with h;subst h;rfl
 ·cases h
theorem BF{E:Env}(hE:E.Ok):∀(fuel n:Nat) (c:Am) (p:Pl) (rs:List ResultVar) (k:Kt) (C:ug) (G:AF->AS->Prop),Chunk E.P (br E.P E.sp E.F n) G->
 (∀fr s j aU jm s1 x s2 p,cW E.P (br E.P E.sp E.F n) j fr s= .ok (.leave aU jm) s1->finish E.P rs aU jm s1= .ok x s2->k x s2 p->G fr s)->(∀fr s p,C fr s p->G fr s)->(∀f nt K t s l o nx p,E.fg=true->jB top l=true->jB top o=true->(Nat.ble s.nx nx&&Nat.ble nx top)=true->n8 t l->ot s.h o->C ⟨f,cH l,nt,K,[],none⟩ (ab o nx) p->G ⟨f,t,nt,K,[],none⟩ s)->(∀f nt K t s l0 o0 l o nx p,E.fg=true->l0.map (fun q=>t.get q.1)=l0.map (fun q=>some q.2)->o0.map (fun q=>s.h.get q.1)=o0.map (fun q=>q.2)->kW E.F E.lo s.nx l0 o0 l o nx->C ⟨f,cH l,nt,K,[],none⟩ (ab o nx) p->G ⟨f,t,nt,K,[],none⟩ s)->(∀f nt K t s l o nx p,E.fg=true->jB top l=true->jB nx o=true->(Nat.ble nx s.nx&&(Nat.blt s.nx top&&Nat.ble E.lo nx))=true->n8 t l->ot s.h o->uf nx l o->C ⟨f,cH l,nt,K,[],none⟩ (ab o nx) p->G ⟨f,t,nt,K,[],none⟩ s)->wp E fuel n c p rs k C->Rr E.P (br E.P E.sp E.F n) G c
 |0,n,c,p,rs,k,C,G,hG,hk,hC,hL,hR,hB,h=>h.elim
 |fuel+1,n,c,p,rs,k,C,G,hG,hk,hC,hL,hR,hB,h=>by
  have ih:=BF hE fuel;have h:DY E (wp E fuel) n c p rs k C:=h;unfold DY at h;cases c with
  |fr f nt K t s=>
   simp only at h;split at h
   ·obtain⟨x,s1,h1,h⟩:=tH h;obtain⟨y,h2,h⟩:=ax h;rw[LW h2] at h1;exact hG _ _ _ _ _ h1<|ih n _ _ rs k C G hG hk hC hL hR hB h
   ·obtain⟨x,h1,h⟩:=ax h;obtain⟨id,rfl⟩:=Ku h1;exact fB.Qf hG<|ih n _ _ rs k C G hG hk hC hL hR hB h
   ·obtain⟨x,s1,h1,h⟩:=tH h;obtain⟨y,h2,h⟩:=ax h;obtain⟨v,s2,h3,h⟩:=tH h;rw[LX h2] at h1;exact hk _ _ _ _ _ _ _ _ _ h1 h3 h
   ·exact hC _ _ _ h
   ·obtain⟨h1,h2,h3,h⟩:=ct h;obtain⟨q0,h1⟩:=and_true.1 h1;obtain⟨q1,h1⟩:=and_true.1 h1;obtain⟨q2,h1⟩:=and_true.1 h1;obtain⟨q3,q4⟩:=and_true.1 h1;exact hL _ _ _ _ _ _ _ _ _ q0 q1 q2 q3 (BE h2) (B1 h3 q4) h
   ·obtain⟨h1,h2,h3,h4,h⟩:=ct h;obtain⟨q0,q1⟩:=and_true.1 h1;have q1:=Nat.eq_of_beq_eq_true q1;rw[←q1] at h4;exact hR _ _ _ _ _ _ _ _ _ _ _ q0 h2 h3 h4 h
   ·obtain⟨h1,h2,h3,h4,h⟩:=ct h;obtain⟨q0,h1⟩:=and_true.1 h1;obtain⟨q1,h1⟩:=and_true.1 h1;obtain⟨q2,h1⟩:=and_true.1 h1;obtain⟨q3,q4⟩:=and_true.1 h1;exact hB _ _ _ _ _ _ _ _ _ q0 q1 q2 q3 (BE h2) (B1 h3 q4) h4 h
   ·exact h.elim
  |rg f nt K ops D i t s=>
   simp only at h;split at h
   ·obtain⟨h1,h⟩:=ct h;obtain⟨x,s1,h2,h⟩:=tH h;exact fB.go h1 h2<|ih n _ _ rs k C G hG hk hC hL hR hB h
   ·obtain⟨h1,h⟩:=ct h;obtain⟨h2,h⟩:=ct h;exact fB.done h1 h2<|ih n _ _ rs k C G hG hk hC hL hR hB h
   ·obtain⟨o,ho,h⟩:=ax h;obtain⟨hw,h⟩:=ct h;obtain⟨op,d,g⟩:=o;simp only at hw h;have hn:∀v s1 p,(bz E.P op).val (br E.P E.sp E.F n) t (cB D s)= .ok v s1->(wo (dY nt t d v) fun t1=>wp E fuel n (.rg f nt K ops (zL D i s s1) (i+1) t1<|pI D s s1) p rs k C)->fB E.P (br E.P E.sp E.F n) G f nt K ops D i t s:=by intro v s1 p hv h;obtain⟨t1,hp,h⟩:=ax h;exact fB.op ho hw hv hp (ih n _ _ rs k C G hG hk hC hL hR hB h)
    generalize bj:(fun(v:AV) (s1:AS) (p:Pl)=>wo (dY nt t d v) fun t1=>wp E fuel n (.rg f nt K ops (zL D i s s1) (i+1) t1<|pI D s s1) p rs k C)=nx at h;have hn:∀v s1 p,(bz E.P op).val (br E.P E.sp E.F n) t (cB D s)= .ok v s1->nx v s1 p->fB E.P (br E.P E.sp E.F n) G f nt K ops D i t s:=by intro v s1 p hv h;rw[←bj] at h;exact hn v s1 p hv h
    have iQ:∀v h2 R W p,((D.isSome&&Nat.beq s.mark 0)||Nat.beq (cB D s).mark 0)=true->(∃rd wr,(∀k∈rd,k∈R\/k∈(cB D s).rd)/\(∀k∈wr,k∈W\/k∈(cB D s).wr)/\((cB D s).mark=0->rd=(cB D s).rd/\wr=(cB D s).wr)/\
     (bz E.P op).val (br E.P E.sp E.F n) t (cB D s)= .ok v ⟨h2,(cB D s).nx+1,(cB D s).mark,rd,wr⟩)->nx v (zM (D.isSome&&Nat.beq s.mark 0) (cB D s) h2 R W) p->fB E.P (br E.P E.sp E.F n) G f nt K ops D i t s:=by
     rintro v h2 R W p b8 ⟨rd,wr,a1,a2,a3,hv⟩ h;cases xA:(D.isSome&&Nat.beq s.mark 0) with
     |false=>rw[xA] at b8 h;have pQ:=Nat.eq_of_beq_eq_true (show Nat.beq (cB D s).mark 0=true from b8);obtain⟨rfl,rfl⟩:=a3 pQ;exact hn _ _ _ hv h
     |true=>
      rw[xA] at h;obtain⟨xx,DZ⟩:=and_true.1 xA;cases D with
      |none=>cases xx
      |some acc=>
       have hm:s.mark=0:=Nat.eq_of_beq_eq_true DZ;have a1:∀k∈rd,k∈R:=fun k hk=>(a1 k hk).resolve_right (by show ¬k∈([]:List Nat);simp);have a2:∀k∈wr,k∈W:=fun k hk=>(a2 k hk).resolve_right (by show ¬k∈([]:List Nat);simp);have h:nx v ⟨h2,(cB (some acc) s).nx+1,(cB (some acc) s).mark,R,W⟩ p:=h;rw[←bj] at h;obtain⟨t1,hp,h⟩:=ax h;refine fB.op ho hw hv hp ?_;have H:=ih n _ _ rs k C G hG hk hC hL hR hB h;have e:pI (some acc) s ⟨h2,(cB (some acc) s).nx+1,(cB (some acc) s).mark,rd,wr⟩=pI (some acc) s ⟨h2,(cB (some acc) s).nx+1,(cB (some acc) s).mark,R,W⟩:=by show oa s _=oa s _;unfold oa;rw[hm,oZ,oZ,oZ,oZ]
       rw[e];exact jC.cover (zO:=acc++[wM i s ⟨h2,(cB (some acc) s).nx+1,(cB (some acc) s).mark,R,W⟩]) (gr.app (gr.refl acc) ⟨⟨rfl,fun n h=>yA a1 n h,fun n h=>yA a2 n h,rfl,rfl⟩,trivial⟩) H
    show fB E.P (br E.P E.sp E.F n) G f nt K ops D i t s;unfold Ja at h;split at h
    ·obtain⟨x,h1,h⟩:=ax h;obtain⟨a,h2,h⟩:=ax h;obtain⟨b,h3,h⟩:=ax h;obtain⟨a1,h4,h⟩:=ax h;obtain⟨b1,h5,h⟩:=ax h;obtain⟨h6,h⟩:=ct h;obtain⟨c,h7,hy,eX⟩:=ax h;have h6:=of_decide_eq_true h6;have e:=sP h1;rw[gN h4] at h2;rw[gN h5, ←h6] at h3;obtain⟨r,hr,Jb⟩:=NB h7;have hv:(bz E.P op).val (br E.P E.sp E.F n) t (cB D s)= .ok (.bool r) (cB D s):=by rw[e];exact Og h2 h3 hr
     cases r with
     |true=>exact hn _ _ _ hv<|hy<|Jb.1 rfl
     |false=>exact hn _ _ _ hv (eX fun q=>by have:=Jb.2 q;cases this)
    ·obtain⟨v',s1,h1,rfl,h⟩:=tH h;exact hn _ _ _ h1 h
    ·obtain⟨x,h1,h⟩:=ax h;obtain⟨m,hm,h⟩:=ax h;obtain⟨val,h2,h⟩:=ax h;obtain⟨h3,h4,h⟩:=ct h;have e:=sY hm;exact hn _ _ _ (by rw[e];exact mJ h1<|hE.mv _ _ _ _ _ _ h2 h4 h3) h
    ·obtain⟨x,h1,h⟩:=ax h;obtain⟨m,hm,h⟩:=ax h;obtain⟨val,h2,h⟩:=ax h;obtain⟨h3,h4,hy,eX⟩:=ct h;have e:=sY hm;have hv:=fun b (h4:val x.2=some (.bool b))=>(show(bz E.P op).val (br E.P E.sp E.F n) t (cB D s)= .ok (.bool b) (E.cs<|cB D s) by rw[e];exact mJ (P:=E.P) h1<|hE.mv _ _ _ _ _ m h2 h4 h3);exact MS h4 hy eX (fun q h=>hn _ _ _ (hv _ q) h) fun q h=>hn _ _ _ (hv _ q) h
    ·obtain⟨x,h1,h⟩:=ax h;obtain⟨h6,h⟩:=ct h;obtain⟨a,h2,h⟩:=ax h;obtain⟨b,h3,h⟩:=ax h;obtain⟨a1,h4,h⟩:=ax h;obtain⟨b1,h5,h⟩:=ax h;obtain⟨h7,h8,h9,h⟩:=ct h;have e:=sP h1;have ea:x.1= .add:=by revert h6;split<;>intro h6<;>first|assumption|cases h6
     rw[vj h4] at h2;rw[vj h5] at h3;refine hn _ _ _ ?_ h;rw[e,ea];exact LU (by rw[h2,h3]) h8 h9 h7
    ·obtain⟨x,h1,h⟩:=ax h;obtain⟨a,h2,h⟩:=ax h;obtain⟨b,h3,h⟩:=ax h;obtain⟨xs,h4,h⟩:=ax h;obtain⟨ys,h5,h⟩:=ax h;obtain⟨h6,h⟩:=ct h;obtain⟨h7,h⟩:=ct h;obtain⟨h8,h⟩:=ct h;obtain⟨l,h9,h⟩:=ax h;have e:=sP h1;rw[Ge h4] at h2;rw[Ge h5] at h3;have h8:E.P.stoodInHeld x.2.1=false:=by simpa using h8
     split at h
     ·rename_i eo;rw[eo] at h6 e;obtain⟨hy,eX⟩:=h;have hv:(bz E.P op).val (br E.P E.sp E.F n) t (cB D s)= .ok (.bool<|allEq l) (cB D s):=by rw[e];exact Nw h2 h3 h6 h7 h8 h9 rfl
      cases q:allEq l with
      |true=>rw[q] at hv;exact hn _ _ _ hv<|hy q
      |false=>rw[q] at hv;exact hn _ _ _ hv<|eX q
     ·rename_i eo;rw[eo] at h6 e;obtain⟨hy,eX⟩:=h;have hv:(bz E.P op).val (br E.P E.sp E.F n) t (cB D s)= .ok (.bool<|!allEq l) (cB D s):=by rw[e];exact Nv h2 h3 h6 h7 h8 h9 rfl
      cases q:allEq l with
      |true=>rw[q] at hv;exact hn _ _ _ hv<|hy q
      |false=>rw[q] at hv;exact hn _ _ _ hv<|eX q
     ·exact h.elim
    ·obtain⟨x,h1,h⟩:=ax h;obtain⟨m,hm,h⟩:=ax h;obtain⟨h2,h⟩:=ct h;obtain⟨y,h3,h⟩:=ax h;obtain⟨a,h4,h⟩:=ax h;obtain⟨sep,h5,h⟩:=ax h;obtain⟨h6,h⟩:=ct h;obtain⟨l,s1,h7,h⟩:=tH h;obtain⟨ts,h8,h9,dF,h⟩:=ax h;have e:=sY hm;refine hn _ _ _ ?_ h;rw[e];refine mJ h1 ?_;rw[MQ h3,Fc h4,vj h5, ←h9];exact LV (hE.jn _ h2) (by rw[h6,h7,h8]) dF
    ·obtain⟨x,h1,h⟩:=ax h;obtain⟨h6,h⟩:=ct h;obtain⟨a,h2,h⟩:=ax h;obtain⟨b,h3,h⟩:=ax h;obtain⟨a1,h4,h⟩:=ax h;obtain⟨b1,h5,h7,h⟩:=ax h;have e:=sP h1;have ea:x.1= .eql:=by revert h6;split<;>intro h6<;>first|assumption|cases h6
     rw[vj h4] at h2;rw[vj h5] at h3;refine hn _ _ _ ?_ h;rw[e,ea];exact Lk (by rw[h2,h3]) h7
    ·obtain⟨x,h1,h2,h⟩:=ax h;exact hn _ _ _ (mJ h1 h2) h
    ·obtain⟨x,h1,h2,h3,h⟩:=ax h;exact hn _ _ _ (mJ h1<|h2 _ h3) h
    ·obtain⟨x,h1,h⟩:=ax h;obtain⟨a,h2,h⟩:=ax h;obtain⟨i',h3,h4,h5,h⟩:=ax h;refine hn _ _ _ ?_ h;rw[Ew h1];show jS E.P x.1 x.2.1 x.2.2 true (br E.P E.sp E.F n) t (cB _ s)=_;unfold jS;rw[h2,h3,aP,aP];exact h4 _ h5
    ·obtain⟨x,h1,h⟩:=ax h;obtain⟨a,h2,h⟩:=ax h;obtain⟨i',h3,h⟩:=ax h;obtain⟨y',h4,h5,h6,h⟩:=ax h;refine hn _ _ _ ?_ h;rw[AJ h1];show gP E.P x.1 x.2.1 x.2.2.1 x.2.2.2 (br E.P E.sp E.F n) t (cB _ s)=_;unfold gP;rw[h2,h3,h4,aP,aP,aP,M.bo<|h5 _ h6];rfl
    ·obtain⟨x,h1,h⟩:=ax h;obtain⟨a,h2,h⟩:=ax h;obtain⟨b',h3,h4,h5,h⟩:=ax h;refine hn _ _ _ ?_ h;rw[Kv h1];show nJ E.P x.1 x.2.1 x.2.2 (br E.P E.sp E.F n) t (cB _ s)=_;unfold nJ;rw[h2,h3,aP,aP];exact h4 _ h5
    ·obtain⟨xA,h⟩:=ct h;obtain⟨x,h1,⟨rd,wr,k1,k2,k3⟩,hy,eX⟩:=ax h;obtain⟨xx,DZ⟩:=and_true.1 xA;cases D with
     |none=>cases xx
     |some acc=>
      have hm:s.mark=0:=Nat.eq_of_beq_eq_true DZ;have IE:∀v h2 dO R W p,(∀k∈rd,k∈R)->(∀k∈wr,k∈W)->(bz E.P op).val (br E.P E.sp E.F n) t (cB (some acc) s)= .ok v ⟨h2,dO,(cB (some acc) s).mark,rd,wr⟩->nx v ⟨h2,dO,(cB (some acc) s).mark,R,W⟩ p->fB E.P (br E.P E.sp E.F n) G f nt K ops (some acc) i t s:=by
       intro v h2 dO R W p a1 a2 hv h;rw[←bj] at h;obtain⟨t1,hp,h⟩:=ax h;refine fB.op ho hw hv hp ?_;have H:=ih n _ _ rs k C G hG hk hC hL hR hB h;have e:pI (some acc) s ⟨h2,dO,(cB (some acc) s).mark,rd,wr⟩=pI (some acc) s ⟨h2,dO,(cB (some acc) s).mark,R,W⟩:=by show oa s _=oa s _;unfold oa;rw[hm,oZ,oZ,oZ,oZ]
       rw[e];exact jC.cover (zO:=acc++[wM i s ⟨h2,dO,(cB (some acc) s).mark,R,W⟩]) (gr.app (gr.refl acc) ⟨⟨rfl,fun n h=>yA a1 n h,fun n h=>yA a2 n h,rfl,rfl⟩,trivial⟩) H
      rcases k3 with⟨Rt,k3⟩|k3
      ·exact IE _ _ _ _ _ _ k1 k2 (mJ h1 k3)<|hy Rt
      ·exact IE _ _ _ _ _ _ k1 k2 (mJ h1 k3) eX
    ·obtain⟨x,h1,h⟩:=ax h;obtain⟨a,h2,h⟩:=ax h;obtain⟨a',h3,h⟩:=ax h;obtain⟨b,h4,h⟩:=ax h;obtain⟨m,h5,h⟩:=ax h;obtain⟨i1,h6,h⟩:=ax h;obtain⟨hb,k1,k2,k3,k4,k5,k6,k7,h⟩:=ct h;obtain⟨b1,hb⟩:=and_true.1 hb;obtain⟨b0,hb⟩:=and_true.1 hb;obtain⟨b2,hb⟩:=and_true.1 hb;obtain⟨b3,hb⟩:=and_true.1 hb;obtain⟨b4,b5⟩:=and_true.1 hb;have b1:=Nat.eq_of_beq_eq_true b1;obtain⟨ty,e,e1,e2,e3,e4,e5⟩:=yc h6;cases bP:E.P.info? e with
     |none=>rw[bP] at e3;cases e3
     |some i0=>rw[bP] at e3;simp only[Option.map_some,Option.some.injEq,Prod.mk.injEq] at e3;obtain⟨q1,q2,q3⟩:=e3;rw[MR h3,k1,k2,b1, ←q1] at h2;rw[Ln h5] at h4;rw[←q1] at k5 k7 h b0;rw[←q2] at k6 e5;refine iQ _ _ _ _ _ b5 ?_ h;rw[yb h1];obtain⟨rd,wr,d1,d2,d3,d4⟩:=On h2 h4 e1 e2 bP (by rw[q3,e4];rfl) k3 k4 (by rw[b2,b3,b4];rfl) k5 ((blt_eq _ _).mp b0) e5 k6 k7;exact⟨rd,wr,fun k hk=>by rcases d1 k hk with rfl|rfl|h;exact .inl (by simp);exact .inl (by simp);exact .inr h,fun k hk=>by rcases d2 k hk with rfl|h;exact .inl (by simp);exact .inr h,d3,d4⟩
    ·obtain⟨x,h1,h⟩:=ax h;obtain⟨a,h2,h⟩:=ax h;obtain⟨a',h3,h⟩:=ax h;obtain⟨ad,h4,h⟩:=ax h;obtain⟨z,h5,h⟩:=ax h;obtain⟨z',h6,h⟩:=ax h;obtain⟨K1,h7,h⟩:=ax h;obtain⟨h8,h9,dF,h⟩:=ct h;refine hn _ _ _ ?_ h;rw[AK h1];rw[Fc h3,h4] at h2;obtain⟨n0,o0⟩:=ad;have h8:o0=0:=Nat.eq_of_beq_eq_true h8;subst h8;rw[gN h6] at h5;exact Pn h2 h5 h7 h9 dF
    ·obtain⟨x,h1,h⟩:=ax h;obtain⟨a,h2,h⟩:=ax h;obtain⟨a',h3,h⟩:=ax h;obtain⟨z,h5,h⟩:=ax h;obtain⟨z',h6,h⟩:=ax h;obtain⟨K1,h7,h9,dF,h⟩:=ax h;refine hn _ _ _ ?_ h;rw[AK h1];rw[Bj h3] at h2;rw[gN h6] at h5;exact Ow h2 h5 h7 h9 dF
    ·obtain⟨x,h1,h⟩:=ax h;obtain⟨a,h2,h⟩:=ax h;obtain⟨a',h3,h⟩:=ax h;obtain⟨ag,h4,h⟩:=ax h;obtain⟨k1,h5,h⟩:=ax h;obtain⟨h6,h⟩:=ct h;obtain⟨h7,h⟩:=ct h;obtain⟨v,h8,h9,h⟩:=ax h;refine hn _ _ _ ?_ h;rw[xY h1];rw[ym h3] at h2;exact CU h2 h4 h5 h6 h7 h8 h9
    ·obtain⟨x,h1,h⟩:=ax h;obtain⟨a,h2,h⟩:=ax h;obtain⟨a',h3,h⟩:=ax h;obtain⟨ag,h4,h⟩:=ax h;obtain⟨h5,h⟩:=ct h;obtain⟨h7,h8,hy,eX⟩:=ct h;have h5:ag=false:=by simpa using h5
     subst h5;rw[ym h3] at h2;exact LY hy eX (fun e h=>hn _ _ _ (by rw[xY h1];exact CU h2 h4 rfl rfl h7 rfl<|by rw[h8,e]) h) fun e h=>hn _ _ _ (by rw[xY h1];exact CU h2 h4 rfl rfl h7 rfl<|by rw[h8,e]) h
    ·obtain⟨x,h1,h⟩:=ax h;obtain⟨a,h2,h⟩:=ax h;obtain⟨a',h3,h⟩:=ax h;obtain⟨ag,h4,h⟩:=ax h;obtain⟨z,hz,h⟩:=ax h;obtain⟨k1,h5,h⟩:=ax h;obtain⟨v,h8,h9,dF,h⟩:=ax h;refine hn _ _ _ ?_ h;rw[xY h1];rw[Lo h3] at h2;exact Oy h2 h4 hz h5 h8 h9 dF
    ·obtain⟨x,h1,h⟩:=ax h;obtain⟨a,h2,h⟩:=ax h;obtain⟨a',h3,h⟩:=ax h;obtain⟨v,h4,h⟩:=ax h;obtain⟨k1,h5,h⟩:=ax h;obtain⟨h6,h⟩:=ct h;obtain⟨h7,h⟩:=ct h;obtain⟨h8,h⟩:=ct h;obtain⟨h9,dF,h⟩:=ct h;refine hn _ _ _ ?_ h;rw[JI h1];rw[ym h3] at h2;exact Ox h2 h4 h5 h6 h7 h8 h9 dF
    ·obtain⟨x,h1,h⟩:=ax h;obtain⟨h6,h⟩:=ct h;obtain⟨a,h2,h⟩:=ax h;obtain⟨b,h3,h⟩:=ax h;obtain⟨a1,h4,h⟩:=ax h;obtain⟨b1,h5,h7,h⟩:=ax h;refine hn _ _ _ ?_ h;rw[sP h1];rw[gN h4] at h2;rw[gN h5] at h3;exact Pp h6 h2 h3 h7
    ·obtain⟨x,h1,h⟩:=ax h;obtain⟨h6,h⟩:=ct h;obtain⟨a,h2,h⟩:=ax h;obtain⟨b,h3,h⟩:=ax h;obtain⟨a1,h4,h⟩:=ax h;obtain⟨b1,h5,h⟩:=ax h;obtain⟨h8,h7,h⟩:=ct h;have ea:x.1= .rem:=by revert h6;split<;>intro h6<;>first|assumption|cases h6
     have h8:=of_decide_eq_true h8;refine hn _ _ _ ?_ h;rw[sP h1];rw[gN h4] at h2;rw[gN h5, ←h8] at h3;exact Po ea h2 h3 h7
    ·obtain⟨x,h1,h⟩:=ax h;obtain⟨a,h2,h⟩:=ax h;obtain⟨a',h3,h⟩:=ax h;obtain⟨b,h4,h⟩:=ax h;obtain⟨b',h5,h⟩:=ax h;obtain⟨i1,h6,h⟩:=ax h;obtain⟨hb,k1,k2,k3,k4,k5,k6,k7,k8,h⟩:=ct h;obtain⟨b1,hb⟩:=and_true.1 hb;obtain⟨b2,hb⟩:=and_true.1 hb;obtain⟨b3,b4⟩:=and_true.1 hb;obtain⟨ty,e,e1,e2,e3,e4,e5⟩:=yc h6;cases bP:E.P.info? e with
     |none=>rw[bP] at e3;cases e3
     |some i0=>rw[bP] at e3;simp only[Option.map_some,Option.some.injEq,Prod.mk.injEq] at e3;obtain⟨q1,q2,q3⟩:=e3;rw[qB h3] at h2;rw[Bj h5] at h4;rw[←q1] at k4 k6 k8 h b1;rw[←q2] at k7 e5;refine iQ _ _ _ _ _ b4 ?_ h;rw[yb h1];obtain⟨rd,wr,d1,d2,d3,d4⟩:=Om (s:=cB D s) (Sy:=br E.P E.sp E.F n) h2 k1 h4 e1 e2 bP (by rw[q3,e4];rfl) b1 k3 (fun s'=>MT k4) k5 k2 (by rw[b2,b3];rfl) k6 e5 k7 k8;exact⟨rd,wr,fun k hk=>by rcases d1 k hk with rfl|h;exact .inl (by simp);exact .inr h,fun k hk=>by rcases d2 k hk with rfl|h;exact .inl (by simp);exact .inr h,d3,d4⟩
    ·obtain⟨x,h1,h⟩:=ax h;obtain⟨a,h2,h⟩:=ax h;obtain⟨a',h3,h⟩:=ax h;obtain⟨K1,h4,h⟩:=ax h;obtain⟨gy,h5,h⟩:=ax h;obtain⟨bP,h6,h7,h8,h9,k1,k2,k3,h⟩:=ax h;subst h7;subst h8;rw[Bj h3] at h2;refine hn _ _ _ ?_ h;rw[Ey h1];exact Pq h2 h4 h5 h6 h9 k1 k2 k3
    ·obtain⟨x,h1,h⟩:=ax h;obtain⟨a,h2,h⟩:=ax h;obtain⟨n',h3,h⟩:=ax h;obtain⟨i',h4,h⟩:=ax h;obtain⟨i1,h5,h⟩:=ax h;obtain⟨y,h6,h⟩:=ax h;obtain⟨hb,h7,h⟩:=ct h;obtain⟨b1,hb⟩:=and_true.1 hb;obtain⟨b2,hb⟩:=and_true.1 hb;obtain⟨b3,hb⟩:=and_true.1 hb;obtain⟨b4,b5⟩:=and_true.1 hb;refine hn _ _ _ ?_ h;rw[JT h1];rw[yz h3] at h2;rw[gN h5,sZ b3] at h4;exact Pk h2 h4 (yl h6) b1 b2 (GJ b4) h7 b5
    ·obtain⟨x,h1,h⟩:=ax h;obtain⟨a,h2,h⟩:=ax h;obtain⟨n',h3,h⟩:=ax h;obtain⟨i',h4,h⟩:=ax h;obtain⟨i1,h5,h⟩:=ax h;obtain⟨v',h8,h⟩:=ax h;obtain⟨v1,h9,h⟩:=ax h;obtain⟨y,h6,h⟩:=ax h;obtain⟨hb,h7,h⟩:=ct h;obtain⟨b1,hb⟩:=and_true.1 hb;obtain⟨b2,hb⟩:=and_true.1 hb;obtain⟨b3,hb⟩:=and_true.1 hb;obtain⟨b4,hb⟩:=and_true.1 hb;obtain⟨b5,b6⟩:=and_true.1 hb;refine hn _ _ _ ?_ h;rw[AJ h1];rw[yz h3] at h2;rw[gN h5,sZ b3] at h4;rw[gN h9,sZ b4] at h8;exact Pm h2 h4 h8 (yl h6) b1 b2 h7 b5 b6
    ·obtain⟨x,h1,h2,h⟩:=ax h;exact hn _ _ _ (Lm h1 h2) h
    ·obtain⟨x,h1,h⟩:=ax h;obtain⟨a,h2,h⟩:=ax h;obtain⟨a',h3,h⟩:=ax h;obtain⟨z,h5,h⟩:=ax h;obtain⟨z',h6,h⟩:=ax h;obtain⟨K1,h7,h9,dF,h⟩:=ax h;refine hn _ _ _ ?_ h;rw[AK h1];rw[ym h3] at h2;rw[gN h6] at h5;exact Ov h2 h5 h7 h9 dF
    ·obtain⟨x,h1,h⟩:=ax h;obtain⟨m,hm,h⟩:=ax h;obtain⟨q,h2,h⟩:=ax h;obtain⟨z,h3,h⟩:=ax h;obtain⟨u,h4,h⟩:=ax h;obtain⟨h5,h6,h⟩:=ct h;obtain⟨c1,h5⟩:=and_true.1 h5;obtain⟨c2,h5⟩:=and_true.1 h5;obtain⟨c3,h5⟩:=and_true.1 h5;obtain⟨c4,c5⟩:=and_true.1 h5;have e:=sY hm;have c2:q.1=u.1:=Nat.eq_of_beq_eq_true c2;refine hn _ _ _ ?_ h;rw[e];refine mJ h1 ?_;rw[Kw h3];exact hE.tt _ _ _ _ _ _ _ _ _ h2 c1 c3 c4 c5 (by rw[LZ h4,c2]) h6
    ·obtain⟨x,h1,h⟩:=ax h;obtain⟨m,hm,h⟩:=ax h;obtain⟨q,h2,h⟩:=ax h;obtain⟨h5,h6,h⟩:=ct h;obtain⟨c1,c2⟩:=and_true.1 h5;have e:=sY hm;refine hn _ _ _ ?_ h;rw[e];exact mJ h1<|hE.tn _ _ _ _ _ _ _ h2 c1 c2 h6
    ·obtain⟨x,h1,h⟩:=ax h;obtain⟨a,h2,h⟩:=ax h;obtain⟨n',h3,h⟩:=ax h;obtain⟨i',h4,h⟩:=ax h;obtain⟨i1,h5,h⟩:=ax h;obtain⟨y,h6,h⟩:=ax h;obtain⟨hb,h7,h8,h9⟩:=ct h;obtain⟨b1,hb⟩:=and_true.1 hb;obtain⟨b2,hb⟩:=and_true.1 hb;obtain⟨b3,hb⟩:=and_true.1 hb;obtain⟨b4,b5⟩:=and_true.1 hb;rw[yz h3] at h2;rw[gN h5,sZ b3] at h4;have key:=Oo (P:=E.P) (Sy:=br E.P E.sp E.F n) h2 h4 (yl h6) b1 b2 (GJ b4) h7 b5;rw[←Ew h1] at key;cases hq:kV _ i1.2 with
     |true=>rw[hq,if_pos rfl] at key;exact hn _ _ _ key<|h8 hq
     |false=>rw[hq,if_neg (by intro e;cases e)] at key;exact hn _ _ _ key<|h9 hq
    ·obtain⟨x,h1,h⟩:=ax h;obtain⟨a,h2,h⟩:=ax h;obtain⟨n',h3,h⟩:=ax h;obtain⟨i',h4,h⟩:=ax h;obtain⟨i1,h5,h⟩:=ax h;obtain⟨v',h8,h⟩:=ax h;obtain⟨v1,h9,h⟩:=ax h;obtain⟨y,h6,h⟩:=ax h;obtain⟨hb,h7,h⟩:=ct h;obtain⟨b1,hb⟩:=and_true.1 hb;obtain⟨b2,hb⟩:=and_true.1 hb;obtain⟨b3,hb⟩:=and_true.1 hb;obtain⟨b4,hb⟩:=and_true.1 hb;obtain⟨b5,b6⟩:=and_true.1 hb;refine hn _ _ _ ?_ h;rw[AJ h1];rw[yz h3] at h2;rw[gN h5,sZ b3] at h4;rw[gN h9,sZ b4] at h8;exact Oq h2 h4 h8 (yl h6) b1 b2 h7 b5 b6
    ·obtain⟨x,h1,h⟩:=ax h;obtain⟨a,h2,h⟩:=ax h;obtain⟨a',h3,h⟩:=ax h;obtain⟨K1,h4,h⟩:=ax h;obtain⟨gy,h5,h⟩:=ax h;obtain⟨bP,h6,h⟩:=ax h;obtain⟨h7,h8,h9,k1,hz⟩:=ct h;rw[h8] at h5;rw[qB h3] at h2;refine hn _ _ _ ?_ hz;rw[Ey h1];exact Ps h2 h4 h5 h6 h7 h9 k1
    ·obtain⟨x,h1,h⟩:=ax h;obtain⟨a,h2,h⟩:=ax h;obtain⟨a',h3,h⟩:=ax h;obtain⟨K1,h4,h⟩:=ax h;obtain⟨hi,h5,h⟩:=ax h;obtain⟨bP,h6,h⟩:=ax h;obtain⟨mx,h7,h⟩:=ax h;obtain⟨rT,h8,h⟩:=ax h;obtain⟨h9,k1,k2,k3,h⟩:=ct h;rw[qB h3] at h2;rw[gN h6] at h5;rw[gN h8] at h7;refine hn _ _ _ ?_ h;rw[JC h1];exact Pt h2 h4 h5 h7 h9 k1 k2 k3
    ·obtain⟨x,h1,h⟩:=ax h;obtain⟨a,h2,h⟩:=ax h;obtain⟨a',h3,h⟩:=ax h;obtain⟨b,h4,h⟩:=ax h;obtain⟨b',h5,h⟩:=ax h;obtain⟨i1,h6,h⟩:=ax h;obtain⟨hb,k0,k1,k2,k3,k4,k5,k6,k7,k8,k9,xB,D0,h⟩:=ct h;obtain⟨b1,hb⟩:=and_true.1 hb;obtain⟨b2,hb⟩:=and_true.1 hb;obtain⟨b3,b4⟩:=and_true.1 hb;obtain⟨ty,e,e1,e2,e3,e4,e5⟩:=yc h6;cases bP:E.P.info? e with
     |none=>rw[bP] at e3;cases e3
     |some i0=>rw[bP] at e3;simp only[Option.map_some,Option.some.injEq,Prod.mk.injEq] at e3;obtain⟨q1,q2,q3⟩:=e3;rw[qB h3,k0] at h2;rw[qB h5] at h4;rw[←q1] at k6 k7 k8 h;rw[←q2] at xB e5;refine iQ _ _ _ _ _ b4 ?_ h;rw[yb h1];obtain⟨rd,wr,d1,d2,d3,d4⟩:=Ot (s:=cB D s) (Sy:=br E.P E.sp E.F n) h2 h4 e1 e2 bP (by rw[q3,e4];rfl) k1 k2 k3 k4 k5 k6 k7 k8 (by rw[b1,b2,b3];rfl) k9 e5 xB D0;exact⟨rd,wr,fun k hk=>by rcases d1 k hk with rfl|rfl|h;exact .inl (by simp);exact .inl (by simp);exact .inr h,fun k hk=>.inr<|d2 k hk,d3,d4⟩
    ·obtain⟨x,h1,h⟩:=ax h;obtain⟨a,h2,h⟩:=ax h;obtain⟨a',h3,h⟩:=ax h;obtain⟨b,h4,h⟩:=ax h;obtain⟨b',h5,h⟩:=ax h;obtain⟨i1,h6,h⟩:=ax h;obtain⟨hb,k0,kk,k1,k2,k3,k4,k5,k6,k7,k8,k9,xB,D0,h⟩:=ct h;obtain⟨b0,hb⟩:=and_true.1 hb;obtain⟨b1,hb⟩:=and_true.1 hb;obtain⟨b2,b3⟩:=and_true.1 hb;obtain⟨ty,e,e1,e2,e3,e4,e5⟩:=yc h6;cases bP:E.P.info? e with
     |none=>rw[bP] at e3;cases e3
     |some i0=>rw[bP] at e3;simp only[Option.map_some,Option.some.injEq,Prod.mk.injEq] at e3;obtain⟨q1,q2,q3⟩:=e3;rw[qB h3,k0] at h2;rw[qB h5] at h4;rw[←q1] at k6 k7 k8 h b0;rw[←q2] at xB e5;refine hn _ _ _ ?_ h;rw[yb h1];exact Ou (s:=cB D s) (Sy:=br E.P E.sp E.F n) h2 h4 e1 e2 bP (by rw[q3,e4];rfl) kk k1 (by unfold oc at b0;exact(blt_eq _ _).mp b0) k2 k3 k4 k5 k6 k7 k8 (by rw[b1,b2,b3];rfl) k9 e5 xB D0
    ·obtain⟨x,h1,h⟩:=ax h;obtain⟨m,hm,h⟩:=ax h;have e:=sY hm;split at h
     ·exact h.elim
     ·rename_i Ru;obtain⟨fn,cw,h⟩:=ax h;obtain⟨body,cV,h⟩:=ax h;obtain⟨dX,h⟩:=ct h;obtain⟨ir,h⟩:=ct h;have dX:(fn.name == "runtime.NumGoroutine")=false:=by simpa using dX
      have H:=ih m _ _ _ nx (fun _ _ _=>False) (Ev E.P (br E.P E.sp E.F m) fun aU jm s1=>∃v s2 p,finish E.P fn.results.toList aU jm s1= .ok v s2/\nx v s2 p) Chunk.ev (fun fr s j aU jm s1 v s2 p q1 q2 q3=>⟨j,aU,jm,s1,q1,v,s2,p,q2,q3⟩) (fun _ _ _ q=>q.elim) (fun _ _ _ _ _ _ _ _ _ _ _ _ _ _ _ q=>q.elim) (fun _ _ _ _ _ _ _ _ _ _ _ _ _ _ _ q=>q.elim) (fun _ _ _ _ _ _ _ _ _ _ _ _ _ _ _ _ q=>q.elim) h;obtain⟨j,aU,jm,s1,q1,v,s2,p,q2,q3⟩:=H;refine hn _ _ _ (mJ h1 ?_) q3;rw[e];show gg E.P E.sp x.1 (br E.P E.sp E.F m) x.2 _=_;rw[Gy Ru cw cV dX];unfold nY;rw[ir,bC,M.bo<|F3 q1];exact q2
    ·exact h.elim
theorem av{A B:Prop}(c:Prop)(x:c->A)(y:¬c->B):(c->A)/\(¬c->B):=⟨x,y⟩
theorem bp.back{P:Program}{B:aC}{J:Nat}{Q:Tr AV->List Nat->Option Code->AS->Prop}{s:AS}{t:Tr AV}{nt f:Nat}{K:List Item}{l:List<|Nat×AV}{o:List<|Nat×Option U}{nx:Nat}(hl:jB top l=true)(ho:jB nx o=true)(hn:(Nat.ble nx s.nx&&(Nat.blt s.nx top&&Nat.ble J nx))=true)(hg:fw<=J)(ht:n8 t l)(hh:ot s.h o)(he:uf nx l o)(H:bp P B J Q ⟨f,cH l,nt,K,[],none⟩<|ab o nx):bp P B J Q ⟨f,t,nt,K,[],none⟩ s:=by
 obtain⟨n1,n2⟩:=and_true.1 hn;obtain⟨n2,n3⟩:=and_true.1 n2;have n1:=aL.1 n1;have n2:=(blt_eq _ _).mp n2;have n3:=aL.1 n3;let r:Nat->Nat:=fun k=>if k<nx\/top<=k then k else max k s.nx
 have r1:∀k,k<nx->r k=k:=fun k hk=>by show(if _ then _ else _)=_;rw[if_pos<|.inl hk]
 have r2:∀k,top<=k->r k=k:=fun k hk=>by show(if _ then _ else _)=_;rw[if_pos<|.inr hk]
 obtain⟨e1,e2⟩:=he r r1 r2;refine bp.weaken (s2:=ab o nx) (t2:=cH l) [] r (fun k hk=>r1 k<|by omega) (fun k hk ht=>?_) r2 hg ⟨Nat.zero_le _,by show nx<=top;omega⟩ rfl rfl (fun _ h=>by cases h) (fun i y hy=>?_) (fun n o2 hn hg=>?_) (fun _ h=>by cases h) (fun n m x y hn hm h1 h2 e=>?_) H
 ·have gI:nx<=k:=hk;show s.nx<=(if _ then _ else _)/\(if _ then _ else _)<top;rw[if_neg<|by omega];omega
 ·have hm:=yI (fun p hp=>nO hl p hp) hy;exact⟨y,ht.mem _ hm,(e1 _ hm).z⟩
 ·have ch:∀p∈o,p.1<top:=fun p hp=>by have:=nO ho p hp;omega
  have hm:=o6 ch hg;obtain⟨h1,h2⟩:=hh.mem _ hm;have aS:n<nx:=nO ho _ hm;rw[r1 n aS];exact⟨hn,.inl<|h2 o2 rfl,o2,h1,gU.refl _,(e2 _ hm o2 rfl).z⟩
 ·have ch:∀p∈o,p.1<top:=fun p hp=>by have:=nO ho p hp;omega
  have a1:n<nx:=nO ho _<|o6 ch h1;have a2:m<nx:=nO ho _<|o6 ch h2;rw[r1 n a1,r1 m a2] at e;exact e
theorem bp.rn{P:Program}{B:aC}{J:Nat}{Q:Tr AV->List Nat->Option Code->AS->Prop}{s:AS}{t:Tr AV}{nt f:Nat}{K:List Item}{l0 l:List<|Nat×AV}{o0 o:List<|Nat×Option U}{nx:Nat}(hg:fw<=J)(h1:l0.map (fun q=>t.get q.1)=l0.map (fun q=>some q.2))(h2:o0.map (fun q=>s.h.get q.1)=o0.map (fun q=>q.2))(hw:kW B.F J s.nx l0 o0 l o nx)(H:bp P B J Q ⟨f,cH l,nt,K,[],none⟩<|ab o nx):bp P B J Q ⟨f,t,nt,K,[],none⟩ s:=by
 obtain⟨fz,r,r1,r2,r3,r4,r5,r6,r7,r8,r9⟩:=hw;have hs:∀(l0:List<|Nat×AV),l0.map (fun q=>t.get q.1)=l0.map (fun q=>some q.2)->∀p∈l0,t.get p.1=some p.2:=by
  intro l0;induction l0 with
  |nil=>intro _ p hp;cases hp
  |cons a l ih=>
   intro h p hp;simp only[List.map_cons,List.cons.injEq] at h;rcases List.mem_cons.1 hp with rfl|hp
   ·exact h.1
   ·exact ih h.2 p hp
 have ho:∀(o0:List<|Nat×Option U),o0.map (fun q=>s.h.get q.1)=o0.map (fun q=>q.2)->∀p∈o0,s.h.get p.1=p.2:=by
  intro o0;induction o0 with
  |nil=>intro _ p hp;cases hp
  |cons a l ih=>
   intro h p hp;simp only[List.map_cons,List.cons.injEq] at h;rcases List.mem_cons.1 hp with rfl|hp
   ·exact h.1
   ·exact ih h.2 p hp
 have oP:∀n y,n<top->(jA o).get n=some y->(n,some y)∈o:=fun n y hn hg=>o6 (fun p hp=>(r6 p hp).1) hg;refine bp.weaken (s2:=ab o nx) (t2:=cH l) fz r r1 (fun k hk ht=>r2 k hk ht) r3 hg ⟨Nat.zero_le _,r4⟩ rfl rfl (fun p hp=>?_) (fun i y hy=>?_) (fun n y hn hg=>?_) (fun p hp n y hn hg=>?_) (fun n m x y hn hm e1 e2 e=>?_) H
 ·obtain⟨q1,q2,N,t',z,q3,q4⟩:=r8 p hp;exact⟨q1,q2,N,t',z,ho o0 h2 _ q3,fun i x hx=>by obtain⟨i1,i2,i3,i4⟩:=q4 i x hx;exact⟨i1,i2,i3,fun ρ v hv=>AV.tE Ol i4 hv⟩⟩
 ·have hm:=yI (fun p hp=>(r5 p hp).1) hy;obtain⟨_,x,hx,hv⟩:=r5 _ hm;exact⟨x,hs l0 h1 _ hx,hv⟩
 ·obtain⟨_,q⟩:=r6 _<|oP n y hn hg;obtain⟨q1,q2,x,q3,q4,q5⟩:=q y rfl;exact⟨q1,.inl q2,x,ho o0 h2 _ q3,q4,q5⟩
 ·exact r9 p hp _ (oP n y hn hg) (by simp)
 ·exact r7 _ (oP n x hn e1) _ (oP m y hm e2) (by simp) (by simp) e
theorem Cl{E:Env}(hE:E.Ok){P:Program}(hP:E.P=P){B:aC}{J n f nt:Nat}{t:Tr AV}{K:List Item}{s:AS}{rs:List ResultVar}{R:AV->AS->Prop}(bX:P.follows .mixedOrders=true)(hc:dm P B<|br E.P E.sp E.F n)(hl:∀t a,Sx<|br E.P E.sp E.F n t a)(hg:fw<=J)(cr:E.lo=J)(hF:B.F=E.F){C:ug}(hC:∀fr s p,C fr s p->bp P B J (Fin P rs R) fr s)(fuel:Nat)(p:Pl){T:Prop}(x:T)(h:T=wp E fuel n (.fr f nt K t s) p rs (fun v s _=>R v s) C:=by as_aux_lemma=>kernel_rfl)(h0:Nat.ble J s.nx=true:=by as_aux_lemma=>kernel_rfl):bp P B J (Fin P rs R) ⟨f,t,nt,K,[],none⟩ s:=by
 subst hP;have H:=BF hE fuel n (.fr f nt K t s) p rs (fun v s _=>R v s) C (rA E.P B J<|Fin E.P rs R) (Chunk.xy bX hc hl)
  (fun fr s j aU jm s1 v s2 p q1 q2 q3 h0=>bp.leave bX hc hl q1 h0 ⟨v,s2,by rw[←yy];exact q2,q3⟩) (fun fr s p q _=>hC fr s p q)
  (fun f nt K t s l o nx p _ q1 q2 q3 q4 q5 q6 _=>bp.less q1 q2 q3 hg q4 q5<|hC _ _ _ q6) (fun f nt K t s l0 o0 l o nx p _ q1 q2 q3 q4 _=>bp.rn hg q1 q2 (by rw[←cr,hF];exact q3)<|hC _ _ _ q4) (fun f nt K t s l o nx p _ q1 q2 q3 q4 q5 q6 q7 _=>bp.back q1 q2 (by rw[←cr];exact q3) hg q4 q5 q6<|hC _ _ _ q7) (h▸x)
 exact rA.start h0 H
theorem Cn{E:Env}(hE:E.Ok){P:Program}(hP:E.P=P){B:aC}{J n f nt:Nat}{t:Tr AV}{K:List Item}{s:AS}{rs:List ResultVar}{R:AV->AS->Prop}(bX:P.follows .mixedOrders=true)(hc:dm P B<|br E.P E.sp E.F n)(hl:∀t a,Sx<|br E.P E.sp E.F n t a)(fuel:Nat)(p:Pl){T:Prop}(x:T)(h:T=wp E fuel n (.fr f nt K t s) p rs (fun v s _=>R v s) (fun _ _ _=>False):=by as_aux_lemma=>kernel_rfl)(h0:Nat.ble J s.nx=true:=by as_aux_lemma=>kernel_rfl):bp P B J (Fin P rs R) ⟨f,t,nt,K,[],none⟩ s:=by subst hP;have H:=BF hE fuel n (.fr f nt K t s) p rs (fun v s _=>R v s) (fun _ _ _=>False) (rA E.P B J<|Fin E.P rs R) (Chunk.xy bX hc hl) (fun fr s j aU jm s1 v s2 p q1 q2 q3 h0=>bp.leave bX hc hl q1 h0 ⟨v,s2,by rw[←yy];exact q2,q3⟩) (fun _ _ _ q=>q.elim) (fun _ _ _ _ _ _ _ _ _ _ _ _ _ _ _ q=>q.elim) (fun _ _ _ _ _ _ _ _ _ _ _ _ _ _ _ q=>q.elim) (fun _ _ _ _ _ _ _ _ _ _ _ _ _ _ _ _ q=>q.elim)<|h▸x;exact rA.start h0 H
end Go.Rn
namespace Go.Rn
open Go.RowKit
theorem Co{α:Type}{enc:α->List AV}{K:Nat}(he:∀x,(enc x).length=K){l:List α}{i:Nat}{c:α}(hl:l.length*K<=top)(hc:l[i]? =some c)(j k:Nat)(hj:Nat.ble (j+k) K=true):cellsOf (some<|aG enc l) (i*K+j) k=some (((enc c).drop j).take k):=by have lv:=aL.1 hj;obtain⟨q1,q2⟩:=He he (k:=k) hc lv;show(match Nat.ble (i*K+j+k) (l.map enc).flatten.length with|true=>eF (Tr.fill (l.map enc).flatten 0 .nil) [] k (i*K+j)|false=>none)=_;rw[aL.2 q1];show eF (Tr.fill (l.map enc).flatten 0 .nil) [] k (i*K+j)=_;rw[AU (by rw[te he];exact hl) _ _ q1,q2]
theorem Cp{α:Type}{enc:α->List AV}{K:Nat}(he:∀x,(enc x).length=K){l:List α}{i:Nat}{c c':α}{r:List AV}(hl:l.length*K<=top)(hc:l[i]? =some c)(j:Nat)(hr:enc c'=pH (enc c) j r)(hj:Nat.ble (j+r.length) K=true)(h1:r.all AV.bB=true):gW (some<|aG enc l) (i*K+j) r=some (aG enc<|l.set i c'):=by
 have lv:=aL.1 hj;obtain⟨q1,_⟩:=He he (k:=r.length) hc lv;have wu:=MM he hc hr lv;have hlen:(l.map enc).flatten.length<=top:=by rw[te he];exact hl
 show(match (Nat.ble (i*K+j+r.length) (l.map enc).flatten.length&&(Nat.ble (l.map enc).flatten.length top&&r.all AV.bB)) with|true=>some (U.cells (l.map enc).flatten.length (Tr.fill r (i*K+j)<|Tr.fill (l.map enc).flatten 0 .nil) [])|false=>none)=_;rw[show(Nat.ble (i*K+j+r.length) (l.map enc).flatten.length&&(Nat.ble (l.map enc).flatten.length top&&r.all AV.bB))=true from and_true.2 ⟨aL.2 q1,and_true.2 ⟨aL.2 hlen,h1⟩⟩];show some _=some _;congr 1;unfold aG;rw[Gc r _ _ q1 hlen,wu,te he,te he,List.length_set]
end Go.Rn
namespace Go.Rn
open Go.RowKit
def wU(nx:Nat)(x:AV):Bool:=match x with
 | .b9 n _ _=>Nat.blt n nx&&Nat.blt n top
 | .func (.func _) [] []=>true
 | .slice none 0 (.known 0)=>true
 |x=>x.flat
theorem cn.L0{r:Nat->Nat}{n o len:Nat}(e:r n=n)(h:n<top):cn r (.b9 n o len)<|.b9 n o len:=by intro ρ v k;simp only[VR] at k ⊢;exact k.imp id fun⟨b,sh,c,h1,h2⟩=>⟨b,sh,c,.inl ⟨by omega,(congrArg ρ e).trans<|h1.low<|by omega⟩,h2⟩
theorem GK{nx:Nat}{x:AV}{r:Nat->Nat}(r1:∀k,k<nx->r k=k)(h:wU nx x=true):cn r x x:=by
 unfold wU at h;split at h
 ·obtain⟨h1,h2⟩:=and_true.1 h;exact cn.L0 (r1 _<|(blt_eq _ _).mp h1)<|(blt_eq _ _).mp h2
 ·intro ρ v k;simp only[VR,aq] at k ⊢;exact k
 ·exact cn.GF
 ·exact cn.flat h
noncomputable def wV(nx:Nat)(t:Tr AV):Nat->Bool
 |0=>true
 |n+1=>(match t.get n with|some x=>wU nx x|none=>true)&&wV nx t n
theorem B2{nx:Nat}{t:Tr AV}:∀{n i:Nat} {x:AV},wV nx t n=true->i<n->t.get i=some x->wU nx x=true
 |0,_,_,_,h,_=>by omega
 |n+1,i,x,h,hi,hx=>by
  obtain⟨h1,h2⟩:=and_true.1 (show((match t.get n with|some x=>wU nx x|none=>true)&&wV nx t n)=true from h);by_cases q:i=n
  ·subst q;rw[hx] at h1;exact h1
  ·exact B2 h2 (by omega) hx
noncomputable def Dk(nx:Nat)(o:U):Bool:=match o with
 | .ro n t=>wV nx t n
 | .lV n t=>wV nx t n
 |_=>false
theorem MU{nx:Nat}{o:U}{r:Nat->Nat}(r1:∀k,k<nx->r k=k)(h:Dk nx o=true):fX r o o:=by
 unfold Dk at h;split at h
 ·intro ρ N ob k;simp only[OR] at k ⊢;obtain⟨c,e,fr,k1,k2,k3,k4⟩:=k;exact⟨c,e,fr,k1,k2,k3,fun i hi=>let ⟨x,v,a1,a2,a3,a4⟩:=k4 i hi;⟨x,v,a1,a2,a3,GK r1 (B2 h hi a1) ρ v a4⟩⟩
 ·intro ρ N ob k;simp only[OR] at k ⊢;obtain⟨c,e,fr,k1,k4⟩:=k;exact⟨c,e,fr,k1,fun i hi=>let ⟨x,v,a1,a2,a3,a4⟩:=k4 i hi;⟨x,v,a1,a2,a3,GK r1 (B2 h hi a1) ρ v a4⟩⟩
 ·cases h
theorem BG{nx:Nat}{o:List<|Nat×Option U}{r:Nat->Nat}(r1:∀k,k<nx->r k=k)(h:(o.all fun p=>match p.2 with|some x=>Dk nx x|none=>true)=true):∀p∈o,∀x,p.2=some x->fX r x x:=by intro p hp x hx;have:=List.all_eq_true.1 h p hp;rw[hx] at this;exact MU r1 this
end Go.Rn
namespace Go.Rn
end Go.Rn
namespace Go.Rn
open Go.RowKit
def kc:List Nat->Nat
 |[]=>0
 |x::l=>pr x<|kc l
theorem HH(a b:Nat):0<pr a b:=Nat.mul_pos (Nat.pow_pos<|by omega) (by omega)
theorem Bp:∀{l m:List Nat},kc l=kc m->l=m
 |[],[],_=>rfl
 |[],x::m,h=>by have:=HH x<|kc m;simp only[kc] at h;omega
 |x::l,[],h=>by have:=HH x<|kc l;simp only[kc] at h;omega
 |x::l,y::m,h=>by obtain⟨h1,h2⟩:=cR (show pr x (kc l)=pr y (kc m) from h);rw[h1,Bp h2]
def vZ:Int->Nat
 | .ofNat n=>2*n
 | .negSucc n=>2*n+1
theorem L3:∀{a b:Int},vZ a=vZ b->a=b
 | .ofNat n,.ofNat m,h=>by have h:2*n=2*m:=h;rw[show n=m by omega]
 | .ofNat n,.negSucc m,h=>by have h:2*n=2*m+1:=h;omega
 | .negSucc n,.ofNat m,h=>by have h:2*n+1=2*m:=h;omega
 | .negSucc n,.negSucc m,h=>by have h:2*n+1=2*m+1:=h;rw[show n=m by omega]
def rj:AV->Nat
 | .bool b=>pr 0 b.toNat
 | .int k n=>pr 1<|pr k.ctorIdx<|vZ n
 | .str s=>pr 2<|kc<|s.data.toList.map UInt8.toNat
 | .b9 n o len=>pr 3<|pr n<|pr o len
 | .nilFunc=>pr 4 0
 | .nilIface=>pr 4 1
 | .ptr none=>pr 4 2
 | .map none=>pr 4 3
 |_=>0
def AV.fy(x:AV):Bool:=match x with
 | .bool _| .int _ _| .str _| .nilFunc| .nilIface| .ptr none| .map none=>true
 | .b9 n _ _=>Nat.ble top n
 |_=>false
theorem MV:∀{k l:IntKind},k.ctorIdx=l.ctorIdx->k=l:=by intro k l h;cases k<;>cases l<;>first|rfl|(exact absurd h<|by decide)
theorem bytes_inj{s u:ByteArray}(h:s.data.toList.map UInt8.toNat=u.data.toList.map UInt8.toNat):s=u:=by
 have e:s.data.toList=u.data.toList:=by
  refine List.ext_getElem? fun i=>?_;have:=congrArg (fun l=>l[i]?) h;simp only[List.getElem?_map] at this;cases e1:s.data.toList[i]? with
  |none=>rw[e1] at this;cases e2:u.data.toList[i]? with
   |none=>rfl
   |some y=>rw[e2] at this;cases this
  |some x=>rw[e1] at this;cases e2:u.data.toList[i]? with
   |none=>rw[e2] at this;cases this
   |some y=>rw[e2] at this;simp only[Option.map_some,Option.some.injEq] at this;rw[UInt8.toNat_inj.1 this]
 obtain⟨⟨a⟩⟩:=s;obtain⟨⟨b⟩⟩:=u;have e:a=b:=e;rw[e]
theorem L4:∀{x y:AV},x.fy=true->y.fy=true->rj x=rj y->x=y:=by
 intro x y hx hy h;cases x<;>first|(cases hx;done)|skip
 case bool a=>
  cases y<;>first|(cases hy;done)|skip
  case bool b=>have:=(cR (show pr 0 a.toNat=pr 0 b.toNat from h)).2;cases a<;>cases b<;>first|rfl|(exact absurd this<|by decide)
  case ptr b=>cases b<;>first|(cases hy;done)|(exact absurd (cR (show pr 0 a.toNat=pr 4 2 from h)).1<|by decide)
  case map b=>cases b<;>first|(cases hy;done)|(exact absurd (cR (show pr 0 a.toNat=pr 4 3 from h)).1<|by decide)
  all_goals exact absurd (cR (show pr 0 a.toNat=pr _ _ from h)).1 (by decide)
 case int k n=>
  cases y<;>first|(cases hy;done)|skip
  case int k' n'=>obtain⟨h3,h4⟩:=cR (cR (show pr 1 (pr k.ctorIdx<|vZ n)=pr 1 (pr k'.ctorIdx<|vZ n') from h)).2;rw[MV h3,L3 h4]
  case ptr b=>cases b<;>first|(cases hy;done)|(exact absurd (cR (show pr 1 _=pr 4 2 from h)).1<|by decide)
  case map b=>cases b<;>first|(cases hy;done)|(exact absurd (cR (show pr 1 _=pr 4 3 from h)).1<|by decide)
  all_goals exact absurd (cR (show pr 1 _=pr _ _ from h)).1 (by decide)
 case str u=>
  cases y<;>first|(cases hy;done)|skip
  case str u'=>rw[bytes_inj<|Bp (cR (show pr 2 _=pr 2 _ from h)).2]
  case ptr b=>cases b<;>first|(cases hy;done)|(exact absurd (cR (show pr 2 _=pr 4 2 from h)).1<|by decide)
  case map b=>cases b<;>first|(cases hy;done)|(exact absurd (cR (show pr 2 _=pr 4 3 from h)).1<|by decide)
  all_goals exact absurd (cR (show pr 2 _=pr _ _ from h)).1 (by decide)
 case b9 n o l=>
  cases y<;>first|(cases hy;done)|skip
  case b9 n' o' l'=>obtain⟨h3,h4⟩:=cR (cR (show pr 3 (pr n<|pr o l)=pr 3 (pr n'<|pr o' l') from h)).2;obtain⟨h5,h6⟩:=cR h4;rw[h3,h5,h6]
  case ptr b=>cases b<;>first|(cases hy;done)|(exact absurd (cR (show pr 3 _=pr 4 2 from h)).1<|by decide)
  case map b=>cases b<;>first|(cases hy;done)|(exact absurd (cR (show pr 3 _=pr 4 3 from h)).1<|by decide)
  all_goals exact absurd (cR (show pr 3 _=pr _ _ from h)).1 (by decide)
 case nilFunc=>
  cases y<;>first|(cases hy;done)|rfl|skip
  case ptr b=>cases b<;>first|(cases hy;done)|(exact absurd (cR (show pr 4 0=pr 4 2 from h)).2<|by decide)
  case map b=>cases b<;>first|(cases hy;done)|(exact absurd (cR (show pr 4 0=pr 4 3 from h)).2<|by decide)
  case nilIface=>exact absurd (cR (show pr 4 0=pr 4 1 from h)).2 (by decide)
  all_goals exact absurd (cR (show pr 4 0=pr _ _ from h)).1 (by decide)
 case nilIface=>
  cases y<;>first|(cases hy;done)|rfl|skip
  case ptr b=>cases b<;>first|(cases hy;done)|(exact absurd (cR (show pr 4 1=pr 4 2 from h)).2<|by decide)
  case map b=>cases b<;>first|(cases hy;done)|(exact absurd (cR (show pr 4 1=pr 4 3 from h)).2<|by decide)
  case nilFunc=>exact absurd (cR (show pr 4 1=pr 4 0 from h)).2 (by decide)
  all_goals exact absurd (cR (show pr 4 1=pr _ _ from h)).1 (by decide)
 case ptr a=>
  cases a<;>first|(cases hx;done)|skip
  cases y<;>first|(cases hy;done)|skip
  case ptr b=>cases b<;>first|(cases hy;done)|rfl
  case map b=>cases b<;>first|(cases hy;done)|(exact absurd (cR (show pr 4 2=pr 4 3 from h)).2<|by decide)
  case nilIface=>exact absurd (cR (show pr 4 2=pr 4 1 from h)).2 (by decide)
  case nilFunc=>exact absurd (cR (show pr 4 2=pr 4 0 from h)).2 (by decide)
  all_goals exact absurd (cR (show pr 4 2=pr _ _ from h)).1 (by decide)
 case map a=>
  cases a<;>first|(cases hx;done)|skip
  cases y<;>first|(cases hy;done)|skip
  case ptr b=>cases b<;>first|(cases hy;done)|(exact absurd (cR (show pr 4 3=pr 4 2 from h)).2<|by decide)
  case map b=>cases b<;>first|(cases hy;done)|rfl
  case nilIface=>exact absurd (cR (show pr 4 3=pr 4 1 from h)).2 (by decide)
  case nilFunc=>exact absurd (cR (show pr 4 3=pr 4 0 from h)).2 (by decide)
  all_goals exact absurd (cR (show pr 4 3=pr _ _ from h)).1 (by decide)
theorem FE:∀{l m:List AV},l.all AV.fy=true->m.all AV.fy=true->l.map rj=m.map rj->l=m
 |[],[],_,_,_=>rfl
 |[],_::_,_,_,h=>by cases h
 |_::_,[],_,_,h=>by cases h
 |x::l,y::m,hx,hy,h=>by obtain⟨a1,a2⟩:=and_true.1 (show(x.fy&&l.all AV.fy)=true from hx);obtain⟨b1,b2⟩:=and_true.1 (show(y.fy&&m.all AV.fy)=true from hy);simp only[List.map_cons,List.cons.injEq] at h;rw[L4 a1 b1 h.1,FE a2 b2 h.2]
noncomputable section
def nm(cs:List AV):Nat:=top+2+kc (cs.map rj)
open Classical in
def FU(n:Nat):Option<|List AV:=if h:∃cs:List AV,cs.all AV.fy=true/\nm cs=n then some h.choose else none
def az{α:Type}(enc:α->List AV)(l:List α):AV:=.b9 (nm (l.map enc).flatten) 0 l.length
end
theorem aQ(cs:List AV):top<=nm cs:=Nat.le_trans (Nat.le_add_right top 2)<|Nat.le_add_right _ _
theorem v5(cs:List AV):nm cs≠top/\nm cs≠top+1:=by unfold nm;omega
theorem CV{cs:List AV}(h:cs.all AV.fy=true):FU (nm cs)=some cs:=by have hx:∃ds:List AV,ds.all AV.fy=true/\nm ds=nm cs:=⟨cs,h,rfl⟩;unfold FU;rw[dif_pos hx];obtain⟨h1,h2⟩:=hx.choose_spec;exact congrArg some<|FE h1 h<|Bp (by have h3:top+2+kc (hx.choose.map rj)=top+2+kc (cs.map rj):=h2;omega)
theorem Bq{x:AV}(h:x.fy=true):x.bB=true:=by cases x<;>first|rfl|(cases h;done)
theorem BH{x:AV}(h:x.fy=true):x.bV=true:=by
 cases x<;>first|rfl|(cases h;done)|skip
 ·rename_i a;cases a with
  |none=>rfl
  |some _=>cases h
 ·exact h
 ·rename_i a;cases a with
  |none=>rfl
  |some _=>cases h
theorem Oz{cs:List AV}(h:cs.all AV.fy=true){off k:Nat}(hk:off+k<=cs.length):eK FU (nm cs) off k=some ((cs.drop off).take k):=by unfold eK;rw[CV h];simp only[(aL.2 hk:Nat.ble (off+k) cs.length=true)]
structure kh {α:Type} (K:Nat) (enc:α->List AV):Prop where
 len:∀a,(enc a).length=K
 fy:∀a,(enc a).all AV.fy=true
theorem kh.all{α:Type}{K:Nat}{enc:α->List AV}(h:kh K enc):∀l:List α,(l.map enc).flatten.all AV.fy=true
 |[]=>rfl
 |a::l=>by rw[List.map_cons,List.flatten_cons,List.all_append,h.fy a,kh.all h l];rfl
theorem kh.length{α:Type}{K:Nat}{enc:α->List AV}(h:kh K enc)(l:List α):(l.map enc).flatten.length=l.length*K:=by
 have:=sU (K:=K) (l:=l.map enc) fun c hc=>by obtain⟨a,_,rfl⟩:=List.mem_map.1 hc;exact h.len a
 rw[this,List.length_map]
theorem qZ{α:Type}{K:Nat}{enc:α->List AV}(h:kh K enc){l:List α}{i:Nat}{a:α}(ha:l[i]? =some a)(j k:Nat)(hk:j+k<=K):eK FU (nm (l.map enc).flatten) (i*K+j) k=some (((enc a).drop j).take k):=by
 have hi:=(List.getElem?_eq_some_iff.1 ha).1;have hle:i*K+K<=(l.map enc).flatten.length:=by rw[h.length];have:=Nat.mul_le_mul_right K (show i+1<=l.length from hi);rw[Nat.add_mul,Nat.one_mul] at this;exact this
 rw[Oz (h.all l)<|by omega];have hf:=FC (l:=l.map enc) (K:=K) (i:=i) (c:=enc a) (fun c hc=>by obtain⟨a,_,rfl⟩:=List.mem_map.1 hc;exact h.len a) (by rw[List.getElem?_map,ha];rfl);have hd:((l.map enc).flatten.drop<|i*K+j).take k=((((l.map enc).flatten.drop<|i*K).take K).drop j).take k:=by rw[List.drop_take,List.take_take,List.drop_drop,Nat.min_eq_left<|by omega]
 rw[hd,hf]
def gG(J:Nat)(ρ:ah):ah:=fun k=>if k<J then ρ k else dU ρ k
def v7(B:aC)(ρ:ah)(w:World):aC:=⟨fun k=>w.heap.size<=k,B.F,fun k=>ρ k≠none,B.inv,B.oA,B.mono⟩
theorem tu{J:Nat}{ρ:ah}(ht:J<=top){k:Nat}(hk:top<=k):gG J ρ k=ρ k:=by unfold gG dU;rw[if_neg (by omega),if_pos hk]
noncomputable section
def kN(J:Nat)(ns:List Nat)(h0:Tr U)(val:List AV->Option AV):aD->List AV->M AV:=fun _ args=>ay (args.all AV.hi) <| (fV J h0 ns).bind fun _=>aA (val args) fun v=>ay v.hi <| M.pure v
end
theorem Sx.kN(J:Nat)(ns:List Nat)(h0:Tr U)(val:List AV->Option AV)(Sy:aD)(args:List AV):Sx<|kN J ns h0 val Sy args:=Sx.ay fun _=>Sx.bind (Sx.fV J h0 ns) fun _=>Sx.aA fun _ _=>Sx.ay fun _=>Sx.pure _
theorem AX{J:Nat}{o p:U}(h:mT J o p=true):o.jy=true:=by unfold mT at h;split at h<;>first|rfl|cases h
theorem CW{B:aC}{ρ:ah}{h h0:Tr U}{w:World}{J:Nat}{ns:List Nat}(ht:J<=top)(r:Rel B ρ h w)(fp:∀n o,n<top->h0.get n=some o->n∈ns)(ga:∀n∈ns,n<J)(a3:∀n∈ns,∃o p,h.get n=some o/\h0.get n=some p/\mT J o p=true):Rel (v7 B ρ w) (gG J ρ) h0 w:=by
 have bY:∀n o,n<top->h0.get n=some o->o.jy=true/\∃b N o',gG J ρ n=some (b,N)/\w.heap[b]? =some o'/\OR (gG J ρ) N o o':=by
  intro n o hn ho;have eM:=fp n o hn ho;obtain⟨p1,p2,c2,c3,c4⟩:=a3 n eM;rw[ho] at c3;cases c3;obtain⟨b,N,o',i1,i2,i3,_⟩:=r.is n p1 hn c2;obtain⟨j1,j2⟩:=Lh c4 i3;refine⟨j1,b,N,o',?_,i2,j2.mono fun k x e=>?_⟩
  ·unfold gG;rw[if_pos<|ga n eM];exact i1
  ·have e:(if k<J then ρ k else none)=some x:=e;unfold gG;split at e
   ·rename_i q;rw[if_pos q];exact e
   ·cases e
 refine⟨fun n o hn ho=>?_,fun n m o p b N M hn hm h1 h2 b8 _ _=>?_,fun n m es ex left cur hn ho=>?_,fun _ hk=>hk,fun i j m es ex left cur dD eW eJ eL hi _ h1 _=>?_,fun n b sh e=>?_,nk.no (fun n k v hn hg=>by have:=(bY n _ hn hg).1;cases this) ⟨r.tk.1.1,fun n o hn ho _=>by have eM:=fp n o hn ho;obtain⟨p1,p2,c2,c3,c4⟩:=a3 n eM;rw[ho] at c3;cases c3;obtain⟨b,N,e1,e2⟩:=r.tk.1.2 n p1 hn c2<|AX c4;exact⟨b,N,by unfold gG;rw[if_pos<|ga n eM];exact e1,e2⟩⟩⟩
 ·obtain⟨h1,b,N,o',h2,h3,h4⟩:=bY n o hn ho;have h1:=U.gO h1;exact⟨b,N,o',h2,h3,h4,fun q=>by rw[h1] at q;cases q⟩
 ·have e1:=U.gO (bY n o hn h1).1;have e2:=U.gO (bY m p hm h2).1;rw[e1,e2] at b8;rcases b8 with q|q<;>cases q
 ·have:=(bY n _ hn ho).1;cases this
 ·have:=(bY i _ hi h1).1;cases this
 ·rw[tu ht<|eR _ _ _] at e;obtain⟨_,l,c,e',fr,g1,g2,g3,g4⟩:=r.fz n b sh e;refine⟨.inl e,l,c,e',fr,g1,g2,fun m o N hm ho hr _=>?_,fun i x hx=>?_⟩
  ·rw[U.gO (bY m o hm ho).1] at hr;cases hr
  ·obtain⟨v,k1,k2,k3⟩:=g4 i x hx;refine⟨v,k1,VR.mono (fun k y q=>?_) _ _ k2,k3⟩;unfold dU at q ⊢;split at q
   ·rename_i hk;rw[if_pos hk,tu ht hk];exact q
   ·cases q
def du(ρ σ:ah):ah:=fun k=>if top<=k then σ k else ρ k
theorem HI{B:aC}{ρ σ:ah}{h h4:Tr U}{w w':World}{J a:Nat}(ht:J<=top)(r:Rel B ρ h w)(q3:Rel (v7 B ρ w) σ h4 w')(q4:bh (v7 B ρ w) w w')(hle:(gG J ρ).le σ):
 Ext a a ρ (du ρ σ)/\iT σ (du ρ σ)/\Rel B (du ρ σ) h w'/\bh B w w':=by
 have hold:∀k x,top<=k->ρ k=some x->σ k=some x:=fun k x hk e=>hle k x (by rw[tu ht hk];exact e);have hl:ρ.le<|du ρ σ:=by
  intro k x e;unfold du;by_cases hk:top<=k
  ·rw[if_pos hk];exact hold k x hk e
  ·rw[if_neg hk];exact e
 have ch:∀k,k<top->du ρ σ k=ρ k:=fun k hk=>by unfold du;rw[if_neg<|by omega]
 have wD:bh B w w':=⟨q4.os,q4.tape,q4.output,q4.size,fun k hk _=>q4.block k hk (by show ¬(w.heap.size<=k);omega)⟩;have zw:∀b,b<w.heap.size->w'.heap[b]? =w.heap[b]? :=fun b hb=>q4.block b hb (by show ¬(w.heap.size<=b);omega);refine⟨⟨hl,fun k hk _=>ch k hk⟩,fun k x hk e=>by unfold du;rw[if_pos hk];exact e,⟨?_,?_,?_,fun k hk=>r.size k<|Nat.le_trans q4.size hk,r.lone,?_,r.tk.of hl (fun _ _ _ e _=>e) q4.size (fun b hb _=>zw b hb) (fun b1 _ hn m o N hm ho hr hb=>hn m o N hm ho hr (by rw[ch m hm] at hb;exact hb)) (fun j x sh hx _ e=>by
  unfold du;rw[if_pos<|eR _ _ _];refine Classical.byContradiction fun q=>?_;rcases(q3.fz j x sh q).1 with z|z
  ·exact z e
  ·exact absurd hx (by have z:w.heap.size<=x:=z;omega))⟩,wD⟩
 ·intro n o hn ho;obtain⟨b,N,o',h1,h2,h3,h5⟩:=r.is n o hn ho;exact⟨b,N,o',(ch n hn).trans h1,(zw b<|ff h2).trans h2,h3.mono hl,h5⟩
 ·intro n m o p b N M hn hm h1 h2 b8 e1 e2;rw[ch n hn] at e1;rw[ch m hm] at e2;exact r.one n m o p b N M hn hm h1 h2 b8 e1 e2
 ·intro n m es ex left cur hn ho;obtain⟨hm,dy,b,N,bm,M,l,aK,seen,h1,h2,h3,h5,h6⟩:=r.iter n m es ex left cur hn ho;have u:hZ ρ w' n m es ex left cur:=⟨b,N,bm,M,l,aK,seen,h1,h2,(zw b<|ff h3).trans h3,(zw bm<|ff h5).trans h5,h6⟩;exact⟨hm,dy,u.mono hl⟩
 ·intro n b sh e;have e:σ (hn n b sh)≠none:=by unfold du at e;rw[if_pos<|eR _ _ _] at e;exact e
  obtain⟨g0,l,c,e',fr,g1,g2,_,g4⟩:=q3.fz n b sh e;have fE:(dU σ).le<|dU<|du ρ σ:=by
   intro k x q;unfold dU at q ⊢;split at q
   ·rename_i hk;rw[if_pos hk];unfold du;rw[if_pos hk];exact q
   ·cases q
  have jt:∀i x,l[i]? =some x->∃v,c[sh+i]? =some v/\VR (dU<|du ρ σ) x v/\x.bB=true:=fun i x hx=>by obtain⟨v,k1,k2,k3⟩:=g4 i x hx;exact⟨v,k1,VR.mono fE _ _ k2,k3⟩
  by_cases q:ρ (hn n b sh)≠none
  ·obtain⟨z0,l',c',e2,fC,z1,z2,z3,_⟩:=r.fz n b sh q;refine⟨z0,l,c,e',fr,g1,g2,fun m o N hm ho hr hb=>?_,jt⟩;rw[ch m hm] at hb;exact z3 m o N hm ho hr hb
  ·have hb:w.heap.size<=b:=g0.resolve_left q;refine⟨.inr<|r.size b hb,l,c,e',fr,g1,g2,fun m o N hm ho hr eD=>?_,jt⟩;rw[ch m hm] at eD;obtain⟨b1,N1,o1,h1,h2,_⟩:=r.is m o hm ho;rw[eD] at h1;cases h1;have:=ff h2;omega
noncomputable section
def jD(val:List AV->Option AV)(args:List AV):Option AV:=match args.all AV.hi with
 |true=>(val args).bind fun v=>match v.hi with
  |true=>some v
  |false=>none
 |false=>none
end
theorem pa{val:List AV->Option AV}{args:List AV}{v:AV}(h:val args=some v)(ha:args.all AV.hi=true)(hv:v.hi=true):jD val args=some v:=by unfold jD;rw[ha,h];simp only[Option.bind_some,hv]
theorem MW{val:List AV->Option AV}{args:List AV}{v:AV}(h:jD val args=some v):val args=some v/\args.all AV.hi=true/\v.hi=true:=by
 unfold jD at h;split at h
 ·rename_i ha;cases e:val args with
  |none=>rw[e] at h;cases h
  |some u=>
   rw[e] at h;simp only[Option.bind_some] at h;split at h
   ·rename_i hu;injection h with h;subst h;exact⟨rfl,ha,hu⟩
   ·cases h
 ·cases h
theorem L5{J:Nat}{ns:List Nat}{h0:Tr U}{val:List AV->Option AV}{Sy:aD}{args:List AV}{v:AV}{s:AS}(h:jD val args=some v)(hc:wP J h0 ns s=true):kN J ns h0 val Sy args s= .ok v (kU J h0 ns s):=by obtain⟨h1,h2,h3⟩:=MW h;unfold kN;rw[h2,bC,M.bo<|vQ hc,h1,aP,h3,bC];rfl
end Go.Rn
