import Derived.Test.YthjiifomjmdjbaaGreatDoorRnGA
import Derived.Below
import Derived.Laws.CopyRow
import Derived.Laws.Cells
import Derived.Laws.Tables
import Derived.Laws.StructEq
import Derived.Laws.BytesString
set_option maxRecDepth 100000
set_option maxHeartbeats 8000000
set_option linter.unusedSimpArgs false
set_option linter.unusedVariables false
namespace Go.Rn
variable {α:Type} {s:AS} {i:Nat}
theorem su{k m:Nat}{l:List Nat}:k∈below m l↔k∈l/\k<m:=by
 have h1:∀l:List Nat,k∈uD m l↔k∈l/\k<m:=by
  intro l;induction l with
  |nil=>simp[uD]
  |cons x l ih=>
   have e:uD m (x::l)=if m<=x then uD m l else x::uD m l:=by
    show @Bool.rec (fun _=>List Nat) (uD m l) (x::uD m l) (not<|Nat.ble m x)=_;by_cases h:m<=x
    ·have:Nat.ble m x=true:=by rw[Nat.ble_eq];exact h
     rw[this,if_pos h];rfl
    ·have:Nat.ble m x=false:=by
      cases q:Nat.ble m x with
      |false=>rfl
      |true=>rw[Nat.ble_eq] at q;exact absurd q h
     rw[this,if_neg h];rfl
   rw[e];by_cases h:m<=x
   ·rw[if_pos h,ih];constructor
    ·rintro ⟨a,b⟩;exact⟨List.mem_cons_of_mem _ a,b⟩
    ·rintro ⟨a,b⟩;rcases List.mem_cons.1 a with rfl|a
     ·omega
     ·exact⟨a,b⟩
   ·rw[if_neg h,List.mem_cons,ih,List.mem_cons];constructor
    ·rintro (rfl|⟨a,b⟩)
     ·exact⟨.inl rfl,by omega⟩
     ·exact⟨.inr a,b⟩
    ·rintro ⟨rfl|a,b⟩
     ·exact .inl rfl
     ·exact .inr ⟨a,b⟩
 have e:below m l=if m=0 then[] else uD m l:=by
  show @Bool.rec (fun _=>List Nat) (uD m l) [] (Nat.beq m 0)=_;rw[MI];by_cases h:m=0
  ·rw[if_pos h,if_pos (by rw[beq_eq];exact h)]
  ·rw[if_neg h,if_neg (by rw[beq_eq];exact h)]
 rw[e];by_cases h:m=0
 ·rw[if_pos h];subst h;simp
 ·rw[if_neg h,h1]
theorem R9{m:M α}{s2:AS}{x:α×dt}(h:alone i m s= .ok x s2):
 ∃a s1,m ⟨s.h,s.nx,s.nx,[],[]⟩= .ok a s1/\x=(a,⟨i,below s.nx s1.rd,below s.nx s1.wr,s.nx,s1.nx⟩)/\s2=⟨s1.h,s1.nx,s.mark,below s.mark s1.rd++s.rd,below s.mark s1.wr++s.wr⟩:=by
 obtain⟨hh,nx,mark,rd,wr⟩:=s;have e:alone i m ⟨hh,nx,mark,rd,wr⟩=forced nx fun lo=>
  @R.rec α (fun _=>R<|α×dt) .bad (fun a s1=>
   @AS.rec (fun _=>R<|α×dt) (fun h1 pG _ gk nT=>forced pG fun hi=>.ok (a,⟨i,below lo gk,below lo nT,lo,hi⟩) ⟨h1,hi,mark,below mark gk++rd,below mark nT++wr⟩) s1)
   (m ⟨hh,lo,lo,[],[]⟩):=rfl
 rw[e,yx] at h;cases hm:m ⟨hh,nx,nx,[],[]⟩ with
 |bad=>rw[hm] at h;cases h
 |ok a s1=>rw[hm] at h;obtain⟨h1,pG,OD,gk,nT⟩:=s1;have h':forced pG (fun hi=>R.ok (a,(⟨i,below nx gk,below nx nT,nx,hi⟩:dt)) (⟨h1,hi,mark,below mark gk++rd,below mark nT++wr⟩:AS))= .ok x s2:=h;rw[yx] at h';cases h';exact⟨a,⟨h1,pG,OD,gk,nT⟩,by first|exact hm|rfl,rfl,rfl⟩
theorem abf{m:M α}{s1:AS}{a:α}(h:m ⟨s.h,s.nx,s.nx,[],[]⟩= .ok a s1):
 alone i m s= .ok (a,⟨i,below s.nx s1.rd,below s.nx s1.wr,s.nx,s1.nx⟩) ⟨s1.h,s1.nx,s.mark,below s.mark s1.rd++s.rd,below s.mark s1.wr++s.wr⟩:=by
 obtain⟨hh,nx,mark,rd,wr⟩:=s;have e:alone i m ⟨hh,nx,mark,rd,wr⟩=forced nx fun lo=>
  @R.rec α (fun _=>R<|α×dt) .bad (fun a s1=>
   @AS.rec (fun _=>R<|α×dt) (fun h1 pG _ gk nT=>forced pG fun hi=>.ok (a,⟨i,below lo gk,below lo nT,lo,hi⟩) ⟨h1,hi,mark,below mark gk++rd,below mark nT++wr⟩) s1)
   (m ⟨hh,lo,lo,[],[]⟩):=rfl
 rw[e,yx,h];obtain⟨h1,pG,OD,gk,nT⟩:=s1;show forced pG (fun hi=>R.ok (a,(⟨i,below nx gk,below nx nT,nx,hi⟩:dt)) (⟨h1,hi,mark,below mark gk++rd,below mark nT++wr⟩:AS))=_;rw[yx]
theorem Yd.alone{α:Type}(i:Nat){m:M α}(hm:Yd m):Yd<|alone i m:=by
 intro s v s2 fi h;obtain⟨a,s1,h1,rfl,rfl⟩:=R9 h;obtain⟨dr,dw,d,x⟩:=hm ⟨s.h,s.nx,s.nx,[],[]⟩ a s1 ⟨Nat.le_refl _,fi.nx⟩ h1;have er:s1.rd=dr:=by have:=d.rd;simpa using this
 have ew:s1.wr=dw:=by have:=d.wr;simpa using this
 refine⟨below s.mark dr,below s.mark dw,⟨by show below s.mark s1.rd++s.rd=_;rw[er],by show below s.mark s1.wr++s.wr=_;rw[ew],d.nx,d.top,rfl,?_,?_,d.nU⟩,?_⟩
 ·intro k hk hn;exact d.same k (Nat.lt_of_lt_of_le hk fi.mark) fun e=>hn<|su.2 ⟨e,hk⟩
 ·intro k hk;obtain⟨a,b⟩:=su.1 hk;exact su.2 ⟨d.sub k a,b⟩
 ·intro A m0 t ag hA;obtain⟨t1,e1,al⟩:=x A m0 ⟨t.h,t.nx,t.nx,[],[]⟩ ⟨ag.nx,ag.nx,Nat.le_trans ag.low fi.mark,ag.is⟩ fun k hk bJ=>hA k (su.2 ⟨hk,Nat.lt_of_lt_of_le bJ ag.low⟩) bJ;have er':t1.rd=dr:=by have:=al.rd;simpa using this
  have ew':t1.wr=dw:=by have:=al.wr;simpa using this
  have hr:=abf (i:=i) (s:=t) e1;rw[er',ew', ←ag.nx, ←ag.mark, ←al.pb.nx] at hr;rw[er,ew];refine⟨_,hr,⟨rfl,rfl,ag.low,al.pb.is⟩,rfl,rfl,fun k hk hn=>al.same k hk fun e=>hn<|su.2 ⟨e,Nat.lt_of_lt_of_le hk ag.low⟩,al.nU⟩
theorem Yd.gN(P:Program){Ye:aI}(bC:∀t a,Yd<|Ye t a)(nt:Nat)(ops:Array Oper)(o:Oper)(t:Tr AV):Yd<|gN P Ye nt ops o t:=by
 have hv:∀t op,Yd<|(dG P op).val Ye t:=fun t op=>Yd.GH P bC t op;unfold Rn.gN Bn;split<;>simp only[qG.val]
 ·unfold rQ;refine Yd.bind (hv _ _) fun _=>Yd.lift _
 ·unfold tu;rename_i g _;refine Yd.aF fun _=>?_;cases p0 ops g t
  ·exact Yd.lift _
  ·exact Yd.bind (hv _ _) fun _=>Yd.lift _
theorem Yd.jl(P:Program){Ye:aI}(bC:∀t a,Yd<|Ye t a)(nt:Nat)(ops:Array Oper):∀(l:List Oper) (t:Tr AV),Yd (jl P Ye nt ops l t)
 |[],t=>Yd.pure t
 |o::l,t=>Yd.bind (Yd.gN P bC nt ops o t) fun t=>Yd.jl P bC nt ops l t
theorem Yd.mY(P:Program){Ye:aI}(bC:∀t a,Yd<|Ye t a)(nt:Nat)(ops:Array Oper):∀(l:List Oper) (i:Nat) (t:Tr AV),Yd (mY P Ye nt ops l i t)
 |[],_,_=>Yd.pure _
 |o::l,i,t=>Yd.bind (Yd.alone i<|Yd.gN P bC nt ops o t) fun x=>Yd.bind (Yd.mY P bC nt ops l (i+1) x.1) fun _=>Yd.pure _
theorem Yd.pW(P:Program){Ye:aI}(bC:∀t a,Yd<|Ye t a)(nt:Nat)(ops:Array Oper)(t:Tr AV):Yd<|pW P Ye nt ops t:=Yd.bind (Yd.mY P bC nt ops _ _ _) fun _=>Yd.aF fun _=>Yd.pure _
theorem Yd.getLoop(l:Nat):Yd<|getLoop l:=by
 unfold Rn.getLoop
 repeat' (first
  |exact Yd.pure _|exact Yd.fail|exact Yd.lift _|exact Yd.jS _|exact Yd.bp _|exact Yd.bI _ _|exact Yd.fh _
  |refine Yd.aA (fun _ _=>?_)|refine Yd.aF (fun _=>?_)|refine Yd.bind ?_ (fun _=>?_)
  |split)
theorem Yd.lN(l:Nat):Yd<|lN l:=by
 unfold Rn.lN
 repeat' (first
  |exact Yd.pure _|exact Yd.fail|exact Yd.lift _|exact Yd.jS _|exact Yd.bp _|exact Yd.bI _ _|exact Yd.fh _|exact Yd.getLoop _
  |refine Yd.aA (fun _ _=>?_)|refine Yd.aF (fun _=>?_)|refine Yd.bind ?_ (fun _=>?_)
  |split)
theorem Yd.afO(P:Program){Ye:aI}(bC:∀t a,Yd<|Ye t a)(it:Item)(fn:FuncId)(t:Tr AV)(nt:Nat)(d:List Nat)(r:Option Nat)(k:List Item):Yd<|(uX P it).val Ye fn t nt d r k:=by
 cases it<;>simp only[uX]<;>(try simp only[qG.val])
 case code c=>
  unfold Vy;split<;>simp only<;>(first|(unfold qx;exact Yd.pure _)|(unfold nz;exact Yd.pure _)|(unfold Wg;exact Yd.pure _)|(unfold OC;exact Yd.fail)|(unfold JD;exact Yd.aA fun _ _=>Yd.aA fun _ _=>Yd.pure _)|(unfold Dm;split<;>exact Yd.pure _)|(unfold Dn;split<;>exact Yd.pure _)|(unfold Ip;exact Yd.bind (Yd.jl P bC _ _ _ _) fun _=>Yd.pure _)|(unfold HU;exact Yd.bind (Yd.pW P bC _ _ _) fun _=>Yd.pure _)|skip);unfold uJ
  repeat' (first
   |exact Yd.pure _|exact Yd.fail|exact Yd.lift _|exact Yd.jS _|exact Yd.bp _|exact Yd.bI _ _|exact Yd.fh _
   |exact Yd.mX bC _ _|exact bC _ _|exact Yd.getLoop _|exact Yd.lN _
   |refine Yd.aA (fun _ _=>?_)|refine Yd.aF (fun _=>?_)|refine Yd.bind ?_ (fun _=>?_)
   |split)
 case beginRound=>
  unfold yP
  repeat' (first
   |exact Yd.pure _|exact Yd.fail|exact Yd.lift _|exact Yd.jS _|exact Yd.bp _|exact Yd.bI _ _|exact Yd.fh _|exact Yd.getLoop _
   |refine Yd.aA (fun _ _=>?_)|refine Yd.aF (fun _=>?_)|refine Yd.bind ?_ (fun _=>?_)
   |split)
 all_goals (first|exact Yd.pure _|exact Yd.fail)
theorem Yd.jg(P:Program){Ye:aI}(bC:∀t a,Yd<|Ye t a)(fr:AF):Yd<|jg P Ye fr:=by
 obtain⟨fn,t,nt,todo,d,r⟩:=fr;cases todo with
 |nil=>exact Yd.pure _
 |cons it k=>exact Yd.afO P bC it fn t nt d r k
theorem Yd.nA(P:Program){Ye:aI}(bC:∀t a,Yd<|Ye t a):∀(n:Nat) (fr:AF),Yd (nA P Ye n fr)
 |0,fr=>Yd.jg P bC fr
 |n+1,fr=>Yd.bind (Yd.nA P bC n fr) (fun x=>by
  cases x with
  |go fr=>exact Yd.nA P bC n fr
  |leave fr j=>exact Yd.pure _)
theorem Yd.oA(P:Program){Ye:aI}(bC:∀t a,Yd<|Ye t a):∀(n k:Nat) (fr:AF),Yd (oA P Ye n k fr)
 |0,_,_=>Yd.fail
 |n+1,k,fr=>Yd.bind (Yd.nA P bC k fr) (fun x=>by
  cases x with
  |go fr=>exact Yd.oA P bC n (k+1) fr
  |leave fr j=>exact Yd.pure _)
theorem Yd.Ay(P:Program)(t:Tr AV)(r:ResultVar):Yd<|Ay P t r:=by
 unfold Rn.Ay
 repeat' (first
  |exact Yd.pure _|exact Yd.fail|exact Yd.lift _|exact Yd.jS _|exact Yd.bp _|exact Yd.bI _ _|exact Yd.fh _|exact Yd.loadVar _ _ _ _
  |refine Yd.aA (fun _ _=>?_)|refine Yd.aF (fun _=>?_)|refine Yd.bind ?_ (fun _=>?_)
  |split)
theorem Yd.pV(P:Program)(t:Tr AV):∀l:List ResultVar,Yd (pV P t l)
 |[]=>Yd.pure _
 |r::l=>Yd.bind (Yd.Ay P t r) fun _=>Yd.bind (Yd.pV P t l) fun _=>Yd.pure _
theorem Yd.oh:∀l:List Nat,Yd (oh l)
 |[]=>Yd.pure _
 |d::l=>Yd.bind (Yd.bp d) (fun o=>by
  split
  ·exact Yd.bind (Yd.bI _ _) (fun _=>Yd.oh l)
  ·exact Yd.fail)
theorem Yd.finish(P:Program)(rs:List ResultVar)(fr:AF)(j:Option Code):Yd<|finish P rs fr j:=by
 unfold Rn.finish
 repeat' (first
  |exact Yd.pure _|exact Yd.fail|exact Yd.lift _|exact Yd.jS _|exact Yd.bp _|exact Yd.bI _ _|exact Yd.fh _|exact Yd.oh _|exact Yd.pV _ _ _
  |refine Yd.aA (fun _ _=>?_)|refine Yd.aF (fun _=>?_)|refine Yd.bind ?_ (fun _=>?_)
  |split)
theorem Yd.Dq(P:Program)(f n:Nat)(rs:List ResultVar)(body:Code){Ye:aI}(bC:∀t a,Yd<|Ye t a)(args:List AV):Yd<|Dq P f n rs body Ye args:=
 Yd.aF (fun _=>Yd.bind (Yd.oA P bC _ _ _) (fun x=>by
  cases x with
  |go fr=>exact Yd.fail
  |leave fr j=>exact Yd.finish P rs fr j))
theorem Yd.Fa(l:List AV):Yd<|Fa l:=by
 unfold Rn.Fa
 repeat' (first
  |exact Yd.pure _|exact Yd.fail|exact Yd.lift _|exact Yd.jS _|exact Yd.bp _|exact Yd.bI _ _|exact Yd.fh _
  |refine Yd.aA (fun _ _=>?_)|refine Yd.aF (fun _=>?_)|refine Yd.bind ?_ (fun _=>?_)
  |split)
theorem Yd.CE(l:List AV):Yd<|CE l:=by
 unfold Rn.CE
 repeat' (first
  |exact Yd.pure _|exact Yd.fail|exact Yd.lift _|exact Yd.jS _|exact Yd.bp _|exact Yd.bI _ _|exact Yd.fh _|exact Yd.firstCells _ _ _
  |refine Yd.aA (fun _ _=>?_)|refine Yd.aF (fun _=>?_)|refine Yd.bind ?_ (fun _=>?_)
  |split)
theorem Yd.endRound(l:Nat)(j:Option Code):Yd<|endRound l j:=by
 unfold Rn.endRound
 repeat' (first
  |exact Yd.pure _|exact Yd.fail|exact Yd.lift _|exact Yd.jS _|exact Yd.bp _|exact Yd.bI _ _|exact Yd.fh _|exact Yd.getLoop _
  |refine Yd.aA (fun _ _=>?_)|refine Yd.aF (fun _=>?_)|refine Yd.bind ?_ (fun _=>?_)
  |split)
theorem Yd.Az(P:Program){Ye:aI}(bC:∀t a,Yd<|Ye t a)(l:Nat)(args:List AV):Yd<|Az P Ye l args:=by
 unfold Rn.Az;refine Yd.bind (Yd.getLoop _) fun o=>?_;split
 ·exact Yd.aF fun _=>Yd.bind (Yd.oA P bC _ _ _) (fun x=>by
   cases x with
   |go fr=>exact Yd.fail
   |leave fr j=>exact Yd.endRound l j)
 ·exact Yd.fail
end Go.Rn
namespace Go.Rn
variable {β α:Type} {t s1 s t1 s2:AS} {m0 f:Nat} {dw dr nV rR:List Nat} {A:Nat->Prop} {P:Program}
def I1(A:Nat->Prop)(m0:Nat)(s t:AS)(x y:β×AS):Prop:=x.1=y.1/\∃dr dw,mP s x.2 dr dw/\tJ A m0 x.2 t y.2 dr dw
def kU(A:Nat->Prop)(m0:Nat)(s t:AS):List (β×AS)->List (β×AS)->Prop
 |[],l=>l=[]
 |x::xs,l=>∃y ys,l=y::ys/\I1 A m0 s t x y/\kU A m0 s t xs ys
theorem kU.append:∀{a b c d:List<|β×AS},kU A m0 s t a b->kU A m0 s t c d->kU A m0 s t (a++c) (b++d)
 |[],_,_,_,h,k=>by simp only[kU] at h;subst h;simpa using k
 |x::xs,_,_,_,h,k=>by obtain⟨y,ys,rfl,f,r⟩:=h;exact⟨y,_,rfl,f,kU.append r k⟩
def FT(A:Nat->Prop)(m0:Nat)(s:AS)(l:List<|β×AS):Prop:=∀x∈l,∀dr dw,mP s x.2 dr dw->∀k∈dr,k<m0->A k
def uK(m:AS->Option (List<|β×AS)):Prop:=∀s outs,bx s->m s=some outs->outs≠[]/\(∀x∈outs,∃dr dw,mP s x.2 dr dw)/\∀A m0 t,FQ A m0 s t->FT A m0 s outs->∃pc,m t=some pc/\kU A m0 s t outs pc
theorem mP.trans(d:mP s s1 dr dw)(d':mP s1 s2 rR nV):mP s s2 (rR++dr)<|nV++dw:=by
 refine⟨by rw[d'.rd,d.rd,List.append_assoc],by rw[d'.wr,d.wr,List.append_assoc],Nat.le_trans d.nx d'.nx,d'.top,d'.mark.trans d.mark,?_,?_,?_⟩
 ·intro k hk hn;have tX:k ∉ nV:=fun e=>hn<|List.mem_append.2<|.inl e;have oK:k ∉ dw:=fun e=>hn<|List.mem_append.2<|.inr e;exact(d'.same k (by rw[d.mark];exact hk) tX).trans<|d.same k hk oK
 ·intro k hk;rcases List.mem_append.1 hk with e|e
  ·exact List.mem_append.2<|.inl<|d'.sub k e
  ·exact List.mem_append.2<|.inr<|d.sub k e
 ·intro k hk ht;exact(d'.nU k hk ht).trans<|d.nU k (Nat.le_trans d'.nx hk) ht
theorem tJ.trans{t2:AS}(hx:s1.nx<=s2.nx)(al:tJ A m0 s1 t t1 dr dw)(qH:tJ A m0 s2 t1 t2 rR nV):tJ A m0 s2 t t2 (rR++dr)<|nV++dw:=by
 refine⟨qH.pb,by rw[qH.rd,al.rd,List.append_assoc],by rw[qH.wr,al.wr,List.append_assoc],?_,?_⟩
 ·intro k hk hn;have tX:k ∉ nV:=fun e=>hn<|List.mem_append.2<|.inl e;have oK:k ∉ dw:=fun e=>hn<|List.mem_append.2<|.inr e;exact(qH.same k hk tX).trans<|al.same k hk oK
 ·intro k hk ht;exact(qH.nU k hk ht).trans<|al.nU k (Nat.le_trans hx hk) ht
theorem I1.Ir{x y:β×AS}(d:mP s s1 dr dw)(al:tJ A m0 s1 t t1 dr dw)(h:I1 A m0 s1 t1 x y):I1 A m0 s t x y:=by obtain⟨e,rR,nV,d',qH⟩:=h;exact⟨e,_,_,d.trans d',al.trans d'.nx qH⟩
theorem kU.Ir(d:mP s s1 dr dw)(al:tJ A m0 s1 t t1 dr dw):
 ∀{a b:List<|β×AS},kU A m0 s1 t1 a b->kU A m0 s t a b
 |[],_,h=>h
 |x::xs,_,h=>by obtain⟨y,ys,rfl,f,r⟩:=h;exact⟨y,ys,rfl,f.Ir d al,kU.Ir d al r⟩
def uL(m:M α)(F:α->AS->Option (List<|β×AS)):AS->Option (List<|β×AS):=fun s=>
 match m s with
 | .ok a s1=>F a s1
 | .bad=>none
theorem HI{m:M α}{F:α->AS->Option (List<|β×AS)}(hm:Yd m)(hF:∀a,uK<|F a):
 uK (uL m F):=by
 intro s outs fi h;unfold uL at h ⊢;cases e:m s with
 |bad=>simp only[e] at h;cases h
 |ok a s1=>
  simp only[e] at h;obtain⟨dr,dw,d,x⟩:=hm s a s1 fi e;obtain⟨ne,g1,g2⟩:=hF a s1 outs (d.cJ fi) h;refine⟨ne,fun y hy=>?_,fun A m0 t ag hA=>?_⟩
  ·obtain⟨rR,nV,d'⟩:=g1 y hy;exact⟨_,_,d.trans d'⟩
  ·cases outs with
   |nil=>exact absurd rfl ne
   |cons y ys=>obtain⟨xV,BV,d1⟩:=g1 y List.mem_cons_self;have hA1:∀k∈dr,k<m0->A k:=fun k hk bJ=>hA y List.mem_cons_self _ _ (d.trans d1) k (List.mem_append.2<|.inr hk) bJ;obtain⟨t1,e1,al⟩:=x A m0 t ag hA1;obtain⟨pc,e2,fl⟩:=g2 A m0 t1 al.pb fun z hz rR nV d' k hk bJ=>hA z hz _ _ (d.trans d') k (List.mem_append.2<|.inl hk) bJ;exact⟨pc,by simp only[e1];exact e2,fl.Ir d al⟩
theorem abg(b:β):uK fun s=>some [(b,s)]:=by
 intro s outs fi h;injection h with h;subst h
 have dd:mP s s [] []:=⟨rfl,rfl,Nat.le_refl _,fi.nx,rfl,fun _ _ _=>rfl,fun _ h=>h,fun _ _ _=>rfl⟩;refine⟨by simp,fun x hx=>?_,fun A m0 t ag _=>⟨[(b,t)],rfl,(b,t),[],rfl,⟨rfl,[],[],dd,ag,rfl,rfl,fun _ _ _=>rfl,fun _ _ _=>rfl⟩,rfl⟩⟩;simp only[List.mem_singleton] at hx;subst hx;exact⟨[],[],dd⟩
theorem Sa:uK fun _=>(none:Option<|List<|β×AS):=by intro s outs _ h;cases h
theorem Q0{α β:Type}{F:α->AS->Option (List<|β×AS)}:∀(l:List α),l≠[]->(∀a∈l,uK<|F a)->uK (fun s=>Rn.collect (fun a=>F a s) l)
 |[],h,_=>absurd rfl h
 |x::l,_,hF=>by
  intro s outs fi h;simp only[Rn.collect] at h;cases e:F x s with
  |none=>rw[e] at h;cases h
  |some a=>
   rw[e] at h;obtain⟨ne,g1,g2⟩:=hF x List.mem_cons_self s a fi e;cases l with
   |nil=>
    simp only[Rn.collect,List.append_nil] at h;injection h with h;subst h
    refine⟨ne,g1,fun A m0 t ag hA=>?_⟩;obtain⟨o',e',fl⟩:=g2 A m0 t ag hA;exact⟨o',by simp only[Rn.collect,e',List.append_nil],fl⟩
   |cons z l=>
    cases e2:Rn.collect (fun a=>F a s) (z::l) with
    |none=>rw[e2] at h;cases h
    |some b=>
     rw[e2] at h;injection h with h;subst h
     obtain⟨ne',xW,vL⟩:=Q0 (F:=F) (z::l) iJ (fun a ha=>hF a<|List.mem_cons_of_mem _ ha) s b fi e2;refine⟨by simp[ne],fun y hy=>?_,fun A m0 t ag hA=>?_⟩
     ·rcases List.mem_append.1 hy with hy|hy
      ·exact g1 y hy
      ·exact xW y hy
     ·obtain⟨o1,e1',f1⟩:=g2 A m0 t ag fun y hy=>hA y<|List.mem_append.2<|.inl hy;obtain⟨o2,oL,f2⟩:=vL A m0 t ag fun y hy=>hA y<|List.mem_append.2<|.inr hy;refine⟨o1++o2,?_,f1.append f2⟩;have ahD:Rn.collect (fun a=>F a t) (z::l)=some o2:=oL;show Rn.collect (fun a=>F a t) (x::z::l)=_;rw[Rn.collect,e1'];simp only[ahD]
theorem abh(x:α)(l:List α):rj (x::l)≠[]:=by simp[rj]
theorem Yd.qV(fr:AF)(it:Operand):Yd<|qV fr it:=by
 unfold Rn.qV
 repeat' (first
  |exact Yd.pure _|exact Yd.fail|exact Yd.lift _|exact Yd.bp _
  |refine Yd.bind ?_ (fun _=>?_)
  |split)
theorem Yd.p9(P:Program){Ye:aI}(bC:∀t a,Yd<|Ye t a)(fr:AF)(n:Nat)(ob:ae)(o:Oper)(ops:Array Oper)(rest:List Oper)(k:List Item)(v:AV):
 Yd (p9 P Ye fr n ob o ops rest k v):=by
 unfold Rn.p9
 repeat' (first
  |exact Yd.pure _|exact Yd.lift _|exact Yd.bI _ _|exact Yd.jl P bC _ _ _ _
  |refine Yd.bind ?_ fun _=>?_)
theorem Yd.pX(P:Program){Ye:aI}(bC:∀t a,Yd<|Ye t a)(fr:AF)(n m:Nat)(es:List<|AV×AV)(ex:Bool)(o:Oper)(ops:Array Oper)(rest:List Oper)(k:List Item):
 Yd (pX P Ye fr n m es ex o ops rest k):=by
 unfold Rn.pX
 repeat' (first
  |exact Yd.pure _|exact Yd.lift _|exact Yd.bI _ _|exact Yd.jl P bC _ _ _ _
  |refine Yd.bind ?_ fun _=>?_)
noncomputable section
def ahE(P:Program)(Ye:aI)(f:Nat)(x:br):AS->Option (List<|(AF×Option Code)×AS):=
 match x with
 | .go fr=>re P Ye f fr
 | .leave fr j=>fun s=>some [((fr,j),s)]
def VA(P:Program)(Ye:aI)(f:Nat)(fr:AF)(n m:Nat)(es:List<|AV×AV)(exact:Bool)(o:Oper)(ops:Array Oper)(rest:List Oper)(k:List Item)(x:(AV×AV)×List (AV×AV)):AS->Option (List<|(AF×Option Code)×AS):=uL (p9 P Ye fr n (.iter m es exact x.2<|some x.1) o ops rest k<|.tuple [.bool true,x.1.1,x.1.2])<|re P Ye f
def OE(P:Program)(Ye:aI)(f:Nat)(fr:AF)(o:Oper)(ops:Array Oper)(rest:List Oper)(k:List Item)(x:Nat×ae):AS->Option (List<|(AF×Option Code)×AS):=
 match x with
 |(n,.iter m es exact left _)=>match left with
  |[]=>uL (pX P Ye fr n m es exact o ops rest k)<|re P Ye f
  |y::ys=>fun s=>collect (fun x=>VA P Ye f fr n m es exact o ops rest k x s)<|rj<|y::ys
 |_=>fun _=>none
end
theorem YQ{Ye:aI}{fr:AF}(e:yz fr=none):
 re P Ye (f+1) fr=uL (jg P Ye fr) (ahE P Ye f):=by
 funext s;simp only[re,e,uL];cases jg P Ye fr s with
 |bad=>rfl
 |ok x s1=>cases x<;>rfl
theorem YR{Ye:aI}{fr:AF}{it:Operand}{o:Oper}{ops:Array Oper}{rest:List Oper}{k:List Item}(e:yz fr=some (it,o,ops,rest,k)):
 re P Ye (f+1) fr=uL (qV fr it) (OE P Ye f fr o ops rest k):=by
 funext s;simp only[re,e,uL];cases qV fr it s with
 |bad=>rfl
 |ok x s1=>
  obtain⟨n,ob⟩:=x;cases ob with
  |iter m es ex left cur=>
   cases left with
   |nil=>simp only[OE,uL];cases pX P Ye fr n m es ex o ops rest k s1<;>rfl
   |cons y ys=>simp only[OE];congr 1;funext x;simp only[VA,uL];cases p9 P Ye fr n (.iter m es ex x.2<|some x.1) o ops rest k (.tuple [.bool true,x.1.1,x.1.2]) s1<;>rfl
  |_=>rfl
theorem Hp(P:Program){Ye:aI}(bC:∀t a,Yd<|Ye t a):∀(f:Nat) (fr:AF),uK (re P Ye f fr)
 |0,fr=>Sa
 |f+1,fr=>by
  cases e:yz fr with
  |none=>
   rw[YQ e];refine HI (Yd.jg P bC fr) fun x=>?_;cases x with
   |go fr=>exact Hp P bC f fr
   |leave fr j=>exact abg (fr,j)
  |some q=>
   obtain⟨it,o,ops,rest,k⟩:=q;rw[YR e];refine HI (Yd.qV fr it) fun x=>?_;obtain⟨n,ob⟩:=x;cases ob with
   |iter m es ex left cur=>
    cases left with
    |nil=>exact HI (Yd.pX P bC _ _ _ _ _ _ _ _ _) fun fr=>Hp P bC f fr
    |cons y ys=>exact Q0 _ (abh y ys) fun x _=>HI (Yd.p9 P bC _ _ _ _ _ _ _ _) fun fr=>Hp P bC f fr
   |_=>exact Sa
theorem Yh(P:Program)(rs:List ResultVar){m:AS->Option (List<|(AF×Option Code)×AS)}(hm:uK m):
 uK (fun s=>match m s with|some l=>wu P rs l|none=>none):=by
 have key:∀(s:AS) (l:List<|(AF×Option Code)×AS) (outs:List<|AV×AS),bx s->(∀x∈l,∃dr dw,mP s x.2 dr dw)->wu P rs l=some outs->
  outs.length=l.length/\(∀x∈outs,∃dr dw,mP s x.2 dr dw)/\
  (∀A m0,FT A m0 s outs->FT A m0 s l)/\
  ∀A m0 t l',FQ A m0 s t->kU A m0 s t l l'->FT A m0 s outs->∃pc,wu P rs l'=some pc/\kU A m0 s t outs pc:=by
  intro s l;induction l with
  |nil=>
   intro outs fi _ h;simp only[wu] at h;injection h with h;subst h
   refine⟨rfl,fun x hx=>(by cases hx),fun A m0 _ x hx=>(by cases hx),fun A m0 t l' _ fl _=>?_⟩;simp only[kU] at fl;subst fl;exact⟨[],rfl,rfl⟩
  |cons x l ih=>
   obtain⟨⟨fr,j⟩,sx⟩:=x;intro outs fi hd h;simp only[wu] at h;obtain⟨dr,dw,d⟩:=hd _ List.mem_cons_self;cases e:finish P rs fr j sx with
   |bad=>rw[e] at h;cases h
   |ok v s1=>
    rw[e] at h;cases e2:wu P rs l with
    |none=>simp only[e2] at h;cases h
    |some r=>
     simp only[e2] at h;injection h with h;subst h
     obtain⟨hl,i1,i2,i3⟩:=ih r fi (fun x hx=>hd x<|List.mem_cons_of_mem _ hx) e2;obtain⟨rR,nV,d',x'⟩:=Yd.finish P rs fr j sx v s1 (d.cJ fi) e;refine⟨by simp[hl],fun y hy=>?_,fun A m0 hN y hy=>?_,fun A m0 t l' ag fl hN=>?_⟩
     ·rcases List.mem_cons.1 hy with rfl|hy
      ·exact⟨_,_,d.trans d'⟩
      ·exact i1 y hy
     ·rcases List.mem_cons.1 hy with rfl|hy
      ·intro xV BV d1 k hk bJ;exact hN (v,s1) List.mem_cons_self _ _ (d1.trans d') k (List.mem_append.2<|.inr hk) bJ
      ·exact i2 A m0 (fun z hz=>hN z<|List.mem_cons_of_mem _ hz) y hy
     ·obtain⟨y,ys,rfl,⟨ey,xV,BV,d1,BW⟩,nW⟩:=fl;obtain⟨⟨jY,j2⟩,ty⟩:=y;simp only at ey;cases ey;obtain⟨pc,e3,fl3⟩:=i3 A m0 t ys ag nW fun z hz=>hN z<|List.mem_cons_of_mem _ hz;obtain⟨t1,e4,al4⟩:=x' A m0 ty BW.pb fun k hk bJ=>hN (v,s1) List.mem_cons_self _ _ (d1.trans d') k (List.mem_append.2<|.inl hk) bJ;refine⟨(v,t1)::pc,?_,(v,t1),pc,rfl,⟨rfl,_,_,d1.trans d',BW.trans d'.nx al4⟩,fl3⟩;simp only[wu];have PM:finish P rs fr j ty= .ok v t1:=e4;rw[PM,e3]
 intro s outs fi h;cases e:m s with
 |none=>simp only[e] at h;cases h
 |some l=>simp only[e] at h;obtain⟨ne,g1,g2⟩:=hm s l fi e;obtain⟨hl,i1,i2,i3⟩:=key s l outs fi g1 h;refine⟨fun h0=>ne (by rw[h0] at hl;exact List.length_eq_zero_iff.1 hl.symm),i1,fun A m0 t ag hN=>?_⟩;obtain⟨l',e',fl⟩:=g2 A m0 t ag<|i2 A m0 hN;obtain⟨pc,e2,fl2⟩:=i3 A m0 t l' ag fl hN;exact⟨pc,by simp only[e'];exact e2,fl2⟩
end Go.Rn
namespace Go.Rn
variable {s t:AS} {n k:Nat}
theorem Rz:∀(l:List Nat) (s:AS) (u:Unit) (s1:AS),uE l s= .ok u s1->∃dr,s1.rd=dr++s.rd/\s1.mark=s.mark/\∀k∈l,k<s.mark->k∈dr
 |[],s,u,s1,h=>by have h':M.pure () s= .ok u s1:=h;obtain⟨_,rfl⟩:=bD h';exact⟨[],rfl,rfl,fun k hk=>by cases hk⟩
 |n::l,s,u,s1,h=>by
  have h':(bp n).bind (fun _=>uE l) s= .ok u s1:=h;obtain⟨o,s2,h1,h2⟩:=M.aP h';obtain⟨_,_,rfl⟩:=Iq h1;obtain⟨dr,e1,e2,e3⟩:=Rz l _ _ _ h2;by_cases q:n<s.mark
  ·rw[if_pos q] at e1 e2 e3;refine⟨dr++[n],by rw[e1];simp,e2,fun k hk bJ=>?_⟩;rcases List.mem_cons.1 hk with rfl|hk
   ·simp
   ·exact List.mem_append.2<|.inl<|e3 k hk bJ
  ·rw[if_neg q] at e1 e2 e3;refine⟨dr,e1,e2,fun k hk bJ=>?_⟩;rcases List.mem_cons.1 hk with rfl|hk
   ·exact absurd bJ q
   ·exact e3 k hk bJ
theorem Yd.uE:∀l:List Nat,Yd (uE l)
 |[]=>Yd.pure _
 |n::l=>Yd.bind (Yd.bp n) fun _=>Yd.uE l
theorem Yd.zc:∀l:List<|Nat×List (AV×AV),Yd (zc l)
 |[]=>Yd.pure _
 |(_,_)::l=>Yd.bind (Yd.AZ _) fun _=>Yd.bind (Yd.bI _ _) fun _=>Yd.zc l
theorem Yd.uY:∀k:Nat,Yd (uY k)
 |0=>Yd.pure _
 |k+1=>Yd.bind (Yd.fh _) fun _=>Yd.bind (Yd.bI _ _) fun _=>Yd.uY k
theorem Yd.DN(lo:Nat)(r:BU):Yd<|DN lo r:=by
 cases r with
 |none=>exact Yd.pure _
 |nil=>exact Yd.pure _
 |row n c len e=>exact Yd.bind (Yd.uY _) fun _=>Yd.bind (Yd.newRow c) fun _=>Yd.aF fun _=>Yd.pure _
theorem Yd.I0(p:Pa):Yd<|I0 p:=Yd.bind (Yd.uE _) fun _=>Yd.bind (Yd.zc _) fun _=>Yd.bind (Yd.DN _ _) fun _=>Yd.bind (Yd.uY _) fun _=>Yd.pure _
theorem Fb{n:Nat}:∀{l:List Nat},vt n l=true↔n∈l
 |[]=>by simp[vt]
 |x::l=>by
  simp only[vt];cases h:Nat.beq x n with
  |true=>rw[beq_eq] at h;subst h;simp
  |false=>
   have:¬x=n:=by rw[←beq_eq,h];simp
   simp only[Fb (l:=l),List.mem_cons];constructor
   ·exact .inr
   ·rintro (e|e)
    ·exact absurd e.symm this
    ·exact e
theorem YS{l:List Nat}:k∈Nq n l↔k=n\/k∈l:=by
 unfold Nq;cases h:vt n l with
 |true=>
  have:=Fb.1 h;constructor
  ·exact .inr
  ·rintro (rfl|e)
   ·exact this
   ·exact e
 |false=>exact List.mem_cons
theorem Rg{k:Nat}:∀{l:List Nat},k∈p6 l↔k∈l
 |[]=>by simp[p6]
 |x::l=>by rw[p6,YS,Rg (l:=l),List.mem_cons]
def OF(ns:List Nat)(s t:AS):Prop:=∀n∈ns,s.h.get n=t.h.get n
theorem T6(h:s.h.get n=t.h.get n):DM s n=DM t n:=by unfold DM;rw[h]
theorem Q1{s t:AS}:∀{ns:List Nat},OF ns s t->entriesOf s ns=entriesOf t ns
 |[],_=>rfl
 |n::l,h=>by simp only[entriesOf,T6<|h n List.mem_cons_self,Q1 (ns:=l) fun m hm=>h m<|List.mem_cons_of_mem _ hm]
theorem QS:∀{ns:List Nat} {es:List<|Nat×List (AV×AV)},entriesOf s ns=some es->es.map (·.1)=ns
 |[],es,h=>by simp only[entriesOf] at h;injection h with h;subst h;rfl
 |n::l,es,h=>by
  simp only[entriesOf] at h;cases e:DM s n with
  |none=>rw[e] at h;cases h
  |some x=>
   simp only[e] at h;cases e2:entriesOf s l with
   |none=>simp only[e2] at h;cases h
   |some r=>
    simp only[e2] at h;injection h with h;subst h
    simp[QS e2]
theorem S7{s t:AS}:∀{es:List<|Nat×List (AV×AV)},OF (es.map (·.1)) s t->FP s es=FP t es
 |[],_=>rfl
 |(n,x)::l,h=>by simp only[FP,T6<|h n iJ,S7 (es:=l) fun m hm=>h m (by simp only[List.map_cons,List.mem_cons];exact .inr hm)]
theorem abi{lo:Nat}(hn:s.nx=t.nx)(h:∀k,lo<=k->k<s.nx->s.h.get k=t.h.get k)(v:AV):tw lo s v=tw lo t v:=by
 cases v with
 |slice a len cap=>
  cases a with
  |none=>
   cases cap with
   |known c=>cases len<;>cases c<;>rfl
   |ak lo e=>cases len<;>rfl
   |lost=>cases len<;>rfl
  |some a=>
   obtain⟨n,o⟩:=a;cases o with
   |succ o=>cases cap<;>rfl
   |zero=>
    cases cap with
    |known c=>rfl
    |lost=>rfl
    |ak c e=>
     by_cases q:lo<=n/\n<s.nx
     ·simp only[tw,h n q.1 q.2,hn]
     ·have q1:(Nat.ble lo n&&Nat.blt n s.nx)=false:=by
       cases hb:(Nat.ble lo n&&Nat.blt n s.nx) with
       |false=>rfl
       |true=>have:=Bool.and_eq_true_iff.1 hb;rw[Nat.ble_eq,blt_eq] at this;exact absurd this q
      have VB:∀u:AS,(Nat.ble lo n&&Nat.blt n u.nx)=false->tw lo u (.slice (some (n,0)) len<|.ak c e)=none:=by
       intro u hu;simp only[tw,hu,Bool.false_and];split
       ·split<;>rfl
       ·rfl
      rw[VB s q1,VB t (by rw[←hn];exact q1)]
 |tuple vs=>cases vs<;>rfl
 |_=>rfl
theorem Sb{x:AV×AS}:∀{l:List<|AV×AS},x∈l->k∈x.2.rd->k∈Bo l
 |[],h,_=>by cases h
 |(_,_)::b,h,hk=>by
  rcases List.mem_cons.1 h with rfl|hx
  ·exact List.mem_append.2<|.inl hk
  ·exact List.mem_append.2<|.inr<|Sb hx hk
theorem Yd.Dp(P:Program){Ye:aI}(bC:∀t a,Yd<|Ye t a)(f n:Nat)(rs:List ResultVar)(body:Code)(args:List AV):Yd<|Dp P Ye f n rs body args:=by
 intro s v s2 fi h;unfold Rn.Dp at h;cases e0:Nat.ble (max n args.length) top with
 |false=>simp only[e0] at h;cases h
 |true=>
  simp only[e0] at h;cases e1:MM P Ye f n rs body args ⟨s.h,s.nx,s.nx,[],[]⟩ with
  |none=>simp only[e1] at h;cases h
  |some outs=>
   simp only[e1] at h;cases e2:Fw s.nx outs with
   |none=>simp only[e2] at h;cases h
   |some p=>
    simp only[e2] at h;obtain⟨dr,dw,d,x⟩:=Yd.I0 p s v s2 fi h;refine⟨dr,dw,d,fun A m0 t ag hA=>?_⟩;have afP:∀k∈p.note,k<m0->A k:=by
     intro k hk bJ;refine hA k ?_ bJ;obtain⟨u,s3,h1,h2⟩:=M.aP (show((Rn.uE p.note).bind fun _=>(Rn.zc p.es).bind fun _=>(Rn.DN p.lo p.ret).bind fun v=>(Rn.uY p.skip).bind fun _=>M.pure<|ML p.rest v) s= .ok v s2 from h);obtain⟨xV,q1,q2,q3⟩:=Rz _ _ _ _ h1;obtain⟨rR,nV,d',_⟩:=Yd.uE p.note s u s3 fi h1;obtain⟨Ea,GJ,d2,_⟩:=Yd.bind (Yd.zc p.es) (fun _=>Yd.bind (Yd.DN p.lo p.ret) fun v=>Yd.bind (Yd.uY p.skip) fun _=>Yd.pure<|ML p.rest v) s3 v s2 (d'.cJ fi) h2;have:dr=Ea++xV:=by have a:=d.rd;rw[d2.rd,q1, ←List.append_assoc] at a;exact(List.append_cancel_right a).symm
     rw[this];exact List.mem_append.2<|.inr<|q3 k hk<|Nat.lt_of_lt_of_le bJ ag.low
    have hL:uK<|MM P Ye f n rs body args:=Yh P rs<|Hp P bC _ _;obtain⟨ne,g1,g2⟩:=hL ⟨s.h,s.nx,s.nx,[],[]⟩ outs ⟨Nat.le_refl _,fi.nx⟩ e1;cases outs with
    |nil=>exact absurd rfl ne
    |cons y l=>
     obtain⟨v1,s1⟩:=y;have oL:=e2;simp only[Fw] at oL;cases e3:entriesOf s1 (p6<|below s.nx s1.wr) with
     |none=>simp only[e3] at oL;cases oL
     |some es=>
      cases e4:tw s.nx s1 (CZ v1) with
      |none=>simp only[e3,e4] at oL;cases oL
      |some r=>
       simp only[e3,e4] at oL;cases e5:fits s.nx (p6<|below s.nx s1.wr) es r (C0 v1) ((v1,s1)::l)&&L5 es with
       |false=>simp only[e5] at oL;cases oL
       |true=>
        simp only[e5] at oL;injection oL with oL
        have hrd:∀x∈((v1,s1)::l),∀k∈x.2.rd,k∈Bo ((v1,s1)::l):=fun x hx k hk=>Sb hx hk;have hN:FT A m0 ⟨s.h,s.nx,s.nx,[],[]⟩<|(v1,s1)::l:=by intro x hx rR nV d' k hk bJ;refine afP k ?_ bJ;rw[←oL];refine su.2 ⟨hrd x hx k (by rw[d'.rd];simpa using hk),Nat.lt_of_lt_of_le bJ<|Nat.le_trans ag.low fi.mark⟩
        obtain⟨pc,e6,fl⟩:=g2 A m0 ⟨t.h,t.nx,t.nx,[],[]⟩ ⟨ag.nx,ag.nx,Nat.le_trans ag.low fi.mark,ag.is⟩ hN;have hp:Fw t.nx pc=some p:=by
         rw[←ag.nx, ←oL];obtain⟨y',l',rfl,⟨ey,xV,BV,d1,BW⟩,fl'⟩:=fl;obtain⟨v2,t1⟩:=y';simp only at ey;subst ey;have ewr:t1.wr=s1.wr:=by have a:=BW.wr;have b:=d1.wr;simp only[List.append_nil] at a b;rw[a,b]
         have dm:∀m∈p6 (below s.nx s1.wr),(A m\/m0<=m)/\m<s.nx:=by
          intro m hm;obtain⟨a,b⟩:=su.1<|Rg.1 hm;refine⟨?_,b⟩;by_cases q:m<m0
          ·refine .inl<|hN _ List.mem_cons_self xV BV d1 m (d1.sub m ?_) q;have:=d1.wr;simp only[List.append_nil] at this;rw[←this];exact a
          ·exact .inr aj
         have one:∀(x y:AS) (dr dw:List Nat),mP ⟨s.h,s.nx,s.nx,[],[]⟩ x dr dw->tJ A m0 x ⟨t.h,t.nx,t.nx,[],[]⟩ y dr dw->OF (p6<|below s.nx s1.wr) x y:=by intro x y dr dw d' al m hm;obtain⟨a,b⟩:=dm m hm;exact al.pb.is m (Nat.lt_of_lt_of_le b d'.nx) a
         have ret:∀(x y:AS) (dr dw:List Nat) (v:AV),mP ⟨s.h,s.nx,s.nx,[],[]⟩ x dr dw->tJ A m0 x ⟨t.h,t.nx,t.nx,[],[]⟩ y dr dw->tw s.nx x v=tw s.nx y v:=by intro x y dr dw v d' al;exact abi al.pb.nx (fun k hk bJ=>al.pb.is k bJ<|.inr<|Nat.le_trans (Nat.le_trans ag.low fi.mark) hk) v
         have e3':entriesOf t1 (p6<|below s.nx s1.wr)=some es:=by rw[←Q1 (one s1 t1 xV BV d1 BW)];exact e3
         have PM:tw s.nx t1 (CZ v1)=some r:=by rw[←ret s1 t1 xV BV (CZ v1) d1 BW];exact e4
         have afQ:∀(a b:List<|AV×AS),kU A m0 ⟨s.h,s.nx,s.nx,[],[]⟩ ⟨t.h,t.nx,t.nx,[],[]⟩ a b->fits s.nx (p6<|below s.nx s1.wr) es r (C0 v1) a=fits s.nx (p6<|below s.nx s1.wr) es r (C0 v1) b:=by
          intro a;induction a with
          |nil=>intro b hb;simp only[kU] at hb;subst hb;rfl
          |cons x xs ih=>
           intro b hb;obtain⟨y,ys,rfl,⟨Kp,Ea,GJ,d2,BX⟩,r2⟩:=hb;obtain⟨x1,x2⟩:=x;obtain⟨y1,y2⟩:=y;simp only at Kp;subst Kp;have w2:y2.wr=x2.wr:=by have a:=BX.wr;have b:=d2.wr;simp only[List.append_nil] at a b;rw[a,b]
           have n2:=QS e3;simp only[fits,w2,S7 (es:=es) (s:=x2) (t:=y2) (by rw[n2];exact one x2 y2 Ea GJ d2 BX),ret x2 y2 Ea GJ (CZ x1) d2 BX,ih ys r2]
         have ahF:∀(a b:List<|AV×AS),kU A m0 ⟨s.h,s.nx,s.nx,[],[]⟩ ⟨t.h,t.nx,t.nx,[],[]⟩ a b->Bo a=Bo b:=by
          intro a;induction a with
          |nil=>intro b hb;simp only[kU] at hb;subst hb;rfl
          |cons x xs ih=>
           intro b hb;obtain⟨y,ys,rfl,⟨Kp,Ea,GJ,d2,BX⟩,r2⟩:=hb;obtain⟨x1,x2⟩:=x;obtain⟨y1,y2⟩:=y;have w2:y2.rd=x2.rd:=by have a:=BX.rd;have b:=d2.rd;simp only[List.append_nil] at a b;rw[a,b]
           simp only[Bo,ih ys r2];rw[w2]
         have ahG:∀(a b:List<|AV×AS),kU A m0 ⟨s.h,s.nx,s.nx,[],[]⟩ ⟨t.h,t.nx,t.nx,[],[]⟩ a b->F8 a=F8 b:=by
          intro a;induction a with
          |nil=>intro b hb;simp only[kU] at hb;subst hb;rfl
          |cons x xs ih=>intro b hb;obtain⟨y,ys,rfl,⟨Kp,Ea,GJ,d2,BX⟩,r2⟩:=hb;obtain⟨x1,x2⟩:=x;obtain⟨y1,y2⟩:=y;have w2:x2.nx=y2.nx:=BX.pb.nx;simp only[F8,ih ys r2,w2]
         have whole:kU A m0 ⟨s.h,s.nx,s.nx,[],[]⟩ ⟨t.h,t.nx,t.nx,[],[]⟩ ((v1,s1)::l)<|(v1,t1)::l':=⟨(v1,t1),l',rfl,⟨rfl,xV,BV,d1,BW⟩,fl'⟩;simp only[Fw,ewr,e3',PM];rw[←afQ _ _ whole,e5, ←ahF _ _ whole, ←ahG _ _ whole]
        obtain⟨t1,e7,al⟩:=x A m0 t ag hA;refine⟨t1,?_,al⟩;unfold Rn.Dp;simp only[e0,e6,hp];exact e7
theorem Hw(P:Program)(iY:FuncId->Nat):∀(n:Nat) (t:GG) (args:List AV),Yd (vu P iY n t args)
 |0,_,_=>Yd.fail
 |n+1,.fn f,args=>by
  have bC:∀t a,Yd<|vu P iY n t a:=fun t a=>Hw P iY n t a;show Yd<|(D9 P iY f).val (vu P iY n) args;unfold D9;split
  ·exact Yd.Fa _
  ·exact Yd.CE _
  ·split
   ·exact Yd.fail
   ·split
    ·exact Yd.fail
    ·split
     ·exact Yd.fail
     ·split
      ·exact Yd.Dp P bC _ _ _ _ _
      ·exact Yd.Dq P _ _ _ _ bC _
 |n+1,.round l,args=>Yd.Az P (fun t a=>Hw P iY n t a) l args
 |_+1,.row _ _ _,_=>Yd.fail
end Go.Rn
namespace Go.Rn
open Go.RowKit
variable {ρ σ:aw} {w w':World} {b n N c a:Nat} {B:aJ} {h h':Tr ae} {o:ae} {o':Obj} {x:Nat×Nat}
def eN(ρ:aw)(n:Nat)(x:Nat×Nat):aw:=fun k=>if k=n then some x else ρ k
theorem oj(h:ρ n=none):ρ.le<|eN ρ n x:=by
 intro k y e;unfold eN;by_cases q:k=n
 ·subst q;rw[h] at e;cases e
 ·rw[if_neg q];exact e
theorem iQ(ρ:aw)(n:Nat)(x:Nat×Nat):eN ρ n x n=some x:=by simp[eN]
theorem gJ(ρ:aw){k:Nat}(x:Nat×Nat)(h:k≠n):eN ρ n x k=ρ k:=by simp[eN,h]
structure wX (b:Nat) (w w':World):Prop where
 os:w'.os=w.os
 tape:w'.tape=w.tape
 output:w'.output=w.output
 size:w'.heap.size=w.heap.size
 block:∀k,k≠b->w'.heap[k]? =w.heap[k]?
structure cH (B:aJ) (w w':World):Prop where
 os:w'.os=w.os
 tape:w'.tape=w.tape
 output:w'.output=w.output
 size:w.heap.size<=w'.heap.size
 block:∀k,k<w.heap.size->¬B.may k->w'.heap[k]? =w.heap[k]?
theorem cH.refl(B:aJ)(w:World):cH B w w:=⟨rfl,rfl,rfl,Nat.le_refl _,fun _ _ _=>rfl⟩
theorem cH.trans{a b c:World}(h:cH B a b)(k:cH B b c):cH B a c:=⟨k.os.trans h.os,k.tape.trans h.tape,k.output.trans h.output,Nat.le_trans h.size k.size,fun i hi hm=>(k.block i (Nat.lt_of_lt_of_le hi h.size) hm).trans<|h.block i hi hm⟩
theorem wX.below(h:wX b w w')(hb:B.may b):cH B w w':=⟨h.os,h.tape,h.output,by rw[h.size];exact Nat.le_refl _,fun k _ hm=>h.block k fun e=>hm (by rw[e];exact hb)⟩
theorem Fz.of(f:Fz B ρ h w)(hl:ρ.le σ)(hw:∀b,b<w.heap.size->jX ρ h b->w'.heap[b]? =w.heap[b]?)(hd:∀b,b<w.heap.size->jX ρ h b->jX σ h' b)(hm:∀k,top<=k->σ k=ρ k:=by(intro k hk;first|rfl|exact gJ _ _ aj)):Fz B σ h' w':=by intro n b sh e;rw[hm _<|fZ _ _ _] at e;obtain⟨h0,l,c,e',fr,h1,h3,h4,h5⟩:=f n b sh e;have hb:b<w.heap.size:=(Array.getElem?_eq_some_iff.1 h3).1;exact⟨h0,l,c,e',fr,h1,(hw b hb h4).trans h3,hd b hb h4,fun i x hx=>by obtain⟨v,a1,a2,a3⟩:=h5 i x hx;exact⟨v,a1,VR.mono (E3 hl) _ _ a2,a3⟩⟩
theorem jX.sub(k:jX ρ h b)(hs:∀m o,m<top->h'.get m=some o->o.di=false->∃p,h.get m=some p/\p.di=false):jX ρ h' b:=by intro m o N hm hg hr;obtain⟨p,e1,e2⟩:=hs m o hm hg hr;exact k m p N hm e1 e2
def ae.plain:ae->Bool
 | .iter _ _ _ _ _=>false
 | .kB=>false
 | .tok _ _=>false
 |_=>true
def ae.o5:ae->Bool
 | .iter _ _ _ _ _=>false
 | .kB=>false
 |_=>true
def ae.kZ:ae->Bool
 | .tok _ _=>true
 |_=>false
def iv(o1 o2:ae):Prop:=(o2.di=false->o1.di=false)/\(o2.kZ=true->o1=o2)/\(o2.mK=true->o1.mK=true)
theorem iv.refl(o:ae):iv o o:=⟨id,fun _=>rfl,id⟩
def ae.own:ae->Bool
 | .iter _ _ _ _ _=>false
 | .kB=>false
 | .tok _ _=>false
 | .ro _ _=>false
 | .th _ _=>false
 |_=>true
theorem ae.uz(h:o.own=true):o.plain=true/\o.di=false:=by cases o<;>first|exact⟨rfl,rfl⟩|cases h
theorem Rel.block(r:Rel B ρ h w)(ht:n<top)(hg:h.get n=some o)(hr:ρ n=some (b,N)):
 ∃o',w.heap[b]? =some o'/\OR ρ N o o'/\(o.di=false->B.may b):=by
 obtain⟨b',N',o',h1,h2,h3,h4⟩:=r.is n o ht hg;rw[hr] at h1;cases h1;exact⟨o',h2,h3,h4⟩
theorem ox.mL{m:Nat}{es:List<|AV×AV}{ex:Bool}{left:List<|AV×AV}{cur:Option<|AV×AV}(u:ox ρ w n m es ex left cur)(hw:∀k,k≠b->w'.heap[k]? =w.heap[k]?)(hn:∀N,ρ n≠some (b,N))(hm:∀N,ρ m≠some (b,N)):ox ρ w' n m es ex left cur:=by obtain⟨b1,N,bm,M,l,aO,seen,h1,h2,h3,h4,h5⟩:=u;exact⟨b1,N,bm,M,l,aO,seen,h1,h2,(hw b1 fun e=>hn N<|by rw[h1,e]).trans h3,(hw bm fun e=>hm M<|by rw[h2,e]).trans h4,h5⟩
theorem Rel.put(r:Rel B ρ h w){p:ae}(ht:n<top)(hg:h.get n=some p)(hp:p.plain=true)(cw:p.di=false)(hr:ρ n=some (b,N))(BY:o.own=true)(hw:wX b w w')(hb:w'.heap[b]? =some o')(hO:OR ρ N o o'):Rel B ρ (h.put n<|some o) w':=by
 obtain⟨ho,F9⟩:=ae.uz BY;obtain⟨_,_,_,hB⟩:=r.block ht hg hr;have g:∀m,m<top->(h.put n<|some o).get m=if m=n then some o else h.get m:=fun m hm=>Tr.dk _ _ _ _ ht hm
 refine⟨?_,?_,?_,by rw[hw.size];exact r.size,?_,r.fz.of (aw.le_refl _) (fun b1 _ hn=>hw.block b1 fun e=>hn n p N ht hg cw (by rw[e];exact hr)) (fun b1 _ hn=>hn.sub fun m q hm hq gW=>by
  rw[g m hm] at hq;by_cases e:m=n
  ·subst e;exact⟨p,hg,cw⟩
  ·rw[if_neg e] at hq;exact⟨q,hq,gW⟩),r.tk.of (aw.le_refl _) (fun m q hm hq hr=>by
  rw[g m hm] at hq;by_cases e:m=n
  ·rw[if_pos e] at hq;cases hq;rw[F9] at hr;cases hr
  ·rw[if_neg e] at hq;exact hq) (by rw[hw.size];exact Nat.le_refl _) (fun b1 _ hn=>hw.block b1 fun e=>hn n p N ht hg cw (by rw[e];exact hr)) (fun b1 _ hn=>hn.sub fun m q hm hq gW=>by
  rw[g m hm] at hq;by_cases e:m=n
  ·subst e;exact⟨p,hg,cw⟩
  ·rw[if_neg e] at hq;exact⟨q,hq,gW⟩) fun _ _ _ _ _ e=>e⟩
 ·intro m q hm hq;rw[g m hm] at hq;by_cases e:m=n
  ·subst e;rw[if_pos rfl] at hq;cases hq;exact⟨b,N,o',hr,hb,hO,fun _=>hB cw⟩
  ·rw[if_neg e] at hq;obtain⟨b1,N1,o1,h1,h2,h3,h4⟩:=r.is m q hm hq;refine⟨b1,N1,o1,h1,(hw.block b1 fun e2=>?_).trans h2,h3,h4⟩;subst e2;exact e<|r.one m n q p b1 N1 N hm ht hq hg (.inr cw) h1 hr
 ·intro m k q q' b1 N1 M1 hm hk hq dS cS h1 h2;rw[g m hm] at hq;rw[g k hk] at dS;have live:∀j,j<top->∀x,(if j=n then some o else h.get j)=some x->∃y,h.get j=some y/\(x.di=false->y.di=false):=by
   intro j _ x hx;by_cases e:j=n
   ·subst e;exact⟨p,hg,fun _=>cw⟩
   ·rw[if_neg e] at hx;exact⟨x,hx,id⟩
  obtain⟨y,hy,vM⟩:=live m hm q hq;obtain⟨z,hz,GK⟩:=live k hk q' dS;exact r.one m k y z b1 N1 M1 hm hk hy hz (cS.imp vM GK) h1 h2
 ·intro i m es ex left cur hi hq;rw[g i hi] at hq;by_cases e:i=n
  ·subst e;rw[if_pos rfl] at hq;cases hq;simp[ae.plain] at ho
  ·rw[if_neg e] at hq;obtain⟨hm,hl,u⟩:=r.iter i m es ex left cur hi hq;have rS:m≠n:=by intro e2;subst e2;rw[hg] at hl;cases hl;simp[ae.plain] at hp
   refine⟨hm,by rw[g m hm,if_neg rS];exact hl,u.mL hw.block (fun M e2=>e ?_) fun M e2=>rS ?_⟩
   ·exact r.one i n _ p b M N hi ht hq hg (.inr cw) e2 hr
   ·exact r.one m n _ p b M N hm ht hl hg (.inr cw) e2 hr
 ·intro i j m es ex left cur g9 ju iS iV hi hj h1 h2;rw[g i hi] at h1;rw[g j hj] at h2;by_cases e:i=n
  ·rw[if_pos e] at h1;cases h1;simp[ae.plain] at ho
  ·rw[if_neg e] at h1;by_cases e2:j=n
   ·rw[if_pos e2] at h2;cases h2;simp[ae.plain] at ho
   ·rw[if_neg e2] at h2;exact r.lone i j m es ex left cur g9 ju iS iV hi hj h1 h2
theorem Rel.drop(r:Rel B ρ h w)(ht:n<top)(hn:h.get n≠some .kB):Rel B ρ (h.put n none) w:=by
 have g:∀m,m<top->(h.put n none).get m=if m=n then none else h.get m:=fun m hm=>Tr.dk _ _ _ _ ht hm
 refine⟨?_,?_,?_,r.size,?_,r.fz.of (aw.le_refl _) (fun _ _ _=>rfl) (fun b1 _ hn=>hn.sub fun m q hm hq gW=>by
  rw[g m hm] at hq;by_cases e:m=n
  ·rw[if_pos e] at hq;cases hq
  ·rw[if_neg e] at hq;exact⟨q,hq,gW⟩),r.tk.of (aw.le_refl _) (fun m q hm hq _=>by
  rw[g m hm] at hq;by_cases e:m=n
  ·rw[if_pos e] at hq;cases hq
  ·rw[if_neg e] at hq;exact hq) (Nat.le_refl _) (fun _ _ _=>rfl) (fun b1 _ hn=>hn.sub fun m q hm hq gW=>by
  rw[g m hm] at hq;by_cases e:m=n
  ·rw[if_pos e] at hq;cases hq
  ·rw[if_neg e] at hq;exact⟨q,hq,gW⟩) fun _ _ _ _ _ e=>e⟩
 ·intro m q hm hq;rw[g m hm] at hq;by_cases e:m=n
  ·rw[if_pos e] at hq;cases hq
  ·rw[if_neg e] at hq;exact r.is m q hm hq
 ·intro m k q q' b1 N1 M1 hm hk hq dS cS h1 h2;rw[g m hm] at hq;rw[g k hk] at dS;by_cases e:m=n
  ·rw[if_pos e] at hq;cases hq
  ·by_cases e2:k=n
   ·rw[if_pos e2] at dS;cases dS
   ·rw[if_neg e] at hq;rw[if_neg e2] at dS;exact r.one m k q q' b1 N1 M1 hm hk hq dS cS h1 h2
 ·intro i m es ex left cur hi hq;rw[g i hi] at hq;by_cases e:i=n
  ·rw[if_pos e] at hq;cases hq
  ·rw[if_neg e] at hq;obtain⟨hm,hl,u⟩:=r.iter i m es ex left cur hi hq;have rS:m≠n:=by intro e2;subst e2;exact hn hl
   exact⟨hm,by rw[g m hm,if_neg rS];exact hl,u⟩
 ·intro i j m es ex left cur g9 ju iS iV hi hj h1 h2;rw[g i hi] at h1;rw[g j hj] at h2;by_cases e:i=n
  ·rw[if_pos e] at h1;cases h1
  ·rw[if_neg e] at h1;by_cases e2:j=n
   ·rw[if_pos e2] at h2;cases h2
   ·rw[if_neg e2] at h2;exact r.lone i j m es ex left cur g9 ju iS iV hi hj h1 h2
structure gT (w w':World):Prop where
 os:w'.os=w.os
 tape:w'.tape=w.tape
 output:w'.output=w.output
 size:w.heap.size<=w'.heap.size
 block:∀k,k<w.heap.size->w'.heap[k]? =w.heap[k]?
theorem gT.drew(w:World):gT w {w with drawn:=w.drawn+1}:=⟨rfl,rfl,rfl,Nat.le_refl _,fun _ _=>rfl⟩
theorem gT.alloc(w:World)(o:Obj):gT w {w with heap:=w.heap.push o}:=⟨rfl,rfl,rfl,by simp,fun k hk=>by simp[Array.getElem?_push];intro e;omega⟩
theorem gT.trans{a b c:World}(h:gT a b)(k:gT b c):gT a c:=⟨k.os.trans h.os,k.tape.trans h.tape,k.output.trans h.output,Nat.le_trans h.size k.size,fun i hi=>(k.block i<|Nat.lt_of_lt_of_le hi h.size).trans<|h.block i hi⟩
theorem gT.below(h:gT w w')(_:∀k,w.heap.size<=k->B.may k):cH B w w':=⟨h.os,h.tape,h.output,h.size,fun k hk _=>h.block k hk⟩
theorem gR{o:Obj}(h:w.heap[b]? =some o):b<w.heap.size:=(Array.getElem?_eq_some_iff.1 h).1
theorem Rel.DO(r:Rel B ρ h w)(g:gT w w'):Rel B ρ h w':=by
 refine⟨?_,r.one,?_,fun k hk=>r.size k<|Nat.le_trans g.size hk,r.lone,r.fz.of (aw.le_refl _) (fun b hb _=>g.block b hb) fun _ _ hn=>hn,r.tk.of (aw.le_refl _) (fun _ _ _ hq _=>hq) g.size (fun b hb _=>g.block b hb) (fun _ _ hn=>hn) fun _ _ _ _ _ e=>e⟩
 ·intro m q hm hq;obtain⟨b1,N1,o1,h1,h2,h3,h4⟩:=r.is m q hm hq;exact⟨b1,N1,o1,h1,(g.block b1<|gR h2).trans h2,h3,h4⟩
 ·intro i m es ex left cur hi hq;obtain⟨hm,fC,b1,N,bm,M,l,aO,seen,h1,h2,h3,h4,h5⟩:=r.iter i m es ex left cur hi hq;exact⟨hm,fC,b1,N,bm,M,l,aO,seen,h1,h2,(g.block b1<|gR h3).trans h3,(g.block bm<|gR h4).trans h4,h5⟩
theorem Rel.name(r:Rel B ρ h w)(ht:n<top)(oM:ρ n=none)(ho:o.plain=true)(hb:w.heap[b]? =some o')(hB:o.di=false->B.may b)(hfz:∀k sh,ρ (hn k b sh)=none)(lO:∀m p,m<top->h.get m=some p->∀M,ρ m≠some (b,M))(hO:OR (eN ρ n (b,N)) N o o')(hT:tV B (eN ρ n (b,N)) (h.put n<|some o) w):Rel B (eN ρ n (b,N)) (h.put n<|some o) w:=by
 have hl:ρ.le<|eN ρ n (b,N):=oj oM;have lY:h.get n=none:=by
  cases e:h.get n with
  |none=>rfl
  |some p=>obtain⟨_,_,_,h1,_⟩:=r.is n p ht e;rw[oM] at h1;cases h1
 have g:∀m,m<top->(h.put n<|some o).get m=if m=n then some o else h.get m:=fun m hm=>Tr.dk _ _ _ _ ht hm
 refine⟨?_,?_,?_,r.size,?_,fun k b1 sh e=>by
  rw[gJ ρ _ (by have:=fZ k b1 sh;omega)] at e;obtain⟨h0,l,c,e',fr,h1,h3,h4,h5⟩:=r.fz k b1 sh e;refine⟨h0,l,c,e',fr,h1,h3,fun m q M hm hq gW e2=>?_,fun i x hx=>by obtain⟨v,a1,a2,a3⟩:=h5 i x hx;exact⟨v,a1,VR.mono (E3 hl) _ _ a2,a3⟩⟩;rw[g m hm] at hq;by_cases e3:m=n
  ·subst e3;rw[iQ] at e2;cases e2;exact e (hfz k sh)
  ·rw[if_neg e3] at hq;rw[gJ ρ _ e3] at e2;exact h4 m q M hm hq gW e2,hT⟩
 ·intro m q hm hq;rw[g m hm] at hq;by_cases e:m=n
  ·subst e;rw[if_pos rfl] at hq;cases hq;exact⟨b,N,o',iQ _ _ _,hb,hO,hB⟩
  ·rw[if_neg e] at hq;obtain⟨b1,N1,o1,h1,h2,h3,h4⟩:=r.is m q hm hq;exact⟨b1,N1,o1,hl _ _ h1,h2,h3.mono hl,h4⟩
 ·intro m k q q' b1 N1 M1 hm hk hq dS cS h1 h2;rw[g m hm] at hq;rw[g k hk] at dS;by_cases e:m=n
  ·by_cases e2:k=n
   ·omega
   ·rw[if_neg e2] at dS;subst e;rw[iQ] at h1;cases h1;rw[gJ ρ _ e2] at h2;exact absurd h2<|lO k q' hk dS M1
  ·rw[if_neg e] at hq;rw[gJ ρ _ e] at h1;by_cases e2:k=n
   ·subst e2;rw[iQ] at h2;cases h2;exact absurd h1<|lO m q hm hq N1
   ·rw[if_neg e2] at dS;rw[gJ ρ _ e2] at h2;exact r.one m k q q' b1 N1 M1 hm hk hq dS cS h1 h2
 ·intro i m es ex left cur hi hq;rw[g i hi] at hq;by_cases e:i=n
  ·subst e;rw[if_pos rfl] at hq;cases hq;simp[ae.plain] at ho
  ·rw[if_neg e] at hq;obtain⟨hm,fC,u⟩:=r.iter i m es ex left cur hi hq;have rS:m≠n:=by intro e2;subst e2;rw[lY] at fC;cases fC
   exact⟨hm,by rw[g m hm,if_neg rS];exact fC,u.mono hl⟩
 ·intro i j m es ex left cur g9 ju iS iV hi hj h1 h2;rw[g i hi] at h1;rw[g j hj] at h2;by_cases e:i=n
  ·rw[if_pos e] at h1;cases h1;simp[ae.plain] at ho
  ·rw[if_neg e] at h1;by_cases e2:j=n
   ·rw[if_pos e2] at h2;cases h2;simp[ae.plain] at ho
   ·rw[if_neg e2] at h2;exact r.lone i j m es ex left cur g9 ju iS iV hi hj h1 h2
theorem Rel.new(r:Rel B ρ h w)(ht:n<top)(oM:ρ n=none)(BY:o.own=true)(hO:OR (eN ρ n (w.heap.size,N)) N o o'):Rel B (eN ρ n (w.heap.size,N)) (h.put n<|some o) {w with heap:=w.heap.push o'}:=by
 obtain⟨ho,F9⟩:=ae.uz BY;refine(r.DO<|gT.alloc w o').name ht oM ho iJ (fun _=>r.size _<|Nat.le_refl _) (fun k sh=>by
  cases e:ρ (Rn.hn k w.heap.size sh) with
  |none=>rfl
  |some x=>obtain⟨_,_,_,_,_,_,h3,_⟩:=r.fz k w.heap.size sh (by rw[e];exact fun h=>by cases h);exact absurd (gR h3)<|Nat.lt_irrefl _) (fun m p hm hp M e=>?_) hO ?_
 ·obtain⟨b1,N1,o1,h1,h2,_⟩:=r.is m p hm hp;rw[e] at h1;cases h1;exact absurd (gR h2)<|Nat.lt_irrefl _
 ·have g:∀m,m<top->(h.put n<|some o).get m=if m=n then some o else h.get m:=fun m hm=>Tr.dk _ _ _ _ ht hm
  exact r.tk.of (oj oM) (fun m q hm hq hr=>by
   rw[g m hm] at hq;by_cases e:m=n
   ·rw[if_pos e] at hq;cases hq;rw[F9] at hr;cases hr
   ·rw[if_neg e] at hq;exact hq) (gT.alloc w o').size (fun b hb _=>(gT.alloc w o').block b hb) (fun b1 tZ hn m q M hm hq gW e2=>by
   rw[g m hm] at hq;by_cases e3:m=n
   ·subst e3;rw[iQ] at e2;cases e2;exact absurd tZ (Nat.lt_irrefl _)
   ·rw[if_neg e3] at hq;rw[gJ ρ _ e3] at e2;exact hn m q M hm hq gW e2) (fun j x sh _ _ e=>by rw[gJ ρ _ (by have:=fZ j x sh;omega)];exact e)
structure Ext (a b:Nat) (ρ σ:aw):Prop where
 le:ρ.le σ
 out:∀k,k<top->¬(a<=k/\k<b)->σ k=ρ k
theorem Ext.refl(a b:Nat)(ρ:aw):Ext a b ρ ρ:=⟨aw.le_refl ρ,fun _ _ _=>rfl⟩
theorem Ext.trans{τ:aw}(GL:a<=b)(hbc:b<=c)(h:Ext a b ρ σ)(k:Ext b c σ τ):Ext a c ρ τ:=⟨aw.le_trans h.le k.le,fun j hj hk=>(k.out j hj aj).trans<|h.out j hj aj⟩
theorem Ext.mQ(h:ρ n=none):Ext n (n+1) ρ<|eN ρ n x:=⟨oj h,fun k _ hk=>gJ ρ x aj⟩
def dE(a b:Nat)(ρ:aw):Prop:=∀k,a<=k->k<b->k<top->ρ k=none
theorem dE.next(hf:dE a c ρ)(GL:a<=b)(e:Ext a b ρ σ):dE b c σ:=fun k h1 h2 h3=>(e.out k h3 aj).trans<|hf k aj h2 h3
theorem dE.sub{d:Nat}(hf:dE a d ρ)(h1:a<=b)(h2:c<=d):dE b c ρ:=fun k p q r=>hf k aj aj r
end Go.Rn
namespace Go.Rn
open Go.RowKit
variable {n off b k N:Nat} {ρ:aw} {w:World} {vs:List Value} {l:List AV} {c:Array Value} {s1 s:AS} {P:Program} {e:TypeId} {B:aJ} {u:Unit}
theorem fY{o:ae}(h:bp n s= .ok o s1):n<s.nx/\s.h.get n=some o/\s1.h=s.h/\s1.nx=s.nx:=by
 obtain⟨h1,h2,rfl⟩:=Iq h;by_cases e:n<s.mark
 ·rw[if_pos e];exact⟨h1,h2,rfl,rfl⟩
 ·rw[if_neg e];exact⟨h1,h2,rfl,rfl⟩
theorem kx{o:Option ae}(h:bI n o s= .ok u s1):
 n<s.nx/\n<top/\(∃p,s.h.get n=some p/\p.di=false)/\s1.h=s.h.put n o/\s1.nx=s.nx:=by
 obtain⟨h1,h2,h3,rfl⟩:=T4 h;by_cases e:n<s.mark
 ·rw[if_pos e];exact⟨h1,h2,h3,rfl,rfl⟩
 ·rw[if_neg e];exact⟨h1,h2,h3,rfl,rfl⟩
theorem aL{m:Nat}:Nat.ble n m=true↔n<=m:=by rw[Nat.ble_eq]
theorem eg{m:Nat}:Nat.beq n m=true↔n=m:=by rw[Nat.beq_eq]
theorem and_true{a b:Bool}:and a b=true↔a=true/\b=true:=Bool.and_eq_true_iff
theorem Hr{t:Tr AV}{z:List AV}:∀{k off:Nat} {l:List AV},lr t z k off=some l->l.length=k/\∀i,i<k->cellAt t z (off+i)=l[i]?
 |0,off,l,h=>by
  simp only[lr] at h;injection h with h;subst h
  exact⟨rfl,fun i hi=>by omega⟩
 |k+1,off,l,h=>by
  simp only[lr] at h;cases e:cellAt t z off with
  |none=>rw[e] at h;cases h
  |some v=>
   simp only[e] at h;cases e2:lr t z k (off+1) with
   |none=>simp only[e2] at h;cases h
   |some r=>
    simp only[e2] at h;injection h with h;subst h
    obtain⟨a,b⟩:=Hr e2;refine⟨by simp[a],fun i hi=>?_⟩;cases i with
    |zero=>simpa using e
    |succ i=>have:=b i aj;rw[show off+1+i=off+(i+1) from by omega] at this;simpa using this
def Row(ρ:aw)(c:Array Value)(n:Nat)(ah:Nat->Option AV):Prop:=∀i,i<n->∃x v,ah i=some x/\x.cj=true/\c[i]? =some v/\VR ρ x v
theorem Row.get{ah:Nat->Option AV}(r:Row ρ c n ah)(hk:off+k<=n)(hl:l.length=k)(h:∀i,i<k->ah (off+i)=l[i]?):
 ∃vs:List Value,vs.length=k/\ay ρ l vs/\(∀j v,vs[j]? =some v->c[off+j]? =some v)/\∀x∈l,x.cj=true:=by
 have cell:∀i,i<k->∃x v,l[i]? =some x/\x.cj=true/\c[off+i]? =some v/\VR ρ x v:=by intro i hi;obtain⟨x,v,h1,h2,h3,h4⟩:=r (off+i) aj;exact⟨x,v,by rw[←h i hi];exact h1,h2,h3,h4⟩
 refine⟨(List.range k).map fun i=>c.getD (off+i) undef,by simp,?_,?_,?_⟩
 ·refine ay.UW _ _ (by simp[hl]) fun i a b ha hb=>?_;have hi:i<k:=by have:=List.getElem?_eq_some_iff.1 ha;obtain⟨h1,_⟩:=this;omega
  obtain⟨x,v,h1,h2,h3,h4⟩:=cell i hi;rw[h1] at ha;cases ha;have gm:b=v:=by rw[List.getElem?_map,List.getElem?_range hi] at hb;simp only[Option.map_some,Option.some.injEq] at hb;rw[←hb,Array.getD_eq_getD_getElem?,h3];rfl
  rw[gm];exact h4
 ·intro j v hv;have hj:j<k:=by have:=List.getElem?_eq_some_iff.1 hv;obtain⟨h1,_⟩:=this;simpa using h1
  obtain⟨x,u,h1,h2,h3,h4⟩:=cell j hj;rw[List.getElem?_map,List.getElem?_range hj] at hv;simp only[Option.map_some,Option.some.injEq] at hv;rw[←hv,Array.getD_eq_getD_getElem?,h3];rfl
 ·intro x hx;obtain⟨i,hi,rfl⟩:=List.getElem_of_mem hx;obtain⟨y,v,h1,h2,h3,h4⟩:=cell i aj;rw[List.getElem?_eq_getElem hi] at h1;cases h1;exact h2
theorem HV{fr:Nat×Nat}(hb:w.heap[b]? =some (.cells c e fr))(h:∀j v,vs[j]? =some v->c[off+j]? =some v):(loadCells ⟨b,off,none⟩ vs.length).run P w= .ok vs.toArray w:=by
 refine run_loadCells_list w ⟨b,off,none⟩ vs fun j v hv=>?_;have Wh:(Addr.mk b off none).add j=⟨b,off+j,none⟩:=by
  unfold Addr.add;by_cases q:j=0
  ·subst q;simp
  ·rw[if_neg q]
 rw[Wh];simp only[World.cell?,hb];exact h j v hv
theorem yv(fi:bx s)(r:Rel B ρ s.h w)(h:je n off k s= .ok l s1)(hn:ρ n=some (b,N)):
 s1.h=s.h/\s1.nx=s.nx/\l.length=k/\(∀x∈l,x.cj=true)/\∃vs:List Value,(loadCells ⟨b,off,none⟩ k).run P w= .ok vs.toArray w/\ay ρ l vs/\∀j v,vs[j]? =some v->w.cell? ⟨b,off+j,none⟩=some v:=by
 cases k with
 |zero=>have h':M.pure [] s= .ok l s1:=h;obtain⟨rfl,rfl⟩:=bD h';exact⟨rfl,rfl,rfl,fun x hx=>(by cases hx),[],rfl,by simp[ay],fun j v h=>(by simp at h)⟩
 |succ k=>
  unfold je at h;obtain⟨o,s2,h1,h2⟩:=M.aP h;obtain⟨hx,hg,hh,cM⟩:=fY h1;have ht:n<top:=Nat.lt_of_lt_of_le hx fi.nx;obtain⟨o',hb,hO,_⟩:=r.block ht hg hn;cases o with
  |cells m t z=>obtain⟨q1,q2⟩:=cW h2;obtain⟨q3,rfl⟩:=hI q2;obtain⟨c,e,rfl,hc,hm,row⟩:=hO;obtain⟨g1,g2⟩:=Hr q3;obtain⟨vs,v1,v2,v3,v4⟩:=Row.get (ρ:=ρ) (c:=c) (n:=m) (ah:=cellAt t z) row (aL.1 q1) g1 g2;refine⟨hh,cM,g1,v4,vs,?_,v2,fun j v hv=>by simp only[World.cell?,hb];exact v3 j v hv⟩;have:=HV (P:=P) hb v3;rw[v1] at this;exact this
  |ro m t=>
   obtain⟨q1,q2⟩:=cW h2;obtain⟨q3,rfl⟩:=hI q2;obtain⟨c,e,fr,rfl,hc,hm,row⟩:=hO;obtain⟨g1,g2⟩:=Hr q3;have ahH:Row ρ c m<|cellAt t []:=by intro i hi;obtain⟨x,v,a1,a2,a3,a4⟩:=row i hi;exact⟨x,v,by unfold cellAt;rw[a1],a2,a3,a4⟩
   obtain⟨vs,v1,v2,v3,v4⟩:=ahH.get (aL.1 q1) g1 g2;refine⟨hh,cM,g1,v4,vs,?_,v2,fun j v hv=>by simp only[World.cell?,hb];exact v3 j v hv⟩;have:=HV (P:=P) hb v3;rw[v1] at this;exact this
  |_=>cases h2
theorem Lv{cs:Array Value}{fr:Nat×Nat}(hb:w.heap[b]? =some (.cells c e fr)):
 wX b w (w.setRow b cs)/\(w.setRow b cs).heap[b]? =some (.cells cs e fr):=by
 refine⟨⟨rfl,rfl,rfl,by simp[World.setRow],fun k hk=>?_⟩,setRow_heap w b c cs e fr hb⟩;simp only[World.setRow,Array.getElem?_modify];rw[if_neg aj]
theorem YT{x:AV}{v:Value}(h:VR ρ x v)(hx:x.cj=true):v.oneCell'=true:=by
 cases v with
 |agg cs=>exact absurd rfl (VR.cj h hx cs).1
 |tuple cs=>exact absurd rfl (VR.cj h hx cs).2
 |_=>rfl
theorem Hj{ρ:aw}:∀{l:List AV} {vs:List Value},ay ρ l vs->(∀x∈l,x.cj=true)->∀v∈vs,v.oneCell'=true
 |[],vs,h,_,v,hv=>by simp only[ay] at h;subst h;cases hv
 |x::l,vs,h,hx,v,hv=>by
  simp only[ay] at h;obtain⟨y,ys,rfl,a,b⟩:=h;rcases List.mem_cons.1 hv with rfl|hv
  ·exact YT a<|hx x List.mem_cons_self
  ·exact Hj b (fun z hz=>hx z<|List.mem_cons_of_mem _ hz) v hv
theorem Row.set{t:Tr AV}{z:List AV}(r:Row ρ c n<|cellAt t z){m:Nat}(hl:ay ρ l vs)(h1:∀x∈l,x.cj=true)(al8:off<=n)(hm:m=max n (off+l.length))(hc:m<=c.size)(ht:m<=top):
 Row ρ ((c.toList.take off++vs++c.toList.drop (off+vs.length)).toArray) m (cellAt (Tr.fill l off t) z):=by
 have hlen:l.length=vs.length:=hl.length;intro i hi;have ahI:cellAt (Tr.fill l off t) z i=match (Tr.fill l off t).get i with|some v=>some v|none=>z[i % z.length]? :=rfl
 rw[ahI,Tr.MJ _ _ _ _ aj aj];by_cases q:off<=i/\i<off+l.length
 ·rw[if_pos q];obtain⟨x,hx⟩:∃x,l[i - off]? =some x:=⟨l[i - off]'aj,List.getElem?_eq_getElem aj⟩;obtain⟨v,hv,hr⟩:=hl.get (i - off) x hx;refine⟨x,v,by rw[hx],h1 x<|List.mem_of_getElem? hx,?_,hr⟩;simp only[List.getElem?_toArray];rw[List.append_assoc,List.getElem?_append_right vJ];simp only[List.length_take,Array.length_toList];rw[Nat.min_eq_left aj,List.getElem?_append_left aj];exact hv
 ·rw[if_neg q];have iK:i<n:=by omega
  obtain⟨x,v,a1,a2,a3,a4⟩:=r i iK;refine⟨x,v,a1,a2,?_,a4⟩;simp only[List.getElem?_toArray];by_cases q2:i<off
  ·rw[List.append_assoc,List.getElem?_append_left vJ,List.getElem?_take_of_lt q2];simpa using a3
  ·rw[List.getElem?_append_right vJ];simp only[List.length_append,List.length_take,Array.length_toList,List.getElem?_drop];rw[Nat.min_eq_left aj];rw[show off+vs.length+(i - (off+vs.length))=i from by omega];simpa using a3
theorem size_set(h:off+vs.length<=c.size):((c.toList.take off++vs++c.toList.drop (off+vs.length)).toArray).size=c.size:=by simp;omega
theorem L7(hb:w.heap[b]? =some (.cells c e (0,0)))(h:off+vs.length<=c.size)(h1:∀v∈vs,v.oneCell'=true):
 (storeCells ⟨b,off,none⟩ vs).run P w= .ok () (w.setRow b (c.toList.take off++vs++c.toList.drop (off+vs.length)).toArray):=by
 have:=run_storeCells_at P b off e vs 0 c w hb (by simpa using h) h1;simpa using this
theorem Ll(fi:bx s)(r:Rel B ρ s.h w)(h:qQ n off l s= .ok u s1)(hn:ρ n=some (b,N))(hl:ay ρ l vs):
 s1.nx=s.nx/\∃w',(storeCells ⟨b,off,none⟩ vs).run P w= .ok () w'/\Rel B ρ s1.h w'/\cH B w w':=by
 cases l with
 |nil=>simp only[ay] at hl;subst hl;have h':M.pure () s= .ok u s1:=h;obtain⟨_,rfl⟩:=bD h';exact⟨rfl,w,rfl,r,cH.refl _ _⟩
 |cons x l=>
  unfold qQ at h;obtain⟨o,s2,h1,h2⟩:=M.aP h;obtain⟨hx,hg,hh,cM⟩:=fY h1;have ht:n<top:=Nat.lt_of_lt_of_le hx fi.nx;obtain⟨o',hb,hO,hB⟩:=r.block ht hg hn;cases o with
  |cells m t z=>obtain⟨q1,q2⟩:=cW h2;obtain⟨q3,q4⟩:=and_true.1 q1;obtain⟨q5,q6⟩:=and_true.1 q4;obtain⟨_,_,_,e1,e2⟩:=kx q2;obtain⟨c,e,rfl,hc,hm,row⟩:=hO;have hlen:(x::l).length=vs.length:=hl.length;have h3:off+(x::l).length<=m:=aL.1 q3;have h4:m<=top:=aL.1 q5;have h5:∀y∈x::l,y.cj=true:=fun y hy=>List.all_eq_true.1 q6 y hy;have cF:=L7 (P:=P) (off:=off) (vs:=vs) hb aj<|Hj hl h5;obtain⟨g1,g2⟩:=Lv (cs:=(c.toList.take off++vs++c.toList.drop (off+vs.length)).toArray) hb;refine⟨by rw[e2,cM],_,cF,?_,g1.below<|hB rfl⟩;rw[e1,hh];refine r.put ht hg rfl rfl hn rfl g1 g2 ?_;refine⟨_,e,rfl,(size_set aj).trans hc,hm,?_⟩;exact Row.set (ρ:=ρ) (c:=c) (n:=m) row hl h5 aj aj aj h4
  |_=>cases h2
theorem yw{i:Nat}(hl:l.length<=top)(hi:i<l.length):cellAt (Tr.fill l 0 .nil) [] i=l[i]? :=by unfold cellAt;rw[Tr.MJ _ _ _ _ aj aj,if_pos aj];rw[Nat.sub_zero,List.getElem?_eq_getElem hi]
theorem LG(e:TypeId)(rest:List Value)(r:Rel B ρ s.h w)(hf:dE s.nx s1.nx ρ)(h:newRow l s= .ok n s1)(hl:ay ρ l vs):
 n=s.nx/\s1.nx=s.nx+1/\∃σ,Ext s.nx s1.nx ρ σ/\σ n=some (w.heap.size,vs.length+rest.length)/\
  (Go.newRow e (vs++rest).toArray).run P w= .ok ⟨w.heap.size,0,none⟩ {w with heap:=w.heap.push<|.cells (vs++rest).toArray e}/\
  Rel B σ s1.h {w with heap:=w.heap.push<|.cells (vs++rest).toArray e}:=by
 unfold newRow at h;obtain⟨q1,q2⟩:=cW h;obtain⟨q3,q4⟩:=and_true.1 q1;obtain⟨ht,rfl,rfl⟩:=uB q2;have h1:∀y∈l,y.cj=true:=fun y hy=>List.all_eq_true.1 q4 y hy;have h2:l.length<=top:=aL.1 q3;have hlen:=hl.length;have jh:ρ s.nx=none:=hf s.nx (Nat.le_refl _) (Nat.lt_succ_self _) aj;refine⟨rfl,rfl,eN ρ s.nx (w.heap.size,vs.length+rest.length),Ext.mQ jh,iQ _ _ _,rfl,?_⟩;refine r.new ht jh rfl ?_;refine⟨_,e,rfl,by simp,by omega,fun i hi=>?_⟩;obtain⟨x,hx⟩:∃x,l[i]? =some x:=⟨l[i]'hi,List.getElem?_eq_getElem hi⟩;obtain⟨v,hv,hr⟩:=hl.get i x hx;refine⟨x,v,by rw[yw h2 hi];exact hx,h1 x<|List.mem_of_getElem? hx,?_,hr.mono<|oj jh⟩;simp only[List.getElem?_toArray];rw[List.getElem?_append_left aj];exact hv
end Go.Rn
namespace Go.Rn
open Go.RowKit
variable {v:Value} {n off b sh N:Nat} {y a:Operand} {ty e:TypeId}
theorem RA(ρ:aw){x:AV}(h:Fv v=some x):VR ρ x v:=by
 unfold Fv at h;split at h<;>first
  |(injection h with h;subst h;simp only[VR];done)
  |(cases h;done)
  |skip
 rename_i len cap;cases hb:(Nat.beq len 0&&Nat.beq cap 0) with
 |false=>rw[hb] at h;cases h
 |true=>
  rw[hb] at h;injection h with h;subst h
  obtain⟨a,b⟩:=and_true.1 hb;have a':=eg.1 a;have b':=eg.1 b;subst a';subst b';simp[VR]
theorem Lw(ρ:aw):∀{l:List Value} {x:List AV},wF l=some x->ay ρ x l
 |[],x,h=>by simp only[wF] at h;injection h with h;subst h;simp only[ay]
 |v::l,x,h=>by
  simp only[wF] at h;cases e:Fv v with
  |none=>rw[e] at h;cases h
  |some y=>
   simp only[e] at h;cases e2:wF l with
   |none=>simp only[e2] at h;cases h
   |some r=>
    simp only[e2] at h;injection h with h;subst h
    simp only[ay];exact⟨v,l,rfl,RA ρ e,Lw ρ e2⟩
theorem Lx(ρ:aw){x:AV}(h:ofValue v=some x):VR ρ x v:=by
 unfold ofValue at h;split at h
 ·rename_i cs;cases e:wF cs.toList with
  |none=>rw[e] at h;cases h
  |some l=>simp only[e] at h;injection h with h;subst h;simp only[VR];exact⟨cs,rfl,Lw ρ e⟩
 ·rename_i cs;cases e:wF cs.toList with
  |none=>rw[e] at h;cases h
  |some l=>simp only[e] at h;injection h with h;subst h;simp only[VR];exact⟨cs,rfl,Lw ρ e⟩
 ·exact RA ρ h
def gd(ρ:aw):Prop:=∀g,g<fN->∃N,ρ g=some (g,N)
theorem gd.mono{ρ σ:aw}(h:gd ρ)(l:ρ.le σ):gd σ:=fun g hg=>let ⟨N,e⟩:=h g hg;⟨N,l _ _ e⟩
theorem Fl{ρ:aw}{nt:Nat}{t:Tr AV}{a:Act}(k:TR ρ nt t a.tmps)(hg:gd ρ){x:Operand}{v:AV}(h:aG t x=some v):VR ρ v<|a.eval x:=by
 cases x with
 |tmp i=>exact k.2 i v h
 |const c=>exact Lx ρ h
 |global g=>
  have h': @Bool.rec (fun _=>Option AV) none (some<|.ptr<|some (g,0)) (Nat.blt g fN)=some v:=h;rw[yG] at h';by_cases e:g<fN
  ·rw[if_pos e] at h';injection h' with h';subst h'
   obtain⟨N,hN⟩:=hg g e;simp only[VR];exact⟨g,N,hN,rfl⟩
  ·rw[if_neg e] at h';cases h'
 |func f=>
  have h':some (AV.func (.func f) [] [])=some v:=h;injection h' with h';subst h'
  simp only[VR,ay];exact⟨rfl, #[], #[],rfl,rfl,rfl⟩
theorem Fc{ρ:aw}{ev:Operand->Option AV}{ec:Operand->Value}(he:∀x v,ev x=some v->VR ρ v (ec x)):∀{l:List Operand} {vs:List AV},jT ev l=some vs->ay ρ vs (l.map ec)
 |[],vs,h=>by simp only[jT] at h;injection h with h;subst h;simp only[ay,List.map_nil]
 |x::l,vs,h=>by
  simp only[jT] at h;cases e:ev x with
  |none=>rw[e] at h;cases h
  |some y=>
   simp only[e] at h;cases e2:jT ev l with
   |none=>simp only[e2] at h;cases h
   |some r=>
    simp only[e2] at h;injection h with h;subst h
    simp only[ay,List.map_cons];exact⟨_,_,rfl,he x y e,Fc he e2⟩
section
variable {P:Program} {w:World}
theorem dx{t:TypeId}{d:TypeDesc}(h:P.underlying t=some d):(underlying t).run P w= .ok d w:=by simp[underlying,h]
theorem ux{t:TypeId}{i:TypeInfo}(h:P.info? t=some i):(typeInfo t).run P w= .ok i w:=by simp[typeInfo,h]
theorem iP{t:TypeId}{k:Nat}(h:eD P t=some k):(sizeOf t).run P w= .ok k w:=by
 unfold eD at h;cases e:P.info? t with
 |none=>rw[e] at h;cases h
 |some i=>simp only[e] at h;injection h with h;subst h;simp[sizeOf,ux e]
theorem Hs(ρ:aw){t:TypeId}{z:AV}(h:qi P t=some z):∃v,(zeroValue t).run P w= .ok v w/\VR ρ z v:=by
 unfold qi at h;cases e:P.info? t with
 |none=>rw[e] at h;cases h
 |some i=>
  simp only[e] at h;cases e2:i.zero with
  |none=>simp only[e2] at h;cases h
  |some v=>simp only[e2] at h;exact⟨v,by simp[zeroValue,ux e,e2],Lx ρ h⟩
theorem Ah{t:TypeId}{b:Bool}(h:qw P t=some b):(isAgg t).run P w= .ok b w:=by
 unfold qw at h;split at h<;>first|(cases h;done)|skip
 ·rename_i fs e;injection h with h;subst h;simp[isAgg,dx e]
 ·rename_i n m e;injection h with h;subst h;simp[isAgg,dx e]
 ·rename_i d h1 h2 e;injection h with h;subst h
  simp only[isAgg,Sem.run_bind,dx e,Result.andThen_ok];cases d<;>first|rfl|(exact absurd e<|h1 _)|(exact absurd e<|h2 _ _)
end
theorem Addr.qT(b o j:Nat):(Addr.mk b o none).add j=⟨b,o+j,none⟩:=by
 unfold Addr.add;by_cases q:j=0
 ·subst q;simp
 ·rw[if_neg q]
def ga(P:Program)(B:aJ)(ρ:aw)(s s1:AS)(w:World)(x:AV)(c:Sem Next):Prop:=∃σ w' nv,Ext s.nx s1.nx ρ σ/\c.run P w= .ok nv w'/\(match nv with| .value v=>VR σ x v| .skip=>x=p8|_=>False)/\Rel B σ s1.h w'/\cH B w w'
def jU(P:Program)(B:aJ)(ρ:aw)(s s1:AS)(w:World)(x:AV)(c:Sem Value):Prop:=∃σ w' v,Ext s.nx s1.nx ρ σ/\c.run P w= .ok v w'/\VR σ x v/\Rel B σ s1.h w'/\cH B w w'
theorem jU.op{P:Program}{B:aJ}{ρ:aw}{s s1:AS}{w:World}{x:AV}{c:Sem Value}(h:jU P B ρ s s1 w x c):ga P B ρ s s1 w x (do pure (.value<|←c)):=by obtain⟨σ,w',v,a,b,d,e,f⟩:=h;exact⟨σ,w',.value v,a,by simp[b],d,e,f⟩
section
variable {P:Program} {B:aJ} {ρ:aw} {w:World} {s s1:AS}
theorem Rh{t:TypeId}{x:AV}(fi:bx s)(r:Rel B ρ s.h w)(h:loadVar P t n off s= .ok x s1)(hn:ρ n=some (b,N)):
 s1.h=s.h/\s1.nx=s.nx/\∃v,(Go.loadVar t ⟨b,off,none⟩).run P w= .ok v w/\VR ρ x v:=by
 unfold loadVar at h;obtain⟨ag,h1,h2⟩:=bt h;cases ag with
 |true=>
  obtain⟨k,h3,h4⟩:=bt h2;obtain⟨l,s2,h5,h6⟩:=M.aP h4;obtain⟨rfl,rfl⟩:=bD h6;obtain⟨a1,a2,a3,a4,vs,a5,a6,_⟩:=yv (P:=P) fi r h5 hn;refine⟨a1,a2,.agg vs.toArray,?_,?_⟩
  ·simp[Go.loadVar,Ah h1,iP h3,a5]
  ·simp only[VR];exact⟨_,rfl,by simpa using a6⟩
 |false=>
  obtain⟨l,s2,h5,h6⟩:=M.aP h2;obtain⟨q,rfl⟩:=hI h6;obtain⟨a1,a2,a3,a4,vs,a5,a6,a7⟩:=yv (P:=P) fi r h5 hn;unfold one at q;split at q
  ·rename_i y;injection q with q;subst q
   simp only[ay] at a6;obtain⟨v,ys,rfl,hv,rfl⟩:=a6;have hc:=a7 0 v rfl;refine⟨a1,a2,v,?_,hv⟩;simp only[Go.loadVar,Sem.run_bind,Ah h1,Result.andThen_ok];simp[show w.cell? ⟨b,off,none⟩=some v from by simpa using hc]
  ·cases q
theorem YU{t:TypeId}{x:AV}(fi:bx s)(r:Rel B ρ s.h w)(h:wJ P t n off s= .ok x s1)(hn:ρ n=some (b,sh)):
 s1.h=s.h/\s1.nx=s.nx/\∃v,(Go.loadVar t ⟨b,sh+off,none⟩).run P w= .ok v w/\VR ρ x v:=by
 unfold wJ at h;obtain⟨ag,h1,h2⟩:=bt h;cases ag with
 |true=>cases h2
 |false=>
  obtain⟨ob,s2,h3,h4⟩:=M.aP h2;obtain⟨hx,hg,hh,cM⟩:=fY h3;have ht:n<top:=Nat.lt_of_lt_of_le hx fi.nx;obtain⟨o',hb,hO,_⟩:=r.block ht hg hn;cases ob with
  |th m tr=>
   obtain⟨q1,q2⟩:=cW h4;obtain⟨q3,rfl⟩:=hI q2;have bJ:off<m:=by rw[←blt_eq];exact q1
   obtain⟨c,e,fr,rfl,row⟩:=hO;obtain⟨y,v,g1,g2,g3,g4⟩:=row off bJ;rw[q3] at g1;injection g1 with g1;subst g1
   refine⟨hh,cM,v,?_,g4⟩;have hc:w.cell? ⟨b,sh+off,none⟩=some v:=by simp only[World.cell?,hb];exact g3
   simp only[Go.loadVar,Sem.run_bind,Ah h1,Result.andThen_ok];simp[hc]
  |_=>cases h4
def A7(B:aJ)(Ye:aI):Prop:=∀(n o k:Nat) (x:AV) (s s1:AS) (ρ:aw) (w:World),bx s->Rel B ρ s.h w->Ye (.row n o k) [] s= .ok x s1->s1.h=s.h/\s1.nx=s.nx/\∀b sh,ρ (hn n b sh)≠none->∃l vs,x= .agg l/\vs.length=k/\ay ρ l vs/\∃c e fr,w.heap[b]? =some (.cells c e fr)/\∀(j:Nat) (v:Value),vs[j]? =some v->c[sh+o+j]? =some v
theorem Zh{t:TypeId}{x:AV}{Ye:aI}(eO:A7 B Ye)(fi:bx s)(r:Rel B ρ s.h w)(h:uI P t Ye n off s= .ok x s1)(hn:ρ (hn n b sh)≠none):
 s1.h=s.h/\s1.nx=s.nx/\∃v,(Go.loadVar t ⟨b,sh+off,none⟩).run P w= .ok v w/\VR ρ x v:=by
 unfold uI at h;obtain⟨ag,h1,h2⟩:=bt h;obtain⟨k,h3,h4⟩:=bt h2;obtain⟨y,s2,h5,h6⟩:=M.aP h4;obtain⟨a1,a2,eO⟩:=eO _ _ _ _ _ _ _ _ fi r h5;obtain⟨l,vs,rfl,a3,a5,c,e,fr,a6,a7⟩:=eO b sh hn;have mI:∀(j:Nat) (v:Value),vs[j]? =some v->w.cell? ⟨b,sh+off+j,none⟩=some v:=fun j v hj=>by simp only[World.cell?,a6];exact a7 j v hj
 cases ag with
 |true=>
  obtain⟨rfl,rfl⟩:=bD h6;have FV:=HV (P:=P) (w:=w) a6 a7;rw[a3] at FV;refine⟨a1,a2,.agg vs.toArray,?_,?_⟩
  ·simp[Go.loadVar,Ah h1,iP h3,FV]
  ·simp only[VR];exact⟨_,rfl,by simpa using a5⟩
 |false=>
  obtain⟨q,rfl⟩:=hI h6;unfold one at q;split at q
  ·rename_i y;injection q with q;subst q
   simp only[ay] at a5;obtain⟨v,ys,rfl,hv,rfl⟩:=a5;have hc:=mI 0 v rfl;refine⟨a1,a2,v,?_,hv⟩;simp only[Go.loadVar,Sem.run_bind,Ah h1,Result.andThen_ok];simp[show w.cell? ⟨b,sh+off,none⟩=some v from by simpa using hc]
  ·cases q
theorem YB{t:TypeId}{x:AV}{u:Unit}(fi:bx s)(r:Rel B ρ s.h w)(h:storeVar P t n off x s= .ok u s1)(hn:ρ n=some (b,N))(hv:VR ρ x v):
 s1.nx=s.nx/\∃w',(Go.storeVar t ⟨b,off,none⟩ v).run P w= .ok () w'/\Rel B ρ s1.h w'/\cH B w w':=by
 unfold storeVar at h;obtain⟨k,h1,h2⟩:=bt h;obtain⟨h3,h4⟩:=cW h2;obtain⟨a1,w',a2,a3,a4⟩:=Ll (P:=P) fi r h4 hn hv.cells;refine⟨a1,w',?_,a3,a4⟩;have hk:v.cells.size=k:=by have:=hv.cells.length;rw[eg.1 h3] at this;simpa using this.symm
 simp[Go.storeVar,iP h1,hk,a2]
theorem RB{x:AV}(e:TypeId)(r:Rel B ρ s.h w)(hf:dE s.nx s1.nx ρ)(h:newRow x.cells s= .ok n s1)(hv:VR ρ x v):
 ∃σ w' b N,Ext s.nx s1.nx ρ σ/\(Go.newVar e v).run P w= .ok ⟨b,0,none⟩ w'/\σ n=some (b,N)/\Rel B σ s1.h w'/\cH B w w':=by
 obtain⟨rfl,h1,σ,h2,h3,h4,h5⟩:=LG (P:=P) e [] r hf h hv.cells;refine⟨σ,_,_,_,h2,?_,h3,h5,(gT.alloc w _).below r.size⟩;have:(v.cells.toList++[]).toArray=v.cells:=by simp
 rw[this] at h4 ⊢;exact h4
end
theorem VR.CQ{ρ:aw}{x:AV}{i:Int}(h:VR ρ x v)(hi:intOf x=some i):∃k,x= .int k i/\v= .int k i:=by
 cases x<;>simp only[intOf] at hi<;>first|(cases hi;done)|skip
 rename_i k n;injection hi with hi;subst hi
 simp only[VR] at h;exact⟨k,rfl,h⟩
theorem VR.S8{ρ:aw}{x:AV}{b:Bool}(h:VR ρ x v)(hi:wT x=some b):v= .bool b:=by
 cases x<;>simp only[wT] at hi<;>first|(cases hi;done)|skip
 injection hi with hi;subst hi
 simp only[VR] at h;exact h
theorem VR.MO{ρ:aw}{x:AV}{a:Nat×Nat}(h:VR ρ x v)(hi:addrOf x=some a):∃b N,ρ a.1=some (b,N)/\v= .pointer (some ⟨b,a.2,none⟩):=by
 unfold addrOf at hi;split at hi
 ·injection hi with hi;subst hi
  rename_i a;obtain⟨n,o⟩:=a;simp only[VR] at h;exact h
 ·cases hi
section
variable {P:Program} {B:aJ} {ρ:aw} {w:World} {s s1:AS} {x:AV} {Ye:aI} {t:Tr AV} {ev:Operand->Value} {o:Oper}
theorem Sc(he:∀x v,aG t x=some v->VR ρ v (ev x))(r:Rel B ρ s.h w)(h:uW y Ye t s= .ok x s1)(ho:o.op= .move y\/o.op= .assign y):ga P B ρ s s1 w x<|execOp ev o:=by obtain⟨h1,rfl⟩:=hI (show lift (aG t y) s= .ok x s1 from h);refine⟨ρ,w,.value<|ev y,Ext.refl _ _ _,?_,he y x h1,r,cH.refl _ _⟩;rcases ho with ho|ho<;>simp[execOp,ho]
theorem aab{c b:Operand}(he:∀x v,aG t x=some v->VR ρ v (ev x))(r:Rel B ρ s.h w)(h:Bm c a b Ye t s= .ok x s1)(ho:o.op= .pick c a b):ga P B ρ s s1 w x<|execOp ev o:=by
 unfold Bm at h;obtain⟨v,h1,h2⟩:=bt h;obtain⟨q,h3,h4⟩:=bt h2;obtain⟨va,h5,h6⟩:=bt h4;obtain⟨vb,h7,h8⟩:=bt h6;have hc:=(he c v h1).S8 h3;cases q with
 |true=>obtain⟨rfl,rfl⟩:=bD h8;exact⟨ρ,w,.value<|ev a,Ext.refl _ _ _,by simp[execOp,ho,hc,asBool],he a _ h5,r,cH.refl _ _⟩
 |false=>obtain⟨rfl,rfl⟩:=bD h8;exact⟨ρ,w,.value<|ev b,Ext.refl _ _ _,by simp[execOp,ho,hc,asBool],he b _ h7,r,cH.refl _ _⟩
theorem Zi(r:Rel B ρ s.h w)(hf:dE s.nx s1.nx ρ)(h:IZ P e Ye t s= .ok x s1)(ho:o.op= .alloc e):ga P B ρ s s1 w x<|execOp ev o:=by
 unfold IZ at h;obtain⟨z,h1,h2⟩:=bt h;obtain⟨n,s2,h3,h4⟩:=M.aP h2;obtain⟨rfl,rfl⟩:=bD h4;obtain⟨v,h5,h6⟩:=Hs (P:=P) (w:=w) ρ h1;obtain⟨σ,w',b,N,a1,a2,a3,a4,a5⟩:=RB (P:=P) e r hf h3 h6;refine⟨σ,w',.value<|.pointer<|some ⟨b,0,none⟩,a1,?_,?_,a4,a5⟩
 ·simp[execOp,ho,Instr.alloc,h5,a2]
 ·simp only[VR];exact⟨b,N,a3,rfl⟩
theorem abj(he:∀x v,aG t x=some v->VR ρ v (ev x))(r:Rel B ρ s.h w)(hf:dE s.nx s1.nx ρ)(h:Bz y Ye t s= .ok x s1)(ho:o.op= .box e y):ga P B ρ s s1 w x<|execOp ev o:=by
 unfold Bz at h;obtain⟨z,h1,h2⟩:=bt h;obtain⟨n,s2,h3,h4⟩:=M.aP h2;obtain⟨rfl,rfl⟩:=bD h4;obtain⟨σ,w',b,N,a1,a2,a3,a4,a5⟩:=RB (P:=P) e r hf h3<|he y z h1;refine⟨σ,w',.value<|.pointer<|some ⟨b,0,none⟩,a1,?_,?_,a4,a5⟩
 ·simp[execOp,ho,Instr.box,a2]
 ·simp only[VR];exact⟨b,N,a3,rfl⟩
theorem aac(eO:A7 B Ye)(he:∀x v,aG t x=some v->VR ρ v (ev x))(fi:bx s)(r:Rel B ρ s.h w)(h:ti P ty a Ye t s= .ok x s1)(ho:o.op= .load ty a):ga P B ρ s s1 w x<|execOp ev o:=by
 unfold ti at h;obtain⟨v,h1,h2⟩:=bt h;unfold loadAt at h2;split at h2
 ·rename_i n q;have hv:=he a _ h1;simp only[VR] at hv;obtain⟨b,sh,h5,h6⟩:=hv;have main:s1.h=s.h/\s1.nx=s.nx/\∃v,(Go.loadVar ty ⟨b,sh+q,none⟩).run P w= .ok v w/\VR ρ x v:=by
   cases hb:Nat.ble top n with
   |true=>rw[hb] at h2;exact Zh eO fi r h2<|h5.high<|aL.1 hb
   |false=>rw[hb] at h2;exact YU (P:=P) fi r h2 (h5.low fun q=>by rw[aL.2 q] at hb;cases hb)
  obtain⟨a1,a2,u,a3,a4⟩:=main;refine⟨ρ,w,.value u,Ext.refl _ _ _,?_,a4,by rw[a1];exact r,cH.refl _ _⟩;simp[execOp,ho,Instr.loadAt,Instr.sureAddr,h6,a3]
 ·obtain⟨ad,h3,h4⟩:=bt h2;obtain⟨b,N,h5,h6⟩:=(he a v h1).MO h3;obtain⟨a1,a2,u,a3,a4⟩:=Rh (P:=P) fi r h4 h5;refine⟨ρ,w,.value u,Ext.refl _ _ _,?_,a4,by rw[a1];exact r,cH.refl _ _⟩;simp[execOp,ho,Instr.loadAt,Instr.sureAddr,h6,a3]
theorem Zj(he:∀x v,aG t x=some v->VR ρ v (ev x))(fi:bx s)(r:Rel B ρ s.h w)(h:wW P ty a y Ye t s= .ok x s1)(ho:o.op= .store ty a y):ga P B ρ s s1 w x<|execOp ev o:=by unfold wW at h;obtain⟨v,h1,h2⟩:=bt h;obtain⟨ad,h3,h4⟩:=bt h2;obtain⟨z,h5,h6⟩:=bt h4;obtain⟨u,s2,h7,h8⟩:=M.aP h6;obtain⟨rfl,rfl⟩:=bD h8;obtain⟨b,N,h9,gE⟩:=(he a v h1).MO h3;obtain⟨a1,w',a2,a3,a4⟩:=YB (P:=P) fi r h7 h9<|he y z h5;refine⟨ρ,w',.skip,Ext.refl _ _ _,?_,rfl,a3,a4⟩;simp[execOp,ho,Instr.storeAt,Instr.sureAddr,gE,a2]
theorem Yp(he:∀x v,aG t x=some v->VR ρ v (ev x))(r:Rel B ρ s.h w)(h:Am y Ye t s= .ok x s1)(ho:o.op= .nilCheck y):ga P B ρ s s1 w x<|execOp ev o:=by
 unfold Am at h;obtain⟨v,h1,h2⟩:=bt h;obtain⟨h3,h4⟩:=cW h2;obtain⟨rfl,rfl⟩:=bD h4;have hv:=he y _ h1;refine⟨ρ,w,.value<|ev y,Ext.refl _ _ _,?_,hv,r,cH.refl _ _⟩;simp only[execOp,ho];generalize ev y=v at hv;cases x<;>(try simp only[VR] at hv)<;>(try (subst hv;first|(simp[notNil] at h3;done)|rfl))
 case ptr a=>
  cases a with
  |none=>simp[notNil] at h3
  |some a=>obtain⟨n,q⟩:=a;simp only[VR] at hv;obtain⟨_,_,_,rfl⟩:=hv;rfl
 case U n o l=>rcases hv with⟨_,_,_,_,rfl,_⟩|⟨_,_,_,_,rfl,_⟩<;>rfl
 case pk n o=>obtain⟨_,_,_,rfl⟩:=hv;rfl
 case slice a len cap=>
  have:∃p q r,v= .slice p q r:=by
   cases a with
   |none=>cases cap<;>simp only[VR] at hv;exact⟨_,_,_,hv.1⟩
   |some a=>
    obtain⟨n,q⟩:=a;cases cap<;>simp only[VR] at hv
    ·obtain⟨_,_,_,rfl⟩:=hv;exact⟨_,_,_,rfl⟩
    ·obtain⟨_,_,_,_,rfl,_⟩:=hv;exact⟨_,_,_,rfl⟩
    ·obtain⟨_,_,_,_,_,_,rfl⟩:=hv;exact⟨_,_,_,rfl⟩
  obtain⟨_,_,_,rfl⟩:=this;rfl
 case map a=>
  cases a with
  |none=>simp only[VR] at hv;subst hv;rfl
  |some a=>simp only[VR] at hv;obtain⟨_,_,_,rfl⟩:=hv;rfl
 case func fn f c=>obtain⟨_,_,_,rfl,_⟩:=hv;cases fn<;>first|rfl|(simp[notNil] at h3)
 case yield l=>obtain⟨_,_,_,rfl⟩:=hv;rfl
 case iface ty y=>obtain⟨_,rfl,_⟩:=hv;rfl
 case agg l=>obtain⟨_,rfl,_⟩:=hv;rfl
 case tuple l=>obtain⟨_,rfl,_⟩:=hv;rfl
end
end Go.Rn
namespace Go.Rn
open Go.RowKit
variable {ty:TypeId} {ps:List<|Nat×AV} {parts:Array<|Nat×Operand}
theorem ay.set{ρ:aw}:∀{x:List AV} {v:List Value} {i:Nat} {a:AV} {b:Value},ay ρ x v->VR ρ a b->ay ρ (x.set i a) (v.set i b)
 |[],_,_,_,_,h,_=>by simp only[ay] at h;subst h;simp[ay]
 |y::ys,_,0,_,_,h,k=>by simp only[ay] at h;obtain⟨z,zs,rfl,p,q⟩:=h;simp only[List.set_cons_zero,ay];exact⟨_,_,rfl,k,q⟩
 |y::ys,_,i+1,_,_,h,k=>by simp only[ay] at h;obtain⟨z,zs,rfl,p,q⟩:=h;simp only[List.set_cons_succ,ay];exact⟨_,_,rfl,p,q.set k⟩
def vw:List Value->List Value->Nat->List Value
 |cs,[],_=>cs
 |cs,c::l,off=>vw (cs.set off c) l<|off+1
theorem Q2{ρ:aw}:∀{l:List AV} {vs:List Value} {cs:List AV} {ds:List Value} {off:Nat},ay ρ l vs->ay ρ cs ds->ay ρ (E4 cs l off) (vw ds vs off)
 |[],_,_,_,_,h,k=>by simp only[ay] at h;subst h;exact k
 |x::l,_,cs,ds,off,h,k=>by simp only[ay] at h;obtain⟨y,ys,rfl,p,q⟩:=h;show ay ρ (E4 (cs.set off x) l<|off+1)<|vw (ds.set off y) ys<|off+1;exact Q2 (l:=l) q<|k.set p
theorem Sd(off:Nat):∀(l:List Value) (k:Nat) (cs:Array Value),
 ((l.zipIdx k).foldl (fun(cs:Array Value) (x:Value×Nat)=>cs.setIfInBounds (off+x.2) x.1) cs).toList=vw cs.toList l (off+k)
 |[],k,cs=>rfl
 |c::l,k,cs=>by simp only[List.zipIdx_cons,List.foldl_cons,vw];rw[Sd off l (k+1) _];simp[Nat.add_assoc]
def vN(ρ:aw):List (Nat×AV)->List (Nat×Value)->Prop
 |[],l=>l=[]
 |x::xs,l=>∃y ys,l=y::ys/\x.1=y.1/\VR ρ x.2 y.2/\vN ρ xs ys
theorem L8{ρ:aw}{ev:Operand->Option AV}{ec:Operand->Value}(he:∀x v,ev x=some v->VR ρ v (ec x)):∀{l:List<|Nat×Operand} {vs:List<|Nat×AV},uV ev l=some vs->vN ρ vs (l.map fun(i,x)=>(i,ec x))
 |[],vs,h=>by simp only[uV] at h;injection h with h;subst h;simp only[vN,List.map_nil]
 |(i,x)::l,vs,h=>by
  simp only[uV] at h;cases e:ev x with
  |none=>rw[e] at h;cases h
  |some y=>
   simp only[e] at h;cases e2:uV ev l with
   |none=>simp only[e2] at h;cases h
   |some r=>
    simp only[e2] at h;injection h with h;subst h
    simp only[vN,List.map_cons];exact⟨_,_,rfl,rfl,he x y e,L8 he e2⟩
theorem HW{ρ:aw}{place:Nat->Option (Nat×Nat)}:∀{ps:List<|Nat×AV} {qs:List<|Nat×Value} {cs l:List AV} {ds:Array Value},vN ρ ps qs->ay ρ cs ds.toList->wU place cs ps=some l->
 ∃es,Instr.fill place ds qs=some es/\ay ρ l es.toList
 |[],qs,cs,l,ds,h,k,e=>by
  simp only[vN] at h;subst h;simp only[wU] at e;injection e with e;subst e
  exact⟨ds,rfl,k⟩
 |(i,v)::ps,qs,cs,l,ds,h,k,e=>by
  simp only[vN] at h;obtain⟨⟨i',v'⟩,ys,rfl,hi,hv,hr⟩:=h;simp only at hi hv;subst hi;simp only[wU] at e;cases e1:place i with
  |none=>simp only[e1] at e;cases e
  |some p=>
   obtain⟨off,size⟩:=p;simp only[e1] at e;cases e2:(Nat.beq v.cells.length size&&Nat.ble (off+v.cells.length) cs.length) with
   |false=>simp only[e2] at e;cases e
   |true=>
    simp only[e2] at e;obtain⟨a,b⟩:=and_true.1 e2;have a:=eg.1 a;have b:=aL.1 b;have hc:=hv.cells;have l1:=hc.length;have l2:=k.length;simp only[Array.length_toList] at l1 l2;have Ga:ay ρ (E4 cs v.cells off) (v'.cells.zipIdx.foldl (fun(cs:Array Value) (x:Value×Nat)=>cs.setIfInBounds (off+x.2) x.1) ds).toList:=by rw[←Array.foldl_toList,Array.toList_zipIdx,Sd off _ 0 ds];exact Q2 hc k
    obtain⟨es,g1,g2⟩:=HW hr Ga e;refine⟨es,?_,g2⟩;simp only[Instr.fill,e1];rw[if_neg vJ];exact g1
theorem Ri{P:Program}:∀{fs:List Field} {pl:List<|Nat×Nat},AH P fs=some pl->fs.mapM (fun f=>(P.info? f.type).map fun i=>(f.offset,i.size))=some pl
 |[],pl,h=>by simp only[AH] at h;injection h with h;subst h;rfl
 |f::fs,pl,h=>by
  simp only[AH,eD] at h;cases e:P.info? f.type with
  |none=>simp only[e] at h;cases h
  |some i=>
   simp only[e] at h;cases e2:AH P fs with
   |none=>simp only[e2] at h;cases h
   |some r=>
    simp only[e2] at h;injection h with h;subst h
    simp[List.mapM_cons,e,Ri e2]
theorem Zk{P:Program}(ρ:aw){t:TypeId}{z:AV}(h:qi P t=some z):∃i v,P.info? t=some i/\i.zero=some v/\VR ρ z v:=by
 unfold qi at h;cases e:P.info? t with
 |none=>rw[e] at h;cases h
 |some i=>
  simp only[e] at h;cases e2:i.zero with
  |none=>simp only[e2] at h;cases h
  |some v=>simp only[e2] at h;exact⟨i,v,rfl,e2,Lx ρ h⟩
section
variable {P:Program} {B:aJ} {ρ:aw} {w:World} {s s1:AS} {x:AV} {Ye:aI} {t:Tr AV} {ev:Operand->Value} {o:Oper}
theorem aad{qs:List<|Nat×Value}(hp:vN ρ ps qs)(h:build P ty ps=some x):∃cells,P.built ty qs=some cells/\VR ρ x (.agg cells):=by
 unfold build at h;cases ez:qi P ty with
 |none=>simp only[ez] at h;cases h
 |some z=>
  obtain⟨i,v,h1,h2,h3⟩:=Zk ρ ez;simp only[ez] at h;cases eu:P.underlying ty with
  |none=>simp only[eu] at h;cases h
  |some d=>
   cases d<;>simp only[eu] at h<;>first|(cases h;done)|skip
   case array n e=>
    cases ek:eD P e with
    |none=>simp only[ek] at h;cases h
    |some k=>
     simp only[ek] at h;cases ef:wU (fun i=>some (i*k,k)) z.cells ps with
     |none=>simp only[ef] at h;cases h
     |some l=>
      simp only[ef] at h;injection h with h;subst h
      obtain⟨es,g1,g2⟩:=HW hp h3.cells ef;unfold eD at ek;cases ei:P.info? e with
      |none=>rw[ei] at ek;cases ek
      |some ie=>
       simp only[ei] at ek;injection ek with ek;subst ek
       refine⟨es,?_,by simp only[VR];exact⟨_,rfl,g2⟩⟩;simp only[Program.built,h1,eu,h2,ei];exact g1
   case struct fs=>
    cases ek:AH P fs.toList with
    |none=>simp only[ek] at h;cases h
    |some pl=>
     simp only[ek] at h;cases ef:wU (fun i=>pl[i]?) z.cells ps with
     |none=>simp only[ef] at h;cases h
     |some l=>
      simp only[ef] at h;injection h with h;subst h
      obtain⟨es,g1,g2⟩:=HW hp h3.cells ef;refine⟨es,?_,by simp only[VR];exact⟨_,rfl,g2⟩⟩;simp only[Program.built,h1,eu,h2,Ri ek];simpa using g1
theorem Zl(he:∀x v,aG t x=some v->VR ρ v (ev x))(r:Rel B ρ s.h w)(h:A0 P ty parts.toList Ye t s= .ok x s1)(ho:o.op= .build ty parts):ga P B ρ s s1 w x<|execOp ev o:=by
 unfold A0 at h;obtain⟨ps,h1,h2⟩:=bt h;obtain⟨h3,rfl⟩:=hI h2;have hp:=L8 he h1;obtain⟨cells,g1,g2⟩:=aad (P:=P) hp h3;refine⟨ρ,w,.value<|.agg cells,Ext.refl _ _ _,?_,g2,r,cH.refl _ _⟩;have xW:P.built ty (parts.map fun(i,x)=>(i,ev x)).toList=some cells:=by rw[Array.toList_map];exact g1
 simp only[execOp,ho,Sem.run_bind,run_build w ty _ cells xW,Result.andThen_ok];rfl
theorem Q3{z:List AV}{vs:List Value}(h:ay ρ z vs):∀n,ay ρ (E5 n z) (List.replicate n vs).flatten
 |0=>by simp[E5,ay]
 |n+1=>by simp only[E5,List.replicate_succ,List.flatten_cons];exact h.append<|Q3 h n
theorem RC{vs:List Value}:∀(n i:Nat),i<n*vs.length->(List.replicate n vs).flatten[i]? =vs[i % vs.length]?
 |0,i,h=>by omega
 |n+1,i,h=>by
  rw[List.replicate_succ,List.flatten_cons];by_cases q:i<vs.length
  ·rw[List.getElem?_append_left q,Nat.mod_eq_of_lt q]
  ·have hs:(n+1)*vs.length=n*vs.length+vs.length:=by rw[Nat.succ_mul]
   rw[List.getElem?_append_right aj,RC n _ aj];rw[←Nat.mod_eq_sub_mod aj]
theorem Zm{zs:Array Value}{n:Nat}:(Array.range<|n*zs.size).map (fun i=>zs[i % zs.size]!)=(List.replicate n zs.toList).flatten.toArray:=by
 apply Array.ext_getElem?;intro i;have hlen:(List.replicate n zs.toList).flatten.length=n*zs.size:=by simp
 by_cases q:i<n*zs.size
 ·have hz:0<zs.size:=by
   rcases Nat.eq_zero_or_pos zs.size with h0|h0
   ·rw[h0] at q;omega
   ·exact h0
  have hm:i % zs.size<zs.size:=Nat.mod_lt _ hz;have hr:(List.replicate n zs.toList).flatten.toArray[i]? =zs.toList[i % zs.toList.length]? :=by rw[List.getElem?_toArray];exact RC n i (by rw[Array.length_toList];exact q)
  rw[hr];simp[q,getElem!_pos zs (i % zs.size) hm,Array.getElem?_eq_getElem hm]
 ·have hr:(List.replicate n zs.toList).flatten.toArray[i]? =none:=by rw[List.getElem?_toArray];exact List.getElem?_eq_none (by rw[hlen];omega)
  rw[hr,Array.getElem?_eq_none vJ]
theorem Yi{len:Nat}{qs:Array<|Nat×Value}(hp:vN ρ ps qs.toList)(r:Rel B ρ s.h w)(hf:dE s.nx s1.nx ρ)(h:buildSlice P ty len ps s= .ok x s1):
 jU P B ρ s s1 w x (Instr.buildSlice ty len qs):=by
 unfold buildSlice at h;cases eu:P.underlying ty with
 |none=>simp only[eu] at h;cases h
 |some d=>
  cases d<;>simp only[eu] at h<;>first|(cases h;done)|skip
  rename_i e;simp only[bind_eq,acI] at h;obtain⟨k,s2,h1,h2⟩:=M.aP h;obtain⟨xX,rfl⟩:=hI h1;obtain⟨z,s3,h3,h4⟩:=M.aP h2;obtain⟨PN,rfl⟩:=hI h3;obtain⟨u,s4,h5,h6⟩:=M.aP h4;have PO:(Nat.ble (len*k) 1048576&&Nat.beq z.cells.length k)=true/\s4=s3:=by
   cases hb:(Nat.ble (len*k) 1048576&&Nat.beq z.cells.length k) with
   |false=>rw[hb] at h5;cases h5
   |true=>rw[hb] at h5;cases h5;exact⟨rfl,rfl⟩
  obtain⟨PO,rfl⟩:=PO;obtain⟨l,s5,h7,h8⟩:=M.aP h6;obtain⟨BZ,rfl⟩:=hI h7;obtain⟨n,s6,h9,gE⟩:=M.aP h8;obtain⟨rfl,rfl⟩:=bD gE;obtain⟨a,b⟩:=and_true.1 PO;have a:=aL.1 a;have b:=eg.1 b;obtain⟨vz,g1,g2⟩:=Hs (P:=P) (w:=w) ρ PN;have hlen:=g2.cells.length;simp only[Array.length_toList] at hlen;have yQ:(Array.range<|len*k).map (fun i=>(if len*k=0 then(#[]:Array Value) else vz.cells)[i % (if len*k=0 then(#[]:Array Value) else vz.cells).size]!)=(List.replicate len vz.cells.toList).flatten.toArray:=by
   by_cases q:len*k=0
   ·rw[q];have:(List.replicate len vz.cells.toList).flatten=[]:=by
     apply List.length_eq_zero_iff.1;have e1:(List.replicate len vz.cells.toList).flatten.length=len*vz.cells.size:=by simp
     rw[e1, ←hlen,b];exact q
    simp[this]
   ·simp only[if_neg q];have:k=vz.cells.size:=by omega
    subst this;exact Zm
  obtain⟨es,f1,f2⟩:=HW (ds:=(List.replicate len vz.cells.toList).flatten.toArray) hp (by simpa using Q3 g2.cells len) BZ;obtain⟨rfl,n1,σ,e1,e2,e3,e4⟩:=LG (P:=P) e [] r hf h9 f2;refine⟨σ,_,.slice (some ⟨w.heap.size,0,none⟩) len len,e1,?_,?_,e4,(gT.alloc w _).below r.size⟩
  ·have hes:(es.toList++[]).toArray=es:=by simp
   rw[hes] at e3 e4 ⊢;have PQ:¬(len*k>2 ^ 24):=by omega
   simp only[Instr.buildSlice,Sem.run_bind,dx eu,Result.andThen_ok,iP xX];rw[if_neg PQ];by_cases q:len*k=0
   ·rw[if_pos q];simp only[if_pos q] at yQ;simp only[Sem.run_bind,Sem.run_pure,Result.andThen_ok,yQ,f1,e3]
   ·rw[if_neg q];simp only[if_neg q] at yQ;simp only[Sem.run_bind,Sem.run_pure,Result.andThen_ok,g1,yQ,f1,e3]
  ·simp only[VR];exact⟨_,_,e2,rfl⟩
theorem Yf{len:Nat}(he:∀x v,aG t x=some v->VR ρ v (ev x))(r:Rel B ρ s.h w)(hf:dE s.nx s1.nx ρ)(h:Ai P ty len parts.toList Ye t s= .ok x s1)(ho:o.op= .buildSlice ty len parts):ga P B ρ s s1 w x<|execOp ev o:=by
 unfold Ai at h;obtain⟨ps,h1,h2⟩:=bt h;have hp:vN ρ ps (parts.map fun(i,x)=>(i,ev x)).toList:=by rw[Array.toList_map];exact L8 he h1
 have:=(Yi (P:=P) hp r hf h2).op;simpa only[execOp,ho] using this
end
end Go.Rn
namespace Go.Rn
open Go.RowKit
section
variable {P:Program} {B:aJ} {ρ:aw} {w:World} {s s1:AS} {x:AV} {Ye:aI} {t:Tr AV} {ev:Operand->Value} {o:Oper}
theorem EP{ty:TypeId}{cs:List AV}{ds:Array Value}{off:Nat}(hc:ay ρ cs ds.toList)(h:uU P ty cs off=some x):∃v,(part ty ds off).run P w= .ok v w/\VR ρ x v:=by
 unfold uU at h;cases ea:qw P ty with
 |none=>simp only[ea] at h;cases h
 |some b=>
  simp only[ea] at h;cases b with
  |true=>
   cases ek:eD P ty with
   |none=>simp only[ek] at h;cases h
   |some k=>
    simp only[ek] at h;injection h with h;subst h
    refine⟨.agg<|ds.extract off<|off+k,?_,?_⟩
    ·simp[part,Ah ea,iP ek]
    ·simp only[VR];refine⟨_,rfl,?_⟩;have:(ds.extract off<|off+k).toList=(ds.toList.drop off).take k:=by simp[List.extract]
     rw[this];exact(hc.drop off).take k
  |false=>
   obtain⟨v,hv,hr⟩:=hc.get off x h;refine⟨v,?_,hr⟩;have iL:ds[off]? =some v:=by simpa using hv
   simp[part,Ah ea,iL]
theorem bytes_beq(a b:ByteArray):(a == b)=(a.toList == b.toList):=beq_toListBytes a b
theorem Lq{d:Nat}{eq:TypeId->AV->AV->Option Bool}(he:∀ty a b c v u,eq ty a b=some c->VR ρ a v->VR ρ b u->(Op.equalIn d ty v u).run P w= .ok c w){xs ys:List AV}{cs ds:Array Value}(hx:ay ρ xs cs.toList)(hy:ay ρ ys ds.toList):∀{fs:List Field} {b:Bool},eqFields P eq xs ys fs=some b->(Op.eqFields d cs ds fs).run P w= .ok b w
 |[],b,h=>by simp only[eqFields] at h;injection h with h;subst h;rfl
 |f::fs,b,h=>by
  simp only[eqFields] at h;cases en:(f.name == "_") with
  |true=>
   simp only[en] at h;have:¬(f.name≠ "_"):=by simpa using en
   rw[Op.eqFields,if_neg this];exact Lq he hx hy h
  |false=>
   simp only[en] at h;have cn:f.name≠ "_" :=by intro e;rw[e] at en;simp at en
   rw[Op.eqFields,if_pos cn];cases e1:uU P f.type xs f.offset with
   |none=>simp only[e1] at h;cases h
   |some a=>
    cases e2:uU P f.type ys f.offset with
    |none=>simp only[e1,e2] at h;cases h
    |some c=>
     simp only[e1,e2] at h;obtain⟨v,g1,g2⟩:=EP (w:=w) hx e1;obtain⟨u,g3,g4⟩:=EP (w:=w) hy e2;cases e3:eq f.type a c with
     |none=>simp only[e3] at h;cases h
     |some q=>
      simp only[e3] at h;have g5:=he _ _ _ _ _ _ e3 g2 g4;cases q with
      |false=>injection h with h;subst h;simp[g1,g3,g5]
      |true=>simp only[] at h;simp[g1,g3,g5,Lq he hx hy h]
theorem It:∀{d:Nat} {ty:TypeId} {a b:AV} {c:Bool} {v u:Value},pF P d ty a b=some c->VR ρ a v->VR ρ b u->(Op.equalIn d ty v u).run P w= .ok c w
 |0,_,_,_,_,_,_,h,_,_=>by simp only[pF] at h;cases h
 |d+1,ty,a,b,c,v,u,h,ha,hb=>by
  simp only[pF] at h;split at h<;>first|(cases h;done)|skip
  ·rename_i p q eu;injection h with h;subst h;simp only[VR] at ha hb;subst ha;subst hb
   simp[Op.equalIn,dx eu]
  ·rename_i k0 k p k' q eu;simp only[VR] at ha hb;subst ha;subst hb;cases hk:decide (k=k') with
   |false=>rw[hk] at h;cases h
   |true=>rw[hk] at h;injection h with h;subst h;simp[Op.equalIn,dx eu,of_decide_eq_true hk]
  ·rename_i e q eu;injection h with h;subst h;simp only[VR] at ha;subst ha
   cases q with
   |none=>simp only[VR] at hb;subst hb;simp[Op.equalIn,dx eu]
   |some q=>obtain⟨n,i⟩:=q;simp only[VR] at hb;obtain⟨_,_,_,rfl⟩:=hb;simp[Op.equalIn,dx eu]
  ·rename_i e q eu;injection h with h;subst h;simp only[VR] at hb;subst hb
   obtain⟨n,i⟩:=q;simp only[VR] at ha;obtain⟨_,_,_,rfl⟩:=ha;simp[Op.equalIn,dx eu]
  ·rename_i fs xs ys eu;cases hs:P.stoodInHeld ty with
   |true=>rw[hs] at h;cases h
   |false=>
    rw[hs] at h;simp only[VR] at ha hb;obtain⟨cs,rfl,hx⟩:=ha;obtain⟨ds,rfl,hy⟩:=hb;have hf:P.fieldsOf ty=fs:=by simp[Program.fieldsOf,eu]
    rw[run_equalIn_struct w d ty cs ds (by rw[hf];exact eu) hs,hf];exact Lq (fun ty a b c v u e p q=>It e p q) hx hy h
  ·rename_i e l1 c1 q l2 c2 eu;injection h with h;subst h
   have:∃k l,v= .slice none k l:=by cases c1<;>simp only[VR] at ha;exact⟨_,_,ha.1⟩
   obtain⟨_,_,rfl⟩:=this;cases q with
   |none=>
    have:∃k l,u= .slice none k l:=by cases c2<;>simp only[VR] at hb;exact⟨_,_,hb.1⟩
    obtain⟨_,_,rfl⟩:=this;simp[Op.equalIn,dx eu]
   |some q=>
    obtain⟨n,i⟩:=q;have:∃p k l,u= .slice (some p) k l:=by
     cases c2<;>simp only[VR] at hb
     ·obtain⟨_,_,_,rfl⟩:=hb;exact⟨_,_,_,rfl⟩
     ·obtain⟨_,_,_,_,rfl,_⟩:=hb;exact⟨_,_,_,rfl⟩
     ·obtain⟨_,_,_,_,_,_,rfl⟩:=hb;exact⟨_,_,_,rfl⟩
    obtain⟨_,_,_,rfl⟩:=this;simp[Op.equalIn,dx eu]
  ·rename_i e q l1 c1 l2 c2 eu;injection h with h;subst h
   have:∃k l,u= .slice none k l:=by cases c2<;>simp only[VR] at hb;exact⟨_,_,hb.1⟩
   obtain⟨_,_,rfl⟩:=this;obtain⟨n,i⟩:=q;have:∃p k l,v= .slice (some p) k l:=by
    cases c1<;>simp only[VR] at ha
    ·obtain⟨_,_,_,rfl⟩:=ha;exact⟨_,_,_,rfl⟩
    ·obtain⟨_,_,_,_,rfl,_⟩:=ha;exact⟨_,_,_,rfl⟩
    ·obtain⟨_,_,_,_,_,_,rfl⟩:=ha;exact⟨_,_,_,rfl⟩
   obtain⟨_,_,_,rfl⟩:=this;simp[Op.equalIn,dx eu]
  ·rename_i e n o len l2 c2 eu;have:∃k l,u= .slice none k l:=by cases c2<;>simp only[VR] at hb;exact⟨_,_,hb.1⟩
   obtain⟨_,_,rfl⟩:=this;simp only[VR] at ha;have key:∃a k l,v= .slice a k l/\c=a.isNone:=by
    rcases ha with⟨_,rfl,a0,cc,rfl,hz⟩|⟨b,sh,cc,_,rfl,hc⟩
    ·refine⟨a0,_,_,rfl,?_⟩;unfold O9 at h;simp only at h;split at h
     ·rename_i q;injection h with h;subst h;rw[hz.2.1<|Nat.eq_of_beq_eq_true q];rfl
     ·split at h
      ·rename_i q;injection h with h;subst h
       cases a0 with
       |none=>exact absurd rfl<|hz.2.2<|Nat.eq_of_beq_eq_true q
       |some _=>rfl
      ·cases h
    ·refine⟨_,_,_,rfl,?_⟩;unfold O9 at h;split at h
     ·split at h
      ·rename_i q;have q:=Nat.eq_of_beq_eq_true q;exact absurd q (hc aj).2
      ·split at h
       ·injection h with h;subst h;rfl
       ·cases h
     ·injection h with h;subst h;rfl
   obtain⟨a,_,_,rfl,rfl⟩:=key;cases a<;>simp[Op.equalIn,dx eu]
theorem aae{op:BinOp}{k:IntKind}{a b:Int}(hs:yD op=false)(h:Dk op k a b=some x):∃v,(binOp op 0 (.int k a)<|.int k b).run P w= .ok v w/\VR ρ x v/\∀ty,binOp op ty (.int k a) (.int k b)=binOp op 0 (.int k a) (.int k b):=by
 cases op<;>simp only[Dk] at h<;>first
  |(cases h;done)
  |(simp[yD] at hs;done)
  |(injection h with h;subst h;exact⟨_,by simp[binOp,Op.intArith,Op.intBits,Op.intCmp];first|rfl|done,by simp[VR],fun _=>rfl⟩)
  |(cases hd:decide (b=0) with
   |true=>rw[hd] at h;cases h
   |false=>
    rw[hd] at h;injection h with h;subst h
    exact⟨_,by simp[binOp,Op.intDiv,of_decide_eq_false hd];first|rfl|done,by simp[VR],fun _=>rfl⟩)
end
end Go.Rn
namespace Go.Rn
open Go.RowKit
variable {ty:TypeId} {v u:Value} {a b:AV} {y:Operand} {c:cL}
section
variable {P:Program} {B:aJ} {ρ:aw} {w:World} {s s1:AS} {x:AV} {Ye:aI} {t:Tr AV} {ev:Operand->Value} {o:Oper}
theorem YV{op:BinOp}{k k':IntKind}{a b:Int}(hs:yD op=true)(h:No op k a b=some x):∃v,(binOp op ty (.int k a)<|.int k' b).run P w= .ok v w/\VR ρ x v:=by
 unfold No at h;cases hd:decide (b<0) with
 |true=>rw[hd] at h;cases h
 |false=>
  rw[hd] at h;have hn:=of_decide_eq_false hd;cases op<;>simp only[yD] at hs<;>first|(cases hs;done)|skip
  ·injection h with h;subst h;exact⟨_,by simp[binOp,Op.shift,hn];first|rfl|done,by simp[VR]⟩
  ·injection h with h;subst h;exact⟨_,by simp[binOp,Op.shift,hn];first|rfl|done,by simp[VR]⟩
theorem uy{n i len:Nat}(h:VR ρ (.slice (some (n,i)) len c) v):∃b N q k,ρ n=some (b,N)/\v= .slice (some ⟨b,q,none⟩) len k:=by
 cases c<;>simp only[VR] at h
 ·obtain⟨b,N,e,rfl⟩:=h;exact⟨b,N,_,_,e,rfl⟩
 ·obtain⟨b,N,_,e,rfl,_⟩:=h;exact⟨b,N,_,_,e,rfl⟩
 ·obtain⟨rfl,b,N,_,_,e,rfl⟩:=h;exact⟨b,N,_,_,e,rfl⟩
theorem md{len:Nat}(h:VR ρ (.slice none len c) v):len=0/\c= .known 0/\v= .slice none 0 0:=by cases c<;>simp only[VR] at h;obtain⟨rfl,rfl,rfl⟩:=h;exact⟨rfl,rfl,rfl⟩
theorem U1{d:Nat}{c:Bool}(h:pF P (d+1) ty a b=some c)(ha:VR ρ a v)(hb:VR ρ b u)(n1:∀k p k' q,a= .int k p->b= .int k' q->False):
 binOp .eql ty v u=(do pure (.bool<|←Op.equal ty v u))/\binOp .neq ty v u=(do pure (.bool<|!(←Op.equal ty v u))):=by
 simp only[pF] at h;split at h<;>first|(cases h;done)|skip
 ·simp only[VR] at ha hb;subst ha;subst hb;exact⟨rfl,rfl⟩
 ·exact(n1 _ _ _ _ rfl rfl).elim
 ·rename_i e q eu;simp only[VR] at ha;subst ha;cases q with
  |none=>simp only[VR] at hb;subst hb;exact⟨rfl,rfl⟩
  |some q=>obtain⟨n,i⟩:=q;simp only[VR] at hb;obtain⟨_,_,_,rfl⟩:=hb;exact⟨rfl,rfl⟩
 ·rename_i e q eu;simp only[VR] at hb;subst hb;obtain⟨n,i⟩:=q;simp only[VR] at ha;obtain⟨_,_,_,rfl⟩:=ha;exact⟨rfl,rfl⟩
 ·simp only[VR] at ha hb;obtain⟨_,rfl,_⟩:=ha;obtain⟨_,rfl,_⟩:=hb;exact⟨rfl,rfl⟩
 ·rename_i e l1 c1 q l2 c2 eu;obtain⟨_,_,rfl⟩:=md ha;cases q with
  |none=>obtain⟨_,_,rfl⟩:=md hb;exact⟨rfl,rfl⟩
  |some q=>obtain⟨n,i⟩:=q;obtain⟨_,_,_,_,_,rfl⟩:=uy hb;exact⟨rfl,rfl⟩
 ·rename_i e q l1 c1 l2 c2 eu;obtain⟨_,_,rfl⟩:=md hb;obtain⟨n,i⟩:=q;obtain⟨_,_,_,_,_,rfl⟩:=uy ha;exact⟨rfl,rfl⟩
 ·obtain⟨_,_,rfl⟩:=md hb;simp only[VR] at ha;rcases ha with⟨_,_,_,_,rfl,_⟩|⟨_,_,_,_,rfl,_⟩<;>exact⟨rfl,rfl⟩
theorem Zn{op:BinOp}(h:AY P op ty a b=some x)(ha:VR ρ a v)(hb:VR ρ b u):∃r,(binOp op ty v u).run P w= .ok r w/\VR ρ x r:=by
 unfold AY at h;split at h
 ·rename_i k p k' q;simp only[VR] at ha hb;subst ha;subst hb;cases hs:yD op with
  |true=>rw[hs] at h;exact YV hs h
  |false=>
   rw[hs] at h;cases hk:decide (k=k') with
   |false=>rw[hk] at h;cases h
   |true=>rw[hk] at h;have:=of_decide_eq_true hk;subst this;obtain⟨r,h1,h2,h3⟩:=aae (P:=P) (w:=w) (ρ:=ρ) hs h;exact⟨r,by rw[h3];exact h1,h2⟩
 ·rename_i n1;split at h<;>first|(cases h;done)|skip
  ·cases e:pF P Op.maxDepth ty a b with
   |none=>rw[e] at h;cases h
   |some c=>
    rw[e] at h;injection h with h;subst h
    have e':pF P (9999+1) ty a b=some c:=e;have:=(U1 (P:=P) e' ha hb n1).1;have h2:(Op.equal ty v u).run P w= .ok c w:=It e ha hb;exact⟨.bool c,by rw[this];simp[h2],by simp[VR]⟩
  ·cases e:pF P Op.maxDepth ty a b with
   |none=>rw[e] at h;cases h
   |some c=>
    rw[e] at h;injection h with h;subst h
    have e':pF P (9999+1) ty a b=some c:=e;have:=(U1 (P:=P) e' ha hb n1).2;have h2:(Op.equal ty v u).run P w= .ok c w:=It e ha hb;exact⟨.bool !c,by rw[this];simp[h2],by simp[VR]⟩
theorem Fx(ha:VR ρ a .nilIface):a= .nilIface:=by
 cases a<;>(try simp only[VR] at ha)<;>first|rfl|(cases ha;done)|skip
 ·rename_i q;cases q<;>simp only[VR] at ha<;>first|(cases ha;done)|(obtain⟨_,_,_,e⟩:=ha;cases e)
 ·rename_i q l c;cases q with
  |none=>obtain⟨_,_,e⟩:=md ha;cases e
  |some q=>obtain⟨n,i⟩:=q;obtain⟨_,_,_,_,_,e⟩:=uy ha;cases e
 ·rcases ha with⟨_,_,_,_,e,_⟩|⟨_,_,_,_,e,_⟩<;>cases e
 ·obtain⟨_,_,_,e⟩:=ha;cases e
 ·rename_i q;cases q<;>simp only[VR] at ha<;>first|(cases ha;done)|(obtain⟨_,_,_,e⟩:=ha;cases e)
 ·obtain⟨_,_,_,e,_⟩:=ha;cases e
 ·obtain⟨_,_,_,e⟩:=ha;cases e
 ·obtain⟨_,e,_⟩:=ha;cases e
 ·obtain⟨_,e,_⟩:=ha;cases e
 ·obtain⟨_,e,_⟩:=ha;cases e
theorem U2{cs:Array Value}(ha:VR ρ a<|.agg cs):∃l,a= .agg l:=by
 cases a<;>(try simp only[VR] at ha)<;>first|exact⟨_,rfl⟩|(cases ha;done)|skip
 ·rename_i q;cases q<;>simp only[VR] at ha<;>first|(cases ha;done)|(obtain⟨_,_,_,e⟩:=ha;cases e)
 ·rename_i q l c;cases q with
  |none=>obtain⟨_,_,e⟩:=md ha;cases e
  |some q=>obtain⟨n,i⟩:=q;obtain⟨_,_,_,_,_,e⟩:=uy ha;cases e
 ·rcases ha with⟨_,_,_,_,e,_⟩|⟨_,_,_,_,e,_⟩<;>cases e
 ·obtain⟨_,_,_,e⟩:=ha;cases e
 ·rename_i q;cases q<;>simp only[VR] at ha<;>first|(cases ha;done)|(obtain⟨_,_,_,e⟩:=ha;cases e)
 ·obtain⟨_,_,_,e,_⟩:=ha;cases e
 ·obtain⟨_,_,_,e⟩:=ha;cases e
 ·obtain⟨_,e,_⟩:=ha;cases e
 ·obtain⟨_,e,_⟩:=ha;cases e
theorem aaf{op:BinOp}{z:Operand}(h:Io P op ty y z a b=true)(ha:VR ρ a v)(hb:VR ρ b u):(eqGuard op ty y z v u).run P w= .ok () w:=by
 have key:(op= .eql\/op= .neq)->LZ P ty y z a b=true:=by rintro (rfl|rfl)<;>exact h
 by_cases eU:op= .eql\/op= .neq
 ·have hk:=key eU;by_cases h1:v= .nilIface/\u= .nilIface
  ·obtain⟨rfl,rfl⟩:=h1;have:=Fx ha;subst this;have:=Fx hb;subst this;have hc:(isConst y||isConst z)=true:=hk;rcases eU with rfl|rfl<;>(cases y<;>cases z<;>first|(simp[isConst] at hc;done)|rfl)
  ·by_cases h2:(∃cs,v= .agg cs)/\(∃ds,u= .agg ds)
   ·obtain⟨⟨cs,rfl⟩,⟨ds,rfl⟩⟩:=h2;obtain⟨l,rfl⟩:=U2 ha;obtain⟨m,rfl⟩:=U2 hb;have hq:P.eqGuardType P.depth ty=false:=by simpa[LZ] using hk
    exact run_eqGuard_agg w op ty y z cs ds hq
   ·rcases eU with rfl|rfl<;>(cases v<;>cases u<;>first|rfl|(exact absurd ⟨rfl,rfl⟩ h1)|(exact absurd ⟨⟨_,rfl⟩,⟨_,rfl⟩⟩ h2))
 ·cases op<;>first|rfl|(exact absurd (.inl rfl) eU)|(exact absurd (.inr rfl) eU)
theorem abk{op:BinOp}{yt:TypeId}{z:Operand}(he:∀x v,aG t x=some v->VR ρ v (ev x))(r:Rel B ρ s.h w)(h:tI P op ty y z Ye t s= .ok x s1)(ho:o.op= .binOp op ty y z yt):ga P B ρ s s1 w x<|execOp ev o:=by unfold tI at h;obtain⟨a,h1,h2⟩:=bt h;obtain⟨b,h3,h4⟩:=bt h2;obtain⟨h5,h6⟩:=cW h4;obtain⟨h7,rfl⟩:=hI h6;obtain⟨q,g1,g2⟩:=Zn (P:=P) (w:=w) h7 (he y a h1)<|he z b h3;have g3:=aaf (P:=P) (w:=w) h5 (he y a h1)<|he z b h3;refine⟨ρ,w,.value q,Ext.refl _ _ _,?_,g2,r,cH.refl _ _⟩;simp[execOp,ho,g3,g1]
theorem acJ{op:UnOp}(he:∀x v,aG t x=some v->VR ρ v (ev x))(r:Rel B ρ s.h w)(h:BT op y Ye t s= .ok x s1)(ho:o.op= .unOp op ty y):ga P B ρ s s1 w x<|execOp ev o:=by
 unfold BT at h;obtain⟨a,h1,h2⟩:=bt h;obtain⟨h3,rfl⟩:=hI h2;have ha:=he y a h1;have:∃q,(Op.unary op<|ev y).run P w= .ok q w/\VR ρ x q:=by
  unfold Vv at h3;split at h3<;>first|(cases h3;done)|skip
  ·rename_i c;simp only[VR] at ha;rw[ha];injection h3 with h3;subst h3
   exact⟨_,rfl,by simp[VR]⟩
 obtain⟨q,g1,g2⟩:=this;refine⟨ρ,w,.value q,Ext.refl _ _ _,?_,g2,r,cH.refl _ _⟩;simp[execOp,ho,g1]
end
end Go.Rn
namespace Go.Rn
open Go.RowKit
variable {y:Operand} {ty:TypeId} {n f i:Nat}
section
variable {P:Program} {B:aJ} {ρ:aw} {w:World} {s s1:AS} {x:AV} {Ye:aI} {t:Tr AV} {ev:Operand->Value} {o:Oper}
theorem Lj{size m len:Nat}{c:cL}(h:c≠ .lost):firstCells size n (.slice (some (m,i)) len c)=je m i (n*size):=by cases len<;>cases c<;>first|rfl|exact absurd rfl h
theorem YC{src dst:TypeId}(he:∀x v,aG t x=some v->VR ρ v (ev x))(fi:bx s)(r:Rel B ρ s.h w)(h:Av P src dst y Ye t s= .ok x s1)(ho:o.op= .convert src dst y):ga P B ρ s s1 w x<|execOp ev o:=by
 unfold Av at h;obtain⟨a,h1,h2⟩:=bt h;have ha:=he y a h1;have plain:lift (MK P src dst a) s= .ok x s1->ga P B ρ s s1 w x (execOp ev o):=by
  intro h2;obtain⟨h3,rfl⟩:=hI h2;have:∃q,(convert src dst<|ev y).run P w= .ok q w/\VR ρ x q:=by
   unfold MK at h3;split at h3<;>first|(cases h3;done)|skip
   ·rename_i d k n e1 e2 _;simp only[VR] at ha;rw[ha];injection h3 with h3;subst h3
    refine⟨.int d<|d.wrap n,?_,by simp[VR]⟩;simp[convert,dx e1,dx e2,Conv.intToInt]
  obtain⟨q,g1,g2⟩:=this;exact⟨ρ,w,.value q,Ext.refl _ _ _,by simp[execOp,ho,g1],g2,r,cH.refl _ _⟩
 cases a<;>first|exact plain h2|(have h':(R.bad:R AV)= .ok x s1:=h2;cases h')
theorem ajf(he:∀x v,aG t x=some v->VR ρ v (ev x))(r:Rel B ρ s.h w)(h:Cr P ty y Ye t s= .ok x s1)(ho:o.op= .makeInterface ty y):ga P B ρ s s1 w x<|execOp ev o:=by have h':(R.bad:R AV)= .ok x s1:=h;cases h'
theorem Yq{fn:Fn}{first captured:Array Operand}(he:∀x v,aG t x=some v->VR ρ v (ev x))(r:Rel B ρ s.h w)(h:An fn first.toList captured.toList Ye t s= .ok x s1)(ho:o.op= .makeFunc fn first captured):ga P B ρ s s1 w x<|execOp ev o:=by
 unfold An at h;obtain⟨h0,h1⟩:=cW h;obtain⟨f,h2,h3⟩:=bt h1;obtain⟨c,h4,h5⟩:=bt h3;obtain⟨rfl,rfl⟩:=bD h5;refine⟨ρ,w,.value<|.func fn (first.map ev)<|captured.map ev,Ext.refl _ _ _,?_,?_,r,cH.refl _ _⟩
 ·simp[execOp,ho,Instr.makeFunc]
 ·simp only[VR];refine⟨by cases fn<;>first|rfl|(simp[Wf] at h0),_,_,rfl,?_,?_⟩
  ·rw[Array.toList_map];exact Fc he h2
  ·rw[Array.toList_map];exact Fc he h4
theorem T7(r:Rel B ρ s.h w)(hf:dE s.nx s1.nx ρ)(h:fh (.map [] 0) s= .ok n s1):
 n=s.nx/\Ext s.nx s1.nx ρ (eN ρ n (w.heap.size,0))/\Rel B (eN ρ n (w.heap.size,0)) s1.h {w with heap:=w.heap.push<|.map #[] 0}:=by
 obtain⟨ht,rfl,rfl⟩:=uB h;have jh:ρ s.nx=none:=hf s.nx (Nat.le_refl _) (Nat.lt_succ_self _) aj;refine⟨rfl,Ext.mQ jh,r.new ht jh rfl ⟨#[],rfl,rfl,rfl⟩⟩
theorem YD{q:Option Operand}(he:∀x v,aG t x=some v->VR ρ v (ev x))(r:Rel B ρ s.h w)(hf:dE s.nx s1.nx ρ)(h:Aw P ty q Ye t s= .ok x s1)(ho:o.op= .makeMap ty q):ga P B ρ s s1 w x<|execOp ev o:=by
 unfold Aw at h;obtain⟨u,s2,h1,h2⟩:=M.aP h;obtain⟨n,s3,h3,h4⟩:=M.aP h2;obtain⟨rfl,rfl⟩:=bD h4;cases q with
 |none=>
  obtain⟨_,rfl⟩:=bD h1;obtain⟨rfl,e1,e2⟩:=T7 r hf h3;refine⟨_,_,.value<|.map<|some w.heap.size,e1,?_,?_,e2,(gT.alloc w _).below r.size⟩
  ·simp[execOp,ho,Instr.makeMap]
  ·simp only[VR];exact⟨_,_,iQ _ _ _,rfl⟩
 |some y=>
  obtain⟨v,g1,g2⟩:=bt h1;obtain⟨i,g3,g4⟩:=bt g2;obtain⟨k,_,hv⟩:=(he y v g1).CQ g3;have:JC P ty=true/\s2=s:=by
   cases hb:JC P ty with
   |false=>rw[hb] at g4;cases g4
   |true=>rw[hb] at g4;cases g4;exact⟨rfl,rfl⟩
  obtain⟨hm,rfl⟩:=this;obtain⟨rfl,e1,e2⟩:=T7 r hf h3;refine⟨_,_,.value<|.map<|some w.heap.size,e1,?_,?_,e2,(gT.alloc w _).below r.size⟩
  ·unfold JC at hm;split at hm
   ·rename_i a b e;simp[execOp,ho,Instr.makeMap,dx e,hv,asInt,asIntOf]
   ·cases hm
  ·simp only[VR];exact⟨_,_,iQ _ _ _,rfl⟩
theorem Aj{i:Int}{len:Nat}(h:within i len=some n):i=(n:Int)/\n<len:=by
 unfold within at h;cases i with
 |negSucc k=>cases h
 |ofNat k=>
  cases hb:Nat.blt k len with
  |false=>simp only[hb] at h;cases h
  |true=>
   simp only[hb] at h;injection h with h;subst h
   exact⟨rfl,by rw[←blt_eq];exact hb⟩
theorem Yr{a:AV}{v:Value}(ha:VR ρ a v)(h:fieldAddr P ty a f=some x):∃q,(Instr.fieldAt ty v f).run P w= .ok q w/\VR ρ x q:=by
 unfold fieldAddr at h;split at h<;>first|(cases h;done)|skip
 rename_i fs e;cases e1:fs[f]? with
 |none=>rw[e1] at h;cases h
 |some fd=>
  simp only[e1] at h;cases e2:eD P fd.type with
  |none=>rw[e2] at h;cases h
  |some k=>
   simp only[e2] at h;cases e3:Nat.beq k 0 with
   |true=>rw[e3] at h;cases h
   |false=>
    simp only[e3] at h;have hk:¬k=0:=by rw[←beq_eq,e3];simp
    split at h<;>first|(cases h;done)|skip
    ·rename_i n i;injection h with h;subst h
     simp only[VR] at ha;obtain⟨b,N,e4,rfl⟩:=ha;refine⟨.pointer<|some ⟨b,i+fd.offset,none⟩,?_,?_⟩
     ·simp[Instr.fieldAt,dx e,e1,Instr.sureAddr,fieldPlace,iP e2,hk,Addr.qT]
     ·simp only[VR];exact⟨b,N,e4,rfl⟩
    ·rename_i n i;injection h with h;subst h
     simp only[VR] at ha;obtain⟨b,sh,e4,rfl⟩:=ha;refine⟨.pointer<|some ⟨b,sh+i+fd.offset,none⟩,?_,?_⟩
     ·simp[Instr.fieldAt,dx e,e1,Instr.sureAddr,fieldPlace,iP e2,hk,Addr.qT]
     ·simp only[VR];exact⟨b,sh,e4,by rw[Nat.add_assoc]⟩
theorem Yj(he:∀x v,aG t x=some v->VR ρ v (ev x))(r:Rel B ρ s.h w)(h:Al P ty y f Ye t s= .ok x s1)(ho:o.op= .fieldAddr ty y f):ga P B ρ s s1 w x<|execOp ev o:=by unfold Al at h;obtain⟨a,h1,h2⟩:=bt h;obtain⟨h3,rfl⟩:=hI h2;obtain⟨q,g1,g2⟩:=Yr (P:=P) (w:=w) (he y a h1) h3;exact⟨ρ,w,.value q,Ext.refl _ _ _,by simp[execOp,ho,g1],g2,r,cH.refl _ _⟩
theorem Zo(he:∀x v,aG t x=some v->VR ρ v (ev x))(r:Rel B ρ s.h w)(h:A3 P ty y f Ye t s= .ok x s1)(ho:o.op= .field ty y f):ga P B ρ s s1 w x<|execOp ev o:=by
 unfold A3 at h;obtain⟨a,h1,h2⟩:=bt h;obtain⟨h3,rfl⟩:=hI h2;have ha:=he y a h1;unfold T2 at h3;split at h3<;>first|(cases h3;done)|skip
 rename_i fs cs e;cases e1:fs[f]? with
 |none=>rw[e1] at h3;cases h3
 |some fd=>simp only[e1] at h3;simp only[VR] at ha;obtain⟨ds,hv,hc⟩:=ha;obtain⟨q,g1,g2⟩:=EP (P:=P) (w:=w) hc h3;exact⟨ρ,w,.value q,Ext.refl _ _ _,by simp[execOp,ho,hv,Instr.field,dx e,e1,asAgg,g1],g2,r,cH.refl _ _⟩
theorem Yk{z:Operand}(he:∀x v,aG t x=some v->VR ρ v (ev x))(r:Rel B ρ s.h w)(h:pU P ty y z Ye t s= .ok x s1)(ho:o.op= .indexAddr ty y z):ga P B ρ s s1 w x<|execOp ev o:=by
 unfold pU at h;obtain⟨a,h1,h2⟩:=bt h;obtain⟨ix,h3,h4⟩:=bt h2;obtain⟨h5,rfl⟩:=hI h4;have ha:=he y a h1;unfold indexAddr at h5;cases ei:intOf ix with
 |none=>rw[ei] at h5;cases h5
 |some i=>
  simp only[ei] at h5;obtain⟨k,_,hi⟩:=(he z ix h3).CQ ei;have:∃q,(Instr.indexAt ty (ev y)<|ev z).run P w= .ok q w/\VR ρ x q:=by
   rw[hi];split at h5<;>first|(cases h5;done)|skip
   ·rename_i len e n off e1;split at h5<;>first|(cases h5;done)|skip
    rename_i j m e2 e3;injection h5 with h5;subst h5
    obtain⟨rfl,hj⟩:=Aj e2;simp only[VR] at ha;obtain⟨b,N,e4,hv⟩:=ha;rw[hv];refine⟨.pointer<|some ⟨b,off+j*m,none⟩,?_,by simp only[VR];exact⟨b,N,e4,rfl⟩⟩;have hr:(0:Int)<=(j:Int)/\(j:Int)<(len:Int):=⟨by omega,by omega⟩;simp[Instr.indexAt,asIntOf,dx e1,Instr.sureAddr,hr,iP e3,Addr.qT,hj]
   ·rename_i e n off len cap e1;split at h5<;>first|(cases h5;done)|skip
    rename_i j m e2 e3;injection h5 with h5;subst h5
    obtain⟨rfl,hj⟩:=Aj e2;have hr:(0:Int)<=(j:Int)/\(j:Int)<(len:Int):=⟨by omega,by omega⟩;have fin:∀b N c,ρ n=some (b,N)->ev y= .slice (some ⟨b,off,none⟩) len c->∃q,(Instr.indexAt ty (ev y)<|.int k j).run P w= .ok q w/\VR ρ (.ptr<|some (n,off+j*m)) q:=by intro b N c e4 hv;rw[hv];refine⟨.pointer<|some ⟨b,off+j*m,none⟩,?_,by simp only[VR];exact⟨b,N,e4,rfl⟩⟩;simp[Instr.indexAt,asIntOf,dx e1,hr,iP e3,Addr.qT,hj]
    cases cap with
    |known c=>simp only[VR] at ha;obtain⟨b,N,e4,hv⟩:=ha;exact fin b N c e4 hv
    |ak lo e5=>simp only[VR] at ha;obtain⟨b,N,c,e4,hv,_⟩:=ha;exact fin b N c e4 hv
    |lost=>simp only[VR] at ha;omega
   ·rename_i e n off len e1;split at h5<;>first|(cases h5;done)|skip
    rename_i j m e2 e3;injection h5 with h5;subst h5
    obtain⟨rfl,hj⟩:=Aj e2;have hr:(0:Int)<=(j:Int)/\(j:Int)<(len:Int):=⟨by omega,by omega⟩;simp only[VR] at ha;rcases ha with⟨_,h0,_⟩|⟨b,sh,c,e4,hv,_⟩
    ·omega
    rw[hv];refine⟨.pointer<|some ⟨b,sh+(off+j*m),none⟩,?_,by simp only[VR];exact⟨b,sh,e4,rfl⟩⟩;simp[Instr.indexAt,asIntOf,dx e1,hr,iP e3,Addr.qT,hj,Nat.add_assoc]
  obtain⟨q,g1,g2⟩:=this;exact⟨ρ,w,.value q,Ext.refl _ _ _,by simp[execOp,ho,g1],g2,r,cH.refl _ _⟩
theorem Zp{z:Operand}(he:∀x v,aG t x=some v->VR ρ v (ev x))(r:Rel B ρ s.h w)(h:A4 P ty y z Ye t s= .ok x s1)(ho:o.op= .index ty y z):ga P B ρ s s1 w x<|execOp ev o:=by
 unfold A4 at h;obtain⟨a,h1,h2⟩:=bt h;obtain⟨ix,h3,h4⟩:=bt h2;obtain⟨h5,rfl⟩:=hI h4;have ha:=he y a h1;unfold indexOf at h5;cases ei:intOf ix with
 |none=>rw[ei] at h5;cases h5
 |some i=>
  simp only[ei] at h5;obtain⟨k,_,hi⟩:=(he z ix h3).CQ ei;have:∃q,(Instr.index ty (ev y)<|ev z).run P w= .ok q w/\VR ρ x q:=by
   rw[hi];split at h5<;>first|(cases h5;done)|skip
   ·rename_i len e cs e1;split at h5<;>first|(cases h5;done)|skip
    rename_i j m e2 e3;obtain⟨rfl,hj⟩:=Aj e2;simp only[VR] at ha;obtain⟨ds,hv,hc⟩:=ha;rw[hv];obtain⟨q,g1,g2⟩:=EP (P:=P) (w:=w) hc h5;have hr:(0:Int)<=(j:Int)/\(j:Int)<(len:Int):=⟨by omega,by omega⟩;refine⟨q,?_,g2⟩;simp[Instr.index,asIntOf,dx e1,hr,iP e3,g1,hj]
  obtain⟨q,g1,g2⟩:=this;exact⟨ρ,w,.value q,Ext.refl _ _ _,by simp[execOp,ho,g1],g2,r,cH.refl _ _⟩
theorem YW{xt:TypeId}{ok:Bool}(he:∀x v,aG t x=some v->VR ρ v (ev x))(r:Rel B ρ s.h w)(h:CO P ty ok y Ye t s= .ok x s1)(ho:o.op= .typeAssert y xt ty ok):ga P B ρ s s1 w x<|execOp ev o:=by have h':(R.bad:R AV)= .ok x s1:=h;cases h'
theorem YE(he:∀x v,aG t x=some v->VR ρ v (ev x))(r:Rel B ρ s.h w)(h:Ax y i Ye t s= .ok x s1)(ho:o.op= .extract y i):ga P B ρ s s1 w x<|execOp ev o:=by
 unfold Ax at h;obtain⟨a,h1,h2⟩:=bt h;obtain⟨h3,rfl⟩:=hI h2;have ha:=he y a h1;unfold partOf at h3;split at h3<;>first|(cases h3;done)|skip
 rename_i l;simp only[VR] at ha;obtain⟨vs,hv,hl⟩:=ha;obtain⟨q,g1,g2⟩:=hl.get i x h3;have xW:vs[i]? =some q:=by simpa using g1
 exact⟨ρ,w,.value q,Ext.refl _ _ _,by simp[execOp,ho,hv,Instr.extract,xW],g2,r,cH.refl _ _⟩
end
end Go.Rn
