import Derived.Test.YtfjgmdmfnjaoaaaGreatDoorRnGA
import Derived.Below
import Derived.Laws.CopyRow
import Derived.Laws.Cells
import Derived.Laws.Tables
import Derived.Laws.StructEq
import Derived.Laws.BytesString
set_option maxRecDepth 100000
set_option maxHeartbeats 8000000
set_option linter.unusedSimpArgs false
set_option linter.unusedVariables false
namespace Go.Rn
variable {α:Type} {s:AS} {i:Nat}
theorem sP{k m:Nat}{l:List Nat}:k∈below m l↔k∈l/\k<m:=by
 have h1:∀l:List Nat,k∈uP m l↔k∈l/\k<m:=by
  intro l;induction l with
  |nil=>simp[uP]
  |cons x l ih=>
   have e:uP m (x::l)=if m<=x then uP m l else x::uP m l:=by
    show @Bool.rec (fun _=>List Nat) (uP m l) (x::uP m l) (not<|Nat.ble m x)=_;by_cases h:m<=x
    ·have:Nat.ble m x=true:=by rw[Nat.ble_eq];exact h
     rw[this,if_pos h];rfl
    ·have:Nat.ble m x=false:=by
      cases q:Nat.ble m x with
      |false=>rfl
      |true=>rw[Nat.ble_eq] at q;exact absurd q h
     rw[this,if_neg h];rfl
   rw[e];by_cases h:m<=x
   ·rw[if_pos h,ih];constructor
    ·rintro ⟨a,b⟩;exact⟨List.mem_cons_of_mem _ a,b⟩
    ·rintro ⟨a,b⟩;rcases List.mem_cons.1 a with rfl|a
     ·omega
     ·exact⟨a,b⟩
   ·rw[if_neg h,List.mem_cons,ih,List.mem_cons];constructor
    ·rintro (rfl|⟨a,b⟩)
     ·exact⟨.inl rfl,by omega⟩
     ·exact⟨.inr a,b⟩
    ·rintro ⟨rfl|a,b⟩
     ·exact .inl rfl
     ·exact .inr ⟨a,b⟩
 have e:below m l=if m=0 then[] else uP m l:=by
  show @Bool.rec (fun _=>List Nat) (uP m l) [] (Nat.beq m 0)=_;rw[Nc];by_cases h:m=0
  ·rw[if_pos h,if_pos (by rw[beq_eq];exact h)]
  ·rw[if_neg h,if_neg (by rw[beq_eq];exact h)]
 rw[e];by_cases h:m=0
 ·rw[if_pos h];subst h;simp
 ·rw[if_neg h,h1]
theorem SH{m:M α}{s2:AS}{x:α×dx}(h:alone i m s= .ok x s2):
 ∃a s1,m ⟨s.h,s.nx,s.nx,[],[]⟩= .ok a s1/\x=(a,⟨i,below s.nx s1.rd,below s.nx s1.wr,s.nx,s1.nx⟩)/\s2=⟨s1.h,s1.nx,s.mark,below s.mark s1.rd++s.rd,below s.mark s1.wr++s.wr⟩:=by
 obtain⟨hh,nx,mark,rd,wr⟩:=s;have e:alone i m ⟨hh,nx,mark,rd,wr⟩=forced nx fun lo=>
  @R.rec α (fun _=>R<|α×dx) .bad (fun a s1=>
   @AS.rec (fun _=>R<|α×dx) (fun h1 pR _ gj nU=>forced pR fun hi=>.ok (a,⟨i,below lo gj,below lo nU,lo,hi⟩) ⟨h1,hi,mark,below mark gj++rd,below mark nU++wr⟩) s1)
   (m ⟨hh,lo,lo,[],[]⟩):=rfl
 rw[e,yH] at h;cases hm:m ⟨hh,nx,nx,[],[]⟩ with
 |bad=>rw[hm] at h;cases h
 |ok a s1=>rw[hm] at h;obtain⟨h1,pR,O6,gj,nU⟩:=s1;have h':forced pR (fun hi=>R.ok (a,(⟨i,below nx gj,below nx nU,nx,hi⟩:dx)) (⟨h1,hi,mark,below mark gj++rd,below mark nU++wr⟩:AS))= .ok x s2:=h;rw[yH] at h';cases h';exact⟨a,⟨h1,pR,O6,gj,nU⟩,by first|exact hm|rfl,rfl,rfl⟩
theorem abT{m:M α}{s1:AS}{a:α}(h:m ⟨s.h,s.nx,s.nx,[],[]⟩= .ok a s1):
 alone i m s= .ok (a,⟨i,below s.nx s1.rd,below s.nx s1.wr,s.nx,s1.nx⟩) ⟨s1.h,s1.nx,s.mark,below s.mark s1.rd++s.rd,below s.mark s1.wr++s.wr⟩:=by
 obtain⟨hh,nx,mark,rd,wr⟩:=s;have e:alone i m ⟨hh,nx,mark,rd,wr⟩=forced nx fun lo=>
  @R.rec α (fun _=>R<|α×dx) .bad (fun a s1=>
   @AS.rec (fun _=>R<|α×dx) (fun h1 pR _ gj nU=>forced pR fun hi=>.ok (a,⟨i,below lo gj,below lo nU,lo,hi⟩) ⟨h1,hi,mark,below mark gj++rd,below mark nU++wr⟩) s1)
   (m ⟨hh,lo,lo,[],[]⟩):=rfl
 rw[e,yH,h];obtain⟨h1,pR,O6,gj,nU⟩:=s1;show forced pR (fun hi=>R.ok (a,(⟨i,below nx gj,below nx nU,nx,hi⟩:dx)) (⟨h1,hi,mark,below mark gj++rd,below mark nU++wr⟩:AS))=_;rw[yH]
theorem YN.alone{α:Type}(i:Nat){m:M α}(hm:YN m):YN<|alone i m:=by
 intro s v s2 fi h;obtain⟨a,s1,h1,rfl,rfl⟩:=SH h;obtain⟨dr,dw,d,x⟩:=hm ⟨s.h,s.nx,s.nx,[],[]⟩ a s1 ⟨Nat.le_refl _,fi.nx⟩ h1;have er:s1.rd=dr:=by have:=d.rd;simpa using this
 have ew:s1.wr=dw:=by have:=d.wr;simpa using this
 refine⟨below s.mark dr,below s.mark dw,⟨by show below s.mark s1.rd++s.rd=_;rw[er],by show below s.mark s1.wr++s.wr=_;rw[ew],d.nx,d.top,rfl,?_,?_,d.nV⟩,?_⟩
 ·intro k hk hn;exact d.same k (Nat.lt_of_lt_of_le hk fi.mark) fun e=>hn<|sP.2 ⟨e,hk⟩
 ·intro k hk;obtain⟨a,b⟩:=sP.1 hk;exact sP.2 ⟨d.sub k a,b⟩
 ·intro A m0 t ag hA;obtain⟨t1,e1,al⟩:=x A m0 ⟨t.h,t.nx,t.nx,[],[]⟩ ⟨ag.nx,ag.nx,Nat.le_trans ag.low fi.mark,ag.is⟩ fun k hk bB=>hA k (sP.2 ⟨hk,Nat.lt_of_lt_of_le bB ag.low⟩) bB;have er':t1.rd=dr:=by have:=al.rd;simpa using this
  have ew':t1.wr=dw:=by have:=al.wr;simpa using this
  have hr:=abT (i:=i) (s:=t) e1;rw[er',ew', ←ag.nx, ←ag.mark, ←al.pw.nx] at hr;rw[er,ew];refine⟨_,hr,⟨rfl,rfl,ag.low,al.pw.is⟩,rfl,rfl,fun k hk hn=>al.same k hk fun e=>hn<|sP.2 ⟨e,Nat.lt_of_lt_of_le hk ag.low⟩,al.nV⟩
theorem YN.gN(P:Program){YO:aK}(bI:∀t a,YN<|YO t a)(nt:Nat)(ops:Array Oper)(o:Oper)(t:Tr AV):YN<|gN P YO nt ops o t:=by
 have hv:∀t op,YN<|(dI P op).val YO t:=fun t op=>YN.Hc P bI t op;unfold Rn.gN Bv;split<;>simp only[qK.val]
 ·unfold sb;refine YN.bind (hv _ _) fun _=>YN.lift _
 ·unfold tJ;rename_i g _;refine YN.aH fun _=>?_;cases qg ops g t
  ·exact YN.lift _
  ·exact YN.bind (hv _ _) fun _=>YN.lift _
theorem YN.jj(P:Program){YO:aK}(bI:∀t a,YN<|YO t a)(nt:Nat)(ops:Array Oper):∀(l:List Oper) (t:Tr AV),YN (jj P YO nt ops l t)
 |[],t=>YN.pure t
 |o::l,t=>YN.bind (YN.gN P bI nt ops o t) fun t=>YN.jj P bI nt ops l t
theorem YN.mZ(P:Program){YO:aK}(bI:∀t a,YN<|YO t a)(nt:Nat)(ops:Array Oper):∀(l:List Oper) (i:Nat) (t:Tr AV),YN (mZ P YO nt ops l i t)
 |[],_,_=>YN.pure _
 |o::l,i,t=>YN.bind (YN.alone i<|YN.gN P bI nt ops o t) fun x=>YN.bind (YN.mZ P bI nt ops l (i+1) x.1) fun _=>YN.pure _
theorem YN.qd(P:Program){YO:aK}(bI:∀t a,YN<|YO t a)(nt:Nat)(ops:Array Oper)(t:Tr AV):YN<|qd P YO nt ops t:=YN.bind (YN.mZ P bI nt ops _ _ _) fun _=>YN.aH fun _=>YN.pure _
theorem YN.getLoop(l:Nat):YN<|getLoop l:=by
 unfold Rn.getLoop
 repeat' (first
  |exact YN.pure _|exact YN.fail|exact YN.lift _|exact YN.mM _|exact YN.bq _|exact YN.bN _ _|exact YN.fu _
  |refine YN.aC (fun _ _=>?_)|refine YN.aH (fun _=>?_)|refine YN.bind ?_ (fun _=>?_)
  |split)
theorem YN.lN(l:Nat):YN<|lN l:=by
 unfold Rn.lN
 repeat' (first
  |exact YN.pure _|exact YN.fail|exact YN.lift _|exact YN.mM _|exact YN.bq _|exact YN.bN _ _|exact YN.fu _|exact YN.getLoop _
  |refine YN.aC (fun _ _=>?_)|refine YN.aH (fun _=>?_)|refine YN.bind ?_ (fun _=>?_)
  |split)
theorem YN.agx(P:Program){YO:aK}(bI:∀t a,YN<|YO t a)(it:Item)(fn:FuncId)(t:Tr AV)(nt:Nat)(d:List Nat)(r:Option Nat)(k:List Item):YN<|(vt P it).val YO fn t nt d r k:=by
 cases it<;>simp only[vt]<;>(try simp only[qK.val])
 case code c=>
  unfold V8;split<;>simp only<;>(first|(unfold qC;exact YN.pure _)|(unfold nB;exact YN.pure _)|(unfold WQ;exact YN.pure _)|(unfold O5;exact YN.fail)|(unfold J3;exact YN.aC fun _ _=>YN.aC fun _ _=>YN.pure _)|(unfold DG;split<;>exact YN.pure _)|(unfold DH;split<;>exact YN.pure _)|(unfold IV;exact YN.bind (YN.jj P bI _ _ _ _) fun _=>YN.pure _)|(unfold Iz;exact YN.bind (YN.qd P bI _ _ _) fun _=>YN.pure _)|skip);unfold uV
  repeat' (first
   |exact YN.pure _|exact YN.fail|exact YN.lift _|exact YN.mM _|exact YN.bq _|exact YN.bN _ _|exact YN.fu _
   |exact YN.mY bI _ _|exact bI _ _|exact YN.getLoop _|exact YN.lN _
   |refine YN.aC (fun _ _=>?_)|refine YN.aH (fun _=>?_)|refine YN.bind ?_ (fun _=>?_)
   |split)
 case beginRound=>
  unfold yY
  repeat' (first
   |exact YN.pure _|exact YN.fail|exact YN.lift _|exact YN.mM _|exact YN.bq _|exact YN.bN _ _|exact YN.fu _|exact YN.getLoop _
   |refine YN.aC (fun _ _=>?_)|refine YN.aH (fun _=>?_)|refine YN.bind ?_ (fun _=>?_)
   |split)
 all_goals (first|exact YN.pure _|exact YN.fail)
theorem YN.jf(P:Program){YO:aK}(bI:∀t a,YN<|YO t a)(fr:AF):YN<|jf P YO fr:=by
 obtain⟨fn,t,nt,todo,d,r⟩:=fr;cases todo with
 |nil=>exact YN.pure _
 |cons it k=>exact YN.agx P bI it fn t nt d r k
theorem YN.nC(P:Program){YO:aK}(bI:∀t a,YN<|YO t a):∀(n:Nat) (fr:AF),YN (nC P YO n fr)
 |0,fr=>YN.jf P bI fr
 |n+1,fr=>YN.bind (YN.nC P bI n fr) (fun x=>by
  cases x with
  |go fr=>exact YN.nC P bI n fr
  |leave fr j=>exact YN.pure _)
theorem YN.oL(P:Program){YO:aK}(bI:∀t a,YN<|YO t a):∀(n k:Nat) (fr:AF),YN (oL P YO n k fr)
 |0,_,_=>YN.fail
 |n+1,k,fr=>YN.bind (YN.nC P bI k fr) (fun x=>by
  cases x with
  |go fr=>exact YN.oL P bI n (k+1) fr
  |leave fr j=>exact YN.pure _)
theorem YN.AH(P:Program)(t:Tr AV)(r:ResultVar):YN<|AH P t r:=by
 unfold Rn.AH
 repeat' (first
  |exact YN.pure _|exact YN.fail|exact YN.lift _|exact YN.mM _|exact YN.bq _|exact YN.bN _ _|exact YN.fu _|exact YN.loadVar _ _ _ _
  |refine YN.aC (fun _ _=>?_)|refine YN.aH (fun _=>?_)|refine YN.bind ?_ (fun _=>?_)
  |split)
theorem YN.qc(P:Program)(t:Tr AV):∀l:List ResultVar,YN (qc P t l)
 |[]=>YN.pure _
 |r::l=>YN.bind (YN.AH P t r) fun _=>YN.bind (YN.qc P t l) fun _=>YN.pure _
theorem YN.oq:∀l:List Nat,YN (oq l)
 |[]=>YN.pure _
 |d::l=>YN.bind (YN.bq d) (fun o=>by
  split
  ·exact YN.bind (YN.bN _ _) (fun _=>YN.oq l)
  ·exact YN.fail)
theorem YN.finish(P:Program)(rs:List ResultVar)(fr:AF)(j:Option Code):YN<|finish P rs fr j:=by
 unfold Rn.finish
 repeat' (first
  |exact YN.pure _|exact YN.fail|exact YN.lift _|exact YN.mM _|exact YN.bq _|exact YN.bN _ _|exact YN.fu _|exact YN.oq _|exact YN.qc _ _ _
  |refine YN.aC (fun _ _=>?_)|refine YN.aH (fun _=>?_)|refine YN.bind ?_ (fun _=>?_)
  |split)
theorem YN.DJ(P:Program)(f n:Nat)(rs:List ResultVar)(body:Code){YO:aK}(bI:∀t a,YN<|YO t a)(args:List AV):YN<|DJ P f n rs body YO args:=
 YN.aH (fun _=>YN.bind (YN.oL P bI _ _ _) (fun x=>by
  cases x with
  |go fr=>exact YN.fail
  |leave fr j=>exact YN.finish P rs fr j))
theorem YN.FA(l:List AV):YN<|FA l:=by
 unfold Rn.FA
 repeat' (first
  |exact YN.pure _|exact YN.fail|exact YN.lift _|exact YN.mM _|exact YN.bq _|exact YN.bN _ _|exact YN.fu _
  |refine YN.aC (fun _ _=>?_)|refine YN.aH (fun _=>?_)|refine YN.bind ?_ (fun _=>?_)
  |split)
theorem YN.CT(l:List AV):YN<|CT l:=by
 unfold Rn.CT
 repeat' (first
  |exact YN.pure _|exact YN.fail|exact YN.lift _|exact YN.mM _|exact YN.bq _|exact YN.bN _ _|exact YN.fu _|exact YN.firstCells _ _ _
  |refine YN.aC (fun _ _=>?_)|refine YN.aH (fun _=>?_)|refine YN.bind ?_ (fun _=>?_)
  |split)
theorem YN.endRound(l:Nat)(j:Option Code):YN<|endRound l j:=by
 unfold Rn.endRound
 repeat' (first
  |exact YN.pure _|exact YN.fail|exact YN.lift _|exact YN.mM _|exact YN.bq _|exact YN.bN _ _|exact YN.fu _|exact YN.getLoop _
  |refine YN.aC (fun _ _=>?_)|refine YN.aH (fun _=>?_)|refine YN.bind ?_ (fun _=>?_)
  |split)
theorem YN.AI(P:Program){YO:aK}(bI:∀t a,YN<|YO t a)(l:Nat)(args:List AV):YN<|AI P YO l args:=by
 unfold Rn.AI;refine YN.bind (YN.getLoop _) fun o=>?_;split
 ·exact YN.aH fun _=>YN.bind (YN.oL P bI _ _ _) (fun x=>by
   cases x with
   |go fr=>exact YN.fail
   |leave fr j=>exact YN.endRound l j)
 ·exact YN.fail
end Go.Rn
namespace Go.Rn
variable {β α:Type} {t s1 s t1 s2:AS} {m0 f:Nat} {dw dr nW sc:List Nat} {A:Nat->Prop} {P:Program}
def Jt(A:Nat->Prop)(m0:Nat)(s t:AS)(x y:β×AS):Prop:=x.1=y.1/\∃dr dw,mR s x.2 dr dw/\tW A m0 x.2 t y.2 dr dw
def kJ(A:Nat->Prop)(m0:Nat)(s t:AS):List (β×AS)->List (β×AS)->Prop
 |[],l=>l=[]
 |x::xs,l=>∃y ys,l=y::ys/\Jt A m0 s t x y/\kJ A m0 s t xs ys
theorem kJ.append:∀{a b c d:List<|β×AS},kJ A m0 s t a b->kJ A m0 s t c d->kJ A m0 s t (a++c) (b++d)
 |[],_,_,_,h,k=>by simp only[kJ] at h;subst h;simpa using k
 |x::xs,_,_,_,h,k=>by obtain⟨y,ys,rfl,f,r⟩:=h;exact⟨y,_,rfl,f,kJ.append r k⟩
def Gk(A:Nat->Prop)(m0:Nat)(s:AS)(l:List<|β×AS):Prop:=∀x∈l,∀dr dw,mR s x.2 dr dw->∀k∈dr,k<m0->A k
def uW(m:AS->Option (List<|β×AS)):Prop:=∀s outs,bD s->m s=some outs->outs≠[]/\(∀x∈outs,∃dr dw,mR s x.2 dr dw)/\∀A m0 t,Gj A m0 s t->Gk A m0 s outs->∃px,m t=some px/\kJ A m0 s t outs px
theorem mR.trans(d:mR s s1 dr dw)(d':mR s1 s2 sc nW):mR s s2 (sc++dr)<|nW++dw:=by
 refine⟨by rw[d'.rd,d.rd,List.append_assoc],by rw[d'.wr,d.wr,List.append_assoc],Nat.le_trans d.nx d'.nx,d'.top,d'.mark.trans d.mark,?_,?_,?_⟩
 ·intro k hk hn;have uo:k ∉ nW:=fun e=>hn<|List.mem_append.2<|.inl e;have o6:k ∉ dw:=fun e=>hn<|List.mem_append.2<|.inr e;exact(d'.same k (by rw[d.mark];exact hk) uo).trans<|d.same k hk o6
 ·intro k hk;rcases List.mem_append.1 hk with e|e
  ·exact List.mem_append.2<|.inl<|d'.sub k e
  ·exact List.mem_append.2<|.inr<|d.sub k e
 ·intro k hk ht;exact(d'.nV k hk ht).trans<|d.nV k (Nat.le_trans d'.nx hk) ht
theorem tW.trans{t2:AS}(hx:s1.nx<=s2.nx)(al:tW A m0 s1 t t1 dr dw)(qL:tW A m0 s2 t1 t2 sc nW):tW A m0 s2 t t2 (sc++dr)<|nW++dw:=by
 refine⟨qL.pw,by rw[qL.rd,al.rd,List.append_assoc],by rw[qL.wr,al.wr,List.append_assoc],?_,?_⟩
 ·intro k hk hn;have uo:k ∉ nW:=fun e=>hn<|List.mem_append.2<|.inl e;have o6:k ∉ dw:=fun e=>hn<|List.mem_append.2<|.inr e;exact(qL.same k hk uo).trans<|al.same k hk o6
 ·intro k hk ht;exact(qL.nV k hk ht).trans<|al.nV k (Nat.le_trans hx hk) ht
theorem Jt.IX{x y:β×AS}(d:mR s s1 dr dw)(al:tW A m0 s1 t t1 dr dw)(h:Jt A m0 s1 t1 x y):Jt A m0 s t x y:=by obtain⟨e,sc,nW,d',qL⟩:=h;exact⟨e,_,_,d.trans d',al.trans d'.nx qL⟩
theorem kJ.IX(d:mR s s1 dr dw)(al:tW A m0 s1 t t1 dr dw):
 ∀{a b:List<|β×AS},kJ A m0 s1 t1 a b->kJ A m0 s t a b
 |[],_,h=>h
 |x::xs,_,h=>by obtain⟨y,ys,rfl,f,r⟩:=h;exact⟨y,ys,rfl,f.IX d al,kJ.IX d al r⟩
def uX(m:M α)(F:α->AS->Option (List<|β×AS)):AS->Option (List<|β×AS):=fun s=>
 match m s with
 | .ok a s1=>F a s1
 | .bad=>none
theorem Il{m:M α}{F:α->AS->Option (List<|β×AS)}(hm:YN m)(hF:∀a,uW<|F a):
 uW (uX m F):=by
 intro s outs fi h;unfold uX at h ⊢;cases e:m s with
 |bad=>simp only[e] at h;cases h
 |ok a s1=>
  simp only[e] at h;obtain⟨dr,dw,d,x⟩:=hm s a s1 fi e;obtain⟨ne,g1,g2⟩:=hF a s1 outs (d.cO fi) h;refine⟨ne,fun y hy=>?_,fun A m0 t ag hA=>?_⟩
  ·obtain⟨sc,nW,d'⟩:=g1 y hy;exact⟨_,_,d.trans d'⟩
  ·cases outs with
   |nil=>exact absurd rfl ne
   |cons y ys=>obtain⟨yc,B5,d1⟩:=g1 y List.mem_cons_self;have hA1:∀k∈dr,k<m0->A k:=fun k hk bB=>hA y List.mem_cons_self _ _ (d.trans d1) k (List.mem_append.2<|.inr hk) bB;obtain⟨t1,e1,al⟩:=x A m0 t ag hA1;obtain⟨px,e2,fl⟩:=g2 A m0 t1 al.pw fun z hz sc nW d' k hk bB=>hA z hz _ _ (d.trans d') k (List.mem_append.2<|.inl hk) bB;exact⟨px,by simp only[e1];exact e2,fl.IX d al⟩
theorem abU(b:β):uW fun s=>some [(b,s)]:=by
 intro s outs fi h;injection h with h;subst h
 have dd:mR s s [] []:=⟨rfl,rfl,Nat.le_refl _,fi.nx,rfl,fun _ _ _=>rfl,fun _ h=>h,fun _ _ _=>rfl⟩;refine⟨by simp,fun x hx=>?_,fun A m0 t ag _=>⟨[(b,t)],rfl,(b,t),[],rfl,⟨rfl,[],[],dd,ag,rfl,rfl,fun _ _ _=>rfl,fun _ _ _=>rfl⟩,rfl⟩⟩;simp only[List.mem_singleton] at hx;subst hx;exact⟨[],[],dd⟩
theorem SI:uW fun _=>(none:Option<|List<|β×AS):=by intro s outs _ h;cases h
theorem Rw{α β:Type}{F:α->AS->Option (List<|β×AS)}:∀(l:List α),l≠[]->(∀a∈l,uW<|F a)->uW (fun s=>Rn.collect (fun a=>F a s) l)
 |[],h,_=>absurd rfl h
 |x::l,_,hF=>by
  intro s outs fi h;simp only[Rn.collect] at h;cases e:F x s with
  |none=>rw[e] at h;cases h
  |some a=>
   rw[e] at h;obtain⟨ne,g1,g2⟩:=hF x List.mem_cons_self s a fi e;cases l with
   |nil=>
    simp only[Rn.collect,List.append_nil] at h;injection h with h;subst h
    refine⟨ne,g1,fun A m0 t ag hA=>?_⟩;obtain⟨o',e',fl⟩:=g2 A m0 t ag hA;exact⟨o',by simp only[Rn.collect,e',List.append_nil],fl⟩
   |cons z l=>
    cases e2:Rn.collect (fun a=>F a s) (z::l) with
    |none=>rw[e2] at h;cases h
    |some b=>
     rw[e2] at h;injection h with h;subst h
     obtain⟨ne',yd,vZ⟩:=Rw (F:=F) (z::l) iH (fun a ha=>hF a<|List.mem_cons_of_mem _ ha) s b fi e2;refine⟨by simp[ne],fun y hy=>?_,fun A m0 t ag hA=>?_⟩
     ·rcases List.mem_append.1 hy with hy|hy
      ·exact g1 y hy
      ·exact yd y hy
     ·obtain⟨o1,e1',f1⟩:=g2 A m0 t ag fun y hy=>hA y<|List.mem_append.2<|.inl hy;obtain⟨o2,o7,f2⟩:=vZ A m0 t ag fun y hy=>hA y<|List.mem_append.2<|.inr hy;refine⟨o1++o2,?_,f1.append f2⟩;have aio:Rn.collect (fun a=>F a t) (z::l)=some o2:=o7;show Rn.collect (fun a=>F a t) (x::z::l)=_;rw[Rn.collect,e1'];simp only[aio]
theorem abV(x:α)(l:List α):rC (x::l)≠[]:=by simp[rC]
theorem YN.rj(fr:AF)(it:Operand):YN<|rj fr it:=by
 unfold Rn.rj
 repeat' (first
  |exact YN.pure _|exact YN.fail|exact YN.lift _|exact YN.bq _
  |refine YN.bind ?_ (fun _=>?_)
  |split)
theorem YN.qj(P:Program){YO:aK}(bI:∀t a,YN<|YO t a)(fr:AF)(n:Nat)(ob:ab)(o:Oper)(ops:Array Oper)(rest:List Oper)(k:List Item)(v:AV):
 YN (qj P YO fr n ob o ops rest k v):=by
 unfold Rn.qj
 repeat' (first
  |exact YN.pure _|exact YN.lift _|exact YN.bN _ _|exact YN.jj P bI _ _ _ _
  |refine YN.bind ?_ fun _=>?_)
theorem YN.qe(P:Program){YO:aK}(bI:∀t a,YN<|YO t a)(fr:AF)(n m:Nat)(es:List<|AV×AV)(ex:Bool)(o:Oper)(ops:Array Oper)(rest:List Oper)(k:List Item):
 YN (qe P YO fr n m es ex o ops rest k):=by
 unfold Rn.qe
 repeat' (first
  |exact YN.pure _|exact YN.lift _|exact YN.bN _ _|exact YN.jj P bI _ _ _ _
  |refine YN.bind ?_ fun _=>?_)
noncomputable section
def aip(P:Program)(YO:aK)(f:Nat)(x:bt):AS->Option (List<|(AF×Option Code)×AS):=
 match x with
 | .go fr=>ry P YO f fr
 | .leave fr j=>fun s=>some [((fr,j),s)]
def Wa(P:Program)(YO:aK)(f:Nat)(fr:AF)(n m:Nat)(es:List<|AV×AV)(exact:Bool)(o:Oper)(ops:Array Oper)(rest:List Oper)(k:List Item)(x:(AV×AV)×List (AV×AV)):AS->Option (List<|(AF×Option Code)×AS):=uX (qj P YO fr n (.iter m es exact x.2<|some x.1) o ops rest k<|.tuple [.bool true,x.1.1,x.1.2])<|ry P YO f
def O7(P:Program)(YO:aK)(f:Nat)(fr:AF)(o:Oper)(ops:Array Oper)(rest:List Oper)(k:List Item)(x:Nat×ab):AS->Option (List<|(AF×Option Code)×AS):=
 match x with
 |(n,.iter m es exact left _)=>match left with
  |[]=>uX (qe P YO fr n m es exact o ops rest k)<|ry P YO f
  |y::ys=>fun s=>collect (fun x=>Wa P YO f fr n m es exact o ops rest k x s)<|rC<|y::ys
 |_=>fun _=>none
end
theorem Zq{YO:aK}{fr:AF}(e:yJ fr=none):
 ry P YO (f+1) fr=uX (jf P YO fr) (aip P YO f):=by
 funext s;simp only[ry,e,uX];cases jf P YO fr s with
 |bad=>rfl
 |ok x s1=>cases x<;>rfl
theorem Zr{YO:aK}{fr:AF}{it:Operand}{o:Oper}{ops:Array Oper}{rest:List Oper}{k:List Item}(e:yJ fr=some (it,o,ops,rest,k)):
 ry P YO (f+1) fr=uX (rj fr it) (O7 P YO f fr o ops rest k):=by
 funext s;simp only[ry,e,uX];cases rj fr it s with
 |bad=>rfl
 |ok x s1=>
  obtain⟨n,ob⟩:=x;cases ob with
  |iter m es ex left cur=>
   cases left with
   |nil=>simp only[O7,uX];cases qe P YO fr n m es ex o ops rest k s1<;>rfl
   |cons y ys=>simp only[O7];congr 1;funext x;simp only[Wa,uX];cases qj P YO fr n (.iter m es ex x.2<|some x.1) o ops rest k (.tuple [.bool true,x.1.1,x.1.2]) s1<;>rfl
  |_=>rfl
theorem HX(P:Program){YO:aK}(bI:∀t a,YN<|YO t a):∀(f:Nat) (fr:AF),uW (ry P YO f fr)
 |0,fr=>SI
 |f+1,fr=>by
  cases e:yJ fr with
  |none=>
   rw[Zq e];refine Il (YN.jf P bI fr) fun x=>?_;cases x with
   |go fr=>exact HX P bI f fr
   |leave fr j=>exact abU (fr,j)
  |some q=>
   obtain⟨it,o,ops,rest,k⟩:=q;rw[Zr e];refine Il (YN.rj fr it) fun x=>?_;obtain⟨n,ob⟩:=x;cases ob with
   |iter m es ex left cur=>
    cases left with
    |nil=>exact Il (YN.qe P bI _ _ _ _ _ _ _ _ _) fun fr=>HX P bI f fr
    |cons y ys=>exact Rw _ (abV y ys) fun x _=>Il (YN.qj P bI _ _ _ _ _ _ _ _) fun fr=>HX P bI f fr
   |_=>exact SI
theorem YR(P:Program)(rs:List ResultVar){m:AS->Option (List<|(AF×Option Code)×AS)}(hm:uW m):
 uW (fun s=>match m s with|some l=>wO P rs l|none=>none):=by
 have key:∀(s:AS) (l:List<|(AF×Option Code)×AS) (outs:List<|AV×AS),bD s->(∀x∈l,∃dr dw,mR s x.2 dr dw)->wO P rs l=some outs->
  outs.length=l.length/\(∀x∈outs,∃dr dw,mR s x.2 dr dw)/\
  (∀A m0,Gk A m0 s outs->Gk A m0 s l)/\
  ∀A m0 t l',Gj A m0 s t->kJ A m0 s t l l'->Gk A m0 s outs->∃px,wO P rs l'=some px/\kJ A m0 s t outs px:=by
  intro s l;induction l with
  |nil=>
   intro outs fi _ h;simp only[wO] at h;injection h with h;subst h
   refine⟨rfl,fun x hx=>(by cases hx),fun A m0 _ x hx=>(by cases hx),fun A m0 t l' _ fl _=>?_⟩;simp only[kJ] at fl;subst fl;exact⟨[],rfl,rfl⟩
  |cons x l ih=>
   obtain⟨⟨fr,j⟩,sx⟩:=x;intro outs fi hd h;simp only[wO] at h;obtain⟨dr,dw,d⟩:=hd _ List.mem_cons_self;cases e:finish P rs fr j sx with
   |bad=>rw[e] at h;cases h
   |ok v s1=>
    rw[e] at h;cases e2:wO P rs l with
    |none=>simp only[e2] at h;cases h
    |some r=>
     simp only[e2] at h;injection h with h;subst h
     obtain⟨hl,i1,i2,i3⟩:=ih r fi (fun x hx=>hd x<|List.mem_cons_of_mem _ hx) e2;obtain⟨sc,nW,d',x'⟩:=YN.finish P rs fr j sx v s1 (d.cO fi) e;refine⟨by simp[hl],fun y hy=>?_,fun A m0 hN y hy=>?_,fun A m0 t l' ag fl hN=>?_⟩
     ·rcases List.mem_cons.1 hy with rfl|hy
      ·exact⟨_,_,d.trans d'⟩
      ·exact i1 y hy
     ·rcases List.mem_cons.1 hy with rfl|hy
      ·intro yc B5 d1 k hk bB;exact hN (v,s1) List.mem_cons_self _ _ (d1.trans d') k (List.mem_append.2<|.inr hk) bB
      ·exact i2 A m0 (fun z hz=>hN z<|List.mem_cons_of_mem _ hz) y hy
     ·obtain⟨y,ys,rfl,⟨ey,yc,B5,d1,B6⟩,nX⟩:=fl;obtain⟨⟨jV,j2⟩,ty⟩:=y;simp only at ey;cases ey;obtain⟨px,e3,fl3⟩:=i3 A m0 t ys ag nX fun z hz=>hN z<|List.mem_cons_of_mem _ hz;obtain⟨t1,e4,al4⟩:=x' A m0 ty B6.pw fun k hk bB=>hN (v,s1) List.mem_cons_self _ _ (d1.trans d') k (List.mem_append.2<|.inl hk) bB;refine⟨(v,t1)::px,?_,(v,t1),px,rfl,⟨rfl,_,_,d1.trans d',B6.trans d'.nx al4⟩,fl3⟩;simp only[wO];have Qi:finish P rs fr j ty= .ok v t1:=e4;rw[Qi,e3]
 intro s outs fi h;cases e:m s with
 |none=>simp only[e] at h;cases h
 |some l=>simp only[e] at h;obtain⟨ne,g1,g2⟩:=hm s l fi e;obtain⟨hl,i1,i2,i3⟩:=key s l outs fi g1 h;refine⟨fun h0=>ne (by rw[h0] at hl;exact List.length_eq_zero_iff.1 hl.symm),i1,fun A m0 t ag hN=>?_⟩;obtain⟨l',e',fl⟩:=g2 A m0 t ag<|i2 A m0 hN;obtain⟨px,e2,fl2⟩:=i3 A m0 t l' ag fl hN;exact⟨px,by simp only[e'];exact e2,fl2⟩
end Go.Rn
namespace Go.Rn
variable {s t:AS} {n k:Nat}
theorem R7:∀(l:List Nat) (s:AS) (u:Unit) (s1:AS),uQ l s= .ok u s1->∃dr,s1.rd=dr++s.rd/\s1.mark=s.mark/\∀k∈l,k<s.mark->k∈dr
 |[],s,u,s1,h=>by have h':M.pure () s= .ok u s1:=h;obtain⟨_,rfl⟩:=bK h';exact⟨[],rfl,rfl,fun k hk=>by cases hk⟩
 |n::l,s,u,s1,h=>by
  have h':(bq n).bind (fun _=>uQ l) s= .ok u s1:=h;obtain⟨o,s2,h1,h2⟩:=M.aR h';obtain⟨_,_,rfl⟩:=IW h1;obtain⟨dr,e1,e2,e3⟩:=R7 l _ _ _ h2;by_cases q:n<s.mark
  ·rw[if_pos q] at e1 e2 e3;refine⟨dr++[n],by rw[e1];simp,e2,fun k hk bB=>?_⟩;rcases List.mem_cons.1 hk with rfl|hk
   ·simp
   ·exact List.mem_append.2<|.inl<|e3 k hk bB
  ·rw[if_neg q] at e1 e2 e3;refine⟨dr,e1,e2,fun k hk bB=>?_⟩;rcases List.mem_cons.1 hk with rfl|hk
   ·exact absurd bB q
   ·exact e3 k hk bB
theorem YN.uQ:∀l:List Nat,YN (uQ l)
 |[]=>YN.pure _
 |n::l=>YN.bind (YN.bq n) fun _=>YN.uQ l
theorem YN.zl:∀l:List<|Nat×List (AV×AV),YN (zl l)
 |[]=>YN.pure _
 |(_,_)::l=>YN.bind (YN.A8 _) fun _=>YN.bind (YN.bN _ _) fun _=>YN.zl l
theorem YN.vu:∀k:Nat,YN (vu k)
 |0=>YN.pure _
 |k+1=>YN.bind (YN.fu _) fun _=>YN.bind (YN.bN _ _) fun _=>YN.vu k
theorem YN.D6(lo:Nat)(r:B4):YN<|D6 lo r:=by
 cases r with
 |none=>exact YN.pure _
 |nil=>exact YN.pure _
 |row n c len e=>exact YN.bind (YN.vu _) fun _=>YN.bind (YN.newRow c) fun _=>YN.aH fun _=>YN.pure _
theorem YN.Js(p:PE):YN<|Js p:=YN.bind (YN.uQ _) fun _=>YN.bind (YN.zl _) fun _=>YN.bind (YN.D6 _ _) fun _=>YN.bind (YN.vu _) fun _=>YN.pure _
theorem FB{n:Nat}:∀{l:List Nat},vK n l=true↔n∈l
 |[]=>by simp[vK]
 |x::l=>by
  simp only[vK];cases h:Nat.beq x n with
  |true=>rw[beq_eq] at h;subst h;simp
  |false=>
   have:¬x=n:=by rw[←beq_eq,h];simp
   simp only[FB (l:=l),List.mem_cons];constructor
   ·exact .inr
   ·rintro (e|e)
    ·exact absurd e.symm this
    ·exact e
theorem Zs{l:List Nat}:k∈NQ n l↔k=n\/k∈l:=by
 unfold NQ;cases h:vK n l with
 |true=>
  have:=FB.1 h;constructor
  ·exact .inr
  ·rintro (rfl|e)
   ·exact this
   ·exact e
 |false=>exact List.mem_cons
theorem RL{k:Nat}:∀{l:List Nat},k∈qh l↔k∈l
 |[]=>by simp[qh]
 |x::l=>by rw[qh,Zs,RL (l:=l),List.mem_cons]
def O8(ns:List Nat)(s t:AS):Prop:=∀n∈ns,s.h.get n=t.h.get n
theorem Uz(h:s.h.get n=t.h.get n):D5 s n=D5 t n:=by unfold D5;rw[h]
theorem Rx{s t:AS}:∀{ns:List Nat},O8 ns s t->entriesOf s ns=entriesOf t ns
 |[],_=>rfl
 |n::l,h=>by simp only[entriesOf,Uz<|h n List.mem_cons_self,Rx (ns:=l) fun m hm=>h m<|List.mem_cons_of_mem _ hm]
theorem Ro:∀{ns:List Nat} {es:List<|Nat×List (AV×AV)},entriesOf s ns=some es->es.map (·.1)=ns
 |[],es,h=>by simp only[entriesOf] at h;injection h with h;subst h;rfl
 |n::l,es,h=>by
  simp only[entriesOf] at h;cases e:D5 s n with
  |none=>rw[e] at h;cases h
  |some x=>
   simp only[e] at h;cases e2:entriesOf s l with
   |none=>simp only[e2] at h;cases h
   |some r=>
    simp only[e2] at h;injection h with h;subst h
    simp[Ro e2]
theorem TA{s t:AS}:∀{es:List<|Nat×List (AV×AV)},O8 (es.map (·.1)) s t->Gi s es=Gi t es
 |[],_=>rfl
 |(n,x)::l,h=>by simp only[Gi,Uz<|h n iH,TA (es:=l) fun m hm=>h m (by simp only[List.map_cons,List.mem_cons];exact .inr hm)]
theorem abW{lo:Nat}(hn:s.nx=t.nx)(h:∀k,lo<=k->k<s.nx->s.h.get k=t.h.get k)(v:AV):tK lo s v=tK lo t v:=by
 cases v with
 |slice a len cap=>
  cases a with
  |none=>
   cases cap with
   |known c=>cases len<;>cases c<;>rfl
   |aq lo e=>cases len<;>rfl
   |lost=>cases len<;>rfl
  |some a=>
   obtain⟨n,o⟩:=a;cases o with
   |succ o=>cases cap<;>rfl
   |zero=>
    cases cap with
    |known c=>rfl
    |lost=>rfl
    |aq c e=>
     by_cases q:lo<=n/\n<s.nx
     ·simp only[tK,h n q.1 q.2,hn]
     ·have q1:(Nat.ble lo n&&Nat.blt n s.nx)=false:=by
       cases hb:(Nat.ble lo n&&Nat.blt n s.nx) with
       |false=>rfl
       |true=>have:=Bool.and_eq_true_iff.1 hb;rw[Nat.ble_eq,blt_eq] at this;exact absurd this q
      have Wb:∀u:AS,(Nat.ble lo n&&Nat.blt n u.nx)=false->tK lo u (.slice (some (n,0)) len<|.aq c e)=none:=by
       intro u hu;simp only[tK,hu,Bool.false_and];split
       ·split<;>rfl
       ·rfl
      rw[Wb s q1,Wb t (by rw[←hn];exact q1)]
 |tuple vs=>cases vs<;>rfl
 |_=>rfl
theorem SJ{x:AV×AS}:∀{l:List<|AV×AS},x∈l->k∈x.2.rd->k∈Bw l
 |[],h,_=>by cases h
 |(_,_)::b,h,hk=>by
  rcases List.mem_cons.1 h with rfl|hx
  ·exact List.mem_append.2<|.inl hk
  ·exact List.mem_append.2<|.inr<|SJ hx hk
theorem YN.DI(P:Program){YO:aK}(bI:∀t a,YN<|YO t a)(f n:Nat)(rs:List ResultVar)(body:Code)(args:List AV):YN<|DI P YO f n rs body args:=by
 intro s v s2 fi h;unfold Rn.DI at h;cases e0:Nat.ble (max n args.length) top with
 |false=>simp only[e0] at h;cases h
 |true=>
  simp only[e0] at h;cases e1:Ni P YO f n rs body args ⟨s.h,s.nx,s.nx,[],[]⟩ with
  |none=>simp only[e1] at h;cases h
  |some outs=>
   simp only[e1] at h;cases e2:FZ s.nx outs with
   |none=>simp only[e2] at h;cases h
   |some p=>
    simp only[e2] at h;obtain⟨dr,dw,d,x⟩:=YN.Js p s v s2 fi h;refine⟨dr,dw,d,fun A m0 t ag hA=>?_⟩;have agy:∀k∈p.note,k<m0->A k:=by
     intro k hk bB;refine hA k ?_ bB;obtain⟨u,s3,h1,h2⟩:=M.aR (show((Rn.uQ p.note).bind fun _=>(Rn.zl p.es).bind fun _=>(Rn.D6 p.lo p.ret).bind fun v=>(Rn.vu p.skip).bind fun _=>M.pure<|Nh p.rest v) s= .ok v s2 from h);obtain⟨yc,q1,q2,q3⟩:=R7 _ _ _ _ h1;obtain⟨sc,nW,d',_⟩:=YN.uQ p.note s u s3 fi h1;obtain⟨EA,He,d2,_⟩:=YN.bind (YN.zl p.es) (fun _=>YN.bind (YN.D6 p.lo p.ret) fun v=>YN.bind (YN.vu p.skip) fun _=>YN.pure<|Nh p.rest v) s3 v s2 (d'.cO fi) h2;have:dr=EA++yc:=by have a:=d.rd;rw[d2.rd,q1, ←List.append_assoc] at a;exact(List.append_cancel_right a).symm
     rw[this];exact List.mem_append.2<|.inr<|q3 k hk<|Nat.lt_of_lt_of_le bB ag.low
    have hL:uW<|Ni P YO f n rs body args:=YR P rs<|HX P bI _ _;obtain⟨ne,g1,g2⟩:=hL ⟨s.h,s.nx,s.nx,[],[]⟩ outs ⟨Nat.le_refl _,fi.nx⟩ e1;cases outs with
    |nil=>exact absurd rfl ne
    |cons y l=>
     obtain⟨v1,s1⟩:=y;have o7:=e2;simp only[FZ] at o7;cases e3:entriesOf s1 (qh<|below s.nx s1.wr) with
     |none=>simp only[e3] at o7;cases o7
     |some es=>
      cases e4:tK s.nx s1 (Dh v1) with
      |none=>simp only[e3,e4] at o7;cases o7
      |some r=>
       simp only[e3,e4] at o7;cases e5:fits s.nx (qh<|below s.nx s1.wr) es r (Di v1) ((v1,s1)::l)&&Mv es with
       |false=>simp only[e5] at o7;cases o7
       |true=>
        simp only[e5] at o7;injection o7 with o7
        have hrd:∀x∈((v1,s1)::l),∀k∈x.2.rd,k∈Bw ((v1,s1)::l):=fun x hx k hk=>SJ hx hk;have hN:Gk A m0 ⟨s.h,s.nx,s.nx,[],[]⟩<|(v1,s1)::l:=by intro x hx sc nW d' k hk bB;refine agy k ?_ bB;rw[←o7];refine sP.2 ⟨hrd x hx k (by rw[d'.rd];simpa using hk),Nat.lt_of_lt_of_le bB<|Nat.le_trans ag.low fi.mark⟩
        obtain⟨px,e6,fl⟩:=g2 A m0 ⟨t.h,t.nx,t.nx,[],[]⟩ ⟨ag.nx,ag.nx,Nat.le_trans ag.low fi.mark,ag.is⟩ hN;have hp:FZ t.nx px=some p:=by
         rw[←ag.nx, ←o7];obtain⟨y',l',rfl,⟨ey,yc,B5,d1,B6⟩,fl'⟩:=fl;obtain⟨v2,t1⟩:=y';simp only at ey;subst ey;have ewr:t1.wr=s1.wr:=by have a:=B6.wr;have b:=d1.wr;simp only[List.append_nil] at a b;rw[a,b]
         have eA:∀m∈qh (below s.nx s1.wr),(A m\/m0<=m)/\m<s.nx:=by
          intro m hm;obtain⟨a,b⟩:=sP.1<|RL.1 hm;refine⟨?_,b⟩;by_cases q:m<m0
          ·refine .inl<|hN _ List.mem_cons_self yc B5 d1 m (d1.sub m ?_) q;have:=d1.wr;simp only[List.append_nil] at this;rw[←this];exact a
          ·exact .inr aj
         have one:∀(x y:AS) (dr dw:List Nat),mR ⟨s.h,s.nx,s.nx,[],[]⟩ x dr dw->tW A m0 x ⟨t.h,t.nx,t.nx,[],[]⟩ y dr dw->O8 (qh<|below s.nx s1.wr) x y:=by intro x y dr dw d' al m hm;obtain⟨a,b⟩:=eA m hm;exact al.pw.is m (Nat.lt_of_lt_of_le b d'.nx) a
         have ret:∀(x y:AS) (dr dw:List Nat) (v:AV),mR ⟨s.h,s.nx,s.nx,[],[]⟩ x dr dw->tW A m0 x ⟨t.h,t.nx,t.nx,[],[]⟩ y dr dw->tK s.nx x v=tK s.nx y v:=by intro x y dr dw v d' al;exact abW al.pw.nx (fun k hk bB=>al.pw.is k bB<|.inr<|Nat.le_trans (Nat.le_trans ag.low fi.mark) hk) v
         have e3':entriesOf t1 (qh<|below s.nx s1.wr)=some es:=by rw[←Rx (one s1 t1 yc B5 d1 B6)];exact e3
         have Qi:tK s.nx t1 (Dh v1)=some r:=by rw[←ret s1 t1 yc B5 (Dh v1) d1 B6];exact e4
         have agz:∀(a b:List<|AV×AS),kJ A m0 ⟨s.h,s.nx,s.nx,[],[]⟩ ⟨t.h,t.nx,t.nx,[],[]⟩ a b->fits s.nx (qh<|below s.nx s1.wr) es r (Di v1) a=fits s.nx (qh<|below s.nx s1.wr) es r (Di v1) b:=by
          intro a;induction a with
          |nil=>intro b hb;simp only[kJ] at hb;subst hb;rfl
          |cons x xs ih=>
           intro b hb;obtain⟨y,ys,rfl,⟨KW,EA,He,d2,B7⟩,r2⟩:=hb;obtain⟨x1,x2⟩:=x;obtain⟨y1,y2⟩:=y;simp only at KW;subst KW;have w2:y2.wr=x2.wr:=by have a:=B7.wr;have b:=d2.wr;simp only[List.append_nil] at a b;rw[a,b]
           have n2:=Ro e3;simp only[fits,w2,TA (es:=es) (s:=x2) (t:=y2) (by rw[n2];exact one x2 y2 EA He d2 B7),ret x2 y2 EA He (Dh x1) d2 B7,ih ys r2]
         have aiq:∀(a b:List<|AV×AS),kJ A m0 ⟨s.h,s.nx,s.nx,[],[]⟩ ⟨t.h,t.nx,t.nx,[],[]⟩ a b->Bw a=Bw b:=by
          intro a;induction a with
          |nil=>intro b hb;simp only[kJ] at hb;subst hb;rfl
          |cons x xs ih=>
           intro b hb;obtain⟨y,ys,rfl,⟨KW,EA,He,d2,B7⟩,r2⟩:=hb;obtain⟨x1,x2⟩:=x;obtain⟨y1,y2⟩:=y;have w2:y2.rd=x2.rd:=by have a:=B7.rd;have b:=d2.rd;simp only[List.append_nil] at a b;rw[a,b]
           simp only[Bw,ih ys r2];rw[w2]
         have air:∀(a b:List<|AV×AS),kJ A m0 ⟨s.h,s.nx,s.nx,[],[]⟩ ⟨t.h,t.nx,t.nx,[],[]⟩ a b->GC a=GC b:=by
          intro a;induction a with
          |nil=>intro b hb;simp only[kJ] at hb;subst hb;rfl
          |cons x xs ih=>intro b hb;obtain⟨y,ys,rfl,⟨KW,EA,He,d2,B7⟩,r2⟩:=hb;obtain⟨x1,x2⟩:=x;obtain⟨y1,y2⟩:=y;have w2:x2.nx=y2.nx:=B7.pw.nx;simp only[GC,ih ys r2,w2]
         have whole:kJ A m0 ⟨s.h,s.nx,s.nx,[],[]⟩ ⟨t.h,t.nx,t.nx,[],[]⟩ ((v1,s1)::l)<|(v1,t1)::l':=⟨(v1,t1),l',rfl,⟨rfl,yc,B5,d1,B6⟩,fl'⟩;simp only[FZ,ewr,e3',Qi];rw[←agz _ _ whole,e5, ←aiq _ _ whole, ←air _ _ whole]
        obtain⟨t1,e7,al⟩:=x A m0 t ag hA;refine⟨t1,?_,al⟩;unfold Rn.DI;simp only[e0,e6,hp];exact e7
theorem H7(P:Program)(iX:FuncId->Nat):∀(n:Nat) (t:Hb) (args:List AV),YN (vL P iX n t args)
 |0,_,_=>YN.fail
 |n+1,.fn f,args=>by
  have bI:∀t a,YN<|vL P iX n t a:=fun t a=>H7 P iX n t a;show YN<|(Ez P iX f).val (vL P iX n) args;unfold Ez;split
  ·exact YN.FA _
  ·exact YN.CT _
  ·split
   ·exact YN.fail
   ·split
    ·exact YN.fail
    ·split
     ·exact YN.fail
     ·split
      ·exact YN.DI P bI _ _ _ _ _
      ·exact YN.DJ P _ _ _ _ bI _
 |n+1,.round l,args=>YN.AI P (fun t a=>H7 P iX n t a) l args
 |_+1,.row _ _ _,_=>YN.fail
end Go.Rn
namespace Go.Rn
open Go.RowKit
variable {ρ σ:aw} {w w':World} {b n N c a:Nat} {B:aL} {h h':Tr ab} {o:ab} {o':Obj} {x:Nat×Nat}
def eO(ρ:aw)(n:Nat)(x:Nat×Nat):aw:=fun k=>if k=n then some x else ρ k
theorem ox(h:ρ n=none):ρ.le<|eO ρ n x:=by
 intro k y e;unfold eO;by_cases q:k=n
 ·subst q;rw[h] at e;cases e
 ·rw[if_neg q];exact e
theorem iN(ρ:aw)(n:Nat)(x:Nat×Nat):eO ρ n x n=some x:=by simp[eO]
theorem gI(ρ:aw){k:Nat}(x:Nat×Nat)(h:k≠n):eO ρ n x k=ρ k:=by simp[eO,h]
structure xk (b:Nat) (w w':World):Prop where
 os:w'.os=w.os
 tape:w'.tape=w.tape
 output:w'.output=w.output
 size:w'.heap.size=w.heap.size
 block:∀k,k≠b->w'.heap[k]? =w.heap[k]?
structure cL (B:aL) (w w':World):Prop where
 os:w'.os=w.os
 tape:w'.tape=w.tape
 output:w'.output=w.output
 size:w.heap.size<=w'.heap.size
 block:∀k,k<w.heap.size->¬B.may k->w'.heap[k]? =w.heap[k]?
theorem cL.refl(B:aL)(w:World):cL B w w:=⟨rfl,rfl,rfl,Nat.le_refl _,fun _ _ _=>rfl⟩
theorem cL.trans{a b c:World}(h:cL B a b)(k:cL B b c):cL B a c:=⟨k.os.trans h.os,k.tape.trans h.tape,k.output.trans h.output,Nat.le_trans h.size k.size,fun i hi hm=>(k.block i (Nat.lt_of_lt_of_le hi h.size) hm).trans<|h.block i hi hm⟩
theorem xk.below(h:xk b w w')(hb:B.may b):cL B w w':=⟨h.os,h.tape,h.output,by rw[h.size];exact Nat.le_refl _,fun k _ hm=>h.block k fun e=>hm (by rw[e];exact hb)⟩
theorem Fz.of(f:Fz B ρ h w)(hl:ρ.le σ)(hw:∀b,b<w.heap.size->jU ρ h b->w'.heap[b]? =w.heap[b]?)(hd:∀b,b<w.heap.size->jU ρ h b->jU σ h' b)(hm:∀k,top<=k->σ k=ρ k:=by(intro k hk;first|rfl|exact gI _ _ aj)):Fz B σ h' w':=by intro n b sh e;rw[hm _<|fY _ _ _] at e;obtain⟨h0,l,c,e',fr,h1,h3,h4,h5⟩:=f n b sh e;have hb:b<w.heap.size:=(Array.getElem?_eq_some_iff.1 h3).1;exact⟨h0,l,c,e',fr,h1,(hw b hb h4).trans h3,hd b hb h4,fun i x hx=>by obtain⟨v,a1,a2,a3⟩:=h5 i x hx;exact⟨v,a1,VR.mono (Fu hl) _ _ a2,a3⟩⟩
theorem jU.sub(k:jU ρ h b)(hs:∀m o,m<top->h'.get m=some o->o.dm=false->∃p,h.get m=some p/\p.dm=false):jU ρ h' b:=by intro m o N hm hg hr;obtain⟨p,e1,e2⟩:=hs m o hm hg hr;exact k m p N hm e1 e2
def ab.plain:ab->Bool
 | .iter _ _ _ _ _=>false
 | .ku=>false
 | .tok _ _=>false
 |_=>true
def ab.pk:ab->Bool
 | .iter _ _ _ _ _=>false
 | .ku=>false
 |_=>true
def ab.kK:ab->Bool
 | .tok _ _=>true
 |_=>false
def gJ(o1 o2:ab):Prop:=(o2.dm=false->o1.dm=false)/\(o2.kK=true->o1=o2)/\(o2.mL=true->o1.mL=true)
theorem gJ.refl(o:ab):gJ o o:=⟨id,fun _=>rfl,id⟩
def ab.own:ab->Bool
 | .iter _ _ _ _ _=>false
 | .ku=>false
 | .tok _ _=>false
 | .ro _ _=>false
 | .tF _ _=>false
 |_=>true
theorem ab.uK(h:o.own=true):o.plain=true/\o.dm=false:=by cases o<;>first|exact⟨rfl,rfl⟩|cases h
theorem Rel.block(r:Rel B ρ h w)(ht:n<top)(hg:h.get n=some o)(hr:ρ n=some (b,N)):
 ∃o',w.heap[b]? =some o'/\OR ρ N o o'/\(o.dm=false->B.may b):=by
 obtain⟨b',N',o',h1,h2,h3,h4⟩:=r.is n o ht hg;rw[hr] at h1;cases h1;exact⟨o',h2,h3,h4⟩
theorem oH.mN{m:Nat}{es:List<|AV×AV}{ex:Bool}{left:List<|AV×AV}{cur:Option<|AV×AV}(u:oH ρ w n m es ex left cur)(hw:∀k,k≠b->w'.heap[k]? =w.heap[k]?)(hn:∀N,ρ n≠some (b,N))(hm:∀N,ρ m≠some (b,N)):oH ρ w' n m es ex left cur:=by obtain⟨b1,N,bm,M,l,ay,seen,h1,h2,h3,h4,h5⟩:=u;exact⟨b1,N,bm,M,l,ay,seen,h1,h2,(hw b1 fun e=>hn N<|by rw[h1,e]).trans h3,(hw bm fun e=>hm M<|by rw[h2,e]).trans h4,h5⟩
theorem Rel.put(r:Rel B ρ h w){p:ab}(ht:n<top)(hg:h.get n=some p)(hp:p.plain=true)(cz:p.dm=false)(hr:ρ n=some (b,N))(B8:o.own=true)(hw:xk b w w')(hb:w'.heap[b]? =some o')(hO:OR ρ N o o'):Rel B ρ (h.put n<|some o) w':=by
 obtain⟨ho,GF⟩:=ab.uK B8;obtain⟨_,_,_,hB⟩:=r.block ht hg hr;have g:∀m,m<top->(h.put n<|some o).get m=if m=n then some o else h.get m:=fun m hm=>Tr.du _ _ _ _ ht hm
 refine⟨?_,?_,?_,by rw[hw.size];exact r.size,?_,r.fz.of (aw.le_refl _) (fun b1 _ hn=>hw.block b1 fun e=>hn n p N ht hg cz (by rw[e];exact hr)) (fun b1 _ hn=>hn.sub fun m q hm hq gX=>by
  rw[g m hm] at hq;by_cases e:m=n
  ·subst e;exact⟨p,hg,cz⟩
  ·rw[if_neg e] at hq;exact⟨q,hq,gX⟩),r.tk.of (aw.le_refl _) (fun m q hm hq hr=>by
  rw[g m hm] at hq;by_cases e:m=n
  ·rw[if_pos e] at hq;cases hq;rw[GF] at hr;cases hr
  ·rw[if_neg e] at hq;exact hq) (by rw[hw.size];exact Nat.le_refl _) (fun b1 _ hn=>hw.block b1 fun e=>hn n p N ht hg cz (by rw[e];exact hr)) (fun b1 _ hn=>hn.sub fun m q hm hq gX=>by
  rw[g m hm] at hq;by_cases e:m=n
  ·subst e;exact⟨p,hg,cz⟩
  ·rw[if_neg e] at hq;exact⟨q,hq,gX⟩) fun _ _ _ _ _ e=>e⟩
 ·intro m q hm hq;rw[g m hm] at hq;by_cases e:m=n
  ·subst e;rw[if_pos rfl] at hq;cases hq;exact⟨b,N,o',hr,hb,hO,fun _=>hB cz⟩
  ·rw[if_neg e] at hq;obtain⟨b1,N1,o1,h1,h2,h3,h4⟩:=r.is m q hm hq;refine⟨b1,N1,o1,h1,(hw.block b1 fun e2=>?_).trans h2,h3,h4⟩;subst e2;exact e<|r.one m n q p b1 N1 N hm ht hq hg (.inr cz) h1 hr
 ·intro m k q q' b1 N1 M1 hm hk hq dU cV h1 h2;rw[g m hm] at hq;rw[g k hk] at dU;have live:∀j,j<top->∀x,(if j=n then some o else h.get j)=some x->∃y,h.get j=some y/\(x.dm=false->y.dm=false):=by
   intro j _ x hx;by_cases e:j=n
   ·subst e;exact⟨p,hg,fun _=>cz⟩
   ·rw[if_neg e] at hx;exact⟨x,hx,id⟩
  obtain⟨y,hy,v7⟩:=live m hm q hq;obtain⟨z,hz,Hf⟩:=live k hk q' dU;exact r.one m k y z b1 N1 M1 hm hk hy hz (cV.imp v7 Hf) h1 h2
 ·intro i m es ex left cur hi hq;rw[g i hi] at hq;by_cases e:i=n
  ·subst e;rw[if_pos rfl] at hq;cases hq;simp[ab.plain] at ho
  ·rw[if_neg e] at hq;obtain⟨hm,hl,u⟩:=r.iter i m es ex left cur hi hq;have sd:m≠n:=by intro e2;subst e2;rw[hg] at hl;cases hl;simp[ab.plain] at hp
   refine⟨hm,by rw[g m hm,if_neg sd];exact hl,u.mN hw.block (fun M e2=>e ?_) fun M e2=>sd ?_⟩
   ·exact r.one i n _ p b M N hi ht hq hg (.inr cz) e2 hr
   ·exact r.one m n _ p b M N hm ht hl hg (.inr cz) e2 hr
 ·intro i j m es ex left cur hI jr iR iU hi hj h1 h2;rw[g i hi] at h1;rw[g j hj] at h2;by_cases e:i=n
  ·rw[if_pos e] at h1;cases h1;simp[ab.plain] at ho
  ·rw[if_neg e] at h1;by_cases e2:j=n
   ·rw[if_pos e2] at h2;cases h2;simp[ab.plain] at ho
   ·rw[if_neg e2] at h2;exact r.lone i j m es ex left cur hI jr iR iU hi hj h1 h2
theorem Rel.drop(r:Rel B ρ h w)(ht:n<top)(hn:h.get n≠some .ku):Rel B ρ (h.put n none) w:=by
 have g:∀m,m<top->(h.put n none).get m=if m=n then none else h.get m:=fun m hm=>Tr.du _ _ _ _ ht hm
 refine⟨?_,?_,?_,r.size,?_,r.fz.of (aw.le_refl _) (fun _ _ _=>rfl) (fun b1 _ hn=>hn.sub fun m q hm hq gX=>by
  rw[g m hm] at hq;by_cases e:m=n
  ·rw[if_pos e] at hq;cases hq
  ·rw[if_neg e] at hq;exact⟨q,hq,gX⟩),r.tk.of (aw.le_refl _) (fun m q hm hq _=>by
  rw[g m hm] at hq;by_cases e:m=n
  ·rw[if_pos e] at hq;cases hq
  ·rw[if_neg e] at hq;exact hq) (Nat.le_refl _) (fun _ _ _=>rfl) (fun b1 _ hn=>hn.sub fun m q hm hq gX=>by
  rw[g m hm] at hq;by_cases e:m=n
  ·rw[if_pos e] at hq;cases hq
  ·rw[if_neg e] at hq;exact⟨q,hq,gX⟩) fun _ _ _ _ _ e=>e⟩
 ·intro m q hm hq;rw[g m hm] at hq;by_cases e:m=n
  ·rw[if_pos e] at hq;cases hq
  ·rw[if_neg e] at hq;exact r.is m q hm hq
 ·intro m k q q' b1 N1 M1 hm hk hq dU cV h1 h2;rw[g m hm] at hq;rw[g k hk] at dU;by_cases e:m=n
  ·rw[if_pos e] at hq;cases hq
  ·by_cases e2:k=n
   ·rw[if_pos e2] at dU;cases dU
   ·rw[if_neg e] at hq;rw[if_neg e2] at dU;exact r.one m k q q' b1 N1 M1 hm hk hq dU cV h1 h2
 ·intro i m es ex left cur hi hq;rw[g i hi] at hq;by_cases e:i=n
  ·rw[if_pos e] at hq;cases hq
  ·rw[if_neg e] at hq;obtain⟨hm,hl,u⟩:=r.iter i m es ex left cur hi hq;have sd:m≠n:=by intro e2;subst e2;exact hn hl
   exact⟨hm,by rw[g m hm,if_neg sd];exact hl,u⟩
 ·intro i j m es ex left cur hI jr iR iU hi hj h1 h2;rw[g i hi] at h1;rw[g j hj] at h2;by_cases e:i=n
  ·rw[if_pos e] at h1;cases h1
  ·rw[if_neg e] at h1;by_cases e2:j=n
   ·rw[if_pos e2] at h2;cases h2
   ·rw[if_neg e2] at h2;exact r.lone i j m es ex left cur hI jr iR iU hi hj h1 h2
structure gV (w w':World):Prop where
 os:w'.os=w.os
 tape:w'.tape=w.tape
 output:w'.output=w.output
 size:w.heap.size<=w'.heap.size
 block:∀k,k<w.heap.size->w'.heap[k]? =w.heap[k]?
theorem gV.drew(w:World):gV w {w with drawn:=w.drawn+1}:=⟨rfl,rfl,rfl,Nat.le_refl _,fun _ _=>rfl⟩
theorem gV.alloc(w:World)(o:Obj):gV w {w with heap:=w.heap.push o}:=⟨rfl,rfl,rfl,by simp,fun k hk=>by simp[Array.getElem?_push];intro e;omega⟩
theorem gV.trans{a b c:World}(h:gV a b)(k:gV b c):gV a c:=⟨k.os.trans h.os,k.tape.trans h.tape,k.output.trans h.output,Nat.le_trans h.size k.size,fun i hi=>(k.block i<|Nat.lt_of_lt_of_le hi h.size).trans<|h.block i hi⟩
theorem gV.below(h:gV w w')(_:∀k,w.heap.size<=k->B.may k):cL B w w':=⟨h.os,h.tape,h.output,h.size,fun k hk _=>h.block k hk⟩
theorem gS{o:Obj}(h:w.heap[b]? =some o):b<w.heap.size:=(Array.getElem?_eq_some_iff.1 h).1
theorem Rel.D7(r:Rel B ρ h w)(g:gV w w'):Rel B ρ h w':=by
 refine⟨?_,r.one,?_,fun k hk=>r.size k<|Nat.le_trans g.size hk,r.lone,r.fz.of (aw.le_refl _) (fun b hb _=>g.block b hb) fun _ _ hn=>hn,r.tk.of (aw.le_refl _) (fun _ _ _ hq _=>hq) g.size (fun b hb _=>g.block b hb) (fun _ _ hn=>hn) fun _ _ _ _ _ e=>e⟩
 ·intro m q hm hq;obtain⟨b1,N1,o1,h1,h2,h3,h4⟩:=r.is m q hm hq;exact⟨b1,N1,o1,h1,(g.block b1<|gS h2).trans h2,h3,h4⟩
 ·intro i m es ex left cur hi hq;obtain⟨hm,fC,b1,N,bm,M,l,ay,seen,h1,h2,h3,h4,h5⟩:=r.iter i m es ex left cur hi hq;exact⟨hm,fC,b1,N,bm,M,l,ay,seen,h1,h2,(g.block b1<|gS h3).trans h3,(g.block bm<|gS h4).trans h4,h5⟩
theorem Rel.name(r:Rel B ρ h w)(ht:n<top)(o8:ρ n=none)(ho:o.plain=true)(hb:w.heap[b]? =some o')(hB:o.dm=false->B.may b)(hfz:∀k sh,ρ (hn k b sh)=none)(lP:∀m p,m<top->h.get m=some p->∀M,ρ m≠some (b,M))(hO:OR (eO ρ n (b,N)) N o o')(hT:uj B (eO ρ n (b,N)) (h.put n<|some o) w):Rel B (eO ρ n (b,N)) (h.put n<|some o) w:=by
 have hl:ρ.le<|eO ρ n (b,N):=ox o8;have lY:h.get n=none:=by
  cases e:h.get n with
  |none=>rfl
  |some p=>obtain⟨_,_,_,h1,_⟩:=r.is n p ht e;rw[o8] at h1;cases h1
 have g:∀m,m<top->(h.put n<|some o).get m=if m=n then some o else h.get m:=fun m hm=>Tr.du _ _ _ _ ht hm
 refine⟨?_,?_,?_,r.size,?_,fun k b1 sh e=>by
  rw[gI ρ _ (by have:=fY k b1 sh;omega)] at e;obtain⟨h0,l,c,e',fr,h1,h3,h4,h5⟩:=r.fz k b1 sh e;refine⟨h0,l,c,e',fr,h1,h3,fun m q M hm hq gX e2=>?_,fun i x hx=>by obtain⟨v,a1,a2,a3⟩:=h5 i x hx;exact⟨v,a1,VR.mono (Fu hl) _ _ a2,a3⟩⟩;rw[g m hm] at hq;by_cases e3:m=n
  ·subst e3;rw[iN] at e2;cases e2;exact e (hfz k sh)
  ·rw[if_neg e3] at hq;rw[gI ρ _ e3] at e2;exact h4 m q M hm hq gX e2,hT⟩
 ·intro m q hm hq;rw[g m hm] at hq;by_cases e:m=n
  ·subst e;rw[if_pos rfl] at hq;cases hq;exact⟨b,N,o',iN _ _ _,hb,hO,hB⟩
  ·rw[if_neg e] at hq;obtain⟨b1,N1,o1,h1,h2,h3,h4⟩:=r.is m q hm hq;exact⟨b1,N1,o1,hl _ _ h1,h2,h3.mono hl,h4⟩
 ·intro m k q q' b1 N1 M1 hm hk hq dU cV h1 h2;rw[g m hm] at hq;rw[g k hk] at dU;by_cases e:m=n
  ·by_cases e2:k=n
   ·omega
   ·rw[if_neg e2] at dU;subst e;rw[iN] at h1;cases h1;rw[gI ρ _ e2] at h2;exact absurd h2<|lP k q' hk dU M1
  ·rw[if_neg e] at hq;rw[gI ρ _ e] at h1;by_cases e2:k=n
   ·subst e2;rw[iN] at h2;cases h2;exact absurd h1<|lP m q hm hq N1
   ·rw[if_neg e2] at dU;rw[gI ρ _ e2] at h2;exact r.one m k q q' b1 N1 M1 hm hk hq dU cV h1 h2
 ·intro i m es ex left cur hi hq;rw[g i hi] at hq;by_cases e:i=n
  ·subst e;rw[if_pos rfl] at hq;cases hq;simp[ab.plain] at ho
  ·rw[if_neg e] at hq;obtain⟨hm,fC,u⟩:=r.iter i m es ex left cur hi hq;have sd:m≠n:=by intro e2;subst e2;rw[lY] at fC;cases fC
   exact⟨hm,by rw[g m hm,if_neg sd];exact fC,u.mono hl⟩
 ·intro i j m es ex left cur hI jr iR iU hi hj h1 h2;rw[g i hi] at h1;rw[g j hj] at h2;by_cases e:i=n
  ·rw[if_pos e] at h1;cases h1;simp[ab.plain] at ho
  ·rw[if_neg e] at h1;by_cases e2:j=n
   ·rw[if_pos e2] at h2;cases h2;simp[ab.plain] at ho
   ·rw[if_neg e2] at h2;exact r.lone i j m es ex left cur hI jr iR iU hi hj h1 h2
theorem Rel.new(r:Rel B ρ h w)(ht:n<top)(o8:ρ n=none)(B8:o.own=true)(hO:OR (eO ρ n (w.heap.size,N)) N o o'):Rel B (eO ρ n (w.heap.size,N)) (h.put n<|some o) {w with heap:=w.heap.push o'}:=by
 obtain⟨ho,GF⟩:=ab.uK B8;refine(r.D7<|gV.alloc w o').name ht o8 ho iH (fun _=>r.size _<|Nat.le_refl _) (fun k sh=>by
  cases e:ρ (Rn.hn k w.heap.size sh) with
  |none=>rfl
  |some x=>obtain⟨_,_,_,_,_,_,h3,_⟩:=r.fz k w.heap.size sh (by rw[e];exact fun h=>by cases h);exact absurd (gS h3)<|Nat.lt_irrefl _) (fun m p hm hp M e=>?_) hO ?_
 ·obtain⟨b1,N1,o1,h1,h2,_⟩:=r.is m p hm hp;rw[e] at h1;cases h1;exact absurd (gS h2)<|Nat.lt_irrefl _
 ·have g:∀m,m<top->(h.put n<|some o).get m=if m=n then some o else h.get m:=fun m hm=>Tr.du _ _ _ _ ht hm
  exact r.tk.of (ox o8) (fun m q hm hq hr=>by
   rw[g m hm] at hq;by_cases e:m=n
   ·rw[if_pos e] at hq;cases hq;rw[GF] at hr;cases hr
   ·rw[if_neg e] at hq;exact hq) (gV.alloc w o').size (fun b hb _=>(gV.alloc w o').block b hb) (fun b1 ur hn m q M hm hq gX e2=>by
   rw[g m hm] at hq;by_cases e3:m=n
   ·subst e3;rw[iN] at e2;cases e2;exact absurd ur (Nat.lt_irrefl _)
   ·rw[if_neg e3] at hq;rw[gI ρ _ e3] at e2;exact hn m q M hm hq gX e2) (fun j x sh _ _ e=>by rw[gI ρ _ (by have:=fY j x sh;omega)];exact e)
structure Ext (a b:Nat) (ρ σ:aw):Prop where
 le:ρ.le σ
 out:∀k,k<top->¬(a<=k/\k<b)->σ k=ρ k
theorem Ext.refl(a b:Nat)(ρ:aw):Ext a b ρ ρ:=⟨aw.le_refl ρ,fun _ _ _=>rfl⟩
theorem Ext.trans{τ:aw}(Hg:a<=b)(XC:b<=c)(h:Ext a b ρ σ)(k:Ext b c σ τ):Ext a c ρ τ:=⟨aw.le_trans h.le k.le,fun j hj hk=>(k.out j hj aj).trans<|h.out j hj aj⟩
theorem Ext.mT(h:ρ n=none):Ext n (n+1) ρ<|eO ρ n x:=⟨ox h,fun k _ hk=>gI ρ x aj⟩
def dF(a b:Nat)(ρ:aw):Prop:=∀k,a<=k->k<b->k<top->ρ k=none
theorem dF.next(hf:dF a c ρ)(Hg:a<=b)(e:Ext a b ρ σ):dF b c σ:=fun k h1 h2 h3=>(e.out k h3 aj).trans<|hf k aj h2 h3
theorem dF.sub{d:Nat}(hf:dF a d ρ)(h1:a<=b)(h2:c<=d):dF b c ρ:=fun k p q r=>hf k aj aj r
end Go.Rn
namespace Go.Rn
open Go.RowKit
variable {n off b k N:Nat} {ρ:aw} {w:World} {vs:List Value} {l:List AV} {c:Array Value} {s1 s:AS} {P:Program} {e:TypeId} {B:aL} {u:Unit}
theorem fX{o:ab}(h:bq n s= .ok o s1):n<s.nx/\s.h.get n=some o/\s1.h=s.h/\s1.nx=s.nx:=by
 obtain⟨h1,h2,rfl⟩:=IW h;by_cases e:n<s.mark
 ·rw[if_pos e];exact⟨h1,h2,rfl,rfl⟩
 ·rw[if_neg e];exact⟨h1,h2,rfl,rfl⟩
theorem kr{o:Option ab}(h:bN n o s= .ok u s1):
 n<s.nx/\n<top/\(∃p,s.h.get n=some p/\p.dm=false)/\s1.h=s.h.put n o/\s1.nx=s.nx:=by
 obtain⟨h1,h2,h3,rfl⟩:=Ux h;by_cases e:n<s.mark
 ·rw[if_pos e];exact⟨h1,h2,h3,rfl,rfl⟩
 ·rw[if_neg e];exact⟨h1,h2,h3,rfl,rfl⟩
theorem aM{m:Nat}:Nat.ble n m=true↔n<=m:=by rw[Nat.ble_eq]
theorem dT{m:Nat}:Nat.beq n m=true↔n=m:=by rw[Nat.beq_eq]
theorem and_true{a b:Bool}:and a b=true↔a=true/\b=true:=Bool.and_eq_true_iff
theorem HY{t:Tr AV}{z:List AV}:∀{k off:Nat} {l:List AV},lp t z k off=some l->l.length=k/\∀i,i<k->cellAt t z (off+i)=l[i]?
 |0,off,l,h=>by
  simp only[lp] at h;injection h with h;subst h
  exact⟨rfl,fun i hi=>by omega⟩
 |k+1,off,l,h=>by
  simp only[lp] at h;cases e:cellAt t z off with
  |none=>rw[e] at h;cases h
  |some v=>
   simp only[e] at h;cases e2:lp t z k (off+1) with
   |none=>simp only[e2] at h;cases h
   |some r=>
    simp only[e2] at h;injection h with h;subst h
    obtain⟨a,b⟩:=HY e2;refine⟨by simp[a],fun i hi=>?_⟩;cases i with
    |zero=>simpa using e
    |succ i=>have:=b i aj;rw[show off+1+i=off+(i+1) from by omega] at this;simpa using this
def Row(ρ:aw)(c:Array Value)(n:Nat)(ah:Nat->Option AV):Prop:=∀i,i<n->∃x v,ah i=some x/\x.cf=true/\c[i]? =some v/\VR ρ x v
theorem Row.get{ah:Nat->Option AV}(r:Row ρ c n ah)(hk:off+k<=n)(hl:l.length=k)(h:∀i,i<k->ah (off+i)=l[i]?):
 ∃vs:List Value,vs.length=k/\aA ρ l vs/\(∀j v,vs[j]? =some v->c[off+j]? =some v)/\∀x∈l,x.cf=true:=by
 have cell:∀i,i<k->∃x v,l[i]? =some x/\x.cf=true/\c[off+i]? =some v/\VR ρ x v:=by intro i hi;obtain⟨x,v,h1,h2,h3,h4⟩:=r (off+i) aj;exact⟨x,v,by rw[←h i hi];exact h1,h2,h3,h4⟩
 refine⟨(List.range k).map fun i=>c.getD (off+i) undef,by simp,?_,?_,?_⟩
 ·refine aA.Vm _ _ (by simp[hl]) fun i a b ha hb=>?_;have hi:i<k:=by have:=List.getElem?_eq_some_iff.1 ha;obtain⟨h1,_⟩:=this;omega
  obtain⟨x,v,h1,h2,h3,h4⟩:=cell i hi;rw[h1] at ha;cases ha;have iI:b=v:=by rw[List.getElem?_map,List.getElem?_range hi] at hb;simp only[Option.map_some,Option.some.injEq] at hb;rw[←hb,Array.getD_eq_getD_getElem?,h3];rfl
  rw[iI];exact h4
 ·intro j v hv;have hj:j<k:=by have:=List.getElem?_eq_some_iff.1 hv;obtain⟨h1,_⟩:=this;simpa using h1
  obtain⟨x,u,h1,h2,h3,h4⟩:=cell j hj;rw[List.getElem?_map,List.getElem?_range hj] at hv;simp only[Option.map_some,Option.some.injEq] at hv;rw[←hv,Array.getD_eq_getD_getElem?,h3];rfl
 ·intro x hx;obtain⟨i,hi,rfl⟩:=List.getElem_of_mem hx;obtain⟨y,v,h1,h2,h3,h4⟩:=cell i aj;rw[List.getElem?_eq_getElem hi] at h1;cases h1;exact h2
theorem IA{fr:Nat×Nat}(hb:w.heap[b]? =some (.cells c e fr))(h:∀j v,vs[j]? =some v->c[off+j]? =some v):(loadCells ⟨b,off,none⟩ vs.length).run P w= .ok vs.toArray w:=by
 refine run_loadCells_list w ⟨b,off,none⟩ vs fun j v hv=>?_;have WR:(Addr.mk b off none).add j=⟨b,off+j,none⟩:=by
  unfold Addr.add;by_cases q:j=0
  ·subst q;simp
  ·rw[if_neg q]
 rw[WR];simp only[World.cell?,hb];exact h j v hv
theorem yF(fi:bD s)(r:Rel B ρ s.h w)(h:jd n off k s= .ok l s1)(hn:ρ n=some (b,N)):
 s1.h=s.h/\s1.nx=s.nx/\l.length=k/\(∀x∈l,x.cf=true)/\∃vs:List Value,(loadCells ⟨b,off,none⟩ k).run P w= .ok vs.toArray w/\aA ρ l vs/\∀j v,vs[j]? =some v->w.cell? ⟨b,off+j,none⟩=some v:=by
 cases k with
 |zero=>have h':M.pure [] s= .ok l s1:=h;obtain⟨rfl,rfl⟩:=bK h';exact⟨rfl,rfl,rfl,fun x hx=>(by cases hx),[],rfl,by simp[aA],fun j v h=>(by simp at h)⟩
 |succ k=>
  unfold jd at h;obtain⟨o,s2,h1,h2⟩:=M.aR h;obtain⟨hx,hg,hh,cQ⟩:=fX h1;have ht:n<top:=Nat.lt_of_lt_of_le hx fi.nx;obtain⟨o',hb,hO,_⟩:=r.block ht hg hn;cases o with
  |cells m t z=>obtain⟨q1,q2⟩:=cZ h2;obtain⟨q3,rfl⟩:=hU q2;obtain⟨c,e,rfl,hc,hm,row⟩:=hO;obtain⟨g1,g2⟩:=HY q3;obtain⟨vs,v1,v2,v3,v4⟩:=Row.get (ρ:=ρ) (c:=c) (n:=m) (ah:=cellAt t z) row (aM.1 q1) g1 g2;refine⟨hh,cQ,g1,v4,vs,?_,v2,fun j v hv=>by simp only[World.cell?,hb];exact v3 j v hv⟩;have:=IA (P:=P) hb v3;rw[v1] at this;exact this
  |ro m t=>
   obtain⟨q1,q2⟩:=cZ h2;obtain⟨q3,rfl⟩:=hU q2;obtain⟨c,e,fr,rfl,hc,hm,row⟩:=hO;obtain⟨g1,g2⟩:=HY q3;have ais:Row ρ c m<|cellAt t []:=by intro i hi;obtain⟨x,v,a1,a2,a3,a4⟩:=row i hi;exact⟨x,v,by unfold cellAt;rw[a1],a2,a3,a4⟩
   obtain⟨vs,v1,v2,v3,v4⟩:=ais.get (aM.1 q1) g1 g2;refine⟨hh,cQ,g1,v4,vs,?_,v2,fun j v hv=>by simp only[World.cell?,hb];exact v3 j v hv⟩;have:=IA (P:=P) hb v3;rw[v1] at this;exact this
  |_=>cases h2
theorem LY{cs:Array Value}{fr:Nat×Nat}(hb:w.heap[b]? =some (.cells c e fr)):
 xk b w (w.setRow b cs)/\(w.setRow b cs).heap[b]? =some (.cells cs e fr):=by
 refine⟨⟨rfl,rfl,rfl,by simp[World.setRow],fun k hk=>?_⟩,setRow_heap w b c cs e fr hb⟩;simp only[World.setRow,Array.getElem?_modify];rw[if_neg aj]
theorem Zt{x:AV}{v:Value}(h:VR ρ x v)(hx:x.cf=true):v.oneCell'=true:=by
 cases v with
 |agg cs=>exact absurd rfl (VR.cf h hx cs).1
 |tuple cs=>exact absurd rfl (VR.cf h hx cs).2
 |_=>rfl
theorem HR{ρ:aw}:∀{l:List AV} {vs:List Value},aA ρ l vs->(∀x∈l,x.cf=true)->∀v∈vs,v.oneCell'=true
 |[],vs,h,_,v,hv=>by simp only[aA] at h;subst h;cases hv
 |x::l,vs,h,hx,v,hv=>by
  simp only[aA] at h;obtain⟨y,ys,rfl,a,b⟩:=h;rcases List.mem_cons.1 hv with rfl|hv
  ·exact Zt a<|hx x List.mem_cons_self
  ·exact HR b (fun z hz=>hx z<|List.mem_cons_of_mem _ hz) v hv
theorem Row.set{t:Tr AV}{z:List AV}(r:Row ρ c n<|cellAt t z){m:Nat}(hl:aA ρ l vs)(h1:∀x∈l,x.cf=true)(amS:off<=n)(hm:m=max n (off+l.length))(hc:m<=c.size)(ht:m<=top):
 Row ρ ((c.toList.take off++vs++c.toList.drop (off+vs.length)).toArray) m (cellAt (Tr.fill l off t) z):=by
 have hlen:l.length=vs.length:=hl.length;intro i hi;have ait:cellAt (Tr.fill l off t) z i=match (Tr.fill l off t).get i with|some v=>some v|none=>z[i % z.length]? :=rfl
 rw[ait,Tr.Nf _ _ _ _ aj aj];by_cases q:off<=i/\i<off+l.length
 ·rw[if_pos q];obtain⟨x,hx⟩:∃x,l[i - off]? =some x:=⟨l[i - off]'aj,List.getElem?_eq_getElem aj⟩;obtain⟨v,hv,hr⟩:=hl.get (i - off) x hx;refine⟨x,v,by rw[hx],h1 x<|List.mem_of_getElem? hx,?_,hr⟩;simp only[List.getElem?_toArray];rw[List.append_assoc,List.getElem?_append_right vX];simp only[List.length_take,Array.length_toList];rw[Nat.min_eq_left aj,List.getElem?_append_left aj];exact hv
 ·rw[if_neg q];have iJ:i<n:=by omega
  obtain⟨x,v,a1,a2,a3,a4⟩:=r i iJ;refine⟨x,v,a1,a2,?_,a4⟩;simp only[List.getElem?_toArray];by_cases q2:i<off
  ·rw[List.append_assoc,List.getElem?_append_left vX,List.getElem?_take_of_lt q2];simpa using a3
  ·rw[List.getElem?_append_right vX];simp only[List.length_append,List.length_take,Array.length_toList,List.getElem?_drop];rw[Nat.min_eq_left aj];rw[show off+vs.length+(i - (off+vs.length))=i from by omega];simpa using a3
theorem size_set(h:off+vs.length<=c.size):((c.toList.take off++vs++c.toList.drop (off+vs.length)).toArray).size=c.size:=by simp;omega
theorem Mx(hb:w.heap[b]? =some (.cells c e (0,0)))(h:off+vs.length<=c.size)(h1:∀v∈vs,v.oneCell'=true):
 (storeCells ⟨b,off,none⟩ vs).run P w= .ok () (w.setRow b (c.toList.take off++vs++c.toList.drop (off+vs.length)).toArray):=by
 have:=run_storeCells_at P b off e vs 0 c w hb (by simpa using h) h1;simpa using this
theorem LK(fi:bD s)(r:Rel B ρ s.h w)(h:qX n off l s= .ok u s1)(hn:ρ n=some (b,N))(hl:aA ρ l vs):
 s1.nx=s.nx/\∃w',(storeCells ⟨b,off,none⟩ vs).run P w= .ok () w'/\Rel B ρ s1.h w'/\cL B w w':=by
 cases l with
 |nil=>simp only[aA] at hl;subst hl;have h':M.pure () s= .ok u s1:=h;obtain⟨_,rfl⟩:=bK h';exact⟨rfl,w,rfl,r,cL.refl _ _⟩
 |cons x l=>
  unfold qX at h;obtain⟨o,s2,h1,h2⟩:=M.aR h;obtain⟨hx,hg,hh,cQ⟩:=fX h1;have ht:n<top:=Nat.lt_of_lt_of_le hx fi.nx;obtain⟨o',hb,hO,hB⟩:=r.block ht hg hn;cases o with
  |cells m t z=>obtain⟨q1,q2⟩:=cZ h2;obtain⟨q3,q4⟩:=and_true.1 q1;obtain⟨q5,q6⟩:=and_true.1 q4;obtain⟨_,_,_,e1,e2⟩:=kr q2;obtain⟨c,e,rfl,hc,hm,row⟩:=hO;have hlen:(x::l).length=vs.length:=hl.length;have h3:off+(x::l).length<=m:=aM.1 q3;have h4:m<=top:=aM.1 q5;have h5:∀y∈x::l,y.cf=true:=fun y hy=>List.all_eq_true.1 q6 y hy;have cm:=Mx (P:=P) (off:=off) (vs:=vs) hb aj<|HR hl h5;obtain⟨g1,g2⟩:=LY (cs:=(c.toList.take off++vs++c.toList.drop (off+vs.length)).toArray) hb;refine⟨by rw[e2,cQ],_,cm,?_,g1.below<|hB rfl⟩;rw[e1,hh];refine r.put ht hg rfl rfl hn rfl g1 g2 ?_;refine⟨_,e,rfl,(size_set aj).trans hc,hm,?_⟩;exact Row.set (ρ:=ρ) (c:=c) (n:=m) row hl h5 aj aj aj h4
  |_=>cases h2
theorem yG{i:Nat}(hl:l.length<=top)(hi:i<l.length):cellAt (Tr.fill l 0 .nil) [] i=l[i]? :=by unfold cellAt;rw[Tr.Nf _ _ _ _ aj aj,if_pos aj];rw[Nat.sub_zero,List.getElem?_eq_getElem hi]
theorem Me(e:TypeId)(rest:List Value)(r:Rel B ρ s.h w)(hf:dF s.nx s1.nx ρ)(h:newRow l s= .ok n s1)(hl:aA ρ l vs):
 n=s.nx/\s1.nx=s.nx+1/\∃σ,Ext s.nx s1.nx ρ σ/\σ n=some (w.heap.size,vs.length+rest.length)/\
  (Go.newRow e (vs++rest).toArray).run P w= .ok ⟨w.heap.size,0,none⟩ {w with heap:=w.heap.push<|.cells (vs++rest).toArray e}/\
  Rel B σ s1.h {w with heap:=w.heap.push<|.cells (vs++rest).toArray e}:=by
 unfold newRow at h;obtain⟨q1,q2⟩:=cZ h;obtain⟨q3,q4⟩:=and_true.1 q1;obtain⟨ht,rfl,rfl⟩:=uM q2;have h1:∀y∈l,y.cf=true:=fun y hy=>List.all_eq_true.1 q4 y hy;have h2:l.length<=top:=aM.1 q3;have hlen:=hl.length;have jg:ρ s.nx=none:=hf s.nx (Nat.le_refl _) (Nat.lt_succ_self _) aj;refine⟨rfl,rfl,eO ρ s.nx (w.heap.size,vs.length+rest.length),Ext.mT jg,iN _ _ _,rfl,?_⟩;refine r.new ht jg rfl ?_;refine⟨_,e,rfl,by simp,by omega,fun i hi=>?_⟩;obtain⟨x,hx⟩:∃x,l[i]? =some x:=⟨l[i]'hi,List.getElem?_eq_getElem hi⟩;obtain⟨v,hv,hr⟩:=hl.get i x hx;refine⟨x,v,by rw[yG h2 hi];exact hx,h1 x<|List.mem_of_getElem? hx,?_,hr.mono<|ox jg⟩;simp only[List.getElem?_toArray];rw[List.getElem?_append_left aj];exact hv
end Go.Rn
namespace Go.Rn
open Go.RowKit
variable {v:Value} {n off b sh N:Nat} {y a:Operand} {ty e:TypeId}
theorem R8(ρ:aw){x:AV}(h:FY v=some x):VR ρ x v:=by
 unfold FY at h;split at h<;>first
  |(injection h with h;subst h;simp only[VR];done)
  |(cases h;done)
  |skip
 rename_i len cap;cases hb:(Nat.beq len 0&&Nat.beq cap 0) with
 |false=>rw[hb] at h;cases h
 |true=>
  rw[hb] at h;injection h with h;subst h
  obtain⟨a,b⟩:=and_true.1 hb;have a':=dT.1 a;have b':=dT.1 b;subst a';subst b';simp[VR]
theorem LZ(ρ:aw):∀{l:List Value} {x:List AV},wZ l=some x->aA ρ x l
 |[],x,h=>by simp only[wZ] at h;injection h with h;subst h;simp only[aA]
 |v::l,x,h=>by
  simp only[wZ] at h;cases e:FY v with
  |none=>rw[e] at h;cases h
  |some y=>
   simp only[e] at h;cases e2:wZ l with
   |none=>simp only[e2] at h;cases h
   |some r=>
    simp only[e2] at h;injection h with h;subst h
    simp only[aA];exact⟨v,l,rfl,R8 ρ e,LZ ρ e2⟩
theorem L5(ρ:aw){x:AV}(h:ofValue v=some x):VR ρ x v:=by
 unfold ofValue at h;split at h
 ·rename_i cs;cases e:wZ cs.toList with
  |none=>rw[e] at h;cases h
  |some l=>simp only[e] at h;injection h with h;subst h;simp only[VR];exact⟨cs,rfl,LZ ρ e⟩
 ·rename_i cs;cases e:wZ cs.toList with
  |none=>rw[e] at h;cases h
  |some l=>simp only[e] at h;injection h with h;subst h;simp only[VR];exact⟨cs,rfl,LZ ρ e⟩
 ·exact R8 ρ h
def gb(ρ:aw):Prop:=∀g,g<fM->∃N,ρ g=some (g,N)
theorem gb.mono{ρ σ:aw}(h:gb ρ)(l:ρ.le σ):gb σ:=fun g hg=>let ⟨N,e⟩:=h g hg;⟨N,l _ _ e⟩
theorem FN{ρ:aw}{nt:Nat}{t:Tr AV}{a:Act}(k:TR ρ nt t a.tmps)(hg:gb ρ){x:Operand}{v:AV}(h:aI t x=some v):VR ρ v<|a.eval x:=by
 cases x with
 |tmp i=>exact k.2 i v h
 |const c=>exact L5 ρ h
 |global g=>
  have h': @Bool.rec (fun _=>Option AV) none (some<|.ptr<|some (g,0)) (Nat.blt g fM)=some v:=h;rw[yP] at h';by_cases e:g<fM
  ·rw[if_pos e] at h';injection h' with h';subst h'
   obtain⟨N,hN⟩:=hg g e;simp only[VR];exact⟨g,N,hN,rfl⟩
  ·rw[if_neg e] at h';cases h'
 |func f=>
  have h':some (AV.func (.func f) [] [])=some v:=h;injection h' with h';subst h'
  simp only[VR,aA];exact⟨rfl, #[], #[],rfl,rfl,rfl⟩
theorem FC{ρ:aw}{ev:Operand->Option AV}{ec:Operand->Value}(he:∀x v,ev x=some v->VR ρ v (ec x)):∀{l:List Operand} {vs:List AV},jP ev l=some vs->aA ρ vs (l.map ec)
 |[],vs,h=>by simp only[jP] at h;injection h with h;subst h;simp only[aA,List.map_nil]
 |x::l,vs,h=>by
  simp only[jP] at h;cases e:ev x with
  |none=>rw[e] at h;cases h
  |some y=>
   simp only[e] at h;cases e2:jP ev l with
   |none=>simp only[e2] at h;cases h
   |some r=>
    simp only[e2] at h;injection h with h;subst h
    simp only[aA,List.map_cons];exact⟨_,_,rfl,he x y e,FC he e2⟩
section
variable {P:Program} {w:World}
theorem dy{t:TypeId}{d:TypeDesc}(h:P.underlying t=some d):(underlying t).run P w= .ok d w:=by simp[underlying,h]
theorem uI{t:TypeId}{i:TypeInfo}(h:P.info? t=some i):(typeInfo t).run P w= .ok i w:=by simp[typeInfo,h]
theorem iM{t:TypeId}{k:Nat}(h:eF P t=some k):(sizeOf t).run P w= .ok k w:=by
 unfold eF at h;cases e:P.info? t with
 |none=>rw[e] at h;cases h
 |some i=>simp only[e] at h;injection h with h;subst h;simp[sizeOf,uI e]
theorem HZ(ρ:aw){t:TypeId}{z:AV}(h:qp P t=some z):∃v,(zeroValue t).run P w= .ok v w/\VR ρ z v:=by
 unfold qp at h;cases e:P.info? t with
 |none=>rw[e] at h;cases h
 |some i=>
  simp only[e] at h;cases e2:i.zero with
  |none=>simp only[e2] at h;cases h
  |some v=>simp only[e2] at h;exact⟨v,by simp[zeroValue,uI e,e2],L5 ρ h⟩
theorem Ap{t:TypeId}{b:Bool}(h:qB P t=some b):(isAgg t).run P w= .ok b w:=by
 unfold qB at h;split at h<;>first|(cases h;done)|skip
 ·rename_i fs e;injection h with h;subst h;simp[isAgg,dy e]
 ·rename_i n m e;injection h with h;subst h;simp[isAgg,dy e]
 ·rename_i d h1 h2 e;injection h with h;subst h
  simp only[isAgg,Sem.run_bind,dy e,Result.andThen_ok];cases d<;>first|rfl|(exact absurd e<|h1 _)|(exact absurd e<|h2 _ _)
end
theorem Addr.rf(b o j:Nat):(Addr.mk b o none).add j=⟨b,o+j,none⟩:=by
 unfold Addr.add;by_cases q:j=0
 ·subst q;simp
 ·rw[if_neg q]
def fZ(P:Program)(B:aL)(ρ:aw)(s s1:AS)(w:World)(x:AV)(c:Sem Next):Prop:=∃σ w' nv,Ext s.nx s1.nx ρ σ/\c.run P w= .ok nv w'/\(match nv with| .value v=>VR σ x v| .skip=>x=qi|_=>False)/\Rel B σ s1.h w'/\cL B w w'
def jQ(P:Program)(B:aL)(ρ:aw)(s s1:AS)(w:World)(x:AV)(c:Sem Value):Prop:=∃σ w' v,Ext s.nx s1.nx ρ σ/\c.run P w= .ok v w'/\VR σ x v/\Rel B σ s1.h w'/\cL B w w'
theorem jQ.op{P:Program}{B:aL}{ρ:aw}{s s1:AS}{w:World}{x:AV}{c:Sem Value}(h:jQ P B ρ s s1 w x c):fZ P B ρ s s1 w x (do pure (.value<|←c)):=by obtain⟨σ,w',v,a,b,d,e,f⟩:=h;exact⟨σ,w',.value v,a,by simp[b],d,e,f⟩
section
variable {P:Program} {B:aL} {ρ:aw} {w:World} {s s1:AS}
theorem RM{t:TypeId}{x:AV}(fi:bD s)(r:Rel B ρ s.h w)(h:loadVar P t n off s= .ok x s1)(hn:ρ n=some (b,N)):
 s1.h=s.h/\s1.nx=s.nx/\∃v,(Go.loadVar t ⟨b,off,none⟩).run P w= .ok v w/\VR ρ x v:=by
 unfold loadVar at h;obtain⟨ag,h1,h2⟩:=bu h;cases ag with
 |true=>
  obtain⟨k,h3,h4⟩:=bu h2;obtain⟨l,s2,h5,h6⟩:=M.aR h4;obtain⟨rfl,rfl⟩:=bK h6;obtain⟨a1,a2,a3,a4,vs,a5,a6,_⟩:=yF (P:=P) fi r h5 hn;refine⟨a1,a2,.agg vs.toArray,?_,?_⟩
  ·simp[Go.loadVar,Ap h1,iM h3,a5]
  ·simp only[VR];exact⟨_,rfl,by simpa using a6⟩
 |false=>
  obtain⟨l,s2,h5,h6⟩:=M.aR h2;obtain⟨q,rfl⟩:=hU h6;obtain⟨a1,a2,a3,a4,vs,a5,a6,a7⟩:=yF (P:=P) fi r h5 hn;unfold one at q;split at q
  ·rename_i y;injection q with q;subst q
   simp only[aA] at a6;obtain⟨v,ys,rfl,hv,rfl⟩:=a6;have hc:=a7 0 v rfl;refine⟨a1,a2,v,?_,hv⟩;simp only[Go.loadVar,Sem.run_bind,Ap h1,Result.andThen_ok];simp[show w.cell? ⟨b,off,none⟩=some v from by simpa using hc]
  ·cases q
theorem Zu{t:TypeId}{x:AV}(fi:bD s)(r:Rel B ρ s.h w)(h:w7 P t n off s= .ok x s1)(hn:ρ n=some (b,sh)):
 s1.h=s.h/\s1.nx=s.nx/\∃v,(Go.loadVar t ⟨b,sh+off,none⟩).run P w= .ok v w/\VR ρ x v:=by
 unfold w7 at h;obtain⟨ag,h1,h2⟩:=bu h;cases ag with
 |true=>cases h2
 |false=>
  obtain⟨ob,s2,h3,h4⟩:=M.aR h2;obtain⟨hx,hg,hh,cQ⟩:=fX h3;have ht:n<top:=Nat.lt_of_lt_of_le hx fi.nx;obtain⟨o',hb,hO,_⟩:=r.block ht hg hn;cases ob with
  |tF m tr=>
   obtain⟨q1,q2⟩:=cZ h4;obtain⟨q3,rfl⟩:=hU q2;have bB:off<m:=by rw[←blt_eq];exact q1
   obtain⟨c,e,fr,rfl,row⟩:=hO;obtain⟨y,v,g1,g2,g3,g4⟩:=row off bB;rw[q3] at g1;injection g1 with g1;subst g1
   refine⟨hh,cQ,v,?_,g4⟩;have hc:w.cell? ⟨b,sh+off,none⟩=some v:=by simp only[World.cell?,hb];exact g3
   simp only[Go.loadVar,Sem.run_bind,Ap h1,Result.andThen_ok];simp[hc]
  |_=>cases h4
def Be(B:aL)(YO:aK):Prop:=∀(n o k:Nat) (x:AV) (s s1:AS) (ρ:aw) (w:World),bD s->Rel B ρ s.h w->YO (.row n o k) [] s= .ok x s1->s1.h=s.h/\s1.nx=s.nx/\∀b sh,ρ (hn n b sh)≠none->∃l vs,x= .agg l/\vs.length=k/\aA ρ l vs/\∃c e fr,w.heap[b]? =some (.cells c e fr)/\∀(j:Nat) (v:Value),vs[j]? =some v->c[sh+o+j]? =some v
theorem ZR{t:TypeId}{x:AV}{YO:aK}(eL:Be B YO)(fi:bD s)(r:Rel B ρ s.h w)(h:uU P t YO n off s= .ok x s1)(hn:ρ (hn n b sh)≠none):
 s1.h=s.h/\s1.nx=s.nx/\∃v,(Go.loadVar t ⟨b,sh+off,none⟩).run P w= .ok v w/\VR ρ x v:=by
 unfold uU at h;obtain⟨ag,h1,h2⟩:=bu h;obtain⟨k,h3,h4⟩:=bu h2;obtain⟨y,s2,h5,h6⟩:=M.aR h4;obtain⟨a1,a2,eL⟩:=eL _ _ _ _ _ _ _ _ fi r h5;obtain⟨l,vs,rfl,a3,a5,c,e,fr,a6,a7⟩:=eL b sh hn;have mJ:∀(j:Nat) (v:Value),vs[j]? =some v->w.cell? ⟨b,sh+off+j,none⟩=some v:=fun j v hj=>by simp only[World.cell?,a6];exact a7 j v hj
 cases ag with
 |true=>
  obtain⟨rfl,rfl⟩:=bK h6;have Gl:=IA (P:=P) (w:=w) a6 a7;rw[a3] at Gl;refine⟨a1,a2,.agg vs.toArray,?_,?_⟩
  ·simp[Go.loadVar,Ap h1,iM h3,Gl]
  ·simp only[VR];exact⟨_,rfl,by simpa using a5⟩
 |false=>
  obtain⟨q,rfl⟩:=hU h6;unfold one at q;split at q
  ·rename_i y;injection q with q;subst q
   simp only[aA] at a5;obtain⟨v,ys,rfl,hv,rfl⟩:=a5;have hc:=mJ 0 v rfl;refine⟨a1,a2,v,?_,hv⟩;simp only[Go.loadVar,Sem.run_bind,Ap h1,Result.andThen_ok];simp[show w.cell? ⟨b,sh+off,none⟩=some v from by simpa using hc]
  ·cases q
theorem Zb{t:TypeId}{x:AV}{u:Unit}(fi:bD s)(r:Rel B ρ s.h w)(h:storeVar P t n off x s= .ok u s1)(hn:ρ n=some (b,N))(hv:VR ρ x v):
 s1.nx=s.nx/\∃w',(Go.storeVar t ⟨b,off,none⟩ v).run P w= .ok () w'/\Rel B ρ s1.h w'/\cL B w w':=by
 unfold storeVar at h;obtain⟨k,h1,h2⟩:=bu h;obtain⟨h3,h4⟩:=cZ h2;obtain⟨a1,w',a2,a3,a4⟩:=LK (P:=P) fi r h4 hn hv.cells;refine⟨a1,w',?_,a3,a4⟩;have hk:v.cells.size=k:=by have:=hv.cells.length;rw[dT.1 h3] at this;simpa using this.symm
 simp[Go.storeVar,iM h1,hk,a2]
theorem R9{x:AV}(e:TypeId)(r:Rel B ρ s.h w)(hf:dF s.nx s1.nx ρ)(h:newRow x.cells s= .ok n s1)(hv:VR ρ x v):
 ∃σ w' b N,Ext s.nx s1.nx ρ σ/\(Go.newVar e v).run P w= .ok ⟨b,0,none⟩ w'/\σ n=some (b,N)/\Rel B σ s1.h w'/\cL B w w':=by
 obtain⟨rfl,h1,σ,h2,h3,h4,h5⟩:=Me (P:=P) e [] r hf h hv.cells;refine⟨σ,_,_,_,h2,?_,h3,h5,(gV.alloc w _).below r.size⟩;have:(v.cells.toList++[]).toArray=v.cells:=by simp
 rw[this] at h4 ⊢;exact h4
end
theorem VR.C7{ρ:aw}{x:AV}{i:Int}(h:VR ρ x v)(hi:intOf x=some i):∃k,x= .int k i/\v= .int k i:=by
 cases x<;>simp only[intOf] at hi<;>first|(cases hi;done)|skip
 rename_i k n;injection hi with hi;subst hi
 simp only[VR] at h;exact⟨k,rfl,h⟩
theorem VR.TB{ρ:aw}{x:AV}{b:Bool}(h:VR ρ x v)(hi:xf x=some b):v= .bool b:=by
 cases x<;>simp only[xf] at hi<;>first|(cases hi;done)|skip
 injection hi with hi;subst hi
 simp only[VR] at h;exact h
theorem VR.Nj{ρ:aw}{x:AV}{a:Nat×Nat}(h:VR ρ x v)(hi:addrOf x=some a):∃b N,ρ a.1=some (b,N)/\v= .pointer (some ⟨b,a.2,none⟩):=by
 unfold addrOf at hi;split at hi
 ·injection hi with hi;subst hi
  rename_i a;obtain⟨n,o⟩:=a;simp only[VR] at h;exact h
 ·cases hi
section
variable {P:Program} {B:aL} {ρ:aw} {w:World} {s s1:AS} {x:AV} {YO:aK} {t:Tr AV} {ev:Operand->Value} {o:Oper}
theorem SK(he:∀x v,aI t x=some v->VR ρ v (ev x))(r:Rel B ρ s.h w)(h:vq y YO t s= .ok x s1)(ho:o.op= .move y\/o.op= .assign y):fZ P B ρ s s1 w x<|execOp ev o:=by obtain⟨h1,rfl⟩:=hU (show lift (aI t y) s= .ok x s1 from h);refine⟨ρ,w,.value<|ev y,Ext.refl _ _ _,?_,he y x h1,r,cL.refl _ _⟩;rcases ho with ho|ho<;>simp[execOp,ho]
theorem aaL{c b:Operand}(he:∀x v,aI t x=some v->VR ρ v (ev x))(r:Rel B ρ s.h w)(h:Bu c a b YO t s= .ok x s1)(ho:o.op= .pick c a b):fZ P B ρ s s1 w x<|execOp ev o:=by
 unfold Bu at h;obtain⟨v,h1,h2⟩:=bu h;obtain⟨q,h3,h4⟩:=bu h2;obtain⟨va,h5,h6⟩:=bu h4;obtain⟨vb,h7,h8⟩:=bu h6;have hc:=(he c v h1).TB h3;cases q with
 |true=>obtain⟨rfl,rfl⟩:=bK h8;exact⟨ρ,w,.value<|ev a,Ext.refl _ _ _,by simp[execOp,ho,hc,asBool],he a _ h5,r,cL.refl _ _⟩
 |false=>obtain⟨rfl,rfl⟩:=bK h8;exact⟨ρ,w,.value<|ev b,Ext.refl _ _ _,by simp[execOp,ho,hc,asBool],he b _ h7,r,cL.refl _ _⟩
theorem ZS(r:Rel B ρ s.h w)(hf:dF s.nx s1.nx ρ)(h:Jr P e YO t s= .ok x s1)(ho:o.op= .alloc e):fZ P B ρ s s1 w x<|execOp ev o:=by
 unfold Jr at h;obtain⟨z,h1,h2⟩:=bu h;obtain⟨n,s2,h3,h4⟩:=M.aR h2;obtain⟨rfl,rfl⟩:=bK h4;obtain⟨v,h5,h6⟩:=HZ (P:=P) (w:=w) ρ h1;obtain⟨σ,w',b,N,a1,a2,a3,a4,a5⟩:=R9 (P:=P) e r hf h3 h6;refine⟨σ,w',.value<|.pointer<|some ⟨b,0,none⟩,a1,?_,?_,a4,a5⟩
 ·simp[execOp,ho,Instr.alloc,h5,a2]
 ·simp only[VR];exact⟨b,N,a3,rfl⟩
theorem abX(he:∀x v,aI t x=some v->VR ρ v (ev x))(r:Rel B ρ s.h w)(hf:dF s.nx s1.nx ρ)(h:BH y YO t s= .ok x s1)(ho:o.op= .box e y):fZ P B ρ s s1 w x<|execOp ev o:=by
 unfold BH at h;obtain⟨z,h1,h2⟩:=bu h;obtain⟨n,s2,h3,h4⟩:=M.aR h2;obtain⟨rfl,rfl⟩:=bK h4;obtain⟨σ,w',b,N,a1,a2,a3,a4,a5⟩:=R9 (P:=P) e r hf h3<|he y z h1;refine⟨σ,w',.value<|.pointer<|some ⟨b,0,none⟩,a1,?_,?_,a4,a5⟩
 ·simp[execOp,ho,Instr.box,a2]
 ·simp only[VR];exact⟨b,N,a3,rfl⟩
theorem aaM(eL:Be B YO)(he:∀x v,aI t x=some v->VR ρ v (ev x))(fi:bD s)(r:Rel B ρ s.h w)(h:tH P ty a YO t s= .ok x s1)(ho:o.op= .load ty a):fZ P B ρ s s1 w x<|execOp ev o:=by
 unfold tH at h;obtain⟨v,h1,h2⟩:=bu h;unfold loadAt at h2;split at h2
 ·rename_i n q;have hv:=he a _ h1;simp only[VR] at hv;obtain⟨b,sh,h5,h6⟩:=hv;have main:s1.h=s.h/\s1.nx=s.nx/\∃v,(Go.loadVar ty ⟨b,sh+q,none⟩).run P w= .ok v w/\VR ρ x v:=by
   cases hb:Nat.ble top n with
   |true=>rw[hb] at h2;exact ZR eL fi r h2<|h5.high<|aM.1 hb
   |false=>rw[hb] at h2;exact Zu (P:=P) fi r h2 (h5.low fun q=>by rw[aM.2 q] at hb;cases hb)
  obtain⟨a1,a2,u,a3,a4⟩:=main;refine⟨ρ,w,.value u,Ext.refl _ _ _,?_,a4,by rw[a1];exact r,cL.refl _ _⟩;simp[execOp,ho,Instr.loadAt,Instr.sureAddr,h6,a3]
 ·obtain⟨ad,h3,h4⟩:=bu h2;obtain⟨b,N,h5,h6⟩:=(he a v h1).Nj h3;obtain⟨a1,a2,u,a3,a4⟩:=RM (P:=P) fi r h4 h5;refine⟨ρ,w,.value u,Ext.refl _ _ _,?_,a4,by rw[a1];exact r,cL.refl _ _⟩;simp[execOp,ho,Instr.loadAt,Instr.sureAddr,h6,a3]
theorem ZT(he:∀x v,aI t x=some v->VR ρ v (ev x))(fi:bD s)(r:Rel B ρ s.h w)(h:xj P ty a y YO t s= .ok x s1)(ho:o.op= .store ty a y):fZ P B ρ s s1 w x<|execOp ev o:=by unfold xj at h;obtain⟨v,h1,h2⟩:=bu h;obtain⟨ad,h3,h4⟩:=bu h2;obtain⟨z,h5,h6⟩:=bu h4;obtain⟨u,s2,h7,h8⟩:=M.aR h6;obtain⟨rfl,rfl⟩:=bK h8;obtain⟨b,N,h9,gE⟩:=(he a v h1).Nj h3;obtain⟨a1,w',a2,a3,a4⟩:=Zb (P:=P) fi r h7 h9<|he y z h5;refine⟨ρ,w',.skip,Ext.refl _ _ _,?_,rfl,a3,a4⟩;simp[execOp,ho,Instr.storeAt,Instr.sureAddr,gE,a2]
theorem YZ(he:∀x v,aI t x=some v->VR ρ v (ev x))(r:Rel B ρ s.h w)(h:Av y YO t s= .ok x s1)(ho:o.op= .nilCheck y):fZ P B ρ s s1 w x<|execOp ev o:=by
 unfold Av at h;obtain⟨v,h1,h2⟩:=bu h;obtain⟨h3,h4⟩:=cZ h2;obtain⟨rfl,rfl⟩:=bK h4;have hv:=he y _ h1;refine⟨ρ,w,.value<|ev y,Ext.refl _ _ _,?_,hv,r,cL.refl _ _⟩;simp only[execOp,ho];generalize ev y=v at hv;cases x<;>(try simp only[VR] at hv)<;>(try (subst hv;first|(simp[notNil] at h3;done)|rfl))
 case ptr a=>
  cases a with
  |none=>simp[notNil] at h3
  |some a=>obtain⟨n,q⟩:=a;simp only[VR] at hv;obtain⟨_,_,_,rfl⟩:=hv;rfl
 case U n o l=>rcases hv with⟨_,_,_,_,rfl,_⟩|⟨_,_,_,_,rfl,_⟩<;>rfl
 case pC n o=>obtain⟨_,_,_,rfl⟩:=hv;rfl
 case slice a len cap=>
  have:∃p q r,v= .slice p q r:=by
   cases a with
   |none=>cases cap<;>simp only[VR] at hv;exact⟨_,_,_,hv.1⟩
   |some a=>
    obtain⟨n,q⟩:=a;cases cap<;>simp only[VR] at hv
    ·obtain⟨_,_,_,rfl⟩:=hv;exact⟨_,_,_,rfl⟩
    ·obtain⟨_,_,_,_,rfl,_⟩:=hv;exact⟨_,_,_,rfl⟩
    ·obtain⟨_,_,_,_,_,_,rfl⟩:=hv;exact⟨_,_,_,rfl⟩
  obtain⟨_,_,_,rfl⟩:=this;rfl
 case map a=>
  cases a with
  |none=>simp only[VR] at hv;subst hv;rfl
  |some a=>simp only[VR] at hv;obtain⟨_,_,_,rfl⟩:=hv;rfl
 case func fn f c=>obtain⟨_,_,_,rfl,_⟩:=hv;cases fn<;>first|rfl|(simp[notNil] at h3)
 case yield l=>obtain⟨_,_,_,rfl⟩:=hv;rfl
 case iface ty y=>obtain⟨_,rfl,_⟩:=hv;rfl
 case agg l=>obtain⟨_,rfl,_⟩:=hv;rfl
 case tuple l=>obtain⟨_,rfl,_⟩:=hv;rfl
end
end Go.Rn
namespace Go.Rn
open Go.RowKit
variable {ty:TypeId} {ps:List<|Nat×AV} {parts:Array<|Nat×Operand}
theorem aA.set{ρ:aw}:∀{x:List AV} {v:List Value} {i:Nat} {a:AV} {b:Value},aA ρ x v->VR ρ a b->aA ρ (x.set i a) (v.set i b)
 |[],_,_,_,_,h,_=>by simp only[aA] at h;subst h;simp[aA]
 |y::ys,_,0,_,_,h,k=>by simp only[aA] at h;obtain⟨z,zs,rfl,p,q⟩:=h;simp only[List.set_cons_zero,aA];exact⟨_,_,rfl,k,q⟩
 |y::ys,_,i+1,_,_,h,k=>by simp only[aA] at h;obtain⟨z,zs,rfl,p,q⟩:=h;simp only[List.set_cons_succ,aA];exact⟨_,_,rfl,p,q.set k⟩
def vM:List Value->List Value->Nat->List Value
 |cs,[],_=>cs
 |cs,c::l,off=>vM (cs.set off c) l<|off+1
theorem Ry{ρ:aw}:∀{l:List AV} {vs:List Value} {cs:List AV} {ds:List Value} {off:Nat},aA ρ l vs->aA ρ cs ds->aA ρ (Fv cs l off) (vM ds vs off)
 |[],_,_,_,_,h,k=>by simp only[aA] at h;subst h;exact k
 |x::l,_,cs,ds,off,h,k=>by simp only[aA] at h;obtain⟨y,ys,rfl,p,q⟩:=h;show aA ρ (Fv (cs.set off x) l<|off+1)<|vM (ds.set off y) ys<|off+1;exact Ry (l:=l) q<|k.set p
theorem SL(off:Nat):∀(l:List Value) (k:Nat) (cs:Array Value),
 ((l.zipIdx k).foldl (fun(cs:Array Value) (x:Value×Nat)=>cs.setIfInBounds (off+x.2) x.1) cs).toList=vM cs.toList l (off+k)
 |[],k,cs=>rfl
 |c::l,k,cs=>by simp only[List.zipIdx_cons,List.foldl_cons,vM];rw[SL off l (k+1) _];simp[Nat.add_assoc]
def v8(ρ:aw):List (Nat×AV)->List (Nat×Value)->Prop
 |[],l=>l=[]
 |x::xs,l=>∃y ys,l=y::ys/\x.1=y.1/\VR ρ x.2 y.2/\v8 ρ xs ys
theorem My{ρ:aw}{ev:Operand->Option AV}{ec:Operand->Value}(he:∀x v,ev x=some v->VR ρ v (ec x)):∀{l:List<|Nat×Operand} {vs:List<|Nat×AV},vp ev l=some vs->v8 ρ vs (l.map fun(i,x)=>(i,ec x))
 |[],vs,h=>by simp only[vp] at h;injection h with h;subst h;simp only[v8,List.map_nil]
 |(i,x)::l,vs,h=>by
  simp only[vp] at h;cases e:ev x with
  |none=>rw[e] at h;cases h
  |some y=>
   simp only[e] at h;cases e2:vp ev l with
   |none=>simp only[e2] at h;cases h
   |some r=>
    simp only[e2] at h;injection h with h;subst h
    simp only[v8,List.map_cons];exact⟨_,_,rfl,rfl,he x y e,My he e2⟩
theorem IB{ρ:aw}{place:Nat->Option (Nat×Nat)}:∀{ps:List<|Nat×AV} {qs:List<|Nat×Value} {cs l:List AV} {ds:Array Value},v8 ρ ps qs->aA ρ cs ds.toList->xg place cs ps=some l->
 ∃es,Instr.fill place ds qs=some es/\aA ρ l es.toList
 |[],qs,cs,l,ds,h,k,e=>by
  simp only[v8] at h;subst h;simp only[xg] at e;injection e with e;subst e
  exact⟨ds,rfl,k⟩
 |(i,v)::ps,qs,cs,l,ds,h,k,e=>by
  simp only[v8] at h;obtain⟨⟨i',v'⟩,ys,rfl,hi,hv,hr⟩:=h;simp only at hi hv;subst hi;simp only[xg] at e;cases e1:place i with
  |none=>simp only[e1] at e;cases e
  |some p=>
   obtain⟨off,size⟩:=p;simp only[e1] at e;cases e2:(Nat.beq v.cells.length size&&Nat.ble (off+v.cells.length) cs.length) with
   |false=>simp only[e2] at e;cases e
   |true=>
    simp only[e2] at e;obtain⟨a,b⟩:=and_true.1 e2;have a:=dT.1 a;have b:=aM.1 b;have hc:=hv.cells;have l1:=hc.length;have l2:=k.length;simp only[Array.length_toList] at l1 l2;have GG:aA ρ (Fv cs v.cells off) (v'.cells.zipIdx.foldl (fun(cs:Array Value) (x:Value×Nat)=>cs.setIfInBounds (off+x.2) x.1) ds).toList:=by rw[←Array.foldl_toList,Array.toList_zipIdx,SL off _ 0 ds];exact Ry hc k
    obtain⟨es,g1,g2⟩:=IB hr GG e;refine⟨es,?_,g2⟩;simp only[Instr.fill,e1];rw[if_neg vX];exact g1
theorem RN{P:Program}:∀{fs:List Field} {pl:List<|Nat×Nat},AO P fs=some pl->fs.mapM (fun f=>(P.info? f.type).map fun i=>(f.offset,i.size))=some pl
 |[],pl,h=>by simp only[AO] at h;injection h with h;subst h;rfl
 |f::fs,pl,h=>by
  simp only[AO,eF] at h;cases e:P.info? f.type with
  |none=>simp only[e] at h;cases h
  |some i=>
   simp only[e] at h;cases e2:AO P fs with
   |none=>simp only[e2] at h;cases h
   |some r=>
    simp only[e2] at h;injection h with h;subst h
    simp[List.mapM_cons,e,RN e2]
theorem ZU{P:Program}(ρ:aw){t:TypeId}{z:AV}(h:qp P t=some z):∃i v,P.info? t=some i/\i.zero=some v/\VR ρ z v:=by
 unfold qp at h;cases e:P.info? t with
 |none=>rw[e] at h;cases h
 |some i=>
  simp only[e] at h;cases e2:i.zero with
  |none=>simp only[e2] at h;cases h
  |some v=>simp only[e2] at h;exact⟨i,v,rfl,e2,L5 ρ h⟩
section
variable {P:Program} {B:aL} {ρ:aw} {w:World} {s s1:AS} {x:AV} {YO:aK} {t:Tr AV} {ev:Operand->Value} {o:Oper}
theorem aaN{qs:List<|Nat×Value}(hp:v8 ρ ps qs)(h:build P ty ps=some x):∃cells,P.built ty qs=some cells/\VR ρ x (.agg cells):=by
 unfold build at h;cases ez:qp P ty with
 |none=>simp only[ez] at h;cases h
 |some z=>
  obtain⟨i,v,h1,h2,h3⟩:=ZU ρ ez;simp only[ez] at h;cases eu:P.underlying ty with
  |none=>simp only[eu] at h;cases h
  |some d=>
   cases d<;>simp only[eu] at h<;>first|(cases h;done)|skip
   case array n e=>
    cases ek:eF P e with
    |none=>simp only[ek] at h;cases h
    |some k=>
     simp only[ek] at h;cases ef:xg (fun i=>some (i*k,k)) z.cells ps with
     |none=>simp only[ef] at h;cases h
     |some l=>
      simp only[ef] at h;injection h with h;subst h
      obtain⟨es,g1,g2⟩:=IB hp h3.cells ef;unfold eF at ek;cases ei:P.info? e with
      |none=>rw[ei] at ek;cases ek
      |some ie=>
       simp only[ei] at ek;injection ek with ek;subst ek
       refine⟨es,?_,by simp only[VR];exact⟨_,rfl,g2⟩⟩;simp only[Program.built,h1,eu,h2,ei];exact g1
   case struct fs=>
    cases ek:AO P fs.toList with
    |none=>simp only[ek] at h;cases h
    |some pl=>
     simp only[ek] at h;cases ef:xg (fun i=>pl[i]?) z.cells ps with
     |none=>simp only[ef] at h;cases h
     |some l=>
      simp only[ef] at h;injection h with h;subst h
      obtain⟨es,g1,g2⟩:=IB hp h3.cells ef;refine⟨es,?_,by simp only[VR];exact⟨_,rfl,g2⟩⟩;simp only[Program.built,h1,eu,h2,RN ek];simpa using g1
theorem ZV(he:∀x v,aI t x=some v->VR ρ v (ev x))(r:Rel B ρ s.h w)(h:A9 P ty parts.toList YO t s= .ok x s1)(ho:o.op= .build ty parts):fZ P B ρ s s1 w x<|execOp ev o:=by
 unfold A9 at h;obtain⟨ps,h1,h2⟩:=bu h;obtain⟨h3,rfl⟩:=hU h2;have hp:=My he h1;obtain⟨cells,g1,g2⟩:=aaN (P:=P) hp h3;refine⟨ρ,w,.value<|.agg cells,Ext.refl _ _ _,?_,g2,r,cL.refl _ _⟩;have yd:P.built ty (parts.map fun(i,x)=>(i,ev x)).toList=some cells:=by rw[Array.toList_map];exact g1
 simp only[execOp,ho,Sem.run_bind,run_build w ty _ cells yd,Result.andThen_ok];rfl
theorem Rz{z:List AV}{vs:List Value}(h:aA ρ z vs):∀n,aA ρ (Fw n z) (List.replicate n vs).flatten
 |0=>by simp[Fw,aA]
 |n+1=>by simp only[Fw,List.replicate_succ,List.flatten_cons];exact h.append<|Rz h n
theorem Sa{vs:List Value}:∀(n i:Nat),i<n*vs.length->(List.replicate n vs).flatten[i]? =vs[i % vs.length]?
 |0,i,h=>by omega
 |n+1,i,h=>by
  rw[List.replicate_succ,List.flatten_cons];by_cases q:i<vs.length
  ·rw[List.getElem?_append_left q,Nat.mod_eq_of_lt q]
  ·have hs:(n+1)*vs.length=n*vs.length+vs.length:=by rw[Nat.succ_mul]
   rw[List.getElem?_append_right aj,Sa n _ aj];rw[←Nat.mod_eq_sub_mod aj]
theorem ZW{zs:Array Value}{n:Nat}:(Array.range<|n*zs.size).map (fun i=>zs[i % zs.size]!)=(List.replicate n zs.toList).flatten.toArray:=by
 apply Array.ext_getElem?;intro i;have hlen:(List.replicate n zs.toList).flatten.length=n*zs.size:=by simp
 by_cases q:i<n*zs.size
 ·have hz:0<zs.size:=by
   rcases Nat.eq_zero_or_pos zs.size with h0|h0
   ·rw[h0] at q;omega
   ·exact h0
  have hm:i % zs.size<zs.size:=Nat.mod_lt _ hz;have hr:(List.replicate n zs.toList).flatten.toArray[i]? =zs.toList[i % zs.toList.length]? :=by rw[List.getElem?_toArray];exact Sa n i (by rw[Array.length_toList];exact q)
  rw[hr];simp[q,getElem!_pos zs (i % zs.size) hm,Array.getElem?_eq_getElem hm]
 ·have hr:(List.replicate n zs.toList).flatten.toArray[i]? =none:=by rw[List.getElem?_toArray];exact List.getElem?_eq_none (by rw[hlen];omega)
  rw[hr,Array.getElem?_eq_none vX]
theorem YS{len:Nat}{qs:Array<|Nat×Value}(hp:v8 ρ ps qs.toList)(r:Rel B ρ s.h w)(hf:dF s.nx s1.nx ρ)(h:buildSlice P ty len ps s= .ok x s1):
 jQ P B ρ s s1 w x (Instr.buildSlice ty len qs):=by
 unfold buildSlice at h;cases eu:P.underlying ty with
 |none=>simp only[eu] at h;cases h
 |some d=>
  cases d<;>simp only[eu] at h<;>first|(cases h;done)|skip
  rename_i e;simp only[bind_eq,adq] at h;obtain⟨k,s2,h1,h2⟩:=M.aR h;obtain⟨ye,rfl⟩:=hU h1;obtain⟨z,s3,h3,h4⟩:=M.aR h2;obtain⟨Qj,rfl⟩:=hU h3;obtain⟨u,s4,h5,h6⟩:=M.aR h4;have Qk:(Nat.ble (len*k) 1048576&&Nat.beq z.cells.length k)=true/\s4=s3:=by
   cases hb:(Nat.ble (len*k) 1048576&&Nat.beq z.cells.length k) with
   |false=>rw[hb] at h5;cases h5
   |true=>rw[hb] at h5;cases h5;exact⟨rfl,rfl⟩
  obtain⟨Qk,rfl⟩:=Qk;obtain⟨l,s5,h7,h8⟩:=M.aR h6;obtain⟨B9,rfl⟩:=hU h7;obtain⟨n,s6,h9,gE⟩:=M.aR h8;obtain⟨rfl,rfl⟩:=bK gE;obtain⟨a,b⟩:=and_true.1 Qk;have a:=aM.1 a;have b:=dT.1 b;obtain⟨vz,g1,g2⟩:=HZ (P:=P) (w:=w) ρ Qj;have hlen:=g2.cells.length;simp only[Array.length_toList] at hlen;have yZ:(Array.range<|len*k).map (fun i=>(if len*k=0 then(#[]:Array Value) else vz.cells)[i % (if len*k=0 then(#[]:Array Value) else vz.cells).size]!)=(List.replicate len vz.cells.toList).flatten.toArray:=by
   by_cases q:len*k=0
   ·rw[q];have:(List.replicate len vz.cells.toList).flatten=[]:=by
     apply List.length_eq_zero_iff.1;have e1:(List.replicate len vz.cells.toList).flatten.length=len*vz.cells.size:=by simp
     rw[e1, ←hlen,b];exact q
    simp[this]
   ·simp only[if_neg q];have:k=vz.cells.size:=by omega
    subst this;exact ZW
  obtain⟨es,f1,f2⟩:=IB (ds:=(List.replicate len vz.cells.toList).flatten.toArray) hp (by simpa using Rz g2.cells len) B9;obtain⟨rfl,n1,σ,e1,e2,e3,e4⟩:=Me (P:=P) e [] r hf h9 f2;refine⟨σ,_,.slice (some ⟨w.heap.size,0,none⟩) len len,e1,?_,?_,e4,(gV.alloc w _).below r.size⟩
  ·have hes:(es.toList++[]).toArray=es:=by simp
   rw[hes] at e3 e4 ⊢;have Ql:¬(len*k>2 ^ 24):=by omega
   simp only[Instr.buildSlice,Sem.run_bind,dy eu,Result.andThen_ok,iM ye];rw[if_neg Ql];by_cases q:len*k=0
   ·rw[if_pos q];simp only[if_pos q] at yZ;simp only[Sem.run_bind,Sem.run_pure,Result.andThen_ok,yZ,f1,e3]
   ·rw[if_neg q];simp only[if_neg q] at yZ;simp only[Sem.run_bind,Sem.run_pure,Result.andThen_ok,g1,yZ,f1,e3]
  ·simp only[VR];exact⟨_,_,e2,rfl⟩
theorem YP{len:Nat}(he:∀x v,aI t x=some v->VR ρ v (ev x))(r:Rel B ρ s.h w)(hf:dF s.nx s1.nx ρ)(h:Aq P ty len parts.toList YO t s= .ok x s1)(ho:o.op= .buildSlice ty len parts):fZ P B ρ s s1 w x<|execOp ev o:=by
 unfold Aq at h;obtain⟨ps,h1,h2⟩:=bu h;have hp:v8 ρ ps (parts.map fun(i,x)=>(i,ev x)).toList:=by rw[Array.toList_map];exact My he h1
 have:=(YS (P:=P) hp r hf h2).op;simpa only[execOp,ho] using this
end
end Go.Rn
namespace Go.Rn
open Go.RowKit
section
variable {P:Program} {B:aL} {ρ:aw} {w:World} {s s1:AS} {x:AV} {YO:aK} {t:Tr AV} {ev:Operand->Value} {o:Oper}
theorem Fi{ty:TypeId}{cs:List AV}{ds:Array Value}{off:Nat}(hc:aA ρ cs ds.toList)(h:vj P ty cs off=some x):∃v,(part ty ds off).run P w= .ok v w/\VR ρ x v:=by
 unfold vj at h;cases ea:qB P ty with
 |none=>simp only[ea] at h;cases h
 |some b=>
  simp only[ea] at h;cases b with
  |true=>
   cases ek:eF P ty with
   |none=>simp only[ek] at h;cases h
   |some k=>
    simp only[ek] at h;injection h with h;subst h
    refine⟨.agg<|ds.extract off<|off+k,?_,?_⟩
    ·simp[part,Ap ea,iM ek]
    ·simp only[VR];refine⟨_,rfl,?_⟩;have:(ds.extract off<|off+k).toList=(ds.toList.drop off).take k:=by simp[List.extract]
     rw[this];exact(hc.drop off).take k
  |false=>
   obtain⟨v,hv,hr⟩:=hc.get off x h;refine⟨v,?_,hr⟩;have kh:ds[off]? =some v:=by simpa using hv
   simp[part,Ap ea,kh]
theorem bytes_beq(a b:ByteArray):(a == b)=(a.toList == b.toList):=beq_toListBytes a b
theorem LR{d:Nat}{eq:TypeId->AV->AV->Option Bool}(he:∀ty a b c v u,eq ty a b=some c->VR ρ a v->VR ρ b u->(Op.equalIn d ty v u).run P w= .ok c w){xs ys:List AV}{cs ds:Array Value}(hx:aA ρ xs cs.toList)(hy:aA ρ ys ds.toList):∀{fs:List Field} {b:Bool},eqFields P eq xs ys fs=some b->(Op.eqFields d cs ds fs).run P w= .ok b w
 |[],b,h=>by simp only[eqFields] at h;injection h with h;subst h;rfl
 |f::fs,b,h=>by
  simp only[eqFields] at h;cases en:(f.name == "_") with
  |true=>
   simp only[en] at h;have:¬(f.name≠ "_"):=by simpa using en
   rw[Op.eqFields,if_neg this];exact LR he hx hy h
  |false=>
   simp only[en] at h;have ct:f.name≠ "_" :=by intro e;rw[e] at en;simp at en
   rw[Op.eqFields,if_pos ct];cases e1:vj P f.type xs f.offset with
   |none=>simp only[e1] at h;cases h
   |some a=>
    cases e2:vj P f.type ys f.offset with
    |none=>simp only[e1,e2] at h;cases h
    |some c=>
     simp only[e1,e2] at h;obtain⟨v,g1,g2⟩:=Fi (w:=w) hx e1;obtain⟨u,g3,g4⟩:=Fi (w:=w) hy e2;cases e3:eq f.type a c with
     |none=>simp only[e3] at h;cases h
     |some q=>
      simp only[e3] at h;have g5:=he _ _ _ _ _ _ e3 g2 g4;cases q with
      |false=>injection h with h;subst h;simp[g1,g3,g5]
      |true=>simp only[] at h;simp[g1,g3,g5,LR he hx hy h]
theorem IY:∀{d:Nat} {ty:TypeId} {a b:AV} {c:Bool} {v u:Value},pQ P d ty a b=some c->VR ρ a v->VR ρ b u->(Op.equalIn d ty v u).run P w= .ok c w
 |0,_,_,_,_,_,_,h,_,_=>by simp only[pQ] at h;cases h
 |d+1,ty,a,b,c,v,u,h,ha,hb=>by
  simp only[pQ] at h;split at h<;>first|(cases h;done)|skip
  ·rename_i p q eu;injection h with h;subst h;simp only[VR] at ha hb;subst ha;subst hb
   simp[Op.equalIn,dy eu]
  ·rename_i k0 k p k' q eu;simp only[VR] at ha hb;subst ha;subst hb;cases hk:decide (k=k') with
   |false=>rw[hk] at h;cases h
   |true=>rw[hk] at h;injection h with h;subst h;simp[Op.equalIn,dy eu,of_decide_eq_true hk]
  ·rename_i e q eu;injection h with h;subst h;simp only[VR] at ha;subst ha
   cases q with
   |none=>simp only[VR] at hb;subst hb;simp[Op.equalIn,dy eu]
   |some q=>obtain⟨n,i⟩:=q;simp only[VR] at hb;obtain⟨_,_,_,rfl⟩:=hb;simp[Op.equalIn,dy eu]
  ·rename_i e q eu;injection h with h;subst h;simp only[VR] at hb;subst hb
   obtain⟨n,i⟩:=q;simp only[VR] at ha;obtain⟨_,_,_,rfl⟩:=ha;simp[Op.equalIn,dy eu]
  ·rename_i fs xs ys eu;cases hs:P.stoodInHeld ty with
   |true=>rw[hs] at h;cases h
   |false=>
    rw[hs] at h;simp only[VR] at ha hb;obtain⟨cs,rfl,hx⟩:=ha;obtain⟨ds,rfl,hy⟩:=hb;have hf:P.fieldsOf ty=fs:=by simp[Program.fieldsOf,eu]
    rw[run_equalIn_struct w d ty cs ds (by rw[hf];exact eu) hs,hf];exact LR (fun ty a b c v u e p q=>IY e p q) hx hy h
  ·rename_i e l1 c1 q l2 c2 eu;injection h with h;subst h
   have:∃k l,v= .slice none k l:=by cases c1<;>simp only[VR] at ha;exact⟨_,_,ha.1⟩
   obtain⟨_,_,rfl⟩:=this;cases q with
   |none=>
    have:∃k l,u= .slice none k l:=by cases c2<;>simp only[VR] at hb;exact⟨_,_,hb.1⟩
    obtain⟨_,_,rfl⟩:=this;simp[Op.equalIn,dy eu]
   |some q=>
    obtain⟨n,i⟩:=q;have:∃p k l,u= .slice (some p) k l:=by
     cases c2<;>simp only[VR] at hb
     ·obtain⟨_,_,_,rfl⟩:=hb;exact⟨_,_,_,rfl⟩
     ·obtain⟨_,_,_,_,rfl,_⟩:=hb;exact⟨_,_,_,rfl⟩
     ·obtain⟨_,_,_,_,_,_,rfl⟩:=hb;exact⟨_,_,_,rfl⟩
    obtain⟨_,_,_,rfl⟩:=this;simp[Op.equalIn,dy eu]
  ·rename_i e q l1 c1 l2 c2 eu;injection h with h;subst h
   have:∃k l,u= .slice none k l:=by cases c2<;>simp only[VR] at hb;exact⟨_,_,hb.1⟩
   obtain⟨_,_,rfl⟩:=this;obtain⟨n,i⟩:=q;have:∃p k l,v= .slice (some p) k l:=by
    cases c1<;>simp only[VR] at ha
    ·obtain⟨_,_,_,rfl⟩:=ha;exact⟨_,_,_,rfl⟩
    ·obtain⟨_,_,_,_,rfl,_⟩:=ha;exact⟨_,_,_,rfl⟩
    ·obtain⟨_,_,_,_,_,_,rfl⟩:=ha;exact⟨_,_,_,rfl⟩
   obtain⟨_,_,_,rfl⟩:=this;simp[Op.equalIn,dy eu]
  ·rename_i e n o len l2 c2 eu;have:∃k l,u= .slice none k l:=by cases c2<;>simp only[VR] at hb;exact⟨_,_,hb.1⟩
   obtain⟨_,_,rfl⟩:=this;simp only[VR] at ha;have key:∃a k l,v= .slice a k l/\c=a.isNone:=by
    rcases ha with⟨_,rfl,a0,cc,rfl,hz⟩|⟨b,sh,cc,_,rfl,hc⟩
    ·refine⟨a0,_,_,rfl,?_⟩;unfold PD at h;simp only at h;split at h
     ·rename_i q;injection h with h;subst h;rw[hz.2.1<|Nat.eq_of_beq_eq_true q];rfl
     ·split at h
      ·rename_i q;injection h with h;subst h
       cases a0 with
       |none=>exact absurd rfl<|hz.2.2<|Nat.eq_of_beq_eq_true q
       |some _=>rfl
      ·cases h
    ·refine⟨_,_,_,rfl,?_⟩;unfold PD at h;split at h
     ·split at h
      ·rename_i q;have q:=Nat.eq_of_beq_eq_true q;exact absurd q (hc aj).2
      ·split at h
       ·injection h with h;subst h;rfl
       ·cases h
     ·injection h with h;subst h;rfl
   obtain⟨a,_,_,rfl,rfl⟩:=key;cases a<;>simp[Op.equalIn,dy eu]
theorem aaO{op:BinOp}{k:IntKind}{a b:Int}(hs:yM op=false)(h:DE op k a b=some x):∃v,(binOp op 0 (.int k a)<|.int k b).run P w= .ok v w/\VR ρ x v/\∀ty,binOp op ty (.int k a) (.int k b)=binOp op 0 (.int k a) (.int k b):=by
 cases op<;>simp only[DE] at h<;>first
  |(cases h;done)
  |(simp[yM] at hs;done)
  |(injection h with h;subst h;exact⟨_,by simp[binOp,Op.intArith,Op.intBits,Op.intCmp];first|rfl|done,by simp[VR],fun _=>rfl⟩)
  |(cases hd:decide (b=0) with
   |true=>rw[hd] at h;cases h
   |false=>
    rw[hd] at h;injection h with h;subst h
    exact⟨_,by simp[binOp,Op.intDiv,of_decide_eq_false hd];first|rfl|done,by simp[VR],fun _=>rfl⟩)
end
end Go.Rn
namespace Go.Rn
open Go.RowKit
variable {ty:TypeId} {v u:Value} {a b:AV} {y:Operand} {c:cC}
section
variable {P:Program} {B:aL} {ρ:aw} {w:World} {s s1:AS} {x:AV} {YO:aK} {t:Tr AV} {ev:Operand->Value} {o:Oper}
theorem Zv{op:BinOp}{k k':IntKind}{a b:Int}(hs:yM op=true)(h:NO op k a b=some x):∃v,(binOp op ty (.int k a)<|.int k' b).run P w= .ok v w/\VR ρ x v:=by
 unfold NO at h;cases hd:decide (b<0) with
 |true=>rw[hd] at h;cases h
 |false=>
  rw[hd] at h;have hn:=of_decide_eq_false hd;cases op<;>simp only[yM] at hs<;>first|(cases hs;done)|skip
  ·injection h with h;subst h;exact⟨_,by simp[binOp,Op.shift,hn];first|rfl|done,by simp[VR]⟩
  ·injection h with h;subst h;exact⟨_,by simp[binOp,Op.shift,hn];first|rfl|done,by simp[VR]⟩
theorem uJ{n i len:Nat}(h:VR ρ (.slice (some (n,i)) len c) v):∃b N q k,ρ n=some (b,N)/\v= .slice (some ⟨b,q,none⟩) len k:=by
 cases c<;>simp only[VR] at h
 ·obtain⟨b,N,e,rfl⟩:=h;exact⟨b,N,_,_,e,rfl⟩
 ·obtain⟨b,N,_,e,rfl,_⟩:=h;exact⟨b,N,_,_,e,rfl⟩
 ·obtain⟨rfl,b,N,_,_,e,rfl⟩:=h;exact⟨b,N,_,_,e,rfl⟩
theorem ma{len:Nat}(h:VR ρ (.slice none len c) v):len=0/\c= .known 0/\v= .slice none 0 0:=by cases c<;>simp only[VR] at h;obtain⟨rfl,rfl,rfl⟩:=h;exact⟨rfl,rfl,rfl⟩
theorem Vr{d:Nat}{c:Bool}(h:pQ P (d+1) ty a b=some c)(ha:VR ρ a v)(hb:VR ρ b u)(n1:∀k p k' q,a= .int k p->b= .int k' q->False):
 binOp .eql ty v u=(do pure (.bool<|←Op.equal ty v u))/\binOp .neq ty v u=(do pure (.bool<|!(←Op.equal ty v u))):=by
 simp only[pQ] at h;split at h<;>first|(cases h;done)|skip
 ·simp only[VR] at ha hb;subst ha;subst hb;exact⟨rfl,rfl⟩
 ·exact(n1 _ _ _ _ rfl rfl).elim
 ·rename_i e q eu;simp only[VR] at ha;subst ha;cases q with
  |none=>simp only[VR] at hb;subst hb;exact⟨rfl,rfl⟩
  |some q=>obtain⟨n,i⟩:=q;simp only[VR] at hb;obtain⟨_,_,_,rfl⟩:=hb;exact⟨rfl,rfl⟩
 ·rename_i e q eu;simp only[VR] at hb;subst hb;obtain⟨n,i⟩:=q;simp only[VR] at ha;obtain⟨_,_,_,rfl⟩:=ha;exact⟨rfl,rfl⟩
 ·simp only[VR] at ha hb;obtain⟨_,rfl,_⟩:=ha;obtain⟨_,rfl,_⟩:=hb;exact⟨rfl,rfl⟩
 ·rename_i e l1 c1 q l2 c2 eu;obtain⟨_,_,rfl⟩:=ma ha;cases q with
  |none=>obtain⟨_,_,rfl⟩:=ma hb;exact⟨rfl,rfl⟩
  |some q=>obtain⟨n,i⟩:=q;obtain⟨_,_,_,_,_,rfl⟩:=uJ hb;exact⟨rfl,rfl⟩
 ·rename_i e q l1 c1 l2 c2 eu;obtain⟨_,_,rfl⟩:=ma hb;obtain⟨n,i⟩:=q;obtain⟨_,_,_,_,_,rfl⟩:=uJ ha;exact⟨rfl,rfl⟩
 ·obtain⟨_,_,rfl⟩:=ma hb;simp only[VR] at ha;rcases ha with⟨_,_,_,_,rfl,_⟩|⟨_,_,_,_,rfl,_⟩<;>exact⟨rfl,rfl⟩
theorem ZX{op:BinOp}(h:A7 P op ty a b=some x)(ha:VR ρ a v)(hb:VR ρ b u):∃r,(binOp op ty v u).run P w= .ok r w/\VR ρ x r:=by
 unfold A7 at h;split at h
 ·rename_i k p k' q;simp only[VR] at ha hb;subst ha;subst hb;cases hs:yM op with
  |true=>rw[hs] at h;exact Zv hs h
  |false=>
   rw[hs] at h;cases hk:decide (k=k') with
   |false=>rw[hk] at h;cases h
   |true=>rw[hk] at h;have:=of_decide_eq_true hk;subst this;obtain⟨r,h1,h2,h3⟩:=aaO (P:=P) (w:=w) (ρ:=ρ) hs h;exact⟨r,by rw[h3];exact h1,h2⟩
 ·rename_i n1;split at h<;>first|(cases h;done)|skip
  ·cases e:pQ P Op.maxDepth ty a b with
   |none=>rw[e] at h;cases h
   |some c=>
    rw[e] at h;injection h with h;subst h
    have e':pQ P (9999+1) ty a b=some c:=e;have:=(Vr (P:=P) e' ha hb n1).1;have h2:(Op.equal ty v u).run P w= .ok c w:=IY e ha hb;exact⟨.bool c,by rw[this];simp[h2],by simp[VR]⟩
  ·cases e:pQ P Op.maxDepth ty a b with
   |none=>rw[e] at h;cases h
   |some c=>
    rw[e] at h;injection h with h;subst h
    have e':pQ P (9999+1) ty a b=some c:=e;have:=(Vr (P:=P) e' ha hb n1).2;have h2:(Op.equal ty v u).run P w= .ok c w:=IY e ha hb;exact⟨.bool !c,by rw[this];simp[h2],by simp[VR]⟩
theorem F0(ha:VR ρ a .nilIface):a= .nilIface:=by
 cases a<;>(try simp only[VR] at ha)<;>first|rfl|(cases ha;done)|skip
 ·rename_i q;cases q<;>simp only[VR] at ha<;>first|(cases ha;done)|(obtain⟨_,_,_,e⟩:=ha;cases e)
 ·rename_i q l c;cases q with
  |none=>obtain⟨_,_,e⟩:=ma ha;cases e
  |some q=>obtain⟨n,i⟩:=q;obtain⟨_,_,_,_,_,e⟩:=uJ ha;cases e
 ·rcases ha with⟨_,_,_,_,e,_⟩|⟨_,_,_,_,e,_⟩<;>cases e
 ·obtain⟨_,_,_,e⟩:=ha;cases e
 ·rename_i q;cases q<;>simp only[VR] at ha<;>first|(cases ha;done)|(obtain⟨_,_,_,e⟩:=ha;cases e)
 ·obtain⟨_,_,_,e,_⟩:=ha;cases e
 ·obtain⟨_,_,_,e⟩:=ha;cases e
 ·obtain⟨_,e,_⟩:=ha;cases e
 ·obtain⟨_,e,_⟩:=ha;cases e
 ·obtain⟨_,e,_⟩:=ha;cases e
theorem Vs{cs:Array Value}(ha:VR ρ a<|.agg cs):∃l,a= .agg l:=by
 cases a<;>(try simp only[VR] at ha)<;>first|exact⟨_,rfl⟩|(cases ha;done)|skip
 ·rename_i q;cases q<;>simp only[VR] at ha<;>first|(cases ha;done)|(obtain⟨_,_,_,e⟩:=ha;cases e)
 ·rename_i q l c;cases q with
  |none=>obtain⟨_,_,e⟩:=ma ha;cases e
  |some q=>obtain⟨n,i⟩:=q;obtain⟨_,_,_,_,_,e⟩:=uJ ha;cases e
 ·rcases ha with⟨_,_,_,_,e,_⟩|⟨_,_,_,_,e,_⟩<;>cases e
 ·obtain⟨_,_,_,e⟩:=ha;cases e
 ·rename_i q;cases q<;>simp only[VR] at ha<;>first|(cases ha;done)|(obtain⟨_,_,_,e⟩:=ha;cases e)
 ·obtain⟨_,_,_,e,_⟩:=ha;cases e
 ·obtain⟨_,_,_,e⟩:=ha;cases e
 ·obtain⟨_,e,_⟩:=ha;cases e
 ·obtain⟨_,e,_⟩:=ha;cases e
theorem aaP{op:BinOp}{z:Operand}(h:IU P op ty y z a b=true)(ha:VR ρ a v)(hb:VR ρ b u):(eqGuard op ty y z v u).run P w= .ok () w:=by
 have key:(op= .eql\/op= .neq)->Mu P ty y z a b=true:=by rintro (rfl|rfl)<;>exact h
 by_cases eX:op= .eql\/op= .neq
 ·have hk:=key eX;by_cases h1:v= .nilIface/\u= .nilIface
  ·obtain⟨rfl,rfl⟩:=h1;have:=F0 ha;subst this;have:=F0 hb;subst this;have hc:(isConst y||isConst z)=true:=hk;rcases eX with rfl|rfl<;>(cases y<;>cases z<;>first|(simp[isConst] at hc;done)|rfl)
  ·by_cases h2:(∃cs,v= .agg cs)/\(∃ds,u= .agg ds)
   ·obtain⟨⟨cs,rfl⟩,⟨ds,rfl⟩⟩:=h2;obtain⟨l,rfl⟩:=Vs ha;obtain⟨m,rfl⟩:=Vs hb;have hq:P.eqGuardType P.depth ty=false:=by simpa[Mu] using hk
    exact run_eqGuard_agg w op ty y z cs ds hq
   ·rcases eX with rfl|rfl<;>(cases v<;>cases u<;>first|rfl|(exact absurd ⟨rfl,rfl⟩ h1)|(exact absurd ⟨⟨_,rfl⟩,⟨_,rfl⟩⟩ h2))
 ·cases op<;>first|rfl|(exact absurd (.inl rfl) eX)|(exact absurd (.inr rfl) eX)
theorem abY{op:BinOp}{yt:TypeId}{z:Operand}(he:∀x v,aI t x=some v->VR ρ v (ev x))(r:Rel B ρ s.h w)(h:tV P op ty y z YO t s= .ok x s1)(ho:o.op= .binOp op ty y z yt):fZ P B ρ s s1 w x<|execOp ev o:=by unfold tV at h;obtain⟨a,h1,h2⟩:=bu h;obtain⟨b,h3,h4⟩:=bu h2;obtain⟨h5,h6⟩:=cZ h4;obtain⟨h7,rfl⟩:=hU h6;obtain⟨q,g1,g2⟩:=ZX (P:=P) (w:=w) h7 (he y a h1)<|he z b h3;have g3:=aaP (P:=P) (w:=w) h5 (he y a h1)<|he z b h3;refine⟨ρ,w,.value q,Ext.refl _ _ _,?_,g2,r,cL.refl _ _⟩;simp[execOp,ho,g3,g1]
theorem adr{op:UnOp}(he:∀x v,aI t x=some v->VR ρ v (ev x))(r:Rel B ρ s.h w)(h:B3 op y YO t s= .ok x s1)(ho:o.op= .unOp op ty y):fZ P B ρ s s1 w x<|execOp ev o:=by
 unfold B3 at h;obtain⟨a,h1,h2⟩:=bu h;obtain⟨h3,rfl⟩:=hU h2;have ha:=he y a h1;have:∃q,(Op.unary op<|ev y).run P w= .ok q w/\VR ρ x q:=by
  unfold V6 at h3;split at h3<;>first|(cases h3;done)|skip
  ·rename_i c;simp only[VR] at ha;rw[ha];injection h3 with h3;subst h3
   exact⟨_,rfl,by simp[VR]⟩
 obtain⟨q,g1,g2⟩:=this;refine⟨ρ,w,.value q,Ext.refl _ _ _,?_,g2,r,cL.refl _ _⟩;simp[execOp,ho,g1]
end
end Go.Rn
namespace Go.Rn
open Go.RowKit
variable {y:Operand} {ty:TypeId} {n f i:Nat}
section
variable {P:Program} {B:aL} {ρ:aw} {w:World} {s s1:AS} {x:AV} {YO:aK} {t:Tr AV} {ev:Operand->Value} {o:Oper}
theorem LJ{size m len:Nat}{c:cC}(h:c≠ .lost):firstCells size n (.slice (some (m,i)) len c)=jd m i (n*size):=by cases len<;>cases c<;>first|rfl|exact absurd rfl h
theorem Zc{src dst:TypeId}(he:∀x v,aI t x=some v->VR ρ v (ev x))(fi:bD s)(r:Rel B ρ s.h w)(h:AD P src dst y YO t s= .ok x s1)(ho:o.op= .convert src dst y):fZ P B ρ s s1 w x<|execOp ev o:=by
 unfold AD at h;obtain⟨a,h1,h2⟩:=bu h;have ha:=he y a h1;have plain:lift (Ng P src dst a) s= .ok x s1->fZ P B ρ s s1 w x (execOp ev o):=by
  intro h2;obtain⟨h3,rfl⟩:=hU h2;have:∃q,(convert src dst<|ev y).run P w= .ok q w/\VR ρ x q:=by
   unfold Ng at h3;split at h3<;>first|(cases h3;done)|skip
   ·rename_i d k n e1 e2 _;simp only[VR] at ha;rw[ha];injection h3 with h3;subst h3
    refine⟨.int d<|d.wrap n,?_,by simp[VR]⟩;simp[convert,dy e1,dy e2,Conv.intToInt]
  obtain⟨q,g1,g2⟩:=this;exact⟨ρ,w,.value q,Ext.refl _ _ _,by simp[execOp,ho,g1],g2,r,cL.refl _ _⟩
 cases a<;>first|exact plain h2|(have h':(R.bad:R AV)= .ok x s1:=h2;cases h')
theorem ajR(he:∀x v,aI t x=some v->VR ρ v (ev x))(r:Rel B ρ s.h w)(h:CG P ty y YO t s= .ok x s1)(ho:o.op= .makeInterface ty y):fZ P B ρ s s1 w x<|execOp ev o:=by have h':(R.bad:R AV)= .ok x s1:=h;cases h'
theorem Y0{fn:Fn}{first captured:Array Operand}(he:∀x v,aI t x=some v->VR ρ v (ev x))(r:Rel B ρ s.h w)(h:Aw fn first.toList captured.toList YO t s= .ok x s1)(ho:o.op= .makeFunc fn first captured):fZ P B ρ s s1 w x<|execOp ev o:=by
 unfold Aw at h;obtain⟨h0,h1⟩:=cZ h;obtain⟨f,h2,h3⟩:=bu h1;obtain⟨c,h4,h5⟩:=bu h3;obtain⟨rfl,rfl⟩:=bK h5;refine⟨ρ,w,.value<|.func fn (first.map ev)<|captured.map ev,Ext.refl _ _ _,?_,?_,r,cL.refl _ _⟩
 ·simp[execOp,ho,Instr.makeFunc]
 ·simp only[VR];refine⟨by cases fn<;>first|rfl|(simp[WO] at h0),_,_,rfl,?_,?_⟩
  ·rw[Array.toList_map];exact FC he h2
  ·rw[Array.toList_map];exact FC he h4
theorem UA(r:Rel B ρ s.h w)(hf:dF s.nx s1.nx ρ)(h:fu (.map [] 0) s= .ok n s1):
 n=s.nx/\Ext s.nx s1.nx ρ (eO ρ n (w.heap.size,0))/\Rel B (eO ρ n (w.heap.size,0)) s1.h {w with heap:=w.heap.push<|.map #[] 0}:=by
 obtain⟨ht,rfl,rfl⟩:=uM h;have jg:ρ s.nx=none:=hf s.nx (Nat.le_refl _) (Nat.lt_succ_self _) aj;refine⟨rfl,Ext.mT jg,r.new ht jg rfl ⟨#[],rfl,rfl,rfl⟩⟩
theorem Zd{q:Option Operand}(he:∀x v,aI t x=some v->VR ρ v (ev x))(r:Rel B ρ s.h w)(hf:dF s.nx s1.nx ρ)(h:AE P ty q YO t s= .ok x s1)(ho:o.op= .makeMap ty q):fZ P B ρ s s1 w x<|execOp ev o:=by
 unfold AE at h;obtain⟨u,s2,h1,h2⟩:=M.aR h;obtain⟨n,s3,h3,h4⟩:=M.aR h2;obtain⟨rfl,rfl⟩:=bK h4;cases q with
 |none=>
  obtain⟨_,rfl⟩:=bK h1;obtain⟨rfl,e1,e2⟩:=UA r hf h3;refine⟨_,_,.value<|.map<|some w.heap.size,e1,?_,?_,e2,(gV.alloc w _).below r.size⟩
  ·simp[execOp,ho,Instr.makeMap]
  ·simp only[VR];exact⟨_,_,iN _ _ _,rfl⟩
 |some y=>
  obtain⟨v,g1,g2⟩:=bu h1;obtain⟨i,g3,g4⟩:=bu g2;obtain⟨k,_,hv⟩:=(he y v g1).C7 g3;have:J2 P ty=true/\s2=s:=by
   cases hb:J2 P ty with
   |false=>rw[hb] at g4;cases g4
   |true=>rw[hb] at g4;cases g4;exact⟨rfl,rfl⟩
  obtain⟨hm,rfl⟩:=this;obtain⟨rfl,e1,e2⟩:=UA r hf h3;refine⟨_,_,.value<|.map<|some w.heap.size,e1,?_,?_,e2,(gV.alloc w _).below r.size⟩
  ·unfold J2 at hm;split at hm
   ·rename_i a b e;simp[execOp,ho,Instr.makeMap,dy e,hv,asInt,asIntOf]
   ·cases hm
  ·simp only[VR];exact⟨_,_,iN _ _ _,rfl⟩
theorem Ar{i:Int}{len:Nat}(h:within i len=some n):i=(n:Int)/\n<len:=by
 unfold within at h;cases i with
 |negSucc k=>cases h
 |ofNat k=>
  cases hb:Nat.blt k len with
  |false=>simp only[hb] at h;cases h
  |true=>
   simp only[hb] at h;injection h with h;subst h
   exact⟨rfl,by rw[←blt_eq];exact hb⟩
theorem Y1{a:AV}{v:Value}(ha:VR ρ a v)(h:fieldAddr P ty a f=some x):∃q,(Instr.fieldAt ty v f).run P w= .ok q w/\VR ρ x q:=by
 unfold fieldAddr at h;split at h<;>first|(cases h;done)|skip
 rename_i fs e;cases e1:fs[f]? with
 |none=>rw[e1] at h;cases h
 |some fd=>
  simp only[e1] at h;cases e2:eF P fd.type with
  |none=>rw[e2] at h;cases h
  |some k=>
   simp only[e2] at h;cases e3:Nat.beq k 0 with
   |true=>rw[e3] at h;cases h
   |false=>
    simp only[e3] at h;have hk:¬k=0:=by rw[←beq_eq,e3];simp
    split at h<;>first|(cases h;done)|skip
    ·rename_i n i;injection h with h;subst h
     simp only[VR] at ha;obtain⟨b,N,e4,rfl⟩:=ha;refine⟨.pointer<|some ⟨b,i+fd.offset,none⟩,?_,?_⟩
     ·simp[Instr.fieldAt,dy e,e1,Instr.sureAddr,fieldPlace,iM e2,hk,Addr.rf]
     ·simp only[VR];exact⟨b,N,e4,rfl⟩
    ·rename_i n i;injection h with h;subst h
     simp only[VR] at ha;obtain⟨b,sh,e4,rfl⟩:=ha;refine⟨.pointer<|some ⟨b,sh+i+fd.offset,none⟩,?_,?_⟩
     ·simp[Instr.fieldAt,dy e,e1,Instr.sureAddr,fieldPlace,iM e2,hk,Addr.rf]
     ·simp only[VR];exact⟨b,sh,e4,by rw[Nat.add_assoc]⟩
theorem YT(he:∀x v,aI t x=some v->VR ρ v (ev x))(r:Rel B ρ s.h w)(h:Au P ty y f YO t s= .ok x s1)(ho:o.op= .fieldAddr ty y f):fZ P B ρ s s1 w x<|execOp ev o:=by unfold Au at h;obtain⟨a,h1,h2⟩:=bu h;obtain⟨h3,rfl⟩:=hU h2;obtain⟨q,g1,g2⟩:=Y1 (P:=P) (w:=w) (he y a h1) h3;exact⟨ρ,w,.value q,Ext.refl _ _ _,by simp[execOp,ho,g1],g2,r,cL.refl _ _⟩
theorem ZY(he:∀x v,aI t x=some v->VR ρ v (ev x))(r:Rel B ρ s.h w)(h:Ba P ty y f YO t s= .ok x s1)(ho:o.op= .field ty y f):fZ P B ρ s s1 w x<|execOp ev o:=by
 unfold Ba at h;obtain⟨a,h1,h2⟩:=bu h;obtain⟨h3,rfl⟩:=hU h2;have ha:=he y a h1;unfold Uv at h3;split at h3<;>first|(cases h3;done)|skip
 rename_i fs cs e;cases e1:fs[f]? with
 |none=>rw[e1] at h3;cases h3
 |some fd=>simp only[e1] at h3;simp only[VR] at ha;obtain⟨ds,hv,hc⟩:=ha;obtain⟨q,g1,g2⟩:=Fi (P:=P) (w:=w) hc h3;exact⟨ρ,w,.value q,Ext.refl _ _ _,by simp[execOp,ho,hv,Instr.field,dy e,e1,asAgg,g1],g2,r,cL.refl _ _⟩
theorem YU{z:Operand}(he:∀x v,aI t x=some v->VR ρ v (ev x))(r:Rel B ρ s.h w)(h:p9 P ty y z YO t s= .ok x s1)(ho:o.op= .indexAddr ty y z):fZ P B ρ s s1 w x<|execOp ev o:=by
 unfold p9 at h;obtain⟨a,h1,h2⟩:=bu h;obtain⟨ix,h3,h4⟩:=bu h2;obtain⟨h5,rfl⟩:=hU h4;have ha:=he y a h1;unfold indexAddr at h5;cases ei:intOf ix with
 |none=>rw[ei] at h5;cases h5
 |some i=>
  simp only[ei] at h5;obtain⟨k,_,hi⟩:=(he z ix h3).C7 ei;have:∃q,(Instr.indexAt ty (ev y)<|ev z).run P w= .ok q w/\VR ρ x q:=by
   rw[hi];split at h5<;>first|(cases h5;done)|skip
   ·rename_i len e n off e1;split at h5<;>first|(cases h5;done)|skip
    rename_i j m e2 e3;injection h5 with h5;subst h5
    obtain⟨rfl,hj⟩:=Ar e2;simp only[VR] at ha;obtain⟨b,N,e4,hv⟩:=ha;rw[hv];refine⟨.pointer<|some ⟨b,off+j*m,none⟩,?_,by simp only[VR];exact⟨b,N,e4,rfl⟩⟩;have hr:(0:Int)<=(j:Int)/\(j:Int)<(len:Int):=⟨by omega,by omega⟩;simp[Instr.indexAt,asIntOf,dy e1,Instr.sureAddr,hr,iM e3,Addr.rf,hj]
   ·rename_i e n off len cap e1;split at h5<;>first|(cases h5;done)|skip
    rename_i j m e2 e3;injection h5 with h5;subst h5
    obtain⟨rfl,hj⟩:=Ar e2;have hr:(0:Int)<=(j:Int)/\(j:Int)<(len:Int):=⟨by omega,by omega⟩;have fin:∀b N c,ρ n=some (b,N)->ev y= .slice (some ⟨b,off,none⟩) len c->∃q,(Instr.indexAt ty (ev y)<|.int k j).run P w= .ok q w/\VR ρ (.ptr<|some (n,off+j*m)) q:=by intro b N c e4 hv;rw[hv];refine⟨.pointer<|some ⟨b,off+j*m,none⟩,?_,by simp only[VR];exact⟨b,N,e4,rfl⟩⟩;simp[Instr.indexAt,asIntOf,dy e1,hr,iM e3,Addr.rf,hj]
    cases cap with
    |known c=>simp only[VR] at ha;obtain⟨b,N,e4,hv⟩:=ha;exact fin b N c e4 hv
    |aq lo e5=>simp only[VR] at ha;obtain⟨b,N,c,e4,hv,_⟩:=ha;exact fin b N c e4 hv
    |lost=>simp only[VR] at ha;omega
   ·rename_i e n off len e1;split at h5<;>first|(cases h5;done)|skip
    rename_i j m e2 e3;injection h5 with h5;subst h5
    obtain⟨rfl,hj⟩:=Ar e2;have hr:(0:Int)<=(j:Int)/\(j:Int)<(len:Int):=⟨by omega,by omega⟩;simp only[VR] at ha;rcases ha with⟨_,h0,_⟩|⟨b,sh,c,e4,hv,_⟩
    ·omega
    rw[hv];refine⟨.pointer<|some ⟨b,sh+(off+j*m),none⟩,?_,by simp only[VR];exact⟨b,sh,e4,rfl⟩⟩;simp[Instr.indexAt,asIntOf,dy e1,hr,iM e3,Addr.rf,hj,Nat.add_assoc]
  obtain⟨q,g1,g2⟩:=this;exact⟨ρ,w,.value q,Ext.refl _ _ _,by simp[execOp,ho,g1],g2,r,cL.refl _ _⟩
theorem ZZ{z:Operand}(he:∀x v,aI t x=some v->VR ρ v (ev x))(r:Rel B ρ s.h w)(h:Bb P ty y z YO t s= .ok x s1)(ho:o.op= .index ty y z):fZ P B ρ s s1 w x<|execOp ev o:=by
 unfold Bb at h;obtain⟨a,h1,h2⟩:=bu h;obtain⟨ix,h3,h4⟩:=bu h2;obtain⟨h5,rfl⟩:=hU h4;have ha:=he y a h1;unfold indexOf at h5;cases ei:intOf ix with
 |none=>rw[ei] at h5;cases h5
 |some i=>
  simp only[ei] at h5;obtain⟨k,_,hi⟩:=(he z ix h3).C7 ei;have:∃q,(Instr.index ty (ev y)<|ev z).run P w= .ok q w/\VR ρ x q:=by
   rw[hi];split at h5<;>first|(cases h5;done)|skip
   ·rename_i len e cs e1;split at h5<;>first|(cases h5;done)|skip
    rename_i j m e2 e3;obtain⟨rfl,hj⟩:=Ar e2;simp only[VR] at ha;obtain⟨ds,hv,hc⟩:=ha;rw[hv];obtain⟨q,g1,g2⟩:=Fi (P:=P) (w:=w) hc h5;have hr:(0:Int)<=(j:Int)/\(j:Int)<(len:Int):=⟨by omega,by omega⟩;refine⟨q,?_,g2⟩;simp[Instr.index,asIntOf,dy e1,hr,iM e3,g1,hj]
  obtain⟨q,g1,g2⟩:=this;exact⟨ρ,w,.value q,Ext.refl _ _ _,by simp[execOp,ho,g1],g2,r,cL.refl _ _⟩
theorem Zw{xt:TypeId}{ok:Bool}(he:∀x v,aI t x=some v->VR ρ v (ev x))(r:Rel B ρ s.h w)(h:C5 P ty ok y YO t s= .ok x s1)(ho:o.op= .typeAssert y xt ty ok):fZ P B ρ s s1 w x<|execOp ev o:=by have h':(R.bad:R AV)= .ok x s1:=h;cases h'
theorem Ze(he:∀x v,aI t x=some v->VR ρ v (ev x))(r:Rel B ρ s.h w)(h:AG y i YO t s= .ok x s1)(ho:o.op= .extract y i):fZ P B ρ s s1 w x<|execOp ev o:=by
 unfold AG at h;obtain⟨a,h1,h2⟩:=bu h;obtain⟨h3,rfl⟩:=hU h2;have ha:=he y a h1;unfold partOf at h3;split at h3<;>first|(cases h3;done)|skip
 rename_i l;simp only[VR] at ha;obtain⟨vs,hv,hl⟩:=ha;obtain⟨q,g1,g2⟩:=hl.get i x h3;have yd:vs[i]? =some q:=by simpa using g1
 exact⟨ρ,w,.value q,Ext.refl _ _ _,by simp[execOp,ho,hv,Instr.extract,yd],g2,r,cL.refl _ _⟩
end
end Go.Rn
