import Derived.Test.YtjcfiaeoopphoaaDoorProg
import Derived.Test.YtjcfiaeoopphoaaDoorRnGC
import Derived.KernelRfl
import Derived.Test.YtjcfiaeoopphoaaDoorRnGB
set_option maxRecDepth 100000
set_option maxHeartbeats 8000000
set_option linter.unusedSimpArgs false
set_option linter.unusedVariables false
open Bool renaming and_eq_true → TW, and_true → VE, eq_iff_iff → VU, or_eq_true → U0, true_and → VN
open Int renaming le_refl → Vd, tmod → Uh
open List renaming Perm.refl → UL, all_append → U9, all_cons → TS, all_eq_true → TG, append_assoc → Um, append_inj → Vq, append_nil → U8, cons.injEq → TQ, cons_append → Vf, drop → UH, dropLast_subset → Wv, drop_drop → Up, drop_eq_nil_iff → UO, drop_of_length_le → Vc, drop_zero → T8, eq_nil_of_length_eq_zero → UY, find?_eq_none → Wo, find?_some → Wq, flatten_cons → T5, foldl_cons → Un, getD_eq_getElem?_getD → T9, getElem?_append_left → Ux, getElem?_cons_zero → UA, getElem?_drop → Ue, getElem?_eq_getElem → TE, getElem?_eq_none → Uf, isEmpty_iff → VV, length_append → TM, length_cons → TL, length_dropLast → Wu, length_map → T3, length_nil → Ub, length_range → Ws, length_set → T2, length_take → T4, map_append → Vm, map_cons → T0, map_inj_right → VT, mem_append → TP, mem_append_left → T7, mem_append_right → TU, mem_cons → Ty, mem_cons_of_mem → TB, mem_cons_self → TA, mem_flatten → Vb, mem_map → TI, mem_of_find?_eq_some → Wp, mem_of_getElem? → TY, mem_of_mem_drop → Wt, mem_range → Uz, mem_singleton → TC, nil_append → UB, nodup_nil → UD, not_mem_nil → TV, range → Ui, reverse_reverse → UC, take_add_one → VW, take_of_length_le → UG, take_succ_cons → Vs, take_zero → Vp
open Nat renaming add_zero → Ul, beq → Tx, ble → Tw, blt → Tv, eq_of_beq_eq_true → Ug, le_of_lt → U1, le_refl → Tz, le_trans → TO, lt_of_lt_of_le → TJ, mul_one → Va, sub_zero → Uk, succ_pos → Uu, zero_add → T6
open Option renaming some.injEq → Ud
open Go Go.Rn Go.RowKit Go.Proofs
noncomputable section
namespace cC
inductive Ex where
 |mk (op n:Int) (args:List Ex)
instance:Inhabited Ex:=⟨.mk 0 0 []⟩
mutual
def aH:Ex->List AV
 | .mk op n args=>[.int .u8 op,.int .i64 n,.ab (nm<|dC args) 0 args.length]
def dC:List Ex->List AV
 |[]=>[]
 |e::l=>aH e++dC l
end
theorem DY:∀l:List Ex,dC l=(l.map aH).flatten
 |[]=>by rw[dC];rfl
 |e::l=>by rw[dC,DY l];rfl
theorem OY{op n:Int}{args:List Ex}:aH (.mk op n args)=[.int .u8 op,.int .i64 n,ar aH args]:=by rw[aH,DY];rfl
theorem lp:kA 3 aH:=⟨fun⟨_,_,_⟩=>by rw[aH];rfl,fun⟨_,_,_⟩=>by rw[aH];show(true&&(true&&(Tw top (nm _)&&true)))=true;rw[aI.2<|cR _];rfl⟩
theorem aii(l:List Ex):(dC l).all AV.eR=true:=by rw[DY];exact lp.all l
theorem uu{l m:List AV}(h1:l.all AV.eR=true)(h2:m.all AV.eR=true)(h:nm l=nm m):l=m:=by have e:=Al h1;rw[h,Al h2] at e;injection e with e;exact e.symm
mutual
theorem oe:∀x y:Ex,aH x=aH y->x=y
 | .mk a b l,.mk c d m,h=>by rw[aH,aH] at h;simp only[TQ,AV.int.injEq,AV.ab.injEq,true_and,_root_.and_true] at h;obtain⟨h1,h2,h3,_⟩:=h;rw[h1,h2,aja l m<|uu (aii l) (aii m) h3]
theorem aja:∀l m:List Ex,dC l=dC m->l=m
 |[],[],_=>rfl
 |[],⟨_,_,_⟩::m,h=>by rw[dC,dC,aH] at h;cases h
 |⟨_,_,_⟩::l,[],h=>by rw[dC,dC,aH] at h;cases h
 |x::l,y::m,h=>by rw[dC,dC] at h;obtain⟨h1,h2⟩:=Vq h (by rw[lp.len x,lp.len y]);rw[oe x y h1,aja l m h2]
end
def Ex.op:Ex->Int| .mk o _ _=>o
def Ex.n:Ex->Int| .mk _ n _=>n
def Ex.args:Ex->List Ex| .mk _ _ l=>l
def fh:Nat->Ex->Bool
 |0,_=>false
 |k+1,.mk op n args=>
  if op=1 then args.isEmpty else if op=2 then args.isEmpty&&decide (0<=n)&&decide (n<8) else if op=3 then args.isEmpty&&decide (0<=n)&&decide (n<6)
  else if op<4\/op>8\/n≠0 then false else decide (args.length=2)&&fh k (args.getD 0 default)&&fh k (args.getD 1 default)
theorem NO{k:Nat}{op n:Int}{args:List Ex}:fh (k+1) (.mk op n args)=if op=1 then args.isEmpty else if op=2 then args.isEmpty&&decide (0<=n)&&decide (n<8) else if op=3 then args.isEmpty&&decide (0<=n)&&decide (n<6) else if op<4\/op>8\/n≠0 then false else decide (args.length=2)&&fh k (args.getD 0 default)&&fh k (args.getD 1 default):=rfl
end cC
namespace cY
open cC
inductive St where
 |mk (kind to:Int) (a b:Ex) (body other:List St)
instance:Inhabited St:=⟨.mk 0 0 default default [] []⟩
mutual
def aM:St->List AV
 | .mk kind to a b body other=>[.int .u8 kind,.int .i64 to]++(aH a++(aH b++[.ab (nm<|bC body) 0 body.length,.ab (nm<|bC other) 0 other.length]))
def bC:List St->List AV
 |[]=>[]
 |e::l=>aM e++bC l
end
theorem vZ:∀l:List St,bC l=(l.map aM).flatten
 |[]=>by rw[bC];rfl
 |e::l=>by rw[bC,vZ l];rfl
theorem amZ{kind to:Int}{a b:Ex}{body other:List St}:aM (.mk kind to a b body other)=[.int .u8 kind,.int .i64 to]++(aH a++(aH b++[ar aM body,ar aM other])):=by rw[aM,vZ,vZ];rfl
theorem lq:kA 10 aM:=⟨fun⟨_,_,a,b,_,_⟩=>by
 rw[aM,TM,TM,TM,lp.len a,lp.len b];rfl,fun⟨_,_,a,b,_,_⟩=>by
 rw[aM,U9,U9,U9,lp.eR a,lp.eR b];show(true&&(true&&true)&&(true&&(true&&(Tw top (nm _)&&(Tw top (nm _)&&true)))))=true;rw[aI.2<|cR _,aI.2<|cR _];rfl⟩
theorem mg(l:List St):(bC l).all AV.eR=true:=by rw[vZ];exact lq.all l
mutual
theorem Jw:∀x y:St,aM x=aM y->x=y
 | .mk k t a b l m,.mk k' t' a' b' l' m',h=>by rw[aM,aM] at h;obtain⟨h1,h⟩:=Vq h rfl;obtain⟨h2,h⟩:=Vq h (by rw[lp.len,lp.len]);obtain⟨h3,h⟩:=Vq h (by rw[lp.len,lp.len]);simp only[TQ,AV.int.injEq,AV.ab.injEq,true_and,_root_.and_true] at h1 h;rw[h1.1,h1.2,oe _ _ h2,oe _ _ h3,tV l l'<|uu (mg l) (mg l') h.1.1,tV m m'<|uu (mg m) (mg m') h.2.1]
theorem tV:∀l m:List St,bC l=bC m->l=m
 |[],[],_=>rfl
 |[],y::m,h=>by have:=congrArg List.length h;rw[bC,bC,TM,lq.len y] at this;simp only[Ub] at this;omega
 |x::l,[],h=>by have:=congrArg List.length h;rw[bC,bC,TM,lq.len x] at this;simp only[Ub] at this;omega
 |x::l,y::m,h=>by rw[bC,bC] at h;obtain⟨h1,h2⟩:=Vq h (by rw[lq.len x,lq.len y]);rw[Jw x y h1,tV l m h2]
end
theorem Yq(e:St):AV.hi (.agg<|aM e)=true:=by show(aM e).all AV.cN=true;exact TG.2 fun x hx=>Ea<|TG.1 (lq.eR e) x hx
def lO:Nat->Ex->Int
 |0,_=>0
 |k+1,.mk _ _ args=>args.foldl (fun n a=>n+lO k a) 1
end cY
namespace Go.Rn
variable {P:Prop}
theorem Sz(h:P:=by exact bq (to<0) (fun _=>(show AV.bool false= .bool (decide<|0<=to/\to<8/\to=0/\xa=1/\xb=1/\ld=0/\le=0) from by rw[decide_eq_false ae])) fun _=>(bq (to>=8) (fun _=>(show AV.bool false= .bool (decide<|0<=to/\to<8/\to=0/\xa=1/\xb=1/\ld=0/\le=0) from by rw[decide_eq_false ae])) fun _=>(bq (to≠0) (fun _=>(show AV.bool false= .bool (decide<|0<=to/\to<8/\to=0/\xa=1/\xb=1/\ld=0/\le=0) from by rw[decide_eq_false ae])) fun _=>(ai ha<|bq (xa=1) (fun _=>(ai hb<|bq (xb=1) (fun _=>(bq ((ld:Int)=0) (fun _=>(bq ((le:Int)=0) (fun _=>(show AV.bool true= .bool (decide<|0<=to/\to<8/\to=0/\xa=1/\xb=1/\ld=0/\le=0) from by rw[decide_eq_true ae])) fun _=>(show AV.bool false= .bool (decide<|0<=to/\to<8/\to=0/\xa=1/\xb=1/\ld=0/\le=0) from by rw[decide_eq_false ae]))) fun _=>(show AV.bool false= .bool (decide<|0<=to/\to<8/\to=0/\xa=1/\xb=1/\ld=0/\le=0) from by rw[decide_eq_false ae]))) fun _=>(show AV.bool false= .bool (decide<|0<=to/\to<8/\to=0/\xa=1/\xb=1/\ld=0/\le=0) from by rw[decide_eq_false ae]))) fun _=>(show AV.bool false= .bool (decide<|0<=to/\to<8/\to=0/\xa=1/\xb=1/\ld=0/\le=0) from by rw[decide_eq_false ae]))))):P:=h
theorem cQ(h:P:=by as_aux_lemma=>kernel_rfl):P:=h
theorem nU(h:P:=by first|omega|(simp only[T2,T4,TM,TL,Ub];omega)):P:=h
theorem pL(h:P:=by exact fun _=>(wq0 (m:=m) (op:=op) (n:=n) (L:=L) (x0:=x0) (x1:=x1) ae)):P:=h
theorem ZZ(h:P:=by exact bq (to<0) (fun _=>(show AV.bool false= .bool (decide<|0<=to/\to<8/\xa=1/\xb=1/\ld=0/\le=0) from by rw[decide_eq_false ae])) fun _=>(bq (to>=8) (fun _=>(show AV.bool false= .bool (decide<|0<=to/\to<8/\xa=1/\xb=1/\ld=0/\le=0) from by rw[decide_eq_false ae])) fun _=>(ai ha<|bq (xa=1) (fun _=>(ai hb<|bq (xb=1) (fun _=>(bq ((ld:Int)=0) (fun _=>(bq ((le:Int)=0) (fun _=>(show AV.bool true= .bool (decide<|0<=to/\to<8/\xa=1/\xb=1/\ld=0/\le=0) from by rw[decide_eq_true ae])) fun _=>(show AV.bool false= .bool (decide<|0<=to/\to<8/\xa=1/\xb=1/\ld=0/\le=0) from by rw[decide_eq_false ae]))) fun _=>(show AV.bool false= .bool (decide<|0<=to/\to<8/\xa=1/\xb=1/\ld=0/\le=0) from by rw[decide_eq_false ae]))) fun _=>(show AV.bool false= .bool (decide<|0<=to/\to<8/\xa=1/\xb=1/\ld=0/\le=0) from by rw[decide_eq_false ae]))) fun _=>(show AV.bool false= .bool (decide<|0<=to/\to<8/\xa=1/\xb=1/\ld=0/\le=0) from by rw[decide_eq_false ae])))):P:=h
theorem Z0(h:P:=by exact bq (to<0) (fun _=>(show AV.bool false= .bool (decide<|0<=to/\to<8/\to=0/\xa=1/\xb=1) from by rw[decide_eq_false ae])) fun _=>(bq (to>=8) (fun _=>(show AV.bool false= .bool (decide<|0<=to/\to<8/\to=0/\xa=1/\xb=1) from by rw[decide_eq_false ae])) fun _=>(bq (to≠0) (fun _=>(show AV.bool false= .bool (decide<|0<=to/\to<8/\to=0/\xa=1/\xb=1) from by rw[decide_eq_false ae])) fun _=>(ai ha<|bq (xa=1) (fun _=>(ai hb<|bq (xb=1) (fun _=>(show AV.bool true= .bool (decide<|0<=to/\to<8/\to=0/\xa=1/\xb=1) from by rw[decide_eq_true ae])) fun _=>(show AV.bool false= .bool (decide<|0<=to/\to<8/\to=0/\xa=1/\xb=1) from by rw[decide_eq_false ae]))) fun _=>(show AV.bool false= .bool (decide<|0<=to/\to<8/\to=0/\xa=1/\xb=1) from by rw[decide_eq_false ae]))))):P:=h
theorem nC(h:P:=by exact fun fr s1 p hC=>by obtain⟨rfl,rfl⟩:=hC;exact H):P:=h
theorem iF(h:P:=by exact fun _=>(oF ae)):P:=h
theorem MZ(h:P:=by exact nw (st:=(cO.dS a n c u fs)) (s:=aj (ahl a n c u fs kind to op nn N L aT n2 N2 L2 N3 L3 N4 L4) 275) (show(.agg [(u8<|.ofNat 1),i0,i0])=Y from(EI ae ae ae)) cQ cQ cQ):P:=h
theorem Z1(h:P:=by exact gq to (Int.ofNat 8)<|ai (am0 (c':=(i6 z)) (show((a.row (.ptr<|some (271,0)) (.slice (some (272,0)) (len) cap)<|i6 a.steps):List AV).length<=top from aI.1 aV) (WG (a.row (.ptr<|some (271,0)) (.slice (some (272,0)) (len) cap)<|i6 a.steps) (k:=2+to.toNat) ae) rfl)<|nw (st:=(⟨⟨(a.pre:List AV).set (2+to.toNat)<|.int .i64 z,len,cap,[.int .i64 a.steps]⟩,u,row⟩:VS)) (s:=aj (XO a len cap to z u row kind op n N L aT n2 N2 L2 N3 L3 N4 L4) 274) (show((.tuple []):AV)= .tuple [] from rfl) ((show(aj (XO a len cap to z u row kind op n N L aT n2 N2 L2 N3 L3 N4 L4) 274).h.get 270=(some<|az ny<|((a.row (.ptr<|some (271,0)) (.slice (some (272,0)) (len) cap)<|i6 a.steps):List AV).set (2+to.toNat)<|i6 z) from cQ).trans<|congrArg some<|WH (pre:=a.pre) (post:=[.int .i64 a.steps]) (len:=len) (i:=2+to.toNat) (r1:=271) (r2:=272) (cap:=cap) (c:=.int .i64 z) (by show 2+to.toNat<10;omega)) cQ cQ):P:=h
theorem YX(h:P:=by exact fun _=>(kS [mP,ja,jX,lC,mK] 30 272 (vR oz) (yu op nn N L) (cO.dS a n c u fs) (i6 v) hO hv hA cQ<|ai hg<|nw (st:=(cO.dS a n c u fs)) (s:=aj (aq++[(270,some<|.cells 13 (Tr.fill (a.row (.ptr<|some (271,0)) (KF n c)<|i6 a.steps) 0 .nil) []),(271,(some<|.tok 3 u)),(272,(some<|az aS fs)),(273,some<|.cells 3 (Tr.fill [(u8<|.ofNat 2),(i6 v),i0] 0 .nil) []),(274,some<|.cells 10 (Tr.fill (hZ.nI kind to op nn N L aT n2 N2 L2 N3 L3 N4 L4) 0 .nil) [])]) 275) (show(.agg [(u8<|.ofNat 2),(i6 v),i0])=Y from(E2 ae)) cQ cQ cQ)):P:=h
theorem YY(h:P:=by exact fun _=>(kS [mP,ja,jX,lC,mK] 28 272 (vR jY) (yu op nn N L) (cO.dS a n c u fs) (i6 z) hO hz hA cQ<|nw (st:=(cO.dS a n c u fs)) (s:=aj (aq++[(270,some<|.cells 13 (Tr.fill (a.row (.ptr<|some (271,0)) (KF n c)<|i6 a.steps) 0 .nil) []),(271,(some<|.tok 3 u)),(272,(some<|az aS fs)),(273,some<|.cells 3 (Tr.fill [(u8<|.ofNat 3),i0,(i6 z)] 0 .nil) []),(274,some<|.cells 10 (Tr.fill (hZ.nI kind to op nn N L aT n2 N2 L2 N3 L3 N4 L4) 0 .nil) [])]) 275) (show(.agg [(u8<|.ofNat 3),i0,(i6 z)])=Y from(E8 ae)) cQ cQ cQ)):P:=h
theorem YZ(h:P:=by exact fun _=>(gq (0:Int) 2<|ai hn<|ai tC<|ai jF<|bq (x0=1) (fun _=>(gq (1:Int) 2<|ai hn<|ai jw<|ai j8<|bq (x1=1) (fun _=>(show AV.bool true= .bool (decide<|¬(op=3/\n>=z)/\x0=1/\x1=1) from by rw[decide_eq_true ae])) fun _=>(show AV.bool false= .bool (decide<|¬(op=3/\n>=z)/\x0=1/\x1=1) from by rw[decide_eq_false ae]))) fun _=>(show AV.bool false= .bool (decide<|¬(op=3/\n>=z)/\x0=1/\x1=1) from by rw[decide_eq_false ae]))):P:=h
theorem Y0(h:P:=by exact fun _=>(bq (op<4) pL fun _=>(bq (op>8) pL fun _=>(bq (n≠0) pL fun _=>(bq ((L:Int)≠2) pL fun _=>(gq (0:Int) (L:Int)<|ai hn<|ai (tC ae)<|ai (wI<|m - 1)<|ai (jF ae ae)<|bq (x0=1) (fun _=>(gq (1:Int) (L:Int)<|ai hn<|ai (jw ae)<|ai (wI<|m - 1)<|ai (j8 ae ae)<|bq (x1=1) Mf pL)) pL)))))):P:=h
theorem Y1(h:P:=by exact fun _=>(nw (st:=(cO.dS a n c u fs)) (s:=aj (aq++[(270,some<|.cells 13 (Tr.fill (a.row (.ptr<|some (271,0)) (KF n c)<|i6 a.steps) 0 .nil) []),(271,(some<|.tok 3 u)),(272,(some<|az aS fs)),(273,some<|.cells 3 (Tr.fill [(u8<|.ofNat 4),i0,i0] 0 .nil) []),(274,some<|.cells 10 (Tr.fill (hZ.nI kind to op nn N L aT n2 N2 L2 N3 L3 N4 L4) 0 .nil) [])]) 275) (show(.agg [(u8<|.ofNat 4),i0,i0])=Y from(E6 ae ae)) cQ cQ cQ)):P:=h
theorem Y2(h:P:=by exact WI (show((a.row (.ptr<|some (271,0)) (.slice (some (272,0)) (len) cap)<|i6 a.steps):List AV).length<=top from aI.1 aV) (show((a.row (.ptr<|some (271,0)) (.slice (some (272,0)) (len) cap)<|i6 a.steps):List AV)[10]? =some (.ptr<|some (271,0)) from rfl)):P:=h
theorem HU(h:P:=by exact fun fr s1 _ hC=>by obtain⟨rfl,rfl⟩:=hC;exact H):P:=h
theorem uV(h:P:=by exact rX<|AV.bool true):P:=h
theorem Y3(h:P:=by exact fun _=>(bq (kind=2) (fun _=>(kS [mP,ja,jX,lC,mK] 30 272 (vR oz) (yu op nn N L) (cO.dS a n c u fs) (i6 v) hO hv hA cQ<|ai hg MZ)) fun _=>MZ)):P:=h
theorem Mf(h:P:=by exact fun _=>(wq1 (m:=m) (op:=op) (n:=n) (L:=L) (x0:=x0) (x1:=x1) ae)):P:=h
theorem Rw(h:P:=by simp only[Ub];unfold room;omega):P:=h
theorem Rx(h:P:=by simp only[Ub];unfold top;omega):P:=h
theorem Y4(h:P:=by exact FX 16 2 38 (dh 16 [1,1,1,1,1,1,1,1,1]) A2 m2 (.au c2 13) u2 bD 280 281 hlen pB):P:=h
theorem Y5(h:P:=by exact bq (i<(L:Int)) iF fun _=>(show(.tuple [(i6 m),(.bool false)])=v from hv)):P:=h
theorem ae(h:P:=by omega):P:=h
theorem kU(h:P:=by first|exact m0.bT|exact mp.bT|exact m1.bT|exact hK|exact hN|exact hB|exact tD|exact rJ|exact hv|exact hA|exact nE.bT|exact hE|exact mE.bT):P:=h
theorem cf(h:P:=by as_aux_lemma=>kernel_rfl):P:=h
theorem rK(h:P:=by first|exact m0.bT|exact mp.bT|exact m1.bT|exact hK|exact hN|exact hB|exact tD|exact rJ|exact hv|exact hA|exact nE.bT|exact hE|exact mE.bT|exact hW|exact bI|exact hD):P:=h
theorem aV(h:P:=by kernel_rfl):P:=h
theorem xy(h:P:=by first|exact m0.bT|exact mp.bT|exact m1.bT|exact hK|exact hN|exact hB|exact tD|exact rJ|exact hv|exact hA|exact nE.bT|exact hE|exact mE.bT|exact hD):P:=h
theorem xz(h:P:=by first|exact m0.bT|exact mp.bT|exact m1.bT|exact hK|exact hN|exact hB|exact tD|exact rJ|exact hv|exact hA|exact nE.bT|exact hX):P:=h
theorem xA(h:P:=by first|omega|(simp only[T2,T4,TM,TL,Ub];omega)):P:=h
theorem dV(h:P:=by unfold top;omega):P:=h
theorem zr(h:P:=by first|exact m0.bT|exact mp.bT|exact m1.bT|exact hK|exact hN|exact hB|exact tD|exact rJ|exact hv|exact hA):P:=h
theorem CL(h:P:=by first|exact m0.bT|exact mp.bT|exact m1.bT|exact hK|exact hN|exact hB|exact tD|exact rJ|exact hv|exact hA|exact Z2):P:=h
theorem AL(h:P:=by simp only[reduceCtorEq,true_or,false_or,true_and,_root_.and_true];omega):P:=h
theorem sL(h:P:=by rw[TS,Cu];rfl):P:=h
theorem CN(h:P:=by have:=m0.len;have:top=549755813888:=rfl;omega):P:=h
theorem mz(h:P:=by cases hp):P:=h
theorem Y6(h:P:=by rw[TS,show AV.hi (.ab (nm<|bC b) 0 b.length)=true from aI.2<|cR _];rfl):P:=h
theorem HV(h:P:=by rw[UC];exact d.eq):P:=h
theorem Mg(h:P:=by rw[TM];show _+1<=_;omega):P:=h
theorem HW(h:P:=by rw[blt_eq];unfold top;omega):P:=h
theorem Mh(h:P:=by rw[UC];exact d2.eq):P:=h
theorem Ry(h:P:=by first|exact m0.bT|exact d.run|exact d.gh.bT):P:=h
theorem y9(h:P:=by rw[p1];omega):P:=h
theorem HX(h:P:=by rw[TL];omega):P:=h
theorem Mi(h:P:=by rw[BB];unfold top;omega):P:=h
theorem Rz(h:P:=by rw[TL,TL];omega):P:=h
theorem HY(h:P:=by rw[←hy];exact hp):P:=h
end Go.Rn
namespace fq
open cC cY
def Ao(n:Int):List AV:=[.int .i64 n]
theorem M5:kA 1 Ao:=⟨fun _=>rfl,fun _=>rfl⟩
theorem adh(x y:Int)(h:Ao x=Ao y):x=y:=by simp only[Ao,TQ,AV.int.injEq,true_and,_root_.and_true] at h;exact h
def iB(c:AV):List AV:=[c]
abbrev bp:=List<|List<|Int×Int
def LC(p:Int×Int):AV:=.agg [.int .i64 p.1,.int .i64 p.2]
def bZ(ms:bp):AV:=.agg<|ms.map fun m=>.agg<|m.map LC
theorem adi(p q:Int×Int)(h:LC p=LC q):p=q:=by obtain⟨a,b⟩:=p;obtain⟨c,d⟩:=q;simp only[LC,AV.agg.injEq,TQ,AV.int.injEq,true_and,_root_.and_true] at h;rw[h.1,h.2]
theorem ua:∀a b,bZ a=bZ b->a=b:=by
 intro a b h;injection h with h
 refine(VT fun x y e=>?_).1 h;injection e with e
 exact(VT adi).1 e
def kq(n:Nat):List AV:=(Ui n).map fun i=>.map<|some<|272+i
def qW:Nat->bp->List (Nat×ah)
 |_,[]=>[]
 |k,m::ms=>(k,bE m)::qW (k+1) ms
def Y8(n:Nat)(cap:cx):ah:=az iB [.slice (some (271,0)) n cap]
def ey(ms:bp)(cap:cx):List<|Nat×ah:=(270,Y8 ms.length cap)::(271,az iB<|kq ms.length)::qW 272 ms
def dz(ms:bp):Prop:=(1<=ms.length/\ms.length<=7)/\∀m∈ms,eK m
def pC(n:Nat)(cap:cx):Prop:=cap= .au n 1\/(n=1/\cap= .known 1)
theorem Jz:∀{k:Nat} {ms:bp} {p:Nat×ah},p∈qW k ms->k<=p.1/\p.1<k+ms.length/\∃m,p.2=bE m
 |k,[],p,h=>by cases h
 |k,m::ms,p,h=>by
  rcases Ty.1 h with rfl|h
  ·exact⟨Tz _,by rw[TL];omega,m,rfl⟩
  ·obtain⟨h1,h2,h3⟩:=Jz h;exact⟨by omega,by rw[TL];omega,h3⟩
theorem ami:∀{k:Nat} {ms:bp} {i:Nat},i<ms.length->k+i∈(qW k ms).map (·.1)
 |k,[],i,h=>by cases h
 |k,m::ms,0,h=>TA
 |k,m::ms,i+1,h=>by have:=ami (k:=k+1) (ms:=ms) (i:=i) (by rw[TL] at h;omega);rw[show k+(i+1)=k+1+i by omega];exact TB _ this
structure Fr where
 block:List St
 aw:Int
 turns:Int
 cq:Bool
 kept:List Int
 other:Option<|List St
instance:Inhabited Fr:=⟨⟨[],0,0,false,[],none⟩⟩
def Bf:Option (List St)->AV
 |none=>.slice none 0<|.known 0
 |some l=>ar aM l
theorem afF(o:Option<|List St):(Bf o).bM=true:=by cases o<;>rfl
theorem ahp(o:Option<|List St):(Bf o).cN=true:=by
 cases o with
 |none=>rfl
 |some l=>exact aI.2<|cR _
def eight(l:List Int):List AV:=[.int .i64<|l.getD 0 0,.int .i64<|l.getD 1 0,.int .i64<|l.getD 2 0,.int .i64<|l.getD 3 0,.int .i64<|l.getD 4 0,.int .i64<|l.getD 5 0,.int .i64<|l.getD 6 0,.int .i64<|l.getD 7 0]
def aS(f:Fr):List AV:=[ar aM f.block,.int .i64 f.aw,.int .i64 f.turns,.bool f.cq]++(eight f.kept++[Bf f.other])
theorem jO(f:Fr):(aS f).length=13:=rfl
theorem Oz(f:Fr):(aS f).all AV.bM=true:=by show(true&&(true&&(true&&(true&&(true&&(true&&(true&&(true&&(true&&(true&&(true&&(true&&((Bf f.other).bM&&true)))))))))))))=true;rw[afF];rfl
theorem am2(f:Fr):∀c∈aS f,c.cN=true:=fun c hc=>by
 have h:(aS f).all AV.cN=true:=by show((ar aM f.block).cN&&(true&&(true&&(true&&(true&&(true&&(true&&(true&&(true&&(true&&(true&&(true&&((Bf f.other).cN&&true)))))))))))))=true;rw[show(ar aM f.block).cN=true from aI.2<|cR _,ahp];rfl
 exact TG.1 h c hc
def M6(f:Fr):AV:=.agg [ar aM f.block,.int .i64 f.aw,.int .i64 f.turns,.bool f.cq,.agg<|f.kept.map fun x=>.int .i64 x,Bf f.other]
theorem JA{l m:List St}(h:ar aM l=ar aM m):l=m:=by
 injection h with h _ _
 have h:nm (bC l)=nm (bC m):=by rw[vZ,vZ];exact h
 exact tV _ _<|uu (mg _) (mg _) h
theorem WM{a b:Option<|List St}(h:Bf a=Bf b):a=b:=by
 cases a with
 |none=>cases b with
  |none=>rfl
  |some m=>cases h
 |some l=>cases b with
  |none=>cases h
  |some m=>exact congrArg some<|JA h
theorem am3{l m:List Int}(h:(l.map fun x=>AV.int .i64 x)=m.map fun x=>.int .i64 x):l=m:=(VT fun x y e=>by injection e).1 h
theorem afG(f g:Fr)(h:M6 f=M6 g):f=g:=by obtain⟨a1,a2,a3,a4,a5,a6⟩:=f;obtain⟨b1,b2,b3,b4,b5,b6⟩:=g;simp only[M6,AV.agg.injEq,TQ,AV.int.injEq,AV.bool.injEq,true_and,_root_.and_true] at h;obtain⟨h1,rfl,rfl,rfl,h5,h6⟩:=h;rw[JA h1,am3 h5,WM h6]
structure dX where
 vars:Int
 aN:List Int
 l:List Int
 b:bp
 fs:List Fr
 steps:Int
def Hu(a:dX)(c:Nat):List AV:=[.int .i64 a.vars,ar Ao a.aN]++(eight a.l++[.ptr<|some (271,0),.slice (some (272,0)) a.fs.length<|.au c 13,.int .i64 a.steps])
def eS(a:dX):AV:=.agg [.int .i64 a.vars,ar Ao a.aN,.agg<|a.l.map fun x=>.int .i64 x,bZ a.b,.agg<|a.fs.map M6,.int .i64 a.steps]
theorem v7:∀a b,eS a=eS b->a=b:=by
 intro a b h;obtain⟨a1,a2,a3,a4,a5,a6⟩:=a;obtain⟨b1,b2,b3,b4,b5,b6⟩:=b;simp only[eS,AV.agg.injEq,TQ,AV.int.injEq,true_and,_root_.and_true] at h;obtain⟨rfl,h2,h3,h4,h5,rfl⟩:=h;have e2:a2=b2:=by refine(dP.ar M5 a2).inj adh ?_;rw[h2];exact dP.ar M5 b2
 rw[e2,am3 h3,ua _ _ h4,(VT afG).1 h5]
def yv(a:dX):Prop:=a.l.length=8/\dz a.b/\a.fs.length<=1000/\a.aN.length<=1000/\(1<=a.vars/\a.vars<=32)
def gZ(a:dX)(bB:List Fr)(c:Nat):List<|Nat×ah:=[(270,az iB<|Hu a c),(271,.tok 3<|bZ a.b),(272,az aS<|a.fs++bB)]
def uv(a:dX)(bB:List Fr)(c:Nat):Prop:=a.fs.length<=c/\(a.fs++bB).length<=1000000/\∀f∈bB,(0<=f.turns/\f.turns<=1000000)/\f.kept.length=8
theorem yg{n:Nat}(h:n<100000):n<top:=by have:top=549755813888:=rfl;omega
theorem EA(l:List AV):(l.map iB).flatten=l:=by
 induction l with
 |nil=>rfl
 |cons x l ih=>rw[T0,T5,ih];rfl
theorem acr{ns:List Nat}{m:List<|Int×Int}:lP ns<|bE m:=fun _ _ _ h=>we h
theorem ahq{ms:bp}{cap:cx}(h:dz ms):∀p∈ey ms cap,270<=p.1/\p.1<top/\(p.2.own=true\/p.2.lB=true)/\lP ((ey ms cap).map (·.1)) p.2:=by
 intro p hp;have h8:=h.1.2;rcases Ty.1 hp with rfl|hp
 ·refine⟨Tz _,yg (by show 270<100000;omega),.inl rfl,lP.row ?_ fun c hc=>?_⟩
  ·rw[EA];exact U1<|yg (by show 1<100000;omega)
  ·rw[EA] at hc;rw[TC] at hc;subst hc;exact gP.slice (by simp[ey])
 rcases Ty.1 hp with rfl|hp
 ·refine⟨by show 270<=271;omega,yg (by show 271<100000;omega),.inl rfl,lP.row ?_ fun c hc=>?_⟩
  ·rw[EA,kq,T3,Ws];exact U1<|yg ae
  ·rw[EA] at hc;obtain⟨i,hi,rfl⟩:=TI.1 hc;refine gP.map ?_;show 272+i∈270::271::(qW 272 ms).map (·.1);exact TB _<|TB _<|ami<|Uz.1 hi
 ·obtain⟨h1,h2,m,h3⟩:=Jz hp;refine⟨by omega,yg ae,.inl (by rw[h3];rfl),by rw[h3];exact acr⟩
theorem afH{a:dX}{bB:List Fr}{c:Nat}(h:yv a)(hj:uv a bB c):∀p∈gZ a bB c,270<=p.1/\p.1<top/\(p.2.own=true\/p.2.lB=true)/\lP ((gZ a bB c).map (·.1)) p.2:=by
 intro p hp;simp only[gZ,Ty,TV,or_false] at hp;rcases hp with rfl|rfl|rfl
 ·refine⟨Tz _,yg (by show 270<100000;omega),.inl rfl,lP.row ?_ fun c hc=>?_⟩
  ·rw[EA];exact U1<|yg (by show 13<100000;omega)
  ·rw[EA] at hc;simp only[Hu,eight,Vf,UB,Ty,TV,or_false] at hc;rcases hc with rfl|rfl|rfl|rfl|rfl|rfl|rfl|rfl|rfl|rfl|rfl|rfl|rfl
   ·exact gP.hi rfl
   ·exact gP.hi<|aI.2<|cR _
   ·exact gP.hi rfl
   ·exact gP.hi rfl
   ·exact gP.hi rfl
   ·exact gP.hi rfl
   ·exact gP.hi rfl
   ·exact gP.hi rfl
   ·exact gP.hi rfl
   ·exact gP.hi rfl
   ·exact gP.ptr (by simp[gZ])
   ·exact gP.slice (by simp[gZ])
   ·exact gP.hi rfl
 ·exact⟨by show 270<=271;omega,yg (by show 271<100000;omega),.inr rfl,lP.tok⟩
 ·have h3:=hj.2.1;have ht:top=549755813888:=rfl;refine⟨by show 270<=272;omega,yg (by show 272<100000;omega),.inl rfl,lP.row ?_ fun c hc=>?_⟩
  ·rw[zS (K:=13) jO];omega
  ·obtain⟨x,hx,hc⟩:=Vb.1 hc;obtain⟨f,_,rfl⟩:=TI.1 hx;exact gP.hi<|am2 f c hc
end fq
namespace cj
open fq
variable {T A:Prop} {i:Nat} {c c':AV} {ns:List Nat} {C:yW}
abbrev pg:Program:=Tryd.prog
abbrev aC(f:Func):List ResultVar:=f.results.toList
abbrev dh(g:Nat)(p:List Nat):List Item:=[.code<|aL Tryd.prog g p]
abbrev sF(g:Nat)(f:Func)(args:List AV):AF:=⟨g,dZ args,max f.ntmps args.length,[.code<|aL Tryd.prog g []],[],none⟩
def ahr:List<|Option FuncId:=[none,none,none,none,some 120,some 121,some 122,some 123,some 125]
section
def Uv:List AV:=ahr.map Kb
def dk:Tr ah:=(Tr.nil).put 0<|some<|.ro Uv.length<|Tr.fill Uv 0 .nil
end
def dK:List Nat:=[0]
theorem bR:Tryd.prog.follows .mixedOrders=true:=by kernel_rfl
theorem gW:fY<=270:=aI.1 aV
theorem adj:fY<=271:=aI.1 aV
theorem qR:270<=top:=aI.1 aV
def aq:List<|Nat×Option ah:=dK.map fun n=>(n,dk.get n)
theorem am4:gm aq=dk:=by kernel_rfl
theorem gX:aj aq 270=⟨dk,270,0,[],[]⟩:=by show(⟨gm aq,270,0,[],[]⟩:AS)=_;rw[am4]
theorem mA:∀p∈aq,p.1<top:=fun p hp=>by obtain⟨k,hk,rfl⟩:=TI.1 hp;exact NT (m:=top) (l:=dK) aV k hk
theorem mU:∀n o,(n,some o)∈aq->dk.get n=some o:=fun n o hm=>by
 obtain⟨k,hk,e⟩:=TI.1 hm;injection e with e1 e2
 rw[←e1];exact e2
theorem jT(n:Nat)(o:ah)(_:n<top)(h:dk.get n=some o):n∈dK:=by
 rw[←am4] at h;obtain⟨k,hk,e⟩:=TI.1<|wc (l:=aq) mA h;injection e with e1 _
 rw[←e1];exact hk
theorem jb:∀n∈dK,n<270:=fun n hn=>NT (m:=270) (l:=dK) aV n hn
def encI(n:Int):List AV:=[.int .i64 n]
theorem eI:kA 1 encI:=⟨fun _=>rfl,fun _=>rfl⟩
theorem sa(x y:Int)(h:encI x=encI y):x=y:=by simp only[encI,TQ,AV.int.injEq,true_and,_root_.and_true] at h;exact h
def ny(c:AV):List AV:=[c]
abbrev en(L:bV):Env:=y8 pg 270 dK dk L 270 true
abbrev pM(L:bV):Env:=y8 pg 270 dK dk L 271 true
abbrev sp(L:bV):Sp:=dE 270 dK dk L
structure CO where
 rv:Int
 PH:Int
 has:List Bool
def H4(a:CO):List AV:=[AV.int .i64 a.rv,AV.int .i64 a.PH]++a.has.map AV.bool
def akC(a:CO):AV:=.agg<|H4 a
def aiL(a:CO):Prop:=QO a.rv/\(1<=a.PH/\a.PH<=32)/\a.has.length=32
def akD(a:CO):ah:=az ny<|H4 a
structure Lk where
 owner:Int
 version:Int
deriving Inhabited
def LD(k:Lk):List AV:=[.int .i64 k.owner,.int .i64 k.version]
structure LF where
 Hv:List Lk
 bu:Int
 Cv:Int
 H5:List Int
def aiM(a:LF):AV:=.agg [.int .i64 a.bu,.int .i64 a.Cv,.agg<|a.Hv.map fun k=>.agg<|LD k,.agg<|a.H5.map fun x=>.int .i64 x]
def ahs(a:LF):Prop:=(1<=a.Hv.length/\a.Hv.length<=32)/\(1<=a.H5.length/\a.H5.length<=32)/\0<=a.bu/\a.Cv<=1099511627776
def Yt(nl nv:Nat)(c1 c2:cx)(bu Cv:Int):List AV:=[.slice (some (271,0)) nl c1,.int .i64 bu,.int .i64 Cv,.slice (some (272,0)) nv c2]
def aiN(nl nv:Nat)(c1 c2:cx)(bu Cv:Int):ah:=az ny<|Yt nl nv c1 c2 bu Cv
def LG(a:LF)(c1 c2:cx):List<|Nat×ah:=[(270,aiN a.Hv.length a.H5.length c1 c2 a.bu a.Cv),(271,az LD a.Hv),(272,az encI a.H5)]
inductive XT:TX
 |set (a:CO) (h:aiL a):XT 1 (akC a) [(270,akD a)]
 |heap (a:LF) (h:ahs a) (c1 c2:cx):XT 2 (aiM a)<|LG a c1 c2
 |buf (ms:bp) (h:dz ms) (cap:cx) (hc:pC ms.length cap):XT 3 (bZ ms)<|ey ms cap
 |uX (a:dX) (h:yv a) (bB:List Fr) (c:Nat) (hj:uv a bB c):XT 4 (eS a)<|gZ a bB c
theorem Cw(l:List AV):(l.map ny).flatten=l:=by
 induction l with
 |nil=>rfl
 |cons x l ih=>rw[T0,T5,ih];rfl
theorem afI(a:CO):∀c∈H4 a,c.cN=true:=fun c hc=>by
 rcases TP.1 hc with h|h
 ·simp only[Ty,TV,or_false] at h;rcases h with rfl|rfl<;>rfl
 ·obtain⟨b,_,rfl⟩:=TI.1 h;rfl
theorem aex(a:CO)(h:a.has.length=32):(H4 a).length=34:=by unfold H4;rw[TM,T3,h];rfl
theorem okC(x:AV):(ny x).length=1:=rfl
theorem WI{l:List AV}(hl:l.length<=top)(hc:l[i]? =some c):cellsOf (some<|az ny l) i 1=some [c]:=by have:=ur okC (l:=l) (i:=i) ae hc 0 1 rfl;rwa[Va,Ul] at this
theorem WN{l:List AV}(hl:l.length<=top)(hc:l[i]? =some c)(h1:c'.bM=true):qf (some<|az ny l) i [c']=some (az ny<|l.set i c'):=by have:=G6 okC (l:=l) (i:=i) (c':=c') (r:=[c']) ae hc 0 rfl rfl (by rw[TS,h1];rfl);rwa[Va,Ul] at this
theorem am0{l:List AV}{z:Nat}(hl:l.length<=top)(hc:l[i+z]? =some c)(h1:c'.bM=true):qf (some<|az ny l) (i+z*1) [c']=some (az ny<|l.set (i+z) c'):=by rw[Va];exact WN hl hc h1
abbrev rz(k:Nat)(y:AV)(v:AV)(s:AS)(Y:AV):Prop:=Y=y/\∃L',XT k v L'/\∀m o,(m,o)∈L'->s.h.get m=some o
theorem afJ{l:List Lk}:∀c∈(l.map LD).flatten,gP ns c:=fun c hc=>by obtain⟨x,hx,hc⟩:=Vb.1 hc;obtain⟨k,_,rfl⟩:=TI.1 hx;simp only[LD,Ty,TV,or_false] at hc;rcases hc with rfl|rfl<;>exact gP.hi rfl
theorem aht{l:List Int}:∀c∈(l.map encI).flatten,gP ns c:=fun c hc=>by obtain⟨x,hx,hc⟩:=Vb.1 hc;obtain⟨k,_,rfl⟩:=TI.1 hx;simp only[encI,Ty,TV,or_false] at hc;subst hc;exact gP.hi rfl
theorem G8{n:Nat}(h:n<1024):n<top:=by have:top=549755813888:=rfl;omega
theorem zt:zo XT 270:=by
 refine⟨fun k v L hx p hp=>?_,fun k v L hx=>?_⟩
 ·cases hx with
  |set a h=>
   simp only[Ty,TV,or_false] at hp;subst hp;refine⟨Tz _,aI.1 aV,.inl rfl,lP.row ?_ fun c hc=>?_⟩
   ·rw[Cw,aex a h.2.2];exact aI.1 aV
   ·rw[Cw] at hc;exact gP.hi<|afI a c hc
  |heap a h c1 c2=>
   simp only[LG,Ty,TV,or_false] at hp;have h1:=h.1.2;have h2:=h.2.1.2;rcases hp with rfl|rfl|rfl
   ·refine⟨Tz _,aI.1 aV,.inl rfl,lP.row ?_ fun c hc=>?_⟩
    ·rw[Cw];exact U1<|G8 (by show 4<1024;omega)
    ·rw[Cw] at hc;simp only[Yt,Ty,TV,or_false] at hc;rcases hc with rfl|rfl|rfl|rfl
     ·exact gP.slice (by simp[LG])
     ·exact gP.hi rfl
     ·exact gP.hi rfl
     ·exact gP.slice (by simp[LG])
   ·refine⟨by show 270<=271;omega,G8 (by show 271<1024;omega),.inl rfl,lP.row ?_ afJ⟩;rw[zS (K:=2) fun _=>rfl];exact U1<|G8 ae
   ·refine⟨by show 270<=272;omega,G8 (by show 272<1024;omega),.inl rfl,lP.row ?_ aht⟩;rw[zS (K:=1) fun _=>rfl];exact U1<|G8 ae
  |buf ms h cap hc=>exact ahq h p hp
  |uX a h bB c hj=>exact afH h hj p hp
 ·cases hx with
  |set a h=>exact⟨_,TA⟩
  |heap a h c1 c2=>exact⟨_,TA⟩
  |buf ms h cap hc=>exact⟨_,TA⟩
  |uX a h bB c hj=>exact⟨_,TA⟩
def H6(l:List Int)(z:Int):Int:=l.getD z.toNat 0
theorem aiO{l:List Int}{z:Int}(h1:0<=z)(h2:z<((l.length:Nat):Int)):l[z.toNat]? =some (H6 l z):=by
 have:z.toNat<l.length:=by omega
 unfold H6;rw[T9,TE this];rfl
abbrev aY(L:bV):Prop:=eF XT 270 pg<|sp L
abbrev Mt(L:bV)(B:aE):Prop:=ry XT pg 270 dK dk L B
theorem ai{B:Prop}(a:A)(b:B):A/\B:=⟨a,b⟩
theorem oF(h:False):False:=h
theorem rX{α:Type}(x:α):x=x:=rfl
theorem mS(l:List<|Nat×AV):l.map (fun q=>some q.2)=l.map (fun q=>some q.2):=rfl
theorem mO(l:List<|Nat×Option ah):l.map (fun q=>q.2)=l.map (fun q=>q.2):=rfl
theorem wI(z:Int)(h: -9223372036854775808<=z/\z<=9223372036854775807:=by omega):AV.int .i64 (IntKind.wrap .i64 z)=AV.int .i64 z:=congrArg (AV.int .i64)<|aaI h
theorem ix2(z n:Int)(h1:0<=z)(h2:z<n)(x:A):0<=z/\z<n/\A:=⟨h1,h2,x⟩
theorem gq(z n:Int)(x:A)(h1:0<=z:=by omega)(h2:z<n:=by omega):0<=z/\z<n/\A:=⟨h1,h2,x⟩
abbrev i6(n:Int):AV:=.int .i64 n
abbrev u8(n:Int):AV:=.int .u8 n
abbrev i0:AV:=.int .i64<|.ofNat 0
section
variable {L:bV} {B:aE} (mc:Mt L B) {f nt:Nat} {t:Tr AV} {K:List Item} {s:AS} {rs:List ResultVar} {R:AV->AS->Prop}
include mc
theorem wS(p:Pl)(x:T)(h:T=wp (en L) 900 6 (.fr f nt K t s) p rs (fun v s _=>R v s) (fun _ _ _=>False):=by as_aux_lemma=>kernel_rfl)(h0:Tw 270 s.nx=true:=by as_aux_lemma=>kernel_rfl):av pg B 270 (Fin pg rs R) ⟨f,t,nt,K,[],none⟩ s:=mM (E:=en L) fw rfl bR mc.2.2.1 mc.2.2.2 900 p x h h0
theorem F1(p:Pl)(x:T)(h:T=wp (pM L) 900 6 (.fr f nt K t s) p rs (fun v s _=>R v s) (fun _ _ _=>False):=by as_aux_lemma=>kernel_rfl)(h0:Tw 271 s.nx=true:=by as_aux_lemma=>kernel_rfl):av pg B 271 (Fin pg rs R) ⟨f,t,nt,K,[],none⟩ s:=mM (E:=pM L) fw rfl bR mc.2.2.1 mc.2.2.2 900 p x h h0
theorem wC(hC:∀fr s p,C fr s p->av pg B 270 (Fin pg rs R) fr s)(p:Pl)(x:T)(h:T=wp (en L) 900 6 (.fr f nt K t s) p rs (fun v s _=>R v s) C:=by as_aux_lemma=>kernel_rfl)(h0:Tw 270 s.nx=true:=by as_aux_lemma=>kernel_rfl):av pg B 270 (Fin pg rs R) ⟨f,t,nt,K,[],none⟩ s:=wp_cut (E:=en L) fw rfl bR mc.2.2.1 mc.2.2.2 gW rfl mc.1 hC 900 p x h h0
theorem Dt(hC:∀fr s p,C fr s p->av pg B 271 (Fin pg rs R) fr s)(p:Pl)(x:T)(h:T=wp (pM L) 900 6 (.fr f nt K t s) p rs (fun v s _=>R v s) C:=by as_aux_lemma=>kernel_rfl)(h0:Tw 271 s.nx=true:=by as_aux_lemma=>kernel_rfl):av pg B 271 (Fin pg rs R) ⟨f,t,nt,K,[],none⟩ s:=wp_cut (E:=pM L) fw rfl bR mc.2.2.1 mc.2.2.2 adj rfl mc.1 hC 900 p x h h0
end
abbrev Sm(B:aE)(f:Func)(v:AV)(fr:AF)(s:AS):Prop:=av pg B 270 (Fin pg f.results.toList fun y _=>y=v) fr s
theorem gu{L L':bV}{g:Nat}{fn:Func}{val:List AV->Option AV}(hP:bY pg)(h:aY L)(h':aY L')(cv:Tryd.prog.funcs[g]? =some fn)(eX:∀args v,val args=some v->max fn.ntmps args.length<=top/\∀B:aE,Mt L' B->av pg B 270 (Fin pg fn.results.toList fun y _=>y=v) ⟨g,dZ args,max fn.ntmps args.length,[.code<|aL pg g []],[],none⟩ ⟨dk,270,0,[],[]⟩)(cF:fn.body=some (aL pg g []):=by kernel_rfl)(hn:(fn.name == "runtime.NumGoroutine")=false:=by kernel_rfl):aY<|(g,.val val)::L:=afy hP gW qR jT jb h h' cv cF hn eX
end cj
namespace dt
open cj cC
variable {L k:Nat}
def ux(m op n:Int)(L:Nat)(x0 x1:Int):Prop:=1<=m/\((op=1/\L=0)\/(op=2/\L=0/\0<=n/\n<8)\/(op=3/\L=0/\0<=n/\n<6)\/(4<=op/\op<=8/\n=0/\L=2/\x0=1/\x1=1))
instance {m op n:Int} {L:Nat} {x0 x1:Int}:Decidable<|ux m op n L x0 x1:=by unfold ux;exact inferInstance
theorem wq1{m op n:Int}{x0 x1:Int}(h:1<=m/\((op=1/\L=0)\/(op=2/\L=0/\0<=n/\n<8)\/(op=3/\L=0/\0<=n/\n<6)\/(4<=op/\op<=8/\n=0/\L=2/\x0=1/\x1=1))):AV.bool true= .bool (decide<|ux m op n L x0 x1):=by rw[decide_eq_true (show ux m op n L x0 x1 from h)]
theorem wq0{m op n:Int}{x0 x1:Int}(h:¬(1<=m/\((op=1/\L=0)\/(op=2/\L=0/\0<=n/\n<8)\/(op=3/\L=0/\0<=n/\n<6)\/(4<=op/\op<=8/\n=0/\L=2/\x0=1/\x1=1)))):AV.bool false= .bool (decide<|ux m op n L x0 x1):=by rw[decide_eq_false (show ¬ux m op n L x0 x1 from h)]
def uy(k:Nat)(args:List AV)(v:AV):Prop:=∃(e:Ex) (m:Int),args=[.agg<|aH e,.int .i64 m]/\(0<=m/\m<k)/\k<=50/\v= .bool (fh m.toNat e)
theorem uy.bJ(args:List AV)(v v':AV)(h:uy k args v)(h':uy k args v'):v=v':=by obtain⟨e,m,rfl,_,_,rfl⟩:=h;obtain⟨e',m',h1,_,_,rfl⟩:=h';simp only[TQ,AV.agg.injEq,AV.int.injEq,true_and,_root_.and_true] at h1;rw[oe _ _ h1.1,h1.2]
def kW(k:Nat):FuncId×KE:=(81,.val<|aK<|uy k)
theorem afK{B:aE}{N N0 L0 N1 L1:Nat}{op n m ch n0 cP n1 x0 x1:Int}(mc:Mt [kW k] B)(hn:top<=N)(hm:0<=m/\m<100)(tC:L=2->cZ FU N (0+(0:Int).toNat*3+0) 3=some [(u8<|ch),(i6 n0),(.ab N0 0 L0)])(jF:L=2->1<=m->bc (aK<|uy k) [(.agg [(u8<|ch),(i6 n0),(.ab N0 0 L0)]),(i6<|(m - 1))]=some (.bool<|decide<|x0=1))(jw:L=2->cZ FU N (0+(1:Int).toNat*3+0) 3=some [(u8<|cP),(i6 n1),(.ab N1 0 L1)])(j8:L=2->1<=m->bc (aK<|uy k) [(.agg [(u8<|cP),(i6 n1),(.ab N1 0 L1)]),(i6<|(m - 1))]=some (.bool<|decide<|x1=1)):av pg B 270 (Fin pg (aC Tryd.f81) fun y _=>y=(.bool<|decide<|ux m op n L x0 x1)) (sF 81 Tryd.f81 [(.agg [(u8<|op),(i6 n),(.ab N 0 L)]),(i6 m)])<|aj aq 270:=wS mc (.st 3<|.rg<|.go 3<|.fk (.go 1<|.en<|.st 3<|.rg<|.go 1<|.fk (.go 1<|.en<|.rt 4 .no)<|.go 1<|.en<|.st 2<|.rg<|.go 2<|.fk (.go 1<|.en<|.rt 4 .no)<|.go 1<|.en<|.st 2<|.rg<|.go 2<|.fk (.go 1<|.en<|.st 2<|.rg<|.go 4<|.fk (.go 4<|.fk (.go 2<|.en<|.rt 1 .no)<|.go 2<|.en<|.rt 1 .no)<|.go 7<|.en<|.rt 1 .no)<|.go 1<|.en<|.st 2<|.rg<|.go 2<|.fk (.go 1<|.en<|.st 2<|.rg<|.go 4<|.fk (.go 4<|.fk (.go 2<|.en<|.rt 1 .no)<|.go 2<|.en<|.rt 1 .no)<|.go 7<|.en<|.rt 1 .no)<|.go 1<|.en<|.st 2<|.rg<|.go 2<|.fk (.go 17<|.en<|.rt 4 .no)<|.go 3<|.fk (.go 13<|.en<|.rt 4 .no)<|.go 4<|.fk (.go 8<|.en<|.rt 4 .no)<|.go 5<|.fk (.go 2<|.en<|.rt 4 .no)<|.go 2<|.en<|.st 4<|.rg<|.go 2<|.cm<|.cn [(u8<|ch),(i6 n0),(.ab N0 0 L0)]<|.go 1<|.vl (i6<|m - 1)<|.kp (x0=1) inferInstance (.go 3<|.cm<|.cn [(u8<|cP),(i6 n1),(.ab N1 0 L1)]<|.go 1<|.vl (i6<|m - 1)<|.kp (x1=1) inferInstance (.go 2<|.en<|.rt 1 .no)<|.go 2<|.en<|.rt 1 .no)<|.go 10<|.en<|.rt 1 .no)<|.go 1<|.en<|.st 3<|.rg<|.go 1<|.fk (.go 1<|.en<|.rt 4 .no)<|.go 1<|.en<|.st 2<|.rg<|.go 2<|.fk (.go 1<|.en<|.rt 4 .no)<|.go 1<|.en<|.st 2<|.rg<|.go 2<|.fk (.go 1<|.en<|.rt 4 .no)<|.go 1<|.en<|.st 2<|.rg<|.go 2<|.fk (.go 1<|.en<|.rt 4 .no)<|.go 1<|.en<|.st 2<|.rg<|.go 2<|.fk (.go 17<|.en<|.rt 4 .no)<|.go 3<|.fk (.go 13<|.en<|.rt 4 .no)<|.go 4<|.fk (.go 8<|.en<|.rt 4 .no)<|.go 5<|.fk (.go 2<|.en<|.rt 4 .no)<|.go 2<|.en<|.st 4<|.rg<|.go 2<|.cm<|.cn [(u8<|ch),(i6 n0),(.ab N0 0 L0)]<|.go 1<|.vl (i6<|m - 1)<|.kp (x0=1) inferInstance (.go 3<|.cm<|.cn [(u8<|cP),(i6 n1),(.ab N1 0 L1)]<|.go 1<|.vl (i6<|m - 1)<|.kp (x1=1) inferInstance (.go 2<|.en<|.rt 1 .no)<|.go 2<|.en<|.rt 1 .no)<|.go 10<|.en<|.rt 1 .no)<|bq ((L:Int)=0) (fun _=>(bq (m<1) pL fun _=>(bq (op=1) Mf fun _=>(bq (op=2) (fun _=>(bq (n>=0) (fun _=>(bq (n<8) Mf pL)) pL)) fun _=>(bq (op=3) (fun _=>(bq (n>=0) (fun _=>(bq (n<6) Mf pL)) pL)) Y0))))) fun _=>(bq (m<1) pL fun _=>(bq (op=1) pL fun _=>(bq (op=2) pL fun _=>(bq (op=3) pL Y0))))
end dt
namespace dD
open cj cC dt
theorem zY{l:List Ex}{i:Nat}{a:Ex}(h:l[i]? =some a){z:Int}(hz:z.toNat=i):cZ FU (nm<|dC l) (0+z.toNat*3+0) 3=some (aH a):=by rw[DY,hz,T6,Ad lp h 0 3 ae];rw[T8,UG (by rw[lp.len];omega)]
def bit(b:Bool):Int:=if b then 1 else 0
theorem yh(b:Bool):decide (bit b=1)=b:=by cases b<;>rfl
theorem aey{m op n:Int}{l:List Ex}(h0:0<=m):ux m op n l.length (bit<|fh (m - 1).toNat<|l.getD 0 default) (bit<|fh (m - 1).toNat<|l.getD 1 default)↔fh m.toNat (.mk op n l)=true:=by
 by_cases hm:m=0
 ·subst hm;unfold ux;show _↔false=true;constructor
  ·intro h;omega
  ·intro h;cases h
 ·obtain⟨k,hk⟩:∃k,m.toNat=k+1:=⟨m.toNat - 1,by omega⟩;rw[hk,show(m - 1).toNat=k by omega,NO];unfold ux;have b1:∀b:Bool,(bit b=1)↔b=true:=fun b=>by cases b<;>decide
  rw[b1,b1];have e1:l.isEmpty=true↔l.length=0:=by cases l<;>simp
  generalize fh k (l.getD 0 default)=x;generalize fh k (l.getD 1 default)=y;generalize l.isEmpty=q at e1;generalize l.length=L at e1;have x2:(x=true)\/(x=false):=by cases x<;>simp
  have y2:(y=true)\/(y=false):=by cases y<;>simp
  split
  ·rw[e1];omega
  split
  ·rw[TW,TW,e1,decide_eq_true_eq,decide_eq_true_eq];omega
  split
  ·rw[TW,TW,e1,decide_eq_true_eq,decide_eq_true_eq];omega
  split
  ·exact⟨fun h=>by omega,fun h=>by cases h⟩
  rw[TW,TW,decide_eq_true_eq];constructor
  ·intro h;rcases h.2 with h|h|h|h
   ·omega
   ·omega
   ·omega
   ·exact⟨⟨h.2.2.2.1,h.2.2.2.2.1⟩,h.2.2.2.2.2⟩
  ·intro h;exact⟨by omega,.inr<|.inr<|.inr ⟨by omega,by omega,by omega,h.1.1,h.1.2,h.2⟩⟩
theorem Cu(e:Ex):AV.hi (.agg<|aH e)=true:=by show(aH e).all AV.cN=true;exact TG.2 fun x hx=>Ea<|TG.1 (lp.eR e) x hx
theorem acs(hP:bY pg){k:Nat}(h':aY [kW k]){L:bV}(h:aY L):aY<|kW (k+1)::L:=by
 refine gu hP h h' Tryd.func81 fun args v e=>?_;obtain⟨⟨op,n,l⟩,m,rfl,hm,hk,rfl⟩:=fQ e;refine⟨aI.1 aV,fun B mc=>?_⟩;rw[←gX];obtain⟨ch,n0,l0,e0⟩:∃a b c,l.getD 0 default=Ex.mk a b c:=by cases l.getD 0 default;exact⟨_,_,_,rfl⟩
 obtain⟨cP,n1,l1,e1⟩:∃a b c,l.getD 1 default=Ex.mk a b c:=by cases l.getD 1 default;exact⟨_,_,_,rfl⟩
 have c:∀x:Ex,1<=m->bc (aK<|uy k) [.agg<|aH x,.int .i64<|m - 1]=some (.bool<|decide<|bit (fh (m - 1).toNat x)=1):=fun x h1=>by rw[yh];refine eV (eQ uy.bJ ⟨x,m - 1,rfl,by omega,by omega,rfl⟩) ?_ rfl;rw[TS,Cu];rfl
 have key:=afK (L:=l.length) (N:=nm<|dC l) (op:=op) (n:=n) (m:=m) (k:=k) mc (cR _) ae
  (x0:=bit<|fh (m - 1).toNat<|l.getD 0 default) (x1:=bit<|fh (m - 1).toNat<|l.getD 1 default)
  (N0:=nm<|dC l0) (L0:=l0.length) (ch:=ch) (n0:=n0) (N1:=nm<|dC l1) (L1:=l1.length) (cP:=cP) (n1:=n1)
  (fun _=>by have:=zY (l:=l) (i:=0) (a:=l.getD 0 default) (by rw[T9,TE (show 0<l.length by omega)];rfl) (z:=0) rfl;rw[e0,aH] at this;exact this)
  (fun h2 h1=>by have:=c (l.getD 0 default) h1;rw[e0,aH, ←e0] at this;exact this)
  (fun _=>by have:=zY (l:=l) (i:=1) (a:=l.getD 1 default) (by rw[T9,TE (show 1<l.length by omega)];rfl) (z:=1) rfl;rw[e1,aH] at this;exact this)
  (fun h2 h1=>by have:=c (l.getD 1 default) h1;rw[e1,aH, ←e1] at this;exact this)
 rw[show decide (ux m op n l.length _ _)=fh m.toNat (.mk op n l) from by rw[VU,decide_eq_true_eq];exact aey hm.1] at key;rw[aH];exact key
theorem amj(hP:bY pg):∀k,aY [kW k]
 |0=>by refine gu hP dj dj Tryd.func81 fun args v e=>?_;obtain⟨_,m,_,hm,_⟩:=fQ e;omega
 |k+1=>acs hP (amj hP k) dj
end dD
namespace gI
open cj dt
variable {x:Int} {B:aE} {N L:Nat}
def uY(x m:Int):AV:=if m<1 then .tuple [.int .i64 0,.int .i64 1] else if Uh x m<0 then .tuple [.int .i64<|Uh x m+m,.int .i64 0] else .tuple [.int .i64<|Uh x m,.int .i64 0]
theorem afL{m:Int}(h:1<=m): - m<Uh x m/\Uh x m<m:=by have h1:=Int.tmod_lt_of_pos x (show 0<m by omega);have h2:=Int.lt_tmod_of_pos x (show 0<m by omega);exact⟨h2,h1⟩
theorem afM{op n:Int}(mc:Mt [kW 7] B)(hc:bc (aK<|uy 7) [(.agg [(u8<|op),(i6 n),(.ab N 0 L)]),.int .i64 6]=some (.bool<|decide<|x=1)):av pg B 270 (Fin pg (aC Tryd.f71) fun y _=>y=(.bool<|decide<|x=1)) (sF 71 Tryd.f71 [(.agg [(u8<|op),(i6 n),(.ab N 0 L)])])<|aj aq 270:=wS mc (.st 3<|.rg<|.go 1<|.kp (x=1) inferInstance (.go 1<|.en<|.rt 1 .no)<|.go 1<|.en<|.rt 1 .no)<|ai hc<|bq (x=1) (fun _=>(show AV.bool true= .bool (decide<|x=1) from by rw[decide_eq_true ae])) fun _=>(show AV.bool false= .bool (decide<|x=1) from by rw[decide_eq_false ae])
theorem akE{o:Nat}{z u:Int}(mc:Mt [] B)(hn:top<=N)(hz:0<=z)(hy:z<(L:Int)->cZ FU N (o+z.toNat*1+0) 1=some [.int .i64 u]):av pg B 270 (Fin pg (aC Tryd.f82) fun y _=>y=(if z>=(L:Int) then .tuple [.int .i64 0,.int .i64 5] else .tuple [.int .i64 u,.int .i64 0])) (sF 82 Tryd.f82 [(.ab N o L),(i6 z)])<|aj aq 270:=wS mc (.st 4<|.rg<|.go 3<|.fk (.en<|.rt 4 .no)<|.en<|.st 3<|.rg<|.go 2<|.cm<|.cn [(i6 u)]<|.go 2<|.en<|.rt 1 .no)<|bq (z>=(L:Int)) (fun _=>(show AV.tuple [i0,(i6<|.ofNat 5)]=(if z>=(L:Int) then .tuple [.int .i64 0,.int .i64 5] else .tuple [.int .i64 u,.int .i64 0]) from by rw[if_pos ae];rfl)) fun _=>(gq z (L:Int)<|ai hn<|ai (hy ae) (show AV.tuple [(i6 u),i0]=(if z>=(L:Int) then .tuple [.int .i64 0,.int .i64 5] else .tuple [.int .i64 u,.int .i64 0]) from by rw[if_neg ae];rfl))
theorem aiP{m:Int}(mc:Mt [] B)(hm:m<=1099511627776)(ht:1<=m-> - m<Uh x m):av pg B 270 (Fin pg (aC Tryd.f52) fun y _=>y=(uY x m)) (sF 52 Tryd.f52 [(i6 x),(i6 m)])<|aj aq 270:=wS mc (.st 4<|.rg<|.go 1<|.fk (.en<|.rt 4 .no)<|.en<|.st 3<|.rg<|.go 2<|.rm<|.go 1<|.en<|.st 2<|.rg<|.go 1<|.fk (.en<|.st 1<|.rg<|.go 2<|.vl (i6<|(Uh x m)+m)<|.go 1<|.en<|.rt 3 .no)<|.en<|.rt 5 .no)<|bq (m<1) (fun _=>(show AV.tuple [i0,(i6<|.ofNat 1)]=uY x m from by unfold uY;repeat' split<;>first|rfl|omega|(exfalso;omega))) fun _=>(ai (show m≠0 from by omega)<|bq ((Uh x m)<0) (fun _=>(ai (wI<|(Uh x m)+m) (show AV.tuple [(i6<|((Uh x m)+m)),i0]=uY x m from by unfold uY;repeat' split<;>first|rfl|omega|(exfalso;omega)))) fun _=>(show AV.tuple [(i6<|(Uh x m)),i0]=uY x m from by unfold uY;repeat' split<;>first|rfl|omega|(exfalso;omega)))
end gI
namespace gg
open cj cC dt dD gI
variable {L:bV}
def xc(args:List AV)(v:AV):Prop:=∃e:Ex,args=[.agg<|aH e]/\v= .bool (fh 6 e)
theorem xc.bJ(args:List AV)(v v':AV)(h:xc args v)(h':xc args v'):v=v':=by obtain⟨e,rfl,rfl⟩:=h;obtain⟨e',h1,rfl⟩:=h';simp only[TQ,AV.agg.injEq,_root_.and_true] at h1;rw[oe _ _ h1]
def RD:FuncId×KE:=(71,.val<|aK xc)
theorem WO(hP:bY pg)(h:aY L):aY<|RD::L:=by refine gu hP h (amj hP 7) Tryd.func71 fun args v e=>?_;obtain⟨⟨op,n,l⟩,rfl,rfl⟩:=fQ e;refine⟨aI.1 aV,fun B mc=>?_⟩;rw[←gX];have key:=afM (L:=l.length) (N:=nm<|dC l) (op:=op) (n:=n) (x:=bit<|fh 6<|.mk op n l) mc (by rw[yh];have:=eV (eQ uy.bJ ⟨.mk op n l,6,rfl,by omega,by omega,rfl⟩:aK (uy 7) [.agg<|aH<|.mk op n l,.int .i64 6]=_) sL rfl;rw[aH] at this;exact this);rw[yh] at key;rw[aH];exact key
def tE(l:List Int)(z:Int):Int×Int:=if z>=(l.length:Int) then(0,5) else(H6 l z,0)
def Fu(p:Int×Int):AV:=.tuple [.int .i64 p.1,.int .i64 p.2]
def AtR(args:List AV)(v:AV):Prop:=∃(N o L:Nat) (l:List Int) (z:Int),args=[.ab N o L,.int .i64 z]/\dP encI 1 (.ab N o L) l/\0<=z/\v=Fu (tE l z)
theorem AtR.bJ(args:List AV)(v v':AV)(h:AtR args v)(h':AtR args v'):v=v':=by obtain⟨N,o,L,l,z,rfl,hl,_,rfl⟩:=h;obtain⟨N',o',L',l',z',h1,kQ,_,rfl⟩:=h';simp only[TQ,AV.ab.injEq,AV.int.injEq,true_and,_root_.and_true] at h1;obtain⟨⟨rfl,rfl,rfl⟩,rfl⟩:=h1;rw[dP.inj sa hl kQ]
def Bg:FuncId×KE:=(82,.val<|aK AtR)
theorem ahu(hP:bY pg)(h:aY L):aY<|Bg::L:=by
 refine gu hP h dj Tryd.func82 fun args v e=>?_;obtain⟨N,o,len,l,z,rfl,hl,hz,rfl⟩:=fQ e;refine⟨aI.1 aV,fun B mc=>?_⟩;rw[←gX];obtain⟨h1,h2,h3⟩:=hl.len;subst h1;have key:=akE (u:=H6 l z) mc h2 hz (fun ct=>by have:=h3 z.toNat (H6 l z)<|aiO hz ae;exact this);unfold Fu tE;split at key<;>rename_i q
 ·rw[if_pos q];exact key
 ·rw[if_neg q];exact key
def CP(args:List AV)(v:AV):Prop:=∃(x m:Int),args=[.int .i64 x,.int .i64 m]/\m<=1099511627776/\v=uY x m
theorem CP.bJ(args:List AV)(v v':AV)(h:CP args v)(h':CP args v'):v=v':=by obtain⟨x,m,rfl,_,rfl⟩:=h;obtain⟨x',m',h1,_,rfl⟩:=h';simp only[TQ,AV.int.injEq,true_and,_root_.and_true] at h1;rw[h1.1,h1.2]
def Ml:FuncId×KE:=(52,.val<|aK CP)
theorem afN(hP:bY pg)(h:aY L):aY<|Ml::L:=by refine gu hP h dj Tryd.func52 fun args v e=>?_;obtain⟨x,m,rfl,hm,rfl⟩:=fQ e;refine⟨aI.1 aV,fun B mc=>?_⟩;rw[←gX];exact aiP mc hm fun h=>(afL h).1
end gg
namespace ig
open cj cC gg
variable {k p lm lg N1 N0 N L1 L0 L G:Nat} {ch n0 f1 f0:Int} {B:aE}
def oV(op a b:Int):Int:=if op=4 then IntKind.wrap .i64 (a+b) else if op=5 then IntKind.wrap .i64 (a - b) else if op=6 then IntKind.wrap .i64 (a*b) else if op=7 then(if a<b then 1 else 0) else if a=b then 1 else 0
def lQ(op n x0 f0 x1 f1:Int):Int×Int:=if op=1 then(n,0) else if op=2 then(x0,f0) else if op=3 then(x0,f0) else if f0≠0 then(0,f0) else if f1≠0 then(0,f1) else(oV op x0 x1,0)
def hJ(op n x0 f0 x1 f1:Int):AV:=Fu<|lQ op n x0 f0 x1 f1
def lR:Nat->Ex->List Int->List Int->Int×Int
 |0,_,_,_=>(0,0)
 |k+1,.mk op n args,lo,aN=>
  if op=2 then lQ op n (tE lo n).1 (tE lo n).2 0 0 else if op=3 then lQ op n (tE aN n).1 (tE aN n).2 0 0
  else lQ op n (lR k (args.getD 0 default) lo aN).1 (lR k (args.getD 0 default) lo aN).2 (lR k (args.getD 1 default) lo aN).1 (lR k (args.getD 1 default) lo aN).2
theorem acu{op n:Int}{args:List Ex}{lo aN:List Int}:lR (k+1) (.mk op n args) lo aN=if op=2 then lQ op n (tE lo n).1 (tE lo n).2 0 0 else if op=3 then lQ op n (tE aN n).1 (tE aN n).2 0 0 else lQ op n (lR k (args.getD 0 default) lo aN).1 (lR k (args.getD 0 default) lo aN).2 (lR k (args.getD 1 default) lo aN).1 (lR k (args.getD 1 default) lo aN).2:=rfl
def qX(k:Nat)(args:List AV)(v:AV):Prop:=∃(e:Ex) (M p lm G q lg:Nat) (lo aN:List Int),args=[.agg<|aH e,.ab M p lm,.ab G q lg]/\dP encI 1 (.ab M p lm) lo/\dP encI 1 (.ab G q lg) aN/\fh k e=true/\v=Fu (lR k e lo aN)
theorem qX.bJ(args:List AV)(v v':AV)(h:qX k args v)(h':qX k args v'):v=v':=by obtain⟨e,M,p,lm,G,q,lg,lo,aN,rfl,a1,a2,_,rfl⟩:=h;obtain⟨e',M',p',lm',G',q',lg',oT,Mm,h1,b1,b2,_,rfl⟩:=h';simp only[TQ,AV.agg.injEq,AV.ab.injEq,_root_.and_true] at h1;obtain⟨h0,⟨rfl,rfl,rfl⟩,rfl,rfl,rfl⟩:=h1;rw[oe _ _ h0,dP.inj sa a1 b1,dP.inj sa a2 b2]
def kC(k:Nat):FuncId×KE:=(72,.val<|aK<|qX k)
theorem afO{M q N0 L0 N1 L1:Nat}{n ch n0 cP n1 x0 x1:Int}(mc:Mt [kC k,Bg] B):av pg B 270 (Fin pg (aC Tryd.f72) fun y _=>y=(hJ 1 n x0 f0 x1 f1)) (sF 72 Tryd.f72 [(.agg [(u8<|.ofNat 1),(i6 n),(.ab N 0 L)]),(.ab M p lm),(.ab G q lg)])<|aj aq 270:=wS mc (.rt 12 .no) (show AV.tuple [(i6 n),i0]=hJ 1 n x0 f0 x1 f1 from by(unfold hJ lQ oV;repeat' split)<;>first|rfl|(exfalso;omega))
theorem afP{M q N0 L0 N1 L1:Nat}{n ch n0 cP n1 x0 x1:Int}(mc:Mt [kC k,Bg] B)(hc:bc (aK AtR) [(.ab M p lm),.int .i64 n]=some (.tuple [.int .i64 x0,.int .i64 f0])):av pg B 270 (Fin pg (aC Tryd.f72) fun y _=>y=(hJ 2 n x0 f0 x1 f1)) (sF 72 Tryd.f72 [(.agg [(u8<|.ofNat 2),(i6 n),(.ab N 0 L)]),(.ab M p lm),(.ab G q lg)])<|aj aq 270:=wS mc (.st 13<|.rg<|.go 3<|.kn (.tuple [(i6 x0),(i6 f0)])<|.go 4<|.en<|.rt 1 .no)<|ai hc (show AV.tuple [(i6 x0),(i6 f0)]=hJ 2 n x0 f0 x1 f1 from by(unfold hJ lQ oV;repeat' split)<;>first|rfl|(exfalso;omega))
theorem afQ{M q N0 L0 N1 L1:Nat}{n ch n0 cP n1 x0 x1:Int}(mc:Mt [kC k,Bg] B)(hc:bc (aK AtR) [(.ab G q lg),.int .i64 n]=some (.tuple [.int .i64 x0,.int .i64 f0])):av pg B 270 (Fin pg (aC Tryd.f72) fun y _=>y=(hJ 3 n x0 f0 x1 f1)) (sF 72 Tryd.f72 [(.agg [(u8<|.ofNat 3),(i6 n),(.ab N 0 L)]),(.ab M p lm),(.ab G q lg)])<|aj aq 270:=wS mc (.st 16<|.rg<|.go 3<|.kn (.tuple [(i6 x0),(i6 f0)])<|.go 4<|.en<|.rt 1 .no)<|ai hc (show AV.tuple [(i6 x0),(i6 f0)]=hJ 3 n x0 f0 x1 f1 from by(unfold hJ lQ oV;repeat' split)<;>first|rfl|(exfalso;omega))
theorem PI{ka:Int}(hk:ka=4\/ka=5\/ka=6){L M q:Nat}{n cP n1 x0 x1:Int}(mc:Mt [kC k,Bg] B)(hn:top<=N)(tC:cZ FU N (0+(0:Int).toNat*3+0) 3=some [(u8<|ch),(i6 n0),(.ab N0 0 L0)])(jF:bc (aK<|qX k) [(.agg [(u8<|ch),(i6 n0),(.ab N0 0 L0)]),(.ab M p lm),(.ab G q lg)]=some (.tuple [.int .i64 x0,.int .i64 f0]))(jw:cZ FU N (0+(1:Int).toNat*3+0) 3=some [(u8<|cP),(i6 n1),(.ab N1 0 L1)])(j8:bc (aK<|qX k) [(.agg [(u8<|cP),(i6 n1),(.ab N1 0 L1)]),(.ab M p lm),(.ab G q lg)]=some (.tuple [.int .i64 x1,.int .i64 f1])):av pg B 270 (Fin pg (aC Tryd.f72) fun y _=>y=(hJ ka n x0 f0 x1 f1)) (sF 72 Tryd.f72 [(.agg [(.int .u8 ka),(i6 n),(.ab N 0 2)]),(.ab M p lm),(.ab G q lg)])<|aj aq 270:=by
 have TT:=(gq (0:Int) 2<|ai hn<|ai tC<|ai jF<|bq (f0≠0) (fun _=>(show AV.tuple [i0,(i6 f0)]=hJ ka n x0 f0 x1 f1 from by rcases hk with rfl|rfl|rfl<;>(unfold hJ lQ oV;repeat' split)<;>first|rfl|(exfalso;omega))) fun _=>(gq (1:Int) 2<|ai hn<|ai jw<|ai j8<|bq (f1≠0) (fun _=>(show AV.tuple [i0,(i6 f1)]=hJ ka n x0 f0 x1 f1 from by rcases hk with rfl|rfl|rfl<;>(unfold hJ lQ oV;repeat' split)<;>first|rfl|(exfalso;omega))) fun _=>(show AV.tuple [(i6<|oV ka x0 x1),i0]=hJ ka n x0 f0 x1 f1 from by rcases hk with rfl|rfl|rfl<;>(unfold hJ lQ oV;repeat' split)<;>first|rfl|(exfalso;omega))));rcases hk with rfl|rfl|rfl
 all_goals exact wS mc (.st 32<|.rg<|.go 1<|.cm<|.cn [(u8<|ch),(i6 n0),(.ab N0 0 L0)]<|.go 3<|.en<|.st 1<|.rg<|.go 3<|.kn (.tuple [(i6 x0),(i6 f0)])<|.go 5<|.en<|.st 2<|.rg<|.go 1<|.fk (.en<|.rt 4 .no)<|.en<|.st 14<|.rg<|.go 1<|.cm<|.cn [(u8<|cP),(i6 n1),(.ab N1 0 L1)]<|.go 3<|.en<|.st 1<|.rg<|.go 3<|.kn (.tuple [(i6 x1),(i6 f1)])<|.go 5<|.en<|.st 2<|.rg<|.go 1<|.fk (.en<|.rt 4 .no)<|.en<|.st 12<|.rg<|.go 8<|.il<|.st 3<|.rg<|.go 2<|.go 1<|.go 1<|.en<|.rt 1<|.go 2<|.en<|.rt 1 .no) TT
theorem afR{L M q:Nat}{n cP n1 x0 x1:Int}(mc:Mt [kC k,Bg] B)(hn:top<=N)(tC:cZ FU N (0+(0:Int).toNat*3+0) 3=some [(u8<|ch),(i6 n0),(.ab N0 0 L0)])(jF:bc (aK<|qX k) [(.agg [(u8<|ch),(i6 n0),(.ab N0 0 L0)]),(.ab M p lm),(.ab G q lg)]=some (.tuple [.int .i64 x0,.int .i64 f0]))(jw:cZ FU N (0+(1:Int).toNat*3+0) 3=some [(u8<|cP),(i6 n1),(.ab N1 0 L1)])(j8:bc (aK<|qX k) [(.agg [(u8<|cP),(i6 n1),(.ab N1 0 L1)]),(.ab M p lm),(.ab G q lg)]=some (.tuple [.int .i64 x1,.int .i64 f1])):av pg B 270 (Fin pg (aC Tryd.f72) fun y _=>y=(hJ 7 n x0 f0 x1 f1)) (sF 72 Tryd.f72 [(.agg [(u8<|.ofNat 7),(i6 n),(.ab N 0 2)]),(.ab M p lm),(.ab G q lg)])<|aj aq 270:=wS mc (.st 32<|.rg<|.go 1<|.cm<|.cn [(u8<|ch),(i6 n0),(.ab N0 0 L0)]<|.go 3<|.en<|.st 1<|.rg<|.go 3<|.kn (.tuple [(i6 x0),(i6 f0)])<|.go 5<|.en<|.st 2<|.rg<|.go 1<|.fk (.en<|.rt 4 .no)<|.en<|.st 14<|.rg<|.go 1<|.cm<|.cn [(u8<|cP),(i6 n1),(.ab N1 0 L1)]<|.go 3<|.en<|.st 1<|.rg<|.go 3<|.kn (.tuple [(i6 x1),(i6 f1)])<|.go 5<|.en<|.st 2<|.rg<|.go 1<|.fk (.en<|.rt 4 .no)<|.en<|.st 12<|.rg<|.go 8<|.il<|.st 3<|.rg<|.go 2<|.fk (.il<|.rt 9<|.go 1<|.en<|.rt 1<|.go 2<|.en<|.rt 1 .no)<|.il<|.rt 10<|.go 1<|.en<|.rt 1<|.go 2<|.en<|.rt 1 .no)<|gq (0:Int) 2<|ai hn<|ai tC<|ai jF<|bq (f0≠0) (fun _=>(show AV.tuple [i0,(i6 f0)]=hJ 7 n x0 f0 x1 f1 from by(unfold hJ lQ oV;repeat' split)<;>first|rfl|(exfalso;omega))) fun _=>(gq (1:Int) 2<|ai hn<|ai jw<|ai j8<|bq (f1≠0) (fun _=>(show AV.tuple [i0,(i6 f1)]=hJ 7 n x0 f0 x1 f1 from by(unfold hJ lQ oV;repeat' split)<;>first|rfl|(exfalso;omega))) fun _=>(bq (x0<x1) (fun _=>(show AV.tuple [(i6<|.ofNat 1),i0]=hJ 7 n x0 f0 x1 f1 from by(unfold hJ lQ oV;repeat' split)<;>first|rfl|(exfalso;omega))) fun _=>(show AV.tuple [i0,i0]=hJ 7 n x0 f0 x1 f1 from by(unfold hJ lQ oV;repeat' split)<;>first|rfl|(exfalso;omega))))
theorem afS{L M q:Nat}{n cP n1 x0 x1:Int}(mc:Mt [kC k,Bg] B)(hn:top<=N)(tC:cZ FU N (0+(0:Int).toNat*3+0) 3=some [(u8<|ch),(i6 n0),(.ab N0 0 L0)])(jF:bc (aK<|qX k) [(.agg [(u8<|ch),(i6 n0),(.ab N0 0 L0)]),(.ab M p lm),(.ab G q lg)]=some (.tuple [.int .i64 x0,.int .i64 f0]))(jw:cZ FU N (0+(1:Int).toNat*3+0) 3=some [(u8<|cP),(i6 n1),(.ab N1 0 L1)])(j8:bc (aK<|qX k) [(.agg [(u8<|cP),(i6 n1),(.ab N1 0 L1)]),(.ab M p lm),(.ab G q lg)]=some (.tuple [.int .i64 x1,.int .i64 f1])):av pg B 270 (Fin pg (aC Tryd.f72) fun y _=>y=(hJ 8 n x0 f0 x1 f1)) (sF 72 Tryd.f72 [(.agg [(u8<|.ofNat 8),(i6 n),(.ab N 0 2)]),(.ab M p lm),(.ab G q lg)])<|aj aq 270:=wS mc (.st 32<|.rg<|.go 1<|.cm<|.cn [(u8<|ch),(i6 n0),(.ab N0 0 L0)]<|.go 3<|.en<|.st 1<|.rg<|.go 3<|.kn (.tuple [(i6 x0),(i6 f0)])<|.go 5<|.en<|.st 2<|.rg<|.go 1<|.fk (.en<|.rt 4 .no)<|.en<|.st 14<|.rg<|.go 1<|.cm<|.cn [(u8<|cP),(i6 n1),(.ab N1 0 L1)]<|.go 3<|.en<|.st 1<|.rg<|.go 3<|.kn (.tuple [(i6 x1),(i6 f1)])<|.go 5<|.en<|.st 2<|.rg<|.go 1<|.fk (.en<|.rt 4 .no)<|.en<|.st 12<|.rg<|.go 8<|.il<|.st 3<|.rg<|.go 2<|.fk (.il<|.rt 9<|.go 1<|.en<|.rt 1<|.go 2<|.en<|.rt 1 .no)<|.il<|.rt 10<|.go 1<|.en<|.rt 1<|.go 2<|.en<|.rt 1 .no)<|gq (0:Int) 2<|ai hn<|ai tC<|ai jF<|bq (f0≠0) (fun _=>(show AV.tuple [i0,(i6 f0)]=hJ 8 n x0 f0 x1 f1 from by(unfold hJ lQ oV;repeat' split)<;>first|rfl|(exfalso;omega))) fun _=>(gq (1:Int) 2<|ai hn<|ai jw<|ai j8<|bq (f1≠0) (fun _=>(show AV.tuple [i0,(i6 f1)]=hJ 8 n x0 f0 x1 f1 from by(unfold hJ lQ oV;repeat' split)<;>first|rfl|(exfalso;omega))) fun _=>(bq (x0=x1) (fun _=>(show AV.tuple [(i6<|.ofNat 1),i0]=hJ 8 n x0 f0 x1 f1 from by(unfold hJ lQ oV;repeat' split)<;>first|rfl|(exfalso;omega))) fun _=>(show AV.tuple [i0,i0]=hJ 8 n x0 f0 x1 f1 from by(unfold hJ lQ oV;repeat' split)<;>first|rfl|(exfalso;omega))))
end ig
namespace iu
open cj cC dD gg ig
variable {k:Nat}
theorem abQ{op n:Int}{l:List Ex}(h:fh (k+1) (.mk op n l)=true):(op=1\/(op=2/\0<=n)\/(op=3/\0<=n))\/((op=4\/op=5\/op=6\/op=7\/op=8)/\l.length=2/\fh k (l.getD 0 default)=true/\fh k (l.getD 1 default)=true):=by
 rw[NO] at h;split at h
 ·omega
 split at h
 ·rw[TW,TW,decide_eq_true_eq] at h;omega
 split at h
 ·rw[TW,TW,decide_eq_true_eq] at h;omega
 split at h
 ·cases h
 rw[TW,TW,decide_eq_true_eq] at h;exact .inr ⟨by omega,h.1.1,h.1.2,h.2⟩
theorem Yu{N o L:Nat}{l:List Int}{z:Int}(h:dP encI 1 (.ab N o L) l)(hz:0<=z):bc (aK AtR) [.ab N o L,.int .i64 z]=some (.tuple [.int .i64 (tE l z).1,.int .i64 (tE l z).2]):=eV (eQ AtR.bJ ⟨N,o,L,l,z,rfl,h,hz,rfl⟩) (by rw[TS,h.hi];rfl) rfl
theorem PJ{e:Ex}{M p lm G q lg:Nat}{lo aN:List Int}(h1:dP encI 1 (.ab M p lm) lo)(h2:dP encI 1 (.ab G q lg) aN)(hw:fh k e=true):
 bc (aK<|qX k) [.agg<|aH e,.ab M p lm,.ab G q lg]=some (.tuple [.int .i64 (lR k e lo aN).1,.int .i64 (lR k e lo aN).2]):=
 eV (eQ qX.bJ ⟨e,M,p,lm,G,q,lg,lo,aN,rfl,h1,h2,hw,rfl⟩) (by rw[TS,TS,TS,Cu,h1.hi,h2.hi];rfl) rfl
theorem adk(hP:bY pg)(h':aY [kC k,Bg]){L:bV}(h:aY L):aY<|kC (k+1)::L:=by
 refine gu hP h h' Tryd.func72 fun args v e=>?_;obtain⟨⟨op,n,l⟩,M,p,lm,G,q,lg,lo,aN,rfl,i1,i2,hw,rfl⟩:=fQ e;refine⟨aI.1 aV,fun B mc=>?_⟩;rw[←gX,acu,aH];rcases abQ hw with(rfl|⟨rfl,hn⟩|⟨rfl,hn⟩)|⟨ho,h2,w0,w1⟩
 ·exact afO (N0:=0) (L0:=0) (N1:=0) (L1:=0) (ch:=0) (n0:=0) (cP:=0) (n1:=0) (x0:=(lR k (l.getD 0 default) lo aN).1) (f0:=(lR k (l.getD 0 default) lo aN).2) (x1:=(lR k (l.getD 1 default) lo aN).1) (f1:=(lR k (l.getD 1 default) lo aN).2) mc
 ·exact afP (N0:=0) (L0:=0) (N1:=0) (L1:=0) (ch:=0) (n0:=0) (cP:=0) (n1:=0) (x1:=0) (f1:=0) mc<|Yu i1 hn
 ·exact afQ (N0:=0) (L0:=0) (N1:=0) (L1:=0) (ch:=0) (n0:=0) (cP:=0) (n1:=0) (x1:=0) (f1:=0) mc<|Yu i2 hn
 obtain⟨ch,n0,l0,e0⟩:∃a b c,l.getD 0 default=Ex.mk a b c:=by cases l.getD 0 default;exact⟨_,_,_,rfl⟩
 obtain⟨cP,n1,l1,e1⟩:∃a b c,l.getD 1 default=Ex.mk a b c:=by cases l.getD 1 default;exact⟨_,_,_,rfl⟩
 have t0:=zY (l:=l) (i:=0) (a:=l.getD 0 default) (by rw[T9,TE (show 0<l.length by omega)];rfl) (z:=0) rfl;have t1:=zY (l:=l) (i:=1) (a:=l.getD 1 default) (by rw[T9,TE (show 1<l.length by omega)];rfl) (z:=1) rfl;have c0:=PJ i1 i2 w0;have c1:=PJ i1 i2 w1;rw[if_neg ae,if_neg ae,h2];generalize tC:lR k (l.getD 0 default) lo aN=y0 at c0;generalize jw:lR k (l.getD 1 default) lo aN=y1 at c1;rw[e0,aH] at t0 c0;rw[e1,aH] at t1 c1;rcases ho with rfl|rfl|rfl|rfl|rfl
 ·exact PI (.inl rfl) (L:=0) mc (cR _) t0 c0 t1 c1
 ·exact PI (.inr<|.inl rfl) (L:=0) mc (cR _) t0 c0 t1 c1
 ·exact PI (.inr<|.inr rfl) (L:=0) mc (cR _) t0 c0 t1 c1
 ·exact afR (L:=0) mc (cR _) t0 c0 t1 c1
 ·exact afS (L:=0) mc (cR _) t0 c0 t1 c1
theorem am5(hP:bY pg):∀(k:Nat) {L:bV},aY L->aY (kC k::L)
 |0,L,h=>by refine gu hP h dj Tryd.func72 fun args v e=>?_;obtain⟨_,_,_,_,_,_,_,_,_,_,_,_,hw,_⟩:=fQ e;cases hw
 |k+1,L,h=>adk hP (am5 hP k<|ahu hP dj) h
end iu
namespace iD
open cj cC dD gg ig
theorem P9{e:Ex}:bc (aK xc) [.agg<|aH e]=some (.bool<|fh 6 e):=eV (eQ xc.bJ ⟨e,rfl,rfl⟩) sL rfl
def Ap(e:Ex)(lo aN:List Int):Int×Int:=if fh 6 e=true then lR 6 e lo aN else(0,4)
def Aq(args:List AV)(v:AV):Prop:=∃(e:Ex) (M p lm G q lg:Nat) (lo aN:List Int),args=[.agg<|aH e,.ab M p lm,.ab G q lg]/\dP encI 1 (.ab M p lm) lo/\dP encI 1 (.ab G q lg) aN/\v=Fu (Ap e lo aN)
theorem Aq.bJ(args:List AV)(v v':AV)(h:Aq args v)(h':Aq args v'):v=v':=by obtain⟨e,M,p,lm,G,q,lg,lo,aN,rfl,a1,a2,rfl⟩:=h;obtain⟨e',M',p',lm',G',q',lg',oT,Mm,h1,b1,b2,rfl⟩:=h';simp only[TQ,AV.agg.injEq,AV.ab.injEq,_root_.and_true] at h1;obtain⟨h0,⟨rfl,rfl,rfl⟩,rfl,rfl,rfl⟩:=h1;rw[oe _ _ h0,dP.inj sa a1 b1,dP.inj sa a2 b2]
theorem ahv{B:aE}{N L M p lm G q lg:Nat}{op n x u f:Int}(mc:Mt [RD,kC 6] B)(hc:bc (aK xc) [(.agg [(u8<|op),(i6 n),(.ab N 0 L)])]=some (.bool<|decide<|x=1))(hd:x=1->bc (aK<|qX 6) [(.agg [(u8<|op),(i6 n),(.ab N 0 L)]),(.ab M p lm),(.ab G q lg)]=some (.tuple [.int .i64 u,.int .i64 f])):av pg B 270 (Fin pg (aC Tryd.f50) fun y _=>y=(if x=1 then .tuple [.int .i64 u,.int .i64 f] else .tuple [.int .i64 0,.int .i64 4])) (sF 50 Tryd.f50 [(.agg [(u8<|op),(i6 n),(.ab N 0 L)]),(.ab M p lm),(.ab G q lg)])<|aj aq 270:=wS mc (.st 4<|.rg<|.go 1<|.kp (x=1) inferInstance (.go 1<|.en<|.st 3<|.rg<|.go 3<|.kn (.tuple [(i6 u),(i6 f)])<|.go 4<|.en<|.rt 1 .no)<|.go 1<|.en<|.rt 4 .no)<|ai hc<|bq (x=1) (fun _=>(ai (hd ae) (show AV.tuple [(i6 u),(i6 f)]=(if x=1 then .tuple [.int .i64 u,.int .i64 f] else .tuple [.int .i64 0,.int .i64 4]) from by split<;>first|rfl|(exfalso;omega)))) fun _=>(show AV.tuple [i0,(i6<|.ofNat 4)]=(if x=1 then .tuple [.int .i64 u,.int .i64 f] else .tuple [.int .i64 0,.int .i64 4]) from by split<;>first|rfl|(exfalso;omega))
end iD
namespace Bh
open cj cC
variable {B:aE} {kind:Int} {L:bV}
def M7:List<|List Bool:=[[false,false,false,false,false,false],[true,true,true,false,false,false],[true,true,true,false,false,false],[true,false,true,true,false,false],[true,false,true,false,true,true],[true,false,true,false,true,false],[true,false,false,false,false,false],[true,false,false,false,true,true],[true,false,true,false,false,false]]
def qF(kind:Int):List Bool:=M7.getD kind.toNat [false,false,false,false,false,false]
def xE(kind:Int):AV:=.agg<|(qF kind).map AV.bool
theorem afT(h:9<=kind):xE kind= .agg [.bool false,.bool false,.bool false,.bool false,.bool false,.bool false]:=by unfold xE qF;rw[T9,Uf (show M7.length<=kind.toNat by show 9<=kind.toNat;omega)];rfl
theorem akF{k:Int}(mc:Mt [] B)(h:0<=k/\k<9):av pg B 270 (Fin pg (aC Tryd.f66) fun y _=>y=(xE k)) (sF 66 Tryd.f66 [.int .u8 k])<|aj aq 270:=by
 have TT:(AV.int .i64 (IntKind.wrap .i64 k)= .int .i64 k)/\xE k=xE k:=⟨wI k,rfl⟩;let P:Pl:=.st 6<|.rg<|.go 1<|.vl (.int .i64 k)<|.go 1<|.en<|.rt 5 .no;obtain rfl|rfl|rfl|rfl|rfl|rfl|rfl|rfl|rfl:k=0\/k=1\/k=2\/k=3\/k=4\/k=5\/k=6\/k=7\/k=8:=by omega
 all_goals exact wS mc P TT aV
theorem akG(mc:Mt [] B)(h0:9<=kind)(h9:kind<256):av pg B 270 (Fin pg (aC Tryd.f66) fun y _=>y=(xE kind)) (sF 66 Tryd.f66 [(u8<|kind)])<|aj aq 270:=wS mc (.st 6<|.rg<|.go 1<|.vl (.int .i64 kind)<|.fk (.en<|.rt 4 .no)<|.no)<|ai (wI kind)<|bq (kind>=9) (fun _=>(show(.agg [(.bool false),(.bool false),(.bool false),(.bool false),(.bool false),(.bool false)])=xE kind from(afT h0).symm)) iF
theorem ahw{N L:Nat}{op n:Int}(mc:Mt [] B):av pg B 270 (Fin pg (aC Tryd.f69) fun y _=>y=(.bool<|decide<|op=0/\n=0/\L=0)) (sF 69 Tryd.f69 [(.agg [(u8<|op),(i6 n),(.ab N 0 L)])])<|aj aq 270:=wS mc (.st 3<|.rg<|.go 2<|.fk (.go 3<|.fk (.go 5<|.fk (.go 2<|.en<|.rt 1 .no)<|.go 2<|.en<|.rt 1 .no)<|.go 8<|.en<|.rt 1 .no)<|.go 12<|.en<|.rt 1 .no)<|bq (op=0) (fun _=>(bq (n=0) (fun _=>(bq ((L:Int)=0) (fun _=>(show AV.bool true= .bool (decide<|op=0/\n=0/\L=0) from by rw[decide_eq_true ae])) fun _=>(show AV.bool false= .bool (decide<|op=0/\n=0/\L=0) from by rw[decide_eq_false ae]))) fun _=>(show AV.bool false= .bool (decide<|op=0/\n=0/\L=0) from by rw[decide_eq_false ae]))) fun _=>(show AV.bool false= .bool (decide<|op=0/\n=0/\L=0) from by rw[decide_eq_false ae])
def kV(args:List AV)(v:AV):Prop:=∃kind:Int,args=[.int .u8 kind]/\0<=kind/\kind<256/\v=xE kind
theorem kV.bJ(args:List AV)(v v':AV)(h:kV args v)(h':kV args v'):v=v':=by obtain⟨x,rfl,_,_,rfl⟩:=h;obtain⟨x',h1,_,_,rfl⟩:=h';simp only[TQ,AV.int.injEq,true_and,_root_.and_true] at h1;rw[h1]
def xF:FuncId×KE:=(66,.val<|aK kV)
theorem ahx(hP:bY pg)(h:aY L):aY<|xF::L:=by
 refine gu hP h dj Tryd.func66 fun args v e=>?_;obtain⟨kind,rfl,h0,h1,rfl⟩:=fQ e;refine⟨aI.1 aV,fun B mc=>?_⟩;rw[←gX];by_cases h9:9<=kind
 ·exact akG mc h9 h1
 exact akF mc ⟨h0,by omega⟩
def EZ(e:Ex):Prop:=e.op=0/\e.n=0/\e.args.length=0
instance {e:Ex}:Decidable<|EZ e:=by unfold EZ;exact inferInstance
def nM(args:List AV)(v:AV):Prop:=∃e:Ex,args=[.agg<|aH e]/\v= .bool (decide<|EZ e)
theorem nM.bJ(args:List AV)(v v':AV)(h:nM args v)(h':nM args v'):v=v':=by obtain⟨e,rfl,rfl⟩:=h;obtain⟨e',h1,rfl⟩:=h';simp only[TQ,AV.agg.injEq,_root_.and_true] at h1;rw[oe _ _ h1]
def wP:FuncId×KE:=(69,.val<|aK nM)
theorem aez(hP:bY pg)(h:aY L):aY<|wP::L:=by refine gu hP h dj Tryd.func69 fun args v e=>?_;obtain⟨⟨op,n,l⟩,rfl,rfl⟩:=fQ e;refine⟨aI.1 aV,fun B mc=>?_⟩;rw[←gX,aH];exact ahw mc
end Bh
namespace fu
open cj cC cY
variable {k N L N0 L0:Nat} {v:AV} {B:aE} {ch n0 i c:Int}
theorem Qa{nx:Nat}{l:List<|Nat×AV}(h:∀r:Nat->Nat,(∀k,top<=k->r k=k)->∀p∈l,aZ r p.2 p.2)(hn:Tw 270 nx=true):uU nx l aq:=by intro r r1 r2;exact⟨h r r2,fun p hp x hx=>D9 (nx:=270) (fun k hk=>r1 k<|TJ hk<|aI.1 hn) cf p hp x hx⟩
def uJ:Nat->Ex->Bool
 |0,_=>false
 |k+1,.mk _ _ args=>args.all<|uJ k
def wz(k:Nat)(args:List AV)(v:AV):Prop:=∃e:Ex,args=[.agg<|aH e]/\uJ k e=true/\lO k e<=1000000/\v= .int .i64 (lO k e)
theorem wz.bJ(args:List AV)(v v':AV)(h:wz k args v)(h':wz k args v'):v=v':=by obtain⟨e,rfl,_,_,rfl⟩:=h;obtain⟨e',h1,_,_,rfl⟩:=h';simp only[TQ,AV.agg.injEq,_root_.and_true] at h1;rw[oe _ _ h1]
def Cf(k:Nat):FuncId×KE:=(79,.val<|aK<|wz k)
def Cg(N:Nat)(L:Nat)(m:Int)(i:Int):List<|Nat×AV:=[(3,(i6 m)),(7,(.ab N 0 L)),(8,(i6<|(L:Int))),(9,(i6 i))]
def yw(N:Nat)(L:Nat)(m:Int)(i:Int):AF:=⟨79,aA<|Cg N L m i,(max Tryd.f79.ntmps 1),[.code<|aL pg 79 [1,1,0,1,0,0],.inLoop<|aL pg 79 [1,1,0,1,0,0],.inBlock 0,.code<|aL pg 79 [1,1,1]],[],none⟩
theorem XQ(N:Nat)(L:Nat)(m:Int)(i:Int)(hn:top<=N):((Cg N L m i).map (fun q=>some q.2)=(Cg N L m i).map (fun q=>some q.2))/\(aq.map (fun q=>q.2)=aq.map (fun q=>q.2))/\uU 270 (Cg N L m i) aq/\(yw N L m i=yw N L m i/\aj aq 270=aj aq 270):=⟨rfl,rfl,Qa (fun r r2 p hp=>by simp only[Cg,Ty,TV,or_false] at hp;rcases hp with rfl|rfl|rfl|rfl<;>first|exact aZ.int _ _|exact aZ.ab (r2 _ hn) r2) rfl,rfl,rfl⟩
theorem ahy{m:Int}(mc:Mt [Cf k] B)(hn:top<=N)(hi:0<=i)(hL:L<=1000000)(hm:0<=m/\m<=1000000)(jF:0<=c/\c<=1000000)(hx:cZ FU N (0+i.toNat*3+0) 3=some [(u8<|ch),(i6 n0),(.ab N0 0 L0)])(hc:bc (aK<|wz k) [(.agg [(u8<|ch),(i6 n0),(.ab N0 0 L0)])]=some (.int .i64 c))(h1:i<(L:Int))(H:av pg B 270 (Fin pg (aC Tryd.f79) fun y _=>y=v) (yw N L (m+c)<|i+1)<|aj aq 270):av pg B 270 (Fin pg (aC Tryd.f79) fun y _=>y=v) (yw N L m i)<|aj aq 270:=wC mc (C:=(fun fr s1 _=>fr=yw N L (m+c) (i+1)/\s1=aj aq 270)) nC (.st 1<|.rg<|.fk (.en<|.st 6<|.rg<|.cm<|.cn [(u8<|ch),(i6 n0),(.ab N0 0 L0)]<|.go 2<|.en<|.rg<|.go 2<|.kn (i6 c)<|.vl (i6<|m+c)<|.go 1<|.en<|.st 1<|.rg<|.vl (i6<|i+1)<|.go 1<|.en<|.st 1<|.bk (Cg N L (m+c)<|i+1) aq 270 .no)<|.no)<|bq (i<(L:Int)) (fun _=>(gq i (L:Int)<|ai hn<|ai hx<|ai hc<|ai (wI<|m+c)<|ai (wI<|i+1)<|XQ N L (m+c) (i+1) hn)) iF
theorem ahz{m:Int}{N0 L0:Nat}{ch n0 c:Int}(mc:Mt [Cf k] B)(h1:(L:Int)<=i)(hv: .int .i64 m=v):av pg B 270 (Fin pg (aC Tryd.f79) fun y _=>y=v) (yw N L m i)<|aj aq 270:=wS mc (.st 1<|.rg<|.fk (.no)<|.en<|.rt 6 .no)<|bq (i<(L:Int)) iF fun _=>(show(i6 m)=v from hv)
theorem go_cnt{op n:Int}(mc:Mt [Cf k] B)(hn:top<=N)(H:av pg B 270 (Fin pg (aC Tryd.f79) fun y _=>y=v) (yw N L 1 0)<|aj aq 270):av pg B 270 (Fin pg (aC Tryd.f79) fun y _=>y=v) (sF 79 Tryd.f79 [(.agg [(u8<|op),(i6 n),(.ab N 0 L)])])<|aj aq 270:=wC mc (C:=(fun fr s1 _=>fr=yw N L 1 0/\s1=aj aq 270)) nC (.st 9<|.bk (Cg N L 1 0) aq 270 .no)<|XQ N L 1 0 hn
end fu
namespace CQ
open cj cC dD fu cY
theorem Kc{g:Ex->Int}:∀(l:List Ex) (m:Int),(∀a∈l,1<=g a)->m+(l.length:Nat)<=l.foldl (fun n a=>n+g a) m
 |[],m,_=>by simp only[Ub,List.foldl_nil];omega
 |a::l,m,h=>by have h1:=Kc l (m+g a) fun b hb=>h b<|TB _ hb;have h2:=h a TA;rw[Un,TL];omega
theorem Gz:∀(k:Nat) (e:Ex),uJ k e=true->1<=lO k e
 |0,_,h=>by cases h
 |k+1,.mk op n l,h=>by have h1:l.all (uJ k)=true:=h;have:=Kc (g:=lO k) l 1 fun a ha=>Gz k a<|TG.1 h1 a ha;show 1<=l.foldl (fun n a=>n+lO k a) 1;omega
theorem acv(hP:bY pg){k:Nat}(h':aY [Cf k]){L:bV}(h:aY L):aY<|Cf (k+1)::L:=by
 refine gu hP h h' Tryd.func79 fun args v e=>?_;obtain⟨⟨op,n,l⟩,rfl,hd,hc,rfl⟩:=fQ e;refine⟨aI.1 aV,fun B mc=>?_⟩;rw[←gX,aH];have hd:l.all (uJ k)=true:=hd;have hc:l.foldl (fun n a=>n+lO k a) 1<=1000000:=hc;have pos:∀a∈l,1<=lO k a:=fun a ha=>Gz k a<|TG.1 hd a ha;have key:∀(r:List Ex) (i:Nat) (m:Int),l.drop i=r->0<=m->r.foldl (fun n a=>n+lO k a) m<=1000000->
  av pg B 270 (Fin pg (aC Tryd.f79) fun y _=>y= .int .i64 (r.foldl (fun n a=>n+lO k a) m)) (yw (nm<|dC l) l.length m i) (aj aq 270):=by
  intro r;induction r with
  |nil=>intro i m hr _ _;have hi:l.length<=i:=UO.1 hr;exact ahz (k:=k) (N0:=0) (L0:=0) (ch:=0) (n0:=0) (c:=0) mc ae rfl
  |cons a r ih=>
   intro i m hr h0 h1;have hl:i<l.length:=by
    by_cases q:i<l.length
    ·exact q
    ·rw[Vc ae] at hr;cases hr
   have ha:l[i]? =some a:=by have:=congrArg (fun q=>q[0]?) hr;simp only[Ue,UA,Ul] at this;exact this
   have hm:a∈l:=TY ha;have kI:l.drop (i+1)=r:=by have:=congrArg (UH 1) hr;rw[Up] at this;exact this
   have akH:∀b∈r,b∈l:=fun b hb=>Wt (i:=i) (by rw[hr];exact TB _ hb);have h2:=Kc (g:=lO k) r (m+lO k a) fun b hb=>pos b<|akH b hb;have h3:=pos a hm;have h4:=Kc (g:=lO k) l 1 pos;rw[Un] at h1 ⊢;obtain⟨ch,n0,l0⟩:=a;have hx:=zY ha (z:=(i:Int)) ae;have bQ:=eV (eQ wz.bJ ⟨.mk ch n0 l0,rfl,TG.1 hd _ hm,by omega,rfl⟩:aK (wz k) [.agg<|aH<|.mk ch n0 l0]=_) sL rfl;rw[aH] at hx bQ;exact ahy (k:=k) mc (cR _) ae ae ae ae hx bQ ae<|ih (i+1) (m+lO k (.mk ch n0 l0)) kI ae h1
 exact go_cnt mc (cR _)<|key l 0 1 (T8) ae hc
theorem amk(hP:bY pg):∀(k:Nat) {L:bV},aY L->aY (Cf k::L)
 |0,L,h=>by refine gu hP h dj Tryd.func79 fun args v e=>?_;obtain⟨_,_,hd,_⟩:=fQ e;cases hd
 |k+1,L,h=>acv hP (amk hP k dj) h
end CQ
namespace vB
open cj cC dD cY fu CQ
def mN(k:Nat)(e:Ex):Int:=if e.op=0 then 0 else lO k e
def Af(k:Nat)(args:List AV)(v:AV):Prop:=∃e:Ex,args=[.agg<|aH e]/\uJ k e=true/\lO k e<=1000000/\v= .int .i64 (mN k e)
theorem Af.bJ{k:Nat}(args:List AV)(v v':AV)(h:Af k args v)(h':Af k args v'):v=v':=by obtain⟨e,rfl,_,_,rfl⟩:=h;obtain⟨e',h1,_,_,rfl⟩:=h';simp only[TQ,AV.agg.injEq,_root_.and_true] at h1;rw[oe _ _ h1]
def p8(k:Nat):FuncId×KE:=(63,.val<|aK<|Af k)
theorem afU{B:aE}{k N L:Nat}{op n c:Int}(mc:Mt [Cf k] B)(hc:bc (aK<|wz k) [(.agg [(u8<|op),(i6 n),(.ab N 0 L)])]=some (.int .i64 c)):av pg B 270 (Fin pg (aC Tryd.f63) fun y _=>y=(i6 (if op=0 then 0 else c))) (sF 63 Tryd.f63 [(.agg [(u8<|op),(i6 n),(.ab N 0 L)])])<|aj aq 270:=wS mc (.st 4<|.rg<|.go 2<|.fk (.en<|.rt 4 .no)<|.en<|.st 3<|.rg<|.go 1<|.kn (i6 c)<|.go 1<|.en<|.rt 1 .no)<|bq (op=0) (fun _=>(show(i0:AV)= .int .i64 (if op=0 then 0 else c) from by split<;>first|rfl|(exfalso;omega))) fun _=>(ai hc (show((i6 c):AV)= .int .i64 (if op=0 then 0 else c) from by split<;>first|rfl|(exfalso;omega)))
theorem aml(hP:bY pg)(k:Nat){L:bV}(h:aY L):aY<|p8 k::L:=by refine gu hP h (amk hP k dj) Tryd.func63 fun args v e=>?_;obtain⟨⟨op,n,l⟩,rfl,hd,hc,rfl⟩:=fQ e;refine⟨aI.1 aV,fun B mc=>?_⟩;rw[←gX];have bQ:=eV (eQ wz.bJ ⟨.mk op n l,rfl,hd,hc,rfl⟩:aK (wz k) [.agg<|aH<|.mk op n l]=_) sL rfl;rw[aH] at bQ ⊢;exact afU mc bQ
end vB
namespace gi
open cj cC cY fu
variable {k N L:Nat} {v:AV} {B:aE} {i:Int}
def cU(x y:Int):Int:=match decide (y>x) with|true=>y|false=>x
def jK(ld le:Nat)(m cd ce:Int):Int:=if 0<le then cU (if 0<ld then cU m cd else m) ce else if 0<ld then cU m cd else m
def bN:St->List St| .mk _ _ _ _ b _=>b
def bK:St->List St| .mk _ _ _ _ _ b=>b
def fR:Nat->List St->Int
 |0,_=>0
 |k+1,l=>l.foldl (fun m s=>jK (bN s).length (bK s).length m (fR k<|bN s)<|fR k<|bK s) 0+1
def pv:Nat->List St->Bool
 |0,_=>false
 |k+1,l=>decide (l.length<=1000000)&&l.all fun s=>((bN s).isEmpty||pv k (bN s))&&((bK s).isEmpty||pv k (bK s))
def uz(k:Nat)(args:List AV)(v:AV):Prop:=∃l:List St,args=[.ab (nm<|bC l) 0 l.length]/\pv k l=true/\k<=100/\v= .int .i64 (fR k l)
theorem uz.bJ(args:List AV)(v v':AV)(h:uz k args v)(h':uz k args v'):v=v':=by obtain⟨l,rfl,_,_,rfl⟩:=h;obtain⟨l',h1,_,_,rfl⟩:=h';simp only[TQ,AV.ab.injEq,_root_.and_true,true_and] at h1;rw[tV _ _<|uu (mg l) (mg l') h1.1]
def jS(k:Nat):FuncId×KE:=(44,.val<|aK<|uz k)
def wA(N L:Nat)(m i:Int):List<|Nat×AV:=[(3,(i6 m)),(6,(.ab N 0 L)),(7,(i6<|(L:Int))),(8,(i6 i))]
def yx(N L:Nat)(m i:Int):AF:=⟨44,aA<|wA N L m i,(max Tryd.f44.ntmps 1),[.code<|aL pg 44 [1,1,0,1,0,0],.inLoop<|aL pg 44 [1,1,0,1,0,0],.inBlock 0,.code<|aL pg 44 [1,1,1]],[],none⟩
theorem G9(N L:Nat)(m i:Int)(hn:top<=N){M:Int}(e:m=M):((wA N L m i).map (fun q=>some q.2)=(wA N L m i).map (fun q=>some q.2))/\(aq.map (fun q=>q.2)=aq.map (fun q=>q.2))/\uU 270 (wA N L m i) aq/\(yx N L m i=yx N L M i/\aj aq 270=aj aq 270):=⟨rfl,rfl,Qa (fun r r2 p hp=>by simp only[wA,Ty,TV,or_false] at hp;rcases hp with rfl|rfl|rfl|rfl<;>first|exact aZ.int _ _|exact aZ.ab (r2 _ hn) r2) rfl,by rw[e],rfl⟩
theorem ahB{m:Int}{Na La Nb Lb Nd ld Ne le:Nat}{kd to oa na ob nb cd ce:Int}(mc:Mt [jS k] B)(hn:top<=N)(hi:0<=i)(hL:L<=1000000)(hx:cZ FU N (0+i.toNat*10+0) 10=some [(u8<|kd),(i6 to),(u8<|oa),(i6 na),(.ab Na 0 La),(u8<|ob),(i6 nb),(.ab Nb 0 Lb),(.ab Nd 0 ld),(.ab Ne 0 le)])(hd:0<ld->bc (aK<|uz k) [(.ab Nd 0 ld)]=some (.int .i64 cd))(he:0<le->bc (aK<|uz k) [(.ab Ne 0 le)]=some (.int .i64 ce))(h1:i<(L:Int))(H:av pg B 270 (Fin pg (aC Tryd.f44) fun y _=>y=v) (yx N L (jK ld le m cd ce)<|i+1)<|aj aq 270):av pg B 270 (Fin pg (aC Tryd.f44) fun y _=>y=v) (yx N L m i)<|aj aq 270:=wC mc (C:=(fun fr s1 _=>fr=yx N L (jK ld le m cd ce) (i+1)/\s1=aj aq 270)) nC (.st 1<|.rg<|.fk (.en<|.st 6<|.rg<|.cm<|.cn [(u8<|kd),(i6 to),(u8<|oa),(i6 na),(.ab Na 0 La),(u8<|ob),(i6 nb),(.ab Nb 0 Lb),(.ab Nd 0 ld),(.ab Ne 0 le)]<|.go 2<|.en<|.st 2<|.rg<|.go 3<|.fk (.en<|.st 1<|.rg<|.go 3<|.kn (i6 cd)<|.vl (i6<|(cU m cd))<|.go 1<|.en<|.st 1<|.rg<|.go 3<|.fk (.en<|.st 1<|.rg<|.go 3<|.kn (i6 ce)<|.vl (i6<|(cU (cU m cd) ce))<|.go 1<|.en<|.st 1<|.rg<|.vl (i6<|i+1)<|.go 1<|.en<|.st 1<|.bk (wA N L (cU (cU m cd) ce)<|i+1) aq 270 .no)<|.en<|.st 3<|.rg<|.vl (i6<|i+1)<|.go 1<|.en<|.st 1<|.bk (wA N L (cU m cd)<|i+1) aq 270 .no)<|.en<|.st 3<|.rg<|.go 3<|.fk (.en<|.st 1<|.rg<|.go 3<|.kn (i6 ce)<|.vl (i6<|(cU m ce))<|.go 1<|.en<|.st 1<|.rg<|.vl (i6<|i+1)<|.go 1<|.en<|.st 1<|.bk (wA N L (cU m ce)<|i+1) aq 270 .no)<|.en<|.st 3<|.rg<|.vl (i6<|i+1)<|.go 1<|.en<|.st 1<|.bk (wA N L m<|i+1) aq 270 .no)<|.no)<|bq (i<(L:Int)) (fun _=>(gq i (L:Int)<|ai hn<|ai hx<|bq ((ld:Int)>0) (fun _=>(ai (hd ae)<|ai (congrArg (AV.int .i64) (show(match decide (cd>m) with|true=>cd|false=>m)=cU m cd from rfl))<|bq ((le:Int)>0) (fun _=>(ai (he ae)<|ai (congrArg (AV.int .i64) (show(match decide (ce>(cU m cd)) with|true=>ce|false=>(cU m cd))=cU (cU m cd) ce from rfl))<|ai (wI<|i+1)<|G9 N L (cU (cU m cd) ce) (i+1) hn (show(cU (cU m cd) ce)=jK ld le m cd ce from by(unfold jK;repeat' split)<;>first|rfl|(exfalso;omega)))) fun _=>(ai (wI<|i+1)<|G9 N L (cU m cd) (i+1) hn (show(cU m cd)=jK ld le m cd ce from by(unfold jK;repeat' split)<;>first|rfl|(exfalso;omega))))) fun _=>(bq ((le:Int)>0) (fun _=>(ai (he ae)<|ai (congrArg (AV.int .i64) (show(match decide (ce>m) with|true=>ce|false=>m)=cU m ce from rfl))<|ai (wI<|i+1)<|G9 N L (cU m ce) (i+1) hn (show(cU m ce)=jK ld le m cd ce from by(unfold jK;repeat' split)<;>first|rfl|(exfalso;omega)))) fun _=>(ai (wI<|i+1)<|G9 N L m (i+1) hn (show m=jK ld le m cd ce from by(unfold jK;repeat' split)<;>first|rfl|(exfalso;omega)))))) iF
theorem ahC{m:Int}(mc:Mt [jS k] B)(hm:0<=m/\m<=1000000)(h1:(L:Int)<=i)(hv: .int .i64 (m+1)=v):av pg B 270 (Fin pg (aC Tryd.f44) fun y _=>y=v) (yx N L m i)<|aj aq 270:=wS mc (.st 1<|.rg<|.fk (.no)<|.en<|.st 4<|.rg<|.go 1<|.vl (i6<|m+1)<|.go 1<|.en<|.rt 1 .no)<|bq (i<(L:Int)) iF fun _=>(ai (wI<|m+1) (show((i6<|(m+1)):AV)=v from hv))
theorem go_dep(mc:Mt [jS k] B)(hn:top<=N)(H:av pg B 270 (Fin pg (aC Tryd.f44) fun y _=>y=v) (yx N L 0 0)<|aj aq 270):av pg B 270 (Fin pg (aC Tryd.f44) fun y _=>y=v) (sF 44 Tryd.f44 [(.ab N 0 L)])<|aj aq 270:=wC mc (C:=(fun fr s1 _=>fr=yx N L 0 0/\s1=aj aq 270)) nC (.st 9<|.bk (wA N L 0 0) aq 270 .no)<|G9 N L 0 0 hn rfl
end gi
namespace sQ
open cj cC cY gi
theorem GN{l:List St}{i:Nat}{a:St}(h:l[i]? =some a){z:Int}(hz:z.toNat=i):cZ FU (nm<|bC l) (0+z.toNat*10+0) 10=some (aM a):=by rw[vZ,hz,T6,Ad lq h 0 10 ae];rw[T8,UG (by rw[lq.len];omega)]
theorem GV{x y b:Int}(h1:0<=x/\x<=b)(h2:0<=y/\y<=b):0<=cU x y/\cU x y<=b:=by unfold cU;split<;>assumption
theorem XR{ld le:Nat}{m cd ce b:Int}(h1:0<=m/\m<=b)(h2:0<=cd/\cd<=b)(h3:0<=ce/\ce<=b):0<=jK ld le m cd ce/\jK ld le m cd ce<=b:=by
 have h4:=GV h1 h2;unfold jK;split
 ·split
  ·exact GV h4 h3
  ·exact GV h1 h3
 ·split
  ·exact h4
  ·exact h1
theorem PK{b:Int}{f:Int->St->Int}(hf:∀m s,0<=m/\m<=b->0<=f m s/\f m s<=b):∀(l:List St) (m:Int),0<=m/\m<=b->0<=l.foldl f m/\l.foldl f m<=b
 |[],_,h=>h
 |s::l,m,h=>by rw[Un];exact PK hf l _<|hf m s h
theorem JS:∀(k:Nat) (l:List St),0<=fR k l/\fR k l<=k
 |0,_=>⟨Vd _,Vd _⟩
 |k+1,l=>by have:=PK (b:=k) (f:=fun m s=>jK (bN s).length (bK s).length m (fR k<|bN s)<|fR k<|bK s) (fun m s h=>XR h (JS k _)<|JS k _) l 0 ae;show 0<=l.foldl (fun m s=>jK (bN s).length (bK s).length m (fR k<|bN s)<|fR k<|bK s) 0+1/\l.foldl (fun m s=>jK (bN s).length (bK s).length m (fR k<|bN s)<|fR k<|bK s) 0+1<=_;omega
theorem ahE{l:List St}{b:Bool}(h:(l.isEmpty||b)=true)(hl:0<l.length):b=true:=by
 cases l with
 |nil=>simp only[Ub] at hl;omega
 |cons _ _=>exact h
theorem acw(hP:bY pg){k:Nat}(h':aY [jS k]){L:bV}(h:aY L):aY<|jS (k+1)::L:=by
 refine gu hP h h' Tryd.func44 fun args v e=>?_;obtain⟨l,rfl,hd,hk,rfl⟩:=fQ e;refine⟨aI.1 aV,fun B mc=>?_⟩;rw[←gX];have hd:(decide (l.length<=1000000)&&l.all fun s=>((bN s).isEmpty||pv k (bN s))&&((bK s).isEmpty||pv k (bK s)))=true:=hd;rw[TW,decide_eq_true_eq,TG] at hd;obtain⟨hlen,hd⟩:=hd;have use:∀b:List St,(b.isEmpty||pv k b)=true->0<b.length->bc (aK<|uz k) [.ab (nm<|bC b) 0 b.length]=some (i6<|fR k b):=fun b h1 h2=>eV (eQ uz.bJ ⟨b,rfl,ahE h1 h2,by omega,rfl⟩) Y6 rfl;have key:∀(r:List St) (i:Nat) (m:Int),l.drop i=r->0<=m/\m<=k->
  av pg B 270 (Fin pg (aC Tryd.f44) fun y _=>y= .int .i64 (r.foldl (fun m s=>jK (bN s).length (bK s).length m (fR k<|bN s)<|fR k<|bK s) m+1)) (yx (nm<|bC l) l.length m i) (aj aq 270):=by
  intro r;induction r with
  |nil=>intro i m hr h0;have hi:l.length<=i:=UO.1 hr;exact ahC (k:=k) mc ae ae rfl
  |cons a r ih=>
   intro i m hr h0;have hl:i<l.length:=by
    by_cases q:i<l.length
    ·exact q
    ·rw[Vc ae] at hr;cases hr
   have ha:l[i]? =some a:=by have:=congrArg (fun q=>q[0]?) hr;simp only[Ue,UA,Ul] at this;exact this
   have hm:a∈l:=TY ha;have kI:l.drop (i+1)=r:=by have:=congrArg (UH 1) hr;rw[Up] at this;exact this
   have Du:=hd a hm;rw[TW] at Du;have hx:=GN ha (z:=(i:Int)) ae;have qe:=ih (i+1) _ kI<|XR (ld:=(bN a).length) (le:=(bK a).length) h0 (JS k<|bN a)<|JS k<|bK a;have hb:=use _ Du.1;have he:=use _ Du.2;obtain⟨kd,to,⟨oa,na,la⟩,⟨ob,nb,lb⟩,bd,el⟩:=a;rw[aM,aH,aH] at hx;rw[Un];exact ahB (k:=k) mc (cR _) ae hlen hx hb he ae qe
 exact go_dep mc (cR _)<|key l 0 0 (T8) ae
theorem amm(hP:bY pg):∀(k:Nat) {L:bV},aY L->aY (jS k::L)
 |0,L,h=>by refine gu hP h dj Tryd.func44 fun args v e=>?_;obtain⟨_,_,hd,_⟩:=fQ e;cases hd
 |k+1,L,h=>acw hP (amm hP k dj) h
end sQ
namespace iU
open cj cC cY fu gi
variable {k N L:Nat} {v:AV} {B:aE} {i:Int}
def eM(x y:Int):Int:=match decide (y<x) with|true=>y|false=>x
def kg(kd m cd ce:Int):Int:=if kd=4 then eM (m+1+cU cd ce) 2001 else if kd=5 then eM (m+1+8*cd) 2001 else if kd=7 then eM (m+1+(cd+ce)) 2001 else eM (m+1+0) 2001
def fX:St->Int| .mk k _ _ _ _ _=>k
def gF:Nat->List St->Int
 |0,_=>0
 |k+1,l=>l.foldl (fun m s=>kg (fX s) m (gF k<|bN s)<|gF k<|bK s) 0
def ks:Nat->List St->Bool
 |0,_=>false
 |k+1,l=>decide (l.length<=1000000)&&l.all fun s=>ks k (bN s)&&ks k (bK s)
def uK(k:Nat)(args:List AV)(v:AV):Prop:=∃l:List St,args=[.ab (nm<|bC l) 0 l.length]/\ks k l=true/\v= .int .i64 (gF k l)
theorem uK.bJ(args:List AV)(v v':AV)(h:uK k args v)(h':uK k args v'):v=v':=by obtain⟨l,rfl,_,rfl⟩:=h;obtain⟨l',h1,_,rfl⟩:=h';simp only[TQ,AV.ab.injEq,_root_.and_true,true_and] at h1;rw[tV _ _<|uu (mg l) (mg l') h1.1]
def jU(k:Nat):FuncId×KE:=(45,.val<|aK<|uK k)
def wB(N L:Nat)(m i:Int):List<|Nat×AV:=[(3,(i6 m)),(7,(.ab N 0 L)),(8,(i6<|(L:Int))),(9,(i6 i))]
def yy(N L:Nat)(m i:Int):AF:=⟨45,aA<|wB N L m i,(max Tryd.f45.ntmps 1),[.code<|aL pg 45 [1,1,0,1,0,0],.inLoop<|aL pg 45 [1,1,0,1,0,0],.inBlock 0,.code<|aL pg 45 [1,1,1]],[],none⟩
theorem Ha(N L:Nat)(m i:Int)(hn:top<=N){M:Int}(e:m=M):((wB N L m i).map (fun q=>some q.2)=(wB N L m i).map (fun q=>some q.2))/\(aq.map (fun q=>q.2)=aq.map (fun q=>q.2))/\uU 270 (wB N L m i) aq/\(yy N L m i=yy N L M i/\aj aq 270=aj aq 270):=⟨rfl,rfl,Qa (fun r r2 p hp=>by simp only[wB,Ty,TV,or_false] at hp;rcases hp with rfl|rfl|rfl|rfl<;>first|exact aZ.int _ _|exact aZ.ab (r2 _ hn) r2) rfl,by rw[e],rfl⟩
theorem ahF{m:Int}{Na La Nb Lb Nd ld Ne le:Nat}{kd to oa na ob nb cd ce:Int}(mc:Mt [jU k] B)(hn:top<=N)(hi:0<=i)(hL:L<=1000000)(hx:cZ FU N (0+i.toNat*10+0) 10=some [(u8<|kd),(i6 to),(u8<|oa),(i6 na),(.ab Na 0 La),(u8<|ob),(i6 nb),(.ab Nb 0 Lb),(.ab Nd 0 ld),(.ab Ne 0 le)])(hm:0<=m/\m<=2001)(hd0:0<=cd/\cd<=2001)(he0:0<=ce/\ce<=2001)(hmx:0<=cU cd ce/\cU cd ce<=2001)(hd:bc (aK<|uK k) [(.ab Nd 0 ld)]=some (.int .i64 cd))(he:bc (aK<|uK k) [(.ab Ne 0 le)]=some (.int .i64 ce))(h1:i<(L:Int))(H:av pg B 270 (Fin pg (aC Tryd.f45) fun y _=>y=v) (yy N L (kg kd m cd ce)<|i+1)<|aj aq 270):av pg B 270 (Fin pg (aC Tryd.f45) fun y _=>y=v) (yy N L m i)<|aj aq 270:=wC mc (C:=(fun fr s1 _=>fr=yy N L (kg kd m cd ce) (i+1)/\s1=aj aq 270)) nC (.st 1<|.rg<|.fk (.en<|.st 6<|.rg<|.cm<|.cn [(u8<|kd),(i6 to),(u8<|oa),(i6 na),(.ab Na 0 La),(u8<|ob),(i6 nb),(.ab Nb 0 Lb),(.ab Nd 0 ld),(.ab Ne 0 le)]<|.go 2<|.en<|.st 7<|.rg<|.fk (.go 1<|.en<|.st 1<|.rg<|.go 2<|.kn (i6 cd)<|.go 2<|.kn (i6 ce)<|.vl (i6<|(cU cd ce))<|.go 1<|.en<|.st 1<|.rg<|.go 1<|.vl (i6<|m+1)<|.go 1<|.vl (i6<|(m+1)+(cU cd ce))<|.vl (i6<|(eM ((m+1)+(cU cd ce)) (2001:Int)))<|.go 1<|.en<|.st 1<|.rg<|.vl (i6<|i+1)<|.go 1<|.en<|.st 1<|.bk (wB N L (eM ((m+1)+(cU cd ce)) (2001:Int))<|i+1) aq 270 .no)<|.go 1<|.en<|.st 2<|.rg<|.fk (.go 1<|.en<|.st 1<|.rg<|.go 2<|.kn (i6 cd)<|.vl (i6<|8*cd)<|.go 1<|.en<|.st 1<|.rg<|.go 1<|.vl (i6<|m+1)<|.go 1<|.vl (i6<|(m+1)+(8*cd))<|.vl (i6<|(eM ((m+1)+(8*cd)) (2001:Int)))<|.go 1<|.en<|.st 1<|.rg<|.vl (i6<|i+1)<|.go 1<|.en<|.st 1<|.bk (wB N L (eM ((m+1)+(8*cd)) (2001:Int))<|i+1) aq 270 .no)<|.go 1<|.en<|.st 2<|.rg<|.fk (.go 1<|.en<|.st 1<|.rg<|.go 2<|.kn (i6 cd)<|.go 2<|.kn (i6 ce)<|.vl (i6<|cd+ce)<|.go 1<|.en<|.st 1<|.rg<|.go 1<|.vl (i6<|m+1)<|.go 1<|.vl (i6<|(m+1)+(cd+ce))<|.vl (i6<|(eM ((m+1)+(cd+ce)) (2001:Int)))<|.go 1<|.en<|.st 1<|.rg<|.vl (i6<|i+1)<|.go 1<|.en<|.st 1<|.bk (wB N L (eM ((m+1)+(cd+ce)) (2001:Int))<|i+1) aq 270 .no)<|.go 1<|.en<|.st 3<|.rg<|.go 1<|.vl (i6<|m+1)<|.go 1<|.vl (i6<|(m+1)+0)<|.vl (i6<|(eM ((m+1)+0) (2001:Int)))<|.go 1<|.en<|.st 1<|.rg<|.vl (i6<|i+1)<|.go 1<|.en<|.st 1<|.bk (wB N L (eM ((m+1)+0) (2001:Int))<|i+1) aq 270 .no)<|.no)<|bq (i<(L:Int)) (fun _=>(gq i (L:Int)<|ai hn<|ai hx<|bq (kd=4) (fun _=>(ai hd<|ai he<|ai (congrArg (AV.int .i64) (show(match decide (ce>cd) with|true=>ce|false=>cd)=cU cd ce from rfl))<|ai (wI<|m+1)<|ai (wI<|(m+1)+(cU cd ce))<|ai (congrArg (AV.int .i64) (show(match decide ((2001:Int)<((m+1)+(cU cd ce))) with|true=>(2001:Int)|false=>((m+1)+(cU cd ce)))=eM ((m+1)+(cU cd ce)) (2001:Int) from rfl))<|ai (wI<|i+1)<|Ha N L (eM ((m+1)+(cU cd ce)) (2001:Int)) (i+1) hn (show(eM ((m+1)+(cU cd ce)) (2001:Int))=kg kd m cd ce from by(unfold kg;repeat' split)<;>first|rfl|(exfalso;omega)))) fun _=>(bq (kd=5) (fun _=>(ai hd<|ai (wI<|8*cd)<|ai (wI<|m+1)<|ai (wI<|(m+1)+(8*cd))<|ai (congrArg (AV.int .i64) (show(match decide ((2001:Int)<((m+1)+(8*cd))) with|true=>(2001:Int)|false=>((m+1)+(8*cd)))=eM ((m+1)+(8*cd)) (2001:Int) from rfl))<|ai (wI<|i+1)<|Ha N L (eM ((m+1)+(8*cd)) (2001:Int)) (i+1) hn (show(eM ((m+1)+(8*cd)) (2001:Int))=kg kd m cd ce from by(unfold kg;repeat' split)<;>first|rfl|(exfalso;omega)))) fun _=>(bq (kd=7) (fun _=>(ai hd<|ai he<|ai (wI<|cd+ce)<|ai (wI<|m+1)<|ai (wI<|(m+1)+(cd+ce))<|ai (congrArg (AV.int .i64) (show(match decide ((2001:Int)<((m+1)+(cd+ce))) with|true=>(2001:Int)|false=>((m+1)+(cd+ce)))=eM ((m+1)+(cd+ce)) (2001:Int) from rfl))<|ai (wI<|i+1)<|Ha N L (eM ((m+1)+(cd+ce)) (2001:Int)) (i+1) hn (show(eM ((m+1)+(cd+ce)) (2001:Int))=kg kd m cd ce from by(unfold kg;repeat' split)<;>first|rfl|(exfalso;omega)))) fun _=>(ai (wI<|m+1)<|ai (wI<|(m+1)+0)<|ai (congrArg (AV.int .i64) (show(match decide ((2001:Int)<((m+1)+0)) with|true=>(2001:Int)|false=>((m+1)+0))=eM ((m+1)+0) (2001:Int) from rfl))<|ai (wI<|i+1)<|Ha N L (eM ((m+1)+0) (2001:Int)) (i+1) hn (show(eM ((m+1)+0) (2001:Int))=kg kd m cd ce from by(unfold kg;repeat' split)<;>first|rfl|(exfalso;omega))))))) iF
theorem ahG{m:Int}(mc:Mt [jU k] B)(h1:(L:Int)<=i)(hv: .int .i64 m=v):av pg B 270 (Fin pg (aC Tryd.f45) fun y _=>y=v) (yy N L m i)<|aj aq 270:=wS mc (.st 1<|.rg<|.fk (.no)<|.en<|.rt 6 .no)<|bq (i<(L:Int)) iF fun _=>(show((i6 m):AV)=v from hv)
theorem go_cos(mc:Mt [jU k] B)(hn:top<=N)(H:av pg B 270 (Fin pg (aC Tryd.f45) fun y _=>y=v) (yy N L 0 0)<|aj aq 270):av pg B 270 (Fin pg (aC Tryd.f45) fun y _=>y=v) (sF 45 Tryd.f45 [(.ab N 0 L)])<|aj aq 270:=wC mc (C:=(fun fr s1 _=>fr=yy N L 0 0/\s1=aj aq 270)) nC (.st 9<|.bk (wB N L 0 0) aq 270 .no)<|Ha N L 0 0 hn rfl
end iU
namespace E3
open cj cC cY gi sQ iU
theorem WQ{x:Int}(h1:0<=x):0<=eM x 2001/\eM x 2001<=2001:=by
 unfold eM;split<;>rename_i q
 ·omega
 ·have:=of_decide_eq_false q;omega
theorem XS{kd m cd ce:Int}(h1:0<=m/\m<=2001)(h2:0<=cd/\cd<=2001)(h3:0<=ce/\ce<=2001):0<=kg kd m cd ce/\kg kd m cd ce<=2001:=by
 have h4:=GV h2 h3;unfold kg
 repeat' split
 all_goals exact WQ ae
theorem El:∀(k:Nat) (l:List St),0<=gF k l/\gF k l<=2001
 |0,_=>⟨Vd _,by show(0:Int)<=2001;omega⟩
 |k+1,l=>PK (b:=2001) (f:=fun m s=>kg (fX s) m (gF k<|bN s)<|gF k<|bK s) (fun m s h=>XS h (El k _)<|El k _) l 0 ae
theorem adl(hP:bY pg){k:Nat}(h':aY [jU k]){L:bV}(h:aY L):aY<|jU (k+1)::L:=by
 refine gu hP h h' Tryd.func45 fun args v e=>?_;obtain⟨l,rfl,hd,rfl⟩:=fQ e;refine⟨aI.1 aV,fun B mc=>?_⟩;rw[←gX];have hd:(decide (l.length<=1000000)&&l.all fun s=>ks k (bN s)&&ks k (bK s))=true:=hd;rw[TW,decide_eq_true_eq,TG] at hd;obtain⟨hlen,hd⟩:=hd;have use:∀b:List St,ks k b=true->bc (aK<|uK k) [.ab (nm<|bC b) 0 b.length]=some (i6<|gF k b):=fun b h1=>eV (eQ uK.bJ ⟨b,rfl,h1,rfl⟩) Y6 rfl;have key:∀(r:List St) (i:Nat) (m:Int),l.drop i=r->0<=m/\m<=2001->
  av pg B 270 (Fin pg (aC Tryd.f45) fun y _=>y= .int .i64 (r.foldl (fun m s=>kg (fX s) m (gF k<|bN s)<|gF k<|bK s) m)) (yy (nm<|bC l) l.length m i) (aj aq 270):=by
  intro r;induction r with
  |nil=>intro i m hr h0;have hi:l.length<=i:=UO.1 hr;exact ahG (k:=k) mc ae rfl
  |cons a r ih=>
   intro i m hr h0;have hl:i<l.length:=by
    by_cases q:i<l.length
    ·exact q
    ·rw[Vc ae] at hr;cases hr
   have ha:l[i]? =some a:=by have:=congrArg (fun q=>q[0]?) hr;simp only[Ue,UA,Ul] at this;exact this
   have hm:a∈l:=TY ha;have kI:l.drop (i+1)=r:=by have:=congrArg (UH 1) hr;rw[Up] at this;exact this
   have Du:=hd a hm;rw[TW] at Du;have hx:=GN ha (z:=(i:Int)) ae;have b1:=El k<|bN a;have b2:=El k<|bK a;have qe:=ih (i+1) _ kI<|XS (kd:=fX a) h0 b1 b2;have hb:=use _ Du.1;have he:=use _ Du.2;obtain⟨kd,to,⟨oa,na,la⟩,⟨ob,nb,lb⟩,bd,el⟩:=a;rw[aM,aH,aH] at hx;rw[Un];exact ahF (k:=k) mc (cR _) ae hlen hx h0 b1 b2 (GV b1 b2) hb he ae qe
 exact go_cos mc (cR _)<|key l 0 0 (T8) ae
theorem am6(hP:bY pg):∀(k:Nat) {L:bV},aY L->aY (jU k::L)
 |0,L,h=>by refine gu hP h dj Tryd.func45 fun args v e=>?_;obtain⟨_,_,hd,_⟩:=fQ e;cases hd
 |k+1,L,h=>adl hP (am6 hP k dj) h
end E3
namespace uZ
open cj cC gg
variable {N k N1 N0 L1 L0:Nat} {B:aE} {ch n0:Int}
def se:Nat->Ex->Int->Bool
 |0,_,_=>true
 |k+1,.mk op n args,z=> !(decide<|op=3/\n>=z)&&args.all fun a=>se k a z
def yz(k:Nat)(args:List AV)(v:AV):Prop:=∃(e:Ex) (z:Int),args=[.agg<|aH e,.int .i64 z]/\fh k e=true/\v= .bool (se k e z)
def KO(k:Nat):FuncId×KE:=(80,.val<|aK<|yz k)
theorem aeA{N0 L0 N1 L1:Nat}{op n z ch n0 cP n1 x0 x1:Int}(mc:Mt [KO k] B):av pg B 270 (Fin pg (aC Tryd.f80) fun y _=>y=(.bool<|decide<|¬(op=3/\n>=z))) (sF 80 Tryd.f80 [(.agg [(u8<|op),(i6 n),(.ab N 0 0)]),(i6 z)])<|aj aq 270:=wS mc (.st 4<|.rg<|.go 2<|.fk (.go 4<|.fk (.go 1<|.en<|.rt 4 .no)<|.go 1<|.en<|.st 3<|.rg<|.go 3<|.il<|.st 3<|.rg<|.go 2<|.il<|.rt 15<|.go 2<|.en<|.rt 1<|.go 2<|.en<|.rt 1 .no)<|.go 6<|.en<|.st 3<|.rg<|.go 3<|.il<|.st 3<|.rg<|.go 2<|.il<|.rt 15<|.go 2<|.en<|.rt 1<|.go 2<|.en<|.rt 1 .no)<|bq (op=3) (fun _=>(bq (n>=z) (fun _=>(show AV.bool false= .bool (decide<|¬(op=3/\n>=z)) from by rw[decide_eq_false ae])) fun _=>(show AV.bool true= .bool (decide<|¬(op=3/\n>=z)) from by rw[decide_eq_true ae]))) fun _=>(show AV.bool true= .bool (decide<|¬(op=3/\n>=z)) from by rw[decide_eq_true ae])
theorem aeB{op n z cP n1 x0 x1:Int}(mc:Mt [KO k] B)(hn:top<=N)(tC:cZ FU N (0+(0:Int).toNat*3+0) 3=some [(u8<|ch),(i6 n0),(.ab N0 0 L0)])(jF:bc (aK<|yz k) [(.agg [(u8<|ch),(i6 n0),(.ab N0 0 L0)]),(i6 z)]=some (.bool<|decide<|x0=1))(jw:cZ FU N (0+(1:Int).toNat*3+0) 3=some [(u8<|cP),(i6 n1),(.ab N1 0 L1)])(j8:bc (aK<|yz k) [(.agg [(u8<|cP),(i6 n1),(.ab N1 0 L1)]),(i6 z)]=some (.bool<|decide<|x1=1)):av pg B 270 (Fin pg (aC Tryd.f80) fun y _=>y=(.bool<|decide<|¬(op=3/\n>=z)/\x0=1/\x1=1)) (sF 80 Tryd.f80 [(.agg [(u8<|op),(i6 n),(.ab N 0 2)]),(i6 z)])<|aj aq 270:=wS mc (.st 4<|.rg<|.go 2<|.fk (.go 4<|.fk (.go 1<|.en<|.rt 4 .no)<|.go 1<|.en<|.st 3<|.rg<|.go 3<|.il<|.st 3<|.rg<|.go 2<|.il<|.st 17<|.rg<|.go 3<|.cm<|.cn [(u8<|ch),(i6 n0),(.ab N0 0 L0)]<|.il<|.st 3<|.rg<|.go 2<|.kp (x0=1) inferInstance (.go 2<|.en<|.rt 1<|.en<|.st 15<|.rg<|.go 3<|.cm<|.cn [(u8<|cP),(i6 n1),(.ab N1 0 L1)]<|.il<|.st 3<|.rg<|.go 2<|.kp (x1=1) inferInstance (.go 2<|.en<|.rt 1<|.en<|.rt 13<|.go 2<|.en<|.rt 1<|.go 2<|.en<|.rt 1 .no)<|.go 2<|.en<|.rt 1<|.en<|.rt 4<|.go 2<|.en<|.rt 1<|.go 2<|.en<|.rt 1 .no)<|.go 2<|.en<|.rt 1<|.en<|.rt 4<|.go 2<|.en<|.rt 1<|.go 2<|.en<|.rt 1 .no)<|.go 6<|.en<|.st 3<|.rg<|.go 3<|.il<|.st 3<|.rg<|.go 2<|.il<|.st 17<|.rg<|.go 3<|.cm<|.cn [(u8<|ch),(i6 n0),(.ab N0 0 L0)]<|.il<|.st 3<|.rg<|.go 2<|.kp (x0=1) inferInstance (.go 2<|.en<|.rt 1<|.en<|.st 15<|.rg<|.go 3<|.cm<|.cn [(u8<|cP),(i6 n1),(.ab N1 0 L1)]<|.il<|.st 3<|.rg<|.go 2<|.kp (x1=1) inferInstance (.go 2<|.en<|.rt 1<|.en<|.rt 13<|.go 2<|.en<|.rt 1<|.go 2<|.en<|.rt 1 .no)<|.go 2<|.en<|.rt 1<|.en<|.rt 4<|.go 2<|.en<|.rt 1<|.go 2<|.en<|.rt 1 .no)<|.go 2<|.en<|.rt 1<|.en<|.rt 4<|.go 2<|.en<|.rt 1<|.go 2<|.en<|.rt 1 .no)<|bq (op=3) (fun _=>(bq (n>=z) (fun _=>(show AV.bool false= .bool (decide<|¬(op=3/\n>=z)/\x0=1/\x1=1) from by rw[decide_eq_false ae])) YZ)) YZ
theorem ahI{L:Nat}{op n z x y1:Int}(mc:Mt [RD,KO 6] B)(hc:bc (aK xc) [(.agg [(u8<|op),(i6 n),(.ab N 0 L)])]=some (.bool<|decide<|x=1))(hb:x=1->bc (aK<|yz 6) [(.agg [(u8<|op),(i6 n),(.ab N 0 L)]),(i6 z)]=some (.bool<|decide<|y1=1)):av pg B 270 (Fin pg (aC Tryd.f68) fun y _=>y=(.bool<|decide<|x=1/\y1=1)) (sF 68 Tryd.f68 [(.agg [(u8<|op),(i6 n),(.ab N 0 L)]),(i6 z)])<|aj aq 270:=wS mc (.st 3<|.rg<|.go 1<|.kp (x=1) inferInstance (.go 3<|.kp (y1=1) inferInstance (.go 2<|.en<|.rt 1 .no)<|.go 2<|.en<|.rt 1 .no)<|.go 6<|.en<|.rt 1 .no)<|ai hc<|bq (x=1) (fun _=>(ai (hb ae)<|bq (y1=1) (fun _=>(show AV.bool true= .bool (decide<|x=1/\y1=1) from by rw[decide_eq_true ae])) fun _=>(show AV.bool false= .bool (decide<|x=1/\y1=1) from by rw[decide_eq_false ae]))) fun _=>(show AV.bool false= .bool (decide<|x=1/\y1=1) from by rw[decide_eq_false ae])
end uZ
namespace yJ
open cj cC dD gg uZ
variable {k:Nat} {e:Ex}
theorem amn{op n:Int}{l:List Ex}(h:fh (k+1) (.mk op n l)=true):l=[]\/∃a b,l=[a,b]/\fh k a=true/\fh k b=true:=by
 rw[NO] at h;split at h
 ·exact .inl<|VV.1 h
 split at h
 ·rw[TW,TW] at h;exact .inl<|VV.1 h.1.1
 split at h
 ·rw[TW,TW] at h;exact .inl<|VV.1 h.1.1
 split at h
 ·cases h
 rw[TW,TW,decide_eq_true_eq] at h
 match l,h with
 |[a,b],h=>exact .inr ⟨a,b,rfl,h.1.2,h.2⟩
theorem yz.bJ(args:List AV)(v v':AV)(h:yz k args v)(h':yz k args v'):v=v':=by obtain⟨e,z,rfl,_,rfl⟩:=h;obtain⟨e',z',h1,_,rfl⟩:=h';simp only[TQ,AV.agg.injEq,AV.int.injEq,true_and,_root_.and_true] at h1;rw[oe _ _ h1.1,h1.2]
theorem OZ{z:Int}(hw:fh k e=true):bc (aK<|yz k) [.agg<|aH e,.int .i64 z]=some (.bool<|decide<|bit (se k e z)=1):=by rw[yh];exact eV (eQ yz.bJ ⟨e,z,rfl,hw,rfl⟩) sL rfl
theorem Fv(b:Bool):bit b=1↔b=true:=by cases b<;>decide
theorem amo(hP:bY pg):∀(k:Nat) {L:bV},aY L->aY (KO k::L)
 |0,L,h=>by refine gu hP h dj Tryd.func80 fun args v e=>?_;obtain⟨_,_,_,hw,_⟩:=fQ e;cases hw
 |k+1,L,h=>by
  refine gu hP h (amo hP k dj) Tryd.func80 fun args v e=>?_;obtain⟨⟨op,n,l⟩,z,rfl,hw,rfl⟩:=fQ e;refine⟨aI.1 aV,fun B mc=>?_⟩;rw[←gX];rcases amn hw with rfl|⟨a,b,rfl,w0,w1⟩
  ·have key:=aeA (L0:=0) (N1:=0) (L1:=0) (N0:=0) (ch:=0) (n0:=0) (cP:=0) (n1:=0) (x0:=0) (x1:=0) (N:=nm<|dC []) (op:=op) (n:=n) (z:=z) mc;rw[aH,show se (k+1) (.mk op n []) z=decide (¬(op=3/\n>=z)) from by show(!(decide<|op=3/\n>=z)&&true)=_;rw[VE,decide_not]];exact key
  ·obtain⟨ch,n0,l0⟩:=a;obtain⟨cP,n1,l1⟩:=b;have t0:=zY (l:=[Ex.mk ch n0 l0,.mk cP n1 l1]) (i:=0) (a:=.mk ch n0 l0) rfl (z:=0) rfl;have t1:=zY (l:=[Ex.mk ch n0 l0,.mk cP n1 l1]) (i:=1) (a:=.mk cP n1 l1) rfl (z:=1) rfl;have c0:=OZ (z:=z) w0;have c1:=OZ (z:=z) w1;rw[aH] at t0 t1 c0 c1;have key:=aeB (op:=op) (n:=n) (z:=z) mc (cR _) t0 c0 t1 c1;rw[aH,show se (k+1) (.mk op n [.mk ch n0 l0,.mk cP n1 l1]) z=decide (¬(op=3/\n>=z)/\bit (se k (.mk ch n0 l0) z)=1/\bit (se k (.mk cP n1 l1) z)=1) from by show(!(decide<|op=3/\n>=z)&&(se k (.mk ch n0 l0) z&&(se k (.mk cP n1 l1) z&&true)))=_;rw[VE,VU,decide_eq_true_eq,Fv,Fv,TW,TW, ←decide_not,decide_eq_true_eq]];exact key
def Mn(e:Ex)(z:Int):Bool:=fh 6 e&&se 6 e z
def pw(args:List AV)(v:AV):Prop:=∃(e:Ex) (z:Int),args=[.agg<|aH e,.int .i64 z]/\v= .bool (Mn e z)
theorem pw.bJ(args:List AV)(v v':AV)(h:pw args v)(h':pw args v'):v=v':=by obtain⟨e,z,rfl,rfl⟩:=h;obtain⟨e',z',h1,rfl⟩:=h';simp only[TQ,AV.agg.injEq,AV.int.injEq,true_and,_root_.and_true] at h1;rw[oe _ _ h1.1,h1.2]
def wQ:FuncId×KE:=(68,.val<|aK pw)
theorem P9:bc (aK xc) [.agg<|aH e]=some (.bool<|decide<|bit (fh 6 e)=1):=by rw[yh];exact eV (eQ xc.bJ ⟨e,rfl,rfl⟩) sL rfl
theorem aeC(hP:bY pg){L:bV}(h:aY L):aY<|wQ::L:=by refine gu hP h (WO hP<|amo hP 6 dj) Tryd.func68 fun args v e=>?_;obtain⟨⟨op,n,l⟩,z,rfl,rfl⟩:=fQ e;refine⟨aI.1 aV,fun B mc=>?_⟩;rw[←gX];have c0:=P9 (e:=.mk op n l);have c1:bit (fh 6<|.mk op n l)=1->_:=fun hx=>OZ (k:=6) (e:=.mk op n l) (z:=z)<|(Fv _).1 hx;rw[aH] at c0 c1;have key:=ahI mc c0 c1;rw[aH,show Mn (.mk op n l) z=decide (bit (fh 6<|.mk op n l)=1/\bit (se 6 (.mk op n l) z)=1) from by rw[VU,decide_eq_true_eq,Fv,Fv];exact TW _ _▸Iff.rfl];exact key
end yJ
namespace fj
open cj gi cY
variable {K:Cb} {k N L ld Ne Nd Nb Na Lb La:Nat} {L0:bV} {B:aE} {pf p:fT} {i to ob oa nb na kd:Int} {g:Option ah} {x2 u2 u1:AV} {bU:Option Code}
section
abbrev mX:=St->AV->AV->Option fT
def lr(ek:List St->AV->AV->Option fT)(rd:mX):List St->AV->AV->Option fT
 |[],v1,v2=>some ⟨true,v1,v2,none⟩
 |s::r,v1,v2=>match rd s v1 v2 with
  |none=>none
  |some p=>match p.ret with
   |false=>some p
   |true=>match ek (bN s) p.v1 p.v2 with
    |none=>none
    |some q=>match q.ret with
     |false=>some q
     |true=>match ek (bK s) q.v1 q.v2 with
      |none=>none
      |some u=>match u.ret with
       |false=>some u
       |true=>lr ek rd r u.v1 u.v2
def fZ(rd:mX):Nat->List St->AV->AV->Option fT
 |0,_,_,_=>none
 |k+1,l,v1,v2=>match decide (l.length<=1000000) with
  |true=>lr (fZ rd k) rd l v1 v2
  |false=>none
open Classical in
def Hb(x:AV):Option<|List St:=if h:∃l:List St,x= .ab (nm<|bC l) 0 l.length then some h.choose else none
open Classical in
def Ar(rd:mX)(k:Nat)(x v1 v2:AV):Option fT:=match Hb x with
 |none=>none
 |some l=>if okB v1/\okB v2 then fZ rd k l v1 v2 else none
def dx(K:Cb)(rd:mX)(k:Nat):FuncId×KE:=(65,.raw<|rL K<|Ar rd k)
def oE(K:Cb)(v1 v2:AV):List<|Nat×Option ah:=aq++[(270,some<|Cb.loop K none 272 273 271),(271,some .defs),(272,some<|fe v1),(273,some<|fe v2)]
def sE(K:Cb)(v1 v2:AV)(c:List AV):AS:=aj (oE K v1 v2++[(274,some<|.cells 10 (Tr.fill c 0 .nil) [])]) 275
def sA(K:Cb)(bU:Option Code)(v1 v2:AV)(c:List AV)(g:Option ah):AS:=aj (aq++[(270,some<|Cb.loop K bU 272 273 271),(271,some .defs),(272,some<|fe v1),(273,some<|fe v2),(274,some<|.cells 10 (Tr.fill c 0 .nil) []),(275,g)]) 276
def F2(L:bV):Env:=y8 pg 270 dK dk L 274 true
def Y9(K:Cb)(p:fT)(s':AS)(y:AV):Prop:=y= .bool p.ret/\s'.h.get 270=some (Cb.loop K p.bU 272 273 271)/\s'.h.get 271=some .defs/\s'.h.get 272=some (fe p.v1)/\s'.h.get 273=some (fe p.v2)
end
theorem XU:fY<=274:=TO gW ae
theorem RE{o4:Option ah}{nx:Nat}:Y9 K p (aj (aq++[(270,some<|Cb.loop K p.bU 272 273 271),(271,some .defs),(272,some<|fe p.v1),(273,some<|fe p.v2),(274,o4),(275,g)]) nx)<|.bool p.ret:=⟨rfl,by kernel_rfl,by kernel_rfl,by kernel_rfl,by kernel_rfl⟩
theorem aiQ{nx:Nat}:Y9 K p (aj (aq++[(270,some<|Cb.loop K p.bU 272 273 271),(271,some .defs),(272,some<|fe p.v1),(273,some<|fe p.v2)]) nx)<|.bool p.ret:=⟨rfl,by kernel_rfl,by kernel_rfl,by kernel_rfl,by kernel_rfl⟩
theorem ahJ{v1 v2:AV}{l:List<|Nat×AV}(h:∀r:Nat->Nat,(∀k,k<274->r k=k)->(∀k,top<=k->r k=k)->∀p∈l,aZ r p.2 p.2)(kf:K.s1<top)(kP:K.s2<top)(nz:K.s1≠K.s2)(jw:okB v1)(qE:okB v2):uU 274 l<|oE K v1 v2:=by
 intro r r1 r2;refine⟨h r r1 r2,fun p hp x hx=>?_⟩;rcases TP.1 hp with hp|hp
 ·exact D9 (nx:=270) (fun k hk=>r1 k ae) cf p hp x hx
 ·simp only[Ty,TV,or_false] at hp;rcases hp with rfl|rfl|rfl|rfl<;>cases hx
  ·exact aep kf kP nz (r1 _ ae) (r1 _ ae)<|r1 _ ae
  ·exact aeq
  ·exact WJ jw r2
  ·exact WJ qE r2
def Cx(N L:Nat)(i:Int):List<|Nat×AV:=[(1,(.yield 270)),(7,(.ab N 0 L)),(8,(i6<|(L:Int))),(9,(i6 i))]
def sj(N L:Nat)(i:Int):AF:=⟨65,aA<|Cx N L i,(max Tryd.f65.ntmps 2),[.code<|aL pg 65 [1,0,1,0,0],.inLoop<|aL pg 65 [1,0,1,0,0],.inBlock 0,.code<|aL pg 65 [1,1]],[],none⟩
theorem Yv{v1 v2:AV}(N L:Nat)(i:Int)(hn:top<=N)(kf:K.s1<top)(kP:K.s2<top)(nz:K.s1≠K.s2)(jw:okB v1)(qE:okB v2):((Cx N L i).map (fun q=>some q.2)=(Cx N L i).map (fun q=>some q.2))/\((oE K v1 v2).map (fun q=>q.2)=(oE K v1 v2).map (fun q=>q.2))/\uU 274 (Cx N L i) (oE K v1 v2)/\(sj N L i=sj N L i/\aj (oE K v1 v2) 274=aj (oE K v1 v2) 274):=⟨rfl,rfl,ahJ (fun r r1 r2 p hp=>by simp only[Cx,Ty,TV,or_false] at hp;rcases hp with rfl|rfl|rfl|rfl<;>first|exact aZ.int _ _|exact aZ.bool _|exact aZ.ab (r2 _ hn) r2|exact aZ.yield<|r1 270 ae) kf kP nz jw qE,rfl,rfl⟩
abbrev dc(kd to oa na:Int)(Na La:Nat)(ob nb:Int)(Nb Lb Nd ld Ne le:Nat):List AV:=[(u8<|kd),(i6 to),(u8<|oa),(i6 na),(.ab Na 0 La),(u8<|ob),(i6 nb),(.ab Nb 0 Lb),(.ab Nd 0 ld),(.ab Ne 0 le)]
theorem akI{rd:mX}{v1 v2 w1 w2 u1 u2 x1 x2:AV}{pf:fT}{le:Nat}(mc:Mt (dx K rd k::L0) B)(hn:top<=N)(hi:0<=i)(hL:L<=1000000)(hx:cZ FU N (0+i.toNat*10+0) 10=some (dc kd to oa na Na La ob nb Nb Lb Nd ld Ne le))(hr:ba pg (sp<|dx K rd k::L0) FU 6 (.round 270) [.agg<|dc kd to oa na Na La ob nb Nb Lb Nd ld Ne le] (sE K v1 v2<|dc kd to oa na Na La ob nb Nb Lb Nd ld Ne le)= .ok (.bool false) (sA K bU w1 w2 (dc kd to oa na Na La ob nb Nb Lb Nd ld Ne le) g))(h1:i<(L:Int)):av pg B 274 (sP K 270 pg (aC Tryd.f65) ⟨false,w1,w2,bU⟩) (sj N L i)<|aj (oE K v1 v2) 274:=mM (E:=F2<|dx K rd k::L0) fw rfl bR mc.2.2.1 mc.2.2.2 900 (.st 1<|.rg<|.fk (.en<|.st 6<|.rg<|.cm<|.cn (dc kd to oa na Na La ob nb Nb Lb Nd ld Ne le)<|.go 2<|.en<|.st 1<|.rg<|.go 2<|.cy (.bool false) (sA K bU w1 w2 (dc kd to oa na Na La ob nb Nb Lb Nd ld Ne le) g)<|.go 15<|.en<|.rt 4 .no)<|.no)<|bq (i<(L:Int)) (fun _=>(gq i (L:Int)<|ai hn<|ai hx<|ai hr<|RE (K:=K) (p:=⟨false,w1,w2,bU⟩) (o4:=some<|.cells 10 (Tr.fill (dc kd to oa na Na La ob nb Nb Lb Nd ld Ne le) 0 .nil) []) (g:=g) (nx:=276))) iF
theorem akJ{rd:mX}{v1 v2 w1 w2 x1 x2:AV}{pf:fT}{le:Nat}(mc:Mt (dx K rd k::L0) B)(hn:top<=N)(hi:0<=i)(hL:L<=1000000)(hx:cZ FU N (0+i.toNat*10+0) 10=some (dc kd to oa na Na La ob nb Nb Lb Nd ld Ne le))(hr:ba pg (sp<|dx K rd k::L0) FU 6 (.round 270) [.agg<|dc kd to oa na Na La ob nb Nb Lb Nd ld Ne le] (sE K v1 v2<|dc kd to oa na Na La ob nb Nb Lb Nd ld Ne le)= .ok (.bool true) (sA K none w1 w2 (dc kd to oa na Na La ob nb Nb Lb Nd ld Ne le) g))(hb:ba pg (sp<|dx K rd k::L0) FU 6 (.fn 65) [.ab Nd 0 ld,.yield 270] (sA K none w1 w2 (dc kd to oa na Na La ob nb Nb Lb Nd ld Ne le) g)= .ok (.bool false) (sA K bU u1 u2 (dc kd to oa na Na La ob nb Nb Lb Nd ld Ne le) g))(h1:i<(L:Int)):av pg B 274 (sP K 270 pg (aC Tryd.f65) ⟨false,u1,u2,bU⟩) (sj N L i)<|aj (oE K v1 v2) 274:=mM (E:=F2<|dx K rd k::L0) fw rfl bR mc.2.2.1 mc.2.2.2 900 (.st 1<|.rg<|.fk (.en<|.st 6<|.rg<|.cm<|.cn (dc kd to oa na Na La ob nb Nb Lb Nd ld Ne le)<|.go 2<|.en<|.st 1<|.rg<|.go 2<|.cy (.bool true) (sA K none w1 w2 (dc kd to oa na Na La ob nb Nb Lb Nd ld Ne le) g)<|.go 5<|.cu (.bool false) (sA K bU u1 u2 (dc kd to oa na Na La ob nb Nb Lb Nd ld Ne le) g)<|.go 9<|.en<|.rt 4 .no)<|.no)<|bq (i<(L:Int)) (fun _=>(gq i (L:Int)<|ai hn<|ai hx<|ai hr<|ai hb<|RE (K:=K) (p:=⟨false,u1,u2,bU⟩) (o4:=some<|.cells 10 (Tr.fill (dc kd to oa na Na La ob nb Nb Lb Nd ld Ne le) 0 .nil) []) (g:=g) (nx:=276))) iF
theorem akK{rd:mX}{v1 v2 w1 w2 x1:AV}{pf:fT}{le:Nat}(mc:Mt (dx K rd k::L0) B)(hn:top<=N)(hi:0<=i)(hL:L<=1000000)(hx:cZ FU N (0+i.toNat*10+0) 10=some (dc kd to oa na Na La ob nb Nb Lb Nd ld Ne le))(hr:ba pg (sp<|dx K rd k::L0) FU 6 (.round 270) [.agg<|dc kd to oa na Na La ob nb Nb Lb Nd ld Ne le] (sE K v1 v2<|dc kd to oa na Na La ob nb Nb Lb Nd ld Ne le)= .ok (.bool true) (sA K none w1 w2 (dc kd to oa na Na La ob nb Nb Lb Nd ld Ne le) g))(hb:ba pg (sp<|dx K rd k::L0) FU 6 (.fn 65) [.ab Nd 0 ld,.yield 270] (sA K none w1 w2 (dc kd to oa na Na La ob nb Nb Lb Nd ld Ne le) g)= .ok (.bool true) (sA K none u1 u2 (dc kd to oa na Na La ob nb Nb Lb Nd ld Ne le) g))(ho:ba pg (sp<|dx K rd k::L0) FU 6 (.fn 65) [.ab Ne 0 le,.yield 270] (sA K none u1 u2 (dc kd to oa na Na La ob nb Nb Lb Nd ld Ne le) g)= .ok (.bool false) (sA K bU x1 x2 (dc kd to oa na Na La ob nb Nb Lb Nd ld Ne le) g))(h1:i<(L:Int)):av pg B 274 (sP K 270 pg (aC Tryd.f65) ⟨false,x1,x2,bU⟩) (sj N L i)<|aj (oE K v1 v2) 274:=mM (E:=F2<|dx K rd k::L0) fw rfl bR mc.2.2.1 mc.2.2.2 900 (.st 1<|.rg<|.fk (.en<|.st 6<|.rg<|.cm<|.cn (dc kd to oa na Na La ob nb Nb Lb Nd ld Ne le)<|.go 2<|.en<|.st 1<|.rg<|.go 2<|.cy (.bool true) (sA K none w1 w2 (dc kd to oa na Na La ob nb Nb Lb Nd ld Ne le) g)<|.go 5<|.cu (.bool true) (sA K none u1 u2 (dc kd to oa na Na La ob nb Nb Lb Nd ld Ne le) g)<|.go 6<|.cu (.bool false) (sA K bU x1 x2 (dc kd to oa na Na La ob nb Nb Lb Nd ld Ne le) g)<|.go 2<|.en<|.rt 4 .no)<|.no)<|bq (i<(L:Int)) (fun _=>(gq i (L:Int)<|ai hn<|ai hx<|ai hr<|ai hb<|ai ho<|RE (K:=K) (p:=⟨false,x1,x2,bU⟩) (o4:=some<|.cells 10 (Tr.fill (dc kd to oa na Na La ob nb Nb Lb Nd ld Ne le) 0 .nil) []) (g:=g) (nx:=276))) iF
theorem akL{rd:mX}{v1 v2 w1 w2 x1:AV}{bU:Option Code}{le:Nat}(mc:Mt (dx K rd k::L0) B)(hn:top<=N)(hi:0<=i)(hL:L<=1000000)(hx:cZ FU N (0+i.toNat*10+0) 10=some (dc kd to oa na Na La ob nb Nb Lb Nd ld Ne le))(hr:ba pg (sp<|dx K rd k::L0) FU 6 (.round 270) [.agg<|dc kd to oa na Na La ob nb Nb Lb Nd ld Ne le] (sE K v1 v2<|dc kd to oa na Na La ob nb Nb Lb Nd ld Ne le)= .ok (.bool true) (sA K none w1 w2 (dc kd to oa na Na La ob nb Nb Lb Nd ld Ne le) g))(hb:ba pg (sp<|dx K rd k::L0) FU 6 (.fn 65) [.ab Nd 0 ld,.yield 270] (sA K none w1 w2 (dc kd to oa na Na La ob nb Nb Lb Nd ld Ne le) g)= .ok (.bool true) (sA K none u1 u2 (dc kd to oa na Na La ob nb Nb Lb Nd ld Ne le) g))(ho:ba pg (sp<|dx K rd k::L0) FU 6 (.fn 65) [.ab Ne 0 le,.yield 270] (sA K none u1 u2 (dc kd to oa na Na La ob nb Nb Lb Nd ld Ne le) g)= .ok (.bool true) (sA K none x1 x2 (dc kd to oa na Na La ob nb Nb Lb Nd ld Ne le) g))(h1:i<(L:Int))(kf:K.s1<top)(kP:K.s2<top)(nz:K.s1≠K.s2)(jw:okB x1)(qE:okB x2)(H:av pg B 274 (sP K 270 pg (aC Tryd.f65) pf) (sj N L<|i+1)<|aj (oE K x1 x2) 274):av pg B 274 (sP K 270 pg (aC Tryd.f65) pf) (sj N L i)<|aj (oE K v1 v2) 274:=wp_cut (E:=F2<|dx K rd k::L0) (C:=(fun fr s1 _=>fr=sj N L (i+1)/\s1=aj (oE K x1 x2) 274)) fw rfl bR mc.2.2.1 mc.2.2.2 XU rfl mc.1 nC 900 (.st 1<|.rg<|.fk (.en<|.st 6<|.rg<|.cm<|.cn (dc kd to oa na Na La ob nb Nb Lb Nd ld Ne le)<|.go 2<|.en<|.st 1<|.rg<|.go 2<|.cy (.bool true) (sA K none w1 w2 (dc kd to oa na Na La ob nb Nb Lb Nd ld Ne le) g)<|.go 5<|.cu (.bool true) (sA K none u1 u2 (dc kd to oa na Na La ob nb Nb Lb Nd ld Ne le) g)<|.go 6<|.cu (.bool true) (sA K none x1 x2 (dc kd to oa na Na La ob nb Nb Lb Nd ld Ne le) g)<|.go 2<|.en<|.st 3<|.rg<|.vl (i6<|i+1)<|.go 1<|.en<|.st 1<|.bk (Cx N L<|i+1) (oE K x1 x2) 274 .no)<|.no)<|bq (i<(L:Int)) (fun _=>(gq i (L:Int)<|ai hn<|ai hx<|ai hr<|ai hb<|ai ho<|ai (wI<|i+1)<|Yv N L (i+1) hn kf kP nz jw qE)) iF
theorem ahK{rd:mX}{v1 v2:AV}(mc:Mt (dx K rd k::L0) B)(h1:(L:Int)<=i):av pg B 274 (sP K 270 pg (aC Tryd.f65) ⟨true,v1,v2,none⟩) (sj N L i)<|aj (oE K v1 v2) 274:=mM (E:=F2<|dx K rd k::L0) fw rfl bR mc.2.2.1 mc.2.2.2 900 (.st 1<|.rg<|.fk (.no)<|.en<|.rt 6 .no)<|bq (i<(L:Int)) iF fun _=>(aiQ (K:=K) (p:=⟨true,v1,v2,none⟩) (nx:=274))
theorem aiR{rd:mX}{v1 v2:AV}(mc:Mt (dx K rd k::L0) B)(hn:top<=N)(kf:K.s1<top)(kP:K.s2<top)(nz:K.s1≠K.s2)(jw:okB v1)(qE:okB v2)(H:av pg B 274 (sP K 270 pg (aC Tryd.f65) pf) (sj N L 0)<|aj (oE K v1 v2) 274):av pg B 274 (sP K 270 pg (aC Tryd.f65) pf) (sF 65 Tryd.f65 [.ab N 0 L,.yield 270])<|aj (oE K v1 v2) 274:=wp_cut (E:=F2<|dx K rd k::L0) (C:=(fun fr s1 _=>fr=sj N L 0/\s1=aj (oE K v1 v2) 274)) fw rfl bR mc.2.2.1 mc.2.2.2 XU rfl mc.1 nC 900 (.st 7<|.bk (Cx N L 0) (oE K v1 v2) 274 .no)<|Yv N L 0 hn kf kP nz jw qE
end fj
namespace mr
open cj cC sQ cY fj
variable {rd:mX} {k:Nat} {K:Cb} {L0:bV}
theorem acx(l:List St):Hb (.ab (nm<|bC l) 0 l.length)=some l:=by
 unfold Hb;have h:∃l':List St,AV.ab (nm<|bC l) 0 l.length= .ab (nm<|bC l') 0 l'.length:=⟨l,rfl⟩;rw[dif_pos h];have e:=h.choose_spec;injection e with e1 e2 e3
 exact congrArg some (tV _ _<|uu (mg _) (mg _) e1).symm
theorem acy{x:AV}{l:List St}(h:Hb x=some l):x= .ab (nm<|bC l) 0 l.length:=by
 unfold Hb at h;split at h
 ·rename_i q;injection h with h
  rw[←h];exact q.choose_spec
 ·cases h
theorem WR(kf:K.s1<top)(kP:K.s2<top)(nz:K.s1≠K.s2)(c d:Nat):(aA [(K.s1,AV.ptr<|some (c,0)),(K.s2,.ptr<|some (d,0))]).get K.s1=some (.ptr<|some (c,0))/\(aA [(K.s1,AV.ptr<|some (c,0)),(K.s2,.ptr<|some (d,0))]).get K.s2=some (.ptr<|some (d,0)):=by
 constructor
 ·show(((Tr.nil:Tr AV).put K.s2 _).put K.s1 _).get K.s1=_;rw[Tr.mh _ _ _ _ kf,if_pos rfl]
 ·show(((Tr.nil:Tr AV).put K.s2 _).put K.s1 _).get K.s2=_;rw[Tr.mh _ _ _ _ kf,if_neg fun e=>nz e.symm,Tr.mh _ _ _ _ kP,if_pos rfl]
structure zu (K:Cb) (L:bV) (rd:mX):Prop where
 s1:K.s1<top
 s2:K.s2<top
 F3:K.s1≠K.s2
 run:∀s v1 v2 p,rd s v1 v2=some p->okB v1->okB v2->(okB p.v1/\okB p.v2/\(p.ret=true->p.bU=none))/\∃g,ba pg (sp L) FU 6 (.round 270) [.agg<|aM s] (sE K v1 v2<|aM s)= .ok (.bool p.ret) (sA K p.bU p.v1 p.v2 (aM s) g)
def QW(rd:mX):Prop:=∀s v1 v2 p,rd s v1 v2=some p->okB v1->okB v2->okB p.v1/\okB p.v2/\(p.ret=true->p.bU=none)
theorem XV{ek:List St->AV->AV->Option fT}{rd:mX}(hr:QW rd)(he:∀l v1 v2 p,ek l v1 v2=some p->okB v1->okB v2->okB p.v1/\okB p.v2/\(p.ret=true->p.bU=none)):∀l v1 v2 p,lr ek rd l v1 v2=some p->okB v1->okB v2->okB p.v1/\okB p.v2/\(p.ret=true->p.bU=none)
 |[],v1,v2,p,h,o1,o2=>by
  have h:some (⟨true,v1,v2,none⟩:fT)=some p:=h;injection h with h;subst h
  exact⟨o1,o2,fun _=>rfl⟩
 |s::r,v1,v2,p,h,o1,o2=>by
  unfold lr at h;split at h
  ·cases h
  rename_i q e;obtain⟨a1,a2,a3⟩:=hr _ _ _ _ e o1 o2;split at h
  ·injection h with h;subst h;exact⟨a1,a2,a3⟩
  split at h
  ·cases h
  rename_i q2 e2;obtain⟨b1,b2,b3⟩:=he _ _ _ _ e2 a1 a2;split at h
  ·injection h with h;subst h;exact⟨b1,b2,b3⟩
  split at h
  ·cases h
  rename_i q3 e3;obtain⟨c1,c2,c3⟩:=he _ _ _ _ e3 b1 b2;split at h
  ·injection h with h;subst h;exact⟨c1,c2,c3⟩
  exact XV hr he r _ _ p h c1 c2
theorem O0(hr:QW rd):∀k l v1 v2 p,fZ rd k l v1 v2=some p->okB v1->okB v2->okB p.v1/\okB p.v2/\(p.ret=true->p.bU=none)
 |0,l,v1,v2,p,h,_,_=>by cases h
 |k+1,l,v1,v2,p,h,o1,o2=>by
  unfold fZ at h;split at h
  ·exact XV hr (O0 hr k) l v1 v2 p h o1 o2
  ·cases h
theorem OA{l:List St}{v1 v2:AV}(o1:okB v1)(o2:okB v2):Ar rd k (.ab (nm<|bC l) 0 l.length) v1 v2=fZ rd k l v1 v2:=by unfold Ar;rw[acx];exact if_pos ⟨o1,o2⟩
theorem uA(l:List St):AV.hi (.ab (nm<|bC l) 0 l.length)=true:=aI.2<|cR _
theorem WS{l:List St}{v1 v2:AV}{p:fT}{c:List AV}{g:Option ah}(kf:K.s1<top)(kP:K.s2<top)(nz:K.s1≠K.s2)(o1:okB v1)(o2:okB v2)(h:fZ rd k l v1 v2=some p)(o3:okB p.v1/\okB p.v2):
 ba pg (sp<|dx K rd k::L0) FU 6 (.fn 65) [.ab (nm<|bC l) 0 l.length,.yield 270] (sA K none v1 v2 c g)= .ok (.bool p.ret) (sA K p.bU p.v1 p.v2 c g):=by
 have vx:sp (dx K rd k::L0) 65=some (rL K (Ar rd k) 270 dK dk):=by kernel_rfl
 have I:Mk K (sA K none v1 v2 c g) 270 271 272 273 v1 v2:=by
  refine⟨rfl,(aI.1 aV:276<=top),⟨by show 270<276;omega,by show 271<276;omega,by show 272<276;omega,by show 273<276;omega⟩,⟨by omega,by omega,by omega,by omega,by omega,by omega⟩,⟨aA [(K.s1,.ptr<|some (272,0)),(K.s2,.ptr<|some (273,0))],?_,(WR kf kP nz 272 273).1,(WR kf kP nz 272 273).2⟩,?_,⟨fe v1,?_,xT _⟩,⟨fe v2,?_,xT _⟩⟩
  ·as_aux_lemma=>kernel_rfl
  ·as_aux_lemma=>kernel_rfl
  ·as_aux_lemma=>kernel_rfl
  ·as_aux_lemma=>kernel_rfl
 have key:=PG (P:=pg) (F:=FU) (n:=5) vx (uA l) cf I ((OA o1 o2).trans h) o1 o2 o3.1 o3.2;rw[show M3 K (sA K none v1 v2 c g) 270 271 272 273 p=sA K p.bU p.v1 p.v2 c g from by as_aux_lemma=>kernel_rfl] at key;exact key
theorem adm(hP:bY pg)(R:zu K (dx K rd k::L0) rd)(h':aY<|dx K rd k::L0){L:bV}(h:aY L):aY<|dx K rd (k+1)::L:=by
 refine XP hP gW (aI.1 aV) R.s1 R.s2 R.F3 jT jb mU mA h h' Tryd.func65 (body:=aL pg 65 []) aV aV fun x v1 v2 p e=>?_;unfold Ar at e;split at e
 ·cases e
 rename_i l el;rw[acy el];split at e;rotate_left
 ·cases e
 rename_i ok;unfold fZ at e;split at e;rotate_left
 ·cases e
 rename_i hlen;have hlen:=of_decide_eq_true hlen;have hg:QW rd:=fun s a b p e x y=>(R.run s a b p e x y).1;refine⟨aI.1 aV,fun B mc=>?_⟩;show av pg B 274 (sP K 270 pg (aC Tryd.f65) p) (sF 65 Tryd.f65 [.ab (nm<|bC l) 0 l.length,.yield 270])<|aj (oE K v1 v2) 274;have key:∀(r:List St) (i:Nat) (v1 v2:AV) (p:fT),l.drop i=r->okB v1->okB v2->lr (fZ rd k) rd r v1 v2=some p->av pg B 274 (sP K 270 pg (aC Tryd.f65) p) (sj (nm<|bC l) l.length i) (aj (oE K v1 v2) 274):=by
  intro r;induction r with
  |nil=>
   intro i v1 v2 p hr _ _ e;have e:some (⟨true,v1,v2,none⟩:fT)=some p:=e;injection e with e;subst e
   exact ahK mc (by have:l.length<=i:=UO.1 hr;omega)
  |cons a r ih=>
   intro i v1 v2 p hr o1 o2 e;have hl:i<l.length:=by
    by_cases q:i<l.length
    ·exact q
    ·rw[Vc ae] at hr;cases hr
   have ha:l[i]? =some a:=by have:=congrArg (fun q=>q[0]?) hr;simp only[Ue,UA,Ul] at this;exact this
   have kI:l.drop (i+1)=r:=by have:=congrArg (UH 1) hr;rw[Up] at this;exact this
   have hx:=GN ha (z:=(i:Int)) ae;unfold lr at e;split at e
   ·cases e
   rename_i q eq1;obtain⟨⟨a1,a2,a3⟩,g,run⟩:=R.run _ _ _ _ eq1 o1 o2;obtain⟨kd,to,⟨oa,na,la⟩,⟨ob,nb,lb⟩,bd,el⟩:=a;rw[aM,aH,aH] at hx run;split at e
   ·rename_i qr;injection e with e;subst e
    rw[qr] at run;obtain⟨ret,w1,w2,bU⟩:=q;simp only at qr;subst qr;exact akI (u1:=v1) (u2:=v2) (x1:=v1) (x2:=v2) (pf:=⟨true,v1,v2,none⟩) mc (cR _) ae hlen hx run ae
   rename_i qr;rw[qr,a3 qr] at run;split at e
   ·cases e
   rename_i q2 eq2;obtain⟨b1,b2,b3⟩:=O0 hg _ _ _ _ _ eq2 a1 a2;have hb:=WS (K:=K) (L0:=L0) (c:=[(u8<|kd),(i6 to),(u8<|oa),(i6 na),(.ab (nm<|dC la) 0 la.length),(u8<|ob),(i6 nb),(.ab (nm<|dC lb) 0 lb.length),(.ab (nm<|bC bd) 0 bd.length),(.ab (nm<|bC el) 0 el.length)]) (g:=g) R.s1 R.s2 R.F3 a1 a2 eq2 ⟨b1,b2⟩;split at e
   ·rename_i F4;injection e with e;subst e
    rw[F4] at hb;obtain⟨aov,u1,u2,aop⟩:=q2;simp only at F4;subst F4;exact akJ (x1:=v1) (x2:=v2) (pf:=⟨true,v1,v2,none⟩) mc (cR _) ae hlen hx run hb ae
   rename_i F4;rw[F4,b3 F4] at hb;split at e
   ·cases e
   rename_i q3 eq3;obtain⟨c1,c2,c3⟩:=O0 hg _ _ _ _ _ eq3 b1 b2;have ho:=WS (K:=K) (L0:=L0) (c:=[(u8<|kd),(i6 to),(u8<|oa),(i6 na),(.ab (nm<|dC la) 0 la.length),(u8<|ob),(i6 nb),(.ab (nm<|dC lb) 0 lb.length),(.ab (nm<|bC bd) 0 bd.length),(.ab (nm<|bC el) 0 el.length)]) (g:=g) R.s1 R.s2 R.F3 b1 b2 eq3 ⟨c1,c2⟩;split at e
   ·rename_i F5;injection e with e;subst e
    rw[F5] at ho;obtain⟨aow,x1,x2,aoq⟩:=q3;simp only at F5;subst F5;exact akK (pf:=⟨true,v1,v2,none⟩) mc (cR _) ae hlen hx run hb ho ae
   rename_i F5;rw[F5,c3 F5] at ho;exact akL (bU:=none) mc (cR _) ae hlen hx run hb ho ae R.s1 R.s2 R.F3 c1 c2<|ih (i+1) _ _ _ kI c1 c2 e
 exact aiR mc (cR _) R.s1 R.s2 R.F3 ok.1 ok.2<|key l 0 v1 v2 p T8 ok.1 ok.2 e
theorem BQ(hP:bY pg){K:Cb}{rd:mX}{L0:bV}(R:∀k,zu K (dx K rd k::L0) rd)(h0:aY L0):∀(k:Nat) {L:bV},aY L->aY (dx K rd k::L)
 |0,L,h=>by
  refine XP hP gW (aI.1 aV) (R 0).s1 (R 0).s2 (R 0).F3 jT jb mU mA h dj Tryd.func65 (body:=aL pg 65 []) aV aV fun x v1 v2 p e=>?_;unfold Ar at e;split at e
  ·cases e
  split at e
  ·cases e
  ·cases e
 |k+1,L,h=>adm hP (R k) (BQ hP R h0 k h0) h
end mr
namespace u0
open cj cY vB fj mr
variable {rd:mX} {k N L kd:Nat} {p:fT} {B:aE} {v:AV}
theorem IL(v:AV)(s:AS):(none:Option Nat)=none/\([]:List Nat)=[]/\(some (v,s):Option<|AV×AS)=some (v,s):=⟨rfl,rfl,rfl⟩
def kX(L:bV):Env:=y8 pg 270 dK dk L 270 false
def F6:Code:=aL pg 46 [1,0,1,0,0]
def Dv:Code:=aL pg 46 [1,0,1,0,1]
def KC:Cb:=⟨46,21,[7],F6,Dv,2,3⟩
def sBC(v1 v2:AV)(c:List AV):AS:=⟨((sE KC v1 v2 c).h.put 275<|some<|.cells 10 (Tr.fill c 0 .nil) []).put 270<|some<|.loop .busy none 46 (aA [(2,.ptr<|some (272,0)),(3,.ptr<|some (273,0))]) 21 [7] F6 Dv 271,276,0,[],[]⟩
abbrev sf(kk to oa na:Int)(Na La:Nat)(ob nb:Int)(Nb Lb Nd ld Ne le:Nat):List AV:=[(u8<|kk),(i6 to),(u8<|oa),(i6 na),(.ab Na 0 La),(u8<|ob),(i6 nb),(.ab Nb 0 Lb),(.ab Nd 0 ld),(.ab Ne 0 le)]
theorem aiS{Na La Nb Lb Nd ld Ne le:Nat}{kk to oa na ob nb:Int}{n1 n2 ca cb:Int}(h1:0<=n1/\n1<1000000000000)(h2:0<=n2/\n2<1000000000000)(h3:0<=ca/\ca<=1000000)(h4:0<=cb/\cb<=1000000)(hca:bc (aK<|Af kd) [(.agg [(u8<|oa),(i6 na),(.ab Na 0 La)])]=some (.int .i64 ca))(hcb:bc (aK<|Af kd) [(.agg [(u8<|ob),(i6 nb),(.ab Nb 0 Lb)])]=some (.int .i64 cb)):ba pg (sp<|dx KC rd k::[p8 kd]) FU 6 (.round 270) [.agg<|sf kk to oa na Na La ob nb Nb Lb Nd ld Ne le] (sE KC (i6 n1) (i6 n2)<|sf kk to oa na Na La ob nb Nb Lb Nd ld Ne le)= .ok (.bool true) (sA KC none (i6<|n1+1) (i6<|n2+(ca+cb)) (sf kk to oa na Na La ob nb Nb Lb Nd ld Ne le)<|some<|.cells 10 (Tr.fill (sf kk to oa na Na La ob nb Nb Lb Nd ld Ne le) 0 .nil) []):=Gk (st:=.ready) (bU:=none) (fn:=46) (nt:=21) (d:=271) (t:=(aA [(2,.ptr<|some (272,0)),(3,.ptr<|some (273,0))])) (ps:=[7]) (a:=F6) (b:=Dv) (s0:=sE KC (i6 n1) (i6 n2)<|sf kk to oa na Na La ob nb Nb Lb Nd ld Ne le) cf rfl<|Chunk.ev 2 ⟨46,jN [7] [.agg<|sf kk to oa na Na La ob nb Nb Lb Nd ld Ne le]<|aA [(2,.ptr<|some (272,0)),(3,.ptr<|some (273,0))],21,[.code F6,.beginRound,.code Dv],[],some 270⟩ ⟨46,((jN [7] [.agg<|sf kk to oa na Na La ob nb Nb Lb Nd ld Ne le]<|aA [(2,.ptr<|some (272,0)),(3,.ptr<|some (273,0))]).put 4<|some<|.ptr<|some (275,0)),21,[.code Dv],[],some 270⟩ _ (sBC (i6 n1) (i6 n2)<|sf kk to oa na Na La ob nb Nb Lb Nd ld Ne le) cf<|Eb (E:=kX<|dx KC rd k::[p8 kd]) (C:=(fun fr s1 _=>fr.round=none/\fr.defers=[]/\B3 pg (ba pg (sp<|dx KC rd k::[p8 kd]) FU 5) 270 fr s1=some ((.bool true),(sA KC none (i6<|n1+1) (i6<|n2+(ca+cb)) (sf kk to oa na Na La ob nb Nb Lb Nd ld Ne le)<|some<|.cells 10 (Tr.fill (sf kk to oa na Na La ob nb Nb Lb Nd ld Ne le) 0 .nil) [])))) fw rfl (fun fr s p h=>Gj h.1 h.2.1 h.2.2) 900 (.st 2<|.rg<|.go 1<|.vl (i6<|n1+1)<|.go 1<|.en<|.rg<|.go 3<|.kn (i6 ca)<|.go 2<|.kn (i6 cb)<|.vl (i6<|ca+cb)<|.vl (i6<|n2+(ca+cb))<|.go 1<|.en<|.st 1<|.cut .no)<|ai (wI<|n1+1)<|ai hca<|ai hcb<|ai (wI<|ca+cb)<|ai (wI<|n2+(ca+cb))<|IL (.bool true)<|sA KC none (i6<|n1+1) (i6<|n2+(ca+cb)) (sf kk to oa na Na La ob nb Nb Lb Nd ld Ne le)<|some<|.cells 10 (Tr.fill (sf kk to oa na Na La ob nb Nb Lb Nd ld Ne le) 0 .nil) []
def zw(N L:Nat):List<|Nat×AV:=[(2,(.ptr<|some (270,0))),(3,(.ptr<|some (271,0))),(6,(.func (.func 64) [] [(.ptr<|some (272,0))]))]
def tF(v1 v2:AV)(N L:Nat):List<|Nat×Option ah:=aq++[(270,some<|fe v1),(271,some<|fe v2),(272,(some<|.cells 1 (Tr.fill [(.ab N 0 L)] 0 .nil) []))]
def zx(v1 v2:AV)(N L:Nat):AS:=aj (tF v1 v2 N L++[(273,some .defs),(274,some<|.loop .ready none 46 (aA<|zw N L) 21 KC.ps F6 Dv 273)]) 275
def tH(p:fT)(N L:Nat):AS:=aj (tF p.v1 p.v2 N L++[(273,some .defs),(274,some<|Cb.loop KC p.bU 270 271 273)]) 275
def M8(p:fT)(N L:Nat):AS:=aj (tF p.v1 p.v2 N L++[(273,some .defs),(274,some<|.loop .exhausted p.bU KC.fn (aA [(KC.s1,.ptr<|some (270,0)),(KC.s2,.ptr<|some (271,0))]) KC.nt KC.ps KC.a KC.b 273)]) 275
theorem aiT{L0:bV}{v1 v2:AV}{l:List St}(hN:N=nm (bC l))(hl:L=l.length)(o1:okB v1)(o2:okB v2)(h:fZ rd k l v1 v2=some p)(o3:okB p.v1/\okB p.v2):
 ba pg (sp<|dx KC rd k::L0) FU 5 (.fn 65) [.ab N 0 L,.yield 274] (zx v1 v2 N L)= .ok (.bool p.ret) (tH p N L):=by
 subst hN;subst hl;have vx:sp (dx KC rd k::L0) 65=some (rL KC (Ar rd k) 270 dK dk):=by kernel_rfl
 have I:Mk KC (zx v1 v2 (nm<|bC l) l.length) 274 273 270 271 v1 v2:=by
  refine⟨rfl,(aI.1 aV:275<=top),⟨by show 274<275;omega,by show 273<275;omega,by show 270<275;omega,by show 271<275;omega⟩,⟨by omega,by omega,by omega,by omega,by omega,by omega⟩,⟨aA<|zw (nm<|bC l) l.length,?_,?_,?_⟩,?_,⟨fe v1,?_,xT _⟩,⟨fe v2,?_,xT _⟩⟩
  all_goals (as_aux_lemma=>kernel_rfl)
 have key:=PG (P:=pg) (F:=FU) (n:=4) vx (uA l) cf I ((OA o1 o2).trans h) o1 o2 o3.1 o3.2;rw[show M3 KC (zx v1 v2 (nm<|bC l) l.length) 274 273 270 271 p=tH p (nm<|bC l) l.length from by as_aux_lemma=>kernel_rfl] at key;exact key
theorem akM{v1 v2:AV}(hE:ba pg (sp<|dx KC rd k::[p8 kd]) FU 5 (.fn 65) [.ab N 0 L,.yield 274] (zx v1 v2 N L)= .ok (.bool p.ret) (tH p N L)):tA (kX<|dx KC rd k::[p8 kd]) 5 (aC Tryd.f64) (fun v s=>v= .tuple []/\s=(tH p N L)) (sF 64 Tryd.f64 [.yield 274,.ptr<|some (272,0)])<|zx v1 v2 N L:=Hs (C:=fun _ _ _=>False) fw rfl (fun _ _ _ h=>h.elim) 900 (.rg<|.go 2<|.cu (.bool p.ret) (tH p N L)<|.en<|.rt 1 .no)<|ai hE (show(AV.tuple []=AV.tuple []/\(tH p N L)=(tH p N L)) from⟨rfl,rfl⟩)
theorem alC{v1 v2:AV}(hE:ba pg (sp<|dx KC rd k::[p8 kd]) FU 5 (.fn 65) [.ab N 0 L,.yield 274] (zx v1 v2 N L)= .ok (.bool p.ret) (tH p N L)):ba pg (sp<|dx KC rd k::[p8 kd]) FU 6 (.fn 64) [.yield 274,.ptr<|some (272,0)] (zx v1 v2 N L)= .ok (.tuple []) (tH p N L):=by obtain⟨v,s2,h1,rfl,rfl⟩:=tA.call (E:=kX<|dx KC rd k::[p8 kd]) (n:=5) Tryd.func64 (GL Tryd.func64 cf)<|akM (v1:=v1) (v2:=v2) hE;exact h1
theorem qg:aL pg 46 [1,0,1,0]= .rangeFunc (.tmp 6) #[7] F6 Dv:=by kernel_rfl
def M9:List Item:=[.inBlock 0,.code<|aL pg 46 [1,1]]
def Fw(N L:Nat):AF:=⟨46,aA<|zw N L,21,.code (aL pg 46 [1,0,1,0])::M9,[],none⟩
theorem aiU:mj 274 (tH p N L)= .ok p.bU (M8 p N L):=by
 obtain⟨r,v1,v2,bU⟩:=p;cases bU with
 |none=>as_aux_lemma=>kernel_rfl
 |some c=>as_aux_lemma=>kernel_rfl
theorem rgC{v1 v2:AV}(mc:Mt (dx KC rd k::[p8 kd]) B)(hE:ba pg (sp<|dx KC rd k::[p8 kd]) FU 5 (.fn 65) [.ab N 0 L,.yield 274] (zx v1 v2 N L)= .ok (.bool p.ret) (tH p N L))(H:av pg B 270 (Fin pg (aC Tryd.f46) fun y _=>y=v) ⟨46,aA<|zw N L,21,andThen p.bU M9,[273],none⟩<|M8 p N L):av pg B 270 (Fin pg (aC Tryd.f46) fun y _=>y=v) (Fw N L)<|aj (tF v1 v2 N L) 273:=by unfold Fw;rw[qg];exact av.chunk bR mc.2.2.1 mc.2.2.2 (JR (gv:=.func (.func 64) [] [.ptr<|some (272,0)]) (s1:=aj (tF v1 v2 N L++[(273,some .defs)]) 274) (s2:=zx v1 v2 N L) cf cf cf (alC (rd:=rd) (k:=k) (kd:=kd) hE) (show mj 274 (tH p N L)= .ok p.bU (M8 p N L) from aiU)) (by show 270<=273;omega) H
theorem akN(N L:Nat):((zw N L).map (fun q=>some q.2)=(zw N L).map (fun q=>some q.2))/\((tF (.int .i64 0) (.int .i64 0) N L).map (fun q=>q.2)=(tF (.int .i64 0) (.int .i64 0) N L).map (fun q=>q.2))/\(Fw N L=Fw N L/\aj (tF (.int .i64 0) (.int .i64 0) N L) 273=aj (tF (.int .i64 0) (.int .i64 0) N L) 273):=⟨rfl,rfl,rfl,rfl⟩
theorem goC(mc:Mt (dx KC rd k::[p8 kd]) B)(hn:top<=N)(H:av pg B 270 (Fin pg (aC Tryd.f46) fun y _=>y=v) (Fw N L)<|aj (tF (.int .i64 0) (.int .i64 0) N L) 273):av pg B 270 (Fin pg (aC Tryd.f46) fun y _=>y=v) (sF 46 Tryd.f46 [(.ab N 0 L)])<|aj aq 270:=wC mc (C:=(fun fr s1 _=>fr=Fw N L/\s1=aj (tF (.int .i64 0) (.int .i64 0) N L) 273)) nC (.st 4<|.rg<|.go 1<|.il<|.rt 5<|.en<|.st 1<|.ls (zw N L) (tF (.int .i64 0) (.int .i64 0) N L) 273 .no)<|akN N L
theorem enC{n1 n2:Int}{r:Bool}(mc:Mt (dx KC rd k::[p8 kd]) B):av pg B 270 (Fin pg (aC Tryd.f46) fun y _=>y= .tuple [.int .i64 n1,.int .i64 n2]) ⟨46,aA<|zw N L,21,andThen none M9,[273],none⟩<|M8 ⟨r,.int .i64 n1,.int .i64 n2,none⟩ N L:=(OB (l:=273) (k:=8) (fr:=⟨46,aA<|zw N L,21,M9,[],none⟩) bR mc.2.2.1 mc.2.2.2 rfl rfl cf).2.2 (by show 270<=275;omega)
end u0
namespace sk
open cj cC dD fu CQ cY vB fj mr u0
variable {kd:Nat} {e:Ex}
def cw:St->Ex
 | .mk _ _ a _ _ _=>a
def iP:St->Ex
 | .mk _ _ _ b _ _=>b
def QY(kd:Nat)(s:St)(n1 n2:Int):Prop:=(0<=n1/\n1<1000000000000)/\(0<=n2/\n2<1000000000000)/\uJ kd (cw s)=true/\uJ kd (iP s)=true/\lO kd (cw s)<=1000000/\lO kd (iP s)<=1000000
open Classical in
def pO(kd:Nat):mX:=fun s v1 v2=>match v1,v2 with
 | .int .i64 n1,.int .i64 n2=>if QY kd s n1 n2 then some ⟨true,.int .i64<|n1+1,.int .i64<|n2+(mN kd (cw s)+mN kd (iP s)),none⟩ else none
 |_,_=>none
theorem xG(n:Int):okB<|.int .i64 n:=⟨rfl,rfl⟩
theorem am7(h:uJ kd e=true)(h2:lO kd e<=1000000):0<=mN kd e/\mN kd e<=1000000:=by have:=Gz kd e h;unfold mN;split<;>omega
theorem am8(h:uJ kd e=true)(h2:lO kd e<=1000000):bc (aK<|Af kd) [.agg<|aH e]=some (i6<|mN kd e):=eV (eQ Af.bJ ⟨e,rfl,h,h2,rfl⟩) sL rfl
theorem WT{s:St}{v1 v2:AV}{p:fT}(h:pO kd s v1 v2=some p):∃n1 n2,v1= .int .i64 n1/\v2= .int .i64 n2/\QY kd s n1 n2/\p=⟨true,.int .i64<|n1+1,.int .i64<|n2+(mN kd (cw s)+mN kd (iP s)),none⟩:=by
 unfold pO at h;split at h
 ·rename_i n1 n2;split at h
  ·rename_i q;injection h with h
   exact⟨n1,n2,rfl,rfl,q,h.symm⟩
  ·cases h
 ·cases h
theorem akO(kd k:Nat):zu KC (dx KC (pO kd) k::[p8 kd])<|pO kd:=by refine⟨aI.1 aV,aI.1 aV,(by show(2:Nat)≠3;omega),fun s v1 v2 p h _ _=>?_⟩;obtain⟨n1,n2,rfl,rfl,⟨h1,h2,h3,h4,h5,h6⟩,rfl⟩:=WT h;refine⟨⟨xG _,xG _,fun _=>rfl⟩,some<|.cells 10 (Tr.fill (aM s) 0 .nil) [],?_⟩;have ca:=am8 h3 h5;have cb:=am8 h4 h6;have na:=am7 h3 h5;have nb:=am7 h4 h6;obtain⟨kk,to,⟨oa,xa,la⟩,⟨ob,xb,lb⟩,bd,el⟩:=s;simp only[cw,iP] at ca cb na nb ⊢;rw[aM,aH,aH];rw[aH] at ca cb;exact aiS h1 h2 na nb ca cb
def RF(p:fT):Prop:=p.ret=true/\p.bU=none/\∃n1 n2,p.v1= .int .i64 n1/\p.v2= .int .i64 n2
theorem WU{kd:Nat}{ek:List St->AV->AV->Option fT}(he:∀l n1 n2 p,ek l (.int .i64 n1) (.int .i64 n2)=some p->RF p):∀l n1 n2 p,lr ek (pO kd) l (.int .i64 n1) (.int .i64 n2)=some p->RF p
 |[],n1,n2,p,h=>by
  have h:some (⟨true,.int .i64 n1,.int .i64 n2,none⟩:fT)=some p:=h;injection h with h;subst h
  exact⟨rfl,rfl,_,_,rfl,rfl⟩
 |s::r,n1,n2,p,h=>by
  unfold lr at h;split at h
  ·cases h
  rename_i q e;obtain⟨m1,m2,e1,e2,_,rfl⟩:=WT e;cases e1;cases e2;simp only at h;split at h
  ·cases h
  rename_i q2 e2;obtain⟨b1,b2,x1,x2,y1,y2⟩:=he _ _ _ _ e2;rw[b1] at h;simp only at h;rw[y1,y2] at h;split at h
  ·cases h
  rename_i q3 e3;obtain⟨c1,c2,x3,x4,y3,y4⟩:=he _ _ _ _ e3;rw[c1] at h;simp only at h;rw[y3,y4] at h;exact WU he r _ _ p h
theorem amq:∀k l n1 n2 p,fZ (pO kd) k l (.int .i64 n1) (.int .i64 n2)=some p->RF p
 |0,_,_,_,_,h=>by cases h
 |k+1,l,n1,n2,p,h=>by
  unfold fZ at h;split at h
  ·exact WU (amq k) l n1 n2 p h
  ·cases h
def CR(kd k:Nat)(args:List AV)(v:AV):Prop:=∃(l:List St) (p:fT),args=[.ab (nm<|bC l) 0 l.length]/\fZ (pO kd) k l (.int .i64 0) (.int .i64 0)=some p/\v= .tuple [p.v1,p.v2]
theorem Em{l l':List St}(h:[AV.ab (nm<|bC l) 0 l.length]=[.ab (nm<|bC l') 0 l'.length]):l=l':=by
 injection h with h _
 injection h with h1 _ _
 exact tV _ _<|uu (mg _) (mg _) h1
theorem CR.bJ{k:Nat}(args:List AV)(v v':AV)(h:CR kd k args v)(h':CR kd k args v'):v=v':=by
 obtain⟨l,p,rfl,a,rfl⟩:=h;obtain⟨l',p',h1,a',rfl⟩:=h';rw[Em h1,a'] at a;injection a with a
 rw[a]
def lV(kd k:Nat):FuncId×KE:=(46,.val<|aK<|CR kd k)
theorem afW(hP:bY pg)(kd k:Nat){L:bV}(h:aY L):aY<|lV kd k::L:=by refine gu hP h (BQ hP (fun k=>akO kd k) (aml hP kd dj) k<|aml hP kd dj) Tryd.func46 fun args v e=>?_;obtain⟨l,p,rfl,he,rfl⟩:=fQ e;refine⟨aI.1 aV,fun B mc=>?_⟩;rw[←gX];obtain⟨r1,r2,n1,n2,v1,v2⟩:=amq k l 0 0 p he;obtain⟨ret,w1,w2,bU⟩:=p;simp only at r1 r2 v1 v2;subst r1;subst r2;subst v1;subst v2;exact goC (rd:=pO kd) (k:=k) (kd:=kd) mc (cR _)<|rgC mc (aiT (rd:=pO kd) (k:=k) rfl rfl (xG _) (xG _) he ⟨xG _,xG _⟩)<|enC mc
end sk
namespace za
open cj Bh yJ
variable {xb xa to ob oa nb na:Int} {ld Ne Nd Nb Na Lb La:Nat} {B:aE}
theorem aiV{le:Nat}{kk z xa xb:Int}(mc:Mt [xF,wQ,wP] B)(ho:bc (aK kV) [.int .u8 kk]=some (.agg [.bool false,.bool false,.bool false,.bool false,.bool false,.bool false])):av pg B 270 (Fin pg (aC Tryd.f48) fun y _=>y=(.bool<|decide<|False)) (sF 48 Tryd.f48 [(.agg [(u8<|kk),(i6 to),(u8<|oa),(i6 na),(.ab Na 0 La),(u8<|ob),(i6 nb),(.ab Nb 0 Lb),(.ab Nd 0 ld),(.ab Ne 0 le)]),(i6 z)])<|aj aq 270:=wS mc (.st 3<|.rg<|.go 2<|.kn (.agg [(.bool false),(.bool false),(.bool false),(.bool false),(.bool false),(.bool false)])<|.go 2<|.en<|.rt 10 .no)<|ai ho (show AV.bool false= .bool (decide<|False) from by rw[decide_eq_false fun h=>h])
theorem afX:bc (aK kV) [.int .u8 1]=some (.agg [(.bool true),(.bool true),(.bool true),(.bool false),(.bool false),(.bool false)]):=eV (eQ kV.bJ ⟨1,rfl,by omega,by omega,rfl⟩) (by rfl) rfl
theorem aiW{le:Nat}{z:Int}(mc:Mt [xF,wQ,wP] B)(ha:bc (aK pw) [(.agg [(u8<|oa),(i6 na),(.ab Na 0 La)]),.int .i64 z]=some (.bool<|decide<|xa=1))(hb:bc (aK nM) [(.agg [(u8<|ob),(i6 nb),(.ab Nb 0 Lb)])]=some (.bool<|decide<|xb=1)):av pg B 270 (Fin pg (aC Tryd.f48) fun y _=>y=(.bool<|decide<|0<=to/\to<8/\xa=1/\xb=1/\ld=0/\le=0)) (sF 48 Tryd.f48 [(.agg [(u8<|.ofNat 1),(i6 to),(u8<|oa),(i6 na),(.ab Na 0 La),(u8<|ob),(i6 nb),(.ab Nb 0 Lb),(.ab Nd 0 ld),(.ab Ne 0 le)]),(i6 z)])<|aj aq 270:=wS mc (.st 3<|.rg<|.go 2<|.kn (.agg [(.bool true),(.bool true),(.bool true),(.bool false),(.bool false),(.bool false)])<|.go 2<|.en<|.st 8<|.rg<|.go 2<|.fk (.go 16<|.en<|.rt 4 .no)<|.go 3<|.fk (.go 12<|.en<|.rt 4 .no)<|.go 12<|.en<|.st 4<|.rg<|.go 5<|.il<|.st 7<|.rg<|.go 2<|.kp (xa=1) inferInstance (.go 1<|.en<|.rt 1<|.go 6<|.il<|.st 8<|.rg<|.go 1<|.kp (xb=1) inferInstance (.go 1<|.en<|.rt 1<|.go 8<|.fk (.go 9<|.fk (.go 3<|.en<|.rt 1 .no)<|.go 3<|.en<|.rt 1 .no)<|.go 13<|.en<|.rt 1 .no)<|.go 1<|.en<|.rt 1<|.go 22<|.en<|.rt 1 .no)<|.go 1<|.en<|.rt 1<|.go 29<|.en<|.rt 1 .no)<|ai (afX) ZZ
theorem afY:bc (aK kV) [.int .u8 2]=some (.agg [(.bool true),(.bool true),(.bool true),(.bool false),(.bool false),(.bool false)]):=eV (eQ kV.bJ ⟨2,rfl,by omega,by omega,rfl⟩) (by rfl) rfl
theorem aiX{le:Nat}{z:Int}(mc:Mt [xF,wQ,wP] B)(ha:bc (aK pw) [(.agg [(u8<|oa),(i6 na),(.ab Na 0 La)]),.int .i64 z]=some (.bool<|decide<|xa=1))(hb:bc (aK nM) [(.agg [(u8<|ob),(i6 nb),(.ab Nb 0 Lb)])]=some (.bool<|decide<|xb=1)):av pg B 270 (Fin pg (aC Tryd.f48) fun y _=>y=(.bool<|decide<|0<=to/\to<8/\xa=1/\xb=1/\ld=0/\le=0)) (sF 48 Tryd.f48 [(.agg [(u8<|.ofNat 2),(i6 to),(u8<|oa),(i6 na),(.ab Na 0 La),(u8<|ob),(i6 nb),(.ab Nb 0 Lb),(.ab Nd 0 ld),(.ab Ne 0 le)]),(i6 z)])<|aj aq 270:=wS mc (.st 3<|.rg<|.go 2<|.kn (.agg [(.bool true),(.bool true),(.bool true),(.bool false),(.bool false),(.bool false)])<|.go 2<|.en<|.st 8<|.rg<|.go 2<|.fk (.go 16<|.en<|.rt 4 .no)<|.go 3<|.fk (.go 12<|.en<|.rt 4 .no)<|.go 12<|.en<|.st 4<|.rg<|.go 5<|.il<|.st 7<|.rg<|.go 2<|.kp (xa=1) inferInstance (.go 1<|.en<|.rt 1<|.go 6<|.il<|.st 8<|.rg<|.go 1<|.kp (xb=1) inferInstance (.go 1<|.en<|.rt 1<|.go 8<|.fk (.go 9<|.fk (.go 3<|.en<|.rt 1 .no)<|.go 3<|.en<|.rt 1 .no)<|.go 13<|.en<|.rt 1 .no)<|.go 1<|.en<|.rt 1<|.go 22<|.en<|.rt 1 .no)<|.go 1<|.en<|.rt 1<|.go 29<|.en<|.rt 1 .no)<|ai (afY) ZZ
theorem afZ:bc (aK kV) [.int .u8 3]=some (.agg [(.bool true),(.bool false),(.bool true),(.bool true),(.bool false),(.bool false)]):=eV (eQ kV.bJ ⟨3,rfl,by omega,by omega,rfl⟩) (by rfl) rfl
theorem aiY{le:Nat}{z:Int}(mc:Mt [xF,wQ,wP] B)(ha:bc (aK pw) [(.agg [(u8<|oa),(i6 na),(.ab Na 0 La)]),.int .i64 z]=some (.bool<|decide<|xa=1))(hb:bc (aK pw) [(.agg [(u8<|ob),(i6 nb),(.ab Nb 0 Lb)]),.int .i64 z]=some (.bool<|decide<|xb=1)):av pg B 270 (Fin pg (aC Tryd.f48) fun y _=>y=(.bool<|decide<|0<=to/\to<8/\to=0/\xa=1/\xb=1/\ld=0/\le=0)) (sF 48 Tryd.f48 [(.agg [(u8<|.ofNat 3),(i6 to),(u8<|oa),(i6 na),(.ab Na 0 La),(u8<|ob),(i6 nb),(.ab Nb 0 Lb),(.ab Nd 0 ld),(.ab Ne 0 le)]),(i6 z)])<|aj aq 270:=wS mc (.st 3<|.rg<|.go 2<|.kn (.agg [(.bool true),(.bool false),(.bool true),(.bool true),(.bool false),(.bool false)])<|.go 2<|.en<|.st 8<|.rg<|.go 2<|.fk (.go 16<|.en<|.rt 4 .no)<|.go 3<|.fk (.go 12<|.en<|.rt 4 .no)<|.go 8<|.fk (.go 3<|.en<|.rt 4 .no)<|.go 3<|.en<|.st 4<|.rg<|.go 5<|.il<|.st 7<|.rg<|.go 2<|.kp (xa=1) inferInstance (.go 1<|.en<|.rt 1<|.go 6<|.il<|.st 7<|.rg<|.go 2<|.kp (xb=1) inferInstance (.go 1<|.en<|.rt 1<|.go 8<|.fk (.go 9<|.fk (.go 3<|.en<|.rt 1 .no)<|.go 3<|.en<|.rt 1 .no)<|.go 13<|.en<|.rt 1 .no)<|.go 1<|.en<|.rt 1<|.go 22<|.en<|.rt 1 .no)<|.go 1<|.en<|.rt 1<|.go 29<|.en<|.rt 1 .no)<|ai (afZ) Sz
theorem af0:bc (aK kV) [.int .u8 4]=some (.agg [(.bool true),(.bool false),(.bool true),(.bool false),(.bool true),(.bool true)]):=eV (eQ kV.bJ ⟨4,rfl,by omega,by omega,rfl⟩) (by rfl) rfl
theorem aiZ{le:Nat}{z:Int}(mc:Mt [xF,wQ,wP] B)(ha:bc (aK pw) [(.agg [(u8<|oa),(i6 na),(.ab Na 0 La)]),.int .i64 z]=some (.bool<|decide<|xa=1))(hb:bc (aK nM) [(.agg [(u8<|ob),(i6 nb),(.ab Nb 0 Lb)])]=some (.bool<|decide<|xb=1)):av pg B 270 (Fin pg (aC Tryd.f48) fun y _=>y=(.bool<|decide<|0<=to/\to<8/\to=0/\xa=1/\xb=1)) (sF 48 Tryd.f48 [(.agg [(u8<|.ofNat 4),(i6 to),(u8<|oa),(i6 na),(.ab Na 0 La),(u8<|ob),(i6 nb),(.ab Nb 0 Lb),(.ab Nd 0 ld),(.ab Ne 0 le)]),(i6 z)])<|aj aq 270:=wS mc (.st 3<|.rg<|.go 2<|.kn (.agg [(.bool true),(.bool false),(.bool true),(.bool false),(.bool true),(.bool true)])<|.go 2<|.en<|.st 8<|.rg<|.go 2<|.fk (.go 16<|.en<|.rt 4 .no)<|.go 3<|.fk (.go 12<|.en<|.rt 4 .no)<|.go 8<|.fk (.go 3<|.en<|.rt 4 .no)<|.go 3<|.en<|.st 4<|.rg<|.go 5<|.il<|.st 7<|.rg<|.go 2<|.kp (xa=1) inferInstance (.go 1<|.en<|.rt 1<|.go 6<|.il<|.st 8<|.rg<|.go 1<|.kp (xb=1) inferInstance (.go 1<|.en<|.rt 1<|.go 22<|.en<|.rt 1 .no)<|.go 1<|.en<|.rt 1<|.go 22<|.en<|.rt 1 .no)<|.go 1<|.en<|.rt 1<|.go 29<|.en<|.rt 1 .no)<|ai (af0) Z0
theorem af1:bc (aK kV) [.int .u8 5]=some (.agg [(.bool true),(.bool false),(.bool true),(.bool false),(.bool true),(.bool false)]):=eV (eQ kV.bJ ⟨5,rfl,by omega,by omega,rfl⟩) (by rfl) rfl
theorem ai0{le:Nat}{z:Int}(mc:Mt [xF,wQ,wP] B)(ha:bc (aK pw) [(.agg [(u8<|oa),(i6 na),(.ab Na 0 La)]),.int .i64 z]=some (.bool<|decide<|xa=1))(hb:bc (aK nM) [(.agg [(u8<|ob),(i6 nb),(.ab Nb 0 Lb)])]=some (.bool<|decide<|xb=1)):av pg B 270 (Fin pg (aC Tryd.f48) fun y _=>y=(.bool<|decide<|0<=to/\to<8/\to=0/\xa=1/\xb=1/\le=0)) (sF 48 Tryd.f48 [(.agg [(u8<|.ofNat 5),(i6 to),(u8<|oa),(i6 na),(.ab Na 0 La),(u8<|ob),(i6 nb),(.ab Nb 0 Lb),(.ab Nd 0 ld),(.ab Ne 0 le)]),(i6 z)])<|aj aq 270:=wS mc (.st 3<|.rg<|.go 2<|.kn (.agg [(.bool true),(.bool false),(.bool true),(.bool false),(.bool true),(.bool false)])<|.go 2<|.en<|.st 8<|.rg<|.go 2<|.fk (.go 16<|.en<|.rt 4 .no)<|.go 3<|.fk (.go 12<|.en<|.rt 4 .no)<|.go 8<|.fk (.go 3<|.en<|.rt 4 .no)<|.go 3<|.en<|.st 4<|.rg<|.go 5<|.il<|.st 7<|.rg<|.go 2<|.kp (xa=1) inferInstance (.go 1<|.en<|.rt 1<|.go 6<|.il<|.st 8<|.rg<|.go 1<|.kp (xb=1) inferInstance (.go 1<|.en<|.rt 1<|.go 18<|.fk (.go 3<|.en<|.rt 1 .no)<|.go 3<|.en<|.rt 1 .no)<|.go 1<|.en<|.rt 1<|.go 22<|.en<|.rt 1 .no)<|.go 1<|.en<|.rt 1<|.go 29<|.en<|.rt 1 .no)<|ai (af1)<|bq (to<0) (fun _=>(show AV.bool false= .bool (decide<|0<=to/\to<8/\to=0/\xa=1/\xb=1/\le=0) from by rw[decide_eq_false ae])) fun _=>(bq (to>=8) (fun _=>(show AV.bool false= .bool (decide<|0<=to/\to<8/\to=0/\xa=1/\xb=1/\le=0) from by rw[decide_eq_false ae])) fun _=>(bq (to≠0) (fun _=>(show AV.bool false= .bool (decide<|0<=to/\to<8/\to=0/\xa=1/\xb=1/\le=0) from by rw[decide_eq_false ae])) fun _=>(ai ha<|bq (xa=1) (fun _=>(ai hb<|bq (xb=1) (fun _=>(bq ((le:Int)=0) (fun _=>(show AV.bool true= .bool (decide<|0<=to/\to<8/\to=0/\xa=1/\xb=1/\le=0) from by rw[decide_eq_true ae])) fun _=>(show AV.bool false= .bool (decide<|0<=to/\to<8/\to=0/\xa=1/\xb=1/\le=0) from by rw[decide_eq_false ae]))) fun _=>(show AV.bool false= .bool (decide<|0<=to/\to<8/\to=0/\xa=1/\xb=1/\le=0) from by rw[decide_eq_false ae]))) fun _=>(show AV.bool false= .bool (decide<|0<=to/\to<8/\to=0/\xa=1/\xb=1/\le=0) from by rw[decide_eq_false ae]))))
theorem af2:bc (aK kV) [.int .u8 6]=some (.agg [(.bool true),(.bool false),(.bool false),(.bool false),(.bool false),(.bool false)]):=eV (eQ kV.bJ ⟨6,rfl,by omega,by omega,rfl⟩) (by rfl) rfl
theorem ai1{le:Nat}{z:Int}(mc:Mt [xF,wQ,wP] B)(ha:bc (aK nM) [(.agg [(u8<|oa),(i6 na),(.ab Na 0 La)])]=some (.bool<|decide<|xa=1))(hb:bc (aK nM) [(.agg [(u8<|ob),(i6 nb),(.ab Nb 0 Lb)])]=some (.bool<|decide<|xb=1)):av pg B 270 (Fin pg (aC Tryd.f48) fun y _=>y=(.bool<|decide<|0<=to/\to<8/\to=0/\xa=1/\xb=1/\ld=0/\le=0)) (sF 48 Tryd.f48 [(.agg [(u8<|.ofNat 6),(i6 to),(u8<|oa),(i6 na),(.ab Na 0 La),(u8<|ob),(i6 nb),(.ab Nb 0 Lb),(.ab Nd 0 ld),(.ab Ne 0 le)]),(i6 z)])<|aj aq 270:=wS mc (.st 3<|.rg<|.go 2<|.kn (.agg [(.bool true),(.bool false),(.bool false),(.bool false),(.bool false),(.bool false)])<|.go 2<|.en<|.st 8<|.rg<|.go 2<|.fk (.go 16<|.en<|.rt 4 .no)<|.go 3<|.fk (.go 12<|.en<|.rt 4 .no)<|.go 8<|.fk (.go 3<|.en<|.rt 4 .no)<|.go 3<|.en<|.st 4<|.rg<|.go 5<|.il<|.st 8<|.rg<|.go 1<|.kp (xa=1) inferInstance (.go 1<|.en<|.rt 1<|.go 6<|.il<|.st 8<|.rg<|.go 1<|.kp (xb=1) inferInstance (.go 1<|.en<|.rt 1<|.go 8<|.fk (.go 9<|.fk (.go 3<|.en<|.rt 1 .no)<|.go 3<|.en<|.rt 1 .no)<|.go 13<|.en<|.rt 1 .no)<|.go 1<|.en<|.rt 1<|.go 22<|.en<|.rt 1 .no)<|.go 1<|.en<|.rt 1<|.go 29<|.en<|.rt 1 .no)<|ai (af2) Sz
theorem af3:bc (aK kV) [.int .u8 7]=some (.agg [(.bool true),(.bool false),(.bool false),(.bool false),(.bool true),(.bool true)]):=eV (eQ kV.bJ ⟨7,rfl,by omega,by omega,rfl⟩) (by rfl) rfl
theorem ai2{le:Nat}{z:Int}(mc:Mt [xF,wQ,wP] B)(ha:bc (aK nM) [(.agg [(u8<|oa),(i6 na),(.ab Na 0 La)])]=some (.bool<|decide<|xa=1))(hb:bc (aK nM) [(.agg [(u8<|ob),(i6 nb),(.ab Nb 0 Lb)])]=some (.bool<|decide<|xb=1)):av pg B 270 (Fin pg (aC Tryd.f48) fun y _=>y=(.bool<|decide<|0<=to/\to<8/\to=0/\xa=1/\xb=1)) (sF 48 Tryd.f48 [(.agg [(u8<|.ofNat 7),(i6 to),(u8<|oa),(i6 na),(.ab Na 0 La),(u8<|ob),(i6 nb),(.ab Nb 0 Lb),(.ab Nd 0 ld),(.ab Ne 0 le)]),(i6 z)])<|aj aq 270:=wS mc (.st 3<|.rg<|.go 2<|.kn (.agg [(.bool true),(.bool false),(.bool false),(.bool false),(.bool true),(.bool true)])<|.go 2<|.en<|.st 8<|.rg<|.go 2<|.fk (.go 16<|.en<|.rt 4 .no)<|.go 3<|.fk (.go 12<|.en<|.rt 4 .no)<|.go 8<|.fk (.go 3<|.en<|.rt 4 .no)<|.go 3<|.en<|.st 4<|.rg<|.go 5<|.il<|.st 8<|.rg<|.go 1<|.kp (xa=1) inferInstance (.go 1<|.en<|.rt 1<|.go 6<|.il<|.st 8<|.rg<|.go 1<|.kp (xb=1) inferInstance (.go 1<|.en<|.rt 1<|.go 22<|.en<|.rt 1 .no)<|.go 1<|.en<|.rt 1<|.go 22<|.en<|.rt 1 .no)<|.go 1<|.en<|.rt 1<|.go 29<|.en<|.rt 1 .no)<|ai (af3) Z0
theorem af4:bc (aK kV) [.int .u8 8]=some (.agg [(.bool true),(.bool false),(.bool true),(.bool false),(.bool false),(.bool false)]):=eV (eQ kV.bJ ⟨8,rfl,by omega,by omega,rfl⟩) (by rfl) rfl
theorem ai3{le:Nat}{z:Int}(mc:Mt [xF,wQ,wP] B)(ha:bc (aK pw) [(.agg [(u8<|oa),(i6 na),(.ab Na 0 La)]),.int .i64 z]=some (.bool<|decide<|xa=1))(hb:bc (aK nM) [(.agg [(u8<|ob),(i6 nb),(.ab Nb 0 Lb)])]=some (.bool<|decide<|xb=1)):av pg B 270 (Fin pg (aC Tryd.f48) fun y _=>y=(.bool<|decide<|0<=to/\to<8/\to=0/\xa=1/\xb=1/\ld=0/\le=0)) (sF 48 Tryd.f48 [(.agg [(u8<|.ofNat 8),(i6 to),(u8<|oa),(i6 na),(.ab Na 0 La),(u8<|ob),(i6 nb),(.ab Nb 0 Lb),(.ab Nd 0 ld),(.ab Ne 0 le)]),(i6 z)])<|aj aq 270:=wS mc (.st 3<|.rg<|.go 2<|.kn (.agg [(.bool true),(.bool false),(.bool true),(.bool false),(.bool false),(.bool false)])<|.go 2<|.en<|.st 8<|.rg<|.go 2<|.fk (.go 16<|.en<|.rt 4 .no)<|.go 3<|.fk (.go 12<|.en<|.rt 4 .no)<|.go 8<|.fk (.go 3<|.en<|.rt 4 .no)<|.go 3<|.en<|.st 4<|.rg<|.go 5<|.il<|.st 7<|.rg<|.go 2<|.kp (xa=1) inferInstance (.go 1<|.en<|.rt 1<|.go 6<|.il<|.st 8<|.rg<|.go 1<|.kp (xb=1) inferInstance (.go 1<|.en<|.rt 1<|.go 8<|.fk (.go 9<|.fk (.go 3<|.en<|.rt 1 .no)<|.go 3<|.en<|.rt 1 .no)<|.go 13<|.en<|.rt 1 .no)<|.go 1<|.en<|.rt 1<|.go 22<|.en<|.rt 1 .no)<|.go 1<|.en<|.rt 1<|.go 29<|.en<|.rt 1 .no)<|ai (af4) Sz
end za
namespace As
open cj cC dD cY Bh yJ iU za
variable {e:Ex}
def u6(asked:Bool)(e:Ex)(z:Int):Bool:=match asked with
 |true=>Mn e z
 |false=>decide<|EZ e
def Bi(l:List Bool)(to:Int)(a b:Ex)(body el:List St)(z:Int):Bool:=match l with
 |[is,t,fa,fb,bo,ot]=>is&&(decide (0<=to/\to<8)&&((t||decide (to=0))&&(u6 fa a z&&(u6 fb b z&&((bo||decide (body.length=0))&&(ot||decide (el.length=0)))))))
 |_=>false
def nh:St->Int->Bool
 | .mk kind to a b body el,z=>Bi (qF kind) to a b body el z
def Bj(args:List AV)(v:AV):Prop:=∃(s:St) (z:Int),args=[.agg<|aM s,.int .i64 z]/\(0<=fX s/\fX s<256)/\v= .bool (nh s z)
theorem Bj.bJ(args:List AV)(v v':AV)(h:Bj args v)(h':Bj args v'):v=v':=by obtain⟨e,z,rfl,_,rfl⟩:=h;obtain⟨e',z',h1,_,rfl⟩:=h';simp only[TQ,AV.agg.injEq,AV.int.injEq,true_and,_root_.and_true] at h1;rw[Jw _ _ h1.1,h1.2]
def l9:FuncId×KE:=(48,.val<|aK Bj)
theorem Qb{z:Int}:bc (aK pw) [.agg<|aH e,.int .i64 z]=some (.bool<|decide<|bit (Mn e z)=1):=by rw[yh];exact eV (eQ pw.bJ ⟨e,z,rfl,rfl⟩) sL rfl
theorem af5:bc (aK nM) [.agg<|aH e]=some (.bool<|decide<|bit (decide<|EZ e)=1):=by rw[yh];exact eV (eQ nM.bJ ⟨e,rfl,rfl⟩) sL rfl
theorem ahL{fa:Bool}{z:Int}:match fa with
 |true=>bc (aK pw) [.agg<|aH e,.int .i64 z]=some (.bool<|decide<|bit (u6 fa e z)=1)
 |false=>bc (aK nM) [.agg<|aH e]=some (.bool<|decide<|bit (u6 fa e z)=1):=by
 cases fa
 ·exact af5
 ·exact Qb
theorem ahM(hP:bY pg){L:bV}(h:aY L):aY<|l9::L:=by
 refine gu hP h (ahx hP<|aeC hP<|aez hP dj) Tryd.func48 fun args v e=>?_;obtain⟨⟨kind,to,⟨oa,na,la⟩,⟨ob,nb,lb⟩,bd,el⟩,z,rfl,hk,rfl⟩:=fQ e;have hk:0<=kind/\kind<256:=hk;refine⟨aI.1 aV,fun B mc=>?_⟩;rw[←gX];have fit:∀(fa:Bool) (op n:Int) (l:List Ex),match fa with
  |true=>bc (aK pw) [.agg [.int .u8 op,.int .i64 n,.ab (nm<|dC l) 0 l.length],.int .i64 z]=some (.bool<|decide<|bit (u6 fa (.mk op n l) z)=1)
  |false=>bc (aK nM) [.agg [.int .u8 op,.int .i64 n,.ab (nm<|dC l) 0 l.length]]=some (.bool<|decide<|bit (u6 fa (.mk op n l) z)=1):=fun fa op n l=>by
  have:=ahL (fa:=fa) (e:=.mk op n l) (z:=z);rw[aH] at this;exact this
 have bool:∀(t bo ot A B:Bool),(true&&(decide (0<=to/\to<8)&&((t||decide (to=0))&&(A&&(B&&((bo||decide (bd.length=0))&&(ot||decide (el.length=0))))))))=true↔(0<=to/\to<8)/\(t=true\/to=0)/\bit A=1/\bit B=1/\(bo=true\/bd.length=0)/\(ot=true\/el.length=0):=fun t bo ot A B=>by simp only[VN,TW,U0,decide_eq_true_eq,Fv]
 rw[aM,aH,aH];by_cases hb:1<=kind/\kind<=8
 ·have hs:∀(t fa fb bo ot:Bool),qF kind=[true,t,fa,fb,bo,ot]->∀(Q:Prop) [Decidable Q],(Q↔(0<=to/\to<8)/\(t=true\/to=0)/\bit (u6 fa (.mk oa na la) z)=1/\bit (u6 fb (.mk ob nb lb) z)=1/\(bo=true\/bd.length=0)/\(ot=true\/el.length=0))->
   nh (.mk kind to (.mk oa na la) (.mk ob nb lb) bd el) z=decide Q:=fun t fa fb bo ot e Q _ hq=>by
   show Bi (qF kind) to _ _ bd el z=_;rw[e,VU,decide_eq_true_eq,hq];exact bool t bo ot _ _
  have done:∀(t fa fb bo ot:Bool),qF kind=[true,t,fa,fb,bo,ot]->∀(Q:Prop) [Decidable Q] {l:List AV} {K:List ResultVar} {nt:Nat} {bdy:List Item},(Q↔(0<=to/\to<8)/\(t=true\/to=0)/\bit (u6 fa (.mk oa na la) z)=1/\bit (u6 fb (.mk ob nb lb) z)=1/\(bo=true\/bd.length=0)/\(ot=true\/el.length=0))->
   av pg B 270 (Fin pg K fun y _=>y= .bool (decide Q)) ⟨48,dZ l,nt,bdy,[],none⟩ (aj aq 270)->av pg B 270 (Fin pg K fun y _=>y= .bool (nh (.mk kind to (.mk oa na la) (.mk ob nb lb) bd el) z)) ⟨48,dZ l,nt,bdy,[],none⟩ (aj aq 270):=fun t fa fb bo ot e Q _ _ _ _ _ hq key=>by
   rw[hs t fa fb bo ot e Q hq];exact key
  obtain rfl|rfl|rfl|rfl|rfl|rfl|rfl|rfl:kind=1\/kind=2\/kind=3\/kind=4\/kind=5\/kind=6\/kind=7\/kind=8:=by omega
  ·have key:=aiW (to:=to) (z:=z) (Nd:=nm<|bC bd) (Ne:=nm<|bC el) (ld:=bd.length) (le:=el.length) mc (fit true oa na la)<|fit false ob nb lb;exact done true true false false false rfl _ AL key
  ·have key:=aiX (to:=to) (z:=z) (Nd:=nm<|bC bd) (Ne:=nm<|bC el) (ld:=bd.length) (le:=el.length) mc (fit true oa na la)<|fit false ob nb lb;exact done true true false false false rfl _ AL key
  ·have key:=aiY (to:=to) (z:=z) (Nd:=nm<|bC bd) (Ne:=nm<|bC el) (ld:=bd.length) (le:=el.length) mc (fit true oa na la)<|fit true ob nb lb;exact done false true true false false rfl _ AL key
  ·have key:=aiZ (to:=to) (z:=z) (Nd:=nm<|bC bd) (Ne:=nm<|bC el) (ld:=bd.length) (le:=el.length) mc (fit true oa na la)<|fit false ob nb lb;exact done false true false true true rfl _ AL key
  ·have key:=ai0 (to:=to) (z:=z) (Nd:=nm<|bC bd) (Ne:=nm<|bC el) (ld:=bd.length) (le:=el.length) mc (fit true oa na la)<|fit false ob nb lb;exact done false true false true false rfl _ AL key
  ·have key:=ai1 (to:=to) (z:=z) (Nd:=nm<|bC bd) (Ne:=nm<|bC el) (ld:=bd.length) (le:=el.length) mc (fit false oa na la)<|fit false ob nb lb;exact done false false false false false rfl _ AL key
  ·have key:=ai2 (to:=to) (z:=z) (Nd:=nm<|bC bd) (Ne:=nm<|bC el) (ld:=bd.length) (le:=el.length) mc (fit false oa na la)<|fit false ob nb lb;exact done false false false true true rfl _ AL key
  ·have key:=ai3 (to:=to) (z:=z) (Nd:=nm<|bC bd) (Ne:=nm<|bC el) (ld:=bd.length) (le:=el.length) mc (fit true oa na la)<|fit false ob nb lb;exact done false true false false false rfl _ AL key
 ·have e0:qF kind=[false,false,false,false,false,false]:=by
   by_cases h9:9<=kind
   ·unfold qF;rw[T9,Uf (show M7.length<=kind.toNat by show 9<=kind.toNat;omega)];rfl
   ·obtain rfl:kind=0:=by omega
    rfl
  have ho:bc (aK kV) [.int .u8 kind]=some (.agg [.bool false,.bool false,.bool false,.bool false,.bool false,.bool false]):=by have:=eV (eQ kV.bJ ⟨kind,rfl,hk.1,hk.2,rfl⟩:aK kV [.int .u8 kind]=_) rfl (by unfold xE;rw[e0];rfl);rw[this];unfold xE;rw[e0];rfl
  have key:=aiV (to:=to) (z:=z) (xa:=0) (xb:=0) (Na:=nm<|dC la) (La:=la.length) (oa:=oa) (na:=na) (Nb:=nm<|dC lb) (Lb:=lb.length) (ob:=ob) (nb:=nb) (Nd:=nm<|bC bd) (Ne:=nm<|bC el) (ld:=bd.length) (le:=el.length) mc ho;rw[show nh (.mk kind to (.mk oa na la) (.mk ob nb lb) bd el) z=decide False from by show Bi (qF kind) to _ _ bd el z=_;rw[e0];rfl];exact key
end As
namespace rA
open cj gi iU cY fj mr u0 sk As
variable {rd:mX} {k N L ld Ne Nd Nb Na Lb La:Nat} {p:fT} {B:aE} {P:Prop} {v:AV} {to ob oa nb na kd:Int}
def Bk:Code:=aL pg 23 [1,1,1,0,1,0,0]
def xH:Code:=aL pg 23 [1,1,1,0,1,0,1]
def KM:Cb:=⟨23,42,[31],Bk,xH,3,4⟩
def sBM(v1 v2:AV)(c:List AV):AS:=⟨((sE KM v1 v2 c).h.put 275<|some<|.cells 10 (Tr.fill c 0 .nil) []).put 270<|some<|.loop .busy none 23 (aA [(3,.ptr<|some (272,0)),(4,.ptr<|some (273,0))]) 42 [31] Bk xH 271,276,0,[],[]⟩
theorem adn{le:Nat}{n:Int}(hs:bc (aK Bj) [.agg<|fj.dc kd to oa na Na La ob nb Nb Lb Nd ld Ne le,.int .i64 n]=some (.bool true)):ba pg (sp<|dx KM rd k::[l9,jS 60,jU 60,lV 60 60]) FU 6 (.round 270) [.agg<|fj.dc kd to oa na Na La ob nb Nb Lb Nd ld Ne le] (sE KM (i6 n) (.bool false)<|fj.dc kd to oa na Na La ob nb Nb Lb Nd ld Ne le)= .ok (.bool true) (sA KM none (.int .i64 n) (.bool false) (fj.dc kd to oa na Na La ob nb Nb Lb Nd ld Ne le)<|some<|.cells 10 (Tr.fill (fj.dc kd to oa na Na La ob nb Nb Lb Nd ld Ne le) 0 .nil) []):=Gk (st:=.ready) (bU:=none) (fn:=23) (nt:=42) (d:=271) (t:=(aA [(3,.ptr<|some (272,0)),(4,.ptr<|some (273,0))])) (ps:=[31]) (a:=Bk) (b:=xH) (s0:=sE KM (i6 n) (.bool false)<|fj.dc kd to oa na Na La ob nb Nb Lb Nd ld Ne le) cf rfl<|Chunk.ev 2 ⟨23,jN [31] [.agg<|fj.dc kd to oa na Na La ob nb Nb Lb Nd ld Ne le]<|aA [(3,.ptr<|some (272,0)),(4,.ptr<|some (273,0))],42,[.code Bk,.beginRound,.code xH],[],some 270⟩ ⟨23,((jN [31] [.agg<|fj.dc kd to oa na Na La ob nb Nb Lb Nd ld Ne le]<|aA [(3,.ptr<|some (272,0)),(4,.ptr<|some (273,0))]).put 7<|some<|.ptr<|some (275,0)),42,[.code xH],[],some 270⟩ _ (sBM (i6 n) (.bool false)<|fj.dc kd to oa na Na La ob nb Nb Lb Nd ld Ne le) cf<|Eb (E:=kX<|dx KM rd k::[l9,jS 60,jU 60,lV 60 60]) (C:=(fun fr s1 _=>fr.round=none/\fr.defers=[]/\B3 pg (ba pg (sp<|dx KM rd k::[l9,jS 60,jU 60,lV 60 60]) FU 5) 270 fr s1=some ((.bool true),(sA KM none (.int .i64 n) (.bool false) (fj.dc kd to oa na Na La ob nb Nb Lb Nd ld Ne le)<|some<|.cells 10 (Tr.fill (fj.dc kd to oa na Na La ob nb Nb Lb Nd ld Ne le) 0 .nil) [])))) fw rfl (fun fr s p h=>Gj h.1 h.2.1 h.2.2) 900 (.st 2<|.rg<|.go 2<|.kn (.bool true)<|.go 1<|.en<|.st 3<|.cut .no)<|ai hs<|IL (.bool true)<|sA KM none (.int .i64 n) (.bool false) (fj.dc kd to oa na Na La ob nb Nb Lb Nd ld Ne le)<|some<|.cells 10 (Tr.fill (fj.dc kd to oa na Na La ob nb Nb Lb Nd ld Ne le) 0 .nil) []
theorem acA{le:Nat}{n:Int}(hs:bc (aK Bj) [.agg<|fj.dc kd to oa na Na La ob nb Nb Lb Nd ld Ne le,.int .i64 n]=some (.bool false)):ba pg (sp<|dx KM rd k::[l9,jS 60,jU 60,lV 60 60]) FU 6 (.round 270) [.agg<|fj.dc kd to oa na Na La ob nb Nb Lb Nd ld Ne le] (sE KM (i6 n) (.bool false)<|fj.dc kd to oa na Na La ob nb Nb Lb Nd ld Ne le)= .ok (.bool false) (sA KM (some .ret) (.int .i64 n) (.bool false) (fj.dc kd to oa na Na La ob nb Nb Lb Nd ld Ne le)<|some<|.cells 10 (Tr.fill (fj.dc kd to oa na Na La ob nb Nb Lb Nd ld Ne le) 0 .nil) []):=Gk (st:=.ready) (bU:=none) (fn:=23) (nt:=42) (d:=271) (t:=(aA [(3,.ptr<|some (272,0)),(4,.ptr<|some (273,0))])) (ps:=[31]) (a:=Bk) (b:=xH) (s0:=sE KM (i6 n) (.bool false)<|fj.dc kd to oa na Na La ob nb Nb Lb Nd ld Ne le) cf rfl<|Chunk.ev 2 ⟨23,jN [31] [.agg<|fj.dc kd to oa na Na La ob nb Nb Lb Nd ld Ne le]<|aA [(3,.ptr<|some (272,0)),(4,.ptr<|some (273,0))],42,[.code Bk,.beginRound,.code xH],[],some 270⟩ ⟨23,((jN [31] [.agg<|fj.dc kd to oa na Na La ob nb Nb Lb Nd ld Ne le]<|aA [(3,.ptr<|some (272,0)),(4,.ptr<|some (273,0))]).put 7<|some<|.ptr<|some (275,0)),42,[.code xH],[],some 270⟩ _ (sBM (i6 n) (.bool false)<|fj.dc kd to oa na Na La ob nb Nb Lb Nd ld Ne le) cf<|Eb (E:=kX<|dx KM rd k::[l9,jS 60,jU 60,lV 60 60]) (C:=(fun fr s1 _=>fr.round=none/\fr.defers=[]/\B3 pg (ba pg (sp<|dx KM rd k::[l9,jS 60,jU 60,lV 60 60]) FU 5) 270 fr s1=some ((.bool false),(sA KM (some .ret) (.int .i64 n) (.bool false) (fj.dc kd to oa na Na La ob nb Nb Lb Nd ld Ne le)<|some<|.cells 10 (Tr.fill (fj.dc kd to oa na Na La ob nb Nb Lb Nd ld Ne le) 0 .nil) [])))) fw rfl (fun fr s p h=>Gj h.1 h.2.1 h.2.2) 900 (.st 2<|.rg<|.go 2<|.kn (.bool false)<|.go 1<|.en<|.st 3<|.cut .no)<|ai hs<|IL (.bool false)<|sA KM (some .ret) (.int .i64 n) (.bool false) (fj.dc kd to oa na Na La ob nb Nb Lb Nd ld Ne le)<|some<|.cells 10 (Tr.fill (fj.dc kd to oa na Na La ob nb Nb Lb Nd ld Ne le) 0 .nil) []
def lH(N L:Nat)(c1 c2:Int):List<|Nat×AV:=[(3,(.ptr<|some (270,0))),(4,(.ptr<|some (271,0))),(5,(i6 c1)),(6,(i6 c2)),(30,(.func (.func 64) [] [(.ptr<|some (272,0))]))]
def tI(v1 v2:AV)(N L:Nat):List<|Nat×Option ah:=aq++[(270,some<|fe v1),(271,some<|fe v2),(272,(some<|.cells 1 (Tr.fill [(.ab N 0 L)] 0 .nil) []))]
def zy(v1 v2:AV)(N L:Nat)(c1 c2:Int):AS:=aj (tI v1 v2 N L++[(273,some .defs),(274,some<|.loop .ready none 23 (aA<|lH N L c1 c2) 42 KM.ps Bk xH 273)]) 275
def tJ(p:fT)(N L:Nat):AS:=aj (tI p.v1 p.v2 N L++[(273,some .defs),(274,some<|Cb.loop KM p.bU 270 271 273)]) 275
def IM(p:fT)(N L:Nat):AS:=aj (tI p.v1 p.v2 N L++[(273,some .defs),(274,some<|.loop .exhausted p.bU KM.fn (aA [(KM.s1,.ptr<|some (270,0)),(KM.s2,.ptr<|some (271,0))]) KM.nt KM.ps KM.a KM.b 273)]) 275
theorem ai4{L0:bV}{v1 v2:AV}{c1 c2:Int}{l:List St}(hN:N=nm (bC l))(hl:L=l.length)(o1:okB v1)(o2:okB v2)(h:fZ rd k l v1 v2=some p)(o3:okB p.v1/\okB p.v2):
 ba pg (sp<|dx KM rd k::L0) FU 5 (.fn 65) [.ab N 0 L,.yield 274] (zy v1 v2 N L c1 c2)= .ok (.bool p.ret) (tJ p N L):=by
 subst hN;subst hl;have vx:sp (dx KM rd k::L0) 65=some (rL KM (Ar rd k) 270 dK dk):=by kernel_rfl
 have I:Mk KM (zy v1 v2 (nm<|bC l) l.length c1 c2) 274 273 270 271 v1 v2:=by
  refine⟨rfl,(aI.1 aV:275<=top),⟨by show 274<275;omega,by show 273<275;omega,by show 270<275;omega,by show 271<275;omega⟩,⟨by omega,by omega,by omega,by omega,by omega,by omega⟩,⟨aA<|lH (nm<|bC l) l.length c1 c2,?_,?_,?_⟩,?_,⟨fe v1,?_,xT _⟩,⟨fe v2,?_,xT _⟩⟩
  all_goals (as_aux_lemma=>kernel_rfl)
 have key:=PG (P:=pg) (F:=FU) (n:=4) vx (uA l) cf I ((OA o1 o2).trans h) o1 o2 o3.1 o3.2;rw[show M3 KM (zy v1 v2 (nm<|bC l) l.length c1 c2) 274 273 270 271 p=tJ p (nm<|bC l) l.length from by as_aux_lemma=>kernel_rfl] at key;exact key
theorem akP{v1 v2:AV}{c1 c2:Int}(hE:ba pg (sp<|dx KM rd k::[l9,jS 60,jU 60,lV 60 60]) FU 5 (.fn 65) [.ab N 0 L,.yield 274] (zy v1 v2 N L c1 c2)= .ok (.bool p.ret) (tJ p N L)):tA (kX<|dx KM rd k::[l9,jS 60,jU 60,lV 60 60]) 5 (aC Tryd.f64) (fun v s=>v= .tuple []/\s=(tJ p N L)) (sF 64 Tryd.f64 [.yield 274,.ptr<|some (272,0)])<|zy v1 v2 N L c1 c2:=Hs (C:=fun _ _ _=>False) fw rfl (fun _ _ _ h=>h.elim) 900 (.rg<|.go 2<|.cu (.bool p.ret) (tJ p N L)<|.en<|.rt 1 .no)<|ai hE (show(AV.tuple []=AV.tuple []/\(tJ p N L)=(tJ p N L)) from⟨rfl,rfl⟩)
theorem alM{v1 v2:AV}{c1 c2:Int}(hE:ba pg (sp<|dx KM rd k::[l9,jS 60,jU 60,lV 60 60]) FU 5 (.fn 65) [.ab N 0 L,.yield 274] (zy v1 v2 N L c1 c2)= .ok (.bool p.ret) (tJ p N L)):ba pg (sp<|dx KM rd k::[l9,jS 60,jU 60,lV 60 60]) FU 6 (.fn 64) [.yield 274,.ptr<|some (272,0)] (zy v1 v2 N L c1 c2)= .ok (.tuple []) (tJ p N L):=by obtain⟨v,s2,h1,rfl,rfl⟩:=tA.call (E:=kX<|dx KM rd k::[l9,jS 60,jU 60,lV 60 60]) (n:=5) Tryd.func64 (GL Tryd.func64 cf)<|akP (v1:=v1) (v2:=v2) hE;exact h1
theorem ai5:aL pg 23 [1,1,1,0,1,0]= .rangeFunc (.tmp 30) #[31] Bk xH:=by kernel_rfl
def IN:List Item:=[.inBlock 0,.code<|aL pg 23 [1,1,1,1]]
def Fx(N L:Nat)(c1 c2:Int):AF:=⟨23,aA<|lH N L c1 c2,42,.code (aL pg 23 [1,1,1,0,1,0])::IN,[],none⟩
theorem ai6:mj 274 (tJ p N L)= .ok p.bU (IM p N L):=by
 obtain⟨r,v1,v2,bU⟩:=p;cases bU with
 |none=>as_aux_lemma=>kernel_rfl
 |some c=>as_aux_lemma=>kernel_rfl
theorem rgM{v1 v2:AV}{c1 c2:Int}(mc:Mt (dx KM rd k::[l9,jS 60,jU 60,lV 60 60]) B)(hE:ba pg (sp<|dx KM rd k::[l9,jS 60,jU 60,lV 60 60]) FU 5 (.fn 65) [.ab N 0 L,.yield 274] (zy v1 v2 N L c1 c2)= .ok (.bool p.ret) (tJ p N L))(H:av pg B 270 (Fin pg (aC Tryd.f23) fun y _=>y=v) ⟨23,aA<|lH N L c1 c2,42,andThen p.bU IN,[273],none⟩<|IM p N L):av pg B 270 (Fin pg (aC Tryd.f23) fun y _=>y=v) (Fx N L c1 c2)<|aj (tI v1 v2 N L) 273:=by unfold Fx;rw[ai5];exact av.chunk bR mc.2.2.1 mc.2.2.2 (JR (gv:=.func (.func 64) [] [.ptr<|some (272,0)]) (s1:=aj (tI v1 v2 N L++[(273,some .defs)]) 274) (s2:=zy v1 v2 N L c1 c2) cf cf cf (alM (rd:=rd) (k:=k) hE) (show mj 274 (tJ p N L)= .ok p.bU (IM p N L) from ai6)) (by show 270<=273;omega) H
theorem akQ{n:Int}(N L:Nat)(c1 c2:Int)(h:P):((lH N L c1 c2).map (fun q=>some q.2)=(lH N L c1 c2).map (fun q=>some q.2))/\((tI (.int .i64 n) (.bool false) N L).map (fun q=>q.2)=(tI (.int .i64 n) (.bool false) N L).map (fun q=>q.2))/\((Fx N L c1 c2=Fx N L c1 c2/\aj (tI (.int .i64 n) (.bool false) N L) 273=aj (tI (.int .i64 n) (.bool false) N L) 273)/\P):=⟨rfl,rfl,⟨rfl,rfl⟩,h⟩
theorem goM{n dp cs c1 c2:Int}(mc:Mt (dx KM rd k::[l9,jS 60,jU 60,lV 60 60]) B)(hn:top<=N)(hD:bc (aK<|uz 60) [(.ab N 0 L)]=some (.int .i64 dp))(hC:bc (aK<|uK 60) [(.ab N 0 L)]=some (.int .i64 cs))(hN:bc (aK<|CR 60 60) [(.ab N 0 L)]=some (.tuple [.int .i64 c1,.int .i64 c2]))(hf:¬(0<=n/\n<6/\dp<=6/\cs<=2000)->AV.bool false=v)(H:(0<=n/\n<6/\dp<=6/\cs<=2000)->av pg B 270 (Fin pg (aC Tryd.f23) fun y _=>y=v) (Fx N L c1 c2) (aj (tI (.int .i64 n) (.bool false) N L) 273)):av pg B 270 (Fin pg (aC Tryd.f23) fun y _=>y=v) (sF 23 Tryd.f23 [(.ab N 0 L),(i6 n)])<|aj aq 270:=wC mc (C:=(fun fr s1 _=>(fr=Fx N L c1 c2/\s1=aj (tI (.int .i64 n) (.bool false) N L) 273)/\(0<=n/\n<6/\dp<=6/\cs<=2000))) (fun fr s1 p hC=>by obtain⟨⟨rfl,rfl⟩,hq⟩:=hC;exact H hq) (.st 4<|.rg<|.go 1<|.fk (.go 14<|.en<|.rt 4 .no)<|.go 2<|.fk (.go 11<|.en<|.rt 4 .no)<|.go 3<|.kn (i6 dp)<|.fk (.go 6<|.en<|.rt 4 .no)<|.go 3<|.kn (i6 cs)<|.fk (.go 1<|.en<|.rt 4 .no)<|.go 1<|.en<|.st 3<|.rg<|.go 1<|.kn (.tuple [(i6 c1),(i6 c2)])<|.go 5<|.en<|.st 2<|.rg<|.go 1<|.il<|.rt 5<|.en<|.st 1<|.ls (lH N L c1 c2) (tI (.int .i64 n) (.bool false) N L) 273 .no)<|bq (n<0) (fun _=>(show AV.bool false=v from hf ae)) fun _=>(bq (n>=6) (fun _=>(show AV.bool false=v from hf ae)) fun _=>(ai hD<|bq (dp>6) (fun _=>(show AV.bool false=v from hf ae)) fun _=>(ai hC<|bq (cs>2000) (fun _=>(show AV.bool false=v from hf ae)) fun _=>(ai hN<|akQ (n:=n) N L c1 c2 (show(0<=n/\n<6/\dp<=6/\cs<=2000) from by omega)))))
theorem akR{n c1 c2:Int}(mc:Mt (dx KM rd k::[l9,jS 60,jU 60,lV 60 60]) B):av pg B 270 (Fin pg (aC Tryd.f23) fun y _=>y= .bool false) ⟨23,aA<|lH N L c1 c2,42,andThen (some .ret) IN,[273],none⟩<|IM ⟨false,.int .i64 n,.bool false,some .ret⟩ N L:=(OB (l:=273) (k:=8) (fr:=⟨23,aA<|lH N L c1 c2,42,.code .ret::IN,[],none⟩) bR mc.2.2.1 mc.2.2.2 rfl rfl cf).2.2 (by show 270<=275;omega)
theorem akS [Decidable P](h:P):(none:Option Nat)=none/\([]:List Nat)=[]/\(some (.bool true):Option AV)=some (.bool<|decide P):=⟨rfl,rfl,by rw[decide_eq_true h]⟩
theorem Za [Decidable P](h:¬P):(none:Option Nat)=none/\([]:List Nat)=[]/\(some (.bool false):Option AV)=some (.bool<|decide P):=⟨rfl,rfl,by rw[decide_eq_false h]⟩
theorem akT{n c1 c2:Int}(mc:Mt (dx KM rd k::[l9,jS 60,jU 60,lV 60 60]) B):av pg B 270 (Fin pg (aC Tryd.f23) fun y _=>y= .bool (decide<|c1<=40/\c2<=300)) ⟨23,aA<|lH N L c1 c2,42,andThen none IN,[273],none⟩<|IM ⟨true,.int .i64 n,.bool false,none⟩ N L:=afV (E:=kX<|dx KM rd k::[l9,jS 60,jU 60,lV 60 60]) (C:=(fun fr s1 _=>fr.round=none/\fr.defers=[]/\QX pg (ba pg (sp<|dx KM rd k::[l9,jS 60,jU 60,lV 60 60]) FU 6) (aC Tryd.f23) 8 273 fr s1=some (.bool<|decide<|c1<=40/\c2<=300))) fw rfl bR mc.2.2.1 mc.2.2.2 (fun fr s p h=>OB bR mc.2.2.1 mc.2.2.2 h.1 h.2.1 h.2.2) (by show 270<=275;omega) 900 (.st 2<|.rg<|.go 1<|.fk (.go 2<|.fk (.go 2<|.en<|.cut .no)<|.go 2<|.en<|.cut .no)<|.go 5<|.en<|.cut .no)<|bq (c1<=40) (fun _=>(bq (c2<=300) (fun _=>(akS (show(c1<=40/\c2<=300) from by omega))) fun _=>(Za (show ¬(c1<=40/\c2<=300) from by omega)))) fun _=>(Za (show ¬(c1<=40/\c2<=300) from by omega))
end rA
namespace uL
open cj cC gi sQ iU E3 cY fj mr sk As rA
open Classical in
def gN:mX:=fun s v1 v2=>match v1,v2 with
 | .int .i64 n,.bool false=>if 0<=fX s/\fX s<256 then(match nh s n with
  |true=>some ⟨true,.int .i64 n,.bool false,none⟩
  |false=>some ⟨false,.int .i64 n,.bool false,some .ret⟩) else none
 |_,_=>none
abbrev pY(n:Int):fT:=⟨true,.int .i64 n,.bool false,none⟩
abbrev pN(n:Int):fT:=⟨false,.int .i64 n,.bool false,some .ret⟩
theorem PL{s:St}{v1 v2:AV}{p:fT}(h:gN s v1 v2=some p):∃n,(v1= .int .i64 n/\v2= .bool false/\0<=fX s/\fX s<256)/\p=(if nh s n=true then pY n else pN n):=by
 unfold gN at h;split at h
 ·rename_i n;split at h
  ·rename_i q;refine⟨n,⟨rfl,rfl,q⟩,?_⟩;split at h<;>rename_i e<;>injection h with h<;>rw[e]
   ·rw[if_pos rfl];exact h.symm
   ·rw[if_neg (by intro q;cases q)];exact h.symm
  ·cases h
 ·cases h
theorem okF(b:Bool):okB<|.bool b:=⟨rfl,rfl⟩
theorem ai7{s:St}{n:Int}(h:0<=fX s/\fX s<256):bc (aK Bj) [.agg<|aM s,.int .i64 n]=some (.bool<|nh s n):=eV (eQ Bj.bJ ⟨s,n,rfl,h,rfl⟩) (by rw[TS,show AV.hi (.agg<|aM s)=true from TG.2 fun x hx=>Ea<|TG.1 (lq.eR s) x hx];rfl) rfl
theorem akU(k:Nat):zu KM (dx KM gN k::[l9,jS 60,jU 60,lV 60 60]) gN:=by
 refine⟨aI.1 aV,aI.1 aV,(by show(3:Nat)≠4;omega),fun s v1 v2 p h _ _=>?_⟩;obtain⟨n,⟨rfl,rfl,hk⟩,rfl⟩:=PL h;have hs:=ai7 (n:=n) hk;cases e:nh s n with
 |true=>rw[e] at hs;rw[if_pos rfl];refine⟨⟨xG _,okF _,fun _=>rfl⟩,some<|.cells 10 (Tr.fill (aM s) 0 .nil) [],?_⟩;obtain⟨kk,to,⟨oa,xa,la⟩,⟨ob,xb,lb⟩,bd,el⟩:=s;rw[aM,aH,aH] at hs ⊢;exact adn hs
 |false=>rw[e] at hs;rw[if_neg (by intro q;cases q)];refine⟨⟨xG _,okF _,fun q=>by cases q⟩,some<|.cells 10 (Tr.fill (aM s) 0 .nil) [],?_⟩;obtain⟨kk,to,⟨oa,xa,la⟩,⟨ob,xb,lb⟩,bd,el⟩:=s;rw[aM,aH,aH] at hs ⊢;exact acA hs
theorem WV{n:Int}{ek:List St->AV->AV->Option fT}(he:∀l p,ek l (.int .i64 n) (.bool false)=some p->p=pY n\/p=pN n):∀l p,lr ek gN l (.int .i64 n) (.bool false)=some p->p=pY n\/p=pN n
 |[],p,h=>by
  have h:some (pY n)=some p:=h;injection h with h
  exact .inl h.symm
 |s::r,p,h=>by
  unfold lr at h;split at h
  ·cases h
  rename_i q e;obtain⟨n',⟨fC,_⟩,hq⟩:=PL e;injection fC with _ fC
  subst fC;cases hs:nh s n with
  |false=>rw[hs,if_neg (by intro q;cases q)] at hq;subst hq;injection h with h;exact .inr h.symm
  |true=>
   rw[hs,if_pos rfl] at hq;subst hq;have h:(match ek (bN s) (.int .i64 n) (.bool false) with
    |none=>none
    |some q=>match q.ret with
     |false=>some q
     |true=>match ek (bK s) q.v1 q.v2 with
      |none=>none
      |some u=>match u.ret with
       |false=>some u
       |true=>lr ek gN r u.v1 u.v2)=some p:=h
   split at h
   ·cases h
   rename_i q2 e2;rcases he _ _ e2 with rfl|rfl
   ·have h:(match ek (bK s) (.int .i64 n) (.bool false) with
     |none=>none
     |some u=>match u.ret with
      |false=>some u
      |true=>lr ek gN r u.v1 u.v2)=some p:=h
    split at h
    ·cases h
    rename_i q3 e3;rcases he _ _ e3 with rfl|rfl
    ·exact WV he r p h
    ·injection h with h;exact .inr h.symm
   ·injection h with h;exact .inr h.symm
theorem BF{n:Int}:∀k l p,fZ gN k l (.int .i64 n) (.bool false)=some p->p=pY n\/p=pN n
 |0,_,_,h=>by cases h
 |k+1,l,p,h=>by
  unfold fZ at h;split at h
  ·exact WV (BF k) l p h
  ·cases h
def oB(l:List St)(n:Int)(b:Bool):Prop:=∃(c1 c2:Int) (p:fT),fZ (pO 60) 60 l (.int .i64 0) (.int .i64 0)=some ⟨true,.int .i64 c1,.int .i64 c2,none⟩/\fZ gN 60 l (.int .i64 n) (.bool false)=some p/\b=(decide (0<=n/\n<6/\fR 60 l<=6/\gF 60 l<=2000)&&(p.ret&&decide (c1<=40/\c2<=300)))
def uM(args:List AV)(v:AV):Prop:=∃(l:List St) (n:Int) (b:Bool),args=[.ab (nm<|bC l) 0 l.length,.int .i64 n]/\pv 60 l=true/\ks 60 l=true/\oB l n b/\v= .bool b
theorem uM.bJ(args:List AV)(v v':AV)(h:uM args v)(h':uM args v'):v=v':=by
 obtain⟨l,n,b,rfl,_,_,⟨c1,c2,p,a1,a2,a3⟩,rfl⟩:=h;obtain⟨l',n',b',h1,_,_,⟨c1',c2',p',b1,b2,b3⟩,rfl⟩:=h';simp only[TQ,AV.ab.injEq,AV.int.injEq,true_and,_root_.and_true] at h1;have e:l=l':=tV _ _<|uu (mg _) (mg _) h1.1.1;obtain rfl:=e;obtain rfl:=h1.2;rw[a1] at b1;injection b1 with b1;injection b1 with _ q1 q2 _
 injection q1 with _ q1;injection q2 with _ q2
 rw[a2] at b2;injection b2 with b2
 rw[a3,b3,q1,q2,b2]
def CS:FuncId×KE:=(23,.val<|aK uM)
theorem WW(hP:bY pg){L:bV}(h:aY L):aY<|CS::L:=by
 have h0:aY [l9,jS 60,jU 60,lV 60 60]:=ahM hP<|amm hP 60<|am6 hP 60<|afW hP 60 60 dj;refine gu hP h (BQ hP akU h0 60 h0) Tryd.func23 fun args v e=>?_;obtain⟨l,n,b,rfl,hd,hc,⟨c1,c2,p,e1,e2,hb⟩,rfl⟩:=fQ e;refine⟨aI.1 aV,fun B mc=>?_⟩;rw[←gX];have hi:[AV.ab (nm<|bC l) 0 l.length].all AV.hi=true:=by rw[TS,uA];rfl
 have hD:=eV (eQ uz.bJ ⟨l,rfl,hd,by omega,rfl⟩:aK (uz 60) [.ab (nm<|bC l) 0 l.length]=_) hi rfl;have hC:=eV (eQ uK.bJ ⟨l,rfl,hc,rfl⟩:aK (uK 60) [.ab (nm<|bC l) 0 l.length]=_) hi rfl;have hN:=eV (eQ CR.bJ ⟨l,_,rfl,e1,rfl⟩:aK (CR 60 60) [.ab (nm<|bC l) 0 l.length]=_) hi rfl;refine goM (rd:=gN) (k:=60) mc (cR _) hD hC hN (fun hq=>?_) fun hq=>?_
 ·rw[hb,decide_eq_false hq];rfl
 ·have ok:okB p.v1/\okB p.v2:=by rcases BF 60 l p e2 with rfl|rfl<;>exact⟨xG _,okF _⟩
  refine rgM (rd:=gN) (k:=60) (p:=p) mc (ai4 (c1:=c1) (c2:=c2) rfl rfl (xG _) (okF _) e2 ok) ?_;rw[hb,decide_eq_true hq];rcases BF 60 l p e2 with rfl|rfl
  ·exact akT mc
  ·exact akR mc
end uL
namespace fD
variable {α:Type} {aP j K:Nat} {enc:α->List AV} {cap:cx}
theorem IP(enc:α->List AV)(l L:List α){ln n o len:Nat}{X:Prop}(hf:top<=n/\cZ FU n o (len*K)=some (L.map enc).flatten/\len=L.length)(h1:∀x,(enc x).length=K/\(enc x).all AV.bM=true)(h2:2*(l.length+L.length)*ln+4096*ln<=room)(h3:(l.length+L.length)*K<=Rn.top)(x:X):
 l.length=l.length/\some (az enc l)=some (az enc l)/\top<=n/\cZ FU n o (len*K)=some (L.map enc).flatten/\len=L.length/\(∀x,(enc x).length=K/\(enc x).all AV.bM=true)/\2*(l.length+L.length)*ln+4096*ln<=room/\(l.length+L.length)*K<=Rn.top/\X:=
 ⟨rfl,rfl,hf.1,hf.2.1,hf.2.2,h1,h2,h3,x⟩
def CT(aP k:Nat):Nat:=if k<270\/top<=k then k else max k aP
theorem JT{k:Nat}(h:top<=k):CT aP k=k:=if_pos<|.inr h
theorem KS(he:kA K enc)(l:List α){n:Nat}(hc:(match cap with| .known c=>Tw l.length c| .au _ _=>true| .lost=>false)=true)(hl:l.length*K<=top)(hj:j<top)(hn:n<top)(hs:aP<top):fy FU 270 aP [(j,.slice (some (n,0)) l.length cap)] [(n,some<|az enc l)] [(j,ar enc l)] [] 270:=by
 refine⟨[(n,nm (l.map enc).flatten,(l.map enc).flatten)],CT aP,fun k hk=>if_pos<|.inl hk,fun k h1 h2=>?_,fun k hk=>JT hk,by unfold top;decide,fun p hp=>?_,fun p hp=>mz,fun p hp=>mz,fun p hp=>?_,fun p _ q hq=>(by cases hq)⟩
 ·unfold CT;rw[if_neg ae];omega
 ·rw[TC] at hp;subst hp;exact⟨hj,_,TC.2 rfl,BZ (TC.2 rfl) (fun k hk=>JT hk) hc⟩
 ·rw[TC] at hp;subst hp;exact Ei he hl n hn<|TC.2 rfl
theorem Qc(hj:j<top)(hs:aP<top):fy FU 270 aP [(j,.slice none 0<|.known 0)] [] [(j,ar enc [])] [] 270:=by
 refine⟨[],CT aP,fun k hk=>if_pos<|.inl hk,fun k h1 h2=>?_,fun k hk=>JT hk,by unfold top;decide,fun p hp=>?_,fun p hp=>mz,fun p hp=>mz,fun p hp=>mz,fun p hp=>mz⟩
 ·unfold CT;rw[if_neg ae];omega
 ·rw[TC] at hp;subst hp;exact⟨hj,_,TC.2 rfl,B0⟩
theorem am9{n:Nat}(hj:j<top)(hs:aP<top):fy FU 270 aP [(j,.slice (some (n,0)) 0 cap)] [] [(j,ar enc [])] [] 270:=by
 refine⟨[],CT aP,fun k hk=>if_pos<|.inl hk,fun k h1 h2=>?_,fun k hk=>JT hk,by unfold top;decide,fun p hp=>?_,fun p hp=>mz,fun p hp=>mz,fun p hp=>mz,fun p hp=>mz⟩
 ·unfold CT;rw[if_neg ae];omega
 ·rw[TC] at hp;subst hp;exact⟨hj,_,TC.2 rfl,ada⟩
end fD
namespace sR
open cj cC fD
variable {B:aE} {o N:Nat} {L:bV}
theorem xI(v:AV):v=v:=rfl
theorem amr(x:Ex):(aH x).all AV.bM=true:=by cases x;rw[aH];rfl
theorem ai8:(([(2,(.slice none 0<|.known 0))]:List<|Nat×AV).map (fun q=>some q.2)=([(2,(.slice none 0<|.known 0))]:List<|Nat×AV).map (fun q=>some q.2))/\(([]:List<|Nat×Option ah).map (fun q=>q.2)=([]:List<|Nat×Option ah).map (fun q=>q.2))/\fy FU 270 270 [(2,(.slice none 0<|.known 0))] [] [(2,ar encI ([]:List Int))] [] 270/\((⟨13,aA [(2,ar encI ([]:List Int))],max Tryd.f13.ntmps 1,[.code<|aL pg 13 [1,0,1,0,1],.code<|aL pg 13 [1,1]],[],none⟩:AF)=⟨13,aA [(2,ar encI ([]:List Int))],max Tryd.f13.ntmps 1,[.code<|aL pg 13 [1,0,1,0,1],.code<|aL pg 13 [1,1]],[],none⟩/\aj [] 270=aj [] 270):=⟨rfl,rfl,(Qc (enc:=encI) (j:=2) (aP:=270) dV dV),rfl,rfl⟩
theorem ai9(mc:Mt [] B):av pg B 270 (Fin pg (aC Tryd.f13) fun y _=>y=(ar encI ([]:List Int))) ⟨13,aA [(2,ar encI ([]:List Int))],max Tryd.f13.ntmps 1,[.code<|aL pg 13 [1,0,1,0,1],.code<|aL pg 13 [1,1]],[],none⟩<|aj [] 270:=wS mc (.rt 1 .no)<|xI<|ar encI ([]:List Int)
theorem go_In(mc:Mt [] B):av pg B 270 (Fin pg (aC Tryd.f13) fun y _=>y=(ar encI ([]:List Int))) (sF 13 Tryd.f13 [(.ab top 0 0)])<|aj aq 270:=wC mc (C:=(fun fr s1 _=>fr=⟨13,aA [(2,ar encI ([]:List Int))],max Tryd.f13.ntmps 1,[.code<|aL pg 13 [1,0,1,0,1],.code<|aL pg 13 [1,1]],[],none⟩/\s1=aj [] 270)) (fun fr s1 p hC=>by obtain⟨rfl,rfl⟩:=hC;exact ai9 mc) (.st 8<|.rn [(2,(.slice none 0<|.known 0))] [] [(2,ar encI ([]:List Int))] [] 270 270 .no)<|ai8
theorem ajb:(([(2,(.slice (some (271,0)) (0)<|.au 0 1))]:List<|Nat×AV).map (fun q=>some q.2)=([(2,(.slice (some (271,0)) (0)<|.au 0 1))]:List<|Nat×AV).map (fun q=>some q.2))/\(([]:List<|Nat×Option ah).map (fun q=>q.2)=([]:List<|Nat×Option ah).map (fun q=>q.2))/\fy FU 270 272 [(2,(.slice (some (271,0)) (0)<|.au 0 1))] [] [(2,ar encI ([]:List Int))] [] 270/\((⟨13,aA [(2,ar encI ([]:List Int))],max Tryd.f13.ntmps 1,(dh 13 [1,1,1]),[],none⟩:AF)=⟨13,aA [(2,ar encI ([]:List Int))],max Tryd.f13.ntmps 1,(dh 13 [1,1,1]),[],none⟩/\aj [] 270=aj [] 270):=⟨rfl,rfl,(am9 (enc:=encI) (j:=2) (aP:=272) dV dV),rfl,rfl⟩
theorem ajc(mc:Mt [] B):av pg B 270 (Fin pg (aC Tryd.f13) fun y _=>y=(ar encI ([]:List Int))) ⟨13,aA [(2,ar encI ([]:List Int))],max Tryd.f13.ntmps 1,(dh 13 [1,1,1]),[],none⟩<|aj [] 270:=wS mc (.rt 1 .no)<|xI<|ar encI ([]:List Int)
theorem go_Ie(mc:Mt [] B):av pg B 270 (Fin pg (aC Tryd.f13) fun y _=>y=(ar encI ([]:List Int))) (sF 13 Tryd.f13 [(.ab (top+1) 0 0)])<|aj aq 270:=wC mc (C:=(fun fr s1 _=>fr=⟨13,aA [(2,ar encI ([]:List Int))],max Tryd.f13.ntmps 1,(dh 13 [1,1,1]),[],none⟩/\s1=aj [] 270)) (fun fr s1 p hC=>by obtain⟨rfl,rfl⟩:=hC;exact ajc mc) (.st 9<|.rn [(2,(.slice (some (271,0)) (0)<|.au 0 1))] [] [(2,ar encI ([]:List Int))] [] 272 270 .no)<|ajb
abbrev KT(l:List Int):List<|Nat×AV:=[(2,(.slice (some (271,0)) (([]++l).length)<|.au ([]++l).length 1))]
theorem aje(l:List Int)(hlen:l.length<=100000):(((KT l):List<|Nat×AV).map (fun q=>some q.2)=((KT l):List<|Nat×AV).map (fun q=>some q.2))/\(([(271,some<|az encI<|[]++l)]:List<|Nat×Option ah).map (fun q=>q.2)=([(271,some<|az encI<|[]++l)]:List<|Nat×Option ah).map (fun q=>q.2))/\fy FU 270 272 (KT l) [(271,some<|az encI<|[]++l)] [(2,ar encI<|[]++l)] [] 270/\((⟨13,aA [(2,ar encI<|[]++l)],max Tryd.f13.ntmps 1,(dh 13 [1,1,1]),[],none⟩:AF)=⟨13,aA [(2,ar encI<|[]++l)],max Tryd.f13.ntmps 1,(dh 13 [1,1,1]),[],none⟩/\aj [] 270=aj [] 270):=⟨rfl,rfl,(KS (j:=2) (aP:=272) eI ([]++l) rfl (by rw[UB];unfold top;omega) dV dV dV),rfl,rfl⟩
theorem ajf(mc:Mt [] B)(l:List Int):av pg B 270 (Fin pg (aC Tryd.f13) fun y _=>y=(ar encI<|[]++l)) ⟨13,aA [(2,ar encI<|[]++l)],max Tryd.f13.ntmps 1,(dh 13 [1,1,1]),[],none⟩<|aj [] 270:=wS mc (.rt 1 .no)<|xI<|ar encI<|[]++l
theorem go_Im(mc:Mt [] B){l:List Int}{m:Nat}(hlen:l.length<=100000)(hf:top<=N/\cZ FU N o ((m+1)*1)=some (l.map encI).flatten/\m+1=l.length):av pg B 270 (Fin pg (aC Tryd.f13) fun y _=>y=(ar encI<|[]++l)) (sF 13 Tryd.f13 [(.ab N o<|m+1)])<|aj aq 270:=wC mc (C:=(fun fr s1 _=>fr=⟨13,aA [(2,ar encI<|[]++l)],max Tryd.f13.ntmps 1,(dh 13 [1,1,1]),[],none⟩/\s1=aj [] 270)) (fun fr s1 p hC=>by obtain⟨rfl,rfl⟩:=hC;exact ajf mc l) (.st 8<|.rg<|.go 2<|.al Int encI [] l<|.go 1<|.en<|.rn (KT l) [(271,some<|az encI<|[]++l)] [(2,ar encI<|[]++l)] [] 272 270 .no)<|IP encI [] l (K:=1) (ln:=8) hf (fun x=>⟨rfl,rfl⟩) Rw Rx<|aje l hlen
def yA(args:List AV)(v:AV):Prop:=∃(N o:Nat) (l:List Int),args=[.ab N o l.length]/\dP encI 1 (.ab N o l.length) l/\l.length<=100000/\v=ar encI l
theorem yA.bJ(args:List AV)(v v':AV)(h:yA args v)(h':yA args v'):v=v':=by
 obtain⟨N,o,l,rfl,hl,_,rfl⟩:=h;obtain⟨N',o',l',h1,kQ,_,rfl⟩:=h';injection h1 with h1 _
 rw[h1] at hl;rw[hl.inj sa kQ]
def zZ:FuncId×KE:=(13,.val<|aK yA)
theorem ajm(hP:bY pg)(h:aY L):aY<|zZ::L:=by
 refine gu hP h dj Tryd.func13 fun args v e=>?_;obtain⟨N,o,l,rfl,hl,hlen,rfl⟩:=fQ e;refine⟨aI.1 aV,fun B mc=>?_⟩;rw[←gX];cases l with
 |nil=>
  refine av.Kd (i:=0) (n:=N) (o:=o) cf hl.len.2.1 (aI.1 aV) ?_ ?_
  ·exact go_In mc
  ·exact go_Ie mc
 |cons a l=>
  have hf:cZ FU N o ((l.length+1)*1)=some ((a::l).map encI).flatten:=by
   rcases GS eI.len hl with q|q
   ·exact q
   ·cases q
  have key:=go_Im (l:=a::l) (N:=N) (o:=o) (m:=l.length) mc hlen ⟨hl.len.2.1,hf,rfl⟩;exact key
theorem ajh:(([(2,(.slice none 0<|.known 0))]:List<|Nat×AV).map (fun q=>some q.2)=([(2,(.slice none 0<|.known 0))]:List<|Nat×AV).map (fun q=>some q.2))/\(([]:List<|Nat×Option ah).map (fun q=>q.2)=([]:List<|Nat×Option ah).map (fun q=>q.2))/\fy FU 270 270 [(2,(.slice none 0<|.known 0))] [] [(2,ar aH ([]:List Ex))] [] 270/\((⟨70,aA [(2,ar aH ([]:List Ex))],max Tryd.f70.ntmps 1,[.code<|aL pg 70 [1,0,1,0,1],.code<|aL pg 70 [1,1]],[],none⟩:AF)=⟨70,aA [(2,ar aH ([]:List Ex))],max Tryd.f70.ntmps 1,[.code<|aL pg 70 [1,0,1,0,1],.code<|aL pg 70 [1,1]],[],none⟩/\aj [] 270=aj [] 270):=⟨rfl,rfl,(Qc (enc:=aH) (j:=2) (aP:=270) dV dV),rfl,rfl⟩
theorem aji(mc:Mt [] B):av pg B 270 (Fin pg (aC Tryd.f70) fun y _=>y=(ar aH ([]:List Ex))) ⟨70,aA [(2,ar aH ([]:List Ex))],max Tryd.f70.ntmps 1,[.code<|aL pg 70 [1,0,1,0,1],.code<|aL pg 70 [1,1]],[],none⟩<|aj [] 270:=wS mc (.rt 1 .no)<|xI<|ar aH ([]:List Ex)
theorem go_En(mc:Mt [] B):av pg B 270 (Fin pg (aC Tryd.f70) fun y _=>y=(ar aH ([]:List Ex))) (sF 70 Tryd.f70 [(.ab top 0 0)])<|aj aq 270:=wC mc (C:=(fun fr s1 _=>fr=⟨70,aA [(2,ar aH ([]:List Ex))],max Tryd.f70.ntmps 1,[.code<|aL pg 70 [1,0,1,0,1],.code<|aL pg 70 [1,1]],[],none⟩/\s1=aj [] 270)) (fun fr s1 p hC=>by obtain⟨rfl,rfl⟩:=hC;exact aji mc) (.st 8<|.rn [(2,(.slice none 0<|.known 0))] [] [(2,ar aH ([]:List Ex))] [] 270 270 .no)<|ajh
theorem ajk:(([(2,(.slice (some (271,0)) (0)<|.au 0 3))]:List<|Nat×AV).map (fun q=>some q.2)=([(2,(.slice (some (271,0)) (0)<|.au 0 3))]:List<|Nat×AV).map (fun q=>some q.2))/\(([]:List<|Nat×Option ah).map (fun q=>q.2)=([]:List<|Nat×Option ah).map (fun q=>q.2))/\fy FU 270 272 [(2,(.slice (some (271,0)) (0)<|.au 0 3))] [] [(2,ar aH ([]:List Ex))] [] 270/\((⟨70,aA [(2,ar aH ([]:List Ex))],max Tryd.f70.ntmps 1,(dh 70 [1,1,1]),[],none⟩:AF)=⟨70,aA [(2,ar aH ([]:List Ex))],max Tryd.f70.ntmps 1,(dh 70 [1,1,1]),[],none⟩/\aj [] 270=aj [] 270):=⟨rfl,rfl,(am9 (enc:=aH) (j:=2) (aP:=272) dV dV),rfl,rfl⟩
theorem ajl(mc:Mt [] B):av pg B 270 (Fin pg (aC Tryd.f70) fun y _=>y=(ar aH ([]:List Ex))) ⟨70,aA [(2,ar aH ([]:List Ex))],max Tryd.f70.ntmps 1,(dh 70 [1,1,1]),[],none⟩<|aj [] 270:=wS mc (.rt 1 .no)<|xI<|ar aH ([]:List Ex)
theorem go_Ee(mc:Mt [] B):av pg B 270 (Fin pg (aC Tryd.f70) fun y _=>y=(ar aH ([]:List Ex))) (sF 70 Tryd.f70 [(.ab (top+1) 0 0)])<|aj aq 270:=wC mc (C:=(fun fr s1 _=>fr=⟨70,aA [(2,ar aH ([]:List Ex))],max Tryd.f70.ntmps 1,(dh 70 [1,1,1]),[],none⟩/\s1=aj [] 270)) (fun fr s1 p hC=>by obtain⟨rfl,rfl⟩:=hC;exact ajl mc) (.st 9<|.rn [(2,(.slice (some (271,0)) (0)<|.au 0 3))] [] [(2,ar aH ([]:List Ex))] [] 272 270 .no)<|ajk
abbrev KU(l:List Ex):List<|Nat×AV:=[(2,(.slice (some (271,0)) (([]++l).length)<|.au ([]++l).length 3))]
theorem ajn(l:List Ex)(hlen:l.length<=100000):(((KU l):List<|Nat×AV).map (fun q=>some q.2)=((KU l):List<|Nat×AV).map (fun q=>some q.2))/\(([(271,some<|az aH<|[]++l)]:List<|Nat×Option ah).map (fun q=>q.2)=([(271,some<|az aH<|[]++l)]:List<|Nat×Option ah).map (fun q=>q.2))/\fy FU 270 272 (KU l) [(271,some<|az aH<|[]++l)] [(2,ar aH<|[]++l)] [] 270/\((⟨70,aA [(2,ar aH<|[]++l)],max Tryd.f70.ntmps 1,(dh 70 [1,1,1]),[],none⟩:AF)=⟨70,aA [(2,ar aH<|[]++l)],max Tryd.f70.ntmps 1,(dh 70 [1,1,1]),[],none⟩/\aj [] 270=aj [] 270):=⟨rfl,rfl,(KS (j:=2) (aP:=272) lp ([]++l) rfl (by rw[UB];unfold top;omega) dV dV dV),rfl,rfl⟩
theorem ajo(mc:Mt [] B)(l:List Ex):av pg B 270 (Fin pg (aC Tryd.f70) fun y _=>y=(ar aH<|[]++l)) ⟨70,aA [(2,ar aH<|[]++l)],max Tryd.f70.ntmps 1,(dh 70 [1,1,1]),[],none⟩<|aj [] 270:=wS mc (.rt 1 .no)<|xI<|ar aH<|[]++l
theorem go_Em(mc:Mt [] B){l:List Ex}{m:Nat}(hlen:l.length<=100000)(hf:top<=N/\cZ FU N o ((m+1)*3)=some (l.map aH).flatten/\m+1=l.length):av pg B 270 (Fin pg (aC Tryd.f70) fun y _=>y=(ar aH<|[]++l)) (sF 70 Tryd.f70 [(.ab N o<|m+1)])<|aj aq 270:=wC mc (C:=(fun fr s1 _=>fr=⟨70,aA [(2,ar aH<|[]++l)],max Tryd.f70.ntmps 1,(dh 70 [1,1,1]),[],none⟩/\s1=aj [] 270)) (fun fr s1 p hC=>by obtain⟨rfl,rfl⟩:=hC;exact ajo mc l) (.st 8<|.rg<|.go 2<|.al Ex aH [] l<|.go 1<|.en<|.rn (KU l) [(271,some<|az aH<|[]++l)] [(2,ar aH<|[]++l)] [] 272 270 .no)<|IP aH [] l (K:=3) (ln:=40) hf (fun x=>⟨lp.len x,amr x⟩) Rw Rx<|ajn l hlen
def Ch(args:List AV)(v:AV):Prop:=∃(N o:Nat) (l:List Ex),args=[.ab N o l.length]/\dP aH 3 (.ab N o l.length) l/\l.length<=100000/\v=ar aH l
theorem Ch.bJ(args:List AV)(v v':AV)(h:Ch args v)(h':Ch args v'):v=v':=by
 obtain⟨N,o,l,rfl,hl,_,rfl⟩:=h;obtain⟨N',o',l',h1,kQ,_,rfl⟩:=h';injection h1 with h1 _
 rw[h1] at hl;rw[hl.inj oe kQ]
def WX:FuncId×KE:=(70,.val<|aK Ch)
theorem acB(hP:bY pg)(h:aY L):aY<|WX::L:=by
 refine gu hP h dj Tryd.func70 fun args v e=>?_;obtain⟨N,o,l,rfl,hl,hlen,rfl⟩:=fQ e;refine⟨aI.1 aV,fun B mc=>?_⟩;rw[←gX];cases l with
 |nil=>
  refine av.Kd (i:=0) (n:=N) (o:=o) cf hl.len.2.1 (aI.1 aV) ?_ ?_
  ·exact go_En mc
  ·exact go_Ee mc
 |cons a l=>
  have hf:cZ FU N o ((l.length+1)*3)=some ((a::l).map aH).flatten:=by
   rcases GS lp.len hl with q|q
   ·exact q
   ·cases q
  have key:=go_Em (l:=a::l) (N:=N) (o:=o) (m:=l.length) mc hlen ⟨hl.len.2.1,hf,rfl⟩;exact key
end sR
namespace H8
open cj cC fD sR
variable {k N:Nat} {ch n0:Int} {l1:List Ex} {B:aE}
theorem ahN{α:Type}{K:Nat}{enc:α->List AV}(he:kA K enc)(l:List α){b n j aP:Nat}(pre post:List AV){cap:cx}(hl:l.length*K<=top)(hb:270<=b)(II:b+1<=n)(hj:j<top)(hn:n<top)(hs:aP<top)(e1:∀r:Nat->Nat,(∀k,top<=k->r k=k)->po r pre pre)(e2:∀r:Nat->Nat,(∀k,top<=k->r k=k)->po r post post)(h1:(pre++ar enc l::post).all AV.bM=true)(h2:(pre++ar enc l::post).length<=top)(hc:(match cap with| .known c=>Tw l.length c| .au _ _=>true| .lost=>false)=true):
 fy FU 270 aP [(j,.ptr<|some (b,0))] [(b,some<|.cells (pre++ .slice (some (n,0)) l.length cap::post).length (Tr.fill (pre++ .slice (some (n,0)) l.length cap::post) 0 .nil) []),(n,some<|az enc l)] [(j,.ptr<|some (b,0))] [(b,some<|.cells (pre++ar enc l::post).length (Tr.fill (pre++ar enc l::post) 0 .nil) [])] (b+1):=by
 let r:Nat->Nat:=fun k=>if k<b+1\/top<=k then k else max k aP
 have rt:∀k,top<=k->r k=k:=fun k hk=>if_pos<|.inr hk;have rb:r b=b:=if_pos<|.inl ae;have app:∀(fz:jl) (p q p' q':List AV),lz fz r p p'->lz fz r q q'->lz fz r (p++q) (p'++q'):=by
  intro fz p;induction p with
  |nil=>intro q p' q' h1 h2;cases p' with
   |nil=>exact h2
   |cons _ _=>cases h1
  |cons a p ih=>intro q p' q' h1 h2;cases p' with
   |nil=>cases h1
   |cons a' p'=>exact⟨h1.1,ih q p' q' h1.2 h2⟩
 have toZ:∀(fz:jl) (p:List AV),po r p p->lz fz r p p:=by
  intro fz p;induction p with
  |nil=>intro _;trivial
  |cons a p ih=>intro h;exact⟨h.1.z,ih h.2⟩
 refine⟨[(n,nm (l.map enc).flatten,(l.map enc).flatten)],r,fun k hk=>if_pos<|.inl ae,fun k h1 h2=>?_,rt,by omega,fun p hp=>?_,fun p hp=>?_,fun p hp q hq _ _ _=>?_,fun p hp=>?_,fun p hp q hq _=>?_⟩
 ·show aP<=(if _ then _ else _)/\(if _ then _ else _)<top;rw[if_neg ae];omega
 ·rw[TC] at hp;subst hp;exact⟨hj,_,TC.2 rfl,(aZ.ptr rb).z⟩
 ·rw[TC] at hp;subst hp;refine⟨by show b<top;omega,fun y hy=>?_⟩;cases hy;refine⟨by rw[rb];omega,rfl,_,by rw[rb];exact TA,⟨fun _=>rfl,(fun e=>by cases e),fun e=>by cases e⟩,?_⟩;refine dT.cells (by simp only[TM,TL] at h2 ⊢;exact h2) (app _ _ _ _ _ (toZ _ _<|e1 r rt) ⟨BZ (TC.2 rfl) rt hc,toZ _ _<|e2 r rt⟩) h1
 ·rw[TC] at hp hq;subst hp;subst hq;rfl
 ·rw[TC] at hp;subst hp;exact Ei he hl n hn<|TB _ TA
 ·rw[TC] at hp hq;subst hp;subst hq;show r b≠n;rw[rb];omega
def pP:Nat->Ex->Bool
 |0,_=>false
 |k+1,.mk op n args=>fh (k+1) (.mk op n args)||args.isEmpty
def sq(k:Nat)(args:List AV)(v:AV):Prop:=∃e:Ex,args=[.agg<|aH e]/\pP k e=true/\v= .agg (aH e)
theorem sq.bJ(args:List AV)(v v':AV)(h:sq k args v)(h':sq k args v'):v=v':=by obtain⟨e,rfl,_,rfl⟩:=h;obtain⟨e',h1,_,rfl⟩:=h';injection h1 with h1 _
def sr(k:Nat):FuncId×KE:=(49,.val<|aK<|sq k)
theorem ajq{op n:Int}(mc:Mt [WX,sr k] B)(pI:bc (aK Ch) [.ab N 0 0]=some (.ab N 0 0)):av pg B 270 (Fin pg (aC Tryd.f49) fun y _=>y=(.agg [(u8<|op),(i6 n),(.ab N 0 0)])) (sF 49 Tryd.f49 [(.agg [(u8<|op),(i6 n),(.ab N 0 0)])])<|aj aq 270:=wS mc (.st 3<|.rg<|.go 2<|.kn (.ab N 0 0)<|.go 2<|.en<|.rt 13 .no)<|ai pI<|xI<|.agg [(u8<|op),(i6 n),(.ab N 0 0)]
abbrev EB(op n ch n0:Int)(l0:List Ex)(cP n1:Int)(l1:List Ex):List<|Nat×Option ah:=[(271,some<|.cells 3 (Tr.fill [.int .u8 op,.int .i64 n,ar aH [Ex.mk ch n0 l0,Ex.mk cP n1 l1]] 0 .nil) [])]
abbrev KV(op n ch n0:Int)(l0:List Ex)(cP n1:Int)(l1:List Ex):List<|Nat×Option ah:=[(271,some<|.cells 3 (Tr.fill [(u8<|op),(i6 n),(.slice (some (273,0)) (2)<|.au 2 3)] 0 .nil) []),(273,some<|az aH [Ex.mk ch n0 l0,Ex.mk cP n1 l1])]
theorem ajr{op n cP n1:Int}{l0:List Ex}:(([(2,(.ptr<|some (271,0)))]:List<|Nat×AV).map (fun q=>some q.2)=([(2,(.ptr<|some (271,0)))]:List<|Nat×AV).map (fun q=>some q.2))/\(((KV op n ch n0 l0 cP n1 l1):List<|Nat×Option ah).map (fun q=>q.2)=((KV op n ch n0 l0 cP n1 l1):List<|Nat×Option ah).map (fun q=>q.2))/\fy FU 270 276 [(2,(.ptr<|some (271,0)))] (KV op n ch n0 l0 cP n1 l1) [(2,(.ptr<|some (271,0)))] (EB op n ch n0 l0 cP n1 l1) 272/\((⟨49,aA [(2,(.ptr<|some (271,0)))],max Tryd.f49.ntmps 1,(dh 49 [1,1,1,1]),[],none⟩:AF)=⟨49,aA [(2,(.ptr<|some (271,0)))],max Tryd.f49.ntmps 1,(dh 49 [1,1,1,1]),[],none⟩/\aj (EB op n ch n0 l0 cP n1 l1) 272=aj (EB op n ch n0 l0 cP n1 l1) 272):=⟨rfl,rfl,ahN lp (b:=271) (n:=273) (j:=2) (aP:=276) [Ex.mk ch n0 l0,Ex.mk cP n1 l1] [.int .u8 op,.int .i64 n] [] (by simp only[TL,Ub];unfold top;omega) ae ae dV dV dV (fun r _=>⟨aZ.int _ _,aZ.int _ _,trivial⟩) (fun r _=>trivial) rfl (by show 3<=top;unfold top;omega) rfl,rfl,rfl⟩
theorem ajs(mc:Mt [sr k] B){op n cP n1:Int}{l0:List Ex}:av pg B 270 (Fin pg (aC Tryd.f49) fun y _=>y=(.agg [.int .u8 op,.int .i64 n,ar aH [Ex.mk ch n0 l0,Ex.mk cP n1 l1]])) ⟨49,aA [(2,(.ptr<|some (271,0)))],max Tryd.f49.ntmps 1,(dh 49 [1,1,1,1]),[],none⟩<|aj (EB op n ch n0 l0 cP n1 l1) 272:=wS mc (.rt 1 .no)<|xI<|.agg [.int .u8 op,.int .i64 n,ar aH [Ex.mk ch n0 l0,Ex.mk cP n1 l1]]
theorem go_cp(mc:Mt [sr k] B){op n cP n1:Int}{l0:List Ex}(hn:top<=N)(hf:cZ FU N 0 (2*3)=some ([Ex.mk ch n0 l0,Ex.mk cP n1 l1].map aH).flatten)(jF:bc (aK<|sq k) [(.agg [(u8<|ch),(i6 n0),(.ab (nm<|dC l0) 0 l0.length)])]=some (.agg [(u8<|ch),(i6 n0),(.ab (nm<|dC l0) 0 l0.length)]))(j8:bc (aK<|sq k) [(.agg [(u8<|cP),(i6 n1),(.ab (nm<|dC l1) 0 l1.length)])]=some (.agg [(u8<|cP),(i6 n1),(.ab (nm<|dC l1) 0 l1.length)])):av pg B 270 (Fin pg (aC Tryd.f49) fun y _=>y=(.agg [.int .u8 op,.int .i64 n,ar aH [Ex.mk ch n0 l0,Ex.mk cP n1 l1]])) (sF 49 Tryd.f49 [(.agg [(u8<|op),(i6 n),(.ab N 0 2)])])<|aj aq 270:=wC mc (C:=(fun fr s1 _=>fr=⟨49,aA [(2,(.ptr<|some (271,0)))],max Tryd.f49.ntmps 1,(dh 49 [1,1,1,1]),[],none⟩/\s1=aj (EB op n ch n0 l0 cP n1 l1) 272)) (fun fr s1 p hC=>by obtain⟨rfl,rfl⟩:=hC;exact ajs mc) (.st 3<|.rg<|.go 2<|.il<|.st 8<|.rg<|.go 2<|.al Ex aH [] [Ex.mk ch n0 l0,Ex.mk cP n1 l1]<|.go 1<|.en<|.rt 1<|.go 2<|.en<|.st 14<|.rg<|.go 4<|.kn (.agg [(u8<|ch),(i6 n0),(.ab (nm<|dC l0) 0 l0.length)])<|.go 2<|.en<|.st 12<|.rg<|.go 4<|.kn (.agg [(u8<|cP),(i6 n1),(.ab (nm<|dC l1) 0 l1.length)])<|.go 2<|.en<|.st 10<|.rn [(2,(.ptr<|some (271,0)))] (KV op n ch n0 l0 cP n1 l1) [(2,(.ptr<|some (271,0)))] (EB op n ch n0 l0 cP n1 l1) 276 272 .no)<|IP aH [] [Ex.mk ch n0 l0,Ex.mk cP n1 l1] (K:=3) (ln:=40) ⟨hn,hf,rfl⟩ (fun x=>⟨lp.len x,amr x⟩) (by show 2*(0+2)*40+4096*40<=room;unfold room;omega) (by show(0+2)*3<=top;unfold top;omega)<|ai jF<|ai j8<|ajr (op:=op) (n:=n) (ch:=ch) (n0:=n0) (cP:=cP) (n1:=n1) (l0:=l0) (l1:=l1)
end H8
namespace LH
open cj cC dD sR yJ H8
variable {k:Nat} {e:Ex}
theorem Qd(h:fh k e=true):pP k e=true:=by
 cases k with
 |zero=>cases h
 |succ k=>obtain⟨op,n,l⟩:=e;show(fh (k+1) (.mk op n l)||l.isEmpty)=true;rw[h];rfl
theorem af6{op n:Int}{l:List Ex}(h:pP (k+1) (.mk op n l)=true):l=[]\/∃a b,l=[a,b]/\fh k a=true/\fh k b=true:=by
 have h:(fh (k+1) (.mk op n l)||l.isEmpty)=true:=h;rw[U0] at h;rcases h with h|h
 ·exact amn h
 ·exact .inl<|VV.1 h
theorem En(hw:pP k e=true):bc (aK<|sq k) [.agg<|aH e]=some (.agg<|aH e):=eV (eQ sq.bJ ⟨e,rfl,hw,rfl⟩) sL<|Cu e
theorem PM(l:List Ex):AV.ab (nm<|dC l) 0 l.length=ar aH l:=by rw[DY];rfl
theorem ado{l:List Ex}(h:l.length<=100000):bc (aK Ch) [.ab (nm<|dC l) 0 l.length]=some (ar aH l):=by rw[PM];exact eV (eQ Ch.bJ ⟨_,0,l,rfl,dP.ar lp l,h,rfl⟩) (by rw[TS,show AV.hi (ar aH l)=true from aI.2<|cR _];rfl)<|aI.2<|cR _
theorem O2(hP:bY pg):∀(k:Nat) {L:bV},aY L->aY (sr k::L)
 |0,L,h=>by refine gu hP h dj Tryd.func49 fun args v e=>?_;obtain⟨_,_,hw,_⟩:=fQ e;cases hw
 |k+1,L,h=>by
  refine aeD hP gW qR jT jb h Tryd.func49 (body:=aL pg 49 []) aV aV fun args v e=>?_;obtain⟨⟨op,n,l⟩,rfl,hw,rfl⟩:=fQ e;refine⟨aI.1 aV,?_⟩;rcases af6 hw with rfl|⟨a,b,rfl,w0,w1⟩
  ·refine⟨_,acB hP<|O2 hP k dj,fun B mc=>?_⟩;rw[←gX,aH];exact ajq mc (by have:=ado (l:=[]) (by show(0:Nat)<=100000;omega);rw[←PM] at this;exact this)
  ·refine⟨_,O2 hP k dj,fun B mc=>?_⟩;obtain⟨ch,n0,l0⟩:=a;obtain⟨cP,n1,l1⟩:=b;rw[←gX,aH];have c0:=En<|Qd w0;have c1:=En<|Qd w1;rw[aH] at c0 c1;have hf:cZ FU (nm<|dC [Ex.mk ch n0 l0,.mk cP n1 l1]) 0 (2*3)=some ([Ex.mk ch n0 l0,.mk cP n1 l1].map aH).flatten:=by
    rcases GS (K:=3) lp.len (dP.ar lp [Ex.mk ch n0 l0,.mk cP n1 l1]) with q|q
    ·rw[DY];exact q
    ·cases q
   have key:=go_cp (op:=op) (n:=n) mc (cR _) hf c0 c1;rw[←PM] at key;exact key
end LH
namespace gw
open cj cC gi cY fD sR sk H8
variable {k N L K:Nat} {B:aE} {to ob oa nb na kd i:Int} {lb la:List Ex} {el bd W:List St} {v x:AV} {α:Type} {r:Nat->Nat} {enc:α->List AV}
theorem O3:∀p∈aq,∀y,p.2=some y->y.iA=true:=by
 have h:(aq.all fun p=>Ky p.2)=true:=by kernel_rfl
 intro p hp y hy;have:=TG.1 h p hp;rw[hy] at this;exact this
def ow:Nat->List St->Bool
 |0,_=>false
 |k+1,l=>decide (l.length<=10000)&&l.all fun s=>pP 6 (cw s)&&(pP 6 (iP s)&&(ow k (bN s)&&ow k (bK s)))
theorem adp(x:St):(aM x).all AV.bM=true:=TG.2 fun y hy=>Jv<|TG.1 (lq.eR x) y hy
theorem Qe(hr:∀k,top<=k->r k=k)(h:x.hi=true):aZ r x x:=fun ρ v hv=>AV.ou (fun k y hk e=>by rw[hr k hk];exact e) h hv
theorem adq(h:x.eR=true):x.hi=true:=by have:=Ea h;cases x<;>first|exact this|cases h
theorem Ke(he:kA K enc)(l:List α)(hl:l.length*K<=top){fz:jl}(hr:∀k,top<=k->r k=k):dT fz r (az enc l)<|az enc l:=by
 have hz:∀(m:List AV),m.all AV.eR=true->lz fz r m m:=by
  intro m;induction m with
  |nil=>intro _;trivial
  |cons a m ih=>intro h;rw[TS,TW] at h;exact⟨(Qe hr<|adq h.1).z,ih h.2⟩
 exact dT.cells (by rw[he.length];exact hl) (hz _<|he.all l)<|TG.2 fun y hy=>Jv<|TG.1 (he.all l) y hy
theorem Yw(he:kA K enc)(W:List α){n aP:Nat}{l0 l:List<|Nat×AV}(hl:W.length*K<=top)(hn:270<=n)(jt:n<top)(hs:aP<top)(h:∀r:Nat->Nat,r 270=n->(∀k,top<=k->r k=k)->∀p∈l,p.1<top/\∃x,(p.1,x)∈l0/\gE [] r x p.2):
 fy FU 270 aP l0 (aq++[(n,some<|az enc W)]) l (aq++[(270,some<|az enc W)]) 271:=by
 let r:Nat->Nat:=fun k=>if k=270 then n else if k<270\/top<=k then k else max k aP
 have r0:r 270=n:=if_pos rfl;have rl:∀k,k<270->r k=k:=fun k hk=>by show(if _ then _ else _)=_;rw[if_neg ae,if_pos<|.inl hk]
 have t0:270<top:=by unfold top;omega
 have rt:∀k,top<=k->r k=k:=fun k hk=>by show(if _ then _ else _)=_;rw[if_neg ae,if_pos<|.inr hk]
 have xJ:∀p∈aq,p.1<270:=fun p hp=>by obtain⟨k,hk,e⟩:=TI.1 hp;rw[←e];exact jb k hk
 refine⟨[],r,rl,fun k h1 h2=>?_,rt,by unfold top;omega,h r r0 rt,fun p hp=>?_,fun p hp q hq _ _ e=>?_,fun p hp=>mz,fun p hp=>mz⟩
 ·show aP<=(if _ then _ else _)/\(if _ then _ else _)<top;rw[if_neg ae,if_neg ae];omega
 ·rcases TP.1 hp with hp|hp
  ·have ct:=xJ p hp;refine⟨by omega,fun y hy=>?_⟩;rw[rl _ ct];refine⟨by omega,?_,y,?_,fc.refl _,(D9 (nx:=270) rl cf p hp y hy).z⟩
   ·exact O3 p hp y hy
   ·refine T7 _ ?_;rw[←hy];exact hp
  ·rw[TC] at hp;subst hp;refine⟨t0,fun y hy=>?_⟩;cases hy;refine⟨by rw[r0];exact jt,rfl,_,by rw[r0];exact TU _<|TC.2 rfl,fc.refl _,Ke he W hl rt⟩
 ·have nm:∀p∈aq++[(270,some<|az enc W)],p.1<270\/p.1=270:=fun p hp=>by
   rcases TP.1 hp with hp|hp
   ·exact .inl<|xJ p hp
   ·rw[TC] at hp;subst hp;exact .inr rfl
  rcases nm p hp with a|a<;>rcases nm q hq with b|b
  ·rw[rl _ a,rl _ b] at e;exact e
  ·rw[b,r0,rl _ a] at e;omega
  ·rw[a,r0,rl _ b] at e;omega
  ·rw[a,b]
def qS(k:Nat)(args:List AV)(v:AV):Prop:=∃l:List St,args=[.ab (nm<|bC l) 0 l.length]/\ow k l=true/\v= .ab (nm<|bC l) 0 l.length
theorem qS.bJ(args:List AV)(v v':AV)(h:qS k args v)(h':qS k args v'):v=v':=by obtain⟨l,rfl,_,rfl⟩:=h;obtain⟨l',h1,_,rfl⟩:=h';injection h1 with h1 _
def qT(k:Nat):FuncId×KE:=(26,.val<|aK<|qS k)
def Mp(N L:Nat):List<|Nat×AV:=[(3,(.slice none 0<|.known 0)),(6,(.ab N 0 L)),(7,(i6<|(L:Int))),(8,i0)]
def Fy(N L:Nat):AF:=⟨26,aA<|Mp N L,max Tryd.f26.ntmps 1,[.code<|aL pg 26 [1,1,0,1,0,0],.inLoop<|aL pg 26 [1,1,0,1,0,0],.inBlock 0,.code<|aL pg 26 [1,1,1]],[],none⟩
def CU(N L:Nat)(W:List St)(i:Int):List<|Nat×AV:=[(3,(.slice (some (270,0)) (W.length)<|.au W.length 10)),(6,(.ab N 0 L)),(7,(i6<|(L:Int))),(8,(i6 i))]
def u7(N L:Nat)(W:List St)(i:Int):AF:=⟨26,aA<|CU N L W i,max Tryd.f26.ntmps 1,[.code<|aL pg 26 [1,1,0,1,0,0],.inLoop<|aL pg 26 [1,1,0,1,0,0],.inBlock 0,.code<|aL pg 26 [1,1,1]],[],none⟩
theorem akV(N L:Nat):((Mp N L).map (fun q=>some q.2)=(Mp N L).map (fun q=>some q.2))/\(aq.map (fun q=>q.2)=aq.map (fun q=>q.2))/\(Fy N L=Fy N L/\aj aq 270=aj aq 270):=⟨rfl,rfl,rfl,rfl⟩
theorem go_c(mc:Mt [sr 6,qT k] B)(H:av pg B 270 (Fin pg (aC Tryd.f26) fun y _=>y=v) (Fy N L)<|aj aq 270):av pg B 270 (Fin pg (aC Tryd.f26) fun y _=>y=v) (sF 26 Tryd.f26 [(.ab N 0 L)])<|aj aq 270:=wC mc (C:=(fun fr s1 _=>fr=Fy N L/\s1=aj aq 270)) nC (.st 9<|.ls (Mp N L) aq 270 .no)<|akV N L
abbrev KX(N L:Nat):List<|Nat×AV:=[(3,(.slice (some (272,0)) (1)<|.au 1 10)),(6,(.ab N 0 L)),(7,(i6<|(L:Int))),(8,(i6<|.ofNat 1))]
abbrev EC(kd to oa na:Int)(la:List Ex)(ob nb:Int)(lb:List Ex)(bd el:List St):List<|Nat×Option ah:=aq++[(270,some<|az aM<|[(St.mk kd to (Ex.mk oa na la) (Ex.mk ob nb lb) bd el)])]
theorem akX(hn:top<=N)(hW:[(St.mk kd to (Ex.mk oa na la) (Ex.mk ob nb lb) bd el)].length<=20000):(((KX N L):List<|Nat×AV).map (fun q=>some q.2)=((KX N L):List<|Nat×AV).map (fun q=>some q.2))/\((aq++[(272,some<|az aM [(St.mk kd to (Ex.mk oa na la) (Ex.mk ob nb lb) bd el)])]:List<|Nat×Option ah).map (fun q=>q.2)=(aq++[(272,some<|az aM [(St.mk kd to (Ex.mk oa na la) (Ex.mk ob nb lb) bd el)])]:List<|Nat×Option ah).map (fun q=>q.2))/\fy FU 270 273 (KX N L) (aq++[(272,some<|az aM [(St.mk kd to (Ex.mk oa na la) (Ex.mk ob nb lb) bd el)])]) (CU N L ([(St.mk kd to (Ex.mk oa na la) (Ex.mk ob nb lb) bd el)]) 1) (EC kd to oa na la ob nb lb bd el) 271/\(u7 N L ([(St.mk kd to (Ex.mk oa na la) (Ex.mk ob nb lb) bd el)]) 1=u7 N L ([(St.mk kd to (Ex.mk oa na la) (Ex.mk ob nb lb) bd el)]) 1/\aj (EC kd to oa na la ob nb lb bd el) 271=aj (EC kd to oa na la ob nb lb bd el) 271):=
 ⟨rfl,rfl,Yw lq [(St.mk kd to (Ex.mk oa na la) (Ex.mk ob nb lb) bd el)] (n:=272) (aP:=273) dV ae dV dV (fun r r0 r2 p hp=>by
  simp only[CU,Ty,TV,or_false] at hp;rcases hp with rfl|rfl|rfl|rfl
  ·exact⟨by unfold top;omega,_,TA,(aZ.slice r0).z⟩
  ·exact⟨by unfold top;omega,_,(TB _ TA),(aZ.ab (r2 _ hn) r2).z⟩
  ·exact⟨by unfold top;omega,_,(TB _<|TB _ TA),(aZ.int _ _).z⟩
  ·exact⟨by unfold top;omega,_,(TB _<|TB _<|TB _ TA),(aZ.int _ _).z⟩),rfl,rfl⟩
abbrev KY(kd to oa na:Int)(la:List Ex)(ob nb:Int)(lb:List Ex)(bd el:List St):List AV:=[(u8<|kd),(i6 to),(u8<|oa),(i6 na),(.ab (nm<|dC la) 0 la.length),(u8<|ob),(i6 nb),(.ab (nm<|dC lb) 0 lb.length),(.ab (nm<|bC bd) 0 bd.length),(.ab (nm<|bC el) 0 el.length)]
abbrev ED(oa na:Int)(la:List Ex):AV:=.agg [(u8<|oa),(i6 na),(.ab (nm<|dC la) 0 la.length)]
abbrev EE(ob nb:Int)(lb:List Ex):AV:=.agg [(u8<|ob),(i6 nb),(.ab (nm<|dC lb) 0 lb.length)]
theorem akY(mc:Mt [sr 6,qT k] B)(hn:top<=N)(hL:L<=10000)(hx:cZ FU N (0+(0:Int).toNat*10+0) 10=some (KY kd to oa na la ob nb lb bd el))(hA:bc (aK<|sq 6) [(ED oa na la)]=some (ED oa na la))(hB:bc (aK<|sq 6) [(EE ob nb lb)]=some (EE ob nb lb))(hD:bc (aK<|qS k) [(.ab (nm<|bC bd) 0 bd.length)]=some (.ab (nm<|bC bd) 0 bd.length))(hE:bc (aK<|qS k) [(.ab (nm<|bC el) 0 el.length)]=some (.ab (nm<|bC el) 0 el.length))(hW:[(St.mk kd to (Ex.mk oa na la) (Ex.mk ob nb lb) bd el)].length<=20000)(h1:(0:Int)<(L:Int))(H:av pg B 270 (Fin pg (aC Tryd.f26) fun y _=>y=v) (u7 N L ([(St.mk kd to (Ex.mk oa na la) (Ex.mk ob nb lb) bd el)]) 1)<|aj (EC kd to oa na la ob nb lb bd el) 271):av pg B 270 (Fin pg (aC Tryd.f26) fun y _=>y=v) (Fy N L)<|aj aq 270:=wC mc (C:=(fun fr s1 _=>fr=u7 N L ([(St.mk kd to (Ex.mk oa na la) (Ex.mk ob nb lb) bd el)]) 1/\s1=aj (EC kd to oa na la ob nb lb bd el) 271)) nC (.st 1<|.rg<|.fk (.en<|.st 6<|.rg<|.cm<|.cn (KY kd to oa na la ob nb lb bd el)<|.go 2<|.en<|.st 1<|.rg<|.go 2<|.kn (ED oa na la)<|.go 2<|.kn (EE ob nb lb)<|.go 2<|.kn (.ab (nm<|bC bd) 0 bd.length)<|.go 2<|.kn (.ab (nm<|bC el) 0 el.length)<|.go 8<|.en<|.st 4<|.rn (KX N L) (aq++[(272,(some<|az aM [(St.mk kd to (Ex.mk oa na la) (Ex.mk ob nb lb) bd el)]))]) (CU N L ([(St.mk kd to (Ex.mk oa na la) (Ex.mk ob nb lb) bd el)]) 1) (EC kd to oa na la ob nb lb bd el) 273 271 .no)<|.no)<|bq ((0:Int)<(L:Int)) (fun _=>(gq (0:Int) (L:Int)<|ai hn<|ai hx<|ai hA<|ai hB<|ai hD<|ai hE<|akX (N:=N) (L:=L) (kd:=kd) (to:=to) (oa:=oa) (na:=na) (la:=la) (ob:=ob) (nb:=nb) (lb:=lb) (bd:=bd) (el:=el) hn hW)) iF
abbrev KZ(W:List St)(kd to oa na:Int)(la:List Ex)(ob nb:Int)(lb:List Ex)(bd el:List St)(N L:Nat)(i:Int):List<|Nat×AV:=[(3,(.slice (some (273,0)) ((W++[(St.mk kd to (Ex.mk oa na la) (Ex.mk ob nb lb) bd el)]).length)<|.au (W++[(St.mk kd to (Ex.mk oa na la) (Ex.mk ob nb lb) bd el)]).length 10)),(6,(.ab N 0 L)),(7,(i6<|(L:Int))),(8,(i6<|(i+1)))]
abbrev EF(W:List St)(kd to oa na:Int)(la:List Ex)(ob nb:Int)(lb:List Ex)(bd el:List St):List<|Nat×Option ah:=aq++[(270,some<|az aM<|W++[(St.mk kd to (Ex.mk oa na la) (Ex.mk ob nb lb) bd el)])]
theorem akZ(hn:top<=N)(hW:(W++[(St.mk kd to (Ex.mk oa na la) (Ex.mk ob nb lb) bd el)]).length<=20000):(((KZ W kd to oa na la ob nb lb bd el N L i):List<|Nat×AV).map (fun q=>some q.2)=((KZ W kd to oa na la ob nb lb bd el N L i):List<|Nat×AV).map (fun q=>some q.2))/\((aq++[(273,some<|az aM<|W++[(St.mk kd to (Ex.mk oa na la) (Ex.mk ob nb lb) bd el)])]:List<|Nat×Option ah).map (fun q=>q.2)=(aq++[(273,some<|az aM<|W++[(St.mk kd to (Ex.mk oa na la) (Ex.mk ob nb lb) bd el)])]:List<|Nat×Option ah).map (fun q=>q.2))/\fy FU 270 274 (KZ W kd to oa na la ob nb lb bd el N L i) (aq++[(273,some<|az aM<|W++[(St.mk kd to (Ex.mk oa na la) (Ex.mk ob nb lb) bd el)])]) (CU N L (W++[(St.mk kd to (Ex.mk oa na la) (Ex.mk ob nb lb) bd el)])<|i+1) (EF W kd to oa na la ob nb lb bd el) 271/\(u7 N L (W++[(St.mk kd to (Ex.mk oa na la) (Ex.mk ob nb lb) bd el)]) (i+1)=u7 N L (W++[(St.mk kd to (Ex.mk oa na la) (Ex.mk ob nb lb) bd el)]) (i+1)/\aj (EF W kd to oa na la ob nb lb bd el) 271=aj (EF W kd to oa na la ob nb lb bd el) 271):=
 ⟨rfl,rfl,Yw lq (W++[(St.mk kd to (Ex.mk oa na la) (Ex.mk ob nb lb) bd el)]) (n:=273) (aP:=274) dV ae dV dV (fun r r0 r2 p hp=>by
  simp only[CU,Ty,TV,or_false] at hp;rcases hp with rfl|rfl|rfl|rfl
  ·exact⟨by unfold top;omega,_,TA,(aZ.slice r0).z⟩
  ·exact⟨by unfold top;omega,_,(TB _ TA),(aZ.ab (r2 _ hn) r2).z⟩
  ·exact⟨by unfold top;omega,_,(TB _<|TB _ TA),(aZ.int _ _).z⟩
  ·exact⟨by unfold top;omega,_,(TB _<|TB _<|TB _ TA),(aZ.int _ _).z⟩),rfl,rfl⟩
theorem ak0(mc:Mt [sr 6,qT k] B)(hn:top<=N)(hi:0<=i)(hL:L<=10000)(hx:cZ FU N (0+i.toNat*10+0) 10=some (KY kd to oa na la ob nb lb bd el))(hA:bc (aK<|sq 6) [(ED oa na la)]=some (ED oa na la))(hB:bc (aK<|sq 6) [(EE ob nb lb)]=some (EE ob nb lb))(hD:bc (aK<|qS k) [(.ab (nm<|bC bd) 0 bd.length)]=some (.ab (nm<|bC bd) 0 bd.length))(hE:bc (aK<|qS k) [(.ab (nm<|bC el) 0 el.length)]=some (.ab (nm<|bC el) 0 el.length))(hW:(W++[(St.mk kd to (Ex.mk oa na la) (Ex.mk ob nb lb) bd el)]).length<=20000)(h1:i<(L:Int))(H:av pg B 270 (Fin pg (aC Tryd.f26) fun y _=>y=v) (u7 N L (W++[(St.mk kd to (Ex.mk oa na la) (Ex.mk ob nb lb) bd el)])<|i+1)<|aj (EF W kd to oa na la ob nb lb bd el) 271):av pg B 270 (Fin pg (aC Tryd.f26) fun y _=>y=v) (u7 N L W i)<|aj (aq++[(270,some<|az aM W)]) 271:=wC mc (C:=(fun fr s1 _=>fr=u7 N L (W++[(St.mk kd to (Ex.mk oa na la) (Ex.mk ob nb lb) bd el)]) (i+1)/\s1=aj (EF W kd to oa na la ob nb lb bd el) 271)) nC (.st 1<|.rg<|.fk (.en<|.st 6<|.rg<|.cm<|.cn (KY kd to oa na la ob nb lb bd el)<|.go 2<|.en<|.st 1<|.rg<|.go 2<|.kn (ED oa na la)<|.go 2<|.kn (EE ob nb lb)<|.go 2<|.kn (.ab (nm<|bC bd) 0 bd.length)<|.go 2<|.kn (.ab (nm<|bC el) 0 el.length)<|.go 8<|.en<|.rg<|.go 3<|.ap St aM W (St.mk kd to (Ex.mk oa na la) (Ex.mk ob nb lb) bd el)<|.go 1<|.en<|.st 1<|.rg<|.vl (i6<|i+1)<|.go 1<|.en<|.st 1<|.rn (KZ W kd to oa na la ob nb lb bd el N L i) (aq++[(273,(some<|az aM<|W++[(St.mk kd to (Ex.mk oa na la) (Ex.mk ob nb lb) bd el)]))]) (CU N L (W++[(St.mk kd to (Ex.mk oa na la) (Ex.mk ob nb lb) bd el)])<|i+1) (EF W kd to oa na la ob nb lb bd el) 274 271 .no)<|.no)<|bq (i<(L:Int)) (fun _=>(gq i (L:Int)<|ai hn<|ai hx<|ai hA<|ai hB<|ai hD<|ai hE<|Sv aM W (St.mk kd to (Ex.mk oa na la) (Ex.mk ob nb lb) bd el) (K:=10) (ln:=144) (fun x=>⟨lq.len x,adp x⟩) (by rw[TM] at hW;unfold room;omega) (by rw[TM] at hW;unfold top;omega)<|ai (wI<|i+1)<|akZ (N:=N) (L:=L) (W:=W) (i:=i) (kd:=kd) (to:=to) (oa:=oa) (na:=na) (la:=la) (ob:=ob) (nb:=nb) (lb:=lb) (bd:=bd) (el:=el) hn hW)) iF
theorem ak1:(([(2,(.slice none 0<|.known 0))]:List<|Nat×AV).map (fun q=>some q.2)=([(2,(.slice none 0<|.known 0))]:List<|Nat×AV).map (fun q=>some q.2))/\(([]:List<|Nat×Option ah).map (fun q=>q.2)=([]:List<|Nat×Option ah).map (fun q=>q.2))/\fy FU 270 270 [(2,(.slice none 0<|.known 0))] [] [(2,ar aM ([]:List St))] [] 270/\((⟨26,aA [(2,ar aM ([]:List St))],max Tryd.f26.ntmps 1,(dh 26 [1,1,1,1]),[],none⟩:AF)=⟨26,aA [(2,ar aM ([]:List St))],max Tryd.f26.ntmps 1,(dh 26 [1,1,1,1]),[],none⟩/\aj [] 270=aj [] 270):=⟨rfl,rfl,(Qc (enc:=aM) (j:=2) (aP:=270) dV dV),rfl,rfl⟩
theorem ak2(mc:Mt [sr 6,qT k] B):av pg B 270 (Fin pg (aC Tryd.f26) fun y _=>y=(ar aM ([]:List St))) ⟨26,aA [(2,ar aM ([]:List St))],max Tryd.f26.ntmps 1,(dh 26 [1,1,1,1]),[],none⟩<|aj [] 270:=wS mc (.rt 1 .no)<|xI<|ar aM ([]:List St)
theorem ak3(mc:Mt [sr 6,qT k] B)(h1:(L:Int)<=0):av pg B 270 (Fin pg (aC Tryd.f26) fun y _=>y=(ar aM ([]:List St))) (Fy N L)<|aj aq 270:=wC mc (C:=(fun fr s1 _=>fr=⟨26,aA [(2,ar aM ([]:List St))],max Tryd.f26.ntmps 1,(dh 26 [1,1,1,1]),[],none⟩/\s1=aj [] 270)) (fun fr s1 p hC=>by obtain⟨rfl,rfl⟩:=hC;exact ak2 mc) (.st 1<|.rg<|.fk (.no)<|.en<|.st 5<|.rn [(2,(.slice none 0<|.known 0))] [] [(2,ar aM ([]:List St))] [] 270 270 .no)<|bq ((0:Int)<(L:Int)) iF fun _=>(ak1)
theorem ak4(W:List St)(hW:W.length<=20000):(([(2,(.slice (some (270,0)) (W.length)<|.au W.length 10))]:List<|Nat×AV).map (fun q=>some q.2)=([(2,(.slice (some (270,0)) (W.length)<|.au W.length 10))]:List<|Nat×AV).map (fun q=>some q.2))/\(([(270,some<|az aM W)]:List<|Nat×Option ah).map (fun q=>q.2)=([(270,some<|az aM W)]:List<|Nat×Option ah).map (fun q=>q.2))/\fy FU 270 271 [(2,(.slice (some (270,0)) (W.length)<|.au W.length 10))] [(270,some<|az aM W)] [(2,ar aM W)] [] 270/\((⟨26,aA [(2,ar aM W)],max Tryd.f26.ntmps 1,(dh 26 [1,1,1,1]),[],none⟩:AF)=⟨26,aA [(2,ar aM W)],max Tryd.f26.ntmps 1,(dh 26 [1,1,1,1]),[],none⟩/\aj [] 270=aj [] 270):=⟨rfl,rfl,(KS (j:=2) (n:=270) (aP:=271) lq W rfl dV dV dV dV),rfl,rfl⟩
theorem ak5(mc:Mt [sr 6,qT k] B)(W:List St):av pg B 270 (Fin pg (aC Tryd.f26) fun y _=>y=(ar aM W)) ⟨26,aA [(2,ar aM W)],max Tryd.f26.ntmps 1,(dh 26 [1,1,1,1]),[],none⟩<|aj [] 270:=wS mc (.rt 1 .no)<|xI<|ar aM W
theorem ak6(mc:Mt [sr 6,qT k] B)(h1:(L:Int)<=i)(hW:W.length<=20000):av pg B 270 (Fin pg (aC Tryd.f26) fun y _=>y=(ar aM W)) (u7 N L W i)<|aj (aq++[(270,some<|az aM W)]) 271:=wC mc (C:=(fun fr s1 _=>fr=⟨26,aA [(2,ar aM W)],max Tryd.f26.ntmps 1,(dh 26 [1,1,1,1]),[],none⟩/\s1=aj [] 270)) (fun fr s1 p hC=>by obtain⟨rfl,rfl⟩:=hC;exact ak5 mc W) (.st 1<|.rg<|.fk (.no)<|.en<|.st 5<|.rn [(2,(.slice (some (270,0)) (W.length)<|.au W.length 10))] [(270,some<|az aM W)] [(2,ar aM W)] [] 271 270 .no)<|bq (i<(L:Int)) iF fun _=>(ak4 W hW)
end gw
namespace LI
open cj cC gi sQ cY sk mr H8 LH gw
variable {k:Nat}
theorem WY(l:List St):AV.ab (nm<|bC l) 0 l.length=ar aM l:=by rw[vZ];rfl
theorem JU{l:List St}(h:ow k l=true):bc (aK<|qS k) [.ab (nm<|bC l) 0 l.length]=some (.ab (nm<|bC l) 0 l.length):=eV (eQ qS.bJ ⟨l,rfl,h,rfl⟩) (by rw[TS,uA];rfl)<|uA l
theorem acC(hP:bY pg)(h':aY [sr 6,qT k]){L:bV}(h:aY L):aY<|qT (k+1)::L:=by
 refine gu hP h h' Tryd.func26 fun args v e=>?_;obtain⟨l,rfl,hg,rfl⟩:=fQ e;refine⟨aI.1 aV,fun B mc=>?_⟩;rw[←gX];have hg:(decide (l.length<=10000)&&l.all fun s=>pP 6 (cw s)&&(pP 6 (iP s)&&(ow k (bN s)&&ow k (bK s))))=true:=hg;rw[TW,decide_eq_true_eq,TG] at hg;obtain⟨hlen,hd⟩:=hg;have qv:∀s∈l,pP 6 (cw s)=true/\pP 6 (iP s)=true/\ow k (bN s)=true/\ow k (bK s)=true:=fun s hs=>by have:=hd s hs;rw[TW,TW,TW] at this;exact this
 refine go_c mc ?_;cases l with
 |nil=>have:=ak3 (N:=nm<|bC []) (L:=0) mc ae;rw[←WY] at this;exact this
 |cons a0 l0=>
  have key:∀(r:List St) (i:Nat),(a0::l0).drop i=r->1<=i->i<=(a0::l0).length->av pg B 270 (Fin pg (aC Tryd.f26) fun y _=>y= .ab (nm<|bC<|a0::l0) 0 (a0::l0).length) (u7 (nm<|bC<|a0::l0) (a0::l0).length ((a0::l0).take i) i) (aj (aq++[(270,some<|az aM<|(a0::l0).take i)]) 271):=by
   generalize hl:a0::l0=l at*;intro r;induction r with
   |nil=>intro i hr _ hle;have hi:l.length<=i:=UO.1 hr;have e:l.take i=l:=UG hi;rw[e];have:=ak6 (N:=nm<|bC l) (L:=l.length) (W:=l) (i:=(i:Int)) mc ae ae;rw[←WY] at this;exact this
   |cons a r ih=>
    intro i hr h1 hle;have ct:i<l.length:=by
     by_cases q:i<l.length
     ·exact q
     ·rw[Vc ae] at hr;cases hr
    have ha:l[i]? =some a:=by have:=congrArg (fun q=>q[0]?) hr;simp only[Ue,UA,Ul] at this;exact this
    have hm:a∈l:=TY ha;have kI:l.drop (i+1)=r:=by have:=congrArg (UH 1) hr;rw[Up] at this;exact this
    have qe:=ih (i+1) kI ae ae;rw[VW,ha] at qe;obtain⟨g1,g2,g3,g4⟩:=qv a hm;have hx:=GN ha (z:=(i:Int)) ae;obtain⟨kd,to,⟨oa,na,la⟩,⟨ob,nb,lb⟩,bd,el⟩:=a;have cA:=En (k:=6) g1;have cB:=En (k:=6) g2;have cD:=JU g3;have cE:=JU g4;simp only[cw,iP,bN,bK] at cA cB cD cE;rw[aH] at cA cB;rw[aM,aH,aH] at hx;exact ak0 (i:=(i:Int)) (W:=l.take i) mc (cR _) ae hlen hx cA cB cD cE (by rw[TM,T4];show _+1<=20000;omega) ae qe
  have qe:=key l0 1 rfl ae (by show 1<=l0.length+1;omega);rw[Vs,Vp] at qe;obtain⟨g1,g2,g3,g4⟩:=qv a0 TA;have hx:=GN (l:=a0::l0) (i:=0) (a:=a0) rfl (z:=(0:Int)) rfl;obtain⟨kd,to,⟨oa,na,la⟩,⟨ob,nb,lb⟩,bd,el⟩:=a0;have cA:=En (k:=6) g1;have cB:=En (k:=6) g2;have cD:=JU g3;have cE:=JU g4;simp only[cw,iP,bN,bK] at cA cB cD cE;rw[aH] at cA cB;rw[show aM (St.mk kd to (Ex.mk oa na la) (Ex.mk ob nb lb) bd el)=_ from by rw[aM,aH,aH]] at hx;exact akY mc (cR _) hlen hx cA cB cD cE (by show 1<=20000;omega) (by show(0:Int)<((l0.length+1:Nat):Int);omega) qe
theorem ams(hP:bY pg):∀(k:Nat) {L:bV},aY L->aY (qT k::L)
 |0,L,h=>by refine gu hP h dj Tryd.func26 fun args v e=>?_;obtain⟨_,_,hd,_⟩:=fQ e;cases hd
 |k+1,L,h=>acC hP (O2 hP 6<|ams hP k dj) h
end LI
namespace RG
open cj
variable {left:List<|Int×Int} {cur:Option<|AV×AV} {v0 k0:Int}
def l0:List<|Nat×AV:=[(0,.map<|some 270),(1,.map<|some 271),(6,.map<|some 271),(7,.ptr<|some (272,0))]
def lx(k v:Int):List<|Nat×AV:=[(0,.map<|some 270),(1,.map<|some 271),(4,.int .i64 k),(5,.int .i64 v),(6,.map<|some 271),(7,.ptr<|some (272,0)),(8,.tuple [.bool true,.int .i64 k,.int .i64 v]),(9,.bool true),(10,.tuple [.int .i64 k,.int .i64 v]),(11,.int .i64 k),(12,.int .i64 v),(13,.map<|some 270),(14,.int .i64 k),(15,.int .i64 v)]
def KN:List Item:=[.code<|aL pg 59 [1,0,0,1],.inLoop<|aL pg 59 [1,0,0],.inBlock 0]
def eD(t:Tr AV):AF:=⟨59,t,max Tryd.f59.ntmps 2,.code (aL pg 59 [1,0,0,0])::KN,[],none⟩
def jL(m2 d left:List<|Int×Int)(cur:Option<|AV×AV):AS:=aj (aq++[(270,some<|bE d),(271,some .iT),(272,some<|.iter 271 (cJ m2) false (cJ left) cur)]) 273
def vD:Oper:=(opsOf<|aL pg 59 [1,0,0,0]).toList.headD default
def u9:Array Oper:=opsOf<|aL pg 59 [1,0,0,0]
def uN:List Oper:=(opsOf<|aL pg 59 [1,0,0,0]).toList.tail
def ga(t:Tr AV)(v:AV)(b:Bool):AF:=⟨59,(t.put 8<|some v).put 9<|some<|.bool b,max Tryd.f59.ntmps 2,KN,[],none⟩
def nV:Env:=y8 pg 270 dK dk [] 272 true
theorem asks(t:Tr AV):BN (eD t)=some (.tmp 7,vD,u9,uN,KN):=by kernel_rfl
theorem aju{m2 d:List<|Int×Int}:sb (eD<|aA l0) (.tmp 7) (jL m2 d left cur)= .ok (272,.iter 271 (cJ m2) false (cJ left) cur) (jL m2 d left cur):=by kernel_rfl
theorem Yx{m2 d:List<|Int×Int}{k v:Int}:sb (eD<|aA<|lx k v) (.tmp 7) (jL m2 d left cur)= .ok (272,.iter 271 (cJ m2) false (cJ left) cur) (jL m2 d left cur):=by kernel_rfl
theorem ajv{m2 d:List<|Int×Int}{Tu:aJ}:og pg Tu (eD<|aA l0) 272 271 (cJ m2) false vD u9 uN KN (jL m2 d left cur)= .ok (ga (aA l0) (.tuple [.bool false]) false) (aj (aq++[(270,some<|bE d),(271,some<|bE m2),(272,none)]) 273):=by kernel_rfl
theorem Ls{m2 d:List<|Int×Int}{Tu:aJ}{k v:Int}:og pg Tu (eD<|aA<|lx k v) 272 271 (cJ m2) false vD u9 uN KN (jL m2 d left cur)= .ok (ga (aA<|lx k v) (.tuple [.bool false]) false) (aj (aq++[(270,some<|bE d),(271,some<|bE m2),(272,none)]) 273):=by kernel_rfl
theorem is0{m2 d r:List<|Int×Int}{Tu:aJ}{k v:Int}:oi pg Tu (eD<|aA l0) 272 (.iter 271 (cJ m2) false (cJ r)<|some (.int .i64 k,.int .i64 v)) vD u9 uN KN (.tuple [.bool true,.int .i64 k,.int .i64 v]) (jL m2 d left cur)= .ok (ga (aA l0) (.tuple [.bool true,.int .i64 k,.int .i64 v]) true) (jL m2 d r<|some (.int .i64 k,.int .i64 v)):=by kernel_rfl
theorem isX{m2 d r:List<|Int×Int}{Tu:aJ}{k v:Int}:oi pg Tu (eD<|aA<|lx k0 v0) 272 (.iter 271 (cJ m2) false (cJ r)<|some (.int .i64 k,.int .i64 v)) vD u9 uN KN (.tuple [.bool true,.int .i64 k,.int .i64 v]) (jL m2 d left cur)= .ok (ga (aA<|lx k0 v0) (.tuple [.bool true,.int .i64 k,.int .i64 v]) true) (jL m2 d r<|some (.int .i64 k,.int .i64 v)):=by kernel_rfl
abbrev FM(m1 m2:List<|Int×Int):=RC 270 pg (aC Tryd.f59) m1 m2
theorem K0:fY<=272:=TO gW ae
theorem Zc(m2 d r:List<|Int×Int)(k v:Int)(fr:AF):(some (bE d)=some (bE d))/\(fr=fr/\jL m2 (gf d k v) r (some (.int .i64 k,.int .i64 v))=jL m2 (gf d k v) r (some (.int .i64 k,.int .i64 v))):=⟨rfl,rfl,rfl⟩
section
variable {B:aE} {m1 m2 d r:List<|Int×Int} {k v:Int}
theorem QZ(mc:Mt [] B)(H:av pg B 272 (FM m1 m2) (eD<|aA<|lx k v)<|jL m2 (gf d k v) r<|some (.int .i64 k,.int .i64 v)):
 av pg B 272 (FM m1 m2) (ga (aA l0) (.tuple [.bool true,.int .i64 k,.int .i64 v]) true) (jL m2 d r<|some (.int .i64 k,.int .i64 v)):=
 wp_cut (E:=nV) (C:=fun fr s1 _=>fr=eD (aA<|lx k v)/\s1=jL m2 (gf d k v) r (some (.int .i64 k,.int .i64 v))) fw rfl bR mc.2.2.1 mc.2.2.2 K0 rfl mc.1 nC 900 (.st 6<|.rg<|.go 3<|.MT d<|.en<|.st 3<|.cut .no) (Zc m2 d r k v<|eD<|aA<|lx k v)
theorem Q0(mc:Mt [] B)(H:av pg B 272 (FM m1 m2) (eD<|aA<|lx k v)<|jL m2 (gf d k v) r<|some (.int .i64 k,.int .i64 v)):
 av pg B 272 (FM m1 m2) (ga (aA<|lx k0 v0) (.tuple [.bool true,.int .i64 k,.int .i64 v]) true) (jL m2 d r<|some (.int .i64 k,.int .i64 v)):=
 wp_cut (E:=nV) (C:=fun fr s1 _=>fr=eD (aA<|lx k v)/\s1=jL m2 (gf d k v) r (some (.int .i64 k,.int .i64 v))) fw rfl bR mc.2.2.1 mc.2.2.2 K0 rfl mc.1 nC 900 (.st 6<|.rg<|.go 3<|.MT d<|.en<|.st 3<|.cut .no) (Zc m2 d r k v<|eD<|aA<|lx k v)
theorem Yy{m1 m2 d:List<|Int×Int}(hk:eK m1)(hp:d.Perm<|fM m1 m2):fy FU 272 273 [(9,.bool false)] [(270,some<|bE d),(271,some<|bE m2)] [(9,.bool false)] [(270,some<|bE<|fM m1 m2),(271,some<|bE m2)] 272:=by
 let r:Nat->Nat:=fun k=>if k<272\/top<=k then k else max k 273
 have t0:272<top:=by unfold top;omega
 have rl:∀k,k<272->r k=k:=fun k hk=>if_pos<|.inl hk;refine⟨[],r,rl,fun k h1 h2=>?_,fun k hk=>if_pos<|.inr hk,by omega,fun p hp=>?_,fun p hp=>?_,fun p hp q hq _ _ e=>?_,fun p hp=>mz,fun p hp=>mz⟩
 ·show 273<=(if _ then _ else _)/\(if _ then _ else _)<top;rw[if_neg ae];have:273<top:=by unfold top;omega
  omega
 ·rw[TC] at hp;subst hp;exact⟨by show 9<top;omega,_,TC.2 rfl,(aZ.bool _).z⟩
 ·rcases Ty.1 hp with rfl|hp
  ·refine⟨by show 270<top;omega,fun y hy=>?_⟩;cases hy;rw[rl 270 ae];exact⟨by omega,rfl,_,TA,⟨fun _=>rfl,(fun e=>by cases e),fun e=>by cases e⟩,fun ρ fp N o _ h=>acq hk.merge (by assumption) h⟩
  ·rw[TC] at hp;subst hp;refine⟨by show 271<top;omega,fun y hy=>?_⟩;cases hy;rw[rl 271 ae];exact⟨by omega,rfl,_,TB _ TA,fc.refl _,fun ρ fp N o _ h=>we h⟩
 ·rcases Ty.1 hp with rfl|hp<;>rcases Ty.1 hq with rfl|hq
  ·rfl
  ·rw[TC] at hq;subst hq;rw[rl _ ae,rl _ ae] at e;exact e
  ·rw[TC] at hp;subst hp;rw[rl _ ae,rl _ ae] at e;exact e
  ·rw[TC] at hp hq;subst hp;subst hq;rfl
def ak7(m1 m2:List<|Int×Int)(s':AS)(y:AV):Prop:=y= .tuple []/\s'.h.get 270=some (bE<|fM m1 m2)/\s'.h.get 271=some (bE m2)
theorem ak8(m1 m2:List<|Int×Int):ak7 m1 m2 (aj [(270,some<|bE<|fM m1 m2),(271,some<|bE m2)] 272)<|.tuple []:=⟨rfl,by kernel_rfl,by kernel_rfl⟩
theorem Zd(mc:Mt [] B):av pg B 272 (FM m1 m2) ⟨59,aA [(9,.bool false)],max Tryd.f59.ntmps 2,KN,[],none⟩<|aj [(270,some<|bE<|fM m1 m2),(271,some<|bE m2)] 272:=mM (E:=nV) fw rfl bR mc.2.2.1 mc.2.2.2 900 (.rt 4 .no)<|ak8 m1 m2
theorem Q1(mc:Mt [] B)(hk:eK m1)(hp:d.Perm<|fM m1 m2):av pg B 272 (FM m1 m2) (ga (aA l0) (.tuple [.bool false]) false)<|aj (aq++[(270,some<|bE d),(271,some<|bE m2),(272,none)]) 273:=av.rn (l0:=[(9,.bool false)]) (o0:=[(270,some<|bE d),(271,some<|bE m2)]) K0 cf cf (by rw[mc.1];exact Yy hk hp)<|Zd mc
theorem Q2(mc:Mt [] B)(hk:eK m1)(hp:d.Perm<|fM m1 m2):av pg B 272 (FM m1 m2) (ga (aA<|lx k0 v0) (.tuple [.bool false]) false)<|aj (aq++[(270,some<|bE d),(271,some<|bE m2),(272,none)]) 273:=av.rn (l0:=[(9,.bool false)]) (o0:=[(270,some<|bE d),(271,some<|bE m2)]) K0 cf cf (by rw[mc.1];exact Yy hk hp)<|Zd mc
theorem Eu(h:cJ left=[]):left=[]:=by cases left with|nil=>rfl|cons _ _=>cases h
theorem ajw(mc:Mt [] B)(hk:eK m1)(Nc:eK m2):∀(n:Nat) (left F7 d:List<|Int×Int) (k v:Int) (cur:Option<|AV×AV),left.length=n->m2.Perm (F7++left)->d=fM m1 F7->
 av pg B 272 (FM m1 m2) (eD<|aA<|lx k v) (jL m2 d left cur):=by
 intro n;induction n with
 |zero=>intro left F7 d k v cur hn hp hd;have hl:=UY hn;subst hl;refine av.next mc.2.2.1 mc.2.2.2 (asks _) (by show 272<=273;omega) Yx (fun _=>⟨_,_,Ls,Q2 mc hk ?_⟩) (fun x r h=>by cases h);rw[hd,U8] at*;exact aco hk ((hp.map (·.1)).nodup_iff.1 Nc) hp.symm
 |succ n ih=>intro left F7 d k v cur hn hp hd;refine av.next mc.2.2.1 mc.2.2.2 (asks _) (by show 272<=273;omega) Yx (fun h=>by rw[Eu h] at hn;cases hn) fun x r h=>?_;obtain⟨p,l',rfl,rfl,Dw⟩:=Jy h;refine⟨_,_,isX,Q0 mc ?_⟩;refine ih l' (F7++[p]) _ _ _ _ (by have:=Dw.length_eq;rw[TL] at this;omega) ?_ (by rw[acp,hd]);rw[Um];exact hp.trans<|Dw.append_left F7
theorem ajx(mc:Mt [] B)(hk:eK m1)(Nc:eK m2):av pg B 272 (FM m1 m2) (eD<|aA l0)<|jL m2 m1 m2 none:=by
 refine av.next mc.2.2.1 mc.2.2.2 (asks _) (by show 272<=273;omega) aju (fun h=>⟨_,_,ajv,Q1 mc hk ?_⟩) fun x r h=>?_
 ·rw[Eu h];exact UL _
 ·obtain⟨p,l',rfl,rfl,Dw⟩:=Jy h;refine⟨_,_,is0,QZ mc ?_⟩;exact ajw mc hk Nc l'.length l' [p] _ _ _ _ rfl Dw rfl
end
def Bl:FuncId×KE:=(59,.raw xD)
theorem XW(hP:bY pg){L:bV}(h:aY L):aY<|Bl::L:=by refine aho hP gW (aI.1 aV) jT jb mU mA h dj Tryd.func59 (body:=aL pg 59 []) aV aV fun m1 m2 k1 k2=>?_;refine⟨aI.1 aV,fun B mc=>?_⟩;exact av.chunk (k:=5) (aR:=eD<|aA l0) (s1:=jL m2 m1 m2 none) bR mc.2.2.1 mc.2.2.2 cf (by show 272<=272;omega)<|ajx mc k1 k2
end RG
namespace iL
open cj gw
variable {r:Nat->Nat} {o0:List<|Nat×Option ah} {lo aP:Nat} {ps:List<|Nat×Nat} {b a:List<|Int×Int}
def mF(ps:List<|Nat×Nat)(lo aP k:Nat):Nat:=match ps.find? fun p=>Tx p.1 k with
 |some p=>p.2
 |none=>if k<lo\/top<=k then k else max k aP
def Bm(ps:List<|Nat×Nat)(lo aP nx:Nat)(names:List Nat):Bool:=ps.all (fun p=>Tw lo p.1&&(Tv p.1 nx&&(Tw lo p.2&&Tv p.2 top)))&&(Tw lo nx&&(Tw nx top&&(Tv aP top&&(names.all fun m=>Tv m lo||ps.any fun p=>Tx p.1 m))))
def Mq(ps:List<|Nat×Nat):Bool:=ps.all fun p=>ps.all fun q=> !(Tx p.2 q.2)||Tx p.1 q.1
def IQ(r:Nat->Nat)(l0:List<|Nat×AV):List (Nat×AV)->Prop
 |[]=>True
 |p::l=>(p.1<top/\∃x,(p.1,x)∈l0/\gE [] r x p.2)/\IQ r l0 l
def Bn(r:Nat->Nat)(o0:List<|Nat×Option ah):List (Nat×Option ah)->Prop
 |[]=>True
 |p::l=>(∀y,p.2=some y->y.iA=true/\∃x,(r p.1,some x)∈o0/\fc x y/\dT [] r x y)/\Bn r o0 l
theorem IQ.mem{l0:List<|Nat×AV}:∀{l:List<|Nat×AV},IQ r l0 l->∀p∈l,p.1<top/\∃x,(p.1,x)∈l0/\gE [] r x p.2
 |[],_,p,hp=>by cases hp
 |a::l,h,p,hp=>by
  rcases Ty.1 hp with rfl|hp
  ·exact h.1
  ·exact IQ.mem h.2 p hp
theorem Bn.mem:∀{l:List<|Nat×Option ah},Bn r o0 l->∀p∈l,∀y,p.2=some y->y.iA=true/\∃x,(r p.1,some x)∈o0/\fc x y/\dT [] r x y
 |[],_,p,hp=>by cases hp
 |a::l,h,p,hp=>by
  rcases Ty.1 hp with rfl|hp
  ·exact h.1
  ·exact Bn.mem h.2 p hp
theorem LJ{nx:Nat}{l0 l:List<|Nat×AV}{o:List<|Nat×Option ah}(eY:270<=lo)(hb:Bm ps lo aP nx (o.map (·.1))=true)(hi:Mq ps=true)(hl:∀r,r=mF ps lo aP->(∀k,top<=k->r k=k)->IQ r l0 l)(ho:∀r,r=mF ps lo aP->(∀k,top<=k->r k=k)->Bn r o0 o):
 fy FU lo aP l0 (aq++o0) l (aq++o) nx:=by
 unfold Bm at hb;obtain⟨b1,hb⟩:=and_true.1 hb;obtain⟨b2,hb⟩:=and_true.1 hb;obtain⟨b3,hb⟩:=and_true.1 hb;obtain⟨b4,b5⟩:=and_true.1 hb;have b2:=aI.1 b2;have b3:=aI.1 b3;have b4:=(blt_eq _ _).mp b4;have vw:∀p∈ps,lo<=p.1/\p.1<nx/\lo<=p.2/\p.2<top:=fun p hp=>by have:=TG.1 b1 p hp;obtain⟨c1,c2⟩:=and_true.1 this;obtain⟨c2,c3⟩:=and_true.1 c2;obtain⟨c3,c4⟩:=and_true.1 c3;exact⟨aI.1 c1,(blt_eq _ _).mp c2,aI.1 c3,(blt_eq _ _).mp c4⟩
 have none_:∀k,(k<lo\/nx<=k)->(ps.find? fun p=>Tx p.1 k)=none:=fun k hk=>by refine Wo.2 fun p hp=>?_;obtain⟨c1,c2,_⟩:=vw p hp;rw[eP];omega
 let r:=mF ps lo aP;have rl:∀k,k<lo->r k=k:=fun k hk=>by show mF ps lo aP k=k;unfold mF;rw[none_ k<|.inl hk];exact if_pos<|.inl hk
 have rt:∀k,top<=k->r k=k:=fun k hk=>by show mF ps lo aP k=k;unfold mF;rw[none_ k<|.inr ae];exact if_pos<|.inr hk
 have rn:∀k,nx<=k->k<top->aP<=r k/\r k<top:=fun k h1 h2=>by show aP<=mF ps lo aP k/\mF ps lo aP k<top;unfold mF;rw[none_ k<|.inr h1];show aP<=(if _ then _ else _)/\(if _ then _ else _)<top;rw[if_neg ae];omega
 have rin:∀k∈o.map (·.1),(k<lo/\r k=k)\/∃p∈ps,p.1=k/\r k=p.2:=fun k hk=>by
  have:=TG.1 b5 k hk;rcases Bool.or_eq_true_iff.1 this with this|this
  ·have:=(blt_eq _ _).mp this;exact .inl ⟨this,rl k this⟩
  right;obtain⟨p,hp,e⟩:=List.any_eq_true.1 this;cases q:ps.find? fun p=>Tx p.1 k with
  |none=>exact absurd e (by simpa using Wo.1 q p hp)
  |some p'=>have h1:=Wq q;refine⟨p',Wp q,eP.1 h1,?_⟩;show mF ps lo aP k=_;unfold mF;rw[q]
 have xJ:∀p∈aq,p.1<270:=fun p hp=>by obtain⟨k,hk,e⟩:=TI.1 hp;rw[←e];exact jb k hk
 have t0:270<top:=by unfold top;omega
 refine⟨[],r,rl,rn,rt,b3,(hl r rfl rt).mem,fun p hp=>?_,fun p hp q hq _ _ e=>?_,fun p hp=>mz,fun p hp=>mz⟩
 ·rcases TP.1 hp with hp|hp
  ·have ct:=xJ p hp;refine⟨by omega,fun y hy=>?_⟩;rw[rl _ ae];refine⟨by omega,O3 p hp y hy,y,?_,fc.refl _,(D9 (nx:=270) (fun k hk=>rl k ae) cf p hp y hy).z⟩;refine T7 _ ?_;rw[←hy];exact hp
  ·have ct:p.1<top/\r p.1<top:=by
    rcases rin p.1 (TI.2 ⟨p,hp,rfl⟩) with⟨c1,c2⟩|⟨p',h1,h2,h3⟩
    ·rw[c2];omega
    ·obtain⟨c1,c2,c3,c4⟩:=vw p' h1;rw[h3];omega
   refine⟨ct.1,fun y hy=>?_⟩;obtain⟨d1,x,d2,d3,d4⟩:=(ho r rfl rt).mem p hp y hy;exact⟨ct.2,d1,x,TU _ d2,d3,d4⟩
 ·have key:∀p∈aq++o,(p.1<lo/\r p.1=p.1)\/∃q∈ps,q.1=p.1/\r p.1=q.2:=fun p hp=>by
   rcases TP.1 hp with hp|hp
   ·exact .inl ⟨by have:=xJ p hp;omega,rl _ (by have:=xJ p hp;omega)⟩
   ·exact rin p.1<|TI.2 ⟨p,hp,rfl⟩
  rcases key p hp with⟨a1,a2⟩|⟨a,a1,a2,a3⟩<;>rcases key q hq with⟨c1,c2⟩|⟨c,c1,c2,c3⟩
  ·rw[a2,c2] at e;exact e
  ·have:=(vw c c1).2.2.1;rw[a2,c3] at e;omega
  ·have:=(vw a a1).2.2.1;rw[a3,c2] at e;omega
  ·rw[a3,c3] at e;have h1:=TG.1 (TG.1 hi a a1) c c1;rw[U0] at h1;rcases h1 with h1|h1
   ·rw[e,show Tx c.2 c.2=true from Nat.beq_refl _] at h1;cases h1
   ·rw[←a2, ←c2];exact Ug h1
theorem amt{l m:List AV}{rest:List AV}(hl:(l++rest).length<=top)(h:lz [] r l m)(h1:m.all AV.bM=true):dT [] r (.cells (l++rest).length (Tr.fill (l++rest) 0 .nil) [])<|.cells m.length (Tr.fill m 0 .nil) []:=by
 have hlen:=h.length;have zi:l.length<=(l++rest).length:=by rw[TM];omega
 intro ρ fp N o zp k;refine dT.cells ae h h1 ρ fp N o zp ?_;obtain⟨c,e,rfl,k1,k2,k3⟩:=k;refine⟨c,e,rfl,k1,by omega,fun i hi=>?_⟩;obtain⟨x,v,a1,a2,a3,a4⟩:=k3 i ae;refine⟨x,v,?_,a2,a3,a4⟩;unfold cellAt at a1 ⊢;rw[Tr.rR _ _ _ _ ae,if_pos ae,Uk] at a1;rw[Tr.rR _ _ _ _ ae,if_pos ae,Uk];rw[Ux hi] at a1;exact a1
theorem af7{n m o len oT e:Nat}(h:r m=n)(h1:oT<=lo)(h2:len<=oT):aZ r (.slice (some (n,o)) len<|.au lo e)<|.slice (some (m,o)) len<|.au oT e:=by intro ρ v hv;simp only[VR] at hv ⊢;obtain⟨b,N,c,q1,q2,q3,q4,q5⟩:=hv;exact⟨b,N,c,by rw[h];exact q1,q2,by omega,q4,q5⟩
theorem ak9{m:List<|Int×Int}:dT [] r (bE m)<|bE m:=fun _ _ _ _ _ h=>we h
theorem Q3{m:List<|Int×Int}(hk:eK m):dT [] r (yT m)<|bE m:=fun _ _ _ _ _ h=>aev hk h
theorem ajy:fc (bE a)<|bE b:=⟨fun _=>rfl,(fun e=>by cases e),fun e=>by cases e⟩
theorem Qf:fc (yT a)<|bE b:=⟨fun _=>rfl,(fun e=>by cases e),fun e=>by cases e⟩
theorem lM{a b:Nat}{s t:Tr AV}{z w:List AV}:fc (.cells a s z)<|.cells b t w:=⟨fun _=>rfl,(fun e=>by cases e),fun e=>by cases e⟩
theorem mi{α:Type}{l:List α}{a:α}(j:Nat)(h:l[j]? =some a:=by rfl):a∈l:=TY h
theorem rq{m n:Nat}(hr:r=mF ps lo aP)(h:mF ps lo aP m=n:=by as_aux_lemma=>kernel_rfl):r m=n:=by rw[hr];exact h
theorem vi{k:IntKind}{n:Int}:gE [] r (.int k n)<|.int k n:=(aZ.int _ _).z
theorem lI{m n:Nat}{x y:ah}(hm:(n,some x)∈o0)(hr:r m=n)(kp:fc x y)(ent:dT [] r x y)(pl:y.iA=true:=by rfl):∀z,some y=some z->z.iA=true/\∃x,(r m,some x)∈o0/\fc x z/\dT [] r x z:=fun z e=>by cases e;exact⟨pl,x,by rw[hr];exact hm,kp,ent⟩
theorem ahO{N M:Nat}{l m:List AV}(h:lz [] r l m)(hN:l.length=N:=by rfl)(hM:m.length=M:=by rfl)(hl:Tw N top=true:=by as_aux_lemma=>kernel_rfl)(h1:m.all AV.bM=true:=by rfl):dT [] r (.cells N (Tr.fill l 0 .nil) [])<|.cells M (Tr.fill m 0 .nil) []:=by subst hN;subst hM;exact dT.cells (aI.1 hl) h h1
abbrev RnT(lo aP nx:Nat)(l0:List<|Nat×AV)(o0:List<|Nat×Option ah)(l1:List<|Nat×AV)(o1:List<|Nat×Option ah)(fr:AF)(s:AS):Prop:=(l0.map (fun q=>some q.2)=l0.map (fun q=>some q.2))/\((aq++o0).map (fun q=>q.2)=(aq++o0).map (fun q=>q.2))/\fy FU lo aP l0 (aq++o0) l1 (aq++o1) nx/\(fr=fr/\s=s)
end iL
namespace ia
open cj fq RG iL u0
variable {v x:Int} {r:Nat->Nat} {g nt i:Nat} {p:Option Code} {o0:List<|Nat×Option ah} {kK:bp} {oC:cx}
section
variable {B:aE} {ms:bp} {cap:cx}
theorem iQ{l:bp}(h:1<=l.length/\l.length<=6):(∃m0,l=[m0])\/(∃m0 m1,l=[m0,m1])\/(∃m0 m1 m2,l=[m0,m1,m2])\/(∃m0 m1 m2 m3,l=[m0,m1,m2,m3])\/(∃m0 m1 m2 m3 m4,l=[m0,m1,m2,m3,m4])\/∃m0 m1 m2 m3 m4 m5,l=[m0,m1,m2,m3,m4,m5]:=by
 match l,h with
 |[a],_=>exact .inl ⟨_,rfl⟩
 |[a,b],_=>exact .inr<|.inl ⟨_,_,rfl⟩
 |[a,b,c],_=>exact .inr<|.inr<|.inl ⟨_,_,_,rfl⟩
 |[a,b,c,d],_=>exact .inr<|.inr<|.inr<|.inl ⟨_,_,_,_,rfl⟩
 |[a,b,c,d,e],_=>exact .inr<|.inr<|.inr<|.inr<|.inl ⟨_,_,_,_,_,rfl⟩
 |[a,b,c,d,e,f],_=>exact .inr<|.inr<|.inr<|.inr<|.inr ⟨_,_,_,_,_,_,rfl⟩
 |[],h=>simp at h
 |_::_::_::_::_::_::_::_,h=>simp at h
theorem Hw{l:bp}(h:1<=l.length/\l.length<=7):l.length<=6\/∃m0 m1 m2 m3 m4 m5 m6,l=[m0,m1,m2,m3,m4,m5,m6]:=by
 match l,h with
 |[a,b,c,d,e,f,g],_=>exact .inr ⟨_,_,_,_,_,_,_,rfl⟩
 |[],_|[_],_|[_,_],_|[_,_,_],_|[_,_,_,_],_|[_,_,_,_,_],_|[_,_,_,_,_,_],_=>exact .inl (by simp)
 |_::_::_::_::_::_::_::_::l,h=>simp only[TL] at h;omega
theorem af8(h:dz ms){nx:Nat}:∀m p,(m,p)∈ey ms cap->(aj (aq++bf (ey ms cap)) nx).h.get m=some p:=fun m p hm=>by
 rcases(Hw h.1).imp (fun q=>iQ ⟨h.1.1,q⟩) id with(⟨m0,rfl⟩|⟨m0,m1,rfl⟩|⟨m0,m1,m2,rfl⟩|⟨m0,m1,m2,m3,rfl⟩|⟨m0,m1,m2,m3,m4,rfl⟩|⟨m0,m1,m2,m3,m4,m5,rfl⟩)|⟨m0,m1,m2,m3,m4,m5,m6,rfl⟩
 all_goals
  simp only[ey,qW,Ty,TV,or_false] at hm
  repeat' (rcases hm with hm|hm)
  all_goals kernel_rfl
theorem Mr(nx:Nat)(h:dz ms)(hc:pC ms.length cap)(y:AV):rz 3 y (bZ ms) (aj (aq++bf (ey ms cap)) nx) y:=⟨rfl,_,.buf _ h cap hc,af8 h⟩
def lA:bp->Int->Int->bp
 |[],_,_=>[]
 |[m],v,x=>[gf m v x]
 |m::m'::l,v,x=>m::lA (m'::l) v x
def gA:bp->bp
 |[]=>[]
 |[m]=>[m]
 |[m,m']=>[fM m m']
 |m::m'::Bo::l=>m::gA (m'::Bo::l)
def yK:bp->List (Int×Int)
 |[]=>[]
 |[m]=>m
 |_::l=>yK l
def gB(ms:bp)(v:Int):Nat->Option Int
 |0=>none
 |n+1=>if lU (ms.getD n []) v=true then some (getM (ms.getD n []) v) else gB ms v n
def lD(ms:bp)(v:Int):Int×Bool:=((gB ms v ms.length).getD 0,(gB ms v ms.length).isSome)
theorem af9{l:bp}{m:List<|Int×Int}(h:dz<|l++[m]):dz<|l++[gf m v x]:=by
 obtain⟨h1,h2⟩:=h;rw[TM] at h1;refine⟨by rw[TM];exact h1,fun q hq=>?_⟩;rcases TP.1 hq with hq|hq
 ·exact h2 q<|T7 _ hq
 ·rw[TC] at hq;subst hq;exact eK.set (h2 m<|TU _<|TC.2 rfl) v x
theorem ajp{l:bp}{m:List<|Int×Int}:lA (l++[m]) v x=l++[gf m v x]:=by
 induction l with
 |nil=>rfl
 |cons y l ih=>
  cases l with
  |nil=>rfl
  |cons z l=>show y::lA (z::(l++[m])) v x=_;rw[show(z::(l++[m]):bp)=(z::l)++[m] from rfl,ih];rfl
theorem OC{b:bp}(h:dz b)(v x:Int):dz<|lA b v x:=by
 have cz:b≠[]:=fun e=>by have:=h.1.1;rw[e] at this;simp only[Ub] at this;omega
 rw[←List.dropLast_concat_getLast cz] at h ⊢;rw[ajp];exact af9 h
theorem Jl:∀(b:bp) (v x:Int),(lA b v x).length=b.length
 |[],_,_|[_],_,_=>rfl
 |m::m'::l,v,x=>congrArg (· +1)<|Jl (m'::l) v x
theorem PN(h:dz ms)(h6:ms.length<7):dz<|ms++[[]]:=by
 refine⟨by rw[TM];show 1<=ms.length+1/\ms.length+1<=7;omega,fun m hm=>?_⟩;rcases TP.1 hm with hm|hm
 ·exact h.2 m hm
 ·rw[TC] at hm;subst hm;exact UD
theorem PO(h:dz ms)(h2:2<=ms.length):dz ms.dropLast:=by refine⟨by rw[Wu];have:=h.1.2;omega,fun m hm=>h.2 m<|Wv _ hm⟩
theorem I8:∀ms:bp,2<=ms.length->(gA ms).length+1=ms.length
 |[],h=>by simp at h
 |[_],h=>by simp at h
 |[_,_],_=>rfl
 |m::m'::Bo::l,_=>by have:=I8 (m'::Bo::l) (by simp);show(gA<|m'::Bo::l).length+1+1=(m'::Bo::l).length+1;rw[this]
theorem aaf:∀ms:bp,(∀m∈ms,eK m)->∀m∈gA ms,eK m
 |[],h,m,hm=>by cases hm
 |[a],h,m,hm=>h m hm
 |[a,b],h,m,hm=>by rw[show gA [a,b]=[fM a b] from rfl,TC] at hm;subst hm;exact eK.merge (h a<|by simp)
 |a::b::c::l,h,m,hm=>by
  have hm:m∈a::gA (b::c::l):=hm;rcases Ty.1 hm with rfl|hm
  ·exact h _ (by simp)
  ·exact aaf (b::c::l) (fun q hq=>h q<|TB _ hq) m hm
theorem JV(h:dz ms)(h2:2<=ms.length):dz<|gA ms:=⟨by have:=I8 ms h2;have:=h.1.2;omega,aaf ms h.2⟩
theorem O4(h:dz ms):∀p∈ey ms cap,p.1<279:=fun p hp=>by
 have h6:=h.1.2;rcases Ty.1 hp with rfl|hp
 ·show 270<279;omega
 rcases Ty.1 hp with rfl|hp
 ·show 271<279;omega
 ·have:=(Jz hp).2.1;omega
abbrev SB(B:aE)(g nt:Nat)(rs:List ResultVar)(args:List AV)(ms:bp)(cap:cx)(y:AV)(kK:bp):Prop:=av pg B 271 (kB XT pg rs 3 y<|bZ kK) ⟨g,dZ<|.ptr (some (270,0))::args,nt,[.code<|aL pg g []],[],none⟩<|aj (aq++bf (ey ms cap)) 279
theorem ala(mc:Mt [] B)(h:dz ms)(hc:pC ms.length cap)(k:((some (bE<|yK ms)=some (bE<|yK ms))/\rz 3 (.int .i64 0) (bZ<|lA ms v x) (aj (aq++bf (ey (lA ms v x) cap)) 279) (.int .i64 0))=wp (pM []) 900 6 (.fr 54 (max Tryd.f54.ntmps 3) (dh 54 []) (dZ [.ptr<|some (270,0),.int .i64 v,.int .i64 x])<|aj (aq++bf (ey ms cap)) 279) (.st 8<|.rg<|.go 14<|.MT (yK ms)<|.en<|.rt 3 .no) (aC Tryd.f54) (fun y s _=>rz 3 (.int .i64 0) (bZ<|lA ms v x) s y) (fun _ _ _=>False):=by as_aux_lemma=>kernel_rfl):
 SB B 54 (max Tryd.f54.ntmps 3) (aC Tryd.f54) [.int .i64 v,.int .i64 x] ms cap (.int .i64 0) (lA ms v x):=
 F1 mc _ ⟨rfl,Mr 279 (OC h v x) (by rw[Jl];exact hc)<|.int .i64 0⟩ k cf
theorem aeE(mc:Mt [] B)(h:dz ms)(hc:pC ms.length cap)(h6:ms.length<=6):SB B 54 (max Tryd.f54.ntmps 3) (aC Tryd.f54) [.int .i64 v,.int .i64 x] ms cap (.int .i64 0)<|lA ms v x:=by rcases iQ ⟨h.1.1,h6⟩ with⟨m0,rfl⟩|⟨m0,m1,rfl⟩|⟨m0,m1,m2,rfl⟩|⟨m0,m1,m2,m3,rfl⟩|⟨m0,m1,m2,m3,m4,rfl⟩|⟨m0,m1,m2,m3,m4,m5,rfl⟩<;>exact ala mc h hc
abbrev KA(L:bV)(g:Nat)(f:Func)(ms:bp)(cap:cx)(path:List Nat)(kK:bp)(oC:cx)(p:Pl):Prop:=wp (pM L) 900 6 (.fr g (max f.ntmps 1) [.code<|aL pg g []] (dZ [.ptr<|some (270,0)])<|aj (aq++bf (ey ms cap)) 279) p f.results.toList (fun y s _=>rz 3 (.int .i64 0) (bZ kK) s y) fun fr s1 _=>fr=⟨g,aA [(2,i0)],max f.ntmps 1,[.code<|aL pg g path],[],none⟩/\s1=aj (aq++bf (ey kK oC)) 279
abbrev Nf(kK:bp)(oC:cx):Prop:=rz 3 (.int .i64 0) (bZ kK) (aj (aq++bf (ey kK oC)) 279)<|.int .i64 0
abbrev KB(L:bV)(g:Nat)(f:Func)(path:List Nat)(kK:bp)(oC:cx):Prop:=wp (pM L) 900 6 (.fr g (max f.ntmps 1) [.code<|aL pg g path] (aA [(2,i0)])<|aj (aq++bf (ey kK oC)) 279) (.rt 1 .no) f.results.toList (fun y s _=>rz 3 (.int .i64 0) (bZ kK) s y) fun _ _ _=>False
theorem Qg{L:bV}{f:Func}(path:List Nat)(mc:Mt L B)(h':dz kK)(SE:pC kK.length oC)(p:Pl){T:Prop}(x:T)(k:T=KA L g f ms cap path kK oC p:=by as_aux_lemma=>kernel_rfl)(k2:Nf kK oC=KB L g f path kK oC:=by as_aux_lemma=>kernel_rfl):
 SB B g (max f.ntmps 1) f.results.toList [] ms cap (.int .i64 0) kK:=
 Dt mc (fun fr s1 _ hC=>by obtain⟨rfl,rfl⟩:=hC;exact F1 mc _ (Mr 279 h' SE _) k2 cf) p x k cf
abbrev IS(aP:Nat)(o0:List<|Nat×Option ah)(kK:bp)(oC:cx)(g nt:Nat)(path:List Nat):Prop:=RnT 271 aP 279 [(2,i0)] o0 [(2,i0)] (bf<|ey kK oC) ⟨g,aA [(2,i0)],nt,[.code<|aL pg g path],[],none⟩<|aj (aq++bf (ey kK oC)) 279
theorem Ze{ps:List<|Nat×Nat}{aP:Nat}{path:List Nat}(h:∀r,r=mF ps 271 aP->Bn r o0 (bf<|ey kK oC))(h1:Bm ps 271 aP 279 ((bf<|ey kK oC).map (·.1))=true:=by as_aux_lemma=>kernel_rfl)(h2:Mq ps=true:=by as_aux_lemma=>kernel_rfl):IS aP o0 kK oC g nt path:=⟨rfl,rfl,LJ (ps:=ps) ae h1 h2 (fun r hr ht=>⟨⟨by unfold top;omega,_,mi 0,vi⟩,trivial⟩) fun r hr _=>h r hr,rfl,rfl⟩
def F8(n:Nat):List<|Nat×Nat:=(271,281)::(272+n,279)::(Ui n).map fun i=>(272+i,272+i)
def SF(ms:bp):List<|Nat×Option ah:=(270,some<|az iB [.slice (some (281,0)) (ms.length+1)<|.au (ms.length+1) 1])::(281,some<|az iB<|kq ms.length++[.map<|some 279])::(279,some<|yT [])::bf (qW 272 ms)
theorem Hc(l:List AV):(l.map iB).flatten=l:=Cw l
theorem H9{l m:List AV}(h:lz [] r l m)(hl:l.length<=8)(h1:m.all AV.bM=true):dT [] r (az iB l)<|az iB m:=by show dT [] r (.cells (l.map iB).flatten.length (Tr.fill (l.map iB).flatten 0 .nil) [])<|.cells (m.map iB).flatten.length (Tr.fill (m.map iB).flatten 0 .nil) [];rw[Hc,Hc];exact dT.cells dV h h1
theorem O5(n:Nat):(kq n).all AV.bM=true:=by rw[kq,List.all_map,TG];exact fun _ _=>rfl
theorem O6(n:Nat):(kq n).length=n:=by rw[kq,T3,Ws]
theorem oeM{m:Nat}{l:List<|Int×Int}(q:r m=m)(hm:(m,some<|bE l)∈o0:=by repeat first|exact TA|apply TB):∀z,some (bE l)=some z->z.iA=true/\∃x,(r m,some x)∈o0/\fc x z/\dT [] r x z:=lI hm q ajy ak9
theorem ajz(mc:Mt [] B)(h:dz<|ms++[[]])(w1:∀r,r=mF (F8 ms.length) 271 282->lz [] r (kq ms.length++[.map<|some 279]) (kq (ms++[[]]).length))(w2:∀r,r=mF (F8 ms.length) 271 282->Bn r (SF ms) (bf<|qW 272<|ms++[[]]))(k:IS 282 (SF ms) (ms++[[]]) (.au (ms.length+1) 1) 56 (max Tryd.f56.ntmps 1) [1,1,1,1]=KA [] 56 Tryd.f56 ms cap [1,1,1,1] (ms++[[]]) (.au (ms.length+1) 1) (.st 11<|.rn [(2,i0)] (aq++SF ms) [(2,i0)] (aq++bf (ey (ms++[[]])<|.au (ms.length+1) 1)) 282 279 .no):=by as_aux_lemma=>kernel_rfl)(h1:Bm (F8 ms.length) 271 282 279 ((bf<|ey (ms++[[]])<|.au (ms.length+1) 1).map (·.1))=true:=by as_aux_lemma=>kernel_rfl)(h2:Mq (F8 ms.length)=true:=by as_aux_lemma=>kernel_rfl)(q0:mF (F8 ms.length) 271 282 270=270:=by as_aux_lemma=>kernel_rfl)(q1:mF (F8 ms.length) 271 282 271=281:=by as_aux_lemma=>kernel_rfl)(k2:Nf (ms++[[]]) (.au (ms.length+1) 1)=KB [] 56 Tryd.f56 [1,1,1,1] (ms++[[]]) (.au (ms.length+1) 1):=by as_aux_lemma=>kernel_rfl):
 SB B 56 (max Tryd.f56.ntmps 1) (aC Tryd.f56) [] ms cap (.int .i64 0) (ms++[[]]):=by
 have hl:(ms++[[]]).length=ms.length+1:=by rw[TM];rfl
 have h7:=h.1.2;refine Qg [1,1,1,1] mc h (.inl<|by rw[hl]) _ (Ze (fun r hr=>⟨lI (mi 0) (rq hr q0) lM<|H9 (l:=[.slice (some (281,0)) (ms.length+1)<|.au (ms.length+1) 1]) ⟨?_,trivial⟩ (by simp) rfl,lI (mi 1) (rq hr q1) lM<|H9 (w1 r hr) ?_<|O5 _,w2 r hr⟩) h1 h2) k k2
 ·rw[hl];exact(aZ.slice<|rq hr q1).z
 ·rw[TM,O6];show ms.length+1<=8;omega
theorem adr(mc:Mt [] B)(h:dz ms)(hc:pC ms.length cap)(h6:ms.length<=6):SB B 56 (max Tryd.f56.ntmps 1) (aC Tryd.f56) [] ms cap (.int .i64 0)<|ms++[[]]:=by
  have h2:=PN h ae
  rcases iQ ⟨h.1.1,h6⟩ with⟨m0,rfl⟩|⟨m0,m1,rfl⟩|⟨m0,m1,m2,rfl⟩|⟨m0,m1,m2,m3,rfl⟩|⟨m0,m1,m2,m3,m4,rfl⟩|⟨m0,m1,m2,m3,m4,m5,rfl⟩
  all_goals rcases hc with rfl|⟨e,rfl⟩
  all_goals first
    |(cases e;done)
    | (refine ajz mc h2 (fun r hr=>?_) fun r hr=>?_
       · repeat' first|exact trivial|refine⟨(aZ.map<|rq hr).z,?_⟩
       · repeat' first|exact trivial|refine⟨lI (n:=279) (mi 2) (rq hr) Qf<|Q3 UD,?_⟩|refine⟨oeM<|rq hr,?_⟩)
theorem ana{α:Type}{f g:α->AV}:∀{l:List α},(∀i∈l,gE [] r (f i)<|g i)->lz [] r (l.map f) (l.map g)
 |[],_=>trivial
 |_::_,h=>⟨h _ TA,ana fun i hi=>h i<|TB _ hi⟩
theorem Zf{r:Nat->Nat}{o0:List<|Nat×Option ah}:∀{ms:bp} {k:Nat},(∀p∈qW k ms,(p.1,some p.2)∈o0)->(∀i,i<ms.length->r (k+i)=k+i)->Bn r o0 (bf<|qW k ms)
 |[],_,_,_=>trivial
 |m::ms,k,h,q=>⟨oeM (m:=k) (q 0<|Uu _)<|h _ TA,Zf (fun p hp=>h p<|TB _ hp) fun i hi=>by have:=q (i+1)<|Nat.succ_lt_succ hi;rwa[show k+1+i=k+(i+1) by omega]⟩
theorem anb:∀{l:List<|Nat×ah} {p:Nat×ah},p∈l->(p.1,some p.2)∈bf l
 |_::l,p,h=>by
  rcases Ty.1 h with rfl|h
  ·exact TA
  ·exact TB _<|anb h
def Ng:List<|Nat×Nat:=[(271,271),(272,272),(273,273),(274,274),(275,275),(276,276),(277,277)]
theorem Yz(hr:r=mF Ng 271 279)(i:Nat)(h:i<6):r (272+i)=272+i:=by rcases(by omega:i=0\/i=1\/i=2\/i=3\/i=4\/i=5) with rfl|rfl|rfl|rfl|rfl|rfl<;>exact rq hr
def IT(ms:bp):List<|Nat×Option ah:=(270,some<|az iB [.slice (some (271,0)) ms.length<|.au (ms.length+1) 1])::(271,some<|az iB<|kq<|ms.length+1)::bf (qW 272 ms)
theorem WZ{path:List Nat}(h:dz ms)(h6:ms.length<=6)(h1:Bm Ng 271 279 279 ((bf<|ey ms<|.au ms.length 1).map (·.1))=true:=by as_aux_lemma=>kernel_rfl):IS 279 (IT ms) ms (.au ms.length 1) g nt path:=by refine Ze (fun r hr=>⟨lI (mi 0) (rq hr) lM<|H9 (l:=[.slice (some (271,0)) ms.length<|.au (ms.length+1) 1]) ⟨(af7 (rq hr) ae ae).z,trivial⟩ (by simp) rfl,lI (mi 1) (rq hr) lM ?_,Zf (fun p hp=>TB _<|TB _<|anb hp) fun i hi=>Yz hr i ae⟩) h1;show dT [] r (.cells ((kq<|ms.length+1).map iB).flatten.length (Tr.fill ((kq<|ms.length+1).map iB).flatten 0 .nil) [])<|.cells ((kq ms.length).map iB).flatten.length (Tr.fill ((kq ms.length).map iB).flatten 0 .nil) [];rw[Hc,Hc,show kq (ms.length+1)=kq ms.length++[.map<|some<|272+ms.length] by rw[kq,List.range_succ,Vm];rfl];exact amt (by rw[TM,O6];show ms.length+1<=top;unfold top;omega) (ana fun i hi=>(aZ.map<|Yz hr i (by have:=Uz.1 hi;omega)).z)<|O5 _
theorem ajA(mc:Mt [] B)(h:dz ms.dropLast)(h6:ms.dropLast.length<=6)(h1:Bm Ng 271 279 279 ((bf<|ey ms.dropLast<|.au ms.dropLast.length 1).map (·.1))=true:=by as_aux_lemma=>kernel_rfl)(k:IS 279 (IT ms.dropLast) ms.dropLast (.au ms.dropLast.length 1) 55 (max Tryd.f55.ntmps 1) [1,1,1]=KA [] 55 Tryd.f55 ms cap [1,1,1] ms.dropLast (.au ms.dropLast.length 1) (.st 3<|.rg<|.go 1<|.il<|.rt 19<|.go 5<|.en<|.st 2<|.rn [(2,i0)] (aq++IT ms.dropLast) [(2,i0)] (aq++bf (ey ms.dropLast<|.au ms.dropLast.length 1)) 279 279 .no):=by as_aux_lemma=>kernel_rfl)(k2:Nf ms.dropLast (.au ms.dropLast.length 1)=KB [] 55 Tryd.f55 [1,1,1] ms.dropLast (.au ms.dropLast.length 1):=by as_aux_lemma=>kernel_rfl):
 SB B 55 (max Tryd.f55.ntmps 1) (aC Tryd.f55) [] ms cap (.int .i64 0) ms.dropLast:=
 Qg [1,1,1] mc h (.inl rfl) _ (WZ h h6 h1) k k2
theorem ads(mc:Mt [] B)(h:dz ms)(hc:pC ms.length cap)(h2:2<=ms.length)(h6:ms.length<=6):SB B 55 (max Tryd.f55.ntmps 1) (aC Tryd.f55) [] ms cap (.int .i64 0) ms.dropLast:=by
 have q:=PO h h2;have q6:ms.dropLast.length<=6:=by rw[Wu];omega
 rcases hc with rfl|⟨e,_⟩
 rotate_left
 ·omega
 rcases iQ ⟨h.1.1,h6⟩ with⟨m0,rfl⟩|⟨m0,m1,rfl⟩|⟨m0,m1,m2,rfl⟩|⟨m0,m1,m2,m3,rfl⟩|⟨m0,m1,m2,m3,m4,rfl⟩|⟨m0,m1,m2,m3,m4,m5,rfl⟩
 ·simp at h2
 all_goals exact ajA mc q q6
def SG(a b:Nat)(m1 m2:List<|Int×Int)(s:AS):AS:=fN b (some<|bE m2)<|fN a (some<|bE<|fM m1 m2)<|aU b<|aU a<|de 270 dk dK s
def Dx(ms:bp):AS:=⟨gm<|aq++(270,some<|az iB [.slice (some (271,0)) (ms.length - 1)<|.au ms.length 1])::(271,some<|az iB<|kq ms.length)::bf (qW 272 ms),279,279,[],[]⟩
abbrev tMg(ms:bp):AS:=SG (272+(ms.length - 2)) (272+(ms.length - 1)) (yK ms.dropLast) (yK ms)<|Dx ms
theorem OD:∀{ms:bp},(∀m∈ms,eK m)->eK (yK ms)
 |[],_=>UD
 |[m],h=>h m TA
 |_::m::l,h=>OD (ms:=m::l) fun q hq=>h q<|TB _ hq
theorem ahP(mc:Mt [Bl] B)(h0:dz ms)(hn:2<=ms.length)(h:dz<|gA ms)(h6:(gA ms).length<=6)(h1:Bm Ng 271 279 279 ((bf<|ey (gA ms)<|.au (gA ms).length 1).map (·.1))=true:=by as_aux_lemma=>kernel_rfl)(hk:nu 270 dk dK (Dx ms)=true:=by as_aux_lemma=>kernel_rfl)(ha:Tv (272+(ms.length - 2)) (de 270 dk dK<|Dx ms).nx=true:=by as_aux_lemma=>kernel_rfl)(hb:Tv (272+(ms.length - 1)) (de 270 dk dK<|Dx ms).nx=true:=by as_aux_lemma=>kernel_rfl)(g1:(de 270 dk dK<|Dx ms).h.get (272+(ms.length - 2))=some (bE<|yK ms.dropLast):=by as_aux_lemma=>kernel_rfl)(g2:(de 270 dk dK<|Dx ms).h.get (272+(ms.length - 1))=some (bE<|yK ms):=by as_aux_lemma=>kernel_rfl)(k:(ba pg (sp [Bl]) FU 6 (.fn 59) [.map<|some<|272+(ms.length - 2),.map<|some<|272+(ms.length - 1)] (Dx ms)= .ok (.tuple []) (tMg ms)/\IS 279 (IT<|gA ms) (gA ms) (.au (gA ms).length 1) 58 (max Tryd.f58.ntmps 1) [1,1,1,1])=KA [Bl] 58 Tryd.f58 ms cap [1,1,1,1] (gA ms) (.au (gA ms).length 1) (.st 3<|.rg<|.go 1<|.il<|.rt 19<|.go 5<|.en<|.st 4<|.rg<|.go 13<|.cu (.tuple []) (tMg ms)<|.en<|.st 2<|.rn [(2,i0)] (aq++IT (gA ms)) [(2,i0)] (aq++bf (ey (gA ms)<|.au (gA ms).length 1)) 279 279 .no):=by as_aux_lemma=>kernel_rfl)(k2:Nf (gA ms) (.au (gA ms).length 1)=KB [Bl] 58 Tryd.f58 [1,1,1,1] (gA ms) (.au (gA ms).length 1):=by as_aux_lemma=>kernel_rfl):
 SB B 58 (max Tryd.f58.ntmps 1) (aC Tryd.f58) [] ms cap (.int .i64 0) (gA ms):=
 have h7:=h0.1.2
 Qg [1,1,1,1] mc h (.inl rfl) _ ⟨WL (P:=pg) (sp:=sp [Bl]) aV hk ae ha hb HW HW g1 g2 (OD fun m hm=>h0.2 m<|Wv _ hm)<|OD h0.2,WZ h h6 h1⟩ k k2
theorem N5(mc:Mt [Bl] B)(h:dz ms)(hc:pC ms.length cap)(h2:2<=ms.length):SB B 58 (max Tryd.f58.ntmps 1) (aC Tryd.f58) [] ms cap (.int .i64 0)<|gA ms:=by
 have q:=JV h h2;have q6:(gA ms).length<=6:=by have:=I8 ms h2;have:=h.1.2;omega
 rcases hc with rfl|⟨e,_⟩
 rotate_left
 ·omega
 rcases(Hw h.1).imp (fun q=>iQ ⟨h.1.1,q⟩) id with(⟨m0,rfl⟩|⟨m0,m1,rfl⟩|⟨m0,m1,m2,rfl⟩|⟨m0,m1,m2,m3,rfl⟩|⟨m0,m1,m2,m3,m4,rfl⟩|⟨m0,m1,m2,m3,m4,m5,rfl⟩)|⟨m0,m1,m2,m3,m4,m5,m6,rfl⟩
 ·simp at h2
 all_goals exact ahP mc h h2 q q6
def IU:Code:=aL pg 31 [1,1,0,1,0,0]
def Dy:Code:=aL pg 31 [1,1,0,1,0,1]
def iz:List<|Nat×AV:=[(3,(.ptr<|some (279,0))),(4,(.ptr<|some (280,0))),(5,(.ptr<|some (281,0))),(12,(.func (.func 74) [] [(.ptr<|some (282,0))]))]
def oG(n:Nat)(cap:cx)(x:Nat->Option ah)(v:Int)(w1 w2:AV):List<|Nat×Option ah:=aq++[(270,some<|Y8 n cap),(271,some<|az iB<|kq n),(272,x 0),(273,x 1),(274,x 2),(275,x 3),(276,x 4),(277,x 5),(279,some<|fe<|.int .i64 v),(280,some<|fe w1),(281,some<|fe w2),(282,some<|.cells 1 (Tr.fill [.ptr<|some (270,0)] 0 .nil) [])]
def sG(n:Nat)(cap:cx)(x:Nat->Option ah)(v:Int)(w1 w2:AV)(st:LoopState)(p:Option Code):AS:=aj (oG n cap x v w1 w2++[(283,some .defs),(284,some<|.loop st p 31 (aA iz) 22 [13] IU Dy 283)]) 285
abbrev rN(n:Nat)(cap:cx)(x:Nat->Option ah)(v:Int):AS:=sG n cap x v (.int .i64 0) (.bool false) .ready none
def pQ(n:Nat)(cap:cx)(x:Nat->Option ah)(v:Int):Option Int->AS
 |none=>rN n cap x v
 |some z=>sG n cap x v (.int .i64 z) (.bool true) .done<|some .ret
def oI(b:Bool)(z:Int):Option Int:=match b with
 |true=>some z
 |false=>none
def bP(b:Bool)(p q:Prop):Prop:=match b with
 |true=>p
 |false=>q
theorem rgT{A L:Prop}{m:List<|Int×Int}(b:Bool)(a:A)(hh:lU m v=b)(l:L):A/\((lU m v=true->bP b L False)/\(lU m v=false->bP b False L)):=by subst hh;refine⟨a,fun h=>?_,fun h=>?_⟩<;>(rw[h];exact l)
abbrev zu(n:Nat)(cap:cx)(x:Nat->Option ah)(v:Int)(i:Nat)(s:AS)(y:AV):Prop:=ba pg (sp []) FU 5 (.round 284) [.map<|some<|272+i] (rN n cap x v)= .ok y s
theorem rgW{n:Nat}{cap:cx}{x:Nat->Option ah}{m:List<|Int×Int}(b:Bool)(hx:x i=some (bE m))(hh:lU m v=b)(k1:getLoop 284 (rN n cap x v)= .ok (.loop .ready none 31 (aA iz) 22 [13] IU Dy 283) (rN n cap x v):=by as_aux_lemma=>kernel_rfl)(k2:eL pg (ba pg (sp []) FU 4) 2 ⟨31,jN [13] [.map<|some<|272+i]<|aA iz,22,[.code IU,.beginRound,.code Dy],[],some 284⟩ (rN n cap x v)= .ok (.go ⟨31,((jN [13] [.map<|some<|272+i]<|aA iz).put 6<|some<|.map<|some<|272+i),22,[.code Dy],[],some 284⟩) (sG n cap x v (.int .i64 0) (.bool false) .busy none):=by as_aux_lemma=>kernel_rfl)(k:((x i=some (bE m))/\((lU m v=true->bP b ((none:Option Nat)=none/\([]:List Nat)=[]/\(some (.bool !b,pQ n cap x v<|oI b<|getM m v):Option<|AV×AS)=some (.bool !b,pQ n cap x v<|oI b<|getM m v)) False)/\(lU m v=false->bP b False ((none:Option Nat)=none/\([]:List Nat)=[]/\(some (.bool !b,pQ n cap x v<|oI b<|getM m v):Option<|AV×AS)=some (.bool !b,pQ n cap x v<|oI b<|getM m v)))))=wp (kX []) 900 4 (.fr 31 22 [.code Dy] ((jN [13] [.map<|some<|272+i]<|aA iz).put 6<|some<|.map<|some<|272+i)<|sG n cap x v (.int .i64 0) (.bool false) .busy none) (.st 2<|.rg<|.go 2<|.ZR m (@Bool.rec (fun _=>Pl) .no (.go 5<|.en<|.st 5<|.cut .no) b)<|@Bool.rec (fun _=>Pl) (.go 5<|.en<|.st 5<|.cut .no) .no b) [] (fun _ _ _=>False)
 (fun fr s1 _=>fr.round=none/\fr.defers=[]/\B3 pg (ba pg (sp []) FU 4) 284 fr s1=some (.bool !b,pQ n cap x v<|oI b<|getM m v)):=by as_aux_lemma=>kernel_rfl):zu n cap x v i (pQ n cap x v<|oI b<|getM m v)<|.bool !b:=
 Gk k1 rfl (Chunk.ev 2 _ _ _ _ k2<|Eb (E:=kX []) fw rfl (fun fr s p h=>Gj h.1 h.2.1 h.2.2) 900 _ (rgT b hx hh<|IL _ _) k)
theorem W0{n:Nat}{cap:cx}{x:Nat->Option ah}{m:List<|Int×Int}(b:Bool)(hi:i<6)(hx:x i=some (bE m))(hh:lU m v=b):zu n cap x v i (pQ n cap x v<|oI b<|getM m v)<|.bool !b:=by rcases(by omega:i=0\/i=1\/i=2\/i=3\/i=4\/i=5) with rfl|rfl|rfl|rfl|rfl|rfl<;>cases b<;>exact rgW _ hx hh
def pD(s0 sE:AS)(b:Bool):Nat->Nat->Pl
 |j,0=> @Bool.rec (fun _=>Pl) (.rt 11 .no) (.st j<|.rg<|.go 8<|.cy (.bool false) sE<|.go 1<|.en<|.rt 2 .no) b
 |j,k+1=>.st j<|.rg<|.go 8<|.cy (.bool true) s0<|.go 1<|.en<|pD s0 sE b 13 k
def TD(n:Nat)(cap:cx)(x:Nat->Option ah)(v z:Int)(b:Bool):Nat->Nat->Prop
 |i,0=>bP b (zu n cap x v (i - 1) (pQ n cap x v<|some z) (.bool false)/\(AV.tuple []= .tuple []/\pQ n cap x v (some z)=pQ n cap x v (some z)))<|AV.tuple []= .tuple []/\rN n cap x v=rN n cap x v
 |i,k+1=>zu n cap x v (i - 1) (rN n cap x v) (.bool true)/\TD n cap x v z b (i - 1) k
def xB(ms:bp)(i:Nat):Option ah:=(ms[i]?).map bE
theorem W1{n:Nat}{v:Int}(h6:ms.length<=6):∀i,i<=ms.length->∃k b z,((b=true/\k<i)\/(b=false/\k=i))/\gB ms v i=oI b z/\TD n cap (xB ms) v z b i k
 |0,_=>⟨0,false,0,.inr ⟨rfl,rfl⟩,rfl,rfl,rfl⟩
 |i+1,hi=>by
  have hx:xB ms i=some (bE<|ms.getD i []):=by unfold xB;rw[T9,TE ae];rfl
  cases hh:lU (ms.getD i []) v with
  |true=>exact⟨0,true,getM (ms.getD i []) v,.inl ⟨rfl,by omega⟩,by unfold gB;rw[hh];rfl,W0 true ae hx hh,rfl,rfl⟩
  |false=>obtain⟨k,b,z,h1,h2,h3⟩:=W1 (n:=n) h6 i ae;exact⟨k+1,b,z,h1.imp (fun h=>⟨h.1,by omega⟩) fun h=>⟨h.1,by omega⟩,by rw[←h2,gB,hh];rfl,W0 false ae hx hh,h3⟩
abbrev SH(s0 sE:AS):Prop:=ba pg (sp []) FU 6 (.fn 74) [.yield 284,.ptr<|some (282,0)] s0= .ok (.tuple []) sE
theorem dnW{n:Nat}{x:Nat->Option ah}{z:Int}{b:Bool}{k:Nat}(h:TD n cap x v z b n k)(q:TD n cap x v z b n k=wp (kX []) 900 5 (.fr 74 (max Tryd.f74.ntmps 2) (dh 74 []) (dZ [.yield 284,.ptr<|some (282,0)])<|rN n cap x v) (pD (rN n cap x v) (pQ n cap x v<|some z) b 12 k) (aC Tryd.f74) (fun y s _=>y= .tuple []/\s=pQ n cap x v (oI b z)) (fun _ _ _=>False):=by as_aux_lemma=>kernel_rfl):SH (rN n cap x v)<|pQ n cap x v<|oI b z:=by obtain⟨y,s2,q1,rfl,rfl⟩:=tA.call (E:=kX []) (n:=5) (args:=[.yield 284,.ptr<|some (282,0)]) Tryd.func74 (GL Tryd.func74 cf)<|Hs (R:=fun y s=>y= .tuple []/\s=pQ n cap x v (oI b z)) (C:=fun _ _ _=>False) fw rfl (fun _ _ _ h=>h.elim) 900 _ h q;exact q1
theorem aga(h:1<=ms.length/\ms.length<=6):SH (rN ms.length cap (xB ms) v)<|pQ ms.length cap (xB ms) v<|gB ms v ms.length:=by
 obtain⟨k,b,z,h1,h2,h3⟩:=W1 (n:=ms.length) (cap:=cap) (v:=v) h.2 ms.length<|Tz _;rw[h2];revert h1 h3;generalize xB ms=x;generalize ms.length=n at h;intro h1 h3;rcases(by omega:n=1\/n=2\/n=3\/n=4\/n=5\/n=6) with rfl|rfl|rfl|rfl|rfl|rfl<;>rcases h1 with⟨rfl,h1⟩|⟨rfl,rfl⟩
 all_goals first
  |(rcases(by omega:k=0\/k=1\/k=2\/k=3\/k=4\/k=5) with rfl|rfl|rfl|rfl|rfl|rfl<;>first|(exfalso;omega)|exact dnW h3)
  |exact dnW h3
def SI:List Item:=[.inBlock 0,.code<|aL pg 31 [1,1,1]]
def Dz:AF:=⟨31,aA iz,max Tryd.f31.ntmps 2,.code (aL pg 31 [1,1,0,1,0])::SI,[],none⟩
theorem ajB:aL pg 31 [1,1,0,1,0]= .rangeFunc (.tmp 12) #[13] IU Dy:=by kernel_rfl
def sZ(n:Nat)(cap:cx)(x:Nat->Option ah)(v:Int)(w1 w2:AV)(o:Option ah)(p:Option Code):AS:=aj (oG n cap x v w1 w2++[(283,o),(284,some<|.loop .exhausted p 31 (aA iz) 22 [13] IU Dy 283)]) 285
theorem agb{w1 w2:AV}{o:Option ah}(h:1<=ms.length/\ms.length<=6):∀m q,(m,q)∈ey ms cap->(sZ ms.length cap (xB ms) v w1 w2 o p).h.get m=some q:=fun m q hm=>by
 rcases iQ h with⟨m0,rfl⟩|⟨m0,m1,rfl⟩|⟨m0,m1,m2,rfl⟩|⟨m0,m1,m2,m3,rfl⟩|⟨m0,m1,m2,m3,m4,rfl⟩|⟨m0,m1,m2,m3,m4,m5,rfl⟩
 all_goals
  simp only[ey,qW,Ty,TV,or_false] at hm
  repeat' (rcases hm with hm|hm)
  all_goals kernel_rfl
theorem gtW{w1 w2:AV}{Y:AV}(mc:Mt [] B)(hb:dz ms)(h6:ms.length<=6)(hc:pC ms.length cap){sE:AS}(dn:SH (rN ms.length cap (xB ms) v) sE)(h5:mj 284 sE= .ok p (sZ ms.length cap (xB ms) v w1 w2 (some .defs) p))(hd:H7 pg (ba pg (sp []) FU 6) (aC Tryd.f31) 8 283 ⟨31,aA iz,max Tryd.f31.ntmps 2,andThen p SI,[],none⟩ (sZ ms.length cap (xB ms) v w1 w2 (some .defs) p)=some (Y,sZ ms.length cap (xB ms) v w1 w2 none p)):
 av pg B 271 (kB XT pg (aC Tryd.f31) 3 Y<|bZ ms) Dz (aj (oG ms.length cap (xB ms) v (.int .i64 0)<|.bool false) 283):=by
 unfold Dz;rw[ajB];exact av.chunk bR mc.2.2.1 mc.2.2.2 (JR (gv:=.func (.func 74) [] [.ptr<|some (282,0)]) (s1:=aj (oG ms.length cap (xB ms) v (.int .i64 0) (.bool false)++[(283,some .defs)]) 284) cf cf cf dn h5) (by show 271<=283;omega)<|(O1 (l:=283) (k:=8) (fr:=⟨31,aA iz,max Tryd.f31.ntmps 2,andThen p SI,[],none⟩) bR mc.2.2.1 mc.2.2.2 rfl rfl hd ⟨rfl,_,.buf _ hb cap hc,agb ⟨hb.1.1,h6⟩⟩).2.2 (by show 271<=285;omega)
theorem goG{y v':AV}(mc:Mt [] B)(H:av pg B 271 (kB XT pg (aC Tryd.f31) 3 y v') Dz<|aj (oG ms.length cap (xB ms) v (.int .i64 0)<|.bool false) 283)(k:((iz.map (fun q=>some q.2)=iz.map (fun q=>some q.2))/\((oG ms.length cap (xB ms) v (.int .i64 0)<|.bool false).map (fun q=>q.2)=(oG ms.length cap (xB ms) v (.int .i64 0)<|.bool false).map (fun q=>q.2))/\(Dz=Dz/\aj (oG ms.length cap (xB ms) v (.int .i64 0)<|.bool false) 283=aj (oG ms.length cap (xB ms) v (.int .i64 0)<|.bool false) 283))=wp (pM []) 900 6 (.fr 31 (max Tryd.f31.ntmps 2) (dh 31 []) (dZ [.ptr<|some (270,0),.int .i64 v])<|aj (aq++bf (ey ms cap)) 279)
 (.st 9<|.rg<|.go 1<|.il<|.rt 5<|.en<|.st 1<|.ls iz (oG ms.length cap (xB ms) v (.int .i64 0)<|.bool false) 283 .no) (aC Tryd.f31) (fun Y s _=>rz 3 y v' s Y) (fun fr s1 _=>fr=Dz/\s1=aj (oG ms.length cap (xB ms) v (.int .i64 0)<|.bool false) 283):=by as_aux_lemma=>kernel_rfl):
 av pg B 271 (kB XT pg (aC Tryd.f31) 3 y v') (sF 31 Tryd.f31 [.ptr<|some (270,0),.int .i64 v]) (aj (aq++bf (ey ms cap)) 279):=
 Dt mc (fun fr s1 _ hC=>by obtain⟨rfl,rfl⟩:=hC;exact H) _ ⟨rfl,rfl,rfl,rfl⟩ k cf
theorem aeF(mc:Mt [] B)(hb:dz ms)(hc:pC ms.length cap)(h6:ms.length<=6):SB B 31 (max Tryd.f31.ntmps 2) (aC Tryd.f31) [.int .i64 v] ms cap (.tuple [.int .i64 (lD ms v).1,.bool (lD ms v).2]) ms:=by
 have dn:=aga (cap:=cap) (v:=v) ⟨hb.1.1,h6⟩;have H:av pg B 271 (kB XT pg (aC Tryd.f31) 3 (.tuple [.int .i64 (lD ms v).1,.bool (lD ms v).2])<|bZ ms) Dz<|aj (oG ms.length cap (xB ms) v (.int .i64 0)<|.bool false) 283:=by
  unfold lD;revert dn;cases gB ms v ms.length with
  |none=>exact fun dn=>gtW mc hb h6 hc dn (w1:=.int .i64 0) (w2:=.bool false) (p:=none) cf cf
  |some z=>exact fun dn=>gtW mc hb h6 hc dn (w1:=.int .i64 z) (w2:=.bool true) (p:=some .ret) cf cf
 rcases iQ ⟨hb.1.1,h6⟩ with⟨m0,rfl⟩|⟨m0,m1,rfl⟩|⟨m0,m1,m2,rfl⟩|⟨m0,m1,m2,m3,rfl⟩|⟨m0,m1,m2,m3,m4,rfl⟩|⟨m0,m1,m2,m3,m4,m5,rfl⟩<;>exact goG mc H
end
variable {L:bV}
theorem GW{L0:bV}{fn:Func}{F:bp->List AV->Option (AV×bp)}(hP:bY pg)(h:aY L)(h0:aY L0)(cv:Tryd.prog.funcs[g]? =some fn)(H:∀a rest y a',F a rest=some (y,a')->max fn.ntmps (rest.length+1)<=top/\∀B cap,Mt L0 B->dz a->pC a.length cap->SB B g (max fn.ntmps<|rest.length+1) fn.results.toList rest a cap y a')(cF:fn.body=some (aL pg g []):=by kernel_rfl)(hn:(fn.name == "runtime.NumGoroutine")=false:=by kernel_rfl):aY<|(g,.tok 3<|ir bZ F)::L:=by
 refine PE zt hP gW qR jT jb mU mA h h0 cv cF hn fun v rest y v' e=>?_;obtain⟨a,a',rfl,e1,rfl⟩:=JQ e;obtain⟨q1,q2⟩:=H a rest y a' e1;refine⟨q1,fun L hx=>?_⟩;generalize hv:bZ a=v at hx;cases hx with
 |buf b hb cap hc=>have:=ua _ _ hv;subst this;exact⟨279,by omega,aI.1 aV,O4 hb,fun B mc=>q2 B cap mc hb hc⟩
def Hx:bp->List AV->Option (AV×bp)
 |a,[.int .i64 v,.int .i64 x]=>if a.length<=6 then some (.int .i64 0,lA a v x) else none
 |_,_=>none
def Cy:bp->List AV->Option (AV×bp)
 |a,[.int .i64 v]=>if a.length<=6 then some (.tuple [.int .i64 (lD a v).1,.bool (lD a v).2],a) else none
 |_,_=>none
def K2:bp->List AV->Option (AV×bp)
 |a,[]=>if a.length<7 then some (.int .i64 0,a++[[]]) else none
 |_,_=>none
def K3:bp->List AV->Option (AV×bp)
 |a,[]=>if 2<=a.length/\a.length<=6 then some (.int .i64 0,a.dropLast) else none
 |_,_=>none
def Kf:bp->List AV->Option (AV×bp)
 |a,[]=>if 2<=a.length then some (.int .i64 0,gA a) else none
 |_,_=>none
def Hy:FuncId×KE:=(54,.tok 3<|ir bZ Hx)
def Qh:FuncId×KE:=(56,.tok 3<|ir bZ K2)
def Qi:FuncId×KE:=(55,.tok 3<|ir bZ K3)
def Eo:FuncId×KE:=(58,.tok 3<|ir bZ Kf)
def lC:FuncId×KE:=(31,.tok 3<|ir bZ Cy)
theorem aeG(hP:bY pg)(h:aY L):aY<|Hy::L:=GW hP h dj Tryd.func54 fun a rest y a' e=>by unfold Hx at e;split at e<;>(try split at e)<;>cases e;exact⟨aI.1 aV,fun B cap mc hb hc=>aeE mc hb hc ‹_›⟩
theorem adt(hP:bY pg)(h:aY L):aY<|Qh::L:=GW hP h dj Tryd.func56 fun a rest y a' e=>by unfold K2 at e;split at e<;>(try split at e)<;>cases e;exact⟨aI.1 aV,fun B cap mc hb hc=>adr mc hb hc<|Nat.le_of_lt_succ ‹_›⟩
theorem adu(hP:bY pg)(h:aY L):aY<|Qi::L:=GW hP h dj Tryd.func55 fun a rest y a' e=>by unfold K3 at e;split at e<;>(try split at e)<;>cases e;rename_i q;exact⟨aI.1 aV,fun B cap mc hb hc=>ads mc hb hc q.1 q.2⟩
theorem acD(hP:bY pg)(h:aY L):aY<|Eo::L:=GW hP h (XW hP dj) Tryd.func58 fun a rest y a' e=>by unfold Kf at e;split at e<;>(try split at e)<;>cases e;exact⟨aI.1 aV,fun B cap mc hb hc=>N5 mc hb hc ‹_›⟩
theorem JW(hP:bY pg)(h:aY L):aY<|lC::L:=GW hP h dj Tryd.func31 fun a rest y a' e=>by unfold Cy at e;split at e<;>(try split at e)<;>cases e;exact⟨aI.1 aV,fun B cap mc hb hc=>aeF mc hb hc ‹_›⟩
def Q4:List AV->Option (Option AV×(AV->AV))
 |[]=>some (some<|bZ [[]],fun p=>p)
 |_=>none
def LK:FuncId×KE:=(24,.new 3 Q4)
def oN:List<|Nat×Option ah:=[(270,some<|yT []),(271,some<|az iB [.map<|some 270]),(272,some<|az iB [.slice (some (271,0)) 1<|.known 1])]
theorem Qj:dz [[]]:=⟨by show 1<=1/\1<=7;omega,fun m hm=>by rw[TC] at hm;subst hm;exact UD⟩
theorem ahQ:RnT 270 273 279 [(0,.ptr<|some (272,0))] oN [(0,.ptr<|some (270,0))] (bf<|ey [[]]<|.known 1) ⟨24,aA [(0,.ptr<|some (270,0))],max Tryd.f24.ntmps 0,(dh 24 [1,1]),[],none⟩<|aj (aq++bf (ey [[]]<|.known 1)) 279:=⟨rfl,rfl,LJ (ps:=[(270,272),(271,271),(272,270)]) ae cf cf (fun r hr _=>⟨⟨by unfold top;omega,_,mi 0,(aZ.ptr<|rq hr).z⟩,trivial⟩) fun r hr _=>⟨lI (mi 2) (rq hr) lM<|H9 (l:=[.slice (some (271,0)) 1<|.known 1]) ⟨(aZ.slice<|rq hr).z,trivial⟩ (by simp) rfl,lI (mi 1) (rq hr) lM<|H9 (l:=[.map<|some 270]) ⟨(aZ.map<|rq hr).z,trivial⟩ (by simp) rfl,lI (mi 0) (rq hr) Qf<|Q3 UD,trivial⟩,rfl,rfl⟩
theorem aeH(hP:bY pg)(h:aY L):aY<|LK::L:=by
 refine WE zt hP gW (aI.1 aV) jT jb h dj Tryd.func24 (body:=aL pg 24 []) aV aV fun args p e=>?_;unfold Q4 at e;split at e<;>cases e;refine⟨aI.1 aV,fun e0=>(by cases e0),fun v e0=>?_⟩;injection e0 with e0;subst e0
 refine⟨Am.ptr,fun B mc=>?_⟩;rw[←gX];exact wC mc (C:=fun fr s1 _=>fr=⟨24,aA [(0,.ptr<|some (270,0))],max Tryd.f24.ntmps 0,(dh 24 [1,1]),[],none⟩/\s1=aj (aq++bf (ey [[]]<|.known 1)) 279) (fun fr s1 _ hC=>by obtain⟨rfl,rfl⟩:=hC;exact wS mc (.rt 1 .no)<|Mr (ms:=[[]]) (cap:=.known 1) 279 Qj (.inr ⟨rfl,rfl⟩)<|.ptr<|some (270,0)) (.st 4<|.rn [(0,.ptr<|some (272,0))] (aq++oN) [(0,.ptr<|some (270,0))] (aq++bf (ey [[]]<|.known 1)) 273 279 .no) ahQ
end ia
namespace gJ
open cj cC dD gg ig iu iD
variable {st:VS} {T:Prop} {v:AV} {x7 x6 x5 x4 x3 x2:Int} {s:AS} {rest:List AV} {lg G:Nat} {cap:cx} {L:bV}
abbrev rO(L:bV):Env:=y8 pg 270 dK dk L 273 true
def Ic:FuncId×KE:=(50,.raw fun a b c=>qi true a b c<|aK Aq)
def l8(x0 x1 x2 x3 x4 x5 x6 x7:Int):List Int:=[x0,x1,x2,x3,x4,x5,x6,x7]
theorem evU{n m off len:Nat}{cs:List AV}{a b:AV}(h1:(a.hi&&(b.hi&&E4 len cap))=true)(hk:nu 270 dk dK s=true)(hm:Tv m (de 270 dk dK s).nx=true)(ht:Tv m top=true)(h2:cellsOf ((de 270 dk dK s).h.get m) off len=some cs)(h3:cs.all AV.eR=true)(h4:aK Aq [a,.ab (am cs) 0 len,b]=some v):
 ba pg (sp [Ic]) FU (n+1) (.fn 50) [a,.slice (some (m,off)) len cap,b] s= .ok v (aU m<|de 270 dk dK s):=
 aeL (P:=pg) (sp:=sp [Ic]) aV h1 hk hm ht h2 h3 h4
theorem nw{y Y:AV}(e:Y=y)(h1:s.h.get 270=some (bt<|eB st.R 271 272))(h2:s.h.get 271=some (.tok 3 st.u))(h3:s.h.get 272=some (bt st.row)):Y=y/\∀m o,(m,o)∈dW 270 3 st->s.h.get m=some o:=by
 refine⟨e,fun m o hm=>?_⟩;simp only[dW,Ty,TV,or_false] at hm;rcases hm with hm|hm|hm<;>(injection hm with a b;subst a;subst b)
 ·exact h1
 ·exact h2
 ·exact h3
theorem RH(l:List Int):dP encI 1 (.ab (am (l.map encI).flatten) 0 l.length) l:=⟨_,0,rfl,XX _,fun i c h=>by have e:=Ad eI h 0 1 ae;unfold cZ at e ⊢;rw[Yp<|eI.all l];rw[Al<|eI.all l,Ul] at e;rw[T6];exact e⟩
theorem ahT{e:Ex}{q:Nat}{aN:List Int}{x0 x1:Int}(hg:dP encI 1 (.ab G q lg) aN):aK Aq [.agg<|aH e,.ab (am [.int .i64 x0,.int .i64 x1,.int .i64 x2,.int .i64 x3,.int .i64 x4,.int .i64 x5,.int .i64 x6,.int .i64 x7]) 0 8,.ab G q lg]=some (Fu<|Ap e (l8 x0 x1 x2 x3 x4 x5 x6 x7) aN):=eQ Aq.bJ ⟨e,_,0,8,G,q,lg,l8 x0 x1 x2 x3 x4 x5 x6 x7,aN,rfl,RH<|l8 x0 x1 x2 x3 x4 x5 x6 x7,hg,rfl⟩
abbrev Qk(vars:Int)(G q lg:Nat)(x0 x1 x2 x3 x4 x5 x6 x7:Int)(len:Nat)(cap:cx)(steps:Int)(u:AV)(row:List AV)(op n:Int)(N L:Nat):List<|Nat×Option ah:=aq++[(270,some<|.cells 13 (Tr.fill [(i6 vars),(.ab G q lg),(i6 x0),(i6 x1),(i6 x2),(i6 x3),(i6 x4),(i6 x5),(i6 x6),(i6 x7),(.ptr<|some (271,0)),(.slice (some (272,0)) (len) cap),(i6 steps)] 0 .nil) []),(271,(some<|.tok 3 u)),(272,(some<|bt row)),(273,some<|.cells 3 (Tr.fill [(u8<|op),(i6 n),(.ab N 0 L)] 0 .nil) [])]
theorem ajD{B:aE}{vars steps x0 x1:Int}{q len:Nat}{u:AV}{row:List AV}{N L:Nat}{op n z f:Int}(mc:Mt [Ic] B)(hG:(((.agg [(u8<|op),(i6 n),(.ab N 0 L)]):AV).hi&&((.ab G q lg:AV).hi&&E4 8 (.known 8)))=true)(he:aK Aq [(.agg [(u8<|op),(i6 n),(.ab N 0 L)]),.ab (am [.int .i64 x0,.int .i64 x1,.int .i64 x2,.int .i64 x3,.int .i64 x4,.int .i64 x5,.int .i64 x6,.int .i64 x7]) 0 8,.ab G q lg]=some (.tuple [.int .i64 z,.int .i64 f])):av pg B 273 (iE 270 3 pg (aC Tryd.f28) (.int .i64 z) (⟨(⟨[.int .i64 vars,.ab G q lg,.int .i64 x0,.int .i64 x1,.int .i64 x2,.int .i64 x3,.int .i64 x4,.int .i64 x5,.int .i64 x6,.int .i64 x7],len,cap,[.int .i64 steps]⟩:RS),u,row⟩:VS)) (sF 28 Tryd.f28 [(.ptr<|some (270,0)),(.agg [(u8<|op),(i6 n),(.ab N 0 L)])])<|aj (aq++bf (dW 270 3 (⟨(⟨[.int .i64 vars,.ab G q lg,.int .i64 x0,.int .i64 x1,.int .i64 x2,.int .i64 x3,.int .i64 x4,.int .i64 x5,.int .i64 x6,.int .i64 x7],len,cap,[.int .i64 steps]⟩:RS),u,row⟩:VS))) 273:=mM (E:=rO [Ic]) fw rfl bR mc.2.2.1 mc.2.2.2 900 (.st 3<|.rg<|.go 9<|.cu (.tuple [(i6 z),(i6 f)]) (aU 270<|de 270 dk dK (⟨gm<|Qk vars G q lg x0 x1 x2 x3 x4 x5 x6 x7 len cap steps u row op n N L,274,274,[],[]⟩:AS))<|.go 5<|.en<|.rt 3 .no)<|ai (evU (n:=5) (m:=270) (off:=2) (len:=8) (cap:=.known 8) (cs:=[.int .i64 x0,.int .i64 x1,.int .i64 x2,.int .i64 x3,.int .i64 x4,.int .i64 x5,.int .i64 x6,.int .i64 x7]) (s:=(⟨gm<|Qk vars G q lg x0 x1 x2 x3 x4 x5 x6 x7 len cap steps u row op n N L,274,274,[],[]⟩:AS)) hG cQ cQ cQ cQ cQ he)<|nw (st:=(⟨(⟨[.int .i64 vars,.ab G q lg,.int .i64 x0,.int .i64 x1,.int .i64 x2,.int .i64 x3,.int .i64 x4,.int .i64 x5,.int .i64 x6,.int .i64 x7],len,cap,[.int .i64 steps]⟩:RS),u,row⟩:VS)) (s:=aj (Qk vars G q lg x0 x1 x2 x3 x4 x5 x6 x7 len cap steps u row op n N L) 274) (show((i6 z):AV)=(.int .i64 z) from rfl) cQ cQ cQ
open Classical in
def vR(R:VS->List AV->AV->Prop)(st:VS)(rest:List AV):Option AV:=if h:∃v,R st rest v then some h.choose else none
theorem Hd{R:VS->List AV->AV->Prop}(h:vR R st rest=some v):R st rest v:=by
 unfold vR at h;split at h
 ·rename_i q;injection h with h;rw[←h];exact q.choose_spec
 ·cases h
theorem E5{R:VS->List AV->AV->Prop}(hd:∀st rest v v',R st rest v->R st rest v'->v=v')(h:R st rest v):vR R st rest=some v:=by unfold vR;have q:∃v,R st rest v:=⟨v,h⟩;rw[dif_pos q,hd _ _ _ _ q.choose_spec h]
structure MN where
 vars:Int
 G:Nat
 q:Nat
 lg:Nat
 aN:List Int
 x0:Int
 x1:Int
 x2:Int
 x3:Int
 x4:Int
 x5:Int
 x6:Int
 x7:Int
 steps:Int
def MN.l(a:MN):List Int:=l8 a.x0 a.x1 a.x2 a.x3 a.x4 a.x5 a.x6 a.x7
def MN.pre(a:MN):List AV:=[.int .i64 a.vars,.ab a.G a.q a.lg,.int .i64 a.x0,.int .i64 a.x1,.int .i64 a.x2,.int .i64 a.x3,.int .i64 a.x4,.int .i64 a.x5,.int .i64 a.x6,.int .i64 a.x7]
def MN.row(a:MN)(x y z:AV):List AV:=a.pre++[x,y,z]
abbrev vG(r:Nat):AS->AS:=YA 270 dk dK 270 271 r
abbrev vF(r:Nat)(st:VS):AS->AS:=LL 270 dk dK 3 270 271 r st
abbrev vQ(r:Nat)(st:VS):AS->Prop:=HC 270 dk dK 3 270 271 r st
abbrev Nh(st:VS)(r:Nat)(T:Prop):Prop:=(true=true/\true=true/\some (bt<|eB st.R 271 r)=some (bt<|eB st.R 271 r)/\some (ah.tok 3 st.u)=some (.tok 3 st.u)/\some (bt st.row)=some (bt st.row))/\T
abbrev Ni(r:Nat):Bool:= !Nat.beq 270 271&&(!Nat.beq 270 r&& !Nat.beq 271 r)
abbrev Nj(r:Nat):Bool:=Tv 270 top&&(Tv 271 top&&Tv r top)
theorem kS(L:bV)(g r:Nat)(val:VS->List AV->Option AV)(rest:List AV)(st:VS)(y:AV)(ho:bT 10 st=true)(hv:val st rest=some y)(hr:rest.all AV.hi=true)(hy:y.hi=true)(t:T)(h1:sp L g=some (nP 10 3 val 270 dK dk):=by as_aux_lemma=>kernel_rfl)(h2:Ni r=true:=by as_aux_lemma=>kernel_rfl)(h3:Nj r=true:=by as_aux_lemma=>kernel_rfl)(h4:st.R.pre.length=10:=by rfl):(∀s,vQ r st s->ba pg (sp L) FU 6 (.fn g) (.ptr (some (270,0))::rest) s= .ok y (vG r s))/\Nh st r T:=⟨aeK (P:=pg) (F:=FU) (n:=5) h1 hr h2 h3 h4 ho hv hy,⟨rfl,rfl,rfl,rfl,rfl⟩,t⟩
theorem Bq(L:bV)(g r:Nat)(val:VS->List AV->Option AV)(rest:List AV)(st:VS)(y:AV)(ho:bT 10 st=true)(hv:val st rest=some y)(t:T)(hr:rest.all AV.hi=true:=by as_aux_lemma=>kernel_rfl)(hy:y.hi=true:=by as_aux_lemma=>kernel_rfl)(h1:sp L g=some (nP 10 3 val 270 dK dk):=by as_aux_lemma=>kernel_rfl)(h2:Ni r=true:=by as_aux_lemma=>kernel_rfl)(h3:Nj r=true:=by as_aux_lemma=>kernel_rfl)(h4:st.R.pre.length=10:=by rfl):(∀s,vQ r st s->ba pg (sp L) FU 6 (.fn g) (.ptr (some (270,0))::rest) s= .ok y (vG r s))/\Nh st r T:=kS L g r val rest st y ho hv hr hy t h1 h2 h3 h4
theorem vMx(L:bV)(g r:Nat)(val:VS->List AV->Option (AV×VS))(rest:List AV)(st br:VS)(ho:bT 10 st=true)(hv:val st rest=some (.tuple [],br))(ll:bT 10 br=true)(hr:rest.all AV.hi=true)(t:T)(h1:sp L g=some (nN 10 3 val 270 dK dk):=by as_aux_lemma=>kernel_rfl)(h2:Ni r=true:=by as_aux_lemma=>kernel_rfl)(h3:Nj r=true:=by as_aux_lemma=>kernel_rfl)(h4:st.R.pre.length=10:=by rfl):(∀s,vQ r st s->ba pg (sp L) FU 6 (.fn g) (.ptr (some (270,0))::rest) s= .ok (.tuple []) (vF r br s))/\Nh st r T:=⟨PQ (P:=pg) (F:=FU) (n:=5) h1 hr h2 h3 h4 ho hv rfl ll,⟨rfl,rfl,rfl,rfl,rfl⟩,t⟩
theorem xL(L:bV)(g r:Nat)(val:VS->List AV->Option (AV×VS))(rest:List AV)(st br:VS)(ho:bT 10 st=true)(hv:val st rest=some (.tuple [],br))(ll:bT 10 br=true)(t:T)(hr:rest.all AV.hi=true:=by as_aux_lemma=>kernel_rfl)(h1:sp L g=some (nN 10 3 val 270 dK dk):=by as_aux_lemma=>kernel_rfl)(h2:Ni r=true:=by as_aux_lemma=>kernel_rfl)(h3:Nj r=true:=by as_aux_lemma=>kernel_rfl)(h4:st.R.pre.length=10:=by rfl):(∀s,vQ r st s->ba pg (sp L) FU 6 (.fn g) (.ptr (some (270,0))::rest) s= .ok (.tuple []) (vF r br s))/\Nh st r T:=vMx L g r val rest st br ho hv ll hr t h1 h2 h3 h4
def tL(st:VS)(a:MN):Prop:=st.R.pre=a.pre/\st.R.post=[.int .i64 a.steps]/\dP encI 1 (.ab a.G a.q a.lg) a.aN
theorem tL.inj{a b:MN}(h:tL st a)(k:tL st b):a=b:=by obtain⟨h1,h2,h3⟩:=h;obtain⟨k1,k2,k3⟩:=k;rw[h1] at k1;rw[h2] at k2;obtain⟨a1,a2,a3,a4,a5,c0,c1,c2,c3,c4,c5,c6,c7,a6⟩:=a;obtain⟨b1,b2,b3,b4,b5,d0,d1,d2,d3,d4,d5,d6,d7,b6⟩:=b;simp only[MN.pre,TQ,AV.int.injEq,AV.ab.injEq,true_and,_root_.and_true] at k1 k2;obtain⟨rfl,⟨rfl,rfl,rfl⟩,rfl,rfl,rfl,rfl,rfl,rfl,rfl,rfl⟩:=k1;subst k2;have e5:a5=b5:=dP.inj sa h3 k3;subst e5;rfl
def jY(st:VS)(rest:List AV)(v:AV):Prop:=∃(a:MN) (e:Ex),tL st a/\rest=[.agg<|aH e]/\v= .int .i64 (Ap e a.l a.aN).1
theorem jY.bJ(st:VS)(rest:List AV)(v v':AV)(h:jY st rest v)(h':jY st rest v'):v=v':=by obtain⟨a,e,h1,rfl,rfl⟩:=h;obtain⟨a',e',k1,h2,rfl⟩:=h';simp only[TQ,AV.agg.injEq,_root_.and_true] at h2;rw[oe _ _ h2,h1.inj k1]
def ja:FuncId×KE:=(28,.raw<|nP 10 3<|vR jY)
theorem zb:270+3<=top:=aI.1 aV
theorem agd(hP:bY pg)(h:aY L):aY<|Ic::L:=by
 refine amv (b:=true) hP gW qR jT jb h (WO hP<|am5 hP 6 dj) Tryd.func50 (body:=aL pg 50 []) aV aV fun args v e=>?_;obtain⟨⟨op,n,l⟩,M,p,lm,G,q,lg,lo,aN,rfl,i1,i2,rfl⟩:=fQ e;refine⟨⟨_,rfl,fun y hy=>.inl<|.inl ?_⟩,aI.1 aV,fun B mc=>?_⟩
 ·simp only[Ty,TV,or_false] at hy;rcases hy with rfl|rfl<;>rfl
 rw[←gX];have c:=P9 (e:=.mk op n l);have d:bit (fh 6<|.mk op n l)=1->_:=fun h=>PJ (k:=6) (e:=.mk op n l) i1 i2 (by rw[←yh (fh 6<|.mk op n l)];exact decide_eq_true h);have key:=ahv (x:=bit<|fh 6<|.mk op n l) (u:=(lR 6 (.mk op n l) lo aN).1) (f:=(lR 6 (.mk op n l) lo aN).2) (N:=nm<|dC l) (L:=l.length) (op:=op) (n:=n) mc (by rw[yh];rw[aH] at c;exact c) (fun h=>by have:=d h;rw[aH] at this;exact this);unfold Ap;rw[aH];cases q:fh 6 (.mk op n l) with
 |true=>rw[q,if_pos (show bit true=1 from rfl)] at key;rw[if_pos rfl];exact key
 |false=>rw[q,if_neg (show ¬(bit false=1) by decide)] at key;rw[if_neg (by intro h;cases h)];exact key
theorem Ep(hP:bY pg)(h:aY L):aY<|ja::L:=by refine GA hP gW zb jT jb mU mA h (agd hP dj) Tryd.func28 (body:=aL pg 28 []) aV aV fun st rest y e _=>?_;obtain⟨a,⟨op,n,l⟩,⟨h1,h2,h3⟩,rfl,rfl⟩:=Hd e;refine⟨aI.1 aV,fun B mc=>?_⟩;obtain⟨⟨pre,len,cap,post⟩,u,row⟩:=st;simp only at h1 h2;subst h1;subst h2;have q:=ahT (e:=.mk op n l) (x0:=a.x0) (x1:=a.x1) (x2:=a.x2) (x3:=a.x3) (x4:=a.x4) (x5:=a.x5) (x6:=a.x6) (x7:=a.x7) h3;rw[aH] at q ⊢;exact ajD mc (and_true.2 ⟨by rw[←aH];exact Cu _,and_true.2 ⟨h3.hi,rfl⟩⟩) q
end gJ
namespace eT
open cj cC dD gI gg iD gJ
abbrev km(a:MN)(len:Nat)(cap:cx)(u:AV)(row:List AV):VS:=(⟨(⟨a.pre,len,cap,[.int .i64 a.steps]⟩:RS),u,row⟩:VS)
theorem ajE{B:aE}{a:MN}{len:Nat}{cap:cx}{u:AV}{row:List AV}{N L:Nat}{op n z v f:Int}(mc:Mt [ja,Ml] B)(hO:bT 10 (km a len cap u row)=true)(hA:([(.agg [(u8<|op),(i6 n),(.ab N 0 L)])]:List AV).all AV.hi=true)(hz:vR jY (km a len cap u row) [(.agg [(u8<|op),(i6 n),(.ab N 0 L)])]=some (.int .i64 z))(hv:bc (aK CP) [.int .i64 z,.int .i64 a.vars]=some (.tuple [.int .i64 v,.int .i64 f])):av pg B 273 (iE 270 3 pg (aC Tryd.f30) (.int .i64 v)<|km a len cap u row) (sF 30 Tryd.f30 [(.ptr<|some (270,0)),(.agg [(u8<|op),(i6 n),(.ab N 0 L)])])<|aj (aq++bf (dW 270 3<|km a len cap u row)) 273:=mM (E:=rO [ja,Ml]) fw rfl bR mc.2.2.1 mc.2.2.2 900 (.st 3<|.rg<|.go 2<|.cg (i6 z) (vG 272) (vQ 272<|km a len cap u row)<|.go 4<|.kn (.tuple [(i6 v),(i6 f)])<|.go 5<|.en<|.rt 3 .no)<|kS [ja,Ml] 28 272 (vR jY) [(.agg [(u8<|op),(i6 n),(.ab N 0 L)])] (km a len cap u row) (i6 z) hO hz hA cQ<|ai hv<|nw (st:=(km a len cap u row)) (s:=aj (aq++[(270,some<|.cells 13 (Tr.fill (a.row (.ptr<|some (271,0)) (.slice (some (272,0)) (len) cap)<|i6 a.steps) 0 .nil) []),(271,(some<|.tok 3 u)),(272,(some<|bt row)),(273,some<|.cells 3 (Tr.fill [(u8<|op),(i6 n),(.ab N 0 L)] 0 .nil) [])]) 274) (show((i6 v):AV)=(.int .i64 v) from rfl) cQ cQ cQ
def oz(st:VS)(rest:List AV)(v:AV):Prop:=∃(a:MN) (e:Ex) (x f:Int),tL st a/\rest=[.agg<|aH e]/\a.vars<=1099511627776/\uY (Ap e a.l a.aN).1 a.vars= .tuple [.int .i64 x,.int .i64 f]/\v= .int .i64 x
theorem oz.bJ(st:VS)(rest:List AV)(v v':AV)(h:oz st rest v)(h':oz st rest v'):v=v':=by obtain⟨a,e,x,f,h1,rfl,_,h2,rfl⟩:=h;obtain⟨a',e',x',f',k1,k0,_,k2,rfl⟩:=h';simp only[TQ,AV.agg.injEq,_root_.and_true] at k0;have e1:=h1.inj k1;subst e1;rw[←oe _ _ k0,h2] at k2;simp only[AV.tuple.injEq,TQ,AV.int.injEq,true_and] at k2;rw[k2.1]
def jX:FuncId×KE:=(30,.raw<|nP 10 3<|vR oz)
theorem GX(hP:bY pg){L:bV}(h:aY L):aY<|jX::L:=by
 refine GA hP gW zb jT jb mU mA h (Ep hP<|afN hP dj) Tryd.func30 (body:=aL pg 30 []) aV aV fun st rest y e eo=>?_;obtain⟨a,⟨op,n,l⟩,x,f,hM,rfl,hm,hx,rfl⟩:=Hd e;refine⟨aI.1 aV,fun B mc=>?_⟩;have hz:vR jY st [.agg<|aH<|.mk op n l]=some _:=E5 jY.bJ ⟨a,_,hM,rfl,rfl⟩;obtain⟨h1,h2,h3⟩:=hM;obtain⟨⟨pre,len,cap,post⟩,u,row⟩:=st;simp only at h1 h2;subst h1;subst h2;have hA:([AV.agg<|aH<|.mk op n l]:List AV).all AV.hi=true:=by rw[TS,Cu];rfl
 have hv:bc (aK CP) [.int .i64 (Ap (.mk op n l) a.l a.aN).1,.int .i64 a.vars]=some (.tuple [.int .i64 x,.int .i64 f]):=eV (eQ CP.bJ ⟨_,_,rfl,hm,hx.symm⟩) rfl rfl;rw[aH] at hz hA ⊢;exact ajE mc eo hA hz hv
end eT
namespace jc
open cj fq gJ eT ia
variable {cap:cx} {u:AV} {to aT kind v:Int} {a:MN} {N4 N3 N2 N L4 L3 L2 L:Nat} {B:aE}
theorem WG(l:List AV){k:Nat}(h:k<13)(hl:l.length=13:=by rfl):l[k]? =some (l.getD k<|.tuple []):=by rw[T9,TE ae];rfl
theorem WH{pre post:List AV}{len i r1 r2:Nat}{c:AV}(h:i<pre.length):az ny ((eB ⟨pre,len,cap,post⟩ r1 r2).set i c)=bt (eB ⟨pre.set i c,len,cap,post⟩ r1 r2):=by
 have e:(eB ⟨pre,len,cap,post⟩ r1 r2).set i c=eB ⟨pre.set i c,len,cap,post⟩ r1 r2:=by unfold eB;exact List.set_append_left _ _ h
 rw[e];unfold az bt;rw[Cw]
abbrev XO(a:MN)(len:Nat)(cap:cx)(to z:Int)(u:AV)(row:List AV)(kind op n:Int)(N L:Nat)(aT n2:Int)(N2 L2 N3 L3 N4 L4:Nat):List<|Nat×Option ah:=aq++[(270,(some<|az ny<|((a.row (.ptr<|some (271,0)) (.slice (some (272,0)) (len) cap)<|i6 a.steps):List AV).set (2+to.toNat)<|i6 z)),(271,(some<|.tok 3 u)),(272,(some<|bt row)),(273,some<|.cells 10 (Tr.fill [(u8<|kind),(i6 to),(u8<|op),(i6 n),(.ab N 0 L),(u8<|aT),(i6 n2),(.ab N2 0 L2),(.ab N3 0 L3),(.ab N4 0 L4)] 0 .nil) [])]
abbrev yB(op n:Int)(N L:Nat):List AV:=[(.agg [(u8<|op),(i6 n),(.ab N 0 L)])]
theorem ajF{len:Nat}{row:List AV}{op n n2:Int}{z:Int}(mc:Mt [ja] B)(hO:bT 10 (eT.km a len cap u row)=true)(h0:0<=to)(h8:to<8)(hA:((yB op n N L):List AV).all AV.hi=true)(hz:vR jY (eT.km a len cap u row) (yB op n N L)=some (.int .i64 z)):av pg B 273 (iE 270 3 pg (aC Tryd.f32) (.tuple []) (⟨⟨(a.pre:List AV).set (2+to.toNat)<|.int .i64 z,len,cap,[.int .i64 a.steps]⟩,u,row⟩:VS)) (sF 32 Tryd.f32 [(.ptr<|some (270,0)),(.agg [(u8<|kind),(i6 to),(u8<|op),(i6 n),(.ab N 0 L),(u8<|aT),(i6 n2),(.ab N2 0 L2),(.ab N3 0 L3),(.ab N4 0 L4)])])<|aj (aq++bf (dW 270 3<|eT.km a len cap u row)) 273:=mM (E:=rO [ja]) fw rfl bR mc.2.2.1 mc.2.2.2 900 (.st 2<|.rg<|.go 6<|.cg (i6 z) (vG 272) (vQ 272<|eT.km a len cap u row)<|.go 2<|.tw<|.oU (az ny<|((a.row (.ptr<|some (271,0)) (.slice (some (272,0)) (len) cap)<|i6 a.steps):List AV).set (2+to.toNat)<|i6 z)<|.en<|.rt 1 .no)<|kS [ja] 28 272 (vR jY) (yB op n N L) (eT.km a len cap u row) (i6 z) hO hz hA cQ Z1
theorem ahU{len:Nat}{row:List AV}{op n n2:Int}{z:Int}{fb:Bool}(mc:Mt [jX,lC] B)(hO:bT 10 (eT.km a len cap u row)=true)(h0:0<=to)(h8:to<8)(hA:((yB op n N L):List AV).all AV.hi=true)(hv:vR oz (eT.km a len cap u row) (yB op n N L)=some (.int .i64 v))(hg:iZ (ir bZ Cy) u [.int .i64 v]=some (.tuple [.int .i64 z,.bool fb],u)):av pg B 273 (iE 270 3 pg (aC Tryd.f33) (.tuple []) (⟨⟨(a.pre:List AV).set (2+to.toNat)<|.int .i64 z,len,cap,[.int .i64 a.steps]⟩,u,row⟩:VS)) (sF 33 Tryd.f33 [(.ptr<|some (270,0)),(.agg [(u8<|kind),(i6 to),(u8<|op),(i6 n),(.ab N 0 L),(u8<|aT),(i6 n2),(.ab N2 0 L2),(.ab N3 0 L3),(.ab N4 0 L4)])])<|aj (aq++bf (dW 270 3<|eT.km a len cap u row)) 273:=mM (E:=rO [jX,lC]) fw rfl bR mc.2.2.1 mc.2.2.2 900 (.st 2<|.rg<|.go 6<|.ld [(.ptr<|some (271,0))]<|.go 3<|.cg (i6 v) (vG 272) (vQ 272<|eT.km a len cap u row)<|.kt (.tuple [(i6 z),(.bool fb)]) u<|.go 5<|.tw<|.oU (az ny<|((a.row (.ptr<|some (271,0)) (.slice (some (272,0)) (len) cap)<|i6 a.steps):List AV).set (2+to.toNat)<|i6 z)<|.en<|.rt 1 .no)<|ai Y2<|kS [jX,lC] 30 272 (vR oz) (yB op n N L) (eT.km a len cap u row) (i6 v) hO hv hA cQ<|ai hg Z1
theorem age{len:Nat}{row:List AV}{op n n2:Int}{z:Int}{u':AV}(mc:Mt [jX,ja,Hy] B)(hO:bT 10 (eT.km a len cap u row)=true)(hA:((yB op n N L):List AV).all AV.hi=true)(hB:([(.agg [(u8<|aT),(i6 n2),(.ab N2 0 L2)])]:List AV).all AV.hi=true)(hv:vR oz (eT.km a len cap u row) (yB op n N L)=some (.int .i64 v))(hz:vR jY (eT.km a len cap u row) [(.agg [(u8<|aT),(i6 n2),(.ab N2 0 L2)])]=some (.int .i64 z))(hp:iZ (ir bZ Hx) u [.int .i64 v,.int .i64 z]=some ((.int .i64 0:AV),u')):av pg B 273 (iE 270 3 pg (aC Tryd.f34) (.tuple []) (⟨(⟨a.pre,len,cap,[.int .i64 a.steps]⟩:RS),u',row⟩:VS)) (sF 34 Tryd.f34 [(.ptr<|some (270,0)),(.agg [(u8<|kind),(i6 to),(u8<|op),(i6 n),(.ab N 0 L),(u8<|aT),(i6 n2),(.ab N2 0 L2),(.ab N3 0 L3),(.ab N4 0 L4)])])<|aj (aq++bf (dW 270 3<|eT.km a len cap u row)) 273:=mM (E:=rO [jX,ja,Hy]) fw rfl bR mc.2.2.1 mc.2.2.2 900 (.st 2<|.rg<|.go 3<|.ld [(.ptr<|some (271,0))]<|.go 3<|.cg (i6 v) (vG 272) (vQ 272<|eT.km a len cap u row)<|.go 3<|.cg (i6 z) (vG 272) (vQ 272<|eT.km a len cap u row)<|.kt i0 u'<|.en<|.rt 1 .no)<|ai Y2<|kS [jX,ja,Hy] 30 272 (vR oz) (yB op n N L) (eT.km a len cap u row) (i6 v) hO hv hA cQ<|kS [jX,ja,Hy] 28 272 (vR jY) [(.agg [(u8<|aT),(i6 n2),(.ab N2 0 L2)])] (eT.km a len cap u row) (i6 z) hO hz hB cQ<|ai hp<|nw (st:=(⟨(⟨a.pre,len,cap,[.int .i64 a.steps]⟩:RS),u',row⟩:VS)) (s:=aj (aq++[(270,(some<|az ny<|a.row (.ptr<|some (271,0)) (.slice (some (272,0)) (len) cap)<|i6 a.steps)),(271,(some<|.tok 3 u')),(272,(some<|bt row)),(273,some<|.cells 10 (Tr.fill [(u8<|kind),(i6 to),(u8<|op),(i6 n),(.ab N 0 L),(u8<|aT),(i6 n2),(.ab N2 0 L2),(.ab N3 0 L3),(.ab N4 0 L4)] 0 .nil) [])]) 274) (show((.tuple []):AV)= .tuple [] from rfl) (cQ) cQ cQ
end jc
namespace jd
open cj fq cC cY dD gJ eT jc ia
variable {L:bV} {v:AV×VS} {st:VS} {rest:List AV}
open Classical in
def eJ(R:VS->List AV->AV×VS->Prop)(st:VS)(rest:List AV):Option<|AV×VS:=if h:∃v,R st rest v then some h.choose else none
theorem Kh{R:VS->List AV->AV×VS->Prop}(h:eJ R st rest=some v):R st rest v:=by
 unfold eJ at h;split at h
 ·rename_i q;injection h with h;rw[←h];exact q.choose_spec
 ·cases h
theorem K4{R:VS->List AV->AV×VS->Prop}(hd:∀st rest v v',R st rest v->R st rest v'->v=v')(h:R st rest v):eJ R st rest=some v:=by unfold eJ;have q:∃v,R st rest v:=⟨v,h⟩;rw[dif_pos q,hd _ _ _ _ q.choose_spec h]
def wX(st:VS)(i z:Int):VS:=⟨⟨st.R.pre.set (2+i.toNat)<|.int .i64 z,st.R.len,st.R.cap,st.R.post⟩,st.u,st.row⟩
def alc(st:VS)(u:AV):VS:=⟨st.R,u,st.row⟩
def AM(st:VS)(rest:List AV)(p:AV×VS):Prop:=∃(a:MN) (kind to:Int) (ea eb:Ex) (body other:List St) (z:Int),bT 10 st=true/\tL st a/\rest=[.agg<|aM<|.mk kind to ea eb body other]/\0<=to/\to<8/\vR jY st [.agg<|aH ea]=some (.int .i64 z)/\p=(.tuple [],wX st to z)
def Au(st:VS)(rest:List AV)(p:AV×VS):Prop:=∃(a:MN) (kind to:Int) (ea eb:Ex) (body other:List St) (v z:Int) (fb:Bool),bT 10 st=true/\tL st a/\rest=[.agg<|aM<|.mk kind to ea eb body other]/\0<=to/\to<8/\vR oz st [.agg<|aH ea]=some (.int .i64 v)/\iZ (ir bZ Cy) st.u [.int .i64 v]=some (.tuple [.int .i64 z,.bool fb],st.u)/\p=(.tuple [],wX st to z)
def Ag(st:VS)(rest:List AV)(p:AV×VS):Prop:=∃(a:MN) (kind to:Int) (ea eb:Ex) (body other:List St) (v z:Int) (u':AV),bT 10 st=true/\tL st a/\rest=[.agg<|aM<|.mk kind to ea eb body other]/\vR oz st [.agg<|aH ea]=some (.int .i64 v)/\vR jY st [.agg<|aH eb]=some (.int .i64 z)/\iZ (ir bZ Hx) st.u [.int .i64 v,.int .i64 z]=some ((.int .i64 0:AV),u')/\p=(.tuple [],alc st u')
theorem PR{k t k' t':Int}{a b a' b':Ex}{l m l' m':List St}(h:([.agg<|aM<|.mk k t a b l m]:List AV)=[.agg<|aM<|.mk k' t' a' b' l' m']):St.mk k t a b l m= .mk k' t' a' b' l' m':=by simp only[TQ,AV.agg.injEq,_root_.and_true] at h;exact Jw _ _ h
theorem AM.bJ(st:VS)(rest:List AV)(v v':AV×VS)(h:AM st rest v)(h':AM st rest v'):v=v':=by
 obtain⟨a,k,t,ea,eb,l,m,z,_,_,rfl,_,_,h1,rfl⟩:=h;obtain⟨a',k',t',ea',eb',l',m',z',_,_,k0,_,_,k1,rfl⟩:=h';have e:=PR k0;injection e with e1 e2 e3 e4 e5 e6
 subst e2;subst e3;rw[h1] at k1;simp only[Ud,AV.int.injEq,true_and] at k1;rw[k1]
theorem Au.bJ(st:VS)(rest:List AV)(v v':AV×VS)(h:Au st rest v)(h':Au st rest v'):v=v':=by
 obtain⟨a,k,t,ea,eb,l,m,x,z,fb,_,_,rfl,_,_,h1,h2,rfl⟩:=h;obtain⟨a',k',t',ea',eb',l',m',x',z',fb',_,_,k0,_,_,k1,k2,rfl⟩:=h';have e:=PR k0;injection e with e1 e2 e3 e4 e5 e6
 subst e2;subst e3;rw[h1] at k1;simp only[Ud,AV.int.injEq,true_and] at k1;subst k1;rw[h2] at k2;simp only[Ud,Prod.mk.injEq,AV.tuple.injEq,TQ,AV.int.injEq,true_and,_root_.and_true] at k2;rw[k2.1]
theorem Ag.bJ(st:VS)(rest:List AV)(v v':AV×VS)(h:Ag st rest v)(h':Ag st rest v'):v=v':=by
 obtain⟨a,k,t,ea,eb,l,m,x,z,u,_,_,rfl,h1,h2,h3,rfl⟩:=h;obtain⟨a',k',t',ea',eb',l',m',x',z',u',_,_,k0,k1,k2,k3,rfl⟩:=h';have e:=PR k0;injection e with e1 e2 e3 e4 e5 e6
 subst e3;subst e4;rw[h1] at k1;rw[h2] at k2;simp only[Ud,AV.int.injEq,true_and] at k1 k2;subst k1;subst k2;rw[h3] at k3;simp only[Ud,Prod.mk.injEq,true_and] at k3;rw[k3]
def RI:FuncId×KE:=(32,.raw<|nN 10 3<|eJ AM)
def Q5:FuncId×KE:=(33,.raw<|nN 10 3<|eJ Au)
def Ql:FuncId×KE:=(34,.raw<|nN 10 3<|eJ Ag)
theorem EG(e:Ex):([AV.agg<|aH e]:List AV).all AV.hi=true:=by rw[TS,Cu];rfl
theorem agf(hP:bY pg)(h:aY L):aY<|RI::L:=by
 refine JX hP gW zb jT jb mU mA h (Ep hP dj) Tryd.func32 (body:=aL pg 32 []) aV aV fun st rest y br e=>?_;obtain⟨a,kind,to,⟨op,n,l⟩,⟨aT,n2,l2⟩,body,other,z,ho,⟨h1,h2,h3⟩,rfl,h0,h8,hz,hp⟩:=Kh e;injection hp with jx fI
 subst jx;subst fI;refine⟨aI.1 aV,fun B mc=>?_⟩;have hA:=EG<|.mk op n l;obtain⟨⟨pre,len,cap,post⟩,u,row⟩:=st;simp only at h1 h2;subst h1;subst h2;rw[aH] at hz hA;rw[aM,aH,aH];exact ajF mc ho h0 h8 hA hz
theorem aeM(hP:bY pg)(h:aY L):aY<|Q5::L:=by
 refine JX hP gW zb jT jb mU mA h (GX hP<|JW hP dj) Tryd.func33 (body:=aL pg 33 []) aV aV fun st rest y br e=>?_;obtain⟨a,kind,to,⟨op,n,l⟩,⟨aT,n2,l2⟩,body,other,v,z,fb,ho,⟨h1,h2,h3⟩,rfl,h0,h8,hv,hg,hp⟩:=Kh e;injection hp with jx fI
 subst jx;subst fI;refine⟨aI.1 aV,fun B mc=>?_⟩;have hA:=EG<|.mk op n l;obtain⟨⟨pre,len,cap,post⟩,u,row⟩:=st;simp only at h1 h2;subst h1;subst h2;rw[aH] at hv hA;rw[aM,aH,aH];exact ahU mc ho h0 h8 hA hv hg
theorem adz(hP:bY pg)(h:aY L):aY<|Ql::L:=by
 refine JX hP gW zb jT jb mU mA h (GX hP<|Ep hP<|aeG hP dj) Tryd.func34 (body:=aL pg 34 []) aV aV fun st rest y br e=>?_;obtain⟨a,kind,to,⟨op,n,l⟩,⟨aT,n2,l2⟩,body,other,v,z,u',ho,⟨h1,h2,h3⟩,rfl,hv,hz,hq,hp⟩:=Kh e;injection hp with jx fI
 subst jx;subst fI;refine⟨aI.1 aV,fun B mc=>?_⟩;have hA:=EG<|.mk op n l;have hB:=EG<|.mk aT n2 l2;obtain⟨⟨pre,len,cap,post⟩,u,row⟩:=st;simp only at h1 h2;subst h1;subst h2;rw[aH] at hv hA hz hB;rw[aM,aH,aH];exact age mc ho hA hB hv hz hq
end jd
namespace cO
open cj fq cY gJ ia
variable {vE:VS} {u' u:AV} {fs:List Fr} {c:Nat} {a:MN} {B:aE}
def aD(l:List Fr)(z:Int):Fr:=l.getD z.toNat default
theorem qY{l:List Fr}{z:Int}(h0:0<=z)(h:z<(l.length:Int)):l[z.toNat]? =some (aD l z):=by
 have hz:z.toNat<l.length:=by omega
 unfold aD;rw[T9,TE hz];rfl
theorem OG:fY<=273:=aI.1 aV
theorem Q6{st:VS}{y Y:AV}{s:AS}(h:vE=st)(e:Y=y)(h1:s.h.get 270=some (bt<|eB st.R 271 272))(h2:s.h.get 271=some (.tok 3 st.u))(h3:s.h.get 272=some (bt st.row)):Y=y/\∀m o,(m,o)∈dW 270 3 vE->s.h.get m=some o:=by subst h;exact nw e h1 h2 h3
abbrev EH(a:MN)(n c:Nat)(u:AV)(fs:List Fr):List<|Nat×Option ah:=aq++[(270,some<|.cells 13 (Tr.fill (a.row (.ptr<|some (271,0)) (.slice (some (272,0)) (n)<|.au c 13)<|i6 a.steps) 0 .nil) []),(271,(some<|.tok 3 u)),(272,(some<|az aS<|fs.set ((n:Int) - 1).toNat ({(aD fs<|(n:Int) - 1) with aw:=0,turns:=((aD fs<|(n:Int) - 1).turns - 1)}:Fr)))]
abbrev Ci(a:MN)(n c:Nat)(u:AV)(fs:List Fr):VS:=(⟨⟨a.pre,n,(.au c 13),[.int .i64 a.steps]⟩,u,((fs.set ((n:Int) - 1).toNat ({(aD fs<|(n:Int) - 1) with aw:=0,turns:=((aD fs<|(n:Int) - 1).turns - 1)}:Fr)).map aS).flatten⟩:VS)
abbrev He(a:MN)(n c:Nat)(u:AV)(fs:List Fr):List<|Nat×Option ah:=aq++[(270,some<|.cells 13 (Tr.fill (a.row (.ptr<|some (271,0)) (.slice (some (272,0)) ((((n:Int) - 1)).toNat)<|.au c 13)<|i6 a.steps) 0 .nil) []),(271,(some<|.tok 3 u)),(272,(some<|az aS fs))]
abbrev Hf(a:MN)(n c:Nat)(u':AV)(fs:List Fr):List<|Nat×Option ah:=aq++[(270,some<|.cells 13 (Tr.fill (a.row (.ptr<|some (271,0)) (.slice (some (272,0)) ((((n:Int) - 1)).toNat)<|.au c 13)<|i6 a.steps) 0 .nil) []),(271,(some<|.tok 3 u')),(272,(some<|az aS fs))]
abbrev Hg(a:MN)(n c:Nat)(u:AV)(fs:List Fr):List<|Nat×Option ah:=aq++[(270,some<|.cells 13 (Tr.fill (a.row (.ptr<|some (271,0)) (.slice (some (272,0)) (n)<|.au c 13)<|i6 a.steps) 0 .nil) []),(271,(some<|.tok 3 u)),(272,(some<|az aS fs))]
abbrev dS(a:MN)(n c:Nat)(u:AV)(fs:List Fr):VS:=(⟨⟨a.pre,n,(.au c 13),[.int .i64 a.steps]⟩,u,(fs.map aS).flatten⟩:VS)
abbrev Hh(a:MN)(n c:Nat)(u:AV)(fs:List Fr):AS:=aj (aq++bf (dW 270 3 (⟨⟨a.pre,((n:Int) - 1).toNat,(.au c 13),[.int .i64 a.steps]⟩,u,(fs.map aS).flatten⟩:VS))) 273
abbrev Hi(a:MN)(n c:Nat)(u':AV)(fs:List Fr):AS:=aj (aq++bf (dW 270 3 (⟨⟨a.pre,((n:Int) - 1).toNat,(.au c 13),[.int .i64 a.steps]⟩,u',(fs.map aS).flatten⟩:VS))) 273
abbrev Qm(fs:List Fr)(n:Nat):Fr:=({(aD fs<|(n:Int) - 1) with aw:=(aD fs<|(n:Int) - 1).aw,turns:=((aD fs<|(n:Int) - 1).turns - 1)}:Fr)
theorem E7{n:Nat}(mc:Mt [Eo] B)(hn:n<=fs.length)(hc:n<=c)(hf:fs.length<=1000000)(hR:fs.length*13<=top)(ay:0<=(aD fs<|(n:Int) - 1).turns/\(aD fs<|(n:Int) - 1).turns<=1000000)(hm:(0<(n:Int)/\¬((aD fs<|(n:Int) - 1).aw<(((aD fs<|(n:Int) - 1).block.length:Nat):Int))/\¬(0<(aD fs<|(n:Int) - 1).turns)/\(aD fs<|(n:Int) - 1).cq=true)->iZ (ir bZ Kf) u []=some ((.int .i64 0:AV),u'))(E0:¬(0<(n:Int))->vE=(dS a n c u fs))(E1:0<(n:Int)->(aD fs<|(n:Int) - 1).aw<(((aD fs<|(n:Int) - 1).block.length:Nat):Int)->vE=(dS a n c u fs))(E2:0<(n:Int)->¬((aD fs<|(n:Int) - 1).aw<(((aD fs<|(n:Int) - 1).block.length:Nat):Int))->0<(aD fs<|(n:Int) - 1).turns->0<(((aD fs<|(n:Int) - 1).block.length:Nat):Int)->vE=(Ci a n c u fs))(H1:(0<(n:Int)/\¬((aD fs<|(n:Int) - 1).aw<(((aD fs<|(n:Int) - 1).block.length:Nat):Int))/\0<(aD fs<|(n:Int) - 1).turns/\¬(0<(((aD fs<|(n:Int) - 1).block.length:Nat):Int)))->av pg B 273 (iE 270 3 pg (aC Tryd.f40) (.tuple []) vE) (⟨40,aA [(0,.ptr<|some (270,0))],(max Tryd.f40.ntmps 1),[.code<|aL pg 40 [0,0],.inLoop<|aL pg 40 [0,0],.inBlock 0],[],none⟩:AF) (aj (aq++bf (dW 270 3<|Ci a n c u fs)) 273))(H2:(0<(n:Int)/\¬((aD fs<|(n:Int) - 1).aw<(((aD fs<|(n:Int) - 1).block.length:Nat):Int))/\¬(0<(aD fs<|(n:Int) - 1).turns)/\(aD fs<|(n:Int) - 1).cq=true)->av pg B 273 (iE 270 3 pg (aC Tryd.f40) (.tuple []) vE) (⟨40,aA [(0,.ptr<|some (270,0))],(max Tryd.f40.ntmps 1),[.code<|aL pg 40 [0,0],.inLoop<|aL pg 40 [0,0],.inBlock 0],[],none⟩:AF) (Hi a n c u' fs))(H3:(0<(n:Int)/\¬((aD fs<|(n:Int) - 1).aw<(((aD fs<|(n:Int) - 1).block.length:Nat):Int))/\¬(0<(aD fs<|(n:Int) - 1).turns)/\(aD fs<|(n:Int) - 1).cq=false)->av pg B 273 (iE 270 3 pg (aC Tryd.f40) (.tuple []) vE) (⟨40,aA [(0,.ptr<|some (270,0))],(max Tryd.f40.ntmps 1),[.code<|aL pg 40 [0,0],.inLoop<|aL pg 40 [0,0],.inBlock 0],[],none⟩:AF) (Hh a n c u fs)):av pg B 273 (iE 270 3 pg (aC Tryd.f40) (.tuple []) vE) (⟨40,aA [(0,.ptr<|some (270,0))],(max Tryd.f40.ntmps 1),[.code<|aL pg 40 [0,0],.inLoop<|aL pg 40 [0,0],.inBlock 0],[],none⟩:AF)<|aj (aq++bf (dW 270 3<|dS a n c u fs)) 273:=
 wp_cut (E:=rO [Eo]) (C:=(fun fr s1 _=>fr=(⟨40,aA [(0,.ptr<|some (270,0))],(max Tryd.f40.ntmps 1),[.code<|aL pg 40 [0,0],.inLoop<|aL pg 40 [0,0],.inBlock 0],[],none⟩:AF)/\(((0<(n:Int)/\¬((aD fs<|(n:Int) - 1).aw<(((aD fs<|(n:Int) - 1).block.length:Nat):Int))/\0<(aD fs<|(n:Int) - 1).turns/\¬(0<(((aD fs<|(n:Int) - 1).block.length:Nat):Int)))/\s1=(aj (aq++bf (dW 270 3<|Ci a n c u fs)) 273))\/((0<(n:Int)/\¬((aD fs<|(n:Int) - 1).aw<(((aD fs<|(n:Int) - 1).block.length:Nat):Int))/\¬(0<(aD fs<|(n:Int) - 1).turns)/\(aD fs<|(n:Int) - 1).cq=true)/\s1=(Hi a n c u' fs))\/((0<(n:Int)/\¬((aD fs<|(n:Int) - 1).aw<(((aD fs<|(n:Int) - 1).block.length:Nat):Int))/\¬(0<(aD fs<|(n:Int) - 1).turns)/\(aD fs<|(n:Int) - 1).cq=false)/\s1=(Hh a n c u fs))))) fw rfl bR mc.2.2.1 mc.2.2.2 OG rfl mc.1 (fun fr s1 p hC=>by
  obtain⟨rfl,hC⟩:=hC;rcases hC with⟨h,rfl⟩|⟨h,rfl⟩|⟨h,rfl⟩
  ·exact H1 h
  ·exact H2 h
  ·exact H3 h) 900 (.st 2<|.rg<|.go 5<|.fk (.en<|.st 4<|.rg<|.go 9<|.vl (i6<|(n:Int) - 1)<|.ix<|.go 1<|.en<|.st 3<|.rg<|.go 3<|.ld [(i6<|(aD fs<|(n:Int) - 1).aw)]<|.go 3<|.ld [(.ab (nm ((aD fs<|(n:Int) - 1).block.map aM).flatten) 0 (aD fs<|(n:Int) - 1).block.length)]<|.go 1<|.fk (.go 1<|.en<|.rt 2 .no)<|.go 1<|.en<|.st 2<|.rg<|.go 3<|.ld [(i6<|(aD fs<|(n:Int) - 1).turns)]<|.fk (.go 1<|.en<|.st 2<|.rg<|.go 5<|.ld [(i6<|(aD fs<|(n:Int) - 1).turns)]<|.vl (i6<|(aD fs<|(n:Int) - 1).turns - 1)<|.go 2<|.oU (az aS<|fs.set ((n:Int) - 1).toNat<|Qm fs n)<|.go 2<|.oU (az aS<|fs.set ((n:Int) - 1).toNat ({(aD fs<|(n:Int) - 1) with aw:=0,turns:=((aD fs<|(n:Int) - 1).turns - 1)}:Fr))<|.en<|.st 2<|.rg<|.go 3<|.ld [(.ab (nm ((aD fs<|(n:Int) - 1).block.map aM).flatten) 0 (aD fs<|(n:Int) - 1).block.length)]<|.go 1<|.fk (.en<|.rt 2 .no)<|.en<|.st 4<|.ls [(0,.ptr<|some (270,0))] (EH a n c u fs) 273 .no)<|.go 1<|.en<|.st 2<|.rg<|.go 3<|.ZQ ((aD fs<|(n:Int) - 1).cq) (.go 1<|.en<|.st 1<|.rg<|.go 4<|.kt i0 u'<|.en<|.st 1<|.rg<|.go 10<|.vl (i6<|(n:Int) - 1)<|.so<|.go 3<|.en<|.st 2<|.ls [(0,.ptr<|some (270,0))] (Hf a n c u' fs) 273 .no)<|.go 1<|.en<|.st 3<|.rg<|.go 10<|.vl (i6<|(n:Int) - 1)<|.so<|.go 3<|.en<|.st 2<|.ls [(0,.ptr<|some (270,0))] (He a n c u fs) 273 .no)<|.en<|.rt 3 .no)
  (bq ((n:Int)>0) (fun _=>(ai (wI<|(n:Int) - 1)
  (gq ((n:Int) - 1) (n:Int)
  (ai (ur jO hR (qY (l:=fs) (z:=((n:Int) - 1)) ae ae) 1 1 rfl)
  (ai (ur jO hR (qY (l:=fs) (z:=((n:Int) - 1)) ae ae) 0 1 rfl)
  (bq ((aD fs<|(n:Int) - 1).aw<(((aD fs<|(n:Int) - 1).block.length:Nat):Int)) (fun _=>(Q6 (st:=(dS a n c u fs)) (s:=aj (Hg a n c u fs) 273) (E1 ae ae) (show((.tuple []):AV)= .tuple [] from rfl) cf cf cf))
  (fun _=>(ai (ur jO hR (qY (l:=fs) (z:=((n:Int) - 1)) ae ae) 2 1 rfl)
  (bq ((aD fs<|(n:Int) - 1).turns>0) (fun _=>(ai (ur jO hR (qY (l:=fs) (z:=((n:Int) - 1)) ae ae) 2 1 rfl)
  (ai (wI<|(aD fs<|(n:Int) - 1).turns - 1)
  (ai (G6 jO hR (qY (l:=fs) (z:=((n:Int) - 1)) ae ae) (c':=(Qm fs n)) (r:=[(i6<|((aD fs<|(n:Int) - 1).turns - 1))]) 2 rfl rfl rfl)
  (ai (afx jO hR (qY (l:=fs) (z:=((n:Int) - 1)) ae ae) (c:=(Qm fs n)) (c':=({(aD fs<|(n:Int) - 1) with aw:=0,turns:=((aD fs<|(n:Int) - 1).turns - 1)}:Fr)) (r:=[i0]) 1 rfl rfl rfl)
  (ai (afw jO hR (qY (l:=fs) (z:=((n:Int) - 1)) ae ae) (c:=({(aD fs<|(n:Int) - 1) with aw:=0,turns:=((aD fs<|(n:Int) - 1).turns - 1)}:Fr)) 0 1 rfl)
  (bq ((((aD fs<|(n:Int) - 1).block.length:Nat):Int)>0) (fun _=>(Q6 (st:=(Ci a n c u fs)) (s:=aj (EH a n c u fs) 273) (E2 ae ae ae ae) (show((.tuple []):AV)= .tuple [] from rfl) cf cf cf))
  (fun _=>(ai (mS [(0,.ptr<|some (270,0))])<|ai (mO<|EH a n c u fs)<|ai (rX (⟨40,aA [(0,.ptr<|some (270,0))],(max Tryd.f40.ntmps 1),[.code<|aL pg 40 [0,0],.inLoop<|aL pg 40 [0,0],.inBlock 0],[],none⟩:AF)) (show((0<(n:Int)/\¬((aD fs<|(n:Int) - 1).aw<(((aD fs<|(n:Int) - 1).block.length:Nat):Int))/\0<(aD fs<|(n:Int) - 1).turns/\¬(0<(((aD fs<|(n:Int) - 1).block.length:Nat):Int)))/\(aj (EH a n c u fs) 273)=(aj (aq++bf (dW 270 3<|Ci a n c u fs)) 273))\/((0<(n:Int)/\¬((aD fs<|(n:Int) - 1).aw<(((aD fs<|(n:Int) - 1).block.length:Nat):Int))/\¬(0<(aD fs<|(n:Int) - 1).turns)/\(aD fs<|(n:Int) - 1).cq=true)/\(aj (EH a n c u fs) 273)=(Hi a n c u' fs))\/((0<(n:Int)/\¬((aD fs<|(n:Int) - 1).aw<(((aD fs<|(n:Int) - 1).block.length:Nat):Int))/\¬(0<(aD fs<|(n:Int) - 1).turns)/\(aD fs<|(n:Int) - 1).cq=false)/\(aj (EH a n c u fs) 273)=(Hh a n c u fs)) from Or.inl<|ai (show(0<(n:Int)/\¬((aD fs<|(n:Int) - 1).aw<(((aD fs<|(n:Int) - 1).block.length:Nat):Int))/\0<(aD fs<|(n:Int) - 1).turns/\¬(0<(((aD fs<|(n:Int) - 1).block.length:Nat):Int))) from⟨by omega,by omega,by omega,by omega⟩) cf))))))))))
  (fun _=>(ai (ur jO hR (qY (l:=fs) (z:=((n:Int) - 1)) ae ae) 3 1 rfl) (tfb ((aD fs<|(n:Int) - 1).cq) (fun h5=>(ai (hm ⟨by omega,by omega,by omega,h5⟩)
  (ai (wI<|(n:Int) - 1)
  (ai (show(0:Int)=0 from rfl)<|ai (show 0<=((n:Int) - 1) from ae) (ai (show((n:Int) - 1)<=Int.ofNat (jR n<|.au c 13) from(show((n:Int) - 1)<=(c:Int) from by omega))
  (ai (mS [(0,.ptr<|some (270,0))])<|ai (mO<|Hf a n c u' fs)<|ai (rX (⟨40,aA [(0,.ptr<|some (270,0))],(max Tryd.f40.ntmps 1),[.code<|aL pg 40 [0,0],.inLoop<|aL pg 40 [0,0],.inBlock 0],[],none⟩:AF)) (show((0<(n:Int)/\¬((aD fs<|(n:Int) - 1).aw<(((aD fs<|(n:Int) - 1).block.length:Nat):Int))/\0<(aD fs<|(n:Int) - 1).turns/\¬(0<(((aD fs<|(n:Int) - 1).block.length:Nat):Int)))/\(aj (Hf a n c u' fs) 273)=(aj (aq++bf (dW 270 3<|Ci a n c u fs)) 273))\/((0<(n:Int)/\¬((aD fs<|(n:Int) - 1).aw<(((aD fs<|(n:Int) - 1).block.length:Nat):Int))/\¬(0<(aD fs<|(n:Int) - 1).turns)/\(aD fs<|(n:Int) - 1).cq=true)/\(aj (Hf a n c u' fs) 273)=(Hi a n c u' fs))\/((0<(n:Int)/\¬((aD fs<|(n:Int) - 1).aw<(((aD fs<|(n:Int) - 1).block.length:Nat):Int))/\¬(0<(aD fs<|(n:Int) - 1).turns)/\(aD fs<|(n:Int) - 1).cq=false)/\(aj (Hf a n c u' fs) 273)=(Hh a n c u fs)) from Or.inr<|Or.inl<|ai (show(0<(n:Int)/\¬((aD fs<|(n:Int) - 1).aw<(((aD fs<|(n:Int) - 1).block.length:Nat):Int))/\¬(0<(aD fs<|(n:Int) - 1).turns)/\(aD fs<|(n:Int) - 1).cq=true) from⟨by omega,by omega,by omega,h5⟩) cf)))))))
  (fun h5=>(ai (wI<|(n:Int) - 1)
  (ai (show(0:Int)=0 from rfl)<|ai (show 0<=((n:Int) - 1) from ae) (ai (show((n:Int) - 1)<=Int.ofNat (jR n<|.au c 13) from(show((n:Int) - 1)<=(c:Int) from by omega))
  (ai (mS [(0,.ptr<|some (270,0))])<|ai (mO<|He a n c u fs)<|ai (rX (⟨40,aA [(0,.ptr<|some (270,0))],(max Tryd.f40.ntmps 1),[.code<|aL pg 40 [0,0],.inLoop<|aL pg 40 [0,0],.inBlock 0],[],none⟩:AF)) (show((0<(n:Int)/\¬((aD fs<|(n:Int) - 1).aw<(((aD fs<|(n:Int) - 1).block.length:Nat):Int))/\0<(aD fs<|(n:Int) - 1).turns/\¬(0<(((aD fs<|(n:Int) - 1).block.length:Nat):Int)))/\(aj (He a n c u fs) 273)=(aj (aq++bf (dW 270 3<|Ci a n c u fs)) 273))\/((0<(n:Int)/\¬((aD fs<|(n:Int) - 1).aw<(((aD fs<|(n:Int) - 1).block.length:Nat):Int))/\¬(0<(aD fs<|(n:Int) - 1).turns)/\(aD fs<|(n:Int) - 1).cq=true)/\(aj (He a n c u fs) 273)=(Hi a n c u' fs))\/((0<(n:Int)/\¬((aD fs<|(n:Int) - 1).aw<(((aD fs<|(n:Int) - 1).block.length:Nat):Int))/\¬(0<(aD fs<|(n:Int) - 1).turns)/\(aD fs<|(n:Int) - 1).cq=false)/\(aj (He a n c u fs) 273)=(Hh a n c u fs)) from Or.inr<|Or.inr<|ai (show(0<(n:Int)/\¬((aD fs<|(n:Int) - 1).aw<(((aD fs<|(n:Int) - 1).block.length:Nat):Int))/\¬(0<(aD fs<|(n:Int) - 1).turns)/\(aD fs<|(n:Int) - 1).cq=false) from⟨by omega,by omega,by omega,h5⟩) cf))))))))))))))))))
  (fun _=>(Q6 (st:=(dS a n c u fs)) (s:=aj (Hg a n c u fs) 273) (E0 ae) (show((.tuple []):AV)= .tuple [] from rfl) cf cf cf)))
abbrev frS:AF:=(⟨40,aA [(0,.ptr<|some (270,0))],(max Tryd.f40.ntmps 1),[.code<|aL pg 40 [0,0],.inLoop<|aL pg 40 [0,0],.inBlock 0],[],none⟩:AF)
abbrev stS(a:MN)(n c:Nat)(u:AV)(fs:List Fr):VS:=(dS a n c u fs)
theorem ahV{n:Nat}{u':AV}(mc:Mt [Eo] B)(H:av pg B 273 (iE 270 3 pg (aC Tryd.f40) (.tuple []) vE) (⟨40,aA [(0,.ptr<|some (270,0))],(max Tryd.f40.ntmps 1),[.code<|aL pg 40 [0,0],.inLoop<|aL pg 40 [0,0],.inBlock 0],[],none⟩:AF)<|aj (aq++bf (dW 270 3<|dS a n c u fs)) 273):av pg B 273 (iE 270 3 pg (aC Tryd.f40) (.tuple []) vE) (sF 40 Tryd.f40 [.ptr<|some (270,0)])<|aj (aq++bf (dW 270 3<|dS a n c u fs)) 273:=
 wp_cut (E:=rO [Eo]) (C:=(fun fr s1 _=>fr=(⟨40,aA [(0,.ptr<|some (270,0))],(max Tryd.f40.ntmps 1),[.code<|aL pg 40 [0,0],.inLoop<|aL pg 40 [0,0],.inBlock 0],[],none⟩:AF)/\s1=(aj (aq++bf (dW 270 3<|dS a n c u fs)) 273))) fw rfl bR mc.2.2.1 mc.2.2.2 OG rfl mc.1 (fun fr s1 p hC=>by
  obtain⟨rfl,rfl⟩:=hC;exact H) 900 (.st 2<|.ls [(0,.ptr<|some (270,0))] (Hg a n c u fs) 273 .no)
  (ai (mS [(0,.ptr<|some (270,0))])<|ai (mO<|Hg a n c u fs)<|ai (rX (⟨40,aA [(0,.ptr<|some (270,0))],(max Tryd.f40.ntmps 1),[.code<|aL pg 40 [0,0],.inLoop<|aL pg 40 [0,0],.inBlock 0],[],none⟩:AF)) (show(aj (Hg a n c u fs) 273)=(aj (aq++bf (dW 270 3<|dS a n c u fs)) 273) from cf))
end cO
