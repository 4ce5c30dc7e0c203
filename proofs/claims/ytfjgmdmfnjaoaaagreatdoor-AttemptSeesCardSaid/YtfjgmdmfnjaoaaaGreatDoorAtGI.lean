import Derived.Test.YtfjgmdmfnjaoaaaGreatDoorProg
import Derived.Test.YtfjgmdmfnjaoaaaGreatDoorRnGG
import Derived.KernelRfl
import Derived.Test.YtfjgmdmfnjaoaaaGreatDoorRnGH
import Derived.Test.YtfjgmdmfnjaoaaaGreatDoorRnGE
set_option maxRecDepth 100000
set_option maxHeartbeats 8000000
set_option linter.unusedSimpArgs false
set_option linter.unusedVariables false
section
open Go Go.Rn Go.RowKit Go.Proofs
namespace cG
inductive Ex where
 |mk (op n:Int) (args:List Ex)
instance:Inhabited Ex:=⟨.mk 0 0 []⟩
mutual
noncomputable def aD:Ex->List AV
 | .mk op n args=>[.int .u8 op,.int .i64 n,.U (nm<|cN args) 0 args.length]
noncomputable def cN:List Ex->List AV
 |[]=>[]
 |e::l=>aD e++cN l
end
theorem CO:∀l:List Ex,cN l=(l.map aD).flatten
 |[]=>by rw[cN];rfl
 |e::l=>by rw[cN,CO l];rfl
theorem Nt{op n:Int}{args:List Ex}:aD (.mk op n args)=[.int .u8 op,.int .i64 n,aS aD args]:=by rw[aD,CO];rfl
theorem kF:mw 3 aD:=⟨fun⟨_,_,_⟩=>by rw[aD];rfl,fun⟨_,_,_⟩=>by rw[aD];show(true&&(true&&(Nat.ble top (nm _)&&true)))=true;rw[aM.2<|cr _];rfl⟩
theorem Sr(l:List Ex):(cN l).all AV.ga=true:=by rw[CO];exact kF.all l
theorem ti{l m:List AV}(h1:l.all AV.ga=true)(h2:m.all AV.ga=true)(h:nm l=nm m):l=m:=by have e:=DP h1;rw[h,DP h2] at e;injection e with e;exact e.symm
mutual
theorem nw:∀x y:Ex,aD x=aD y->x=y
 | .mk a b l,.mk c d m,h=>by rw[aD,aD] at h;simp only[List.cons.injEq,AV.int.injEq,AV.U.injEq,true_and,_root_.and_true] at h;obtain⟨h1,h2,h3,_⟩:=h;rw[h1,h2,Ss l m<|ti (Sr l) (Sr m) h3]
theorem Ss:∀l m:List Ex,cN l=cN m->l=m
 |[],[],_=>rfl
 |[],⟨_,_,_⟩::m,h=>by rw[cN,cN,aD] at h;cases h
 |⟨_,_,_⟩::l,[],h=>by rw[cN,cN,aD] at h;cases h
 |x::l,y::m,h=>by rw[cN,cN] at h;obtain⟨h1,h2⟩:=List.append_inj h (by rw[kF.len x,kF.len y]);rw[nw x y h1,Ss l m h2]
end
def Ex.op:Ex->Int| .mk o _ _=>o
def Ex.n:Ex->Int| .mk _ n _=>n
def Ex.args:Ex->List Ex| .mk _ _ l=>l
def eN:Nat->Ex->Bool
 |0,_=>false
 |k+1,.mk op n args=>
  if op=1 then args.isEmpty else if op=2 then args.isEmpty&&decide (0<=n)&&decide (n<8) else if op=3 then args.isEmpty&&decide (0<=n)&&decide (n<6)
  else if op<4\/op>8\/n≠0 then false else decide (args.length=2)&&eN k (args.getD 0 default)&&eN k (args.getD 1 default)
theorem Md{k:Nat}{op n:Int}{args:List Ex}:eN (k+1) (.mk op n args)=if op=1 then args.isEmpty else if op=2 then args.isEmpty&&decide (0<=n)&&decide (n<8) else if op=3 then args.isEmpty&&decide (0<=n)&&decide (n<6) else if op<4\/op>8\/n≠0 then false else decide (args.length=2)&&eN k (args.getD 0 default)&&eN k (args.getD 1 default):=rfl
end cG
end
section
open Go Go.Rn Go.RowKit Go.Proofs
namespace dt
open cG
inductive St where
 |mk (kind to:Int) (a b:Ex) (body other:List St)
instance:Inhabited St:=⟨.mk 0 0 default default [] []⟩
mutual
noncomputable def aP:St->List AV
 | .mk kind to a b body other=>[.int .u8 kind,.int .i64 to]++(aD a++(aD b++[.U (nm<|bA body) 0 body.length,.U (nm<|bA other) 0 other.length]))
noncomputable def bA:List St->List AV
 |[]=>[]
 |e::l=>aP e++bA l
end
theorem uL:∀l:List St,bA l=(l.map aP).flatten
 |[]=>by rw[bA];rfl
 |e::l=>by rw[bA,uL l];rfl
theorem wU{kind to:Int}{a b:Ex}{body other:List St}:aP (.mk kind to a b body other)=[.int .u8 kind,.int .i64 to]++(aD a++(aD b++[aS aP body,aS aP other])):=by rw[aP,uL,uL];rfl
theorem mC:mw 10 aP:=⟨fun⟨_,_,a,b,_,_⟩=>by
 rw[aP,List.length_append,List.length_append,List.length_append,kF.len a,kF.len b];rfl,fun⟨_,_,a,b,_,_⟩=>by
 rw[aP,List.all_append,List.all_append,List.all_append,kF.ga a,kF.ga b];show(true&&(true&&true)&&(true&&(true&&(Nat.ble top (nm _)&&(Nat.ble top (nm _)&&true)))))=true;rw[aM.2<|cr _,aM.2<|cr _];rfl⟩
theorem lL(l:List St):(bA l).all AV.ga=true:=by rw[uL];exact mC.all l
mutual
theorem MQ:∀x y:St,aP x=aP y->x=y
 | .mk k t a b l m,.mk k' t' a' b' l' m',h=>by rw[aP,aP] at h;obtain⟨h1,h⟩:=List.append_inj h rfl;obtain⟨h2,h⟩:=List.append_inj h (by rw[kF.len,kF.len]);obtain⟨h3,h⟩:=List.append_inj h (by rw[kF.len,kF.len]);simp only[List.cons.injEq,AV.int.injEq,AV.U.injEq,true_and,_root_.and_true] at h1 h;rw[h1.1,h1.2,nw _ _ h2,nw _ _ h3,sN l l'<|ti (lL l) (lL l') h.1.1,sN m m'<|ti (lL m) (lL m') h.2.1]
theorem sN:∀l m:List St,bA l=bA m->l=m
 |[],[],_=>rfl
 |[],y::m,h=>by have:=congrArg List.length h;rw[bA,bA,List.length_append,mC.len y] at this;simp only[List.length_nil] at this;omega
 |x::l,[],h=>by have:=congrArg List.length h;rw[bA,bA,List.length_append,mC.len x] at this;simp only[List.length_nil] at this;omega
 |x::l,y::m,h=>by rw[bA,bA] at h;obtain⟨h1,h2⟩:=List.append_inj h (by rw[mC.len x,mC.len y]);rw[MQ x y h1,sN l m h2]
end
theorem xI(e:St):AV.hi (.agg<|aP e)=true:=by show(aP e).all AV.bG=true;exact List.all_eq_true.2 fun x hx=>CZ<|List.all_eq_true.1 (mC.ga e) x hx
def lq:Nat->Ex->Int
 |0,_=>0
 |k+1,.mk _ _ args=>args.foldl (fun n a=>n+lq k a) 1
end dt
end
section
namespace Go.Rn
variable {P:Prop}
theorem dR(h:P:=by first|omega|(simp only[List.length_set,List.length_take,List.length_append,List.length_cons,List.length_nil];omega)):P:=h
theorem QK(h:P:=by exact ax (to<0) (fun _=>(show AV.bool false= .bool (decide<|0<=to/\to<8/\to=0/\xa=1/\xb=1/\ld=0/\le=0) from by rw[decide_eq_false ae])) fun _=>(ax (to>=8) (fun _=>(show AV.bool false= .bool (decide<|0<=to/\to<8/\to=0/\xa=1/\xb=1/\ld=0/\le=0) from by rw[decide_eq_false ae])) fun _=>(ax (to≠0) (fun _=>(show AV.bool false= .bool (decide<|0<=to/\to<8/\to=0/\xa=1/\xb=1/\ld=0/\le=0) from by rw[decide_eq_false ae])) fun _=>(ai ha<|ax (xa=1) (fun _=>(ai hb<|ax (xb=1) (fun _=>(ax ((ld:Int)=0) (fun _=>(ax ((le:Int)=0) (fun _=>(show AV.bool true= .bool (decide<|0<=to/\to<8/\to=0/\xa=1/\xb=1/\ld=0/\le=0) from by rw[decide_eq_true ae])) fun _=>(show AV.bool false= .bool (decide<|0<=to/\to<8/\to=0/\xa=1/\xb=1/\ld=0/\le=0) from by rw[decide_eq_false ae]))) fun _=>(show AV.bool false= .bool (decide<|0<=to/\to<8/\to=0/\xa=1/\xb=1/\ld=0/\le=0) from by rw[decide_eq_false ae]))) fun _=>(show AV.bool false= .bool (decide<|0<=to/\to<8/\to=0/\xa=1/\xb=1/\ld=0/\le=0) from by rw[decide_eq_false ae]))) fun _=>(show AV.bool false= .bool (decide<|0<=to/\to<8/\to=0/\xa=1/\xb=1/\ld=0/\le=0) from by rw[decide_eq_false ae]))))):P:=h
theorem cw(h:P:=by as_aux_lemma=>kernel_rfl):P:=h
theorem bF(h:P:=by exact fun _=>(oF ae)):P:=h
theorem o9(h:P:=by exact fun _=>(wq0 (m:=m) (op:=op) (n:=n) (L:=L) (x0:=x0) (x1:=x1) ae)):P:=h
theorem X0(h:P:=by exact ax (to<0) (fun _=>(show AV.bool false= .bool (decide<|0<=to/\to<8/\xa=1/\xb=1/\ld=0/\le=0) from by rw[decide_eq_false ae])) fun _=>(ax (to>=8) (fun _=>(show AV.bool false= .bool (decide<|0<=to/\to<8/\xa=1/\xb=1/\ld=0/\le=0) from by rw[decide_eq_false ae])) fun _=>(ai ha<|ax (xa=1) (fun _=>(ai hb<|ax (xb=1) (fun _=>(ax ((ld:Int)=0) (fun _=>(ax ((le:Int)=0) (fun _=>(show AV.bool true= .bool (decide<|0<=to/\to<8/\xa=1/\xb=1/\ld=0/\le=0) from by rw[decide_eq_true ae])) fun _=>(show AV.bool false= .bool (decide<|0<=to/\to<8/\xa=1/\xb=1/\ld=0/\le=0) from by rw[decide_eq_false ae]))) fun _=>(show AV.bool false= .bool (decide<|0<=to/\to<8/\xa=1/\xb=1/\ld=0/\le=0) from by rw[decide_eq_false ae]))) fun _=>(show AV.bool false= .bool (decide<|0<=to/\to<8/\xa=1/\xb=1/\ld=0/\le=0) from by rw[decide_eq_false ae]))) fun _=>(show AV.bool false= .bool (decide<|0<=to/\to<8/\xa=1/\xb=1/\ld=0/\le=0) from by rw[decide_eq_false ae])))):P:=h
theorem X1(h:P:=by exact ax (to<0) (fun _=>(show AV.bool false= .bool (decide<|0<=to/\to<8/\to=0/\xa=1/\xb=1) from by rw[decide_eq_false ae])) fun _=>(ax (to>=8) (fun _=>(show AV.bool false= .bool (decide<|0<=to/\to<8/\to=0/\xa=1/\xb=1) from by rw[decide_eq_false ae])) fun _=>(ax (to≠0) (fun _=>(show AV.bool false= .bool (decide<|0<=to/\to<8/\to=0/\xa=1/\xb=1) from by rw[decide_eq_false ae])) fun _=>(ai ha<|ax (xa=1) (fun _=>(ai hb<|ax (xb=1) (fun _=>(show AV.bool true= .bool (decide<|0<=to/\to<8/\to=0/\xa=1/\xb=1) from by rw[decide_eq_true ae])) fun _=>(show AV.bool false= .bool (decide<|0<=to/\to<8/\to=0/\xa=1/\xb=1) from by rw[decide_eq_false ae]))) fun _=>(show AV.bool false= .bool (decide<|0<=to/\to<8/\to=0/\xa=1/\xb=1) from by rw[decide_eq_false ae]))))):P:=h
theorem nr(h:P:=by exact fun fr s1 p hC=>by obtain⟨rfl,rfl⟩:=hC;exact H):P:=h
theorem Lm(h:P:=by exact nL (st:=(fe a n c u fs)) (s:=ak (afB a n c u fs kind to op nn N L aG n2 N2 L2 N3 L3 N4 L4) 275) (show(.agg [(u8<|.ofNat 1),i0,i0])=Y from(EI ae ae ae)) cw cw cw):P:=h
theorem X2(h:P:=by exact dc to (Int.ofNat 8)<|ai (Nu (c':=(i6 z)) (show((a.row (.ptr<|some (271,0)) (.slice (some (272,0)) (len) cap)<|i6 a.steps):List AV).length<=top from aM.1 aX) (UL (a.row (.ptr<|some (271,0)) (.slice (some (272,0)) (len) cap)<|i6 a.steps) (k:=2+to.toNat) ae) rfl)<|nL (st:=(⟨⟨(a.pre:List AV).set (2+to.toNat)<|.int .i64 z,len,cap,[.int .i64 a.steps]⟩,u,row⟩:VS)) (s:=ak (VE a len cap to z u row kind op n N L aG n2 N2 L2 N3 L3 N4 L4) 274) (show((.tuple []):AV)= .tuple [] from rfl) ((show(ak (VE a len cap to z u row kind op n N L aG n2 N2 L2 N3 L3 N4 L4) 274).h.get 270=(some<|aN lU<|((a.row (.ptr<|some (271,0)) (.slice (some (272,0)) (len) cap)<|i6 a.steps):List AV).set (2+to.toNat)<|i6 z) from cw).trans<|congrArg some<|UM (pre:=a.pre) (post:=[.int .i64 a.steps]) (len:=len) (i:=2+to.toNat) (r1:=271) (r2:=272) (cap:=cap) (c:=.int .i64 z) (by show 2+to.toNat<10;omega)) cw cw):P:=h
theorem WX(h:P:=by exact fun _=>(jK [mm,iE,jF,kP,me] 56 272 (vR nM) (xp op nn N L) (fe a n c u fs) (i6 v) hO hv hA cw<|ai hg<|nL (st:=(fe a n c u fs)) (s:=ak (ar++[(270,some<|.cells 13 (Tr.fill (a.row (.ptr<|some (271,0)) (Jz n c)<|i6 a.steps) 0 .nil) []),(271,(some<|.tok 3 u)),(272,(some<|aN aJ fs)),(273,some<|.cells 3 (Tr.fill [(u8<|.ofNat 2),(i6 v),i0] 0 .nil) []),(274,some<|.cells 10 (Tr.fill (tj kind to op nn N L aG n2 N2 L2 N3 L3 N4 L4) 0 .nil) [])]) 275) (show(.agg [(u8<|.ofNat 2),(i6 v),i0])=Y from(E2 ae)) cw cw cw)):P:=h
theorem WY(h:P:=by exact fun _=>(jK [mm,iE,jF,kP,me] 54 272 (vR jo) (xp op nn N L) (fe a n c u fs) (i6 z) hO hz hA cw<|nL (st:=(fe a n c u fs)) (s:=ak (ar++[(270,some<|.cells 13 (Tr.fill (a.row (.ptr<|some (271,0)) (Jz n c)<|i6 a.steps) 0 .nil) []),(271,(some<|.tok 3 u)),(272,(some<|aN aJ fs)),(273,some<|.cells 3 (Tr.fill [(u8<|.ofNat 3),i0,(i6 z)] 0 .nil) []),(274,some<|.cells 10 (Tr.fill (tj kind to op nn N L aG n2 N2 L2 N3 L3 N4 L4) 0 .nil) [])]) 275) (show(.agg [(u8<|.ofNat 3),i0,(i6 z)])=Y from(E8 ae)) cw cw cw)):P:=h
theorem WZ(h:P:=by exact fun _=>(dc (0:Int) 2<|ai hn<|ai wk<|ai ju<|ax (x0=1) (fun _=>(dc (1:Int) 2<|ai hn<|ai jb<|ai jJ<|ax (x1=1) (fun _=>(show AV.bool true= .bool (decide<|¬(op=3/\n>=z)/\x0=1/\x1=1) from by rw[decide_eq_true ae])) fun _=>(show AV.bool false= .bool (decide<|¬(op=3/\n>=z)/\x0=1/\x1=1) from by rw[decide_eq_false ae]))) fun _=>(show AV.bool false= .bool (decide<|¬(op=3/\n>=z)/\x0=1/\x1=1) from by rw[decide_eq_false ae]))):P:=h
theorem W0(h:P:=by exact fun _=>(ax (op<4) o9 fun _=>(ax (op>8) o9 fun _=>(ax (n≠0) o9 fun _=>(ax ((L:Int)≠2) o9 fun _=>(dc (0:Int) (L:Int)<|ai hn<|ai (wk ae)<|ai (wI<|m - 1)<|ai (ju ae ae)<|ax (x0=1) (fun _=>(dc (1:Int) (L:Int)<|ai hn<|ai (jb ae)<|ai (wI<|m - 1)<|ai (jJ ae ae)<|ax (x1=1) KJ o9)) o9)))))):P:=h
theorem W1(h:P:=by exact fun _=>(nL (st:=(fe a n c u fs)) (s:=ak (ar++[(270,some<|.cells 13 (Tr.fill (a.row (.ptr<|some (271,0)) (Jz n c)<|i6 a.steps) 0 .nil) []),(271,(some<|.tok 3 u)),(272,(some<|aN aJ fs)),(273,some<|.cells 3 (Tr.fill [(u8<|.ofNat 4),i0,i0] 0 .nil) []),(274,some<|.cells 10 (Tr.fill (tj kind to op nn N L aG n2 N2 L2 N3 L3 N4 L4) 0 .nil) [])]) 275) (show(.agg [(u8<|.ofNat 4),i0,i0])=Y from(E6 ae ae)) cw cw cw)):P:=h
theorem PU(h:P:=by exact wm LM 65 280 (dJ eJ) [] (aT A1.pre m1 (.aq c1 13) A1.steps u1 br) (aT A2.pre m2 (.aq c2 13) A2.steps u2 bp) k9 sg ym<|EL 45 2 38 (dv 45 [1,1,1,1,1,1,1,1,1]) A2 m2 (.aq c2 13) u2 bp 280 281 hlen nN):P:=h
theorem BM(h:P:=by exact wI<|(av (fs.take n)<|(((0+n):Nat):Int) - 1).ah+1):P:=h
theorem W2(h:P:=by exact iO (show((a.row (.ptr<|some (271,0)) (.slice (some (272,0)) (len) cap)<|i6 a.steps):List AV).length<=top from aM.1 aX) (show((a.row (.ptr<|some (271,0)) (.slice (some (272,0)) (len) cap)<|i6 a.steps):List AV)[10]? =some (.ptr<|some (271,0)) from rfl)):P:=h
theorem KK(h:P:=by exact fun _=>(rfl:AV.tuple [.ptr none,.int .i64<|.ofNat 1]= .tuple [.ptr none,.int .i64 1])):P:=h
theorem BN(h:P:=by exact wI<|(((0+n):Nat):Int) - 1):P:=h
theorem W3(h:P:=by exact fun _=>(ax (kind=2) (fun _=>(jK [mm,iE,jF,kP,me] 56 272 (vR nM) (xp op nn N L) (fe a n c u fs) (i6 v) hO hv hA cw<|ai hg Lm)) fun _=>Lm)):P:=h
theorem KJ(h:P:=by exact fun _=>(wq1 (m:=m) (op:=op) (n:=n) (L:=L) (x0:=x0) (x1:=x1) ae)):P:=h
theorem KL(h:P:=by exact ai k1 (show((.bool true):AV)= .bool true from rfl)):P:=h
theorem PV(h:P:=by exact fun _=>(ai (wI<|i+1)<|yr yu uh um us 7 seen tq nv ns (i+1) 281 hN hT)):P:=h
theorem PW(h:P:=by simp only[List.length_nil];unfold room;omega):P:=h
theorem PX(h:P:=by simp only[List.length_nil];unfold top;omega):P:=h
theorem BO(h:P:=by exact wI<|a.steps+1):P:=h
theorem PY(h:P:=by exact yr Hx u1 um us w seen tq nv ns i 276 hN hT):P:=h
theorem W4(h:P:=by exact ax (i<(L:Int)) bF fun _=>(show(.tuple [(i6 m),(.bool false)])=v from hv)):P:=h
theorem gp(h:P:=by first|exact m0.bH|exact mp.bH|exact m1.bH|exact hK|exact hN|exact hB|exact qP|exact pZ|exact hv|exact hA|exact lJ.bH|exact hE|exact mE.bH):P:=h
theorem ae(h:P:=by omega):P:=h
theorem qQ(h:P:=by first|exact m0.bH|exact mp.bH|exact m1.bH|exact hK|exact hN|exact hB|exact qP|exact pZ|exact hv|exact hA|exact lJ.bH|exact hE|exact mE.bH|exact hW|exact bS|exact hD):P:=h
theorem aX(h:P:=by kernel_rfl):P:=h
theorem cH(h:P:=by as_aux_lemma=>kernel_rfl):P:=h
theorem wq(h:P:=by first|exact m0.bH|exact mp.bH|exact m1.bH|exact hK|exact hN|exact hB|exact qP|exact pZ|exact hv|exact hA|exact lJ.bH|exact hE|exact mE.bH|exact hD):P:=h
theorem wt(h:P:=by first|exact m0.bH|exact mp.bH|exact m1.bH|exact hK|exact hN|exact hB|exact qP|exact pZ|exact hv|exact hA|exact lJ.bH|exact hX):P:=h
theorem yv(h:P:=by first|exact m0.bH|exact mp.bH|exact m1.bH|exact hK|exact hN|exact hB|exact qP|exact pZ|exact hv|exact hA):P:=h
theorem Cq(h:P:=by first|exact m0.bH|exact mp.bH|exact m1.bH|exact hK|exact hN|exact hB|exact qP|exact pZ|exact hv|exact hA|exact X3):P:=h
theorem EM(h:P:=by first|omega|(simp only[List.length_set,List.length_take,List.length_append,List.length_cons,List.length_nil];omega)):P:=h
theorem iy(h:P:=by unfold top;omega):P:=h
theorem zK(h:P:=by simp only[reduceCtorEq,true_or,false_or,true_and,_root_.and_true];omega):P:=h
theorem zL(h:P:=by have:=m0.len;have:top=549755813888:=rfl;omega):P:=h
theorem rP(h:P:=by rw[List.all_cons,By];rfl):P:=h
theorem GV(h:P:=by first|rfl|exact aM.2 (cr _)|assumption):P:=h
theorem qI(h:P:=by rw[t.n];omega):P:=h
theorem W5(h:P:=by rw[List.all_cons,show AV.hi (.U (nm<|bA b) 0 b.length)=true from aM.2<|cr _];rfl):P:=h
theorem GW(h:P:=by rw[List.reverse_reverse];exact d2.eq):P:=h
theorem GX(h:P:=by rw[List.reverse_reverse];exact d.eq):P:=h
theorem tY(h:P:=by rw[p1];omega):P:=h
theorem nO(h:P:=by cases hp):P:=h
theorem W6(h:P:=by simp only[List.mem_cons,List.not_mem_nil,or_false] at hp;subst hp;show 270<271;omega):P:=h
theorem PZ(h:P:=by first|exact m0.bH|exact d.run|exact d.eB.bH):P:=h
theorem GY(h:P:=by rw[List.length_cons];omega):P:=h
theorem P0(h:P:=by rw[List.length_cons,List.length_cons];omega):P:=h
end Go.Rn
end
section
open Go Go.Rn Go.RowKit Go.Proofs
namespace fc
open cG dt
def zq(n:Int):List AV:=[.int .i64 n]
theorem Lq:mw 1 zq:=⟨fun _=>rfl,fun _=>rfl⟩
theorem abf(x y:Int)(h:zq x=zq y):x=y:=by simp only[zq,List.cons.injEq,AV.int.injEq,true_and,_root_.and_true] at h;exact h
def jZ(c:AV):List AV:=[c]
abbrev bO:=List<|List<|Int×Int
def Kh(p:Int×Int):AV:=.agg [.int .i64 p.1,.int .i64 p.2]
def bZ(ms:bO):AV:=.agg<|ms.map fun m=>.agg<|m.map Kh
theorem abg(p q:Int×Int)(h:Kh p=Kh q):p=q:=by obtain⟨a,b⟩:=p;obtain⟨c,d⟩:=q;simp only[Kh,AV.agg.injEq,List.cons.injEq,AV.int.injEq,true_and,_root_.and_true] at h;rw[h.1,h.2]
theorem wW:∀a b,bZ a=bZ b->a=b:=by
 intro a b h;injection h with h
 refine(List.map_inj_right fun x y e=>?_).1 h;injection e with e
 exact(List.map_inj_right abg).1 e
def mo(n:Nat):List AV:=(List.range n).map fun i=>.map<|some<|272+i
noncomputable def qv:Nat->bO->List (Nat×ab)
 |_,[]=>[]
 |k,m::ms=>(k,bL m)::qv (k+1) ms
noncomputable def W8(n:Nat)(cap:cC):ab:=aN jZ [.slice (some (271,0)) n cap]
noncomputable def gC(ms:bO)(cap:cC):List<|Nat×ab:=(270,W8 ms.length cap)::(271,aN jZ<|mo ms.length)::qv 272 ms
def fq(ms:bO):Prop:=(1<=ms.length/\ms.length<=7)/\∀m∈ms,fR m
def uc(n:Nat)(cap:cC):Prop:=cap= .aq n 1\/(n=1/\cap= .known 1)
theorem MT:∀{k:Nat} {ms:bO} {p:Nat×ab},p∈qv k ms->k<=p.1/\p.1<k+ms.length/\∃m,p.2=bL m
 |k,[],p,h=>by cases h
 |k,m::ms,p,h=>by
  rcases List.mem_cons.1 h with rfl|h
  ·exact⟨Nat.le_refl _,by rw[List.length_cons];omega,m,rfl⟩
  ·obtain⟨h1,h2,h3⟩:=MT h;exact⟨by omega,by rw[List.length_cons];omega,h3⟩
theorem Te:∀{k:Nat} {ms:bO} {i:Nat},i<ms.length->k+i∈(qv k ms).map (·.1)
 |k,[],i,h=>by cases h
 |k,m::ms,0,h=>List.mem_cons_self
 |k,m::ms,i+1,h=>by have:=Te (k:=k+1) (ms:=ms) (i:=i) (by rw[List.length_cons] at h;omega);rw[show k+(i+1)=k+1+i by omega];exact List.mem_cons_of_mem _ this
structure Fr where
 block:List St
 ah:Int
 turns:Int
 cM:Bool
 kept:List Int
 other:Option<|List St
instance:Inhabited Fr:=⟨⟨[],0,0,false,[],none⟩⟩
noncomputable def Ae:Option (List St)->AV
 |none=>.slice none 0<|.known 0
 |some l=>aS aP l
theorem adQ(o:Option<|List St):(Ae o).cf=true:=by cases o<;>rfl
theorem afF(o:Option<|List St):(Ae o).bG=true:=by
 cases o with
 |none=>rfl
 |some l=>exact aM.2<|cr _
def eight(l:List Int):List AV:=[.int .i64<|l.getD 0 0,.int .i64<|l.getD 1 0,.int .i64<|l.getD 2 0,.int .i64<|l.getD 3 0,.int .i64<|l.getD 4 0,.int .i64<|l.getD 5 0,.int .i64<|l.getD 6 0,.int .i64<|l.getD 7 0]
noncomputable def aJ(f:Fr):List AV:=[aS aP f.block,.int .i64 f.ah,.int .i64 f.turns,.bool f.cM]++(eight f.kept++[Ae f.other])
theorem fA(f:Fr):(aJ f).length=13:=rfl
theorem MU(f:Fr):(aJ f).all AV.cf=true:=by show(true&&(true&&(true&&(true&&(true&&(true&&(true&&(true&&(true&&(true&&(true&&(true&&((Ae f.other).cf&&true)))))))))))))=true;rw[adQ];rfl
theorem T0(f:Fr):∀c∈aJ f,c.bG=true:=fun c hc=>by
 have h:(aJ f).all AV.bG=true:=by show((aS aP f.block).bG&&(true&&(true&&(true&&(true&&(true&&(true&&(true&&(true&&(true&&(true&&(true&&((Ae f.other).bG&&true)))))))))))))=true;rw[show(aS aP f.block).bG=true from aM.2<|cr _,afF];rfl
 exact List.all_eq_true.1 h c hc
noncomputable def Lr(f:Fr):AV:=.agg [aS aP f.block,.int .i64 f.ah,.int .i64 f.turns,.bool f.cM,.agg<|f.kept.map fun x=>.int .i64 x,Ae f.other]
theorem MV{l m:List St}(h:aS aP l=aS aP m):l=m:=by
 injection h with h _ _
 have h:nm (bA l)=nm (bA m):=by rw[uL,uL];exact h
 exact sN _ _<|ti (lL _) (lL _) h
theorem UP{a b:Option<|List St}(h:Ae a=Ae b):a=b:=by
 cases a with
 |none=>cases b with
  |none=>rfl
  |some m=>cases h
 |some l=>cases b with
  |none=>cases h
  |some m=>exact congrArg some<|MV h
theorem T1{l m:List Int}(h:(l.map fun x=>AV.int .i64 x)=m.map fun x=>.int .i64 x):l=m:=(List.map_inj_right fun x y e=>by injection e).1 h
theorem adR(f g:Fr)(h:Lr f=Lr g):f=g:=by obtain⟨a1,a2,a3,a4,a5,a6⟩:=f;obtain⟨b1,b2,b3,b4,b5,b6⟩:=g;simp only[Lr,AV.agg.injEq,List.cons.injEq,AV.int.injEq,AV.bool.injEq,true_and,_root_.and_true] at h;obtain⟨h1,rfl,rfl,rfl,h5,h6⟩:=h;rw[MV h1,T1 h5,UP h6]
structure dW where
 vars:Int
 aO:List Int
 l:List Int
 b:bO
 fs:List Fr
 steps:Int
noncomputable def Wj(a:dW)(c:Nat):List AV:=[.int .i64 a.vars,aS zq a.aO]++(eight a.l++[.ptr<|some (271,0),.slice (some (272,0)) a.fs.length<|.aq c 13,.int .i64 a.steps])
noncomputable def dk(a:dW):AV:=.agg [.int .i64 a.vars,aS zq a.aO,.agg<|a.l.map fun x=>.int .i64 x,bZ a.b,.agg<|a.fs.map Lr,.int .i64 a.steps]
theorem CQ:∀a b,dk a=dk b->a=b:=by
 intro a b h;obtain⟨a1,a2,a3,a4,a5,a6⟩:=a;obtain⟨b1,b2,b3,b4,b5,b6⟩:=b;simp only[dk,AV.agg.injEq,List.cons.injEq,AV.int.injEq,true_and,_root_.and_true] at h;obtain⟨rfl,h2,h3,h4,h5,rfl⟩:=h;have e2:a2=b2:=by refine(eh.aS Lq a2).inj abf ?_;rw[h2];exact eh.aS Lq b2
 rw[e2,T1 h3,wW _ _ h4,(List.map_inj_right adR).1 h5]
def Bj(a:dW):Prop:=a.l.length=8/\fq a.b/\a.fs.length<=1000/\a.aO.length<=1000/\(1<=a.vars/\a.vars<=32)
noncomputable def ks(a:dW)(bM:List Fr)(c:Nat):List<|Nat×ab:=[(270,aN jZ<|Wj a c),(271,.tok 3<|bZ a.b),(272,aN aJ<|a.fs++bM)]
def nA(a:dW)(bM:List Fr)(c:Nat):Prop:=a.fs.length<=c/\(a.fs++bM).length<=1000000/\∀f∈bM,(0<=f.turns/\f.turns<=1000000)/\f.kept.length=8
theorem w9{n:Nat}(h:n<100000):n<top:=by have:top=549755813888:=rfl;omega
theorem Dm(l:List AV):(l.map jZ).flatten=l:=by
 induction l with
 |nil=>rfl
 |cons x l ih=>rw[List.map_cons,List.flatten_cons,ih];rfl
theorem aao{ns:List Nat}{m:List<|Int×Int}:lr ns<|bL m:=fun _ _ _ h=>wV h
theorem afG{ms:bO}{cap:cC}(h:fq ms):∀p∈gC ms cap,270<=p.1/\p.1<top/\(p.2.own=true\/p.2.kK=true)/\lr ((gC ms cap).map (·.1)) p.2:=by
 intro p hp;have h8:=h.1.2;rcases List.mem_cons.1 hp with rfl|hp
 ·refine⟨Nat.le_refl _,w9 (by show 270<100000;omega),.inl rfl,lr.row ?_ fun c hc=>?_⟩
  ·rw[Dm];exact Nat.le_of_lt<|w9 (by show 1<100000;omega)
  ·rw[Dm] at hc;rw[List.mem_singleton] at hc;subst hc;exact gz.slice (by simp[gC])
 rcases List.mem_cons.1 hp with rfl|hp
 ·refine⟨by show 270<=271;omega,w9 (by show 271<100000;omega),.inl rfl,lr.row ?_ fun c hc=>?_⟩
  ·rw[Dm,mo,List.length_map,List.length_range];exact Nat.le_of_lt<|w9 ae
  ·rw[Dm] at hc;obtain⟨i,hi,rfl⟩:=List.mem_map.1 hc;refine gz.map ?_;show 272+i∈270::271::(qv 272 ms).map (·.1);exact List.mem_cons_of_mem _<|List.mem_cons_of_mem _<|Te<|List.mem_range.1 hi
 ·obtain⟨h1,h2,m,h3⟩:=MT hp;refine⟨by omega,w9 ae,.inl (by rw[h3];rfl),by rw[h3];exact aao⟩
theorem adS{a:dW}{bM:List Fr}{c:Nat}(h:Bj a)(hj:nA a bM c):∀p∈ks a bM c,270<=p.1/\p.1<top/\(p.2.own=true\/p.2.kK=true)/\lr ((ks a bM c).map (·.1)) p.2:=by
 intro p hp;simp only[ks,List.mem_cons,List.not_mem_nil,or_false] at hp;rcases hp with rfl|rfl|rfl
 ·refine⟨Nat.le_refl _,w9 (by show 270<100000;omega),.inl rfl,lr.row ?_ fun c hc=>?_⟩
  ·rw[Dm];exact Nat.le_of_lt<|w9 (by show 13<100000;omega)
  ·rw[Dm] at hc;simp only[Wj,eight,List.cons_append,List.nil_append,List.mem_cons,List.not_mem_nil,or_false] at hc;rcases hc with rfl|rfl|rfl|rfl|rfl|rfl|rfl|rfl|rfl|rfl|rfl|rfl|rfl
   ·exact gz.hi rfl
   ·exact gz.hi<|aM.2<|cr _
   ·exact gz.hi rfl
   ·exact gz.hi rfl
   ·exact gz.hi rfl
   ·exact gz.hi rfl
   ·exact gz.hi rfl
   ·exact gz.hi rfl
   ·exact gz.hi rfl
   ·exact gz.hi rfl
   ·exact gz.ptr (by simp[ks])
   ·exact gz.slice (by simp[ks])
   ·exact gz.hi rfl
 ·exact⟨by show 270<=271;omega,w9 (by show 271<100000;omega),.inr rfl,lr.tok⟩
 ·have h3:=hj.2.1;have ht:top=549755813888:=rfl;refine⟨by show 270<=272;omega,w9 (by show 272<100000;omega),.inl rfl,lr.row ?_ fun c hc=>?_⟩
  ·rw[uN (K:=13) fA];omega
  ·obtain⟨x,hx,hc⟩:=List.mem_flatten.1 hc;obtain⟨f,_,rfl⟩:=List.mem_map.1 hx;exact gz.hi<|T0 f c hc
end fc
end
section
open Go Go.Rn Go.RowKit Go.Proofs
namespace cv
open fc
variable {T A:Prop} {i nv nl:Nat} {c y v c' Y:AV} {ns:List Nat} {C:zH}
noncomputable abbrev pg:Program:=Tryz.prog
abbrev az(f:Func):List ResultVar:=f.results.toList
noncomputable abbrev dv(g:Nat)(p:List Nat):List Item:=[.code<|a9 Tryz.prog g p]
noncomputable abbrev sF(g:Nat)(f:Func)(args:List AV):AF:=⟨g,ep args,max f.ntmps args.length,[.code<|a9 Tryz.prog g []],[],none⟩
def afH:List<|Option FuncId:=[none,none,none,none,some 124,some 125,some 126,some 127,some 129]
noncomputable section
def Sx:List AV:=afH.map I2
def dX:Tr ab:=(Tr.nil).put 0<|some<|.ro Sx.length<|Tr.fill Sx 0 .nil
end
def eK:List Nat:=[0]
theorem bY:Tryz.prog.follows .mixedOrders=true:=by kernel_rfl
theorem hZ:fM<=270:=aM.1 aX
theorem abh:fM<=271:=aM.1 aX
theorem qk:270<=top:=aM.1 aX
noncomputable def ar:List<|Nat×Option ab:=eK.map fun n=>(n,dX.get n)
theorem T3:gd ar=dX:=by kernel_rfl
theorem gY:ak ar 270=⟨dX,270,0,[],[]⟩:=by show(⟨gd ar,270,0,[],[]⟩:AS)=_;rw[T3]
theorem lC:∀p∈ar,p.1<top:=fun p hp=>by obtain⟨k,hk,rfl⟩:=List.mem_map.1 hp;exact Mh (m:=top) (l:=eK) aX k hk
theorem lV:∀n o,(n,some o)∈ar->dX.get n=some o:=fun n o hm=>by
 obtain⟨k,hk,e⟩:=List.mem_map.1 hm;injection e with e1 e2
 rw[←e1];exact e2
theorem iS(n:Nat)(o:ab)(_:n<top)(h:dX.get n=some o):n∈eK:=by
 rw[←T3] at h;obtain⟨k,hk,e⟩:=List.mem_map.1<|wR (l:=ar) lC h;injection e with e1 _
 rw[←e1];exact hk
theorem ig:∀n∈eK,n<270:=fun n hn=>Mh (m:=270) (l:=eK) aX n hn
def bj(n:Int):List AV:=[.int .i64 n]
theorem eI:mw 1 bj:=⟨fun _=>rfl,fun _=>rfl⟩
theorem wX(x y:Int)(h:bj x=bj y):x=y:=by simp only[bj,List.cons.injEq,AV.int.injEq,true_and,_root_.and_true] at h;exact h
def lU(c:AV):List AV:=[c]
noncomputable abbrev en(L:bV):Env:=x9 pg 270 eK dX L 270 true
noncomputable abbrev yw(L:bV):Env:=x9 pg 270 eK dX L 271 true
noncomputable abbrev sp(L:bV):Sp:=dB 270 eK dX L
structure jq where
 rv:Int
 rk:Int
 has:List Bool
def nP(a:jq):List AV:=[AV.int .i64 a.rv,AV.int .i64 a.rk]++a.has.map AV.bool
def jG(a:jq):AV:=.agg<|nP a
def pz(a:jq):Prop:=zn a.rv/\(1<=a.rk/\a.rk<=32)/\a.has.length=32
theorem C2:∀a b,jG a=jG b->a=b:=by
 intro a b h;obtain⟨r,s,l⟩:=a;obtain⟨r',s',l'⟩:=b;injection h with h
 simp only[nP,List.cons_append,List.nil_append,List.cons.injEq,AV.int.injEq,true_and] at h;obtain⟨rfl,rfl,h⟩:=h;have:l=l':=by
  have inj:∀x y:Bool,AV.bool x=AV.bool y->x=y:=fun x y h=>by injection h
  clear r s;induction l generalizing l' with
  |nil=>cases l' with
   |nil=>rfl
   |cons _ _=>cases h
  |cons x l ih=>cases l' with
   |nil=>cases h
   |cons y l'=>simp only[List.map_cons,List.cons.injEq] at h;rw[inj x y h.1,ih l' h.2]
 rw[this]
noncomputable def BP(a:jq):ab:=aN lU<|nP a
structure Lk where
 owner:Int
 version:Int
deriving Inhabited
def lu(k:Lk):List AV:=[.int .i64 k.owner,.int .i64 k.version]
structure bC where
 aF:List Lk
 ay:Int
 dY:Int
 aY:List Int
def aE(a:bC):AV:=.agg [.int .i64 a.ay,.int .i64 a.dY,.agg<|a.aF.map fun k=>.agg<|lu k,.agg<|a.aY.map fun x=>.int .i64 x]
def gU(a:bC):Prop:=(1<=a.aF.length/\a.aF.length<=32)/\(1<=a.aY.length/\a.aY.length<=32)/\0<=a.ay/\a.dY<=1099511627776
theorem re:∀a b,aE a=aE b->a=b:=by
 intro a b h;obtain⟨l,c,m,v⟩:=a;obtain⟨l',c',m',v'⟩:=b;injection h with h
 simp only[List.cons.injEq,AV.int.injEq,AV.agg.injEq,true_and,_root_.and_true] at h;obtain⟨rfl,rfl,h1,h2⟩:=h;have e1:l=l':=(List.map_inj_right (fun x y e=>by obtain⟨o,w⟩:=x;obtain⟨o',w'⟩:=y;simp only[lu,AV.agg.injEq,List.cons.injEq,AV.int.injEq,true_and,_root_.and_true] at e;obtain⟨rfl,rfl⟩:=e;rfl)).1 h1;have e2:v=v':=(List.map_inj_right fun x y e=>by injection e).1 h2;rw[e1,e2]
def iv(nl nv:Nat)(c1 c2:cC)(ay dY:Int):List AV:=[.slice (some (271,0)) nl c1,.int .i64 ay,.int .i64 dY,.slice (some (272,0)) nv c2]
noncomputable def DT(nl nv:Nat)(c1 c2:cC)(ay dY:Int):ab:=aN lU<|iv nl nv c1 c2 ay dY
noncomputable def Bz(a:bC)(c1 c2:cC):List<|Nat×ab:=[(270,DT a.aF.length a.aY.length c1 c2 a.ay a.dY),(271,aN lu a.aF),(272,aN bj a.aY)]
inductive XT:TX
 |set (a:jq) (h:pz a):XT 1 (jG a) [(270,BP a)]
 |heap (a:bC) (h:gU a) (c1 c2:cC):XT 2 (aE a)<|Bz a c1 c2
 |buf (ms:bO) (h:fq ms) (cap:cC) (hc:uc ms.length cap):XT 3 (bZ ms)<|gC ms cap
 |BQ (a:dW) (h:Bj a) (bM:List Fr) (c:Nat) (hj:nA a bM c):XT 4 (dk a)<|ks a bM c
theorem DU(l:List AV):(l.map lU).flatten=l:=by
 induction l with
 |nil=>rfl
 |cons x l ih=>rw[List.map_cons,List.flatten_cons,ih];rfl
theorem adT(a:jq):∀c∈nP a,c.bG=true:=fun c hc=>by
 rcases List.mem_append.1 hc with h|h
 ·simp only[List.mem_cons,List.not_mem_nil,or_false] at h;rcases h with rfl|rfl<;>rfl
 ·obtain⟨b,_,rfl⟩:=List.mem_map.1 h;rfl
theorem T4(a:jq)(h:a.has.length=32):(nP a).length=34:=by unfold nP;rw[List.length_append,List.length_map,h];rfl
theorem Ya(x:AV):(lU x).length=1:=rfl
theorem iO{l:List AV}(hl:l.length<=top)(hc:l[i]? =some c):cellsOf (some<|aN lU l) i 1=some [c]:=by have:=jO Ya (l:=l) (i:=i) ae hc 0 1 rfl;rwa[Nat.mul_one,Nat.add_zero] at this
theorem UQ{l:List AV}(hl:l.length<=top)(hc:l[i]? =some c)(h1:c'.cf=true):xF (some<|aN lU l) i [c']=some (aN lU<|l.set i c'):=by have:=oA Ya (l:=l) (i:=i) (c':=c') (r:=[c']) ae hc 0 rfl rfl (by rw[List.all_cons,h1];rfl);rwa[Nat.mul_one,Nat.add_zero] at this
theorem Nu{l:List AV}{z:Nat}(hl:l.length<=top)(hc:l[i+z]? =some c)(h1:c'.cf=true):xF (some<|aN lU l) (i+z*1) [c']=some (aN lU<|l.set (i+z) c'):=by rw[Nat.mul_one];exact UQ hl hc h1
theorem Nv{a:jq}(h:pz a):(nP a).length<=top:=by rw[T4 a h.2.2];exact aM.1 aX
abbrev pJ(k:Nat)(y:AV)(v:AV)(s:AS)(Y:AV):Prop:=Y=y/\∃L',XT k v L'/\∀m o,(m,o)∈L'->s.h.get m=some o
theorem Eh{k:Nat}{o:ab}(hx:XT k v [(270,o)])(e:Y=y)(nx:Nat):pJ k y v (ak (ar++[(270,some o)]) nx) Y:=by
 refine⟨e,_,hx,fun m p hm=>?_⟩;simp only[List.mem_cons,List.not_mem_nil,or_false] at hm;injection hm with h1 h2
 subst h1;subst h2;kernel_rfl
abbrev Wk(B:aL)(g nt:Nat)(rs:List ResultVar)(k:Nat)(o:ab)(rest:List AV)(y v':AV):Prop:=au pg B 271 (iD XT pg rs k y v') ⟨g,ep<|.ptr (some (270,0))::rest,nt,[.code<|a9 pg g []],[],none⟩<|ak (ar++[(270,some o)]) 271
theorem adU{l:List Lk}:∀c∈(l.map lu).flatten,gz ns c:=fun c hc=>by obtain⟨x,hx,hc⟩:=List.mem_flatten.1 hc;obtain⟨k,_,rfl⟩:=List.mem_map.1 hx;simp only[lu,List.mem_cons,List.not_mem_nil,or_false] at hc;rcases hc with rfl|rfl<;>exact gz.hi rfl
theorem afI{l:List Int}:∀c∈(l.map bj).flatten,gz ns c:=fun c hc=>by obtain⟨x,hx,hc⟩:=List.mem_flatten.1 hc;obtain⟨k,_,rfl⟩:=List.mem_map.1 hx;simp only[bj,List.mem_cons,List.not_mem_nil,or_false] at hc;subst hc;exact gz.hi rfl
theorem za{n:Nat}(h:n<1024):n<top:=by have:top=549755813888:=rfl;omega
theorem sj:yo XT 270:=by
 refine⟨fun k v L hx p hp=>?_,fun k v L hx=>?_⟩
 ·cases hx with
  |set a h=>
   simp only[List.mem_cons,List.not_mem_nil,or_false] at hp;subst hp;refine⟨Nat.le_refl _,aM.1 aX,.inl rfl,lr.row ?_ fun c hc=>?_⟩
   ·rw[DU,T4 a h.2.2];exact aM.1 aX
   ·rw[DU] at hc;exact gz.hi<|adT a c hc
  |heap a h c1 c2=>
   simp only[Bz,List.mem_cons,List.not_mem_nil,or_false] at hp;have h1:=h.1.2;have h2:=h.2.1.2;rcases hp with rfl|rfl|rfl
   ·refine⟨Nat.le_refl _,aM.1 aX,.inl rfl,lr.row ?_ fun c hc=>?_⟩
    ·rw[DU];exact Nat.le_of_lt<|za (by show 4<1024;omega)
    ·rw[DU] at hc;simp only[iv,List.mem_cons,List.not_mem_nil,or_false] at hc;rcases hc with rfl|rfl|rfl|rfl
     ·exact gz.slice (by simp[Bz])
     ·exact gz.hi rfl
     ·exact gz.hi rfl
     ·exact gz.slice (by simp[Bz])
   ·refine⟨by show 270<=271;omega,za (by show 271<1024;omega),.inl rfl,lr.row ?_ adU⟩;rw[uN (K:=2) fun _=>rfl];exact Nat.le_of_lt<|za ae
   ·refine⟨by show 270<=272;omega,za (by show 272<1024;omega),.inl rfl,lr.row ?_ afI⟩;rw[uN (K:=1) fun _=>rfl];exact Nat.le_of_lt<|za ae
  |buf ms h cap hc=>exact afG h p hp
  |BQ a h bM c hj=>exact adS h hj p hp
 ·cases hx with
  |set a h=>exact⟨_,List.mem_cons_self⟩
  |heap a h c1 c2=>exact⟨_,List.mem_cons_self⟩
  |buf ms h cap hc=>exact⟨_,List.mem_cons_self⟩
  |BQ a h bM c hj=>exact⟨_,List.mem_cons_self⟩
theorem fE{a:bC}(c1 c2:cC)(h:gU a)(hn:nl=a.aF.length)(hv:nv=a.aY.length)(e:Y=y)(ev:v=aE a)(nx:Nat):
 pJ 2 y v (ak (ar++[(270,some<|DT nl nv c1 c2 a.ay a.dY),(271,some<|aN lu a.aF),(272,some<|aN bj a.aY)]) nx) Y:=by
 subst hn;subst hv;subst ev;refine⟨e,_,.heap a h c1 c2,fun m p hm=>?_⟩;simp only[Bz,List.mem_cons,List.not_mem_nil,or_false] at hm;rcases hm with hm|hm|hm<;>(injection hm with h1 h2;subst h1;subst h2;kernel_rfl)
abbrev oS(B:aL)(g nt:Nat)(rs:List ResultVar)(a:bC)(c1 c2:cC)(rest:List AV)(y v':AV):Prop:=au pg B 271 (iD XT pg rs 2 y v') ⟨g,ep<|.ptr (some (270,0))::rest,nt,[.code<|a9 pg g []],[],none⟩<|ak (ar++[(270,some<|DT a.aF.length a.aY.length c1 c2 a.ay a.dY),(271,some<|aN lu a.aF),(272,some<|aN bj a.aY)]) 273
def cK(l:List Lk)(z:Int):Lk:=l.getD z.toNat default
theorem xJ{l:List Lk}{z:Int}(h1:0<=z)(h2:z<((l.length:Nat):Int)):l[z.toNat]? =some (cK l z):=by
 have:z.toNat<l.length:=by omega
 unfold cK;rw[List.getD_eq_getElem?_getD,List.getElem?_eq_getElem this];rfl
def kx(l:List Int)(z:Int):Int:=l.getD z.toNat 0
theorem Ki{l:List Int}{z:Int}(h1:0<=z)(h2:z<((l.length:Nat):Int)):l[z.toNat]? =some (kx l z):=by
 have:z.toNat<l.length:=by omega
 unfold kx;rw[List.getD_eq_getElem?_getD,List.getElem?_eq_getElem this];rfl
theorem wQ(x:Lk):(lu x).length=2:=rfl
theorem xr{a:bC}(h:gU a):a.aF.length*2<=top:=by have:=h.1.2;exact Nat.le_of_lt<|za ae
theorem VG{a:bC}(h:gU a):a.aY.length*1<=top:=by have:=h.2.1.2;exact Nat.le_of_lt<|za ae
theorem jz{c1 c2:cC}{x y:Int}:(iv nl nv c1 c2 x y).length<=top:=Nat.le_of_lt<|za (by show 4<1024;omega)
abbrev aU(L:bV):Prop:=eC XT 270 pg<|sp L
abbrev Mt(L:bV)(B:aL):Prop:=qH XT pg 270 eK dX L B
theorem ai{B:Prop}(a:A)(b:B):A/\B:=⟨a,b⟩
theorem oF(h:False):False:=h
theorem rX{α:Type}(x:α):x=x:=rfl
theorem mS(l:List<|Nat×AV):l.map (fun q=>some q.2)=l.map (fun q=>some q.2):=rfl
theorem mO(l:List<|Nat×Option ab):l.map (fun q=>q.2)=l.map (fun q=>q.2):=rfl
theorem wI(z:Int)(h: -9223372036854775808<=z/\z<=9223372036854775807:=by omega):AV.int .i64 (IntKind.wrap .i64 z)=AV.int .i64 z:=congrArg (AV.int .i64)<|Mb h
theorem ix2(z n:Int)(h1:0<=z)(h2:z<n)(x:A):0<=z/\z<n/\A:=⟨h1,h2,x⟩
theorem dc(z n:Int)(x:A)(h1:0<=z:=by omega)(h2:z<n:=by omega):0<=z/\z<n/\A:=⟨h1,h2,x⟩
abbrev i6(n:Int):AV:=.int .i64 n
abbrev u8(n:Int):AV:=.int .u8 n
abbrev i0:AV:=.int .i64<|.ofNat 0
section
variable {L:bV} {B:aL} (mc:Mt L B) {f nt:Nat} {t:Tr AV} {K:List Item} {s:AS} {rs:List ResultVar} {R:AV->AS->Prop}
include mc
theorem wS(p:Pl)(x:T)(h:T=wp (en L) 900 6 (.fr f nt K t s) p rs (fun v s _=>R v s) (fun _ _ _=>False):=by as_aux_lemma=>kernel_rfl)(h0:Nat.ble 270 s.nx=true:=by as_aux_lemma=>kernel_rfl):au pg B 270 (Fin pg rs R) ⟨f,t,nt,K,[],none⟩ s:=mh (E:=en L) fm rfl bY mc.2.2.1 mc.2.2.2 900 p x h h0
theorem mD(p:Pl)(x:T)(h:T=wp (yw L) 900 6 (.fr f nt K t s) p rs (fun v s _=>R v s) (fun _ _ _=>False):=by as_aux_lemma=>kernel_rfl)(h0:Nat.ble 271 s.nx=true:=by as_aux_lemma=>kernel_rfl):au pg B 271 (Fin pg rs R) ⟨f,t,nt,K,[],none⟩ s:=mh (E:=yw L) fm rfl bY mc.2.2.1 mc.2.2.2 900 p x h h0
theorem wC(hC:∀fr s p,C fr s p->au pg B 270 (Fin pg rs R) fr s)(p:Pl)(x:T)(h:T=wp (en L) 900 6 (.fr f nt K t s) p rs (fun v s _=>R v s) C:=by as_aux_lemma=>kernel_rfl)(h0:Nat.ble 270 s.nx=true:=by as_aux_lemma=>kernel_rfl):au pg B 270 (Fin pg rs R) ⟨f,t,nt,K,[],none⟩ s:=xo (E:=en L) fm rfl bY mc.2.2.1 mc.2.2.2 hZ rfl mc.1 hC 900 p x h h0
theorem Ls(hC:∀fr s p,C fr s p->au pg B 271 (Fin pg rs R) fr s)(p:Pl)(x:T)(h:T=wp (yw L) 900 6 (.fr f nt K t s) p rs (fun v s _=>R v s) C:=by as_aux_lemma=>kernel_rfl)(h0:Nat.ble 271 s.nx=true:=by as_aux_lemma=>kernel_rfl):au pg B 271 (Fin pg rs R) ⟨f,t,nt,K,[],none⟩ s:=xo (E:=yw L) fm rfl bY mc.2.2.1 mc.2.2.2 abh rfl mc.1 hC 900 p x h h0
end
abbrev Sm(B:aL)(f:Func)(v:AV)(fr:AF)(s:AS):Prop:=au pg B 270 (Fin pg f.results.toList fun y _=>y=v) fr s
theorem ij{L L':bV}{g:Nat}{fn:Func}{val:List AV->Option AV}(hP:bE pg)(h:aU L)(h':aU L')(cq:Tryz.prog.funcs[g]? =some fn)(eQ:∀args v,val args=some v->max fn.ntmps args.length<=top/\∀B:aL,Mt L' B->au pg B 270 (Fin pg fn.results.toList fun y _=>y=v) ⟨g,ep args,max fn.ntmps args.length,[.code<|a9 pg g []],[],none⟩ ⟨dX,270,0,[],[]⟩)(cx:fn.body=some (a9 pg g []):=by kernel_rfl)(hn:(fn.name == "runtime.NumGoroutine")=false:=by kernel_rfl):aU<|(g,.val val)::L:=adI hP hZ qk iS ig h h' cq cx hn eQ
end cv
end
section
open Go Go.Rn Go.RowKit Go.Proofs
namespace wv
open cv
variable {a:bC} {c2 c1:cC} {B:aL} {s bf:Int} {L:bV} {k:Lk}
noncomputable section
def xu(a:bC)(s:Int):AV:=.int .i64 (if 0<=s/\s<a.aF.length then(cK a.aF s).owner else -1)
def zb(a:bC)(_:Int):bC:=a
def yK(a:bC)(s:Int):AV:=.int .i64 (if 0<=s/\s<a.aF.length then(cK a.aF s).version else 0)
def AL(a:bC)(_:Int):bC:=a
def zc(a:bC)(s:Int):AV:=.int .i64 (if 0<=s/\s<a.aY.length then kx a.aY s else 0)
def Bk(a:bC)(_:Int):bC:=a
def F5(a:bC):AV:=.int .i64 a.ay
def JD(a:bC):bC:=a
def Kj(a:bC):AV:=.int .i64 (a.aY.length:Nat)
def Po(a:bC):bC:=a
def IJ(a:bC):AV:=.int .i64 (a.aF.length:Nat)
def Nw(a:bC):bC:=a
def sX(a:bC)(s:Int):AV:=.int .i64 (if 0<=s/\s<a.aY.length then Int.tmod s (a.aF.length:Nat) else -1)
def AZ(a:bC)(_:Int):bC:=a
def m7(a:bC)(s:Int)(k:Lk):bC:={a with aF:=a.aF.set s.toNat k}
def lR(a:bC)(s bf gq:Int):AV:=.int .i64 (if 0<=s/\s<a.aF.length then(if 0<=bf/\(cK a.aF s).owner=bf then(if(cK a.aF s).version<=gq/\gq<=a.ay then 0 else 1) else 7) else 5)
def lS(a:bC)(s bf gq:Int):bC:=if(0<=s/\s<a.aF.length)/\(0<=bf/\(cK a.aF s).owner=bf)/\(cK a.aF s).version<=gq/\gq<=a.ay then m7 a s ⟨-1,gq⟩ else a
def vA(a:bC):AV:=if a.ay<a.dY then .tuple [.int .i64<|a.ay+1,.int .i64 0] else .tuple [.int .i64 0,.int .i64 41]
def oB(a:bC)(c:Int):bC:={a with ay:=c}
theorem VH(h:gU a):gU<|oB a<|a.ay+1:=⟨h.1,h.2.1,by show 0<=a.ay+1;have:=h.2.2.1;omega,h.2.2.2⟩
def vB(a:bC):bC:=if a.ay<a.dY then oB a (a.ay+1) else a
def mz(a:bC)(s bf:Int):AV:=.int .i64 (if 0<=s/\s<a.aF.length then(if 0<=bf/\bf<6 then(if(cK a.aF s).owner= -1 then 0 else 6) else 1) else 5)
def kU(a:bC)(s bf:Int):bC:=if(0<=s/\s<a.aF.length)/\(0<=bf/\bf<6)/\(cK a.aF s).owner= -1 then m7 a s {cK a.aF s with owner:=bf} else a
def rS(a:bC)(s bf:Int):AV:=.int .i64 (if 0<=s/\s<a.aF.length then(if 0<=bf/\(cK a.aF s).owner=bf then 0 else 7) else 5)
def pK(a:bC)(s bf:Int):bC:=if(0<=s/\s<a.aF.length)/\0<=bf/\(cK a.aF s).owner=bf then m7 a s {cK a.aF s with owner:= -1} else a
theorem F6(h:gU a):gU<|m7 a s k:=by unfold gU m7 at*;rw[List.length_set];exact h
theorem MW:a.aF.length=(m7 a s k).aF.length:=by unfold m7;exact List.length_set.symm
noncomputable abbrev j0(a:bC)(c1:cC):AV:=.slice (some (271,0)) (a.aF.length) c1
theorem adV(mc:Mt [] B)(h:gU a):oS B 47 (max Tryz.f47.ntmps 2) (az Tryz.f47) a c1 c2 [.int .i64 s] (xu a s)<|aE<|zb a s:=by
 exact mD mc (.st 4<|.rg<|.go 2<|.il<|.st 8<|.rg<|.go 4<|.il<|.st 4<|.rg<|.go 1<|.fk (.go 9<|.en<|.rt 4<|.go 1<|.en<|.rt 1<|.go 1<|.en<|.rt 7 .no)<|.go 5<|.ld [(j0 a c1)]<|.go 1<|.fk (.go 1<|.en<|.rt 4<|.go 1<|.en<|.rt 1<|.go 1<|.en<|.rt 7 .no)<|.go 1<|.en<|.st 3<|.rg<|.go 3<|.ld [(j0 a c1)]<|.go 1<|.ix<|.go 1<|.en<|.rt 1<|.go 1<|.en<|.rt 1<|.go 1<|.en<|.st 4<|.rg<|.go 3<|.ld [(i6<|(cK a.aF s).owner)]<|.go 1<|.en<|.rt 1 .no)
  (ax (s<0) (fun _=>(fE (a:=a) (nl:=a.aF.length) (nv:=a.aY.length) c1 c2 h rfl rfl (show(i6<|.negSucc 0)=xu a s from by(unfold xu;repeat' split)<;>first|rfl|omega|(exfalso;omega)) (show aE (zb a s)=aE a from by(unfold zb;repeat' split)<;>first|rfl|omega|(exfalso;omega)) 273))
  (fun _=>(ai (iO jz (show((iv a.aF.length a.aY.length c1 c2 a.ay a.dY))[0]? =some ((j0 a c1)) from rfl))
  (ax (s>=(a.aF.length:Int)) (fun _=>(fE (a:=a) (nl:=a.aF.length) (nv:=a.aY.length) c1 c2 h rfl rfl (show(i6<|.negSucc 0)=xu a s from by(unfold xu;repeat' split)<;>first|rfl|omega|(exfalso;omega)) (show aE (zb a s)=aE a from by(unfold zb;repeat' split)<;>first|rfl|omega|(exfalso;omega)) 273))
  (fun _=>(ai (iO jz (show((iv a.aF.length a.aY.length c1 c2 a.ay a.dY))[0]? =some ((j0 a c1)) from rfl))
  (dc s (a.aF.length:Int)
  (ai (jO wQ (xr h) (xJ (l:=a.aF) (z:=s) ae ae) 0 1 rfl)
  (fE (a:=a) (nl:=a.aF.length) (nv:=a.aY.length) c1 c2 h rfl rfl (show(i6<|(cK a.aF s).owner)=xu a s from by(unfold xu;repeat' split)<;>first|rfl|omega|(exfalso;omega)) (show aE (zb a s)=aE a from by(unfold zb;repeat' split)<;>first|rfl|omega|(exfalso;omega)) 273)))))))))
theorem abi(mc:Mt [] B)(h:gU a):oS B 48 (max Tryz.f48.ntmps 2) (az Tryz.f48) a c1 c2 [.int .i64 s] (yK a s)<|aE<|AL a s:=by
 exact mD mc (.st 4<|.rg<|.go 2<|.il<|.st 8<|.rg<|.go 4<|.il<|.st 4<|.rg<|.go 1<|.fk (.go 9<|.en<|.rt 4<|.go 1<|.en<|.rt 1<|.go 1<|.en<|.rt 7 .no)<|.go 5<|.ld [(j0 a c1)]<|.go 1<|.fk (.go 1<|.en<|.rt 4<|.go 1<|.en<|.rt 1<|.go 1<|.en<|.rt 7 .no)<|.go 1<|.en<|.st 3<|.rg<|.go 3<|.ld [(j0 a c1)]<|.go 1<|.ix<|.go 1<|.en<|.rt 1<|.go 1<|.en<|.rt 1<|.go 1<|.en<|.st 4<|.rg<|.go 3<|.ld [(i6<|(cK a.aF s).version)]<|.go 1<|.en<|.rt 1 .no)
  (ax (s<0) (fun _=>(fE (a:=a) (nl:=a.aF.length) (nv:=a.aY.length) c1 c2 h rfl rfl (show i0=yK a s from by(unfold yK;repeat' split)<;>first|rfl|omega|(exfalso;omega)) (show aE (AL a s)=aE a from by(unfold AL;repeat' split)<;>first|rfl|omega|(exfalso;omega)) 273))
  (fun _=>(ai (iO jz (show((iv a.aF.length a.aY.length c1 c2 a.ay a.dY))[0]? =some ((j0 a c1)) from rfl))
  (ax (s>=(a.aF.length:Int)) (fun _=>(fE (a:=a) (nl:=a.aF.length) (nv:=a.aY.length) c1 c2 h rfl rfl (show i0=yK a s from by(unfold yK;repeat' split)<;>first|rfl|omega|(exfalso;omega)) (show aE (AL a s)=aE a from by(unfold AL;repeat' split)<;>first|rfl|omega|(exfalso;omega)) 273))
  (fun _=>(ai (iO jz (show((iv a.aF.length a.aY.length c1 c2 a.ay a.dY))[0]? =some ((j0 a c1)) from rfl))
  (dc s (a.aF.length:Int)
  (ai (jO wQ (xr h) (xJ (l:=a.aF) (z:=s) ae ae) 1 1 rfl)
  (fE (a:=a) (nl:=a.aF.length) (nv:=a.aY.length) c1 c2 h rfl rfl (show(i6<|(cK a.aF s).version)=yK a s from by(unfold yK;repeat' split)<;>first|rfl|omega|(exfalso;omega)) (show aE (AL a s)=aE a from by(unfold AL;repeat' split)<;>first|rfl|omega|(exfalso;omega)) 273)))))))))
noncomputable abbrev zr(a:bC)(c2:cC):AV:=.slice (some (272,0)) (a.aY.length) c2
theorem adW(mc:Mt [] B)(h:gU a):oS B 50 (max Tryz.f50.ntmps 2) (az Tryz.f50) a c1 c2 [.int .i64 s] (zc a s)<|aE<|Bk a s:=by
 exact mD mc (.st 4<|.rg<|.go 1<|.fk (.go 6<|.en<|.rt 4 .no)<|.go 3<|.il<|.st 8<|.rg<|.go 3<|.ld [(zr a c2)]<|.go 2<|.en<|.rt 1<|.fk (.go 1<|.en<|.rt 4 .no)<|.go 1<|.en<|.st 3<|.rg<|.go 3<|.ld [(zr a c2)]<|.go 1<|.ix<|.ld [(i6<|(kx a.aY s))]<|.go 1<|.en<|.rt 1 .no)
  (ax (s<0) (fun _=>(fE (a:=a) (nl:=a.aF.length) (nv:=a.aY.length) c1 c2 h rfl rfl (show i0=zc a s from by(unfold zc;repeat' split)<;>first|rfl|omega|(exfalso;omega)) (show aE (Bk a s)=aE a from by(unfold Bk;repeat' split)<;>first|rfl|omega|(exfalso;omega)) 273))
  (fun _=>(ai (iO jz (show((iv a.aF.length a.aY.length c1 c2 a.ay a.dY))[3]? =some ((zr a c2)) from rfl))
  (ax (s>=(a.aY.length:Int)) (fun _=>(fE (a:=a) (nl:=a.aF.length) (nv:=a.aY.length) c1 c2 h rfl rfl (show i0=zc a s from by(unfold zc;repeat' split)<;>first|rfl|omega|(exfalso;omega)) (show aE (Bk a s)=aE a from by(unfold Bk;repeat' split)<;>first|rfl|omega|(exfalso;omega)) 273))
  (fun _=>(ai (iO jz (show((iv a.aF.length a.aY.length c1 c2 a.ay a.dY))[3]? =some ((zr a c2)) from rfl))
  (dc s (a.aY.length:Int)
  (ai (jO eI.1 (VG h) (Ki (l:=a.aY) (z:=s) ae ae) 0 1 rfl)
  (fE (a:=a) (nl:=a.aF.length) (nv:=a.aY.length) c1 c2 h rfl rfl (show(i6<|(kx a.aY s))=zc a s from by(unfold zc;repeat' split)<;>first|rfl|omega|(exfalso;omega)) (show aE (Bk a s)=aE a from by(unfold Bk;repeat' split)<;>first|rfl|omega|(exfalso;omega)) 273)))))))))
theorem adX(mc:Mt [] B)(h:gU a):oS B 42 (max Tryz.f42.ntmps 1) (az Tryz.f42) a c1 c2 [] (F5 a)<|aE<|JD a:=by
 exact mD mc (.st 8<|.rg<|.go 4<|.ld [(i6 a.ay)]<|.go 1<|.en<|.rt 1 .no)
  (ai (iO jz (show((iv a.aF.length a.aY.length c1 c2 a.ay a.dY))[1]? =some ((i6 a.ay)) from rfl))
  (fE (a:=a) (nl:=a.aF.length) (nv:=a.aY.length) c1 c2 h rfl rfl (show(i6 a.ay)=F5 a from by(unfold F5;repeat' split)<;>first|rfl|omega|(exfalso;omega)) (show aE (JD a)=aE a from by(unfold JD;repeat' split)<;>first|rfl|omega|(exfalso;omega)) 273))
theorem afJ(mc:Mt [] B)(h:gU a):oS B 24 (max Tryz.f24.ntmps 1) (az Tryz.f24) a c1 c2 [] (Kj a)<|aE<|Po a:=by
 exact mD mc (.st 8<|.rg<|.go 3<|.ld [(zr a c2)]<|.go 2<|.en<|.rt 1 .no)
  (ai (iO jz (show((iv a.aF.length a.aY.length c1 c2 a.ay a.dY))[3]? =some ((zr a c2)) from rfl))
  (fE (a:=a) (nl:=a.aF.length) (nv:=a.aY.length) c1 c2 h rfl rfl (show(i6<|(a.aY.length:Int))=Kj a from by(unfold Kj;repeat' split)<;>first|rfl|omega|(exfalso;omega)) (show aE (Po a)=aE a from by(unfold Po;repeat' split)<;>first|rfl|omega|(exfalso;omega)) 273))
theorem abj(mc:Mt [] B)(h:gU a):oS B 29 (max Tryz.f29.ntmps 1) (az Tryz.f29) a c1 c2 [] (IJ a)<|aE<|Nw a:=by
 exact mD mc (.st 8<|.rg<|.go 4<|.ld [(j0 a c1)]<|.go 2<|.en<|.rt 1 .no)
  (ai (iO jz (show((iv a.aF.length a.aY.length c1 c2 a.ay a.dY))[0]? =some ((j0 a c1)) from rfl))
  (fE (a:=a) (nl:=a.aF.length) (nv:=a.aY.length) c1 c2 h rfl rfl (show(i6<|(a.aF.length:Int))=IJ a from by(unfold IJ;repeat' split)<;>first|rfl|omega|(exfalso;omega)) (show aE (Nw a)=aE a from by(unfold Nw;repeat' split)<;>first|rfl|omega|(exfalso;omega)) 273))
theorem acz(mc:Mt [] B)(h:gU a)(h0:1<=a.aF.length):oS B 9 (max Tryz.f9.ntmps 2) (az Tryz.f9) a c1 c2 [.int .i64 s] (sX a s)<|aE<|AZ a s:=by
 exact mD mc (.st 4<|.rg<|.go 1<|.fk (.go 6<|.en<|.rt 4 .no)<|.go 3<|.il<|.st 8<|.rg<|.go 3<|.ld [(zr a c2)]<|.go 2<|.en<|.rt 1<|.fk (.go 1<|.en<|.rt 4 .no)<|.go 1<|.en<|.st 3<|.rg<|.go 5<|.ld [(j0 a c1)]<|.go 1<|.rm<|.go 1<|.en<|.rt 1 .no)
  (ax (s<0) (fun _=>(fE (a:=a) (nl:=a.aF.length) (nv:=a.aY.length) c1 c2 h rfl rfl (show(i6<|.negSucc 0)=sX a s from by(unfold sX;repeat' split)<;>first|rfl|omega|(exfalso;omega)) (show aE (AZ a s)=aE a from by(unfold AZ;repeat' split)<;>first|rfl|omega|(exfalso;omega)) 273))
  (fun _=>(ai (iO jz (show((iv a.aF.length a.aY.length c1 c2 a.ay a.dY))[3]? =some ((zr a c2)) from rfl))
  (ax (s>=(a.aY.length:Int)) (fun _=>(fE (a:=a) (nl:=a.aF.length) (nv:=a.aY.length) c1 c2 h rfl rfl (show(i6<|.negSucc 0)=sX a s from by(unfold sX;repeat' split)<;>first|rfl|omega|(exfalso;omega)) (show aE (AZ a s)=aE a from by(unfold AZ;repeat' split)<;>first|rfl|omega|(exfalso;omega)) 273))
  (fun _=>(ai (iO jz (show((iv a.aF.length a.aY.length c1 c2 a.ay a.dY))[0]? =some ((j0 a c1)) from rfl))
  (ai (show(a.aF.length:Int)≠0 from by omega)
  (fE (a:=a) (nl:=a.aF.length) (nv:=a.aY.length) c1 c2 h rfl rfl (show(i6<|(Int.tmod s (a.aF.length:Int)))=sX a s from by(unfold sX;repeat' split)<;>first|rfl|omega|(exfalso;omega)) (show aE (AZ a s)=aE a from by(unfold AZ;repeat' split)<;>first|rfl|omega|(exfalso;omega)) 273))))))))
theorem gS:∀p∈Bz a c1 c2,p.1<273:=fun p hp=>by
 simp only[Bz,List.mem_cons,List.not_mem_nil,or_false] at hp;rcases hp with rfl|rfl|rfl
 ·show 270<273;omega
 ·show 271<273;omega
 ·show 272<273;omega
theorem C3{L0:bV}{g:Nat}{fn:Func}{F:bC->List AV->Option (AV×bC)}(hP:bE pg)(h:aU L)(h0:aU L0)(cq:Tryz.prog.funcs[g]? =some fn)(H:∀a rest y a',F a rest=some (y,a')->max fn.ntmps (rest.length+1)<=top/\∀B c1 c2,Mt L0 B->gU a->oS B g (max fn.ntmps<|rest.length+1) fn.results.toList a c1 c2 rest y (aE a'))(cx:fn.body=some (a9 pg g []):=by kernel_rfl)(hn:(fn.name == "runtime.NumGoroutine")=false:=by kernel_rfl):aU<|(g,.tok 2<|dG aE F)::L:=by
 refine C8 sj hP hZ qk iS ig lV lC h h0 cq cx hn fun v rest y v' e=>?_;obtain⟨a,a',rfl,e1,rfl⟩:=AK e;obtain⟨q1,q2⟩:=H a rest y a' e1;refine⟨q1,fun L hx=>?_⟩;generalize hv:aE a=v at hx;cases hx with
 |heap b hb c1 c2=>have:=re _ _ hv;subst this;exact⟨273,by omega,aM.1 aX,gS,fun B mc=>q2 B c1 c2 mc hb⟩
theorem agX(mc:Mt [] B)(h:gU a):oS B 10 (max Tryz.f10.ntmps 3) (az Tryz.f10) a c1 c2 [.int .i64 s,.int .i64 bf] (mz a s bf)<|aE<|kU a s bf:=by
 exact mD mc (.st 3<|.rg<|.go 2<|.il<|.st 8<|.rg<|.go 4<|.il<|.st 4<|.rg<|.go 1<|.fk (.go 9<|.en<|.rt 4<|.go 1<|.en<|.rt 1<|.go 1<|.en<|.st 6<|.rg<|.go 1<|.il<|.rt 10<|.go 1<|.en<|.rt 1 .no)<|.go 5<|.ld [(j0 a c1)]<|.go 1<|.fk (.go 1<|.en<|.rt 4<|.go 1<|.en<|.rt 1<|.go 1<|.en<|.st 6<|.rg<|.go 1<|.il<|.rt 10<|.go 1<|.en<|.rt 1 .no)<|.go 1<|.en<|.st 3<|.rg<|.go 3<|.ld [(j0 a c1)]<|.go 1<|.ix<|.go 1<|.en<|.rt 1<|.go 1<|.en<|.rt 1<|.go 1<|.en<|.st 6<|.rg<|.go 1<|.fk (.go 5<|.en<|.rt 4 .no)<|.go 2<|.fk (.go 2<|.en<|.rt 4 .no)<|.go 2<|.en<|.st 2<|.rg<|.go 3<|.ld [(i6<|(cK a.aF s).owner)]<|.fk (.go 1<|.en<|.rt 4 .no)<|.go 1<|.en<|.st 4<|.rg<|.go 4<|.lh (aN lu<|a.aF.set s.toNat {(cK a.aF s) with owner:=bf})<|.en<|.rt 3 .no)
  (ax (s<0) (fun _=>(fE (a:=a) (nl:=a.aF.length) (nv:=a.aY.length) c1 c2 h rfl rfl (show(i6<|.ofNat 5)=mz a s bf from by(unfold mz;repeat' split)<;>first|rfl|omega|(exfalso;omega)) (show aE (kU a s bf)=aE a from by(unfold kU;repeat' split)<;>first|rfl|omega|(exfalso;omega)) 273))
  (fun _=>(ai (iO jz (show((iv a.aF.length a.aY.length c1 c2 a.ay a.dY))[0]? =some ((j0 a c1)) from rfl))
  (ax (s>=(a.aF.length:Int)) (fun _=>(fE (a:=a) (nl:=a.aF.length) (nv:=a.aY.length) c1 c2 h rfl rfl (show(i6<|.ofNat 5)=mz a s bf from by(unfold mz;repeat' split)<;>first|rfl|omega|(exfalso;omega)) (show aE (kU a s bf)=aE a from by(unfold kU;repeat' split)<;>first|rfl|omega|(exfalso;omega)) 273))
  (fun _=>(ai (iO jz (show((iv a.aF.length a.aY.length c1 c2 a.ay a.dY))[0]? =some ((j0 a c1)) from rfl))
  (dc s (a.aF.length:Int)
  (ax (bf<0) (fun _=>(fE (a:=a) (nl:=a.aF.length) (nv:=a.aY.length) c1 c2 h rfl rfl (show(i6<|.ofNat 1)=mz a s bf from by(unfold mz;repeat' split)<;>first|rfl|omega|(exfalso;omega)) (show aE (kU a s bf)=aE a from by(unfold kU;repeat' split)<;>first|rfl|omega|(exfalso;omega)) 273))
  (fun _=>(ax (bf>=6) (fun _=>(fE (a:=a) (nl:=a.aF.length) (nv:=a.aY.length) c1 c2 h rfl rfl (show(i6<|.ofNat 1)=mz a s bf from by(unfold mz;repeat' split)<;>first|rfl|omega|(exfalso;omega)) (show aE (kU a s bf)=aE a from by(unfold kU;repeat' split)<;>first|rfl|omega|(exfalso;omega)) 273))
  (fun _=>(ai (jO wQ (xr h) (xJ (l:=a.aF) (z:=s) ae ae) 0 1 rfl)
  (ax ((cK a.aF s).owner≠(-1)) (fun _=>(fE (a:=a) (nl:=a.aF.length) (nv:=a.aY.length) c1 c2 h rfl rfl (show(i6<|.ofNat 6)=mz a s bf from by(unfold mz;repeat' split)<;>first|rfl|omega|(exfalso;omega)) (show aE (kU a s bf)=aE a from by(unfold kU;repeat' split)<;>first|rfl|omega|(exfalso;omega)) 273))
  (fun _=>(ai (oA wQ (xr h) (xJ (l:=a.aF) (z:=s) ae ae) (c':={(cK a.aF s) with owner:=bf}) (r:=[(i6 bf)]) 0 rfl rfl rfl)
  (fE (a:=(m7 a s {(cK a.aF s) with owner:=bf})) (nl:=a.aF.length) (nv:=a.aY.length) c1 c2 (F6 h) MW rfl (show i0=mz a s bf from by(unfold mz;repeat' split)<;>first|rfl|omega|(exfalso;omega)) (show aE (kU a s bf)=aE (m7 a s {(cK a.aF s) with owner:=bf}) from by(unfold kU;repeat' split)<;>first|rfl|omega|(exfalso;omega)) 273))))))))))))))))
theorem agY(mc:Mt [] B)(h:gU a):oS B 14 (max Tryz.f14.ntmps 3) (az Tryz.f14) a c1 c2 [.int .i64 s,.int .i64 bf] (rS a s bf)<|aE<|pK a s bf:=by
 exact mD mc (.st 3<|.rg<|.go 3<|.il<|.st 3<|.rg<|.go 2<|.il<|.st 8<|.rg<|.go 4<|.il<|.st 4<|.rg<|.go 1<|.fk (.go 9<|.en<|.rt 4<|.go 1<|.en<|.rt 1<|.go 1<|.en<|.st 6<|.rg<|.go 1<|.il<|.rt 10<|.go 2<|.en<|.rt 1<|.go 5<|.en<|.rt 8 .no)<|.go 5<|.ld [(j0 a c1)]<|.go 1<|.fk (.go 1<|.en<|.rt 4<|.go 1<|.en<|.rt 1<|.go 1<|.en<|.st 6<|.rg<|.go 1<|.il<|.rt 10<|.go 2<|.en<|.rt 1<|.go 5<|.en<|.rt 8 .no)<|.go 1<|.en<|.st 3<|.rg<|.go 3<|.ld [(j0 a c1)]<|.go 1<|.ix<|.go 1<|.en<|.rt 1<|.go 1<|.en<|.rt 1<|.go 1<|.en<|.st 6<|.rg<|.go 1<|.fk (.go 9<|.en<|.rt 4<|.go 5<|.en<|.rt 8 .no)<|.go 4<|.ld [(i6<|(cK a.aF s).owner)]<|.go 1<|.fk (.go 2<|.en<|.rt 4<|.go 5<|.en<|.rt 8 .no)<|.go 2<|.en<|.rt 6<|.go 5<|.en<|.st 4<|.rg<|.go 3<|.lh (aN lu<|a.aF.set s.toNat {(cK a.aF s) with owner:=(-1)})<|.en<|.rt 3 .no)
  (ax (s<0) (fun _=>(fE (a:=a) (nl:=a.aF.length) (nv:=a.aY.length) c1 c2 h rfl rfl (show(i6<|.ofNat 5)=rS a s bf from by(unfold rS;repeat' split)<;>first|rfl|omega|(exfalso;omega)) (show aE (pK a s bf)=aE a from by(unfold pK;repeat' split)<;>first|rfl|omega|(exfalso;omega)) 273))
  (fun _=>(ai (iO jz (show((iv a.aF.length a.aY.length c1 c2 a.ay a.dY))[0]? =some ((j0 a c1)) from rfl))
  (ax (s>=(a.aF.length:Int)) (fun _=>(fE (a:=a) (nl:=a.aF.length) (nv:=a.aY.length) c1 c2 h rfl rfl (show(i6<|.ofNat 5)=rS a s bf from by(unfold rS;repeat' split)<;>first|rfl|omega|(exfalso;omega)) (show aE (pK a s bf)=aE a from by(unfold pK;repeat' split)<;>first|rfl|omega|(exfalso;omega)) 273))
  (fun _=>(ai (iO jz (show((iv a.aF.length a.aY.length c1 c2 a.ay a.dY))[0]? =some ((j0 a c1)) from rfl))
  (dc s (a.aF.length:Int)
  (ax (bf<0) (fun _=>(fE (a:=a) (nl:=a.aF.length) (nv:=a.aY.length) c1 c2 h rfl rfl (show(i6<|.ofNat 7)=rS a s bf from by(unfold rS;repeat' split)<;>first|rfl|omega|(exfalso;omega)) (show aE (pK a s bf)=aE a from by(unfold pK;repeat' split)<;>first|rfl|omega|(exfalso;omega)) 273))
  (fun _=>(ai (jO wQ (xr h) (xJ (l:=a.aF) (z:=s) ae ae) 0 1 rfl)
  (ax ((cK a.aF s).owner≠bf) (fun _=>(fE (a:=a) (nl:=a.aF.length) (nv:=a.aY.length) c1 c2 h rfl rfl (show(i6<|.ofNat 7)=rS a s bf from by(unfold rS;repeat' split)<;>first|rfl|omega|(exfalso;omega)) (show aE (pK a s bf)=aE a from by(unfold pK;repeat' split)<;>first|rfl|omega|(exfalso;omega)) 273))
  (fun _=>(ai (oA wQ (xr h) (xJ (l:=a.aF) (z:=s) ae ae) (c':={(cK a.aF s) with owner:=(-1)}) (r:=[(i6<|.negSucc 0)]) 0 rfl rfl rfl)
  (fE (a:=(m7 a s {(cK a.aF s) with owner:=(-1)})) (nl:=a.aF.length) (nv:=a.aY.length) c1 c2 (F6 h) MW rfl (show i0=rS a s bf from by(unfold rS;repeat' split)<;>first|rfl|omega|(exfalso;omega)) (show aE (pK a s bf)=aE (m7 a s {(cK a.aF s) with owner:=(-1)}) from by(unfold pK;repeat' split)<;>first|rfl|omega|(exfalso;omega)) 273))))))))))))))
theorem afK(mc:Mt [] B){gq:Int}(h:gU a):oS B 13 (max Tryz.f13.ntmps 4) (az Tryz.f13) a c1 c2 [.int .i64 s,.int .i64 bf,.int .i64 gq] (lR a s bf gq)<|aE<|lS a s bf gq:=by
 exact mD mc (.st 3<|.rg<|.go 3<|.il<|.st 3<|.rg<|.go 2<|.il<|.st 8<|.rg<|.go 4<|.il<|.st 4<|.rg<|.go 1<|.fk (.go 9<|.en<|.rt 4<|.go 1<|.en<|.rt 1<|.go 1<|.en<|.st 6<|.rg<|.go 1<|.il<|.rt 10<|.go 2<|.en<|.rt 1<|.go 5<|.en<|.rt 8 .no)<|.go 5<|.ld [(j0 a c1)]<|.go 1<|.fk (.go 1<|.en<|.rt 4<|.go 1<|.en<|.rt 1<|.go 1<|.en<|.st 6<|.rg<|.go 1<|.il<|.rt 10<|.go 2<|.en<|.rt 1<|.go 5<|.en<|.rt 8 .no)<|.go 1<|.en<|.st 3<|.rg<|.go 3<|.ld [(j0 a c1)]<|.go 1<|.ix<|.go 1<|.en<|.rt 1<|.go 1<|.en<|.rt 1<|.go 1<|.en<|.st 6<|.rg<|.go 1<|.fk (.go 9<|.en<|.rt 4<|.go 5<|.en<|.rt 8 .no)<|.go 4<|.ld [(i6<|(cK a.aF s).owner)]<|.go 1<|.fk (.go 2<|.en<|.rt 4<|.go 5<|.en<|.rt 8 .no)<|.go 2<|.en<|.rt 6<|.go 5<|.en<|.st 6<|.rg<|.go 4<|.ld [(i6<|(cK a.aF s).version)]<|.fk (.go 10<|.en<|.rt 4 .no)<|.go 6<|.ld [(i6 a.ay)]<|.fk (.go 2<|.en<|.rt 4 .no)<|.go 2<|.en<|.st 4<|.rg<|.go 4<|.lh (aN lu<|a.aF.set s.toNat (⟨(-1),gq⟩:Lk))<|.en<|.rt 3 .no)
  (ax (s<0) (fun _=>(fE (a:=a) (nl:=a.aF.length) (nv:=a.aY.length) c1 c2 h rfl rfl (show(i6<|.ofNat 5)=lR a s bf gq from by(unfold lR;repeat' split)<;>first|rfl|omega|(exfalso;omega)) (show aE (lS a s bf gq)=aE a from by(unfold lS;repeat' split)<;>first|rfl|omega|(exfalso;omega)) 273))
  (fun _=>(ai (iO jz (show((iv a.aF.length a.aY.length c1 c2 a.ay a.dY))[0]? =some ((j0 a c1)) from rfl))
  (ax (s>=(a.aF.length:Int)) (fun _=>(fE (a:=a) (nl:=a.aF.length) (nv:=a.aY.length) c1 c2 h rfl rfl (show(i6<|.ofNat 5)=lR a s bf gq from by(unfold lR;repeat' split)<;>first|rfl|omega|(exfalso;omega)) (show aE (lS a s bf gq)=aE a from by(unfold lS;repeat' split)<;>first|rfl|omega|(exfalso;omega)) 273))
  (fun _=>(ai (iO jz (show((iv a.aF.length a.aY.length c1 c2 a.ay a.dY))[0]? =some ((j0 a c1)) from rfl))
  (dc s (a.aF.length:Int)
  (ax (bf<0) (fun _=>(fE (a:=a) (nl:=a.aF.length) (nv:=a.aY.length) c1 c2 h rfl rfl (show(i6<|.ofNat 7)=lR a s bf gq from by(unfold lR;repeat' split)<;>first|rfl|omega|(exfalso;omega)) (show aE (lS a s bf gq)=aE a from by(unfold lS;repeat' split)<;>first|rfl|omega|(exfalso;omega)) 273))
  (fun _=>(ai (jO wQ (xr h) (xJ (l:=a.aF) (z:=s) ae ae) 0 1 rfl)
  (ax ((cK a.aF s).owner≠bf) (fun _=>(fE (a:=a) (nl:=a.aF.length) (nv:=a.aY.length) c1 c2 h rfl rfl (show(i6<|.ofNat 7)=lR a s bf gq from by(unfold lR;repeat' split)<;>first|rfl|omega|(exfalso;omega)) (show aE (lS a s bf gq)=aE a from by(unfold lS;repeat' split)<;>first|rfl|omega|(exfalso;omega)) 273))
  (fun _=>(ai (jO wQ (xr h) (xJ (l:=a.aF) (z:=s) ae ae) 1 1 rfl)
  (ax (gq<(cK a.aF s).version) (fun _=>(fE (a:=a) (nl:=a.aF.length) (nv:=a.aY.length) c1 c2 h rfl rfl (show(i6<|.ofNat 1)=lR a s bf gq from by(unfold lR;repeat' split)<;>first|rfl|omega|(exfalso;omega)) (show aE (lS a s bf gq)=aE a from by(unfold lS;repeat' split)<;>first|rfl|omega|(exfalso;omega)) 273))
  (fun _=>(ai (iO jz (show((iv a.aF.length a.aY.length c1 c2 a.ay a.dY))[1]? =some ((i6 a.ay)) from rfl))
  (ax (gq>a.ay) (fun _=>(fE (a:=a) (nl:=a.aF.length) (nv:=a.aY.length) c1 c2 h rfl rfl (show(i6<|.ofNat 1)=lR a s bf gq from by(unfold lR;repeat' split)<;>first|rfl|omega|(exfalso;omega)) (show aE (lS a s bf gq)=aE a from by(unfold lS;repeat' split)<;>first|rfl|omega|(exfalso;omega)) 273))
  (fun _=>(ai (oA wQ (xr h) (xJ (l:=a.aF) (z:=s) ae ae) (c':=(⟨(-1),gq⟩:Lk)) (r:=[(i6<|.negSucc 0),(i6 gq)]) 0 rfl rfl rfl)
  (fE (a:=(m7 a s (⟨(-1),gq⟩:Lk))) (nl:=a.aF.length) (nv:=a.aY.length) c1 c2 (F6 h) MW rfl (show i0=lR a s bf gq from by(unfold lR;repeat' split)<;>first|rfl|omega|(exfalso;omega)) (show aE (lS a s bf gq)=aE (m7 a s (⟨(-1),gq⟩:Lk)) from by(unfold lS;repeat' split)<;>first|rfl|omega|(exfalso;omega)) 273))))))))))))))))))))
theorem afL(mc:Mt [] B)(h:gU a)(h0:0<=a.ay)(h1:a.dY<=1099511627776):oS B 11 (max Tryz.f11.ntmps 1) (az Tryz.f11) a c1 c2 [] (vA a)<|aE<|vB a:=by
 exact mD mc (.st 8<|.rg<|.go 3<|.il<|.st 4<|.rg<|.go 3<|.ld [(i6 a.ay)]<|.go 3<|.ld [(i6 a.dY)]<|.fk (.en<|.rt 4<|.go 4<|.en<|.rt 1 .no)<|.en<|.st 3<|.rg<|.go 3<|.ld [(i6 a.ay)]<|.vl (i6<|a.ay+1)<|.go 2<|.lh (aN lU<|iv a.aF.length a.aY.length c1 c2 (a.ay+1) a.dY)<|.en<|.st 1<|.rg<|.go 3<|.ld [(i6<|(a.ay+1))]<|.go 2<|.en<|.rt 1<|.go 4<|.en<|.rt 1 .no)
  (ai (iO jz (show((iv a.aF.length a.aY.length c1 c2 a.ay a.dY))[1]? =some ((i6 a.ay)) from rfl))
  (ai (iO jz (show((iv a.aF.length a.aY.length c1 c2 a.ay a.dY))[2]? =some ((i6 a.dY)) from rfl))
  (ax (a.ay>=a.dY) (fun _=>(fE (a:=a) (nl:=a.aF.length) (nv:=a.aY.length) c1 c2 h rfl rfl (show(.tuple [i0,(i6<|.ofNat 41)])=vA a from by(unfold vA;repeat' split)<;>first|rfl|omega|(exfalso;omega)) (show aE (vB a)=aE a from by(unfold vB;repeat' split)<;>first|rfl|omega|(exfalso;omega)) 273))
  (fun _=>(ai (iO jz (show((iv a.aF.length a.aY.length c1 c2 a.ay a.dY))[1]? =some ((i6 a.ay)) from rfl))
  (ai (wI<|a.ay+1)
  (ai (UQ (c':=(i6<|(a.ay+1))) jz (show((iv a.aF.length a.aY.length c1 c2 a.ay a.dY))[1]? =some ((i6 a.ay)) from rfl) rfl)
  (ai (iO jz (show((iv a.aF.length a.aY.length c1 c2 (a.ay+1) a.dY))[1]? =some ((i6<|(a.ay+1))) from rfl))
  (fE (a:=(oB a<|a.ay+1)) (nl:=a.aF.length) (nv:=a.aY.length) c1 c2 (VH h) rfl rfl (show(.tuple [(i6<|(a.ay+1)),i0])=vA a from by(unfold vA;repeat' split)<;>first|rfl|omega|(exfalso;omega)) (show aE (vB a)=aE (oB a<|a.ay+1) from by(unfold vB;repeat' split)<;>first|rfl|omega|(exfalso;omega)) 273)))))))))
def amC:bC->List AV->Option (AV×bC)
 |a,[.int .i64 x0]=>some (xu a x0,zb a x0)
 |_,_=>none
def amD:bC->List AV->Option (AV×bC)
 |a,[]=>some (F5 a,JD a)
 |_,_=>none
def zM:bC->List AV->Option (AV×bC)
 |a,[.int .i64 x0,.int .i64 x1]=>some (mz a x0 x1,kU a x0 x1)
 |_,_=>none
def Wl:FuncId×KE:=(10,.tok 2<|dG aE zM)
theorem acA(hP:bE pg)(h:aU L):aU<|Wl::L:=C3 hP h cJ Tryz.func10 fun a rest y a' e=>by unfold zM at e;split at e<;>cases e;exact⟨aM.1 aX,fun B c1 c2 mc hb=>agX mc hb⟩
def KR:bC->List AV->Option (AV×bC)
 |a,[.int .i64 x0,.int .i64 x1]=>some (rS a x0 x1,pK a x0 x1)
 |_,_=>none
def Wm:FuncId×KE:=(14,.tok 2<|dG aE KR)
theorem acB(hP:bE pg)(h:aU L):aU<|Wm::L:=C3 hP h cJ Tryz.func14 fun a rest y a' e=>by unfold KR at e;split at e<;>cases e;exact⟨aM.1 aX,fun B c1 c2 mc hb=>agY mc hb⟩
def Kk:bC->List AV->Option (AV×bC)
 |a,[.int .i64 x0,.int .i64 x1,.int .i64 x2]=>some (lR a x0 x1 x2,lS a x0 x1 x2)
 |_,_=>none
def VI:FuncId×KE:=(13,.tok 2<|dG aE Kk)
theorem abk(hP:bE pg)(h:aU L):aU<|VI::L:=C3 hP h cJ Tryz.func13 fun a rest y a' e=>by unfold Kk at e;split at e<;>cases e;exact⟨aM.1 aX,fun B c1 c2 mc hb=>afK mc hb⟩
def Kl:bC->List AV->Option (AV×bC)
 |a,[]=>some (vA a,vB a)
 |_,_=>none
def VJ:FuncId×KE:=(11,.tok 2<|dG aE Kl)
theorem abl(hP:bE pg)(h:aU L):aU<|VJ::L:=C3 hP h cJ Tryz.func11 fun a rest y a' e=>by unfold Kl at e;split at e<;>cases e;exact⟨aM.1 aX,fun B c1 c2 mc hb=>afL mc hb hb.2.2.1 hb.2.2.2⟩
end
end wv
end
section
open Go Go.Rn Go.RowKit Go.Proofs
namespace cR
open cv cG
variable {x1 x0:Int} {L k:Nat}
def tp(m op n:Int)(L:Nat)(x0 x1:Int):Prop:=1<=m/\((op=1/\L=0)\/(op=2/\L=0/\0<=n/\n<8)\/(op=3/\L=0/\0<=n/\n<6)\/(4<=op/\op<=8/\n=0/\L=2/\x0=1/\x1=1))
instance {m op n:Int} {L:Nat} {x0 x1:Int}:Decidable<|tp m op n L x0 x1:=by unfold tp;exact inferInstance
theorem wq1{m op n:Int}(h:1<=m/\((op=1/\L=0)\/(op=2/\L=0/\0<=n/\n<8)\/(op=3/\L=0/\0<=n/\n<6)\/(4<=op/\op<=8/\n=0/\L=2/\x0=1/\x1=1))):AV.bool true= .bool (decide<|tp m op n L x0 x1):=by rw[decide_eq_true (show tp m op n L x0 x1 from h)]
theorem wq0{m op n:Int}(h:¬(1<=m/\((op=1/\L=0)\/(op=2/\L=0/\0<=n/\n<8)\/(op=3/\L=0/\0<=n/\n<6)\/(4<=op/\op<=8/\n=0/\L=2/\x0=1/\x1=1)))):AV.bool false= .bool (decide<|tp m op n L x0 x1):=by rw[decide_eq_false (show ¬tp m op n L x0 x1 from h)]
def tu(k:Nat)(args:List AV)(v:AV):Prop:=∃(e:Ex) (m:Int),args=[.agg<|aD e,.int .i64 m]/\(0<=m/\m<k)/\k<=50/\v= .bool (eN m.toNat e)
theorem tu.bW(args:List AV)(v v':AV)(h:tu k args v)(h':tu k args v'):v=v':=by obtain⟨e,m,rfl,_,_,rfl⟩:=h;obtain⟨e',m',h1,_,_,rfl⟩:=h';simp only[List.cons.injEq,AV.agg.injEq,AV.int.injEq,true_and,_root_.and_true] at h1;rw[nw _ _ h1.1,h1.2]
noncomputable def kW(k:Nat):FuncId×KE:=(100,.val<|aW<|tu k)
theorem adY{B:aL}{N N0 L0 N1 L1:Nat}{op n m bT n0 cF n1:Int}(mc:Mt [kW k] B)(hn:top<=N)(hm:0<=m/\m<100)(wk:L=2->cT FU N (0+(0:Int).toNat*3+0) 3=some [(u8<|bT),(i6 n0),(.U N0 0 L0)])(ju:L=2->1<=m->bg (aW<|tu k) [(.agg [(u8<|bT),(i6 n0),(.U N0 0 L0)]),(i6<|(m - 1))]=some (.bool<|decide<|x0=1))(jb:L=2->cT FU N (0+(1:Int).toNat*3+0) 3=some [(u8<|cF),(i6 n1),(.U N1 0 L1)])(jJ:L=2->1<=m->bg (aW<|tu k) [(.agg [(u8<|cF),(i6 n1),(.U N1 0 L1)]),(i6<|(m - 1))]=some (.bool<|decide<|x1=1)):au pg B 270 (Fin pg (az Tryz.f100) fun y _=>y=(.bool<|decide<|tp m op n L x0 x1)) (sF 100 Tryz.f100 [(.agg [(u8<|op),(i6 n),(.U N 0 L)]),(i6 m)])<|ak ar 270:=by exact wS mc (.st 3<|.rg<|.go 3<|.fk (.go 1<|.en<|.st 3<|.rg<|.go 1<|.fk (.go 1<|.en<|.rt 4 .no)<|.go 1<|.en<|.st 2<|.rg<|.go 2<|.fk (.go 1<|.en<|.rt 4 .no)<|.go 1<|.en<|.st 2<|.rg<|.go 2<|.fk (.go 1<|.en<|.st 2<|.rg<|.go 4<|.fk (.go 4<|.fk (.go 2<|.en<|.rt 1 .no)<|.go 2<|.en<|.rt 1 .no)<|.go 7<|.en<|.rt 1 .no)<|.go 1<|.en<|.st 2<|.rg<|.go 2<|.fk (.go 1<|.en<|.st 2<|.rg<|.go 4<|.fk (.go 4<|.fk (.go 2<|.en<|.rt 1 .no)<|.go 2<|.en<|.rt 1 .no)<|.go 7<|.en<|.rt 1 .no)<|.go 1<|.en<|.st 2<|.rg<|.go 2<|.fk (.go 17<|.en<|.rt 4 .no)<|.go 3<|.fk (.go 13<|.en<|.rt 4 .no)<|.go 4<|.fk (.go 8<|.en<|.rt 4 .no)<|.go 5<|.fk (.go 2<|.en<|.rt 4 .no)<|.go 2<|.en<|.st 4<|.rg<|.go 2<|.fh<|.fj [(u8<|bT),(i6 n0),(.U N0 0 L0)]<|.go 1<|.vl (i6<|m - 1)<|.kp (x0=1) inferInstance (.go 3<|.fh<|.fj [(u8<|cF),(i6 n1),(.U N1 0 L1)]<|.go 1<|.vl (i6<|m - 1)<|.kp (x1=1) inferInstance (.go 2<|.en<|.rt 1 .no)<|.go 2<|.en<|.rt 1 .no)<|.go 10<|.en<|.rt 1 .no)<|.go 1<|.en<|.st 3<|.rg<|.go 1<|.fk (.go 1<|.en<|.rt 4 .no)<|.go 1<|.en<|.st 2<|.rg<|.go 2<|.fk (.go 1<|.en<|.rt 4 .no)<|.go 1<|.en<|.st 2<|.rg<|.go 2<|.fk (.go 1<|.en<|.rt 4 .no)<|.go 1<|.en<|.st 2<|.rg<|.go 2<|.fk (.go 1<|.en<|.rt 4 .no)<|.go 1<|.en<|.st 2<|.rg<|.go 2<|.fk (.go 17<|.en<|.rt 4 .no)<|.go 3<|.fk (.go 13<|.en<|.rt 4 .no)<|.go 4<|.fk (.go 8<|.en<|.rt 4 .no)<|.go 5<|.fk (.go 2<|.en<|.rt 4 .no)<|.go 2<|.en<|.st 4<|.rg<|.go 2<|.fh<|.fj [(u8<|bT),(i6 n0),(.U N0 0 L0)]<|.go 1<|.vl (i6<|m - 1)<|.kp (x0=1) inferInstance (.go 3<|.fh<|.fj [(u8<|cF),(i6 n1),(.U N1 0 L1)]<|.go 1<|.vl (i6<|m - 1)<|.kp (x1=1) inferInstance (.go 2<|.en<|.rt 1 .no)<|.go 2<|.en<|.rt 1 .no)<|.go 10<|.en<|.rt 1 .no)<|ax ((L:Int)=0) (fun _=>(ax (m<1) o9 fun _=>(ax (op=1) KJ fun _=>(ax (op=2) (fun _=>(ax (n>=0) (fun _=>(ax (n<8) KJ o9)) o9)) fun _=>(ax (op=3) (fun _=>(ax (n>=0) (fun _=>(ax (n<6) KJ o9)) o9)) W0))))) fun _=>(ax (m<1) o9 fun _=>(ax (op=1) o9 fun _=>(ax (op=2) o9 fun _=>(ax (op=3) o9 W0))))
end cR
end
section
open Go Go.Rn Go.RowKit Go.Proofs
namespace cW
open cv cG cR
theorem yS{l:List Ex}{i:Nat}{a:Ex}(h:l[i]? =some a){z:Int}(hz:z.toNat=i):cT FU (nm<|cN l) (0+z.toNat*3+0) 3=some (aD a):=by rw[CO,hz,Nat.zero_add,Bi kF h 0 3 ae];rw[List.drop_zero,List.take_of_length_le (by rw[kF.len];omega)]
def bit(b:Bool):Int:=if b then 1 else 0
theorem xc(b:Bool):decide (bit b=1)=b:=by cases b<;>rfl
theorem acC{m op n:Int}{l:List Ex}(h0:0<=m):tp m op n l.length (bit<|eN (m - 1).toNat<|l.getD 0 default) (bit<|eN (m - 1).toNat<|l.getD 1 default)↔eN m.toNat (.mk op n l)=true:=by
 by_cases hm:m=0
 ·subst hm;unfold tp;show _↔false=true;constructor
  ·intro h;omega
  ·intro h;cases h
 ·obtain⟨k,hk⟩:∃k,m.toNat=k+1:=⟨m.toNat - 1,by omega⟩;rw[hk,show(m - 1).toNat=k by omega,Md];unfold tp;have b1:∀b:Bool,(bit b=1)↔b=true:=fun b=>by cases b<;>decide
  rw[b1,b1];have e1:l.isEmpty=true↔l.length=0:=by cases l<;>simp
  generalize eN k (l.getD 0 default)=x;generalize eN k (l.getD 1 default)=y;generalize l.isEmpty=q at e1;generalize l.length=L at e1;have x2:(x=true)\/(x=false):=by cases x<;>simp
  have y2:(y=true)\/(y=false):=by cases y<;>simp
  split
  ·rw[e1];omega
  split
  ·rw[Bool.and_eq_true,Bool.and_eq_true,e1,decide_eq_true_eq,decide_eq_true_eq];omega
  split
  ·rw[Bool.and_eq_true,Bool.and_eq_true,e1,decide_eq_true_eq,decide_eq_true_eq];omega
  split
  ·exact⟨fun h=>by omega,fun h=>by cases h⟩
  rw[Bool.and_eq_true,Bool.and_eq_true,decide_eq_true_eq];constructor
  ·intro h;rcases h.2 with h|h|h|h
   ·omega
   ·omega
   ·omega
   ·exact⟨⟨h.2.2.2.1,h.2.2.2.2.1⟩,h.2.2.2.2.2⟩
  ·intro h;exact⟨by omega,.inr<|.inr<|.inr ⟨by omega,by omega,by omega,h.1.1,h.1.2,h.2⟩⟩
theorem By(e:Ex):AV.hi (.agg<|aD e)=true:=by show(aD e).all AV.bG=true;exact List.all_eq_true.2 fun x hx=>CZ<|List.all_eq_true.1 (kF.ga e) x hx
theorem aap(hP:bE pg){k:Nat}(h':aU [kW k]){L:bV}(h:aU L):aU<|kW (k+1)::L:=by
 refine ij hP h h' Tryz.func100 fun args v e=>?_;obtain⟨⟨op,n,l⟩,m,rfl,hm,hk,rfl⟩:=gH e;refine⟨aM.1 aX,fun B mc=>?_⟩;rw[←gY];obtain⟨bT,n0,l0,e0⟩:∃a b c,l.getD 0 default=Ex.mk a b c:=by cases l.getD 0 default;exact⟨_,_,_,rfl⟩
 obtain⟨cF,n1,l1,e1⟩:∃a b c,l.getD 1 default=Ex.mk a b c:=by cases l.getD 1 default;exact⟨_,_,_,rfl⟩
 have c:∀x:Ex,1<=m->bg (aW<|tu k) [.agg<|aD x,.int .i64<|m - 1]=some (.bool<|decide<|bit (eN (m - 1).toNat x)=1):=fun x h1=>by rw[xc];refine fH (fB tu.bW ⟨x,m - 1,rfl,by omega,by omega,rfl⟩) ?_ rfl;rw[List.all_cons,By];rfl
 have key:=adY (L:=l.length) (N:=nm<|cN l) (op:=op) (n:=n) (m:=m) (k:=k) mc (cr _) ae
  (x0:=bit<|eN (m - 1).toNat<|l.getD 0 default) (x1:=bit<|eN (m - 1).toNat<|l.getD 1 default)
  (N0:=nm<|cN l0) (L0:=l0.length) (bT:=bT) (n0:=n0) (N1:=nm<|cN l1) (L1:=l1.length) (cF:=cF) (n1:=n1)
  (fun _=>by have:=yS (l:=l) (i:=0) (a:=l.getD 0 default) (by rw[List.getD_eq_getElem?_getD,List.getElem?_eq_getElem (show 0<l.length by omega)];rfl) (z:=0) rfl;rw[e0,aD] at this;exact this)
  (fun h2 h1=>by have:=c (l.getD 0 default) h1;rw[e0,aD, ←e0] at this;exact this)
  (fun _=>by have:=yS (l:=l) (i:=1) (a:=l.getD 1 default) (by rw[List.getD_eq_getElem?_getD,List.getElem?_eq_getElem (show 1<l.length by omega)];rfl) (z:=1) rfl;rw[e1,aD] at this;exact this)
  (fun h2 h1=>by have:=c (l.getD 1 default) h1;rw[e1,aD, ←e1] at this;exact this)
 rw[show decide (tp m op n l.length _ _)=eN m.toNat (.mk op n l) from by rw[Bool.eq_iff_iff,decide_eq_true_eq];exact acC hm.1] at key;rw[aD];exact key
theorem Tf(hP:bE pg):∀k,aU [kW k]
 |0=>by refine ij hP cJ cJ Tryz.func100 fun args v e=>?_;obtain⟨_,m,_,hm,_⟩:=gH e;omega
 |k+1=>aap hP (Tf hP k) cJ
end cW
end
section
open Go Go.Rn Go.RowKit Go.Proofs
namespace fw
open cv cG cR cW
variable {x:Int} {B:aL} {N L:Nat}
def ud(x m:Int):AV:=if m<1 then .tuple [.int .i64 0,.int .i64 1] else if Int.tmod x m<0 then .tuple [.int .i64<|Int.tmod x m+m,.int .i64 0] else .tuple [.int .i64<|Int.tmod x m,.int .i64 0]
theorem adZ{m:Int}(h:1<=m): - m<Int.tmod x m/\Int.tmod x m<m:=by have h1:=Int.tmod_lt_of_pos x (show 0<m by omega);have h2:=Int.lt_tmod_of_pos x (show 0<m by omega);exact⟨h2,h1⟩
theorem ad0{op n:Int}(mc:Mt [kW 7] B)(hc:bg (aW<|tu 7) [(.agg [(u8<|op),(i6 n),(.U N 0 L)]),.int .i64 6]=some (.bool<|decide<|x=1)):au pg B 270 (Fin pg (az Tryz.f92) fun y _=>y=(.bool<|decide<|x=1)) (sF 92 Tryz.f92 [(.agg [(u8<|op),(i6 n),(.U N 0 L)])])<|ak ar 270:=by exact wS mc (.st 3<|.rg<|.go 1<|.kp (x=1) inferInstance (.go 1<|.en<|.rt 1 .no)<|.go 1<|.en<|.rt 1 .no)<|ai hc<|ax (x=1) (fun _=>(show AV.bool true= .bool (decide<|x=1) from by rw[decide_eq_true ae])) fun _=>(show AV.bool false= .bool (decide<|x=1) from by rw[decide_eq_false ae])
theorem aiX{o:Nat}{z u:Int}(mc:Mt [] B)(hn:top<=N)(hz:0<=z)(hy:z<(L:Int)->cT FU N (o+z.toNat*1+0) 1=some [.int .i64 u]):au pg B 270 (Fin pg (az Tryz.f101) fun y _=>y=(if z>=(L:Int) then .tuple [.int .i64 0,.int .i64 5] else .tuple [.int .i64 u,.int .i64 0])) (sF 101 Tryz.f101 [(.U N o L),(i6 z)])<|ak ar 270:=by exact wS mc (.st 4<|.rg<|.go 3<|.fk (.en<|.rt 4 .no)<|.en<|.st 3<|.rg<|.go 2<|.fh<|.fj [(i6 u)]<|.go 2<|.en<|.rt 1 .no)<|ax (z>=(L:Int)) (fun _=>(show AV.tuple [i0,(i6<|.ofNat 5)]=(if z>=(L:Int) then .tuple [.int .i64 0,.int .i64 5] else .tuple [.int .i64 u,.int .i64 0]) from by rw[if_pos ae];rfl)) fun _=>(dc z (L:Int)<|ai hn<|ai (hy ae) (show AV.tuple [(i6 u),i0]=(if z>=(L:Int) then .tuple [.int .i64 0,.int .i64 5] else .tuple [.int .i64 u,.int .i64 0]) from by rw[if_neg ae];rfl))
theorem agZ{m:Int}(mc:Mt [] B)(hm:m<=1099511627776)(ht:1<=m-> - m<Int.tmod x m):au pg B 270 (Fin pg (az Tryz.f77) fun y _=>y=(ud x m)) (sF 77 Tryz.f77 [(i6 x),(i6 m)])<|ak ar 270:=by exact wS mc (.st 4<|.rg<|.go 1<|.fk (.en<|.rt 4 .no)<|.en<|.st 3<|.rg<|.go 2<|.rm<|.go 1<|.en<|.st 2<|.rg<|.go 1<|.fk (.en<|.st 1<|.rg<|.go 2<|.vl (i6<|(Int.tmod x m)+m)<|.go 1<|.en<|.rt 3 .no)<|.en<|.rt 5 .no)<|ax (m<1) (fun _=>(show AV.tuple [i0,(i6<|.ofNat 1)]=ud x m from by unfold ud;repeat' split<;>first|rfl|omega|(exfalso;omega))) fun _=>(ai (show m≠0 from by omega)<|ax ((Int.tmod x m)<0) (fun _=>(ai (wI<|(Int.tmod x m)+m) (show AV.tuple [(i6<|((Int.tmod x m)+m)),i0]=ud x m from by unfold ud;repeat' split<;>first|rfl|omega|(exfalso;omega)))) fun _=>(show AV.tuple [(i6<|(Int.tmod x m)),i0]=ud x m from by unfold ud;repeat' split<;>first|rfl|omega|(exfalso;omega)))
end fw
end
section
open Go Go.Rn Go.RowKit Go.Proofs
namespace eV
open cv cG cR cW fw
variable {L:bV}
noncomputable section
def vS(args:List AV)(v:AV):Prop:=∃e:Ex,args=[.agg<|aD e]/\v= .bool (eN 6 e)
theorem vS.bW(args:List AV)(v v':AV)(h:vS args v)(h':vS args v'):v=v':=by obtain⟨e,rfl,rfl⟩:=h;obtain⟨e',h1,rfl⟩:=h';simp only[List.cons.injEq,AV.agg.injEq,_root_.and_true] at h1;rw[nw _ _ h1]
def P3:FuncId×KE:=(92,.val<|aW vS)
theorem UR(hP:bE pg)(h:aU L):aU<|P3::L:=by refine ij hP h (Tf hP 7) Tryz.func92 fun args v e=>?_;obtain⟨⟨op,n,l⟩,rfl,rfl⟩:=gH e;refine⟨aM.1 aX,fun B mc=>?_⟩;rw[←gY];have key:=ad0 (L:=l.length) (N:=nm<|cN l) (op:=op) (n:=n) (x:=bit<|eN 6<|.mk op n l) mc (by rw[xc];have:=fH (fB tu.bW ⟨.mk op n l,6,rfl,by omega,by omega,rfl⟩:aW (tu 7) [.agg<|aD<|.mk op n l,.int .i64 6]=_) rP rfl;rw[aD] at this;exact this);rw[xc] at key;rw[aD];exact key
def sk(l:List Int)(z:Int):Int×Int:=if z>=(l.length:Int) then(0,5) else(kx l z,0)
def Ei(p:Int×Int):AV:=.tuple [.int .i64 p.1,.int .i64 p.2]
def AtR(args:List AV)(v:AV):Prop:=∃(N o L:Nat) (l:List Int) (z:Int),args=[.U N o L,.int .i64 z]/\eh bj 1 (.U N o L) l/\0<=z/\v=Ei (sk l z)
theorem AtR.bW(args:List AV)(v v':AV)(h:AtR args v)(h':AtR args v'):v=v':=by obtain⟨N,o,L,l,z,rfl,hl,_,rfl⟩:=h;obtain⟨N',o',L',l',z',h1,lZ,_,rfl⟩:=h';simp only[List.cons.injEq,AV.U.injEq,AV.int.injEq,true_and,_root_.and_true] at h1;obtain⟨⟨rfl,rfl,rfl⟩,rfl⟩:=h1;rw[eh.inj wX hl lZ]
def Af:FuncId×KE:=(101,.val<|aW AtR)
theorem afM(hP:bE pg)(h:aU L):aU<|Af::L:=by
 refine ij hP h cJ Tryz.func101 fun args v e=>?_;obtain⟨N,o,len,l,z,rfl,hl,hz,rfl⟩:=gH e;refine⟨aM.1 aX,fun B mc=>?_⟩;rw[←gY];obtain⟨h1,h2,h3⟩:=hl.len;subst h1;have key:=aiX (u:=kx l z) mc h2 hz (fun bB=>by have:=h3 z.toNat (kx l z)<|Ki hz ae;exact this);unfold Ei sk;split at key<;>rename_i q
 ·rw[if_pos q];exact key
 ·rw[if_neg q];exact key
def BR(args:List AV)(v:AV):Prop:=∃(x m:Int),args=[.int .i64 x,.int .i64 m]/\m<=1099511627776/\v=ud x m
theorem BR.bW(args:List AV)(v v':AV)(h:BR args v)(h':BR args v'):v=v':=by obtain⟨x,m,rfl,_,rfl⟩:=h;obtain⟨x',m',h1,_,rfl⟩:=h';simp only[List.cons.injEq,AV.int.injEq,true_and,_root_.and_true] at h1;rw[h1.1,h1.2]
def KS:FuncId×KE:=(77,.val<|aW BR)
theorem ad1(hP:bE pg)(h:aU L):aU<|KS::L:=by refine ij hP h cJ Tryz.func77 fun args v e=>?_;obtain⟨x,m,rfl,hm,rfl⟩:=gH e;refine⟨aM.1 aX,fun B mc=>?_⟩;rw[←gY];exact agZ mc hm fun h=>(adZ h).1
end
end eV
end
section
open Go Go.Rn Go.RowKit Go.Proofs
namespace fL
open cv cG cR cW fw eV
variable {k q p lm lg N1 N0 N L1 L0 L G:Nat} {x1 x0 bT n1 n0 f1 f0:Int} {B:aL}
def n9(op a b:Int):Int:=if op=4 then IntKind.wrap .i64 (a+b) else if op=5 then IntKind.wrap .i64 (a - b) else if op=6 then IntKind.wrap .i64 (a*b) else if op=7 then(if a<b then 1 else 0) else if a=b then 1 else 0
def ly(op n x0 f0 x1 f1:Int):Int×Int:=if op=1 then(n,0) else if op=2 then(x0,f0) else if op=3 then(x0,f0) else if f0≠0 then(0,f0) else if f1≠0 then(0,f1) else(n9 op x0 x1,0)
def gL(op n x0 f0 x1 f1:Int):AV:=Ei<|ly op n x0 f0 x1 f1
def lz:Nat->Ex->List Int->List Int->Int×Int
 |0,_,_,_=>(0,0)
 |k+1,.mk op n args,lo,aO=>
  if op=2 then ly op n (sk lo n).1 (sk lo n).2 0 0 else if op=3 then ly op n (sk aO n).1 (sk aO n).2 0 0
  else ly op n (lz k (args.getD 0 default) lo aO).1 (lz k (args.getD 0 default) lo aO).2 (lz k (args.getD 1 default) lo aO).1 (lz k (args.getD 1 default) lo aO).2
theorem aaq{op n:Int}{args:List Ex}{lo aO:List Int}:lz (k+1) (.mk op n args) lo aO=if op=2 then ly op n (sk lo n).1 (sk lo n).2 0 0 else if op=3 then ly op n (sk aO n).1 (sk aO n).2 0 0 else ly op n (lz k (args.getD 0 default) lo aO).1 (lz k (args.getD 0 default) lo aO).2 (lz k (args.getD 1 default) lo aO).1 (lz k (args.getD 1 default) lo aO).2:=rfl
def qw(k:Nat)(args:List AV)(v:AV):Prop:=∃(e:Ex) (M p lm G q lg:Nat) (lo aO:List Int),args=[.agg<|aD e,.U M p lm,.U G q lg]/\eh bj 1 (.U M p lm) lo/\eh bj 1 (.U G q lg) aO/\eN k e=true/\v=Ei (lz k e lo aO)
theorem qw.bW(args:List AV)(v v':AV)(h:qw k args v)(h':qw k args v'):v=v':=by obtain⟨e,M,p,lm,G,q,lg,lo,aO,rfl,a1,a2,_,rfl⟩:=h;obtain⟨e',M',p',lm',G',q',lg',nY,W9,h1,b1,b2,_,rfl⟩:=h';simp only[List.cons.injEq,AV.agg.injEq,AV.U.injEq,_root_.and_true] at h1;obtain⟨h0,⟨rfl,rfl,rfl⟩,rfl,rfl,rfl⟩:=h1;rw[nw _ _ h0,eh.inj wX a1 b1,eh.inj wX a2 b2]
noncomputable def kC(k:Nat):FuncId×KE:=(93,.val<|aW<|qw k)
theorem ad2{M N0 L0 N1 L1:Nat}{n bT n0 cF n1:Int}(mc:Mt [kC k,Af] B):au pg B 270 (Fin pg (az Tryz.f93) fun y _=>y=(gL 1 n x0 f0 x1 f1)) (sF 93 Tryz.f93 [(.agg [(u8<|.ofNat 1),(i6 n),(.U N 0 L)]),(.U M p lm),(.U G q lg)])<|ak ar 270:=by exact wS mc (.rt 12 .no) (show AV.tuple [(i6 n),i0]=gL 1 n x0 f0 x1 f1 from by(unfold gL ly n9;repeat' split)<;>first|rfl|(exfalso;omega))
theorem ad3{M N0 L0 N1 L1:Nat}{n bT n0 cF n1:Int}(mc:Mt [kC k,Af] B)(hc:bg (aW AtR) [(.U M p lm),.int .i64 n]=some (.tuple [.int .i64 x0,.int .i64 f0])):au pg B 270 (Fin pg (az Tryz.f93) fun y _=>y=(gL 2 n x0 f0 x1 f1)) (sF 93 Tryz.f93 [(.agg [(u8<|.ofNat 2),(i6 n),(.U N 0 L)]),(.U M p lm),(.U G q lg)])<|ak ar 270:=by exact wS mc (.st 13<|.rg<|.go 3<|.kn (.tuple [(i6 x0),(i6 f0)])<|.go 4<|.en<|.rt 1 .no)<|ai hc (show AV.tuple [(i6 x0),(i6 f0)]=gL 2 n x0 f0 x1 f1 from by(unfold gL ly n9;repeat' split)<;>first|rfl|(exfalso;omega))
theorem ad4{M N0 L0 N1 L1:Nat}{n bT n0 cF n1:Int}(mc:Mt [kC k,Af] B)(hc:bg (aW AtR) [(.U G q lg),.int .i64 n]=some (.tuple [.int .i64 x0,.int .i64 f0])):au pg B 270 (Fin pg (az Tryz.f93) fun y _=>y=(gL 3 n x0 f0 x1 f1)) (sF 93 Tryz.f93 [(.agg [(u8<|.ofNat 3),(i6 n),(.U N 0 L)]),(.U M p lm),(.U G q lg)])<|ak ar 270:=by exact wS mc (.st 16<|.rg<|.go 3<|.kn (.tuple [(i6 x0),(i6 f0)])<|.go 4<|.en<|.rt 1 .no)<|ai hc (show AV.tuple [(i6 x0),(i6 f0)]=gL 3 n x0 f0 x1 f1 from by(unfold gL ly n9;repeat' split)<;>first|rfl|(exfalso;omega))
theorem N9{ka:Int}(hk:ka=4\/ka=5\/ka=6){L M:Nat}{n cF:Int}(mc:Mt [kC k,Af] B)(hn:top<=N)(wk:cT FU N (0+(0:Int).toNat*3+0) 3=some [(u8<|bT),(i6 n0),(.U N0 0 L0)])(ju:bg (aW<|qw k) [(.agg [(u8<|bT),(i6 n0),(.U N0 0 L0)]),(.U M p lm),(.U G q lg)]=some (.tuple [.int .i64 x0,.int .i64 f0]))(jb:cT FU N (0+(1:Int).toNat*3+0) 3=some [(u8<|cF),(i6 n1),(.U N1 0 L1)])(jJ:bg (aW<|qw k) [(.agg [(u8<|cF),(i6 n1),(.U N1 0 L1)]),(.U M p lm),(.U G q lg)]=some (.tuple [.int .i64 x1,.int .i64 f1])):au pg B 270 (Fin pg (az Tryz.f93) fun y _=>y=(gL ka n x0 f0 x1 f1)) (sF 93 Tryz.f93 [(.agg [(.int .u8 ka),(i6 n),(.U N 0 2)]),(.U M p lm),(.U G q lg)])<|ak ar 270:=by
 have TT:=(dc (0:Int) 2<|ai hn<|ai wk<|ai ju<|ax (f0≠0) (fun _=>(show AV.tuple [i0,(i6 f0)]=gL ka n x0 f0 x1 f1 from by rcases hk with rfl|rfl|rfl<;>(unfold gL ly n9;repeat' split)<;>first|rfl|(exfalso;omega))) fun _=>(dc (1:Int) 2<|ai hn<|ai jb<|ai jJ<|ax (f1≠0) (fun _=>(show AV.tuple [i0,(i6 f1)]=gL ka n x0 f0 x1 f1 from by rcases hk with rfl|rfl|rfl<;>(unfold gL ly n9;repeat' split)<;>first|rfl|(exfalso;omega))) fun _=>(show AV.tuple [(i6<|n9 ka x0 x1),i0]=gL ka n x0 f0 x1 f1 from by rcases hk with rfl|rfl|rfl<;>(unfold gL ly n9;repeat' split)<;>first|rfl|(exfalso;omega))));rcases hk with rfl|rfl|rfl
 all_goals exact wS mc (.st 32<|.rg<|.go 1<|.fh<|.fj [(u8<|bT),(i6 n0),(.U N0 0 L0)]<|.go 3<|.en<|.st 1<|.rg<|.go 3<|.kn (.tuple [(i6 x0),(i6 f0)])<|.go 5<|.en<|.st 2<|.rg<|.go 1<|.fk (.en<|.rt 4 .no)<|.en<|.st 14<|.rg<|.go 1<|.fh<|.fj [(u8<|cF),(i6 n1),(.U N1 0 L1)]<|.go 3<|.en<|.st 1<|.rg<|.go 3<|.kn (.tuple [(i6 x1),(i6 f1)])<|.go 5<|.en<|.st 2<|.rg<|.go 1<|.fk (.en<|.rt 4 .no)<|.en<|.st 12<|.rg<|.go 8<|.il<|.st 3<|.rg<|.go 2<|.go 1<|.go 1<|.en<|.rt 1<|.go 2<|.en<|.rt 1 .no) TT
theorem ad5{L M:Nat}{n cF:Int}(mc:Mt [kC k,Af] B)(hn:top<=N)(wk:cT FU N (0+(0:Int).toNat*3+0) 3=some [(u8<|bT),(i6 n0),(.U N0 0 L0)])(ju:bg (aW<|qw k) [(.agg [(u8<|bT),(i6 n0),(.U N0 0 L0)]),(.U M p lm),(.U G q lg)]=some (.tuple [.int .i64 x0,.int .i64 f0]))(jb:cT FU N (0+(1:Int).toNat*3+0) 3=some [(u8<|cF),(i6 n1),(.U N1 0 L1)])(jJ:bg (aW<|qw k) [(.agg [(u8<|cF),(i6 n1),(.U N1 0 L1)]),(.U M p lm),(.U G q lg)]=some (.tuple [.int .i64 x1,.int .i64 f1])):au pg B 270 (Fin pg (az Tryz.f93) fun y _=>y=(gL 7 n x0 f0 x1 f1)) (sF 93 Tryz.f93 [(.agg [(u8<|.ofNat 7),(i6 n),(.U N 0 2)]),(.U M p lm),(.U G q lg)])<|ak ar 270:=by exact wS mc (.st 32<|.rg<|.go 1<|.fh<|.fj [(u8<|bT),(i6 n0),(.U N0 0 L0)]<|.go 3<|.en<|.st 1<|.rg<|.go 3<|.kn (.tuple [(i6 x0),(i6 f0)])<|.go 5<|.en<|.st 2<|.rg<|.go 1<|.fk (.en<|.rt 4 .no)<|.en<|.st 14<|.rg<|.go 1<|.fh<|.fj [(u8<|cF),(i6 n1),(.U N1 0 L1)]<|.go 3<|.en<|.st 1<|.rg<|.go 3<|.kn (.tuple [(i6 x1),(i6 f1)])<|.go 5<|.en<|.st 2<|.rg<|.go 1<|.fk (.en<|.rt 4 .no)<|.en<|.st 12<|.rg<|.go 8<|.il<|.st 3<|.rg<|.go 2<|.fk (.il<|.rt 9<|.go 1<|.en<|.rt 1<|.go 2<|.en<|.rt 1 .no)<|.il<|.rt 10<|.go 1<|.en<|.rt 1<|.go 2<|.en<|.rt 1 .no)<|dc (0:Int) 2<|ai hn<|ai wk<|ai ju<|ax (f0≠0) (fun _=>(show AV.tuple [i0,(i6 f0)]=gL 7 n x0 f0 x1 f1 from by(unfold gL ly n9;repeat' split)<;>first|rfl|(exfalso;omega))) fun _=>(dc (1:Int) 2<|ai hn<|ai jb<|ai jJ<|ax (f1≠0) (fun _=>(show AV.tuple [i0,(i6 f1)]=gL 7 n x0 f0 x1 f1 from by(unfold gL ly n9;repeat' split)<;>first|rfl|(exfalso;omega))) fun _=>(ax (x0<x1) (fun _=>(show AV.tuple [(i6<|.ofNat 1),i0]=gL 7 n x0 f0 x1 f1 from by(unfold gL ly n9;repeat' split)<;>first|rfl|(exfalso;omega))) fun _=>(show AV.tuple [i0,i0]=gL 7 n x0 f0 x1 f1 from by(unfold gL ly n9;repeat' split)<;>first|rfl|(exfalso;omega))))
theorem ad6{L M:Nat}{n cF:Int}(mc:Mt [kC k,Af] B)(hn:top<=N)(wk:cT FU N (0+(0:Int).toNat*3+0) 3=some [(u8<|bT),(i6 n0),(.U N0 0 L0)])(ju:bg (aW<|qw k) [(.agg [(u8<|bT),(i6 n0),(.U N0 0 L0)]),(.U M p lm),(.U G q lg)]=some (.tuple [.int .i64 x0,.int .i64 f0]))(jb:cT FU N (0+(1:Int).toNat*3+0) 3=some [(u8<|cF),(i6 n1),(.U N1 0 L1)])(jJ:bg (aW<|qw k) [(.agg [(u8<|cF),(i6 n1),(.U N1 0 L1)]),(.U M p lm),(.U G q lg)]=some (.tuple [.int .i64 x1,.int .i64 f1])):au pg B 270 (Fin pg (az Tryz.f93) fun y _=>y=(gL 8 n x0 f0 x1 f1)) (sF 93 Tryz.f93 [(.agg [(u8<|.ofNat 8),(i6 n),(.U N 0 2)]),(.U M p lm),(.U G q lg)])<|ak ar 270:=by exact wS mc (.st 32<|.rg<|.go 1<|.fh<|.fj [(u8<|bT),(i6 n0),(.U N0 0 L0)]<|.go 3<|.en<|.st 1<|.rg<|.go 3<|.kn (.tuple [(i6 x0),(i6 f0)])<|.go 5<|.en<|.st 2<|.rg<|.go 1<|.fk (.en<|.rt 4 .no)<|.en<|.st 14<|.rg<|.go 1<|.fh<|.fj [(u8<|cF),(i6 n1),(.U N1 0 L1)]<|.go 3<|.en<|.st 1<|.rg<|.go 3<|.kn (.tuple [(i6 x1),(i6 f1)])<|.go 5<|.en<|.st 2<|.rg<|.go 1<|.fk (.en<|.rt 4 .no)<|.en<|.st 12<|.rg<|.go 8<|.il<|.st 3<|.rg<|.go 2<|.fk (.il<|.rt 9<|.go 1<|.en<|.rt 1<|.go 2<|.en<|.rt 1 .no)<|.il<|.rt 10<|.go 1<|.en<|.rt 1<|.go 2<|.en<|.rt 1 .no)<|dc (0:Int) 2<|ai hn<|ai wk<|ai ju<|ax (f0≠0) (fun _=>(show AV.tuple [i0,(i6 f0)]=gL 8 n x0 f0 x1 f1 from by(unfold gL ly n9;repeat' split)<;>first|rfl|(exfalso;omega))) fun _=>(dc (1:Int) 2<|ai hn<|ai jb<|ai jJ<|ax (f1≠0) (fun _=>(show AV.tuple [i0,(i6 f1)]=gL 8 n x0 f0 x1 f1 from by(unfold gL ly n9;repeat' split)<;>first|rfl|(exfalso;omega))) fun _=>(ax (x0=x1) (fun _=>(show AV.tuple [(i6<|.ofNat 1),i0]=gL 8 n x0 f0 x1 f1 from by(unfold gL ly n9;repeat' split)<;>first|rfl|(exfalso;omega))) fun _=>(show AV.tuple [i0,i0]=gL 8 n x0 f0 x1 f1 from by(unfold gL ly n9;repeat' split)<;>first|rfl|(exfalso;omega))))
end fL
end
section
open Go Go.Rn Go.RowKit Go.Proofs
namespace fN
open cv cG cR cW fw eV fL
variable {k:Nat}
theorem ZM{op n:Int}{l:List Ex}(h:eN (k+1) (.mk op n l)=true):(op=1\/(op=2/\0<=n)\/(op=3/\0<=n))\/((op=4\/op=5\/op=6\/op=7\/op=8)/\l.length=2/\eN k (l.getD 0 default)=true/\eN k (l.getD 1 default)=true):=by
 rw[Md] at h;split at h
 ·omega
 split at h
 ·rw[Bool.and_eq_true,Bool.and_eq_true,decide_eq_true_eq] at h;omega
 split at h
 ·rw[Bool.and_eq_true,Bool.and_eq_true,decide_eq_true_eq] at h;omega
 split at h
 ·cases h
 rw[Bool.and_eq_true,Bool.and_eq_true,decide_eq_true_eq] at h;exact .inr ⟨by omega,h.1.1,h.1.2,h.2⟩
theorem Wn{N o L:Nat}{l:List Int}{z:Int}(h:eh bj 1 (.U N o L) l)(hz:0<=z):bg (aW AtR) [.U N o L,.int .i64 z]=some (.tuple [.int .i64 (sk l z).1,.int .i64 (sk l z).2]):=fH (fB AtR.bW ⟨N,o,L,l,z,rfl,h,hz,rfl⟩) (by rw[List.all_cons,h.hi];rfl) rfl
theorem Oa{e:Ex}{M p lm G q lg:Nat}{lo aO:List Int}(h1:eh bj 1 (.U M p lm) lo)(h2:eh bj 1 (.U G q lg) aO)(hw:eN k e=true):
 bg (aW<|qw k) [.agg<|aD e,.U M p lm,.U G q lg]=some (.tuple [.int .i64 (lz k e lo aO).1,.int .i64 (lz k e lo aO).2]):=
 fH (fB qw.bW ⟨e,M,p,lm,G,q,lg,lo,aO,rfl,h1,h2,hw,rfl⟩) (by rw[List.all_cons,List.all_cons,List.all_cons,By,h1.hi,h2.hi];rfl) rfl
theorem abm(hP:bE pg)(h':aU [kC k,Af]){L:bV}(h:aU L):aU<|kC (k+1)::L:=by
 refine ij hP h h' Tryz.func93 fun args v e=>?_;obtain⟨⟨op,n,l⟩,M,p,lm,G,q,lg,lo,aO,rfl,i1,i2,hw,rfl⟩:=gH e;refine⟨aM.1 aX,fun B mc=>?_⟩;rw[←gY,aaq,aD];rcases ZM hw with(rfl|⟨rfl,hn⟩|⟨rfl,hn⟩)|⟨ho,h2,w0,w1⟩
 ·exact ad2 (N0:=0) (L0:=0) (N1:=0) (L1:=0) (bT:=0) (n0:=0) (cF:=0) (n1:=0) (x0:=(lz k (l.getD 0 default) lo aO).1) (f0:=(lz k (l.getD 0 default) lo aO).2) (x1:=(lz k (l.getD 1 default) lo aO).1) (f1:=(lz k (l.getD 1 default) lo aO).2) mc
 ·exact ad3 (N0:=0) (L0:=0) (N1:=0) (L1:=0) (bT:=0) (n0:=0) (cF:=0) (n1:=0) (x1:=0) (f1:=0) mc<|Wn i1 hn
 ·exact ad4 (N0:=0) (L0:=0) (N1:=0) (L1:=0) (bT:=0) (n0:=0) (cF:=0) (n1:=0) (x1:=0) (f1:=0) mc<|Wn i2 hn
 obtain⟨bT,n0,l0,e0⟩:∃a b c,l.getD 0 default=Ex.mk a b c:=by cases l.getD 0 default;exact⟨_,_,_,rfl⟩
 obtain⟨cF,n1,l1,e1⟩:∃a b c,l.getD 1 default=Ex.mk a b c:=by cases l.getD 1 default;exact⟨_,_,_,rfl⟩
 have t0:=yS (l:=l) (i:=0) (a:=l.getD 0 default) (by rw[List.getD_eq_getElem?_getD,List.getElem?_eq_getElem (show 0<l.length by omega)];rfl) (z:=0) rfl;have t1:=yS (l:=l) (i:=1) (a:=l.getD 1 default) (by rw[List.getD_eq_getElem?_getD,List.getElem?_eq_getElem (show 1<l.length by omega)];rfl) (z:=1) rfl;have c0:=Oa i1 i2 w0;have c1:=Oa i1 i2 w1;rw[if_neg ae,if_neg ae,h2];generalize wk:lz k (l.getD 0 default) lo aO=y0 at c0;generalize jb:lz k (l.getD 1 default) lo aO=y1 at c1;rw[e0,aD] at t0 c0;rw[e1,aD] at t1 c1;rcases ho with rfl|rfl|rfl|rfl|rfl
 ·exact N9 (L:=0) (.inl rfl) mc (cr _) t0 c0 t1 c1
 ·exact N9 (L:=0) (.inr<|.inl rfl) mc (cr _) t0 c0 t1 c1
 ·exact N9 (L:=0) (.inr<|.inr rfl) mc (cr _) t0 c0 t1 c1
 ·exact ad5 (L:=0) mc (cr _) t0 c0 t1 c1
 ·exact ad6 (L:=0) mc (cr _) t0 c0 t1 c1
theorem T5(hP:bE pg):∀(k:Nat) {L:bV},aU L->aU (kC k::L)
 |0,L,h=>by refine ij hP h cJ Tryz.func93 fun args v e=>?_;obtain⟨_,_,_,_,_,_,_,_,_,_,_,_,hw,_⟩:=gH e;cases hw
 |k+1,L,h=>abm hP (T5 hP k<|afM hP cJ) h
end fN
end
section
open Go Go.Rn Go.RowKit Go.Proofs
namespace fS
open cv cG cR cW fw eV fL fN
theorem OB{e:Ex}:bg (aW vS) [.agg<|aD e]=some (.bool<|eN 6 e):=fH (fB vS.bW ⟨e,rfl,rfl⟩) rP rfl
def zt(e:Ex)(lo aO:List Int):Int×Int:=if eN 6 e=true then lz 6 e lo aO else(0,4)
def zu(args:List AV)(v:AV):Prop:=∃(e:Ex) (M p lm G q lg:Nat) (lo aO:List Int),args=[.agg<|aD e,.U M p lm,.U G q lg]/\eh bj 1 (.U M p lm) lo/\eh bj 1 (.U G q lg) aO/\v=Ei (zt e lo aO)
theorem zu.bW(args:List AV)(v v':AV)(h:zu args v)(h':zu args v'):v=v':=by obtain⟨e,M,p,lm,G,q,lg,lo,aO,rfl,a1,a2,rfl⟩:=h;obtain⟨e',M',p',lm',G',q',lg',nY,W9,h1,b1,b2,rfl⟩:=h';simp only[List.cons.injEq,AV.agg.injEq,AV.U.injEq,_root_.and_true] at h1;obtain⟨h0,⟨rfl,rfl,rfl⟩,rfl,rfl,rfl⟩:=h1;rw[nw _ _ h0,eh.inj wX a1 b1,eh.inj wX a2 b2]
theorem afN{B:aL}{N L M p lm G q lg:Nat}{op n x u f:Int}(mc:Mt [P3,kC 6] B)(hc:bg (aW vS) [(.agg [(u8<|op),(i6 n),(.U N 0 L)])]=some (.bool<|decide<|x=1))(hd:x=1->bg (aW<|qw 6) [(.agg [(u8<|op),(i6 n),(.U N 0 L)]),(.U M p lm),(.U G q lg)]=some (.tuple [.int .i64 u,.int .i64 f])):au pg B 270 (Fin pg (az Tryz.f75) fun y _=>y=(if x=1 then .tuple [.int .i64 u,.int .i64 f] else .tuple [.int .i64 0,.int .i64 4])) (sF 75 Tryz.f75 [(.agg [(u8<|op),(i6 n),(.U N 0 L)]),(.U M p lm),(.U G q lg)])<|ak ar 270:=by exact wS mc (.st 4<|.rg<|.go 1<|.kp (x=1) inferInstance (.go 1<|.en<|.st 3<|.rg<|.go 3<|.kn (.tuple [(i6 u),(i6 f)])<|.go 4<|.en<|.rt 1 .no)<|.go 1<|.en<|.rt 4 .no)<|ai hc<|ax (x=1) (fun _=>(ai (hd ae) (show AV.tuple [(i6 u),(i6 f)]=(if x=1 then .tuple [.int .i64 u,.int .i64 f] else .tuple [.int .i64 0,.int .i64 4]) from by split<;>first|rfl|(exfalso;omega)))) fun _=>(show AV.tuple [i0,(i6<|.ofNat 4)]=(if x=1 then .tuple [.int .i64 u,.int .i64 f] else .tuple [.int .i64 0,.int .i64 4]) from by split<;>first|rfl|(exfalso;omega))
end fS
end
section
open Go Go.Rn Go.RowKit Go.Proofs
namespace ER
open cv cG cR cW dt
variable {B:aL} {kind:Int} {L:bV}
noncomputable section
def Lt:List<|List Bool:=[[false,false,false,false,false,false],[true,true,true,false,false,false],[true,true,true,false,false,false],[true,false,true,true,false,false],[true,false,true,false,true,true],[true,false,true,false,true,false],[true,false,false,false,false,false],[true,false,false,false,true,true],[true,false,true,false,false,false]]
def p0(kind:Int):List Bool:=Lt.getD kind.toNat [false,false,false,false,false,false]
def wx(kind:Int):AV:=.agg<|(p0 kind).map AV.bool
theorem ad7(h:9<=kind):wx kind= .agg [.bool false,.bool false,.bool false,.bool false,.bool false,.bool false]:=by unfold wx p0;rw[List.getD_eq_getElem?_getD,List.getElem?_eq_none (show Lt.length<=kind.toNat by show 9<=kind.toNat;omega)];rfl
theorem aiY{k:Int}(mc:Mt [] B)(h:0<=k/\k<9):au pg B 270 (Fin pg (az Tryz.f82) fun y _=>y=(wx k)) (sF 82 Tryz.f82 [.int .u8 k])<|ak ar 270:=by
 have TT:(AV.int .i64 (IntKind.wrap .i64 k)= .int .i64 k)/\wx k=wx k:=⟨wI k,rfl⟩;let P:Pl:=.st 6<|.rg<|.go 1<|.vl (.int .i64 k)<|.go 1<|.en<|.rt 5 .no;obtain rfl|rfl|rfl|rfl|rfl|rfl|rfl|rfl|rfl:k=0\/k=1\/k=2\/k=3\/k=4\/k=5\/k=6\/k=7\/k=8:=by omega
 all_goals exact wS mc P TT aX
theorem aiZ(mc:Mt [] B)(h0:9<=kind)(h9:kind<256):au pg B 270 (Fin pg (az Tryz.f82) fun y _=>y=(wx kind)) (sF 82 Tryz.f82 [(u8<|kind)])<|ak ar 270:=by exact wS mc (.st 6<|.rg<|.go 1<|.vl (.int .i64 kind)<|.fk (.en<|.rt 4 .no)<|.no)<|ai (wI kind)<|ax (kind>=9) (fun _=>(show(.agg [(.bool false),(.bool false),(.bool false),(.bool false),(.bool false),(.bool false)])=wx kind from(ad7 h0).symm)) bF
theorem afO{N L:Nat}{op n:Int}(mc:Mt [] B):au pg B 270 (Fin pg (az Tryz.f85) fun y _=>y=(.bool<|decide<|op=0/\n=0/\L=0)) (sF 85 Tryz.f85 [(.agg [(u8<|op),(i6 n),(.U N 0 L)])])<|ak ar 270:=by exact wS mc (.st 3<|.rg<|.go 2<|.fk (.go 3<|.fk (.go 5<|.fk (.go 2<|.en<|.rt 1 .no)<|.go 2<|.en<|.rt 1 .no)<|.go 8<|.en<|.rt 1 .no)<|.go 12<|.en<|.rt 1 .no)<|ax (op=0) (fun _=>(ax (n=0) (fun _=>(ax ((L:Int)=0) (fun _=>(show AV.bool true= .bool (decide<|op=0/\n=0/\L=0) from by rw[decide_eq_true ae])) fun _=>(show AV.bool false= .bool (decide<|op=0/\n=0/\L=0) from by rw[decide_eq_false ae]))) fun _=>(show AV.bool false= .bool (decide<|op=0/\n=0/\L=0) from by rw[decide_eq_false ae]))) fun _=>(show AV.bool false= .bool (decide<|op=0/\n=0/\L=0) from by rw[decide_eq_false ae])
def km(args:List AV)(v:AV):Prop:=∃kind:Int,args=[.int .u8 kind]/\0<=kind/\kind<256/\v=wx kind
theorem km.bW(args:List AV)(v v':AV)(h:km args v)(h':km args v'):v=v':=by obtain⟨x,rfl,_,_,rfl⟩:=h;obtain⟨x',h1,_,_,rfl⟩:=h';simp only[List.cons.injEq,AV.int.injEq,true_and,_root_.and_true] at h1;rw[h1]
def wy:FuncId×KE:=(82,.val<|aW km)
theorem afP(hP:bE pg)(h:aU L):aU<|wy::L:=by
 refine ij hP h cJ Tryz.func82 fun args v e=>?_;obtain⟨kind,rfl,h0,h1,rfl⟩:=gH e;refine⟨aM.1 aX,fun B mc=>?_⟩;rw[←gY];by_cases h9:9<=kind
 ·exact aiZ mc h9 h1
 exact aiY mc ⟨h0,by omega⟩
def DV(e:Ex):Prop:=e.op=0/\e.n=0/\e.args.length=0
instance {e:Ex}:Decidable<|DV e:=by unfold DV;exact inferInstance
def m8(args:List AV)(v:AV):Prop:=∃e:Ex,args=[.agg<|aD e]/\v= .bool (decide<|DV e)
theorem m8.bW(args:List AV)(v v':AV)(h:m8 args v)(h':m8 args v'):v=v':=by obtain⟨e,rfl,rfl⟩:=h;obtain⟨e',h1,rfl⟩:=h';simp only[List.cons.injEq,AV.agg.injEq,_root_.and_true] at h1;rw[nw _ _ h1]
def vC:FuncId×KE:=(85,.val<|aW m8)
theorem acD(hP:bE pg)(h:aU L):aU<|vC::L:=by refine ij hP h cJ Tryz.func85 fun args v e=>?_;obtain⟨⟨op,n,l⟩,rfl,rfl⟩:=gH e;refine⟨aM.1 aX,fun B mc=>?_⟩;rw[←gY,aD];exact afO mc
end
end ER
end
section
open Go Go.Rn Go.RowKit Go.Proofs
namespace eH
open cv cG cR cW dt
variable {k N L N0 L0:Nat} {v:AV} {B:aL} {bT n0 i c:Int}
noncomputable section
theorem OC{nx:Nat}{l:List<|Nat×AV}(h:∀r:Nat->Nat,(∀k,top<=k->r k=k)->∀p∈l,bw r p.2 p.2)(hn:Nat.ble 270 nx=true):xX nx l ar:=by intro r r1 r2;exact⟨h r r2,fun p hp x hx=>FG (nx:=270) (fun k hk=>r1 k<|Nat.lt_of_lt_of_le hk<|aM.1 hn) cH p hp x hx⟩
def tO:Nat->Ex->Bool
 |0,_=>false
 |k+1,.mk _ _ args=>args.all<|tO k
def u7(k:Nat)(args:List AV)(v:AV):Prop:=∃e:Ex,args=[.agg<|aD e]/\tO k e=true/\lq k e<=1000000/\v= .int .i64 (lq k e)
theorem u7.bW(args:List AV)(v v':AV)(h:u7 k args v)(h':u7 k args v'):v=v':=by obtain⟨e,rfl,_,_,rfl⟩:=h;obtain⟨e',h1,_,_,rfl⟩:=h';simp only[List.cons.injEq,AV.agg.injEq,_root_.and_true] at h1;rw[nw _ _ h1]
def Bl(k:Nat):FuncId×KE:=(96,.val<|aW<|u7 k)
def Bm(N:Nat)(L:Nat)(m:Int)(i:Int):List<|Nat×AV:=[(3,(i6 m)),(7,(.U N 0 L)),(8,(i6<|(L:Int))),(9,(i6 i))]
def xw(N:Nat)(L:Nat)(m:Int)(i:Int):AF:=⟨96,aQ<|Bm N L m i,(max Tryz.f96.ntmps 1),[.code<|a9 pg 96 [1,1,0,1,0,0],.inLoop<|a9 pg 96 [1,1,0,1,0,0],.inBlock 0,.code<|a9 pg 96 [1,1,1]],[],none⟩
theorem VK(N:Nat)(L:Nat)(m:Int)(i:Int)(hn:top<=N):((Bm N L m i).map (fun q=>some q.2)=(Bm N L m i).map (fun q=>some q.2))/\(ar.map (fun q=>q.2)=ar.map (fun q=>q.2))/\xX 270 (Bm N L m i) ar/\(xw N L m i=xw N L m i/\ak ar 270=ak ar 270):=⟨rfl,rfl,OC (fun r r2 p hp=>by simp only[Bm,List.mem_cons,List.not_mem_nil,or_false] at hp;rcases hp with rfl|rfl|rfl|rfl<;>first|exact bw.int _ _|exact bw.U (r2 _ hn) r2) rfl,rfl,rfl⟩
theorem afQ{m:Int}(mc:Mt [Bl k] B)(hn:top<=N)(hi:0<=i)(hL:L<=1000000)(hm:0<=m/\m<=1000000)(ju:0<=c/\c<=1000000)(hx:cT FU N (0+i.toNat*3+0) 3=some [(u8<|bT),(i6 n0),(.U N0 0 L0)])(hc:bg (aW<|u7 k) [(.agg [(u8<|bT),(i6 n0),(.U N0 0 L0)])]=some (.int .i64 c))(h1:i<(L:Int))(H:au pg B 270 (Fin pg (az Tryz.f96) fun y _=>y=v) (xw N L (m+c)<|i+1)<|ak ar 270):au pg B 270 (Fin pg (az Tryz.f96) fun y _=>y=v) (xw N L m i)<|ak ar 270:=by exact wC mc (C:=(fun fr s1 _=>fr=xw N L (m+c) (i+1)/\s1=ak ar 270)) nr (.st 1<|.rg<|.fk (.en<|.st 6<|.rg<|.fh<|.fj [(u8<|bT),(i6 n0),(.U N0 0 L0)]<|.go 2<|.en<|.rg<|.go 2<|.kn (i6 c)<|.vl (i6<|m+c)<|.go 1<|.en<|.st 1<|.rg<|.vl (i6<|i+1)<|.go 1<|.en<|.st 1<|.bk (Bm N L (m+c)<|i+1) ar 270 .no)<|.no)<|ax (i<(L:Int)) (fun _=>(dc i (L:Int)<|ai hn<|ai hx<|ai hc<|ai (wI<|m+c)<|ai (wI<|i+1)<|VK N L (m+c) (i+1) hn)) bF
theorem afR{m:Int}{N0 L0:Nat}{bT n0 c:Int}(mc:Mt [Bl k] B)(h1:(L:Int)<=i)(hv: .int .i64 m=v):au pg B 270 (Fin pg (az Tryz.f96) fun y _=>y=v) (xw N L m i)<|ak ar 270:=by exact wS mc (.st 1<|.rg<|.fk (.no)<|.en<|.rt 6 .no)<|ax (i<(L:Int)) bF fun _=>(show(i6 m)=v from hv)
theorem afS{op n:Int}(mc:Mt [Bl k] B)(hn:top<=N)(H:au pg B 270 (Fin pg (az Tryz.f96) fun y _=>y=v) (xw N L 1 0)<|ak ar 270):au pg B 270 (Fin pg (az Tryz.f96) fun y _=>y=v) (sF 96 Tryz.f96 [(.agg [(u8<|op),(i6 n),(.U N 0 L)])])<|ak ar 270:=by exact wC mc (C:=(fun fr s1 _=>fr=xw N L 1 0/\s1=ak ar 270)) nr (.st 9<|.bk (Bm N L 1 0) ar 270 .no)<|VK N L 1 0 hn
end
end eH
end
section
open Go Go.Rn Go.RowKit Go.Proofs
namespace BS
open cv cG cR cW eH dt
theorem I6{g:Ex->Int}:∀(l:List Ex) (m:Int),(∀a∈l,1<=g a)->m+(l.length:Nat)<=l.foldl (fun n a=>n+g a) m
 |[],m,_=>by simp only[List.length_nil,List.foldl_nil];omega
 |a::l,m,h=>by have h1:=I6 l (m+g a) fun b hb=>h b<|List.mem_cons_of_mem _ hb;have h2:=h a List.mem_cons_self;rw[List.foldl_cons,List.length_cons];omega
theorem Fq:∀(k:Nat) (e:Ex),tO k e=true->1<=lq k e
 |0,_,h=>by cases h
 |k+1,.mk op n l,h=>by have h1:l.all (tO k)=true:=h;have:=I6 (g:=lq k) l 1 fun a ha=>Fq k a<|List.all_eq_true.1 h1 a ha;show 1<=l.foldl (fun n a=>n+lq k a) 1;omega
theorem aar(hP:bE pg){k:Nat}(h':aU [Bl k]){L:bV}(h:aU L):aU<|Bl (k+1)::L:=by
 refine ij hP h h' Tryz.func96 fun args v e=>?_;obtain⟨⟨op,n,l⟩,rfl,hd,hc,rfl⟩:=gH e;refine⟨aM.1 aX,fun B mc=>?_⟩;rw[←gY,aD];have hd:l.all (tO k)=true:=hd;have hc:l.foldl (fun n a=>n+lq k a) 1<=1000000:=hc;have pos:∀a∈l,1<=lq k a:=fun a ha=>Fq k a<|List.all_eq_true.1 hd a ha;have key:∀(r:List Ex) (i:Nat) (m:Int),l.drop i=r->0<=m->r.foldl (fun n a=>n+lq k a) m<=1000000->
  au pg B 270 (Fin pg (az Tryz.f96) fun y _=>y= .int .i64 (r.foldl (fun n a=>n+lq k a) m)) (xw (nm<|cN l) l.length m i) (ak ar 270):=by
  intro r;induction r with
  |nil=>intro i m hr _ _;have hi:l.length<=i:=List.drop_eq_nil_iff.1 hr;exact afR (k:=k) (N0:=0) (L0:=0) (bT:=0) (n0:=0) (c:=0) mc ae rfl
  |cons a r ih=>
   intro i m hr h0 h1;have hl:i<l.length:=by
    by_cases q:i<l.length
    ·exact q
    ·rw[List.drop_of_length_le ae] at hr;cases hr
   have ha:l[i]? =some a:=by have:=congrArg (fun q=>q[0]?) hr;simp only[List.getElem?_drop,List.getElem?_cons_zero,Nat.add_zero] at this;exact this
   have hm:a∈l:=List.mem_of_getElem? ha;have lF:l.drop (i+1)=r:=by have:=congrArg (List.drop 1) hr;rw[List.drop_drop] at this;exact this
   have ai0:∀b∈r,b∈l:=fun b hb=>List.mem_of_mem_drop (i:=i) (by rw[hr];exact List.mem_cons_of_mem _ hb);have h2:=I6 (g:=lq k) r (m+lq k a) fun b hb=>pos b<|ai0 b hb;have h3:=pos a hm;have h4:=I6 (g:=lq k) l 1 pos;rw[List.foldl_cons] at h1 ⊢;obtain⟨bT,n0,l0⟩:=a;have hx:=yS ha (z:=(i:Int)) ae;have bI:=fH (fB u7.bW ⟨.mk bT n0 l0,rfl,List.all_eq_true.1 hd _ hm,by omega,rfl⟩:aW (u7 k) [.agg<|aD<|.mk bT n0 l0]=_) rP rfl;rw[aD] at hx bI;exact afQ (k:=k) mc (cr _) ae ae ae ae hx bI ae<|ih (i+1) (m+lq k (.mk bT n0 l0)) lF ae h1
 exact afS mc (cr _)<|key l 0 1 (List.drop_zero) ae hc
theorem Tg(hP:bE pg):∀(k:Nat) {L:bV},aU L->aU (Bl k::L)
 |0,L,h=>by refine ij hP h cJ Tryz.func96 fun args v e=>?_;obtain⟨_,_,hd,_⟩:=gH e;cases hd
 |k+1,L,h=>aar hP (Tg hP k cJ) h
end BS
end
section
open Go Go.Rn Go.RowKit Go.Proofs
namespace uA
open cv cG cR cW dt eH BS
def mj(k:Nat)(e:Ex):Int:=if e.op=0 then 0 else lq k e
def zd(k:Nat)(args:List AV)(v:AV):Prop:=∃e:Ex,args=[.agg<|aD e]/\tO k e=true/\lq k e<=1000000/\v= .int .i64 (mj k e)
theorem zd.bW{k:Nat}(args:List AV)(v v':AV)(h:zd k args v)(h':zd k args v'):v=v':=by obtain⟨e,rfl,_,_,rfl⟩:=h;obtain⟨e',h1,_,_,rfl⟩:=h';simp only[List.cons.injEq,AV.agg.injEq,_root_.and_true] at h1;rw[nw _ _ h1]
noncomputable def pt(k:Nat):FuncId×KE:=(79,.val<|aW<|zd k)
theorem ad8{B:aL}{k N L:Nat}{op n c:Int}(mc:Mt [Bl k] B)(hc:bg (aW<|u7 k) [(.agg [(u8<|op),(i6 n),(.U N 0 L)])]=some (.int .i64 c)):au pg B 270 (Fin pg (az Tryz.f79) fun y _=>y=(i6 (if op=0 then 0 else c))) (sF 79 Tryz.f79 [(.agg [(u8<|op),(i6 n),(.U N 0 L)])])<|ak ar 270:=by exact wS mc (.st 4<|.rg<|.go 2<|.fk (.en<|.rt 4 .no)<|.en<|.st 3<|.rg<|.go 1<|.kn (i6 c)<|.go 1<|.en<|.rt 1 .no)<|ax (op=0) (fun _=>(show(i0:AV)= .int .i64 (if op=0 then 0 else c) from by split<;>first|rfl|(exfalso;omega))) fun _=>(ai hc (show((i6 c):AV)= .int .i64 (if op=0 then 0 else c) from by split<;>first|rfl|(exfalso;omega)))
theorem Th(hP:bE pg)(k:Nat){L:bV}(h:aU L):aU<|pt k::L:=by refine ij hP h (Tg hP k cJ) Tryz.func79 fun args v e=>?_;obtain⟨⟨op,n,l⟩,rfl,hd,hc,rfl⟩:=gH e;refine⟨aM.1 aX,fun B mc=>?_⟩;rw[←gY];have bI:=fH (fB u7.bW ⟨.mk op n l,rfl,hd,hc,rfl⟩:aW (u7 k) [.agg<|aD<|.mk op n l]=_) rP rfl;rw[aD] at bI ⊢;exact ad8 mc bI
end uA
end
section
open Go Go.Rn Go.RowKit Go.Proofs
namespace fy
open cv cG cR cW dt eH BS
variable {k N L:Nat} {v:AV} {B:aL} {i:Int}
noncomputable section
def cP(x y:Int):Int:=match decide (y>x) with|true=>y|false=>x
def jx(ld le:Nat)(m cd ce:Int):Int:=if 0<le then cP (if 0<ld then cP m cd else m) ce else if 0<ld then cP m cd else m
def cn:St->List St| .mk _ _ _ _ b _=>b
def cj:St->List St| .mk _ _ _ _ _ b=>b
def fp:Nat->List St->Int
 |0,_=>0
 |k+1,l=>l.foldl (fun m s=>jx (cn s).length (cj s).length m (fp k<|cn s)<|fp k<|cj s) 0+1
def rF:Nat->List St->Bool
 |0,_=>false
 |k+1,l=>decide (l.length<=1000000)&&l.all fun s=>((cn s).isEmpty||rF k (cn s))&&((cj s).isEmpty||rF k (cj s))
def tw(k:Nat)(args:List AV)(v:AV):Prop:=∃l:List St,args=[.U (nm<|bA l) 0 l.length]/\rF k l=true/\k<=100/\v= .int .i64 (fp k l)
theorem tw.bW(args:List AV)(v v':AV)(h:tw k args v)(h':tw k args v'):v=v':=by obtain⟨l,rfl,_,_,rfl⟩:=h;obtain⟨l',h1,_,_,rfl⟩:=h';simp only[List.cons.injEq,AV.U.injEq,_root_.and_true,true_and] at h1;rw[sN _ _<|ti (lL l) (lL l') h1.1]
def jC(k:Nat):FuncId×KE:=(60,.val<|aW<|tw k)
def u9(N L:Nat)(m i:Int):List<|Nat×AV:=[(3,(i6 m)),(6,(.U N 0 L)),(7,(i6<|(L:Int))),(8,(i6 i))]
def xy(N L:Nat)(m i:Int):AF:=⟨60,aQ<|u9 N L m i,(max Tryz.f60.ntmps 1),[.code<|a9 pg 60 [1,1,0,1,0,0],.inLoop<|a9 pg 60 [1,1,0,1,0,0],.inBlock 0,.code<|a9 pg 60 [1,1,1]],[],none⟩
theorem F7(N L:Nat)(m i:Int)(hn:top<=N){M:Int}(e:m=M):((u9 N L m i).map (fun q=>some q.2)=(u9 N L m i).map (fun q=>some q.2))/\(ar.map (fun q=>q.2)=ar.map (fun q=>q.2))/\xX 270 (u9 N L m i) ar/\(xy N L m i=xy N L M i/\ak ar 270=ak ar 270):=⟨rfl,rfl,OC (fun r r2 p hp=>by simp only[u9,List.mem_cons,List.not_mem_nil,or_false] at hp;rcases hp with rfl|rfl|rfl|rfl<;>first|exact bw.int _ _|exact bw.U (r2 _ hn) r2) rfl,by rw[e],rfl⟩
theorem afT{m:Int}{Na La Nb Lb Nd ld Ne le:Nat}{kd to oa na ob nb cd ce:Int}(mc:Mt [jC k] B)(hn:top<=N)(hi:0<=i)(hL:L<=1000000)(hx:cT FU N (0+i.toNat*10+0) 10=some [(u8<|kd),(i6 to),(u8<|oa),(i6 na),(.U Na 0 La),(u8<|ob),(i6 nb),(.U Nb 0 Lb),(.U Nd 0 ld),(.U Ne 0 le)])(hd:0<ld->bg (aW<|tw k) [(.U Nd 0 ld)]=some (.int .i64 cd))(he:0<le->bg (aW<|tw k) [(.U Ne 0 le)]=some (.int .i64 ce))(h1:i<(L:Int))(H:au pg B 270 (Fin pg (az Tryz.f60) fun y _=>y=v) (xy N L (jx ld le m cd ce)<|i+1)<|ak ar 270):au pg B 270 (Fin pg (az Tryz.f60) fun y _=>y=v) (xy N L m i)<|ak ar 270:=by exact wC mc (C:=(fun fr s1 _=>fr=xy N L (jx ld le m cd ce) (i+1)/\s1=ak ar 270)) nr (.st 1<|.rg<|.fk (.en<|.st 6<|.rg<|.fh<|.fj [(u8<|kd),(i6 to),(u8<|oa),(i6 na),(.U Na 0 La),(u8<|ob),(i6 nb),(.U Nb 0 Lb),(.U Nd 0 ld),(.U Ne 0 le)]<|.go 2<|.en<|.st 2<|.rg<|.go 3<|.fk (.en<|.st 1<|.rg<|.go 3<|.kn (i6 cd)<|.vl (i6<|(cP m cd))<|.go 1<|.en<|.st 1<|.rg<|.go 3<|.fk (.en<|.st 1<|.rg<|.go 3<|.kn (i6 ce)<|.vl (i6<|(cP (cP m cd) ce))<|.go 1<|.en<|.st 1<|.rg<|.vl (i6<|i+1)<|.go 1<|.en<|.st 1<|.bk (u9 N L (cP (cP m cd) ce)<|i+1) ar 270 .no)<|.en<|.st 3<|.rg<|.vl (i6<|i+1)<|.go 1<|.en<|.st 1<|.bk (u9 N L (cP m cd)<|i+1) ar 270 .no)<|.en<|.st 3<|.rg<|.go 3<|.fk (.en<|.st 1<|.rg<|.go 3<|.kn (i6 ce)<|.vl (i6<|(cP m ce))<|.go 1<|.en<|.st 1<|.rg<|.vl (i6<|i+1)<|.go 1<|.en<|.st 1<|.bk (u9 N L (cP m ce)<|i+1) ar 270 .no)<|.en<|.st 3<|.rg<|.vl (i6<|i+1)<|.go 1<|.en<|.st 1<|.bk (u9 N L m<|i+1) ar 270 .no)<|.no)<|ax (i<(L:Int)) (fun _=>(dc i (L:Int)<|ai hn<|ai hx<|ax ((ld:Int)>0) (fun _=>(ai (hd ae)<|ai (congrArg (AV.int .i64) (show(match decide (cd>m) with|true=>cd|false=>m)=cP m cd from rfl))<|ax ((le:Int)>0) (fun _=>(ai (he ae)<|ai (congrArg (AV.int .i64) (show(match decide (ce>(cP m cd)) with|true=>ce|false=>(cP m cd))=cP (cP m cd) ce from rfl))<|ai (wI<|i+1)<|F7 N L (cP (cP m cd) ce) (i+1) hn (show(cP (cP m cd) ce)=jx ld le m cd ce from by(unfold jx;repeat' split)<;>first|rfl|(exfalso;omega)))) fun _=>(ai (wI<|i+1)<|F7 N L (cP m cd) (i+1) hn (show(cP m cd)=jx ld le m cd ce from by(unfold jx;repeat' split)<;>first|rfl|(exfalso;omega))))) fun _=>(ax ((le:Int)>0) (fun _=>(ai (he ae)<|ai (congrArg (AV.int .i64) (show(match decide (ce>m) with|true=>ce|false=>m)=cP m ce from rfl))<|ai (wI<|i+1)<|F7 N L (cP m ce) (i+1) hn (show(cP m ce)=jx ld le m cd ce from by(unfold jx;repeat' split)<;>first|rfl|(exfalso;omega)))) fun _=>(ai (wI<|i+1)<|F7 N L m (i+1) hn (show m=jx ld le m cd ce from by(unfold jx;repeat' split)<;>first|rfl|(exfalso;omega)))))) bF
theorem afU{m:Int}(mc:Mt [jC k] B)(hm:0<=m/\m<=1000000)(h1:(L:Int)<=i)(hv: .int .i64 (m+1)=v):au pg B 270 (Fin pg (az Tryz.f60) fun y _=>y=v) (xy N L m i)<|ak ar 270:=by exact wS mc (.st 1<|.rg<|.fk (.no)<|.en<|.st 4<|.rg<|.go 1<|.vl (i6<|m+1)<|.go 1<|.en<|.rt 1 .no)<|ax (i<(L:Int)) bF fun _=>(ai (wI<|m+1) (show((i6<|(m+1)):AV)=v from hv))
theorem afV(mc:Mt [jC k] B)(hn:top<=N)(H:au pg B 270 (Fin pg (az Tryz.f60) fun y _=>y=v) (xy N L 0 0)<|ak ar 270):au pg B 270 (Fin pg (az Tryz.f60) fun y _=>y=v) (sF 60 Tryz.f60 [(.U N 0 L)])<|ak ar 270:=by exact wC mc (C:=(fun fr s1 _=>fr=xy N L 0 0/\s1=ak ar 270)) nr (.st 9<|.bk (u9 N L 0 0) ar 270 .no)<|F7 N L 0 0 hn rfl
end
end fy
end
section
open Go Go.Rn Go.RowKit Go.Proofs
namespace zN
open cv cG cR cW eH dt fy
theorem FH{l:List St}{i:Nat}{a:St}(h:l[i]? =some a){z:Int}(hz:z.toNat=i):cT FU (nm<|bA l) (0+z.toNat*10+0) 10=some (aP a):=by rw[uL,hz,Nat.zero_add,Bi mC h 0 10 ae];rw[List.drop_zero,List.take_of_length_le (by rw[mC.len];omega)]
theorem FQ{x y b:Int}(h1:0<=x/\x<=b)(h2:0<=y/\y<=b):0<=cP x y/\cP x y<=b:=by unfold cP;split<;>assumption
theorem VL{ld le:Nat}{m cd ce b:Int}(h1:0<=m/\m<=b)(h2:0<=cd/\cd<=b)(h3:0<=ce/\ce<=b):0<=jx ld le m cd ce/\jx ld le m cd ce<=b:=by
 have h4:=FQ h1 h2;unfold jx;split
 ·split
  ·exact FQ h4 h3
  ·exact FQ h1 h3
 ·split
  ·exact h4
  ·exact h1
theorem Ob{b:Int}{f:Int->St->Int}(hf:∀m s,0<=m/\m<=b->0<=f m s/\f m s<=b):∀(l:List St) (m:Int),0<=m/\m<=b->0<=l.foldl f m/\l.foldl f m<=b
 |[],_,h=>h
 |s::l,m,h=>by rw[List.foldl_cons];exact Ob hf l _<|hf m s h
theorem IK:∀(k:Nat) (l:List St),0<=fp k l/\fp k l<=k
 |0,_=>⟨Int.le_refl _,Int.le_refl _⟩
 |k+1,l=>by have:=Ob (b:=k) (f:=fun m s=>jx (cn s).length (cj s).length m (fp k<|cn s)<|fp k<|cj s) (fun m s h=>VL h (IK k _)<|IK k _) l 0 ae;show 0<=l.foldl (fun m s=>jx (cn s).length (cj s).length m (fp k<|cn s)<|fp k<|cj s) 0+1/\l.foldl (fun m s=>jx (cn s).length (cj s).length m (fp k<|cn s)<|fp k<|cj s) 0+1<=_;omega
theorem afW{l:List St}{b:Bool}(h:(l.isEmpty||b)=true)(hl:0<l.length):b=true:=by
 cases l with
 |nil=>simp only[List.length_nil] at hl;omega
 |cons _ _=>exact h
theorem aas(hP:bE pg){k:Nat}(h':aU [jC k]){L:bV}(h:aU L):aU<|jC (k+1)::L:=by
 refine ij hP h h' Tryz.func60 fun args v e=>?_;obtain⟨l,rfl,hd,hk,rfl⟩:=gH e;refine⟨aM.1 aX,fun B mc=>?_⟩;rw[←gY];have hd:(decide (l.length<=1000000)&&l.all fun s=>((cn s).isEmpty||rF k (cn s))&&((cj s).isEmpty||rF k (cj s)))=true:=hd;rw[Bool.and_eq_true,decide_eq_true_eq,List.all_eq_true] at hd;obtain⟨hlen,hd⟩:=hd;have use:∀b:List St,(b.isEmpty||rF k b)=true->0<b.length->bg (aW<|tw k) [.U (nm<|bA b) 0 b.length]=some (i6<|fp k b):=fun b h1 h2=>fH (fB tw.bW ⟨b,rfl,afW h1 h2,by omega,rfl⟩) W5 rfl;have key:∀(r:List St) (i:Nat) (m:Int),l.drop i=r->0<=m/\m<=k->
  au pg B 270 (Fin pg (az Tryz.f60) fun y _=>y= .int .i64 (r.foldl (fun m s=>jx (cn s).length (cj s).length m (fp k<|cn s)<|fp k<|cj s) m+1)) (xy (nm<|bA l) l.length m i) (ak ar 270):=by
  intro r;induction r with
  |nil=>intro i m hr h0;have hi:l.length<=i:=List.drop_eq_nil_iff.1 hr;exact afU (k:=k) mc ae ae rfl
  |cons a r ih=>
   intro i m hr h0;have hl:i<l.length:=by
    by_cases q:i<l.length
    ·exact q
    ·rw[List.drop_of_length_le ae] at hr;cases hr
   have ha:l[i]? =some a:=by have:=congrArg (fun q=>q[0]?) hr;simp only[List.getElem?_drop,List.getElem?_cons_zero,Nat.add_zero] at this;exact this
   have hm:a∈l:=List.mem_of_getElem? ha;have lF:l.drop (i+1)=r:=by have:=congrArg (List.drop 1) hr;rw[List.drop_drop] at this;exact this
   have Cv:=hd a hm;rw[Bool.and_eq_true] at Cv;have hx:=FH ha (z:=(i:Int)) ae;have tP:=ih (i+1) _ lF<|VL (ld:=(cn a).length) (le:=(cj a).length) h0 (IK k<|cn a)<|IK k<|cj a;have hb:=use _ Cv.1;have he:=use _ Cv.2;obtain⟨kd,to,⟨oa,na,la⟩,⟨ob,nb,lb⟩,bd,el⟩:=a;rw[aP,aD,aD] at hx;rw[List.foldl_cons];exact afT (k:=k) mc (cr _) ae hlen hx hb he ae tP
 exact afV mc (cr _)<|key l 0 0 (List.drop_zero) ae
theorem Ti(hP:bE pg):∀(k:Nat) {L:bV},aU L->aU (jC k::L)
 |0,L,h=>by refine ij hP h cJ Tryz.func60 fun args v e=>?_;obtain⟨_,_,hd,_⟩:=gH e;cases hd
 |k+1,L,h=>aas hP (Ti hP k cJ) h
end zN
end
