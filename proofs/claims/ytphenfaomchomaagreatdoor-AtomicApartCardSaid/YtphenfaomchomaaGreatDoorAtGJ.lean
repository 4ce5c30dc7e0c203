import Derived.Test.YtphenfaomchomaaGreatDoorProg
import Derived.Test.YtphenfaomchomaaGreatDoorRnGG
import Derived.KernelRfl
import Derived.Test.YtphenfaomchomaaGreatDoorRnGH
import Derived.Test.YtphenfaomchomaaGreatDoorRnGE
set_option maxRecDepth 100000
set_option maxHeartbeats 8000000
set_option linter.unusedSimpArgs false
set_option linter.unusedVariables false
section
open Go Go.Rn Go.RowKit Go.Proofs
namespace cH
inductive Ex where
 |mk (op n:Int) (args:List Ex)
instance:Inhabited Ex:=⟨.mk 0 0 []⟩
mutual
noncomputable def aB:Ex->List AV
 | .mk op n args=>[.int .u8 op,.int .i64 n,.U (nm<|cK args) 0 args.length]
noncomputable def cK:List Ex->List AV
 |[]=>[]
 |e::l=>aB e++cK l
end
theorem CB:∀l:List Ex,cK l=(l.map aB).flatten
 |[]=>by rw[cK];rfl
 |e::l=>by rw[cK,CB l];rfl
theorem Nj{op n:Int}{args:List Ex}:aB (.mk op n args)=[.int .u8 op,.int .i64 n,aw aB args]:=by rw[aB,CB];rfl
theorem kK:mo 3 aB:=⟨fun⟨_,_,_⟩=>by rw[aB];rfl,fun⟨_,_,_⟩=>by rw[aB];show(true&&(true&&(Nat.ble top (nm _)&&true)))=true;rw[aK.2<|cN _];rfl⟩
theorem Sv(l:List Ex):(cK l).all AV.gh=true:=by rw[CB];exact kK.all l
theorem te{l m:List AV}(h1:l.all AV.gh=true)(h2:m.all AV.gh=true)(h:nm l=nm m):l=m:=by have e:=Dx h1;rw[h,Dx h2] at e;injection e with e;exact e.symm
mutual
theorem ny:∀x y:Ex,aB x=aB y->x=y
 | .mk a b l,.mk c d m,h=>by rw[aB,aB] at h;simp only[List.cons.injEq,AV.int.injEq,AV.U.injEq,true_and,_root_.and_true] at h;obtain⟨h1,h2,h3,_⟩:=h;rw[h1,h2,Sw l m<|te (Sv l) (Sv m) h3]
theorem Sw:∀l m:List Ex,cK l=cK m->l=m
 |[],[],_=>rfl
 |[],⟨_,_,_⟩::m,h=>by rw[cK,cK,aB] at h;cases h
 |⟨_,_,_⟩::l,[],h=>by rw[cK,cK,aB] at h;cases h
 |x::l,y::m,h=>by rw[cK,cK] at h;obtain⟨h1,h2⟩:=List.append_inj h (by rw[kK.len x,kK.len y]);rw[ny x y h1,Sw l m h2]
end
def Ex.op:Ex->Int| .mk o _ _=>o
def Ex.n:Ex->Int| .mk _ n _=>n
def Ex.args:Ex->List Ex| .mk _ _ l=>l
def eP:Nat->Ex->Bool
 |0,_=>false
 |k+1,.mk op n args=>
  if op=1 then args.isEmpty else if op=2 then args.isEmpty&&decide (0<=n)&&decide (n<8) else if op=3 then args.isEmpty&&decide (0<=n)&&decide (n<6)
  else if op<4\/op>8\/n≠0 then false else decide (args.length=2)&&eP k (args.getD 0 default)&&eP k (args.getD 1 default)
theorem L8{k:Nat}{op n:Int}{args:List Ex}:eP (k+1) (.mk op n args)=if op=1 then args.isEmpty else if op=2 then args.isEmpty&&decide (0<=n)&&decide (n<8) else if op=3 then args.isEmpty&&decide (0<=n)&&decide (n<6) else if op<4\/op>8\/n≠0 then false else decide (args.length=2)&&eP k (args.getD 0 default)&&eP k (args.getD 1 default):=rfl
end cH
end
section
open Go Go.Rn Go.RowKit Go.Proofs
namespace dq
open cH
inductive St where
 |mk (kind to:Int) (a b:Ex) (body other:List St)
instance:Inhabited St:=⟨.mk 0 0 default default [] []⟩
mutual
noncomputable def aL:St->List AV
 | .mk kind to a b body other=>[.int .u8 kind,.int .i64 to]++(aB a++(aB b++[.U (nm<|bz body) 0 body.length,.U (nm<|bz other) 0 other.length]))
noncomputable def bz:List St->List AV
 |[]=>[]
 |e::l=>aL e++bz l
end
theorem uN:∀l:List St,bz l=(l.map aL).flatten
 |[]=>by rw[bz];rfl
 |e::l=>by rw[bz,uN l];rfl
theorem wP{kind to:Int}{a b:Ex}{body other:List St}:aL (.mk kind to a b body other)=[.int .u8 kind,.int .i64 to]++(aB a++(aB b++[aw aL body,aw aL other])):=by rw[aL,uN,uN];rfl
theorem mz:mo 10 aL:=⟨fun⟨_,_,a,b,_,_⟩=>by
 rw[aL,List.length_append,List.length_append,List.length_append,kK.len a,kK.len b];rfl,fun⟨_,_,a,b,_,_⟩=>by
 rw[aL,List.all_append,List.all_append,List.all_append,kK.gh a,kK.gh b];show(true&&(true&&true)&&(true&&(true&&(Nat.ble top (nm _)&&(Nat.ble top (nm _)&&true)))))=true;rw[aK.2<|cN _,aK.2<|cN _];rfl⟩
theorem lO(l:List St):(bz l).all AV.gh=true:=by rw[uN];exact mz.all l
mutual
theorem MK:∀x y:St,aL x=aL y->x=y
 | .mk k t a b l m,.mk k' t' a' b' l' m',h=>by rw[aL,aL] at h;obtain⟨h1,h⟩:=List.append_inj h rfl;obtain⟨h2,h⟩:=List.append_inj h (by rw[kK.len,kK.len]);obtain⟨h3,h⟩:=List.append_inj h (by rw[kK.len,kK.len]);simp only[List.cons.injEq,AV.int.injEq,AV.U.injEq,true_and,_root_.and_true] at h1 h;rw[h1.1,h1.2,ny _ _ h2,ny _ _ h3,sD l l'<|te (lO l) (lO l') h.1.1,sD m m'<|te (lO m) (lO m') h.2.1]
theorem sD:∀l m:List St,bz l=bz m->l=m
 |[],[],_=>rfl
 |[],y::m,h=>by have:=congrArg List.length h;rw[bz,bz,List.length_append,mz.len y] at this;simp only[List.length_nil] at this;omega
 |x::l,[],h=>by have:=congrArg List.length h;rw[bz,bz,List.length_append,mz.len x] at this;simp only[List.length_nil] at this;omega
 |x::l,y::m,h=>by rw[bz,bz] at h;obtain⟨h1,h2⟩:=List.append_inj h (by rw[mz.len x,mz.len y]);rw[MK x y h1,sD l m h2]
end
theorem xL(e:St):AV.hi (.agg<|aL e)=true:=by show(aL e).all AV.cP=true;exact List.all_eq_true.2 fun x hx=>CL<|List.all_eq_true.1 (mz.gh e) x hx
def lz:Nat->Ex->Int
 |0,_=>0
 |k+1,.mk _ _ args=>args.foldl (fun n a=>n+lz k a) 1
end dq
end
section
namespace Go.Rn
variable {P:Prop}
theorem dS(h:P:=by first|omega|(simp only[List.length_set,List.length_take,List.length_append,List.length_cons,List.length_nil];omega)):P:=h
theorem bU(h:P:=by as_aux_lemma=>kernel_rfl):P:=h
theorem QL(h:P:=by exact aT (to<0) (fun _=>(show AV.bool false= .bool (decide<|0<=to/\to<8/\to=0/\xa=1/\xb=1/\ld=0/\le=0) from by rw[decide_eq_false ab])) fun _=>(aT (to>=8) (fun _=>(show AV.bool false= .bool (decide<|0<=to/\to<8/\to=0/\xa=1/\xb=1/\ld=0/\le=0) from by rw[decide_eq_false ab])) fun _=>(aT (to≠0) (fun _=>(show AV.bool false= .bool (decide<|0<=to/\to<8/\to=0/\xa=1/\xb=1/\ld=0/\le=0) from by rw[decide_eq_false ab])) fun _=>(ai ha<|aT (xa=1) (fun _=>(ai hb<|aT (xb=1) (fun _=>(aT ((ld:Int)=0) (fun _=>(aT ((le:Int)=0) (fun _=>(show AV.bool true= .bool (decide<|0<=to/\to<8/\to=0/\xa=1/\xb=1/\ld=0/\le=0) from by rw[decide_eq_true ab])) fun _=>(show AV.bool false= .bool (decide<|0<=to/\to<8/\to=0/\xa=1/\xb=1/\ld=0/\le=0) from by rw[decide_eq_false ab]))) fun _=>(show AV.bool false= .bool (decide<|0<=to/\to<8/\to=0/\xa=1/\xb=1/\ld=0/\le=0) from by rw[decide_eq_false ab]))) fun _=>(show AV.bool false= .bool (decide<|0<=to/\to<8/\to=0/\xa=1/\xb=1/\ld=0/\le=0) from by rw[decide_eq_false ab]))) fun _=>(show AV.bool false= .bool (decide<|0<=to/\to<8/\to=0/\xa=1/\xb=1/\ld=0/\le=0) from by rw[decide_eq_false ab]))))):P:=h
theorem o7(h:P:=by exact fun _=>(wq0 (m:=m) (op:=op) (n:=n) (L:=L) (x0:=x0) (x1:=x1) ab)):P:=h
theorem XX(h:P:=by exact aT (to<0) (fun _=>(show AV.bool false= .bool (decide<|0<=to/\to<8/\xa=1/\xb=1/\ld=0/\le=0) from by rw[decide_eq_false ab])) fun _=>(aT (to>=8) (fun _=>(show AV.bool false= .bool (decide<|0<=to/\to<8/\xa=1/\xb=1/\ld=0/\le=0) from by rw[decide_eq_false ab])) fun _=>(ai ha<|aT (xa=1) (fun _=>(ai hb<|aT (xb=1) (fun _=>(aT ((ld:Int)=0) (fun _=>(aT ((le:Int)=0) (fun _=>(show AV.bool true= .bool (decide<|0<=to/\to<8/\xa=1/\xb=1/\ld=0/\le=0) from by rw[decide_eq_true ab])) fun _=>(show AV.bool false= .bool (decide<|0<=to/\to<8/\xa=1/\xb=1/\ld=0/\le=0) from by rw[decide_eq_false ab]))) fun _=>(show AV.bool false= .bool (decide<|0<=to/\to<8/\xa=1/\xb=1/\ld=0/\le=0) from by rw[decide_eq_false ab]))) fun _=>(show AV.bool false= .bool (decide<|0<=to/\to<8/\xa=1/\xb=1/\ld=0/\le=0) from by rw[decide_eq_false ab]))) fun _=>(show AV.bool false= .bool (decide<|0<=to/\to<8/\xa=1/\xb=1/\ld=0/\le=0) from by rw[decide_eq_false ab])))):P:=h
theorem XY(h:P:=by exact aT (to<0) (fun _=>(show AV.bool false= .bool (decide<|0<=to/\to<8/\to=0/\xa=1/\xb=1) from by rw[decide_eq_false ab])) fun _=>(aT (to>=8) (fun _=>(show AV.bool false= .bool (decide<|0<=to/\to<8/\to=0/\xa=1/\xb=1) from by rw[decide_eq_false ab])) fun _=>(aT (to≠0) (fun _=>(show AV.bool false= .bool (decide<|0<=to/\to<8/\to=0/\xa=1/\xb=1) from by rw[decide_eq_false ab])) fun _=>(ai ha<|aT (xa=1) (fun _=>(ai hb<|aT (xb=1) (fun _=>(show AV.bool true= .bool (decide<|0<=to/\to<8/\to=0/\xa=1/\xb=1) from by rw[decide_eq_true ab])) fun _=>(show AV.bool false= .bool (decide<|0<=to/\to<8/\to=0/\xa=1/\xb=1) from by rw[decide_eq_false ab]))) fun _=>(show AV.bool false= .bool (decide<|0<=to/\to<8/\to=0/\xa=1/\xb=1) from by rw[decide_eq_false ab]))))):P:=h
theorem mT(h:P:=by exact fun fr s1 p hC=>by obtain⟨rfl,rfl⟩:=hC;exact H):P:=h
theorem gb(h:P:=by exact fun _=>(oF ab)):P:=h
theorem Lc(h:P:=by exact mN (st:=(fh a n c u fs)) (s:=ah (ae6 a n c u fs kind to op nn N L aE n2 N2 L2 N3 L3 N4 L4) 275) (show(.agg [(u8<|.ofNat 1),i0,i0])=Y from(EI ab ab ab)) bU bU bU):P:=h
theorem XZ(h:P:=by exact dU to (Int.ofNat 8)<|ai (TW (c':=(i6 z)) (show((a.row (.ptr<|some (271,0)) (.slice (some (272,0)) (len) cap)<|i6 a.steps):List AV).length<=top from aK.1 aU) (UI (a.row (.ptr<|some (271,0)) (.slice (some (272,0)) (len) cap)<|i6 a.steps) (k:=2+to.toNat) ab) rfl)<|mN (st:=(⟨⟨(a.pre:List AV).set (2+to.toNat)<|.int .i64 z,len,cap,[.int .i64 a.steps]⟩,u,row⟩:VS)) (s:=ah (VE a len cap to z u row kind op n N L aE n2 N2 L2 N3 L3 N4 L4) 274) (show((.tuple []):AV)= .tuple [] from rfl) ((show(ah (VE a len cap to z u row kind op n N L aE n2 N2 L2 N3 L3 N4 L4) 274).h.get 270=(some<|aD ni<|((a.row (.ptr<|some (271,0)) (.slice (some (272,0)) (len) cap)<|i6 a.steps):List AV).set (2+to.toNat)<|i6 z) from bU).trans<|congrArg some<|UJ (pre:=a.pre) (post:=[.int .i64 a.steps]) (len:=len) (i:=2+to.toNat) (r1:=271) (r2:=272) (cap:=cap) (c:=.int .i64 z) (by show 2+to.toNat<10;omega)) bU bU):P:=h
theorem WU(h:P:=by exact fun _=>(jN [mg,iL,jH,kX,l9] 30 272 (vR nL) (xr op nn N L) (fh a n c u fs) (i6 v) hO hv hA bU<|ai hg<|mN (st:=(fh a n c u fs)) (s:=ah (ak++[(270,some<|.cells 13 (Tr.fill (a.row (.ptr<|some (271,0)) (Jh n c)<|i6 a.steps) 0 .nil) []),(271,(some<|.tok 3 u)),(272,(some<|aD aH fs)),(273,some<|.cells 3 (Tr.fill [(u8<|.ofNat 2),(i6 v),i0] 0 .nil) []),(274,some<|.cells 10 (Tr.fill (tf kind to op nn N L aE n2 N2 L2 N3 L3 N4 L4) 0 .nil) [])]) 275) (show(.agg [(u8<|.ofNat 2),(i6 v),i0])=Y from(E2 ab)) bU bU bU)):P:=h
theorem WV(h:P:=by exact fun _=>(jN [mg,iL,jH,kX,l9] 28 272 (vR jo) (xr op nn N L) (fh a n c u fs) (i6 z) hO hz hA bU<|mN (st:=(fh a n c u fs)) (s:=ah (ak++[(270,some<|.cells 13 (Tr.fill (a.row (.ptr<|some (271,0)) (Jh n c)<|i6 a.steps) 0 .nil) []),(271,(some<|.tok 3 u)),(272,(some<|aD aH fs)),(273,some<|.cells 3 (Tr.fill [(u8<|.ofNat 3),i0,(i6 z)] 0 .nil) []),(274,some<|.cells 10 (Tr.fill (tf kind to op nn N L aE n2 N2 L2 N3 L3 N4 L4) 0 .nil) [])]) 275) (show(.agg [(u8<|.ofNat 3),i0,(i6 z)])=Y from(E8 ab)) bU bU bU)):P:=h
theorem WW(h:P:=by exact fun _=>(dU (0:Int) 2<|ai hn<|ai sf<|ai jr<|aT (x0=1) (fun _=>(dU (1:Int) 2<|ai hn<|ai iZ<|ai jJ<|aT (x1=1) (fun _=>(show AV.bool true= .bool (decide<|¬(op=3/\n>=z)/\x0=1/\x1=1) from by rw[decide_eq_true ab])) fun _=>(show AV.bool false= .bool (decide<|¬(op=3/\n>=z)/\x0=1/\x1=1) from by rw[decide_eq_false ab]))) fun _=>(show AV.bool false= .bool (decide<|¬(op=3/\n>=z)/\x0=1/\x1=1) from by rw[decide_eq_false ab]))):P:=h
theorem WX(h:P:=by exact fun _=>(aT (op<4) o7 fun _=>(aT (op>8) o7 fun _=>(aT (n≠0) o7 fun _=>(aT ((L:Int)≠2) o7 fun _=>(dU (0:Int) (L:Int)<|ai hn<|ai (sf ab)<|ai (wI<|m - 1)<|ai (jr ab ab)<|aT (x0=1) (fun _=>(dU (1:Int) (L:Int)<|ai hn<|ai (iZ ab)<|ai (wI<|m - 1)<|ai (jJ ab ab)<|aT (x1=1) Ko o7)) o7)))))):P:=h
theorem WY(h:P:=by exact fun _=>(mN (st:=(fh a n c u fs)) (s:=ah (ak++[(270,some<|.cells 13 (Tr.fill (a.row (.ptr<|some (271,0)) (Jh n c)<|i6 a.steps) 0 .nil) []),(271,(some<|.tok 3 u)),(272,(some<|aD aH fs)),(273,some<|.cells 3 (Tr.fill [(u8<|.ofNat 4),i0,i0] 0 .nil) []),(274,some<|.cells 10 (Tr.fill (tf kind to op nn N L aE n2 N2 L2 N3 L3 N4 L4) 0 .nil) [])]) 275) (show(.agg [(u8<|.ofNat 4),i0,i0])=Y from(E6 ab ab)) bU bU bU)):P:=h
theorem PW(h:P:=by exact wh LM 40 280 (dJ eL) [] (aP A1.pre m1 (.aq c1 13) A1.steps u1 bt) (aP A2.pre m2 (.aq c2 13) A2.steps u2 bh) k9 sc yr<|Ep 15 2 38 (cv 15 [1,1,1,1,1,1,1,1,1]) A2 m2 (.aq c2 13) u2 bh 280 281 hlen nM):P:=h
theorem BB(h:P:=by exact wI<|(av (fs.take n)<|(((0+n):Nat):Int) - 1).ar+1):P:=h
theorem BC(h:P:=by exact fun fr s1 _ hC=>by obtain⟨rfl,rfl⟩:=hC;exact H):P:=h
theorem WZ(h:P:=by exact ado (show((a.row (.ptr<|some (271,0)) (.slice (some (272,0)) (len) cap)<|i6 a.steps):List AV).length<=top from aK.1 aU) (show((a.row (.ptr<|some (271,0)) (.slice (some (272,0)) (len) cap)<|i6 a.steps):List AV)[10]? =some (.ptr<|some (271,0)) from rfl)):P:=h
theorem BD(h:P:=by exact wI<|(((0+n):Nat):Int) - 1):P:=h
theorem W0(h:P:=by exact fun _=>(aT (kind=2) (fun _=>(jN [mg,iL,jH,kX,l9] 30 272 (vR nL) (xr op nn N L) (fh a n c u fs) (i6 v) hO hv hA bU<|ai hg Lc)) fun _=>Lc)):P:=h
theorem Ko(h:P:=by exact fun _=>(wq1 (m:=m) (op:=op) (n:=n) (L:=L) (x0:=x0) (x1:=x1) ab)):P:=h
theorem PX(h:P:=by simp only[List.length_nil];unfold room;omega):P:=h
theorem PY(h:P:=by simp only[List.length_nil];unfold top;omega):P:=h
theorem BE(h:P:=by exact wI<|a.steps+1):P:=h
theorem W1(h:P:=by exact aT (i<(L:Int)) gb fun _=>(show(.tuple [(i6 m),(.bool false)])=v from hv)):P:=h
theorem gw(h:P:=by first|exact m0.bE|exact mp.bE|exact m1.bE|exact hK|exact hN|exact hB|exact qO|exact pX|exact hv|exact hA|exact lL.bE|exact hE|exact mE.bE):P:=h
theorem ab(h:P:=by omega):P:=h
theorem qP(h:P:=by first|exact m0.bE|exact mp.bE|exact m1.bE|exact hK|exact hN|exact hB|exact qO|exact pX|exact hv|exact hA|exact lL.bE|exact hE|exact mE.bE|exact hW|exact bD|exact hD):P:=h
theorem bW(h:P:=by as_aux_lemma=>kernel_rfl):P:=h
theorem aU(h:P:=by kernel_rfl):P:=h
theorem wj(h:P:=by first|exact m0.bE|exact mp.bE|exact m1.bE|exact hK|exact hN|exact hB|exact qO|exact pX|exact hv|exact hA|exact lL.bE|exact hE|exact mE.bE|exact hD):P:=h
theorem wk(h:P:=by first|exact m0.bE|exact mp.bE|exact m1.bE|exact hK|exact hN|exact hB|exact qO|exact pX|exact hv|exact hA|exact lL.bE|exact hX):P:=h
theorem yy(h:P:=by first|exact m0.bE|exact mp.bE|exact m1.bE|exact hK|exact hN|exact hB|exact qO|exact pX|exact hv|exact hA):P:=h
theorem eH(h:P:=by unfold top;omega):P:=h
theorem Ca(h:P:=by first|exact m0.bE|exact mp.bE|exact m1.bE|exact hK|exact hN|exact hB|exact qO|exact pX|exact hv|exact hA|exact X0):P:=h
theorem DU(h:P:=by first|omega|(simp only[List.length_set,List.length_take,List.length_append,List.length_cons,List.length_nil];omega)):P:=h
theorem zF(h:P:=by simp only[reduceCtorEq,true_or,false_or,true_and,_root_.and_true];omega):P:=h
theorem zG(h:P:=by have:=m0.len;have:top=549755813888:=rfl;omega):P:=h
theorem rM(h:P:=by rw[List.all_cons,Bn];rfl):P:=h
theorem qG(h:P:=by rw[t.n];omega):P:=h
theorem W2(h:P:=by rw[List.all_cons,show AV.hi (.U (nm<|bz b) 0 b.length)=true from aK.2<|cN _];rfl):P:=h
theorem Gx(h:P:=by rw[List.reverse_reverse];exact d2.eq):P:=h
theorem Gy(h:P:=by rw[List.reverse_reverse];exact d.eq):P:=h
theorem tP(h:P:=by rw[p1];omega):P:=h
theorem nN(h:P:=by cases hp):P:=h
theorem Gz(h:P:=by rw[blt_eq];unfold top;omega):P:=h
theorem PZ(h:P:=by first|exact m0.bE|exact d.run|exact d.ey.bE):P:=h
theorem GA(h:P:=by rw[List.length_cons];omega):P:=h
theorem P0(h:P:=by rw[List.length_cons,List.length_cons];omega):P:=h
end Go.Rn
end
section
open Go Go.Rn Go.RowKit Go.Proofs
namespace eR
open cH dq
def zm(n:Int):List AV:=[.int .i64 n]
theorem Lh:mo 1 zm:=⟨fun _=>rfl,fun _=>rfl⟩
theorem aa4(x y:Int)(h:zm x=zm y):x=y:=by simp only[zm,List.cons.injEq,AV.int.injEq,true_and,_root_.and_true] at h;exact h
def hJ(c:AV):List AV:=[c]
abbrev bf:=List<|List<|Int×Int
def J0(p:Int×Int):AV:=.agg [.int .i64 p.1,.int .i64 p.2]
def bJ(ms:bf):AV:=.agg<|ms.map fun m=>.agg<|m.map J0
theorem aa5(p q:Int×Int)(h:J0 p=J0 q):p=q:=by obtain⟨a,b⟩:=p;obtain⟨c,d⟩:=q;simp only[J0,AV.agg.injEq,List.cons.injEq,AV.int.injEq,true_and,_root_.and_true] at h;rw[h.1,h.2]
theorem sM:∀a b,bJ a=bJ b->a=b:=by
 intro a b h;injection h with h
 refine(List.map_inj_right fun x y e=>?_).1 h;injection e with e
 exact(List.map_inj_right aa5).1 e
def jS(n:Nat):List AV:=(List.range n).map fun i=>.map<|some<|272+i
noncomputable def qo:Nat->bf->List (Nat×ae)
 |_,[]=>[]
 |k,m::ms=>(k,bA m)::qo (k+1) ms
noncomputable def W4(n:Nat)(cap:bZ):ae:=aD hJ [.slice (some (271,0)) n cap]
noncomputable def dO(ms:bf)(cap:bZ):List<|Nat×ae:=(270,W4 ms.length cap)::(271,aD hJ<|jS ms.length)::qo 272 ms
def dj(ms:bf):Prop:=(1<=ms.length/\ms.length<=7)/\∀m∈ms,dW m
def oS(n:Nat)(cap:bZ):Prop:=cap= .aq n 1\/(n=1/\cap= .known 1)
theorem HZ:∀{k:Nat} {ms:bf} {p:Nat×ae},p∈qo k ms->k<=p.1/\p.1<k+ms.length/\∃m,p.2=bA m
 |k,[],p,h=>by cases h
 |k,m::ms,p,h=>by
  rcases List.mem_cons.1 h with rfl|h
  ·exact⟨Nat.le_refl _,by rw[List.length_cons];omega,m,rfl⟩
  ·obtain⟨h1,h2,h3⟩:=HZ h;exact⟨by omega,by rw[List.length_cons];omega,h3⟩
theorem Tf:∀{k:Nat} {ms:bf} {i:Nat},i<ms.length->k+i∈(qo k ms).map (·.1)
 |k,[],i,h=>by cases h
 |k,m::ms,0,h=>List.mem_cons_self
 |k,m::ms,i+1,h=>by have:=Tf (k:=k+1) (ms:=ms) (i:=i) (by rw[List.length_cons] at h;omega);rw[show k+(i+1)=k+1+i by omega];exact List.mem_cons_of_mem _ this
structure Fr where
 block:List St
 ar:Int
 turns:Int
 bY:Bool
 kept:List Int
 other:Option<|List St
instance:Inhabited Fr:=⟨⟨[],0,0,false,[],none⟩⟩
noncomputable def z8:Option (List St)->AV
 |none=>.slice none 0<|.known 0
 |some l=>aw aL l
theorem ads(o:Option<|List St):(z8 o).bR=true:=by cases o<;>rfl
theorem afa(o:Option<|List St):(z8 o).cP=true:=by
 cases o with
 |none=>rfl
 |some l=>exact aK.2<|cN _
def eight(l:List Int):List AV:=[.int .i64<|l.getD 0 0,.int .i64<|l.getD 1 0,.int .i64<|l.getD 2 0,.int .i64<|l.getD 3 0,.int .i64<|l.getD 4 0,.int .i64<|l.getD 5 0,.int .i64<|l.getD 6 0,.int .i64<|l.getD 7 0]
noncomputable def aH(f:Fr):List AV:=[aw aL f.block,.int .i64 f.ar,.int .i64 f.turns,.bool f.bY]++(eight f.kept++[z8 f.other])
theorem fB(f:Fr):(aH f).length=13:=rfl
theorem MM(f:Fr):(aH f).all AV.bR=true:=by show(true&&(true&&(true&&(true&&(true&&(true&&(true&&(true&&(true&&(true&&(true&&(true&&((z8 f.other).bR&&true)))))))))))))=true;rw[ads];rfl
theorem TZ(f:Fr):∀c∈aH f,c.cP=true:=fun c hc=>by
 have h:(aH f).all AV.cP=true:=by show((aw aL f.block).cP&&(true&&(true&&(true&&(true&&(true&&(true&&(true&&(true&&(true&&(true&&(true&&((z8 f.other).cP&&true)))))))))))))=true;rw[show(aw aL f.block).cP=true from aK.2<|cN _,afa];rfl
 exact List.all_eq_true.1 h c hc
noncomputable def Li(f:Fr):AV:=.agg [aw aL f.block,.int .i64 f.ar,.int .i64 f.turns,.bool f.bY,.agg<|f.kept.map fun x=>.int .i64 x,z8 f.other]
theorem H4{l m:List St}(h:aw aL l=aw aL m):l=m:=by
 injection h with h _ _
 have h:nm (bz l)=nm (bz m):=by rw[uN,uN];exact h
 exact sD _ _<|te (lO _) (lO _) h
theorem UN{a b:Option<|List St}(h:z8 a=z8 b):a=b:=by
 cases a with
 |none=>cases b with
  |none=>rfl
  |some m=>cases h
 |some l=>cases b with
  |none=>cases h
  |some m=>exact congrArg some<|H4 h
theorem T0{l m:List Int}(h:(l.map fun x=>AV.int .i64 x)=m.map fun x=>.int .i64 x):l=m:=(List.map_inj_right fun x y e=>by injection e).1 h
theorem adt(f g:Fr)(h:Li f=Li g):f=g:=by obtain⟨a1,a2,a3,a4,a5,a6⟩:=f;obtain⟨b1,b2,b3,b4,b5,b6⟩:=g;simp only[Li,AV.agg.injEq,List.cons.injEq,AV.int.injEq,AV.bool.injEq,true_and,_root_.and_true] at h;obtain⟨h1,rfl,rfl,rfl,h5,h6⟩:=h;rw[H4 h1,T0 h5,UN h6]
structure dG where
 vars:Int
 aM:List Int
 l:List Int
 b:bf
 fs:List Fr
 steps:Int
noncomputable def F7(a:dG)(c:Nat):List AV:=[.int .i64 a.vars,aw zm a.aM]++(eight a.l++[.ptr<|some (271,0),.slice (some (272,0)) a.fs.length<|.aq c 13,.int .i64 a.steps])
noncomputable def ep(a:dG):AV:=.agg [.int .i64 a.vars,aw zm a.aM,.agg<|a.l.map fun x=>.int .i64 x,bJ a.b,.agg<|a.fs.map Li,.int .i64 a.steps]
theorem uO:∀a b,ep a=ep b->a=b:=by
 intro a b h;obtain⟨a1,a2,a3,a4,a5,a6⟩:=a;obtain⟨b1,b2,b3,b4,b5,b6⟩:=b;simp only[ep,AV.agg.injEq,List.cons.injEq,AV.int.injEq,true_and,_root_.and_true] at h;obtain⟨rfl,h2,h3,h4,h5,rfl⟩:=h;have e2:a2=b2:=by refine(du.aw Lh a2).inj aa4 ?_;rw[h2];exact du.aw Lh b2
 rw[e2,T0 h3,sM _ _ h4,(List.map_inj_right adt).1 h5]
def xu(a:dG):Prop:=a.l.length=8/\dj a.b/\a.fs.length<=1000/\a.aM.length<=1000/\(1<=a.vars/\a.vars<=32)
noncomputable def gA(a:dG)(bg:List Fr)(c:Nat):List<|Nat×ae:=[(270,aD hJ<|F7 a c),(271,.tok 3<|bJ a.b),(272,aD aH<|a.fs++bg)]
def mF(a:dG)(bg:List Fr)(c:Nat):Prop:=a.fs.length<=c/\(a.fs++bg).length<=1000000/\∀f∈bg,(0<=f.turns/\f.turns<=1000000)/\f.kept.length=8
theorem wZ{n:Nat}(h:n<100000):n<top:=by have:top=549755813888:=rfl;omega
theorem C6(l:List AV):(l.map hJ).flatten=l:=by
 induction l with
 |nil=>rfl
 |cons x l ih=>rw[List.map_cons,List.flatten_cons,ih];rfl
theorem aag{ns:List Nat}{m:List<|Int×Int}:lA ns<|bA m:=fun _ _ _ h=>uR h
theorem afb{ms:bf}{cap:bZ}(h:dj ms):∀p∈dO ms cap,270<=p.1/\p.1<top/\(p.2.own=true\/p.2.kV=true)/\lA ((dO ms cap).map (·.1)) p.2:=by
 intro p hp;have h8:=h.1.2;rcases List.mem_cons.1 hp with rfl|hp
 ·refine⟨Nat.le_refl _,wZ (by show 270<100000;omega),.inl rfl,lA.row ?_ fun c hc=>?_⟩
  ·rw[C6];exact Nat.le_of_lt<|wZ (by show 1<100000;omega)
  ·rw[C6] at hc;rw[List.mem_singleton] at hc;subst hc;exact gz.slice (by simp[dO])
 rcases List.mem_cons.1 hp with rfl|hp
 ·refine⟨by show 270<=271;omega,wZ (by show 271<100000;omega),.inl rfl,lA.row ?_ fun c hc=>?_⟩
  ·rw[C6,jS,List.length_map,List.length_range];exact Nat.le_of_lt<|wZ ab
  ·rw[C6] at hc;obtain⟨i,hi,rfl⟩:=List.mem_map.1 hc;refine gz.map ?_;show 272+i∈270::271::(qo 272 ms).map (·.1);exact List.mem_cons_of_mem _<|List.mem_cons_of_mem _<|Tf<|List.mem_range.1 hi
 ·obtain⟨h1,h2,m,h3⟩:=HZ hp;refine⟨by omega,wZ ab,.inl (by rw[h3];rfl),by rw[h3];exact aag⟩
theorem adu{a:dG}{bg:List Fr}{c:Nat}(h:xu a)(hj:mF a bg c):∀p∈gA a bg c,270<=p.1/\p.1<top/\(p.2.own=true\/p.2.kV=true)/\lA ((gA a bg c).map (·.1)) p.2:=by
 intro p hp;simp only[gA,List.mem_cons,List.not_mem_nil,or_false] at hp;rcases hp with rfl|rfl|rfl
 ·refine⟨Nat.le_refl _,wZ (by show 270<100000;omega),.inl rfl,lA.row ?_ fun c hc=>?_⟩
  ·rw[C6];exact Nat.le_of_lt<|wZ (by show 13<100000;omega)
  ·rw[C6] at hc;simp only[F7,eight,List.cons_append,List.nil_append,List.mem_cons,List.not_mem_nil,or_false] at hc;rcases hc with rfl|rfl|rfl|rfl|rfl|rfl|rfl|rfl|rfl|rfl|rfl|rfl|rfl
   ·exact gz.hi rfl
   ·exact gz.hi<|aK.2<|cN _
   ·exact gz.hi rfl
   ·exact gz.hi rfl
   ·exact gz.hi rfl
   ·exact gz.hi rfl
   ·exact gz.hi rfl
   ·exact gz.hi rfl
   ·exact gz.hi rfl
   ·exact gz.hi rfl
   ·exact gz.ptr (by simp[gA])
   ·exact gz.slice (by simp[gA])
   ·exact gz.hi rfl
 ·exact⟨by show 270<=271;omega,wZ (by show 271<100000;omega),.inr rfl,lA.tok⟩
 ·have h3:=hj.2.1;have ht:top=549755813888:=rfl;refine⟨by show 270<=272;omega,wZ (by show 272<100000;omega),.inl rfl,lA.row ?_ fun c hc=>?_⟩
  ·rw[yO (K:=13) fB];omega
  ·obtain⟨x,hx,hc⟩:=List.mem_flatten.1 hc;obtain⟨f,_,rfl⟩:=List.mem_map.1 hx;exact gz.hi<|TZ f c hc
end eR
end
section
open Go Go.Rn Go.RowKit Go.Proofs
namespace cj
open eR
variable {T A:Prop} {i nv:Nat} {c y v c' Y:AV} {ns:List Nat} {C:x8}
noncomputable abbrev pg:Program:=Tryz.prog
abbrev az(f:Func):List ResultVar:=f.results.toList
noncomputable abbrev cv(g:Nat)(p:List Nat):List Item:=[.code<|aQ Tryz.prog g p]
noncomputable abbrev sF(g:Nat)(f:Func)(args:List AV):AF:=⟨g,dc args,max f.ntmps args.length,[.code<|aQ Tryz.prog g []],[],none⟩
def afc:List<|Option FuncId:=[none,none,none,none,some 121,some 122,some 123,some 124,some 126]
noncomputable section
def SA:List AV:=afc.map IJ
def dH:Tr ae:=(Tr.nil).put 0<|some<|.ro SA.length<|Tr.fill SA 0 .nil
end
def dV:List Nat:=[0]
theorem bI:Tryz.prog.follows .mixedOrders=true:=by kernel_rfl
theorem gT:fL<=270:=aK.1 aU
theorem aa6:fL<=271:=aK.1 aU
theorem ry:270<=top:=aK.1 aU
noncomputable def ak:List<|Nat×Option ae:=dV.map fun n=>(n,dH.get n)
theorem T1:fU ak=dH:=by kernel_rfl
theorem hI:ah ak 270=⟨dH,270,0,[],[]⟩:=by show(⟨fU ak,270,0,[],[]⟩:AS)=_;rw[T1]
theorem lY:∀p∈ak,p.1<top:=fun p hp=>by obtain⟨k,hk,rfl⟩:=List.mem_map.1 hp;exact Md (m:=top) (l:=dV) aU k hk
theorem mr:∀n o,(n,some o)∈ak->dH.get n=some o:=fun n o hm=>by
 obtain⟨k,hk,e⟩:=List.mem_map.1 hm;injection e with e1 e2
 rw[←e1];exact e2
theorem jT(n:Nat)(o:ae)(_:n<top)(h:dH.get n=some o):n∈dV:=by
 rw[←T1] at h;obtain⟨k,hk,e⟩:=List.mem_map.1<|uQ (l:=ak) lY h;injection e with e1 _
 rw[←e1];exact hk
theorem jq:∀n∈dV,n<270:=fun n hn=>Md (m:=270) (l:=dV) aU n hn
def encI(n:Int):List AV:=[.int .i64 n]
theorem eI:mo 1 encI:=⟨fun _=>rfl,fun _=>rfl⟩
theorem sO(x y:Int)(h:encI x=encI y):x=y:=by simp only[encI,List.cons.injEq,AV.int.injEq,true_and,_root_.and_true] at h;exact h
def ni(c:AV):List AV:=[c]
noncomputable abbrev en(L:bO):Env:=yd pg 270 dV dH L 270 true
noncomputable abbrev o8(L:bO):Env:=yd pg 270 dV dH L 271 true
noncomputable abbrev sp(L:bO):Sp:=dt 270 dV dH L
structure zH where
 rv:Int
 NX:Int
 has:List Bool
def BF(a:zH):List AV:=[AV.int .i64 a.rv,AV.int .i64 a.NX]++a.has.map AV.bool
def P3(a:zH):AV:=.agg<|BF a
def Wm(a:zH):Prop:=Pa a.rv/\(1<=a.NX/\a.NX<=32)/\a.has.length=32
theorem alD:∀a b,P3 a=P3 b->a=b:=by
 intro a b h;obtain⟨r,s,l⟩:=a;obtain⟨r',s',l'⟩:=b;injection h with h
 simp only[BF,List.cons_append,List.nil_append,List.cons.injEq,AV.int.injEq,true_and] at h;obtain⟨rfl,rfl,h⟩:=h;have:l=l':=by
  have inj:∀x y:Bool,AV.bool x=AV.bool y->x=y:=fun x y h=>by injection h
  clear r s;induction l generalizing l' with
  |nil=>cases l' with
   |nil=>rfl
   |cons _ _=>cases h
  |cons x l ih=>cases l' with
   |nil=>cases h
   |cons y l'=>simp only[List.map_cons,List.cons.injEq] at h;rw[inj x y h.1,ih l' h.2]
 rw[this]
noncomputable def ah3(a:zH):ae:=aD ni<|BF a
structure Lk where
 owner:Int
 version:Int
deriving Inhabited
def zn(k:Lk):List AV:=[.int .i64 k.owner,.int .i64 k.version]
structure zo where
 vA:List Lk
 bq:Int
 xM:Int
 vN:List Int
def J1(a:zo):AV:=.agg [.int .i64 a.bq,.int .i64 a.xM,.agg<|a.vA.map fun k=>.agg<|zn k,.agg<|a.vN.map fun x=>.int .i64 x]
def Jl(a:zo):Prop:=(1<=a.vA.length/\a.vA.length<=32)/\(1<=a.vN.length/\a.vN.length<=32)/\0<=a.bq/\a.xM<=1099511627776
theorem alA:∀a b,J1 a=J1 b->a=b:=by
 intro a b h;obtain⟨l,c,m,v⟩:=a;obtain⟨l',c',m',v'⟩:=b;injection h with h
 simp only[List.cons.injEq,AV.int.injEq,AV.agg.injEq,true_and,_root_.and_true] at h;obtain⟨rfl,rfl,h1,h2⟩:=h;have e1:l=l':=(List.map_inj_right (fun x y e=>by obtain⟨o,w⟩:=x;obtain⟨o',w'⟩:=y;simp only[zn,AV.agg.injEq,List.cons.injEq,AV.int.injEq,true_and,_root_.and_true] at e;obtain⟨rfl,rfl⟩:=e;rfl)).1 h1;have e2:v=v':=(List.map_inj_right fun x y e=>by injection e).1 h2;rw[e1,e2]
def Pj(nl nv:Nat)(c1 c2:bZ)(bq xM:Int):List AV:=[.slice (some (271,0)) nl c1,.int .i64 bq,.int .i64 xM,.slice (some (272,0)) nv c2]
noncomputable def Pk(nl nv:Nat)(c1 c2:bZ)(bq xM:Int):ae:=aD ni<|Pj nl nv c1 c2 bq xM
noncomputable def F8(a:zo)(c1 c2:bZ):List<|Nat×ae:=[(270,Pk a.vA.length a.vN.length c1 c2 a.bq a.xM),(271,aD zn a.vA),(272,aD encI a.vN)]
inductive XT:TX
 |set (a:zH) (h:Wm a):XT 1 (P3 a) [(270,ah3 a)]
 |heap (a:zo) (h:Jl a) (c1 c2:bZ):XT 2 (J1 a)<|F8 a c1 c2
 |buf (ms:bf) (h:dj ms) (cap:bZ) (hc:oS ms.length cap):XT 3 (bJ ms)<|dO ms cap
 |tT (a:dG) (h:xu a) (bg:List Fr) (c:Nat) (hj:mF a bg c):XT 4 (ep a)<|gA a bg c
theorem DB(l:List AV):(l.map ni).flatten=l:=by
 induction l with
 |nil=>rfl
 |cons x l ih=>rw[List.map_cons,List.flatten_cons,ih];rfl
theorem adv(a:zH):∀c∈BF a,c.cP=true:=fun c hc=>by
 rcases List.mem_append.1 hc with h|h
 ·simp only[List.mem_cons,List.not_mem_nil,or_false] at h;rcases h with rfl|rfl<;>rfl
 ·obtain⟨b,_,rfl⟩:=List.mem_map.1 h;rfl
theorem T2(a:zH)(h:a.has.length=32):(BF a).length=34:=by unfold BF;rw[List.length_append,List.length_map,h];rfl
theorem X7(x:AV):(ni x).length=1:=rfl
theorem ado{l:List AV}(hl:l.length<=top)(hc:l[i]? =some c):cellsOf (some<|aD ni l) i 1=some [c]:=by have:=mD X7 (l:=l) (i:=i) ab hc 0 1 rfl;rwa[Nat.mul_one,Nat.add_zero] at this
theorem adw{l:List AV}(hl:l.length<=top)(hc:l[i]? =some c)(h1:c'.bR=true):xI (some<|aD ni l) i [c']=some (aD ni<|l.set i c'):=by have:=ru X7 (l:=l) (i:=i) (c':=c') (r:=[c']) ab hc 0 rfl rfl (by rw[List.all_cons,h1];rfl);rwa[Nat.mul_one,Nat.add_zero] at this
theorem TW{l:List AV}{z:Nat}(hl:l.length<=top)(hc:l[i+z]? =some c)(h1:c'.bR=true):xI (some<|aD ni l) (i+z*1) [c']=some (aD ni<|l.set (i+z) c'):=by rw[Nat.mul_one];exact adw hl hc h1
theorem alE{a:zH}(h:Wm a):(BF a).length<=top:=by rw[T2 a h.2.2];exact aK.1 aU
abbrev oT(k:Nat)(y:AV)(v:AV)(s:AS)(Y:AV):Prop:=Y=y/\∃L',XT k v L'/\∀m o,(m,o)∈L'->s.h.get m=some o
theorem al1{k:Nat}{o:ae}(hx:XT k v [(270,o)])(e:Y=y)(nx:Nat):oT k y v (ah (ak++[(270,some o)]) nx) Y:=by
 refine⟨e,_,hx,fun m p hm=>?_⟩;simp only[List.mem_cons,List.not_mem_nil,or_false] at hm;injection hm with h1 h2
 subst h1;subst h2;kernel_rfl
abbrev alR(B:aI)(g nt:Nat)(rs:List ResultVar)(k:Nat)(o:ae)(rest:List AV)(y v':AV):Prop:=au pg B 271 (iU XT pg rs k y v') ⟨g,dc<|.ptr (some (270,0))::rest,nt,[.code<|aQ pg g []],[],none⟩<|ah (ak++[(270,some o)]) 271
theorem adx{l:List Lk}:∀c∈(l.map zn).flatten,gz ns c:=fun c hc=>by obtain⟨x,hx,hc⟩:=List.mem_flatten.1 hc;obtain⟨k,_,rfl⟩:=List.mem_map.1 hx;simp only[zn,List.mem_cons,List.not_mem_nil,or_false] at hc;rcases hc with rfl|rfl<;>exact gz.hi rfl
theorem afd{l:List Int}:∀c∈(l.map encI).flatten,gz ns c:=fun c hc=>by obtain⟨x,hx,hc⟩:=List.mem_flatten.1 hc;obtain⟨k,_,rfl⟩:=List.mem_map.1 hx;simp only[encI,List.mem_cons,List.not_mem_nil,or_false] at hc;subst hc;exact gz.hi rfl
theorem za{n:Nat}(h:n<1024):n<top:=by have:top=549755813888:=rfl;omega
theorem yz:yv XT 270:=by
 refine⟨fun k v L hx p hp=>?_,fun k v L hx=>?_⟩
 ·cases hx with
  |set a h=>
   simp only[List.mem_cons,List.not_mem_nil,or_false] at hp;subst hp;refine⟨Nat.le_refl _,aK.1 aU,.inl rfl,lA.row ?_ fun c hc=>?_⟩
   ·rw[DB,T2 a h.2.2];exact aK.1 aU
   ·rw[DB] at hc;exact gz.hi<|adv a c hc
  |heap a h c1 c2=>
   simp only[F8,List.mem_cons,List.not_mem_nil,or_false] at hp;have h1:=h.1.2;have h2:=h.2.1.2;rcases hp with rfl|rfl|rfl
   ·refine⟨Nat.le_refl _,aK.1 aU,.inl rfl,lA.row ?_ fun c hc=>?_⟩
    ·rw[DB];exact Nat.le_of_lt<|za (by show 4<1024;omega)
    ·rw[DB] at hc;simp only[Pj,List.mem_cons,List.not_mem_nil,or_false] at hc;rcases hc with rfl|rfl|rfl|rfl
     ·exact gz.slice (by simp[F8])
     ·exact gz.hi rfl
     ·exact gz.hi rfl
     ·exact gz.slice (by simp[F8])
   ·refine⟨by show 270<=271;omega,za (by show 271<1024;omega),.inl rfl,lA.row ?_ adx⟩;rw[yO (K:=2) fun _=>rfl];exact Nat.le_of_lt<|za ab
   ·refine⟨by show 270<=272;omega,za (by show 272<1024;omega),.inl rfl,lA.row ?_ afd⟩;rw[yO (K:=1) fun _=>rfl];exact Nat.le_of_lt<|za ab
  |buf ms h cap hc=>exact afb h p hp
  |tT a h bg c hj=>exact adu h hj p hp
 ·cases hx with
  |set a h=>exact⟨_,List.mem_cons_self⟩
  |heap a h c1 c2=>exact⟨_,List.mem_cons_self⟩
  |buf ms h cap hc=>exact⟨_,List.mem_cons_self⟩
  |tT a h bg c hj=>exact⟨_,List.mem_cons_self⟩
theorem al2{a:zo}{nl:Nat}(c1 c2:bZ)(h:Jl a)(hn:nl=a.vA.length)(hv:nv=a.vN.length)(e:Y=y)(ev:v=J1 a)(nx:Nat):
 oT 2 y v (ah (ak++[(270,some<|Pk nl nv c1 c2 a.bq a.xM),(271,some<|aD zn a.vA),(272,some<|aD encI a.vN)]) nx) Y:=by
 subst hn;subst hv;subst ev;refine⟨e,_,.heap a h c1 c2,fun m p hm=>?_⟩;simp only[F8,List.mem_cons,List.not_mem_nil,or_false] at hm;rcases hm with hm|hm|hm<;>(injection hm with h1 h2;subst h1;subst h2;kernel_rfl)
abbrev alS(B:aI)(g nt:Nat)(rs:List ResultVar)(a:zo)(c1 c2:bZ)(rest:List AV)(y v':AV):Prop:=au pg B 271 (iU XT pg rs 2 y v') ⟨g,dc<|.ptr (some (270,0))::rest,nt,[.code<|aQ pg g []],[],none⟩<|ah (ak++[(270,some<|Pk a.vA.length a.vN.length c1 c2 a.bq a.xM),(271,some<|aD zn a.vA),(272,some<|aD encI a.vN)]) 273
def W5(l:List Lk)(z:Int):Lk:=l.getD z.toNat default
theorem alT{l:List Lk}{z:Int}(h1:0<=z)(h2:z<((l.length:Nat):Int)):l[z.toNat]? =some (W5 l z):=by
 have:z.toNat<l.length:=by omega
 unfold W5;rw[List.getD_eq_getElem?_getD,List.getElem?_eq_getElem this];rfl
def GC(l:List Int)(z:Int):Int:=l.getD z.toNat 0
theorem agq{l:List Int}{z:Int}(h1:0<=z)(h2:z<((l.length:Nat):Int)):l[z.toNat]? =some (GC l z):=by
 have:z.toNat<l.length:=by omega
 unfold GC;rw[List.getD_eq_getElem?_getD,List.getElem?_eq_getElem this];rfl
theorem alB(x:Lk):(zn x).length=2:=rfl
theorem alH{a:zo}(h:Jl a):a.vA.length*2<=top:=by have:=h.1.2;exact Nat.le_of_lt<|za ab
theorem alI{a:zo}(h:Jl a):a.vN.length*1<=top:=by have:=h.2.1.2;exact Nat.le_of_lt<|za ab
theorem alC{nl:Nat}{c1 c2:bZ}{x y:Int}:(Pj nl nv c1 c2 x y).length<=top:=Nat.le_of_lt<|za (by show 4<1024;omega)
abbrev aX(L:bO):Prop:=dT XT 270 pg<|sp L
abbrev Mt(L:bO)(B:aI):Prop:=qE XT pg 270 dV dH L B
theorem ai{B:Prop}(a:A)(b:B):A/\B:=⟨a,b⟩
theorem oF(h:False):False:=h
theorem rX{α:Type}(x:α):x=x:=rfl
theorem mS(l:List<|Nat×AV):l.map (fun q=>some q.2)=l.map (fun q=>some q.2):=rfl
theorem mO(l:List<|Nat×Option ae):l.map (fun q=>q.2)=l.map (fun q=>q.2):=rfl
theorem wI(z:Int)(h: -9223372036854775808<=z/\z<=9223372036854775807:=by omega):AV.int .i64 (IntKind.wrap .i64 z)=AV.int .i64 z:=congrArg (AV.int .i64)<|EO h
theorem ix2(z n:Int)(h1:0<=z)(h2:z<n)(x:A):0<=z/\z<n/\A:=⟨h1,h2,x⟩
theorem dU(z n:Int)(x:A)(h1:0<=z:=by omega)(h2:z<n:=by omega):0<=z/\z<n/\A:=⟨h1,h2,x⟩
abbrev i6(n:Int):AV:=.int .i64 n
abbrev u8(n:Int):AV:=.int .u8 n
abbrev i0:AV:=.int .i64<|.ofNat 0
section
variable {L:bO} {B:aI} (mc:Mt L B) {f nt:Nat} {t:Tr AV} {K:List Item} {s:AS} {rs:List ResultVar} {R:AV->AS->Prop}
include mc
theorem wS(p:Pl)(x:T)(h:T=wp (en L) 900 6 (.fr f nt K t s) p rs (fun v s _=>R v s) (fun _ _ _=>False):=by as_aux_lemma=>kernel_rfl)(h0:Nat.ble 270 s.nx=true:=by as_aux_lemma=>kernel_rfl):au pg B 270 (Fin pg rs R) ⟨f,t,nt,K,[],none⟩ s:=me (E:=en L) eT rfl bI mc.2.2.1 mc.2.2.2 900 p x h h0
theorem Eu(p:Pl)(x:T)(h:T=wp (o8 L) 900 6 (.fr f nt K t s) p rs (fun v s _=>R v s) (fun _ _ _=>False):=by as_aux_lemma=>kernel_rfl)(h0:Nat.ble 271 s.nx=true:=by as_aux_lemma=>kernel_rfl):au pg B 271 (Fin pg rs R) ⟨f,t,nt,K,[],none⟩ s:=me (E:=o8 L) eT rfl bI mc.2.2.1 mc.2.2.2 900 p x h h0
theorem wC(hC:∀fr s p,C fr s p->au pg B 270 (Fin pg rs R) fr s)(p:Pl)(x:T)(h:T=wp (en L) 900 6 (.fr f nt K t s) p rs (fun v s _=>R v s) C:=by as_aux_lemma=>kernel_rfl)(h0:Nat.ble 270 s.nx=true:=by as_aux_lemma=>kernel_rfl):au pg B 270 (Fin pg rs R) ⟨f,t,nt,K,[],none⟩ s:=wp_cut (E:=en L) eT rfl bI mc.2.2.1 mc.2.2.2 gT rfl mc.1 hC 900 p x h h0
theorem Cg(hC:∀fr s p,C fr s p->au pg B 271 (Fin pg rs R) fr s)(p:Pl)(x:T)(h:T=wp (o8 L) 900 6 (.fr f nt K t s) p rs (fun v s _=>R v s) C:=by as_aux_lemma=>kernel_rfl)(h0:Nat.ble 271 s.nx=true:=by as_aux_lemma=>kernel_rfl):au pg B 271 (Fin pg rs R) ⟨f,t,nt,K,[],none⟩ s:=wp_cut (E:=o8 L) eT rfl bI mc.2.2.1 mc.2.2.2 aa6 rfl mc.1 hC 900 p x h h0
end
abbrev Sm(B:aI)(f:Func)(v:AV)(fr:AF)(s:AS):Prop:=au pg B 270 (Fin pg f.results.toList fun y _=>y=v) fr s
theorem gE{L L':bO}{g:Nat}{fn:Func}{val:List AV->Option AV}(hP:bS pg)(h:aX L)(h':aX L')(cm:Tryz.prog.funcs[g]? =some fn)(eV:∀args v,val args=some v->max fn.ntmps args.length<=top/\∀B:aI,Mt L' B->au pg B 270 (Fin pg fn.results.toList fun y _=>y=v) ⟨g,dc args,max fn.ntmps args.length,[.code<|aQ pg g []],[],none⟩ ⟨dH,270,0,[],[]⟩)(cw:fn.body=some (aQ pg g []):=by kernel_rfl)(hn:(fn.name == "runtime.NumGoroutine")=false:=by kernel_rfl):aX<|(g,.val val)::L:=adj hP gT ry jT jq h h' cm cw hn eV
end cj
end
section
open Go Go.Rn Go.RowKit Go.Proofs
namespace cU
open cj cH
variable {x1 x0:Int} {L k:Nat}
def tg(m op n:Int)(L:Nat)(x0 x1:Int):Prop:=1<=m/\((op=1/\L=0)\/(op=2/\L=0/\0<=n/\n<8)\/(op=3/\L=0/\0<=n/\n<6)\/(4<=op/\op<=8/\n=0/\L=2/\x0=1/\x1=1))
instance {m op n:Int} {L:Nat} {x0 x1:Int}:Decidable<|tg m op n L x0 x1:=by unfold tg;exact inferInstance
theorem wq1{m op n:Int}(h:1<=m/\((op=1/\L=0)\/(op=2/\L=0/\0<=n/\n<8)\/(op=3/\L=0/\0<=n/\n<6)\/(4<=op/\op<=8/\n=0/\L=2/\x0=1/\x1=1))):AV.bool true= .bool (decide<|tg m op n L x0 x1):=by rw[decide_eq_true (show tg m op n L x0 x1 from h)]
theorem wq0{m op n:Int}(h:¬(1<=m/\((op=1/\L=0)\/(op=2/\L=0/\0<=n/\n<8)\/(op=3/\L=0/\0<=n/\n<6)\/(4<=op/\op<=8/\n=0/\L=2/\x0=1/\x1=1)))):AV.bool false= .bool (decide<|tg m op n L x0 x1):=by rw[decide_eq_false (show ¬tg m op n L x0 x1 from h)]
def th(k:Nat)(args:List AV)(v:AV):Prop:=∃(e:Ex) (m:Int),args=[.agg<|aB e,.int .i64 m]/\(0<=m/\m<k)/\k<=50/\v= .bool (eP m.toNat e)
theorem th.bM(args:List AV)(v v':AV)(h:th k args v)(h':th k args v'):v=v':=by obtain⟨e,m,rfl,_,_,rfl⟩:=h;obtain⟨e',m',h1,_,_,rfl⟩:=h';simp only[List.cons.injEq,AV.agg.injEq,AV.int.injEq,true_and,_root_.and_true] at h1;rw[ny _ _ h1.1,h1.2]
noncomputable def kW(k:Nat):FuncId×KE:=(82,.val<|aR<|th k)
theorem ady{B:aI}{N N0 L0 N1 L1:Nat}{op n m bQ n0 cz n1:Int}(mc:Mt [kW k] B)(hn:top<=N)(hm:0<=m/\m<100)(sf:L=2->cG FU N (0+(0:Int).toNat*3+0) 3=some [(u8<|bQ),(i6 n0),(.U N0 0 L0)])(jr:L=2->1<=m->bj (aR<|th k) [(.agg [(u8<|bQ),(i6 n0),(.U N0 0 L0)]),(i6<|(m - 1))]=some (.bool<|decide<|x0=1))(iZ:L=2->cG FU N (0+(1:Int).toNat*3+0) 3=some [(u8<|cz),(i6 n1),(.U N1 0 L1)])(jJ:L=2->1<=m->bj (aR<|th k) [(.agg [(u8<|cz),(i6 n1),(.U N1 0 L1)]),(i6<|(m - 1))]=some (.bool<|decide<|x1=1)):au pg B 270 (Fin pg (az Tryz.f82) fun y _=>y=(.bool<|decide<|tg m op n L x0 x1)) (sF 82 Tryz.f82 [(.agg [(u8<|op),(i6 n),(.U N 0 L)]),(i6 m)])<|ah ak 270:=by exact wS mc (.st 3<|.rg<|.go 3<|.fk (.go 1<|.en<|.st 3<|.rg<|.go 1<|.fk (.go 1<|.en<|.rt 4 .no)<|.go 1<|.en<|.st 2<|.rg<|.go 2<|.fk (.go 1<|.en<|.rt 4 .no)<|.go 1<|.en<|.st 2<|.rg<|.go 2<|.fk (.go 1<|.en<|.st 2<|.rg<|.go 4<|.fk (.go 4<|.fk (.go 2<|.en<|.rt 1 .no)<|.go 2<|.en<|.rt 1 .no)<|.go 7<|.en<|.rt 1 .no)<|.go 1<|.en<|.st 2<|.rg<|.go 2<|.fk (.go 1<|.en<|.st 2<|.rg<|.go 4<|.fk (.go 4<|.fk (.go 2<|.en<|.rt 1 .no)<|.go 2<|.en<|.rt 1 .no)<|.go 7<|.en<|.rt 1 .no)<|.go 1<|.en<|.st 2<|.rg<|.go 2<|.fk (.go 17<|.en<|.rt 4 .no)<|.go 3<|.fk (.go 13<|.en<|.rt 4 .no)<|.go 4<|.fk (.go 8<|.en<|.rt 4 .no)<|.go 5<|.fk (.go 2<|.en<|.rt 4 .no)<|.go 2<|.en<|.st 4<|.rg<|.go 2<|.eF<|.eG [(u8<|bQ),(i6 n0),(.U N0 0 L0)]<|.go 1<|.vl (i6<|m - 1)<|.kp (x0=1) inferInstance (.go 3<|.eF<|.eG [(u8<|cz),(i6 n1),(.U N1 0 L1)]<|.go 1<|.vl (i6<|m - 1)<|.kp (x1=1) inferInstance (.go 2<|.en<|.rt 1 .no)<|.go 2<|.en<|.rt 1 .no)<|.go 10<|.en<|.rt 1 .no)<|.go 1<|.en<|.st 3<|.rg<|.go 1<|.fk (.go 1<|.en<|.rt 4 .no)<|.go 1<|.en<|.st 2<|.rg<|.go 2<|.fk (.go 1<|.en<|.rt 4 .no)<|.go 1<|.en<|.st 2<|.rg<|.go 2<|.fk (.go 1<|.en<|.rt 4 .no)<|.go 1<|.en<|.st 2<|.rg<|.go 2<|.fk (.go 1<|.en<|.rt 4 .no)<|.go 1<|.en<|.st 2<|.rg<|.go 2<|.fk (.go 17<|.en<|.rt 4 .no)<|.go 3<|.fk (.go 13<|.en<|.rt 4 .no)<|.go 4<|.fk (.go 8<|.en<|.rt 4 .no)<|.go 5<|.fk (.go 2<|.en<|.rt 4 .no)<|.go 2<|.en<|.st 4<|.rg<|.go 2<|.eF<|.eG [(u8<|bQ),(i6 n0),(.U N0 0 L0)]<|.go 1<|.vl (i6<|m - 1)<|.kp (x0=1) inferInstance (.go 3<|.eF<|.eG [(u8<|cz),(i6 n1),(.U N1 0 L1)]<|.go 1<|.vl (i6<|m - 1)<|.kp (x1=1) inferInstance (.go 2<|.en<|.rt 1 .no)<|.go 2<|.en<|.rt 1 .no)<|.go 10<|.en<|.rt 1 .no)<|aT ((L:Int)=0) (fun _=>(aT (m<1) o7 fun _=>(aT (op=1) Ko fun _=>(aT (op=2) (fun _=>(aT (n>=0) (fun _=>(aT (n<8) Ko o7)) o7)) fun _=>(aT (op=3) (fun _=>(aT (n>=0) (fun _=>(aT (n<6) Ko o7)) o7)) WX))))) fun _=>(aT (m<1) o7 fun _=>(aT (op=1) o7 fun _=>(aT (op=2) o7 fun _=>(aT (op=3) o7 WX))))
end cU
end
section
open Go Go.Rn Go.RowKit Go.Proofs
namespace dm
open cj cH cU
theorem yU{l:List Ex}{i:Nat}{a:Ex}(h:l[i]? =some a){z:Int}(hz:z.toNat=i):cG FU (nm<|cK l) (0+z.toNat*3+0) 3=some (aB a):=by rw[CB,hz,Nat.zero_add,xq kK h 0 3 ab];rw[List.drop_zero,List.take_of_length_le (by rw[kK.len];omega)]
def bit(b:Bool):Int:=if b then 1 else 0
theorem w9(b:Bool):decide (bit b=1)=b:=by cases b<;>rfl
theorem aci{m op n:Int}{l:List Ex}(h0:0<=m):tg m op n l.length (bit<|eP (m - 1).toNat<|l.getD 0 default) (bit<|eP (m - 1).toNat<|l.getD 1 default)↔eP m.toNat (.mk op n l)=true:=by
 by_cases hm:m=0
 ·subst hm;unfold tg;show _↔false=true;constructor
  ·intro h;omega
  ·intro h;cases h
 ·obtain⟨k,hk⟩:∃k,m.toNat=k+1:=⟨m.toNat - 1,by omega⟩;rw[hk,show(m - 1).toNat=k by omega,L8];unfold tg;have b1:∀b:Bool,(bit b=1)↔b=true:=fun b=>by cases b<;>decide
  rw[b1,b1];have e1:l.isEmpty=true↔l.length=0:=by cases l<;>simp
  generalize eP k (l.getD 0 default)=x;generalize eP k (l.getD 1 default)=y;generalize l.isEmpty=q at e1;generalize l.length=L at e1;have x2:(x=true)\/(x=false):=by cases x<;>simp
  have y2:(y=true)\/(y=false):=by cases y<;>simp
  split
  ·rw[e1];omega
  split
  ·rw[Bool.and_eq_true,Bool.and_eq_true,e1,decide_eq_true_eq,decide_eq_true_eq];omega
  split
  ·rw[Bool.and_eq_true,Bool.and_eq_true,e1,decide_eq_true_eq,decide_eq_true_eq];omega
  split
  ·exact⟨fun h=>by omega,fun h=>by cases h⟩
  rw[Bool.and_eq_true,Bool.and_eq_true,decide_eq_true_eq];constructor
  ·intro h;rcases h.2 with h|h|h|h
   ·omega
   ·omega
   ·omega
   ·exact⟨⟨h.2.2.2.1,h.2.2.2.2.1⟩,h.2.2.2.2.2⟩
  ·intro h;exact⟨by omega,.inr<|.inr<|.inr ⟨by omega,by omega,by omega,h.1.1,h.1.2,h.2⟩⟩
theorem Bn(e:Ex):AV.hi (.agg<|aB e)=true:=by show(aB e).all AV.cP=true;exact List.all_eq_true.2 fun x hx=>CL<|List.all_eq_true.1 (kK.gh e) x hx
theorem aah(hP:bS pg){k:Nat}(h':aX [kW k]){L:bO}(h:aX L):aX<|kW (k+1)::L:=by
 refine gE hP h h' Tryz.func82 fun args v e=>?_;obtain⟨⟨op,n,l⟩,m,rfl,hm,hk,rfl⟩:=fS e;refine⟨aK.1 aU,fun B mc=>?_⟩;rw[←hI];obtain⟨bQ,n0,l0,e0⟩:∃a b c,l.getD 0 default=Ex.mk a b c:=by cases l.getD 0 default;exact⟨_,_,_,rfl⟩
 obtain⟨cz,n1,l1,e1⟩:∃a b c,l.getD 1 default=Ex.mk a b c:=by cases l.getD 1 default;exact⟨_,_,_,rfl⟩
 have c:∀x:Ex,1<=m->bj (aR<|th k) [.agg<|aB x,.int .i64<|m - 1]=some (.bool<|decide<|bit (eP (m - 1).toNat x)=1):=fun x h1=>by rw[w9];refine eO (eK th.bM ⟨x,m - 1,rfl,by omega,by omega,rfl⟩) ?_ rfl;rw[List.all_cons,Bn];rfl
 have key:=ady (L:=l.length) (N:=nm<|cK l) (op:=op) (n:=n) (m:=m) (k:=k) mc (cN _) ab
  (x0:=bit<|eP (m - 1).toNat<|l.getD 0 default) (x1:=bit<|eP (m - 1).toNat<|l.getD 1 default)
  (N0:=nm<|cK l0) (L0:=l0.length) (bQ:=bQ) (n0:=n0) (N1:=nm<|cK l1) (L1:=l1.length) (cz:=cz) (n1:=n1)
  (fun _=>by have:=yU (l:=l) (i:=0) (a:=l.getD 0 default) (by rw[List.getD_eq_getElem?_getD,List.getElem?_eq_getElem (show 0<l.length by omega)];rfl) (z:=0) rfl;rw[e0,aB] at this;exact this)
  (fun h2 h1=>by have:=c (l.getD 0 default) h1;rw[e0,aB, ←e0] at this;exact this)
  (fun _=>by have:=yU (l:=l) (i:=1) (a:=l.getD 1 default) (by rw[List.getD_eq_getElem?_getD,List.getElem?_eq_getElem (show 1<l.length by omega)];rfl) (z:=1) rfl;rw[e1,aB] at this;exact this)
  (fun h2 h1=>by have:=c (l.getD 1 default) h1;rw[e1,aB, ←e1] at this;exact this)
 rw[show decide (tg m op n l.length _ _)=eP m.toNat (.mk op n l) from by rw[Bool.eq_iff_iff,decide_eq_true_eq];exact aci hm.1] at key;rw[aB];exact key
theorem Tg(hP:bS pg):∀k,aX [kW k]
 |0=>by refine gE hP de de Tryz.func82 fun args v e=>?_;obtain⟨_,m,_,hm,_⟩:=fS e;omega
 |k+1=>aah hP (Tg hP k) de
end dm
end
section
open Go Go.Rn Go.RowKit Go.Proofs
namespace fY
open cj cH cU dm
variable {x:Int} {B:aI} {N L:Nat}
def tU(x m:Int):AV:=if m<1 then .tuple [.int .i64 0,.int .i64 1] else if Int.tmod x m<0 then .tuple [.int .i64<|Int.tmod x m+m,.int .i64 0] else .tuple [.int .i64<|Int.tmod x m,.int .i64 0]
theorem adz{m:Int}(h:1<=m): - m<Int.tmod x m/\Int.tmod x m<m:=by have h1:=Int.tmod_lt_of_pos x (show 0<m by omega);have h2:=Int.lt_tmod_of_pos x (show 0<m by omega);exact⟨h2,h1⟩
theorem adA{op n:Int}(mc:Mt [kW 7] B)(hc:bj (aR<|th 7) [(.agg [(u8<|op),(i6 n),(.U N 0 L)]),.int .i64 6]=some (.bool<|decide<|x=1)):au pg B 270 (Fin pg (az Tryz.f72) fun y _=>y=(.bool<|decide<|x=1)) (sF 72 Tryz.f72 [(.agg [(u8<|op),(i6 n),(.U N 0 L)])])<|ah ak 270:=by exact wS mc (.st 3<|.rg<|.go 1<|.kp (x=1) inferInstance (.go 1<|.en<|.rt 1 .no)<|.go 1<|.en<|.rt 1 .no)<|ai hc<|aT (x=1) (fun _=>(show AV.bool true= .bool (decide<|x=1) from by rw[decide_eq_true ab])) fun _=>(show AV.bool false= .bool (decide<|x=1) from by rw[decide_eq_false ab])
theorem ah4{o:Nat}{z u:Int}(mc:Mt [] B)(hn:top<=N)(hz:0<=z)(hy:z<(L:Int)->cG FU N (o+z.toNat*1+0) 1=some [.int .i64 u]):au pg B 270 (Fin pg (az Tryz.f83) fun y _=>y=(if z>=(L:Int) then .tuple [.int .i64 0,.int .i64 5] else .tuple [.int .i64 u,.int .i64 0])) (sF 83 Tryz.f83 [(.U N o L),(i6 z)])<|ah ak 270:=by exact wS mc (.st 4<|.rg<|.go 3<|.fk (.en<|.rt 4 .no)<|.en<|.st 3<|.rg<|.go 2<|.eF<|.eG [(i6 u)]<|.go 2<|.en<|.rt 1 .no)<|aT (z>=(L:Int)) (fun _=>(show AV.tuple [i0,(i6<|.ofNat 5)]=(if z>=(L:Int) then .tuple [.int .i64 0,.int .i64 5] else .tuple [.int .i64 u,.int .i64 0]) from by rw[if_pos ab];rfl)) fun _=>(dU z (L:Int)<|ai hn<|ai (hy ab) (show AV.tuple [(i6 u),i0]=(if z>=(L:Int) then .tuple [.int .i64 0,.int .i64 5] else .tuple [.int .i64 u,.int .i64 0]) from by rw[if_neg ab];rfl))
theorem agr{m:Int}(mc:Mt [] B)(hm:m<=1099511627776)(ht:1<=m-> - m<Int.tmod x m):au pg B 270 (Fin pg (az Tryz.f53) fun y _=>y=(tU x m)) (sF 53 Tryz.f53 [(i6 x),(i6 m)])<|ah ak 270:=by exact wS mc (.st 4<|.rg<|.go 1<|.fk (.en<|.rt 4 .no)<|.en<|.st 3<|.rg<|.go 2<|.rm<|.go 1<|.en<|.st 2<|.rg<|.go 1<|.fk (.en<|.st 1<|.rg<|.go 2<|.vl (i6<|(Int.tmod x m)+m)<|.go 1<|.en<|.rt 3 .no)<|.en<|.rt 5 .no)<|aT (m<1) (fun _=>(show AV.tuple [i0,(i6<|.ofNat 1)]=tU x m from by unfold tU;repeat' split<;>first|rfl|omega|(exfalso;omega))) fun _=>(ai (show m≠0 from by omega)<|aT ((Int.tmod x m)<0) (fun _=>(ai (wI<|(Int.tmod x m)+m) (show AV.tuple [(i6<|((Int.tmod x m)+m)),i0]=tU x m from by unfold tU;repeat' split<;>first|rfl|omega|(exfalso;omega)))) fun _=>(show AV.tuple [(i6<|(Int.tmod x m)),i0]=tU x m from by unfold tU;repeat' split<;>first|rfl|omega|(exfalso;omega)))
end fY
end
section
open Go Go.Rn Go.RowKit Go.Proofs
namespace fF
open cj cH cU dm fY
variable {L:bO}
noncomputable section
def vO(args:List AV)(v:AV):Prop:=∃e:Ex,args=[.agg<|aB e]/\v= .bool (eP 6 e)
theorem vO.bM(args:List AV)(v v':AV)(h:vO args v)(h':vO args v'):v=v':=by obtain⟨e,rfl,rfl⟩:=h;obtain⟨e',h1,rfl⟩:=h';simp only[List.cons.injEq,AV.agg.injEq,_root_.and_true] at h1;rw[ny _ _ h1]
def P4:FuncId×KE:=(72,.val<|aR vO)
theorem UO(hP:bS pg)(h:aX L):aX<|P4::L:=by refine gE hP h (Tg hP 7) Tryz.func72 fun args v e=>?_;obtain⟨⟨op,n,l⟩,rfl,rfl⟩:=fS e;refine⟨aK.1 aU,fun B mc=>?_⟩;rw[←hI];have key:=adA (L:=l.length) (N:=nm<|cK l) (op:=op) (n:=n) (x:=bit<|eP 6<|.mk op n l) mc (by rw[w9];have:=eO (eK th.bM ⟨.mk op n l,6,rfl,by omega,by omega,rfl⟩:aR (th 7) [.agg<|aB<|.mk op n l,.int .i64 6]=_) rM rfl;rw[aB] at this;exact this);rw[w9] at key;rw[aB];exact key
def sg(l:List Int)(z:Int):Int×Int:=if z>=(l.length:Int) then(0,5) else(GC l z,0)
def DX(p:Int×Int):AV:=.tuple [.int .i64 p.1,.int .i64 p.2]
def AtR(args:List AV)(v:AV):Prop:=∃(N o L:Nat) (l:List Int) (z:Int),args=[.U N o L,.int .i64 z]/\du encI 1 (.U N o L) l/\0<=z/\v=DX (sg l z)
theorem AtR.bM(args:List AV)(v v':AV)(h:AtR args v)(h':AtR args v'):v=v':=by obtain⟨N,o,L,l,z,rfl,hl,_,rfl⟩:=h;obtain⟨N',o',L',l',z',h1,lf,_,rfl⟩:=h';simp only[List.cons.injEq,AV.U.injEq,AV.int.injEq,true_and,_root_.and_true] at h1;obtain⟨⟨rfl,rfl,rfl⟩,rfl⟩:=h1;rw[du.inj sO hl lf]
def Aa:FuncId×KE:=(83,.val<|aR AtR)
theorem afe(hP:bS pg)(h:aX L):aX<|Aa::L:=by
 refine gE hP h de Tryz.func83 fun args v e=>?_;obtain⟨N,o,len,l,z,rfl,hl,hz,rfl⟩:=fS e;refine⟨aK.1 aU,fun B mc=>?_⟩;rw[←hI];obtain⟨h1,h2,h3⟩:=hl.len;subst h1;have key:=ah4 (u:=GC l z) mc h2 hz (fun cf=>by have:=h3 z.toNat (GC l z)<|agq hz ab;exact this);unfold DX sg;split at key<;>rename_i q
 ·rw[if_pos q];exact key
 ·rw[if_neg q];exact key
def BG(args:List AV)(v:AV):Prop:=∃(x m:Int),args=[.int .i64 x,.int .i64 m]/\m<=1099511627776/\v=tU x m
theorem BG.bM(args:List AV)(v v':AV)(h:BG args v)(h':BG args v'):v=v':=by obtain⟨x,m,rfl,_,rfl⟩:=h;obtain⟨x',m',h1,_,rfl⟩:=h';simp only[List.cons.injEq,AV.int.injEq,true_and,_root_.and_true] at h1;rw[h1.1,h1.2]
def Kr:FuncId×KE:=(53,.val<|aR BG)
theorem adB(hP:bS pg)(h:aX L):aX<|Kr::L:=by refine gE hP h de Tryz.func53 fun args v e=>?_;obtain⟨x,m,rfl,hm,rfl⟩:=fS e;refine⟨aK.1 aU,fun B mc=>?_⟩;rw[←hI];exact agr mc hm fun h=>(adz h).1
end
end fF
end
section
open Go Go.Rn Go.RowKit Go.Proofs
namespace gJ
open cj cH cU dm fY fF
variable {k q p lm lg N1 N0 N L1 L0 L G:Nat} {x1 x0 bQ n1 n0 f1 f0:Int} {B:aI}
def nZ(op a b:Int):Int:=if op=4 then IntKind.wrap .i64 (a+b) else if op=5 then IntKind.wrap .i64 (a - b) else if op=6 then IntKind.wrap .i64 (a*b) else if op=7 then(if a<b then 1 else 0) else if a=b then 1 else 0
def lB(op n x0 f0 x1 f1:Int):Int×Int:=if op=1 then(n,0) else if op=2 then(x0,f0) else if op=3 then(x0,f0) else if f0≠0 then(0,f0) else if f1≠0 then(0,f1) else(nZ op x0 x1,0)
def gM(op n x0 f0 x1 f1:Int):AV:=DX<|lB op n x0 f0 x1 f1
def lC:Nat->Ex->List Int->List Int->Int×Int
 |0,_,_,_=>(0,0)
 |k+1,.mk op n args,lo,aM=>
  if op=2 then lB op n (sg lo n).1 (sg lo n).2 0 0 else if op=3 then lB op n (sg aM n).1 (sg aM n).2 0 0
  else lB op n (lC k (args.getD 0 default) lo aM).1 (lC k (args.getD 0 default) lo aM).2 (lC k (args.getD 1 default) lo aM).1 (lC k (args.getD 1 default) lo aM).2
theorem aai{op n:Int}{args:List Ex}{lo aM:List Int}:lC (k+1) (.mk op n args) lo aM=if op=2 then lB op n (sg lo n).1 (sg lo n).2 0 0 else if op=3 then lB op n (sg aM n).1 (sg aM n).2 0 0 else lB op n (lC k (args.getD 0 default) lo aM).1 (lC k (args.getD 0 default) lo aM).2 (lC k (args.getD 1 default) lo aM).1 (lC k (args.getD 1 default) lo aM).2:=rfl
def qp(k:Nat)(args:List AV)(v:AV):Prop:=∃(e:Ex) (M p lm G q lg:Nat) (lo aM:List Int),args=[.agg<|aB e,.U M p lm,.U G q lg]/\du encI 1 (.U M p lm) lo/\du encI 1 (.U G q lg) aM/\eP k e=true/\v=DX (lC k e lo aM)
theorem qp.bM(args:List AV)(v v':AV)(h:qp k args v)(h':qp k args v'):v=v':=by obtain⟨e,M,p,lm,G,q,lg,lo,aM,rfl,a1,a2,_,rfl⟩:=h;obtain⟨e',M',p',lm',G',q',lg',nX,W6,h1,b1,b2,_,rfl⟩:=h';simp only[List.cons.injEq,AV.agg.injEq,AV.U.injEq,_root_.and_true] at h1;obtain⟨h0,⟨rfl,rfl,rfl⟩,rfl,rfl,rfl⟩:=h1;rw[ny _ _ h0,du.inj sO a1 b1,du.inj sO a2 b2]
noncomputable def kC(k:Nat):FuncId×KE:=(73,.val<|aR<|qp k)
theorem adC{M N0 L0 N1 L1:Nat}{n bQ n0 cz n1:Int}(mc:Mt [kC k,Aa] B):au pg B 270 (Fin pg (az Tryz.f73) fun y _=>y=(gM 1 n x0 f0 x1 f1)) (sF 73 Tryz.f73 [(.agg [(u8<|.ofNat 1),(i6 n),(.U N 0 L)]),(.U M p lm),(.U G q lg)])<|ah ak 270:=by exact wS mc (.rt 12 .no) (show AV.tuple [(i6 n),i0]=gM 1 n x0 f0 x1 f1 from by(unfold gM lB nZ;repeat' split)<;>first|rfl|(exfalso;omega))
theorem adD{M N0 L0 N1 L1:Nat}{n bQ n0 cz n1:Int}(mc:Mt [kC k,Aa] B)(hc:bj (aR AtR) [(.U M p lm),.int .i64 n]=some (.tuple [.int .i64 x0,.int .i64 f0])):au pg B 270 (Fin pg (az Tryz.f73) fun y _=>y=(gM 2 n x0 f0 x1 f1)) (sF 73 Tryz.f73 [(.agg [(u8<|.ofNat 2),(i6 n),(.U N 0 L)]),(.U M p lm),(.U G q lg)])<|ah ak 270:=by exact wS mc (.st 13<|.rg<|.go 3<|.kn (.tuple [(i6 x0),(i6 f0)])<|.go 4<|.en<|.rt 1 .no)<|ai hc (show AV.tuple [(i6 x0),(i6 f0)]=gM 2 n x0 f0 x1 f1 from by(unfold gM lB nZ;repeat' split)<;>first|rfl|(exfalso;omega))
theorem adE{M N0 L0 N1 L1:Nat}{n bQ n0 cz n1:Int}(mc:Mt [kC k,Aa] B)(hc:bj (aR AtR) [(.U G q lg),.int .i64 n]=some (.tuple [.int .i64 x0,.int .i64 f0])):au pg B 270 (Fin pg (az Tryz.f73) fun y _=>y=(gM 3 n x0 f0 x1 f1)) (sF 73 Tryz.f73 [(.agg [(u8<|.ofNat 3),(i6 n),(.U N 0 L)]),(.U M p lm),(.U G q lg)])<|ah ak 270:=by exact wS mc (.st 16<|.rg<|.go 3<|.kn (.tuple [(i6 x0),(i6 f0)])<|.go 4<|.en<|.rt 1 .no)<|ai hc (show AV.tuple [(i6 x0),(i6 f0)]=gM 3 n x0 f0 x1 f1 from by(unfold gM lB nZ;repeat' split)<;>first|rfl|(exfalso;omega))
theorem NY{ka:Int}(hk:ka=4\/ka=5\/ka=6){L M:Nat}{n cz:Int}(mc:Mt [kC k,Aa] B)(hn:top<=N)(sf:cG FU N (0+(0:Int).toNat*3+0) 3=some [(u8<|bQ),(i6 n0),(.U N0 0 L0)])(jr:bj (aR<|qp k) [(.agg [(u8<|bQ),(i6 n0),(.U N0 0 L0)]),(.U M p lm),(.U G q lg)]=some (.tuple [.int .i64 x0,.int .i64 f0]))(iZ:cG FU N (0+(1:Int).toNat*3+0) 3=some [(u8<|cz),(i6 n1),(.U N1 0 L1)])(jJ:bj (aR<|qp k) [(.agg [(u8<|cz),(i6 n1),(.U N1 0 L1)]),(.U M p lm),(.U G q lg)]=some (.tuple [.int .i64 x1,.int .i64 f1])):au pg B 270 (Fin pg (az Tryz.f73) fun y _=>y=(gM ka n x0 f0 x1 f1)) (sF 73 Tryz.f73 [(.agg [(.int .u8 ka),(i6 n),(.U N 0 2)]),(.U M p lm),(.U G q lg)])<|ah ak 270:=by
 have TT:=(dU (0:Int) 2<|ai hn<|ai sf<|ai jr<|aT (f0≠0) (fun _=>(show AV.tuple [i0,(i6 f0)]=gM ka n x0 f0 x1 f1 from by rcases hk with rfl|rfl|rfl<;>(unfold gM lB nZ;repeat' split)<;>first|rfl|(exfalso;omega))) fun _=>(dU (1:Int) 2<|ai hn<|ai iZ<|ai jJ<|aT (f1≠0) (fun _=>(show AV.tuple [i0,(i6 f1)]=gM ka n x0 f0 x1 f1 from by rcases hk with rfl|rfl|rfl<;>(unfold gM lB nZ;repeat' split)<;>first|rfl|(exfalso;omega))) fun _=>(show AV.tuple [(i6<|nZ ka x0 x1),i0]=gM ka n x0 f0 x1 f1 from by rcases hk with rfl|rfl|rfl<;>(unfold gM lB nZ;repeat' split)<;>first|rfl|(exfalso;omega))));rcases hk with rfl|rfl|rfl
 all_goals exact wS mc (.st 32<|.rg<|.go 1<|.eF<|.eG [(u8<|bQ),(i6 n0),(.U N0 0 L0)]<|.go 3<|.en<|.st 1<|.rg<|.go 3<|.kn (.tuple [(i6 x0),(i6 f0)])<|.go 5<|.en<|.st 2<|.rg<|.go 1<|.fk (.en<|.rt 4 .no)<|.en<|.st 14<|.rg<|.go 1<|.eF<|.eG [(u8<|cz),(i6 n1),(.U N1 0 L1)]<|.go 3<|.en<|.st 1<|.rg<|.go 3<|.kn (.tuple [(i6 x1),(i6 f1)])<|.go 5<|.en<|.st 2<|.rg<|.go 1<|.fk (.en<|.rt 4 .no)<|.en<|.st 12<|.rg<|.go 8<|.il<|.st 3<|.rg<|.go 2<|.go 1<|.go 1<|.en<|.rt 1<|.go 2<|.en<|.rt 1 .no) TT
theorem adF{L M:Nat}{n cz:Int}(mc:Mt [kC k,Aa] B)(hn:top<=N)(sf:cG FU N (0+(0:Int).toNat*3+0) 3=some [(u8<|bQ),(i6 n0),(.U N0 0 L0)])(jr:bj (aR<|qp k) [(.agg [(u8<|bQ),(i6 n0),(.U N0 0 L0)]),(.U M p lm),(.U G q lg)]=some (.tuple [.int .i64 x0,.int .i64 f0]))(iZ:cG FU N (0+(1:Int).toNat*3+0) 3=some [(u8<|cz),(i6 n1),(.U N1 0 L1)])(jJ:bj (aR<|qp k) [(.agg [(u8<|cz),(i6 n1),(.U N1 0 L1)]),(.U M p lm),(.U G q lg)]=some (.tuple [.int .i64 x1,.int .i64 f1])):au pg B 270 (Fin pg (az Tryz.f73) fun y _=>y=(gM 7 n x0 f0 x1 f1)) (sF 73 Tryz.f73 [(.agg [(u8<|.ofNat 7),(i6 n),(.U N 0 2)]),(.U M p lm),(.U G q lg)])<|ah ak 270:=by exact wS mc (.st 32<|.rg<|.go 1<|.eF<|.eG [(u8<|bQ),(i6 n0),(.U N0 0 L0)]<|.go 3<|.en<|.st 1<|.rg<|.go 3<|.kn (.tuple [(i6 x0),(i6 f0)])<|.go 5<|.en<|.st 2<|.rg<|.go 1<|.fk (.en<|.rt 4 .no)<|.en<|.st 14<|.rg<|.go 1<|.eF<|.eG [(u8<|cz),(i6 n1),(.U N1 0 L1)]<|.go 3<|.en<|.st 1<|.rg<|.go 3<|.kn (.tuple [(i6 x1),(i6 f1)])<|.go 5<|.en<|.st 2<|.rg<|.go 1<|.fk (.en<|.rt 4 .no)<|.en<|.st 12<|.rg<|.go 8<|.il<|.st 3<|.rg<|.go 2<|.fk (.il<|.rt 9<|.go 1<|.en<|.rt 1<|.go 2<|.en<|.rt 1 .no)<|.il<|.rt 10<|.go 1<|.en<|.rt 1<|.go 2<|.en<|.rt 1 .no)<|dU (0:Int) 2<|ai hn<|ai sf<|ai jr<|aT (f0≠0) (fun _=>(show AV.tuple [i0,(i6 f0)]=gM 7 n x0 f0 x1 f1 from by(unfold gM lB nZ;repeat' split)<;>first|rfl|(exfalso;omega))) fun _=>(dU (1:Int) 2<|ai hn<|ai iZ<|ai jJ<|aT (f1≠0) (fun _=>(show AV.tuple [i0,(i6 f1)]=gM 7 n x0 f0 x1 f1 from by(unfold gM lB nZ;repeat' split)<;>first|rfl|(exfalso;omega))) fun _=>(aT (x0<x1) (fun _=>(show AV.tuple [(i6<|.ofNat 1),i0]=gM 7 n x0 f0 x1 f1 from by(unfold gM lB nZ;repeat' split)<;>first|rfl|(exfalso;omega))) fun _=>(show AV.tuple [i0,i0]=gM 7 n x0 f0 x1 f1 from by(unfold gM lB nZ;repeat' split)<;>first|rfl|(exfalso;omega))))
theorem adG{L M:Nat}{n cz:Int}(mc:Mt [kC k,Aa] B)(hn:top<=N)(sf:cG FU N (0+(0:Int).toNat*3+0) 3=some [(u8<|bQ),(i6 n0),(.U N0 0 L0)])(jr:bj (aR<|qp k) [(.agg [(u8<|bQ),(i6 n0),(.U N0 0 L0)]),(.U M p lm),(.U G q lg)]=some (.tuple [.int .i64 x0,.int .i64 f0]))(iZ:cG FU N (0+(1:Int).toNat*3+0) 3=some [(u8<|cz),(i6 n1),(.U N1 0 L1)])(jJ:bj (aR<|qp k) [(.agg [(u8<|cz),(i6 n1),(.U N1 0 L1)]),(.U M p lm),(.U G q lg)]=some (.tuple [.int .i64 x1,.int .i64 f1])):au pg B 270 (Fin pg (az Tryz.f73) fun y _=>y=(gM 8 n x0 f0 x1 f1)) (sF 73 Tryz.f73 [(.agg [(u8<|.ofNat 8),(i6 n),(.U N 0 2)]),(.U M p lm),(.U G q lg)])<|ah ak 270:=by exact wS mc (.st 32<|.rg<|.go 1<|.eF<|.eG [(u8<|bQ),(i6 n0),(.U N0 0 L0)]<|.go 3<|.en<|.st 1<|.rg<|.go 3<|.kn (.tuple [(i6 x0),(i6 f0)])<|.go 5<|.en<|.st 2<|.rg<|.go 1<|.fk (.en<|.rt 4 .no)<|.en<|.st 14<|.rg<|.go 1<|.eF<|.eG [(u8<|cz),(i6 n1),(.U N1 0 L1)]<|.go 3<|.en<|.st 1<|.rg<|.go 3<|.kn (.tuple [(i6 x1),(i6 f1)])<|.go 5<|.en<|.st 2<|.rg<|.go 1<|.fk (.en<|.rt 4 .no)<|.en<|.st 12<|.rg<|.go 8<|.il<|.st 3<|.rg<|.go 2<|.fk (.il<|.rt 9<|.go 1<|.en<|.rt 1<|.go 2<|.en<|.rt 1 .no)<|.il<|.rt 10<|.go 1<|.en<|.rt 1<|.go 2<|.en<|.rt 1 .no)<|dU (0:Int) 2<|ai hn<|ai sf<|ai jr<|aT (f0≠0) (fun _=>(show AV.tuple [i0,(i6 f0)]=gM 8 n x0 f0 x1 f1 from by(unfold gM lB nZ;repeat' split)<;>first|rfl|(exfalso;omega))) fun _=>(dU (1:Int) 2<|ai hn<|ai iZ<|ai jJ<|aT (f1≠0) (fun _=>(show AV.tuple [i0,(i6 f1)]=gM 8 n x0 f0 x1 f1 from by(unfold gM lB nZ;repeat' split)<;>first|rfl|(exfalso;omega))) fun _=>(aT (x0=x1) (fun _=>(show AV.tuple [(i6<|.ofNat 1),i0]=gM 8 n x0 f0 x1 f1 from by(unfold gM lB nZ;repeat' split)<;>first|rfl|(exfalso;omega))) fun _=>(show AV.tuple [i0,i0]=gM 8 n x0 f0 x1 f1 from by(unfold gM lB nZ;repeat' split)<;>first|rfl|(exfalso;omega))))
end gJ
end
section
open Go Go.Rn Go.RowKit Go.Proofs
namespace gQ
open cj cH cU dm fY fF gJ
variable {k:Nat}
theorem ZG{op n:Int}{l:List Ex}(h:eP (k+1) (.mk op n l)=true):(op=1\/(op=2/\0<=n)\/(op=3/\0<=n))\/((op=4\/op=5\/op=6\/op=7\/op=8)/\l.length=2/\eP k (l.getD 0 default)=true/\eP k (l.getD 1 default)=true):=by
 rw[L8] at h;split at h
 ·omega
 split at h
 ·rw[Bool.and_eq_true,Bool.and_eq_true,decide_eq_true_eq] at h;omega
 split at h
 ·rw[Bool.and_eq_true,Bool.and_eq_true,decide_eq_true_eq] at h;omega
 split at h
 ·cases h
 rw[Bool.and_eq_true,Bool.and_eq_true,decide_eq_true_eq] at h;exact .inr ⟨by omega,h.1.1,h.1.2,h.2⟩
theorem Wn{N o L:Nat}{l:List Int}{z:Int}(h:du encI 1 (.U N o L) l)(hz:0<=z):bj (aR AtR) [.U N o L,.int .i64 z]=some (.tuple [.int .i64 (sg l z).1,.int .i64 (sg l z).2]):=eO (eK AtR.bM ⟨N,o,L,l,z,rfl,h,hz,rfl⟩) (by rw[List.all_cons,h.hi];rfl) rfl
theorem NZ{e:Ex}{M p lm G q lg:Nat}{lo aM:List Int}(h1:du encI 1 (.U M p lm) lo)(h2:du encI 1 (.U G q lg) aM)(hw:eP k e=true):
 bj (aR<|qp k) [.agg<|aB e,.U M p lm,.U G q lg]=some (.tuple [.int .i64 (lC k e lo aM).1,.int .i64 (lC k e lo aM).2]):=
 eO (eK qp.bM ⟨e,M,p,lm,G,q,lg,lo,aM,rfl,h1,h2,hw,rfl⟩) (by rw[List.all_cons,List.all_cons,List.all_cons,Bn,h1.hi,h2.hi];rfl) rfl
theorem aa7(hP:bS pg)(h':aX [kC k,Aa]){L:bO}(h:aX L):aX<|kC (k+1)::L:=by
 refine gE hP h h' Tryz.func73 fun args v e=>?_;obtain⟨⟨op,n,l⟩,M,p,lm,G,q,lg,lo,aM,rfl,i1,i2,hw,rfl⟩:=fS e;refine⟨aK.1 aU,fun B mc=>?_⟩;rw[←hI,aai,aB];rcases ZG hw with(rfl|⟨rfl,hn⟩|⟨rfl,hn⟩)|⟨ho,h2,w0,w1⟩
 ·exact adC (N0:=0) (L0:=0) (N1:=0) (L1:=0) (bQ:=0) (n0:=0) (cz:=0) (n1:=0) (x0:=(lC k (l.getD 0 default) lo aM).1) (f0:=(lC k (l.getD 0 default) lo aM).2) (x1:=(lC k (l.getD 1 default) lo aM).1) (f1:=(lC k (l.getD 1 default) lo aM).2) mc
 ·exact adD (N0:=0) (L0:=0) (N1:=0) (L1:=0) (bQ:=0) (n0:=0) (cz:=0) (n1:=0) (x1:=0) (f1:=0) mc<|Wn i1 hn
 ·exact adE (N0:=0) (L0:=0) (N1:=0) (L1:=0) (bQ:=0) (n0:=0) (cz:=0) (n1:=0) (x1:=0) (f1:=0) mc<|Wn i2 hn
 obtain⟨bQ,n0,l0,e0⟩:∃a b c,l.getD 0 default=Ex.mk a b c:=by cases l.getD 0 default;exact⟨_,_,_,rfl⟩
 obtain⟨cz,n1,l1,e1⟩:∃a b c,l.getD 1 default=Ex.mk a b c:=by cases l.getD 1 default;exact⟨_,_,_,rfl⟩
 have t0:=yU (l:=l) (i:=0) (a:=l.getD 0 default) (by rw[List.getD_eq_getElem?_getD,List.getElem?_eq_getElem (show 0<l.length by omega)];rfl) (z:=0) rfl;have t1:=yU (l:=l) (i:=1) (a:=l.getD 1 default) (by rw[List.getD_eq_getElem?_getD,List.getElem?_eq_getElem (show 1<l.length by omega)];rfl) (z:=1) rfl;have c0:=NZ i1 i2 w0;have c1:=NZ i1 i2 w1;rw[if_neg ab,if_neg ab,h2];generalize sf:lC k (l.getD 0 default) lo aM=y0 at c0;generalize iZ:lC k (l.getD 1 default) lo aM=y1 at c1;rw[e0,aB] at t0 c0;rw[e1,aB] at t1 c1;rcases ho with rfl|rfl|rfl|rfl|rfl
 ·exact NY (.inl rfl) (L:=0) mc (cN _) t0 c0 t1 c1
 ·exact NY (.inr<|.inl rfl) (L:=0) mc (cN _) t0 c0 t1 c1
 ·exact NY (.inr<|.inr rfl) (L:=0) mc (cN _) t0 c0 t1 c1
 ·exact adF (L:=0) mc (cN _) t0 c0 t1 c1
 ·exact adG (L:=0) mc (cN _) t0 c0 t1 c1
theorem T3(hP:bS pg):∀(k:Nat) {L:bO},aX L->aX (kC k::L)
 |0,L,h=>by refine gE hP h de Tryz.func73 fun args v e=>?_;obtain⟨_,_,_,_,_,_,_,_,_,_,_,_,hw,_⟩:=fS e;cases hw
 |k+1,L,h=>aa7 hP (T3 hP k<|afe hP de) h
end gQ
end
section
open Go Go.Rn Go.RowKit Go.Proofs
namespace gW
open cj cH cU dm fY fF gJ gQ
theorem Ot{e:Ex}:bj (aR vO) [.agg<|aB e]=some (.bool<|eP 6 e):=eO (eK vO.bM ⟨e,rfl,rfl⟩) rM rfl
def zp(e:Ex)(lo aM:List Int):Int×Int:=if eP 6 e=true then lC 6 e lo aM else(0,4)
def zq(args:List AV)(v:AV):Prop:=∃(e:Ex) (M p lm G q lg:Nat) (lo aM:List Int),args=[.agg<|aB e,.U M p lm,.U G q lg]/\du encI 1 (.U M p lm) lo/\du encI 1 (.U G q lg) aM/\v=DX (zp e lo aM)
theorem zq.bM(args:List AV)(v v':AV)(h:zq args v)(h':zq args v'):v=v':=by obtain⟨e,M,p,lm,G,q,lg,lo,aM,rfl,a1,a2,rfl⟩:=h;obtain⟨e',M',p',lm',G',q',lg',nX,W6,h1,b1,b2,rfl⟩:=h';simp only[List.cons.injEq,AV.agg.injEq,AV.U.injEq,_root_.and_true] at h1;obtain⟨h0,⟨rfl,rfl,rfl⟩,rfl,rfl,rfl⟩:=h1;rw[ny _ _ h0,du.inj sO a1 b1,du.inj sO a2 b2]
theorem aff{B:aI}{N L M p lm G q lg:Nat}{op n x u f:Int}(mc:Mt [P4,kC 6] B)(hc:bj (aR vO) [(.agg [(u8<|op),(i6 n),(.U N 0 L)])]=some (.bool<|decide<|x=1))(hd:x=1->bj (aR<|qp 6) [(.agg [(u8<|op),(i6 n),(.U N 0 L)]),(.U M p lm),(.U G q lg)]=some (.tuple [.int .i64 u,.int .i64 f])):au pg B 270 (Fin pg (az Tryz.f51) fun y _=>y=(if x=1 then .tuple [.int .i64 u,.int .i64 f] else .tuple [.int .i64 0,.int .i64 4])) (sF 51 Tryz.f51 [(.agg [(u8<|op),(i6 n),(.U N 0 L)]),(.U M p lm),(.U G q lg)])<|ah ak 270:=by exact wS mc (.st 4<|.rg<|.go 1<|.kp (x=1) inferInstance (.go 1<|.en<|.st 3<|.rg<|.go 3<|.kn (.tuple [(i6 u),(i6 f)])<|.go 4<|.en<|.rt 1 .no)<|.go 1<|.en<|.rt 4 .no)<|ai hc<|aT (x=1) (fun _=>(ai (hd ab) (show AV.tuple [(i6 u),(i6 f)]=(if x=1 then .tuple [.int .i64 u,.int .i64 f] else .tuple [.int .i64 0,.int .i64 4]) from by split<;>first|rfl|(exfalso;omega)))) fun _=>(show AV.tuple [i0,(i6<|.ofNat 4)]=(if x=1 then .tuple [.int .i64 u,.int .i64 f] else .tuple [.int .i64 0,.int .i64 4]) from by split<;>first|rfl|(exfalso;omega))
end gW
end
section
open Go Go.Rn Go.RowKit Go.Proofs
namespace Ch
open cj cH cU dm dq
variable {B:aI} {kind:Int} {L:bO}
noncomputable section
def Lj:List<|List Bool:=[[false,false,false,false,false,false],[true,true,true,false,false,false],[true,true,true,false,false,false],[true,false,true,true,false,false],[true,false,true,false,true,true],[true,false,true,false,true,false],[true,false,false,false,false,false],[true,false,false,false,true,true],[true,false,true,false,false,false]]
def pZ(kind:Int):List Bool:=Lj.getD kind.toNat [false,false,false,false,false,false]
def wt(kind:Int):AV:=.agg<|(pZ kind).map AV.bool
theorem adH(h:9<=kind):wt kind= .agg [.bool false,.bool false,.bool false,.bool false,.bool false,.bool false]:=by unfold wt pZ;rw[List.getD_eq_getElem?_getD,List.getElem?_eq_none (show Lj.length<=kind.toNat by show 9<=kind.toNat;omega)];rfl
theorem ah5{k:Int}(mc:Mt [] B)(h:0<=k/\k<9):au pg B 270 (Fin pg (az Tryz.f67) fun y _=>y=(wt k)) (sF 67 Tryz.f67 [.int .u8 k])<|ah ak 270:=by
 have TT:(AV.int .i64 (IntKind.wrap .i64 k)= .int .i64 k)/\wt k=wt k:=⟨wI k,rfl⟩;let P:Pl:=.st 6<|.rg<|.go 1<|.vl (.int .i64 k)<|.go 1<|.en<|.rt 5 .no;obtain rfl|rfl|rfl|rfl|rfl|rfl|rfl|rfl|rfl:k=0\/k=1\/k=2\/k=3\/k=4\/k=5\/k=6\/k=7\/k=8:=by omega
 all_goals exact wS mc P TT aU
theorem ah6(mc:Mt [] B)(h0:9<=kind)(h9:kind<256):au pg B 270 (Fin pg (az Tryz.f67) fun y _=>y=(wt kind)) (sF 67 Tryz.f67 [(u8<|kind)])<|ah ak 270:=by exact wS mc (.st 6<|.rg<|.go 1<|.vl (.int .i64 kind)<|.fk (.en<|.rt 4 .no)<|.no)<|ai (wI kind)<|aT (kind>=9) (fun _=>(show(.agg [(.bool false),(.bool false),(.bool false),(.bool false),(.bool false),(.bool false)])=wt kind from(adH h0).symm)) gb
theorem afg{N L:Nat}{op n:Int}(mc:Mt [] B):au pg B 270 (Fin pg (az Tryz.f70) fun y _=>y=(.bool<|decide<|op=0/\n=0/\L=0)) (sF 70 Tryz.f70 [(.agg [(u8<|op),(i6 n),(.U N 0 L)])])<|ah ak 270:=by exact wS mc (.st 3<|.rg<|.go 2<|.fk (.go 3<|.fk (.go 5<|.fk (.go 2<|.en<|.rt 1 .no)<|.go 2<|.en<|.rt 1 .no)<|.go 8<|.en<|.rt 1 .no)<|.go 12<|.en<|.rt 1 .no)<|aT (op=0) (fun _=>(aT (n=0) (fun _=>(aT ((L:Int)=0) (fun _=>(show AV.bool true= .bool (decide<|op=0/\n=0/\L=0) from by rw[decide_eq_true ab])) fun _=>(show AV.bool false= .bool (decide<|op=0/\n=0/\L=0) from by rw[decide_eq_false ab]))) fun _=>(show AV.bool false= .bool (decide<|op=0/\n=0/\L=0) from by rw[decide_eq_false ab]))) fun _=>(show AV.bool false= .bool (decide<|op=0/\n=0/\L=0) from by rw[decide_eq_false ab])
def kx(args:List AV)(v:AV):Prop:=∃kind:Int,args=[.int .u8 kind]/\0<=kind/\kind<256/\v=wt kind
theorem kx.bM(args:List AV)(v v':AV)(h:kx args v)(h':kx args v'):v=v':=by obtain⟨x,rfl,_,_,rfl⟩:=h;obtain⟨x',h1,_,_,rfl⟩:=h';simp only[List.cons.injEq,AV.int.injEq,true_and,_root_.and_true] at h1;rw[h1]
def wu:FuncId×KE:=(67,.val<|aR kx)
theorem afh(hP:bS pg)(h:aX L):aX<|wu::L:=by
 refine gE hP h de Tryz.func67 fun args v e=>?_;obtain⟨kind,rfl,h0,h1,rfl⟩:=fS e;refine⟨aK.1 aU,fun B mc=>?_⟩;rw[←hI];by_cases h9:9<=kind
 ·exact ah6 mc h9 h1
 exact ah5 mc ⟨h0,by omega⟩
def DC(e:Ex):Prop:=e.op=0/\e.n=0/\e.args.length=0
instance {e:Ex}:Decidable<|DC e:=by unfold DC;exact inferInstance
def mZ(args:List AV)(v:AV):Prop:=∃e:Ex,args=[.agg<|aB e]/\v= .bool (decide<|DC e)
theorem mZ.bM(args:List AV)(v v':AV)(h:mZ args v)(h':mZ args v'):v=v':=by obtain⟨e,rfl,rfl⟩:=h;obtain⟨e',h1,rfl⟩:=h';simp only[List.cons.injEq,AV.agg.injEq,_root_.and_true] at h1;rw[ny _ _ h1]
def vB:FuncId×KE:=(70,.val<|aR mZ)
theorem acj(hP:bS pg)(h:aX L):aX<|vB::L:=by refine gE hP h de Tryz.func70 fun args v e=>?_;obtain⟨⟨op,n,l⟩,rfl,rfl⟩:=fS e;refine⟨aK.1 aU,fun B mc=>?_⟩;rw[←hI,aB];exact afg mc
end
end Ch
end
section
open Go Go.Rn Go.RowKit Go.Proofs
namespace eZ
open cj cH cU dm dq
variable {k N L N0 L0:Nat} {v:AV} {B:aI} {bQ n0 i c:Int}
noncomputable section
theorem Ou{nx:Nat}{l:List<|Nat×AV}(h:∀r:Nat->Nat,(∀k,top<=k->r k=k)->∀p∈l,bp r p.2 p.2)(hn:Nat.ble 270 nx=true):tO nx l ak:=by intro r r1 r2;exact⟨h r r2,fun p hp x hx=>Fm (nx:=270) (fun k hk=>r1 k<|Nat.lt_of_lt_of_le hk<|aK.1 hn) bW p hp x hx⟩
def tF:Nat->Ex->Bool
 |0,_=>false
 |k+1,.mk _ _ args=>args.all<|tF k
def vd(k:Nat)(args:List AV)(v:AV):Prop:=∃e:Ex,args=[.agg<|aB e]/\tF k e=true/\lz k e<=1000000/\v= .int .i64 (lz k e)
theorem vd.bM(args:List AV)(v v':AV)(h:vd k args v)(h':vd k args v'):v=v':=by obtain⟨e,rfl,_,_,rfl⟩:=h;obtain⟨e',h1,_,_,rfl⟩:=h';simp only[List.cons.injEq,AV.agg.injEq,_root_.and_true] at h1;rw[ny _ _ h1]
def Bb(k:Nat):FuncId×KE:=(80,.val<|aR<|vd k)
def Bc(N:Nat)(L:Nat)(m:Int)(i:Int):List<|Nat×AV:=[(3,(i6 m)),(7,(.U N 0 L)),(8,(i6<|(L:Int))),(9,(i6 i))]
def xw(N:Nat)(L:Nat)(m:Int)(i:Int):AF:=⟨80,aC<|Bc N L m i,(max Tryz.f80.ntmps 1),[.code<|aQ pg 80 [1,1,0,1,0,0],.inLoop<|aQ pg 80 [1,1,0,1,0,0],.inBlock 0,.code<|aQ pg 80 [1,1,1]],[],none⟩
theorem VG(N:Nat)(L:Nat)(m:Int)(i:Int)(hn:top<=N):((Bc N L m i).map (fun q=>some q.2)=(Bc N L m i).map (fun q=>some q.2))/\(ak.map (fun q=>q.2)=ak.map (fun q=>q.2))/\tO 270 (Bc N L m i) ak/\(xw N L m i=xw N L m i/\ah ak 270=ah ak 270):=⟨rfl,rfl,Ou (fun r r2 p hp=>by simp only[Bc,List.mem_cons,List.not_mem_nil,or_false] at hp;rcases hp with rfl|rfl|rfl|rfl<;>first|exact bp.int _ _|exact bp.U (r2 _ hn) r2) rfl,rfl,rfl⟩
theorem afi{m:Int}(mc:Mt [Bb k] B)(hn:top<=N)(hi:0<=i)(hL:L<=1000000)(hm:0<=m/\m<=1000000)(jr:0<=c/\c<=1000000)(hx:cG FU N (0+i.toNat*3+0) 3=some [(u8<|bQ),(i6 n0),(.U N0 0 L0)])(hc:bj (aR<|vd k) [(.agg [(u8<|bQ),(i6 n0),(.U N0 0 L0)])]=some (.int .i64 c))(h1:i<(L:Int))(H:au pg B 270 (Fin pg (az Tryz.f80) fun y _=>y=v) (xw N L (m+c)<|i+1)<|ah ak 270):au pg B 270 (Fin pg (az Tryz.f80) fun y _=>y=v) (xw N L m i)<|ah ak 270:=by exact wC mc (C:=(fun fr s1 _=>fr=xw N L (m+c) (i+1)/\s1=ah ak 270)) mT (.st 1<|.rg<|.fk (.en<|.st 6<|.rg<|.eF<|.eG [(u8<|bQ),(i6 n0),(.U N0 0 L0)]<|.go 2<|.en<|.rg<|.go 2<|.kn (i6 c)<|.vl (i6<|m+c)<|.go 1<|.en<|.st 1<|.rg<|.vl (i6<|i+1)<|.go 1<|.en<|.st 1<|.bk (Bc N L (m+c)<|i+1) ak 270 .no)<|.no)<|aT (i<(L:Int)) (fun _=>(dU i (L:Int)<|ai hn<|ai hx<|ai hc<|ai (wI<|m+c)<|ai (wI<|i+1)<|VG N L (m+c) (i+1) hn)) gb
theorem afj{m:Int}{N0 L0:Nat}{bQ n0 c:Int}(mc:Mt [Bb k] B)(h1:(L:Int)<=i)(hv: .int .i64 m=v):au pg B 270 (Fin pg (az Tryz.f80) fun y _=>y=v) (xw N L m i)<|ah ak 270:=by exact wS mc (.st 1<|.rg<|.fk (.no)<|.en<|.rt 6 .no)<|aT (i<(L:Int)) gb fun _=>(show(i6 m)=v from hv)
theorem go_cnt{op n:Int}(mc:Mt [Bb k] B)(hn:top<=N)(H:au pg B 270 (Fin pg (az Tryz.f80) fun y _=>y=v) (xw N L 1 0)<|ah ak 270):au pg B 270 (Fin pg (az Tryz.f80) fun y _=>y=v) (sF 80 Tryz.f80 [(.agg [(u8<|op),(i6 n),(.U N 0 L)])])<|ah ak 270:=by exact wC mc (C:=(fun fr s1 _=>fr=xw N L 1 0/\s1=ah ak 270)) mT (.st 9<|.bk (Bc N L 1 0) ak 270 .no)<|VG N L 1 0 hn
end
end eZ
end
section
open Go Go.Rn Go.RowKit Go.Proofs
namespace BH
open cj cH cU dm eZ dq
theorem IN{g:Ex->Int}:∀(l:List Ex) (m:Int),(∀a∈l,1<=g a)->m+(l.length:Nat)<=l.foldl (fun n a=>n+g a) m
 |[],m,_=>by simp only[List.length_nil,List.foldl_nil];omega
 |a::l,m,h=>by have h1:=IN l (m+g a) fun b hb=>h b<|List.mem_cons_of_mem _ hb;have h2:=h a List.mem_cons_self;rw[List.foldl_cons,List.length_cons];omega
theorem E9:∀(k:Nat) (e:Ex),tF k e=true->1<=lz k e
 |0,_,h=>by cases h
 |k+1,.mk op n l,h=>by have h1:l.all (tF k)=true:=h;have:=IN (g:=lz k) l 1 fun a ha=>E9 k a<|List.all_eq_true.1 h1 a ha;show 1<=l.foldl (fun n a=>n+lz k a) 1;omega
theorem aaj(hP:bS pg){k:Nat}(h':aX [Bb k]){L:bO}(h:aX L):aX<|Bb (k+1)::L:=by
 refine gE hP h h' Tryz.func80 fun args v e=>?_;obtain⟨⟨op,n,l⟩,rfl,hd,hc,rfl⟩:=fS e;refine⟨aK.1 aU,fun B mc=>?_⟩;rw[←hI,aB];have hd:l.all (tF k)=true:=hd;have hc:l.foldl (fun n a=>n+lz k a) 1<=1000000:=hc;have pos:∀a∈l,1<=lz k a:=fun a ha=>E9 k a<|List.all_eq_true.1 hd a ha;have key:∀(r:List Ex) (i:Nat) (m:Int),l.drop i=r->0<=m->r.foldl (fun n a=>n+lz k a) m<=1000000->
  au pg B 270 (Fin pg (az Tryz.f80) fun y _=>y= .int .i64 (r.foldl (fun n a=>n+lz k a) m)) (xw (nm<|cK l) l.length m i) (ah ak 270):=by
  intro r;induction r with
  |nil=>intro i m hr _ _;have hi:l.length<=i:=List.drop_eq_nil_iff.1 hr;exact afj (k:=k) (N0:=0) (L0:=0) (bQ:=0) (n0:=0) (c:=0) mc ab rfl
  |cons a r ih=>
   intro i m hr h0 h1;have hl:i<l.length:=by
    by_cases q:i<l.length
    ·exact q
    ·rw[List.drop_of_length_le ab] at hr;cases hr
   have ha:l[i]? =some a:=by have:=congrArg (fun q=>q[0]?) hr;simp only[List.getElem?_drop,List.getElem?_cons_zero,Nat.add_zero] at this;exact this
   have hm:a∈l:=List.mem_of_getElem? ha;have kf:l.drop (i+1)=r:=by have:=congrArg (List.drop 1) hr;rw[List.drop_drop] at this;exact this
   have ah7:∀b∈r,b∈l:=fun b hb=>List.mem_of_mem_drop (i:=i) (by rw[hr];exact List.mem_cons_of_mem _ hb);have h2:=IN (g:=lz k) r (m+lz k a) fun b hb=>pos b<|ah7 b hb;have h3:=pos a hm;have h4:=IN (g:=lz k) l 1 pos;rw[List.foldl_cons] at h1 ⊢;obtain⟨bQ,n0,l0⟩:=a;have hx:=yU ha (z:=(i:Int)) ab;have bH:=eO (eK vd.bM ⟨.mk bQ n0 l0,rfl,List.all_eq_true.1 hd _ hm,by omega,rfl⟩:aR (vd k) [.agg<|aB<|.mk bQ n0 l0]=_) rM rfl;rw[aB] at hx bH;exact afi (k:=k) mc (cN _) ab ab ab ab hx bH ab<|ih (i+1) (m+lz k (.mk bQ n0 l0)) kf ab h1
 exact go_cnt mc (cN _)<|key l 0 1 (List.drop_zero) ab hc
theorem Th(hP:bS pg):∀(k:Nat) {L:bO},aX L->aX (Bb k::L)
 |0,L,h=>by refine gE hP h de Tryz.func80 fun args v e=>?_;obtain⟨_,_,hd,_⟩:=fS e;cases hd
 |k+1,L,h=>aaj hP (Th hP k de) h
end BH
end
section
open Go Go.Rn Go.RowKit Go.Proofs
namespace uw
open cj cH cU dm dq eZ BH
def mf(k:Nat)(e:Ex):Int:=if e.op=0 then 0 else lz k e
def zb(k:Nat)(args:List AV)(v:AV):Prop:=∃e:Ex,args=[.agg<|aB e]/\tF k e=true/\lz k e<=1000000/\v= .int .i64 (mf k e)
theorem zb.bM{k:Nat}(args:List AV)(v v':AV)(h:zb k args v)(h':zb k args v'):v=v':=by obtain⟨e,rfl,_,_,rfl⟩:=h;obtain⟨e',h1,_,_,rfl⟩:=h';simp only[List.cons.injEq,AV.agg.injEq,_root_.and_true] at h1;rw[ny _ _ h1]
noncomputable def py(k:Nat):FuncId×KE:=(64,.val<|aR<|zb k)
theorem adI{B:aI}{k N L:Nat}{op n c:Int}(mc:Mt [Bb k] B)(hc:bj (aR<|vd k) [(.agg [(u8<|op),(i6 n),(.U N 0 L)])]=some (.int .i64 c)):au pg B 270 (Fin pg (az Tryz.f64) fun y _=>y=(i6 (if op=0 then 0 else c))) (sF 64 Tryz.f64 [(.agg [(u8<|op),(i6 n),(.U N 0 L)])])<|ah ak 270:=by exact wS mc (.st 4<|.rg<|.go 2<|.fk (.en<|.rt 4 .no)<|.en<|.st 3<|.rg<|.go 1<|.kn (i6 c)<|.go 1<|.en<|.rt 1 .no)<|aT (op=0) (fun _=>(show(i0:AV)= .int .i64 (if op=0 then 0 else c) from by split<;>first|rfl|(exfalso;omega))) fun _=>(ai hc (show((i6 c):AV)= .int .i64 (if op=0 then 0 else c) from by split<;>first|rfl|(exfalso;omega)))
theorem Ti(hP:bS pg)(k:Nat){L:bO}(h:aX L):aX<|py k::L:=by refine gE hP h (Th hP k de) Tryz.func64 fun args v e=>?_;obtain⟨⟨op,n,l⟩,rfl,hd,hc,rfl⟩:=fS e;refine⟨aK.1 aU,fun B mc=>?_⟩;rw[←hI];have bH:=eO (eK vd.bM ⟨.mk op n l,rfl,hd,hc,rfl⟩:aR (vd k) [.agg<|aB<|.mk op n l]=_) rM rfl;rw[aB] at bH ⊢;exact adI mc bH
end uw
end
section
open Go Go.Rn Go.RowKit Go.Proofs
namespace fQ
open cj cH cU dm dq eZ BH
variable {k N L:Nat} {v:AV} {B:aI} {i:Int}
noncomputable section
def cL(x y:Int):Int:=match decide (y>x) with|true=>y|false=>x
def jx(ld le:Nat)(m cd ce:Int):Int:=if 0<le then cL (if 0<ld then cL m cd else m) ce else if 0<ld then cL m cd else m
def bG:St->List St| .mk _ _ _ _ b _=>b
def bF:St->List St| .mk _ _ _ _ _ b=>b
def fq:Nat->List St->Int
 |0,_=>0
 |k+1,l=>l.foldl (fun m s=>jx (bG s).length (bF s).length m (fq k<|bG s)<|fq k<|bF s) 0+1
def qq:Nat->List St->Bool
 |0,_=>false
 |k+1,l=>decide (l.length<=1000000)&&l.all fun s=>((bG s).isEmpty||qq k (bG s))&&((bF s).isEmpty||qq k (bF s))
def ti(k:Nat)(args:List AV)(v:AV):Prop:=∃l:List St,args=[.U (nm<|bz l) 0 l.length]/\qq k l=true/\k<=100/\v= .int .i64 (fq k l)
theorem ti.bM(args:List AV)(v v':AV)(h:ti k args v)(h':ti k args v'):v=v':=by obtain⟨l,rfl,_,_,rfl⟩:=h;obtain⟨l',h1,_,_,rfl⟩:=h';simp only[List.cons.injEq,AV.U.injEq,_root_.and_true,true_and] at h1;rw[sD _ _<|te (lO l) (lO l') h1.1]
def jD(k:Nat):FuncId×KE:=(45,.val<|aR<|ti k)
def ve(N L:Nat)(m i:Int):List<|Nat×AV:=[(3,(i6 m)),(6,(.U N 0 L)),(7,(i6<|(L:Int))),(8,(i6 i))]
def xy(N L:Nat)(m i:Int):AF:=⟨45,aC<|ve N L m i,(max Tryz.f45.ntmps 1),[.code<|aQ pg 45 [1,1,0,1,0,0],.inLoop<|aQ pg 45 [1,1,0,1,0,0],.inBlock 0,.code<|aQ pg 45 [1,1,1]],[],none⟩
theorem FL(N L:Nat)(m i:Int)(hn:top<=N){M:Int}(e:m=M):((ve N L m i).map (fun q=>some q.2)=(ve N L m i).map (fun q=>some q.2))/\(ak.map (fun q=>q.2)=ak.map (fun q=>q.2))/\tO 270 (ve N L m i) ak/\(xy N L m i=xy N L M i/\ah ak 270=ah ak 270):=⟨rfl,rfl,Ou (fun r r2 p hp=>by simp only[ve,List.mem_cons,List.not_mem_nil,or_false] at hp;rcases hp with rfl|rfl|rfl|rfl<;>first|exact bp.int _ _|exact bp.U (r2 _ hn) r2) rfl,by rw[e],rfl⟩
theorem afl{m:Int}{Na La Nb Lb Nd ld Ne le:Nat}{kd to oa na ob nb cd ce:Int}(mc:Mt [jD k] B)(hn:top<=N)(hi:0<=i)(hL:L<=1000000)(hx:cG FU N (0+i.toNat*10+0) 10=some [(u8<|kd),(i6 to),(u8<|oa),(i6 na),(.U Na 0 La),(u8<|ob),(i6 nb),(.U Nb 0 Lb),(.U Nd 0 ld),(.U Ne 0 le)])(hd:0<ld->bj (aR<|ti k) [(.U Nd 0 ld)]=some (.int .i64 cd))(he:0<le->bj (aR<|ti k) [(.U Ne 0 le)]=some (.int .i64 ce))(h1:i<(L:Int))(H:au pg B 270 (Fin pg (az Tryz.f45) fun y _=>y=v) (xy N L (jx ld le m cd ce)<|i+1)<|ah ak 270):au pg B 270 (Fin pg (az Tryz.f45) fun y _=>y=v) (xy N L m i)<|ah ak 270:=by exact wC mc (C:=(fun fr s1 _=>fr=xy N L (jx ld le m cd ce) (i+1)/\s1=ah ak 270)) mT (.st 1<|.rg<|.fk (.en<|.st 6<|.rg<|.eF<|.eG [(u8<|kd),(i6 to),(u8<|oa),(i6 na),(.U Na 0 La),(u8<|ob),(i6 nb),(.U Nb 0 Lb),(.U Nd 0 ld),(.U Ne 0 le)]<|.go 2<|.en<|.st 2<|.rg<|.go 3<|.fk (.en<|.st 1<|.rg<|.go 3<|.kn (i6 cd)<|.vl (i6<|(cL m cd))<|.go 1<|.en<|.st 1<|.rg<|.go 3<|.fk (.en<|.st 1<|.rg<|.go 3<|.kn (i6 ce)<|.vl (i6<|(cL (cL m cd) ce))<|.go 1<|.en<|.st 1<|.rg<|.vl (i6<|i+1)<|.go 1<|.en<|.st 1<|.bk (ve N L (cL (cL m cd) ce)<|i+1) ak 270 .no)<|.en<|.st 3<|.rg<|.vl (i6<|i+1)<|.go 1<|.en<|.st 1<|.bk (ve N L (cL m cd)<|i+1) ak 270 .no)<|.en<|.st 3<|.rg<|.go 3<|.fk (.en<|.st 1<|.rg<|.go 3<|.kn (i6 ce)<|.vl (i6<|(cL m ce))<|.go 1<|.en<|.st 1<|.rg<|.vl (i6<|i+1)<|.go 1<|.en<|.st 1<|.bk (ve N L (cL m ce)<|i+1) ak 270 .no)<|.en<|.st 3<|.rg<|.vl (i6<|i+1)<|.go 1<|.en<|.st 1<|.bk (ve N L m<|i+1) ak 270 .no)<|.no)<|aT (i<(L:Int)) (fun _=>(dU i (L:Int)<|ai hn<|ai hx<|aT ((ld:Int)>0) (fun _=>(ai (hd ab)<|ai (congrArg (AV.int .i64) (show(match decide (cd>m) with|true=>cd|false=>m)=cL m cd from rfl))<|aT ((le:Int)>0) (fun _=>(ai (he ab)<|ai (congrArg (AV.int .i64) (show(match decide (ce>(cL m cd)) with|true=>ce|false=>(cL m cd))=cL (cL m cd) ce from rfl))<|ai (wI<|i+1)<|FL N L (cL (cL m cd) ce) (i+1) hn (show(cL (cL m cd) ce)=jx ld le m cd ce from by(unfold jx;repeat' split)<;>first|rfl|(exfalso;omega)))) fun _=>(ai (wI<|i+1)<|FL N L (cL m cd) (i+1) hn (show(cL m cd)=jx ld le m cd ce from by(unfold jx;repeat' split)<;>first|rfl|(exfalso;omega))))) fun _=>(aT ((le:Int)>0) (fun _=>(ai (he ab)<|ai (congrArg (AV.int .i64) (show(match decide (ce>m) with|true=>ce|false=>m)=cL m ce from rfl))<|ai (wI<|i+1)<|FL N L (cL m ce) (i+1) hn (show(cL m ce)=jx ld le m cd ce from by(unfold jx;repeat' split)<;>first|rfl|(exfalso;omega)))) fun _=>(ai (wI<|i+1)<|FL N L m (i+1) hn (show m=jx ld le m cd ce from by(unfold jx;repeat' split)<;>first|rfl|(exfalso;omega)))))) gb
theorem afm{m:Int}(mc:Mt [jD k] B)(hm:0<=m/\m<=1000000)(h1:(L:Int)<=i)(hv: .int .i64 (m+1)=v):au pg B 270 (Fin pg (az Tryz.f45) fun y _=>y=v) (xy N L m i)<|ah ak 270:=by exact wS mc (.st 1<|.rg<|.fk (.no)<|.en<|.st 4<|.rg<|.go 1<|.vl (i6<|m+1)<|.go 1<|.en<|.rt 1 .no)<|aT (i<(L:Int)) gb fun _=>(ai (wI<|m+1) (show((i6<|(m+1)):AV)=v from hv))
theorem go_dep(mc:Mt [jD k] B)(hn:top<=N)(H:au pg B 270 (Fin pg (az Tryz.f45) fun y _=>y=v) (xy N L 0 0)<|ah ak 270):au pg B 270 (Fin pg (az Tryz.f45) fun y _=>y=v) (sF 45 Tryz.f45 [(.U N 0 L)])<|ah ak 270:=by exact wC mc (C:=(fun fr s1 _=>fr=xy N L 0 0/\s1=ah ak 270)) mT (.st 9<|.bk (ve N L 0 0) ak 270 .no)<|FL N L 0 0 hn rfl
end
end fQ
end
section
open Go Go.Rn Go.RowKit Go.Proofs
namespace tV
open cj cH cU dm eZ dq fQ
theorem Fo{l:List St}{i:Nat}{a:St}(h:l[i]? =some a){z:Int}(hz:z.toNat=i):cG FU (nm<|bz l) (0+z.toNat*10+0) 10=some (aL a):=by rw[uN,hz,Nat.zero_add,xq mz h 0 10 ab];rw[List.drop_zero,List.take_of_length_le (by rw[mz.len];omega)]
theorem Fx{x y b:Int}(h1:0<=x/\x<=b)(h2:0<=y/\y<=b):0<=cL x y/\cL x y<=b:=by unfold cL;split<;>assumption
theorem VH{ld le:Nat}{m cd ce b:Int}(h1:0<=m/\m<=b)(h2:0<=cd/\cd<=b)(h3:0<=ce/\ce<=b):0<=jx ld le m cd ce/\jx ld le m cd ce<=b:=by
 have h4:=Fx h1 h2;unfold jx;split
 ·split
  ·exact Fx h4 h3
  ·exact Fx h1 h3
 ·split
  ·exact h4
  ·exact h1
theorem N5{b:Int}{f:Int->St->Int}(hf:∀m s,0<=m/\m<=b->0<=f m s/\f m s<=b):∀(l:List St) (m:Int),0<=m/\m<=b->0<=l.foldl f m/\l.foldl f m<=b
 |[],_,h=>h
 |s::l,m,h=>by rw[List.foldl_cons];exact N5 hf l _<|hf m s h
theorem Io:∀(k:Nat) (l:List St),0<=fq k l/\fq k l<=k
 |0,_=>⟨Int.le_refl _,Int.le_refl _⟩
 |k+1,l=>by have:=N5 (b:=k) (f:=fun m s=>jx (bG s).length (bF s).length m (fq k<|bG s)<|fq k<|bF s) (fun m s h=>VH h (Io k _)<|Io k _) l 0 ab;show 0<=l.foldl (fun m s=>jx (bG s).length (bF s).length m (fq k<|bG s)<|fq k<|bF s) 0+1/\l.foldl (fun m s=>jx (bG s).length (bF s).length m (fq k<|bG s)<|fq k<|bF s) 0+1<=_;omega
theorem afo{l:List St}{b:Bool}(h:(l.isEmpty||b)=true)(hl:0<l.length):b=true:=by
 cases l with
 |nil=>simp only[List.length_nil] at hl;omega
 |cons _ _=>exact h
theorem aak(hP:bS pg){k:Nat}(h':aX [jD k]){L:bO}(h:aX L):aX<|jD (k+1)::L:=by
 refine gE hP h h' Tryz.func45 fun args v e=>?_;obtain⟨l,rfl,hd,hk,rfl⟩:=fS e;refine⟨aK.1 aU,fun B mc=>?_⟩;rw[←hI];have hd:(decide (l.length<=1000000)&&l.all fun s=>((bG s).isEmpty||qq k (bG s))&&((bF s).isEmpty||qq k (bF s)))=true:=hd;rw[Bool.and_eq_true,decide_eq_true_eq,List.all_eq_true] at hd;obtain⟨hlen,hd⟩:=hd;have use:∀b:List St,(b.isEmpty||qq k b)=true->0<b.length->bj (aR<|ti k) [.U (nm<|bz b) 0 b.length]=some (i6<|fq k b):=fun b h1 h2=>eO (eK ti.bM ⟨b,rfl,afo h1 h2,by omega,rfl⟩) W2 rfl;have key:∀(r:List St) (i:Nat) (m:Int),l.drop i=r->0<=m/\m<=k->
  au pg B 270 (Fin pg (az Tryz.f45) fun y _=>y= .int .i64 (r.foldl (fun m s=>jx (bG s).length (bF s).length m (fq k<|bG s)<|fq k<|bF s) m+1)) (xy (nm<|bz l) l.length m i) (ah ak 270):=by
  intro r;induction r with
  |nil=>intro i m hr h0;have hi:l.length<=i:=List.drop_eq_nil_iff.1 hr;exact afm (k:=k) mc ab ab rfl
  |cons a r ih=>
   intro i m hr h0;have hl:i<l.length:=by
    by_cases q:i<l.length
    ·exact q
    ·rw[List.drop_of_length_le ab] at hr;cases hr
   have ha:l[i]? =some a:=by have:=congrArg (fun q=>q[0]?) hr;simp only[List.getElem?_drop,List.getElem?_cons_zero,Nat.add_zero] at this;exact this
   have hm:a∈l:=List.mem_of_getElem? ha;have kf:l.drop (i+1)=r:=by have:=congrArg (List.drop 1) hr;rw[List.drop_drop] at this;exact this
   have ux:=hd a hm;rw[Bool.and_eq_true] at ux;have hx:=Fo ha (z:=(i:Int)) ab;have pA:=ih (i+1) _ kf<|VH (ld:=(bG a).length) (le:=(bF a).length) h0 (Io k<|bG a)<|Io k<|bF a;have hb:=use _ ux.1;have he:=use _ ux.2;obtain⟨kd,to,⟨oa,na,la⟩,⟨ob,nb,lb⟩,bd,el⟩:=a;rw[aL,aB,aB] at hx;rw[List.foldl_cons];exact afl (k:=k) mc (cN _) ab hlen hx hb he ab pA
 exact go_dep mc (cN _)<|key l 0 0 (List.drop_zero) ab
theorem Tj(hP:bS pg):∀(k:Nat) {L:bO},aX L->aX (jD k::L)
 |0,L,h=>by refine gE hP h de Tryz.func45 fun args v e=>?_;obtain⟨_,_,hd,_⟩:=fS e;cases hd
 |k+1,L,h=>aak hP (Tj hP k de) h
end tV
end
section
open Go Go.Rn Go.RowKit Go.Proofs
namespace iA
open cj cH cU dm dq eZ BH fQ tV
variable {k N L:Nat} {v:AV} {B:aI} {i:Int}
noncomputable section
def dY(x y:Int):Int:=match decide (y<x) with|true=>y|false=>x
def jO(kd m cd ce:Int):Int:=if kd=4 then dY (m+1+cL cd ce) 2001 else if kd=5 then dY (m+1+8*cd) 2001 else if kd=7 then dY (m+1+(cd+ce)) 2001 else dY (m+1+0) 2001
def fC:St->Int| .mk k _ _ _ _ _=>k
def gi:Nat->List St->Int
 |0,_=>0
 |k+1,l=>l.foldl (fun m s=>jO (fC s) m (gi k<|bG s)<|gi k<|bF s) 0
def kB:Nat->List St->Bool
 |0,_=>false
 |k+1,l=>decide (l.length<=1000000)&&l.all fun s=>kB k (bG s)&&kB k (bF s)
def tH(k:Nat)(args:List AV)(v:AV):Prop:=∃l:List St,args=[.U (nm<|bz l) 0 l.length]/\kB k l=true/\v= .int .i64 (gi k l)
theorem tH.bM(args:List AV)(v v':AV)(h:tH k args v)(h':tH k args v'):v=v':=by obtain⟨l,rfl,_,rfl⟩:=h;obtain⟨l',h1,_,rfl⟩:=h';simp only[List.cons.injEq,AV.U.injEq,_root_.and_true,true_and] at h1;rw[sD _ _<|te (lO l) (lO l') h1.1]
def jG(k:Nat):FuncId×KE:=(46,.val<|aR<|tH k)
def vg(N L:Nat)(m i:Int):List<|Nat×AV:=[(3,(i6 m)),(7,(.U N 0 L)),(8,(i6<|(L:Int))),(9,(i6 i))]
def xz(N L:Nat)(m i:Int):AF:=⟨46,aC<|vg N L m i,(max Tryz.f46.ntmps 1),[.code<|aQ pg 46 [1,1,0,1,0,0],.inLoop<|aQ pg 46 [1,1,0,1,0,0],.inBlock 0,.code<|aQ pg 46 [1,1,1]],[],none⟩
theorem FN(N L:Nat)(m i:Int)(hn:top<=N){M:Int}(e:m=M):((vg N L m i).map (fun q=>some q.2)=(vg N L m i).map (fun q=>some q.2))/\(ak.map (fun q=>q.2)=ak.map (fun q=>q.2))/\tO 270 (vg N L m i) ak/\(xz N L m i=xz N L M i/\ah ak 270=ah ak 270):=⟨rfl,rfl,Ou (fun r r2 p hp=>by simp only[vg,List.mem_cons,List.not_mem_nil,or_false] at hp;rcases hp with rfl|rfl|rfl|rfl<;>first|exact bp.int _ _|exact bp.U (r2 _ hn) r2) rfl,by rw[e],rfl⟩
theorem afp{m:Int}{Na La Nb Lb Nd ld Ne le:Nat}{kd to oa na ob nb cd ce:Int}(mc:Mt [jG k] B)(hn:top<=N)(hi:0<=i)(hL:L<=1000000)(hx:cG FU N (0+i.toNat*10+0) 10=some [(u8<|kd),(i6 to),(u8<|oa),(i6 na),(.U Na 0 La),(u8<|ob),(i6 nb),(.U Nb 0 Lb),(.U Nd 0 ld),(.U Ne 0 le)])(hm:0<=m/\m<=2001)(hd0:0<=cd/\cd<=2001)(he0:0<=ce/\ce<=2001)(hmx:0<=cL cd ce/\cL cd ce<=2001)(hd:bj (aR<|tH k) [(.U Nd 0 ld)]=some (.int .i64 cd))(he:bj (aR<|tH k) [(.U Ne 0 le)]=some (.int .i64 ce))(h1:i<(L:Int))(H:au pg B 270 (Fin pg (az Tryz.f46) fun y _=>y=v) (xz N L (jO kd m cd ce)<|i+1)<|ah ak 270):au pg B 270 (Fin pg (az Tryz.f46) fun y _=>y=v) (xz N L m i)<|ah ak 270:=by exact wC mc (C:=(fun fr s1 _=>fr=xz N L (jO kd m cd ce) (i+1)/\s1=ah ak 270)) mT (.st 1<|.rg<|.fk (.en<|.st 6<|.rg<|.eF<|.eG [(u8<|kd),(i6 to),(u8<|oa),(i6 na),(.U Na 0 La),(u8<|ob),(i6 nb),(.U Nb 0 Lb),(.U Nd 0 ld),(.U Ne 0 le)]<|.go 2<|.en<|.st 7<|.rg<|.fk (.go 1<|.en<|.st 1<|.rg<|.go 2<|.kn (i6 cd)<|.go 2<|.kn (i6 ce)<|.vl (i6<|(cL cd ce))<|.go 1<|.en<|.st 1<|.rg<|.go 1<|.vl (i6<|m+1)<|.go 1<|.vl (i6<|(m+1)+(cL cd ce))<|.vl (i6<|(dY ((m+1)+(cL cd ce)) (2001:Int)))<|.go 1<|.en<|.st 1<|.rg<|.vl (i6<|i+1)<|.go 1<|.en<|.st 1<|.bk (vg N L (dY ((m+1)+(cL cd ce)) (2001:Int))<|i+1) ak 270 .no)<|.go 1<|.en<|.st 2<|.rg<|.fk (.go 1<|.en<|.st 1<|.rg<|.go 2<|.kn (i6 cd)<|.vl (i6<|8*cd)<|.go 1<|.en<|.st 1<|.rg<|.go 1<|.vl (i6<|m+1)<|.go 1<|.vl (i6<|(m+1)+(8*cd))<|.vl (i6<|(dY ((m+1)+(8*cd)) (2001:Int)))<|.go 1<|.en<|.st 1<|.rg<|.vl (i6<|i+1)<|.go 1<|.en<|.st 1<|.bk (vg N L (dY ((m+1)+(8*cd)) (2001:Int))<|i+1) ak 270 .no)<|.go 1<|.en<|.st 2<|.rg<|.fk (.go 1<|.en<|.st 1<|.rg<|.go 2<|.kn (i6 cd)<|.go 2<|.kn (i6 ce)<|.vl (i6<|cd+ce)<|.go 1<|.en<|.st 1<|.rg<|.go 1<|.vl (i6<|m+1)<|.go 1<|.vl (i6<|(m+1)+(cd+ce))<|.vl (i6<|(dY ((m+1)+(cd+ce)) (2001:Int)))<|.go 1<|.en<|.st 1<|.rg<|.vl (i6<|i+1)<|.go 1<|.en<|.st 1<|.bk (vg N L (dY ((m+1)+(cd+ce)) (2001:Int))<|i+1) ak 270 .no)<|.go 1<|.en<|.st 3<|.rg<|.go 1<|.vl (i6<|m+1)<|.go 1<|.vl (i6<|(m+1)+0)<|.vl (i6<|(dY ((m+1)+0) (2001:Int)))<|.go 1<|.en<|.st 1<|.rg<|.vl (i6<|i+1)<|.go 1<|.en<|.st 1<|.bk (vg N L (dY ((m+1)+0) (2001:Int))<|i+1) ak 270 .no)<|.no)<|aT (i<(L:Int)) (fun _=>(dU i (L:Int)<|ai hn<|ai hx<|aT (kd=4) (fun _=>(ai hd<|ai he<|ai (congrArg (AV.int .i64) (show(match decide (ce>cd) with|true=>ce|false=>cd)=cL cd ce from rfl))<|ai (wI<|m+1)<|ai (wI<|(m+1)+(cL cd ce))<|ai (congrArg (AV.int .i64) (show(match decide ((2001:Int)<((m+1)+(cL cd ce))) with|true=>(2001:Int)|false=>((m+1)+(cL cd ce)))=dY ((m+1)+(cL cd ce)) (2001:Int) from rfl))<|ai (wI<|i+1)<|FN N L (dY ((m+1)+(cL cd ce)) (2001:Int)) (i+1) hn (show(dY ((m+1)+(cL cd ce)) (2001:Int))=jO kd m cd ce from by(unfold jO;repeat' split)<;>first|rfl|(exfalso;omega)))) fun _=>(aT (kd=5) (fun _=>(ai hd<|ai (wI<|8*cd)<|ai (wI<|m+1)<|ai (wI<|(m+1)+(8*cd))<|ai (congrArg (AV.int .i64) (show(match decide ((2001:Int)<((m+1)+(8*cd))) with|true=>(2001:Int)|false=>((m+1)+(8*cd)))=dY ((m+1)+(8*cd)) (2001:Int) from rfl))<|ai (wI<|i+1)<|FN N L (dY ((m+1)+(8*cd)) (2001:Int)) (i+1) hn (show(dY ((m+1)+(8*cd)) (2001:Int))=jO kd m cd ce from by(unfold jO;repeat' split)<;>first|rfl|(exfalso;omega)))) fun _=>(aT (kd=7) (fun _=>(ai hd<|ai he<|ai (wI<|cd+ce)<|ai (wI<|m+1)<|ai (wI<|(m+1)+(cd+ce))<|ai (congrArg (AV.int .i64) (show(match decide ((2001:Int)<((m+1)+(cd+ce))) with|true=>(2001:Int)|false=>((m+1)+(cd+ce)))=dY ((m+1)+(cd+ce)) (2001:Int) from rfl))<|ai (wI<|i+1)<|FN N L (dY ((m+1)+(cd+ce)) (2001:Int)) (i+1) hn (show(dY ((m+1)+(cd+ce)) (2001:Int))=jO kd m cd ce from by(unfold jO;repeat' split)<;>first|rfl|(exfalso;omega)))) fun _=>(ai (wI<|m+1)<|ai (wI<|(m+1)+0)<|ai (congrArg (AV.int .i64) (show(match decide ((2001:Int)<((m+1)+0)) with|true=>(2001:Int)|false=>((m+1)+0))=dY ((m+1)+0) (2001:Int) from rfl))<|ai (wI<|i+1)<|FN N L (dY ((m+1)+0) (2001:Int)) (i+1) hn (show(dY ((m+1)+0) (2001:Int))=jO kd m cd ce from by(unfold jO;repeat' split)<;>first|rfl|(exfalso;omega))))))) gb
theorem afq{m:Int}(mc:Mt [jG k] B)(h1:(L:Int)<=i)(hv: .int .i64 m=v):au pg B 270 (Fin pg (az Tryz.f46) fun y _=>y=v) (xz N L m i)<|ah ak 270:=by exact wS mc (.st 1<|.rg<|.fk (.no)<|.en<|.rt 6 .no)<|aT (i<(L:Int)) gb fun _=>(show((i6 m):AV)=v from hv)
theorem go_cos(mc:Mt [jG k] B)(hn:top<=N)(H:au pg B 270 (Fin pg (az Tryz.f46) fun y _=>y=v) (xz N L 0 0)<|ah ak 270):au pg B 270 (Fin pg (az Tryz.f46) fun y _=>y=v) (sF 46 Tryz.f46 [(.U N 0 L)])<|ah ak 270:=by exact wC mc (C:=(fun fr s1 _=>fr=xz N L 0 0/\s1=ah ak 270)) mT (.st 9<|.bk (vg N L 0 0) ak 270 .no)<|FN N L 0 0 hn rfl
end
end iA
end
section
open Go Go.Rn Go.RowKit Go.Proofs
namespace F9
open cj cH cU dm eZ dq fQ tV iA
theorem UP{x:Int}(h1:0<=x):0<=dY x 2001/\dY x 2001<=2001:=by
 unfold dY;split<;>rename_i q
 ·omega
 ·have:=of_decide_eq_false q;omega
theorem VI{kd m cd ce:Int}(h1:0<=m/\m<=2001)(h2:0<=cd/\cd<=2001)(h3:0<=ce/\ce<=2001):0<=jO kd m cd ce/\jO kd m cd ce<=2001:=by
 have h4:=Fx h2 h3;unfold jO
 repeat' split
 all_goals exact UP ab
theorem CW:∀(k:Nat) (l:List St),0<=gi k l/\gi k l<=2001
 |0,_=>⟨Int.le_refl _,by show(0:Int)<=2001;omega⟩
 |k+1,l=>N5 (b:=2001) (f:=fun m s=>jO (fC s) m (gi k<|bG s)<|gi k<|bF s) (fun m s h=>VI h (CW k _)<|CW k _) l 0 ab
theorem aa8(hP:bS pg){k:Nat}(h':aX [jG k]){L:bO}(h:aX L):aX<|jG (k+1)::L:=by
 refine gE hP h h' Tryz.func46 fun args v e=>?_;obtain⟨l,rfl,hd,rfl⟩:=fS e;refine⟨aK.1 aU,fun B mc=>?_⟩;rw[←hI];have hd:(decide (l.length<=1000000)&&l.all fun s=>kB k (bG s)&&kB k (bF s))=true:=hd;rw[Bool.and_eq_true,decide_eq_true_eq,List.all_eq_true] at hd;obtain⟨hlen,hd⟩:=hd;have use:∀b:List St,kB k b=true->bj (aR<|tH k) [.U (nm<|bz b) 0 b.length]=some (i6<|gi k b):=fun b h1=>eO (eK tH.bM ⟨b,rfl,h1,rfl⟩) W2 rfl;have key:∀(r:List St) (i:Nat) (m:Int),l.drop i=r->0<=m/\m<=2001->
  au pg B 270 (Fin pg (az Tryz.f46) fun y _=>y= .int .i64 (r.foldl (fun m s=>jO (fC s) m (gi k<|bG s)<|gi k<|bF s) m)) (xz (nm<|bz l) l.length m i) (ah ak 270):=by
  intro r;induction r with
  |nil=>intro i m hr h0;have hi:l.length<=i:=List.drop_eq_nil_iff.1 hr;exact afq (k:=k) mc ab rfl
  |cons a r ih=>
   intro i m hr h0;have hl:i<l.length:=by
    by_cases q:i<l.length
    ·exact q
    ·rw[List.drop_of_length_le ab] at hr;cases hr
   have ha:l[i]? =some a:=by have:=congrArg (fun q=>q[0]?) hr;simp only[List.getElem?_drop,List.getElem?_cons_zero,Nat.add_zero] at this;exact this
   have hm:a∈l:=List.mem_of_getElem? ha;have kf:l.drop (i+1)=r:=by have:=congrArg (List.drop 1) hr;rw[List.drop_drop] at this;exact this
   have ux:=hd a hm;rw[Bool.and_eq_true] at ux;have hx:=Fo ha (z:=(i:Int)) ab;have b1:=CW k<|bG a;have b2:=CW k<|bF a;have pA:=ih (i+1) _ kf<|VI (kd:=fC a) h0 b1 b2;have hb:=use _ ux.1;have he:=use _ ux.2;obtain⟨kd,to,⟨oa,na,la⟩,⟨ob,nb,lb⟩,bd,el⟩:=a;rw[aL,aB,aB] at hx;rw[List.foldl_cons];exact afp (k:=k) mc (cN _) ab hlen hx h0 b1 b2 (Fx b1 b2) hb he ab pA
 exact go_cos mc (cN _)<|key l 0 0 (List.drop_zero) ab
theorem T4(hP:bS pg):∀(k:Nat) {L:bO},aX L->aX (jG k::L)
 |0,L,h=>by refine gE hP h de Tryz.func46 fun args v e=>?_;obtain⟨_,_,hd,_⟩:=fS e;cases hd
 |k+1,L,h=>aa8 hP (T4 hP k de) h
end F9
end
section
open Go Go.Rn Go.RowKit Go.Proofs
namespace vP
open cj cH cU dm fF dq
variable {N k N1 N0 L1 L0:Nat} {B:aI} {x1 x0 bQ n1 n0:Int}
def rz:Nat->Ex->Int->Bool
 |0,_,_=>true
 |k+1,.mk op n args,z=> !(decide<|op=3/\n>=z)&&args.all fun a=>rz k a z
def xA(k:Nat)(args:List AV)(v:AV):Prop:=∃(e:Ex) (z:Int),args=[.agg<|aB e,.int .i64 z]/\eP k e=true/\v= .bool (rz k e z)
noncomputable def Jm(k:Nat):FuncId×KE:=(81,.val<|aR<|xA k)
theorem ack{N0 L0 N1 L1:Nat}{op n z bQ n0 cz n1 x0 x1:Int}(mc:Mt [Jm k] B):au pg B 270 (Fin pg (az Tryz.f81) fun y _=>y=(.bool<|decide<|¬(op=3/\n>=z))) (sF 81 Tryz.f81 [(.agg [(u8<|op),(i6 n),(.U N 0 0)]),(i6 z)])<|ah ak 270:=by exact wS mc (.st 4<|.rg<|.go 2<|.fk (.go 4<|.fk (.go 1<|.en<|.rt 4 .no)<|.go 1<|.en<|.st 3<|.rg<|.go 3<|.il<|.st 3<|.rg<|.go 2<|.il<|.rt 15<|.go 2<|.en<|.rt 1<|.go 2<|.en<|.rt 1 .no)<|.go 6<|.en<|.st 3<|.rg<|.go 3<|.il<|.st 3<|.rg<|.go 2<|.il<|.rt 15<|.go 2<|.en<|.rt 1<|.go 2<|.en<|.rt 1 .no)<|aT (op=3) (fun _=>(aT (n>=z) (fun _=>(show AV.bool false= .bool (decide<|¬(op=3/\n>=z)) from by rw[decide_eq_false ab])) fun _=>(show AV.bool true= .bool (decide<|¬(op=3/\n>=z)) from by rw[decide_eq_true ab]))) fun _=>(show AV.bool true= .bool (decide<|¬(op=3/\n>=z)) from by rw[decide_eq_true ab])
theorem acm{op n z cz:Int}(mc:Mt [Jm k] B)(hn:top<=N)(sf:cG FU N (0+(0:Int).toNat*3+0) 3=some [(u8<|bQ),(i6 n0),(.U N0 0 L0)])(jr:bj (aR<|xA k) [(.agg [(u8<|bQ),(i6 n0),(.U N0 0 L0)]),(i6 z)]=some (.bool<|decide<|x0=1))(iZ:cG FU N (0+(1:Int).toNat*3+0) 3=some [(u8<|cz),(i6 n1),(.U N1 0 L1)])(jJ:bj (aR<|xA k) [(.agg [(u8<|cz),(i6 n1),(.U N1 0 L1)]),(i6 z)]=some (.bool<|decide<|x1=1)):au pg B 270 (Fin pg (az Tryz.f81) fun y _=>y=(.bool<|decide<|¬(op=3/\n>=z)/\x0=1/\x1=1)) (sF 81 Tryz.f81 [(.agg [(u8<|op),(i6 n),(.U N 0 2)]),(i6 z)])<|ah ak 270:=by exact wS mc (.st 4<|.rg<|.go 2<|.fk (.go 4<|.fk (.go 1<|.en<|.rt 4 .no)<|.go 1<|.en<|.st 3<|.rg<|.go 3<|.il<|.st 3<|.rg<|.go 2<|.il<|.st 17<|.rg<|.go 3<|.eF<|.eG [(u8<|bQ),(i6 n0),(.U N0 0 L0)]<|.il<|.st 3<|.rg<|.go 2<|.kp (x0=1) inferInstance (.go 2<|.en<|.rt 1<|.en<|.st 15<|.rg<|.go 3<|.eF<|.eG [(u8<|cz),(i6 n1),(.U N1 0 L1)]<|.il<|.st 3<|.rg<|.go 2<|.kp (x1=1) inferInstance (.go 2<|.en<|.rt 1<|.en<|.rt 13<|.go 2<|.en<|.rt 1<|.go 2<|.en<|.rt 1 .no)<|.go 2<|.en<|.rt 1<|.en<|.rt 4<|.go 2<|.en<|.rt 1<|.go 2<|.en<|.rt 1 .no)<|.go 2<|.en<|.rt 1<|.en<|.rt 4<|.go 2<|.en<|.rt 1<|.go 2<|.en<|.rt 1 .no)<|.go 6<|.en<|.st 3<|.rg<|.go 3<|.il<|.st 3<|.rg<|.go 2<|.il<|.st 17<|.rg<|.go 3<|.eF<|.eG [(u8<|bQ),(i6 n0),(.U N0 0 L0)]<|.il<|.st 3<|.rg<|.go 2<|.kp (x0=1) inferInstance (.go 2<|.en<|.rt 1<|.en<|.st 15<|.rg<|.go 3<|.eF<|.eG [(u8<|cz),(i6 n1),(.U N1 0 L1)]<|.il<|.st 3<|.rg<|.go 2<|.kp (x1=1) inferInstance (.go 2<|.en<|.rt 1<|.en<|.rt 13<|.go 2<|.en<|.rt 1<|.go 2<|.en<|.rt 1 .no)<|.go 2<|.en<|.rt 1<|.en<|.rt 4<|.go 2<|.en<|.rt 1<|.go 2<|.en<|.rt 1 .no)<|.go 2<|.en<|.rt 1<|.en<|.rt 4<|.go 2<|.en<|.rt 1<|.go 2<|.en<|.rt 1 .no)<|aT (op=3) (fun _=>(aT (n>=z) (fun _=>(show AV.bool false= .bool (decide<|¬(op=3/\n>=z)/\x0=1/\x1=1) from by rw[decide_eq_false ab])) WW)) WW
theorem afs{L:Nat}{op n z x y1:Int}(mc:Mt [P4,Jm 6] B)(hc:bj (aR vO) [(.agg [(u8<|op),(i6 n),(.U N 0 L)])]=some (.bool<|decide<|x=1))(hb:x=1->bj (aR<|xA 6) [(.agg [(u8<|op),(i6 n),(.U N 0 L)]),(i6 z)]=some (.bool<|decide<|y1=1)):au pg B 270 (Fin pg (az Tryz.f69) fun y _=>y=(.bool<|decide<|x=1/\y1=1)) (sF 69 Tryz.f69 [(.agg [(u8<|op),(i6 n),(.U N 0 L)]),(i6 z)])<|ah ak 270:=by exact wS mc (.st 3<|.rg<|.go 1<|.kp (x=1) inferInstance (.go 3<|.kp (y1=1) inferInstance (.go 2<|.en<|.rt 1 .no)<|.go 2<|.en<|.rt 1 .no)<|.go 6<|.en<|.rt 1 .no)<|ai hc<|aT (x=1) (fun _=>(ai (hb ab)<|aT (y1=1) (fun _=>(show AV.bool true= .bool (decide<|x=1/\y1=1) from by rw[decide_eq_true ab])) fun _=>(show AV.bool false= .bool (decide<|x=1/\y1=1) from by rw[decide_eq_false ab]))) fun _=>(show AV.bool false= .bool (decide<|x=1/\y1=1) from by rw[decide_eq_false ab])
end vP
end
section
open Go Go.Rn Go.RowKit Go.Proofs
namespace xN
open cj cH cU dm fF dq vP
variable {k:Nat} {e:Ex}
theorem Tk{op n:Int}{l:List Ex}(h:eP (k+1) (.mk op n l)=true):l=[]\/∃a b,l=[a,b]/\eP k a=true/\eP k b=true:=by
 rw[L8] at h;split at h
 ·exact .inl<|List.isEmpty_iff.1 h
 split at h
 ·rw[Bool.and_eq_true,Bool.and_eq_true] at h;exact .inl<|List.isEmpty_iff.1 h.1.1
 split at h
 ·rw[Bool.and_eq_true,Bool.and_eq_true] at h;exact .inl<|List.isEmpty_iff.1 h.1.1
 split at h
 ·cases h
 rw[Bool.and_eq_true,Bool.and_eq_true,decide_eq_true_eq] at h
 match l,h with
 |[a,b],h=>exact .inr ⟨a,b,rfl,h.1.2,h.2⟩
theorem xA.bM(args:List AV)(v v':AV)(h:xA k args v)(h':xA k args v'):v=v':=by obtain⟨e,z,rfl,_,rfl⟩:=h;obtain⟨e',z',h1,_,rfl⟩:=h';simp only[List.cons.injEq,AV.agg.injEq,AV.int.injEq,true_and,_root_.and_true] at h1;rw[ny _ _ h1.1,h1.2]
theorem Nk{z:Int}(hw:eP k e=true):bj (aR<|xA k) [.agg<|aB e,.int .i64 z]=some (.bool<|decide<|bit (rz k e z)=1):=by rw[w9];exact eO (eK xA.bM ⟨e,z,rfl,hw,rfl⟩) rM rfl
theorem DY(b:Bool):bit b=1↔b=true:=by cases b<;>decide
theorem Tl(hP:bS pg):∀(k:Nat) {L:bO},aX L->aX (Jm k::L)
 |0,L,h=>by refine gE hP h de Tryz.func81 fun args v e=>?_;obtain⟨_,_,_,hw,_⟩:=fS e;cases hw
 |k+1,L,h=>by
  refine gE hP h (Tl hP k de) Tryz.func81 fun args v e=>?_;obtain⟨⟨op,n,l⟩,z,rfl,hw,rfl⟩:=fS e;refine⟨aK.1 aU,fun B mc=>?_⟩;rw[←hI];rcases Tk hw with rfl|⟨a,b,rfl,w0,w1⟩
  ·have key:=ack (L0:=0) (N1:=0) (L1:=0) (N0:=0) (bQ:=0) (n0:=0) (cz:=0) (n1:=0) (x0:=0) (x1:=0) (N:=nm<|cK []) (op:=op) (n:=n) (z:=z) mc;rw[aB,show rz (k+1) (.mk op n []) z=decide (¬(op=3/\n>=z)) from by show(!(decide<|op=3/\n>=z)&&true)=_;rw[Bool.and_true,decide_not]];exact key
  ·obtain⟨bQ,n0,l0⟩:=a;obtain⟨cz,n1,l1⟩:=b;have t0:=yU (l:=[Ex.mk bQ n0 l0,.mk cz n1 l1]) (i:=0) (a:=.mk bQ n0 l0) rfl (z:=0) rfl;have t1:=yU (l:=[Ex.mk bQ n0 l0,.mk cz n1 l1]) (i:=1) (a:=.mk cz n1 l1) rfl (z:=1) rfl;have c0:=Nk (z:=z) w0;have c1:=Nk (z:=z) w1;rw[aB] at t0 t1 c0 c1;have key:=acm (op:=op) (n:=n) (z:=z) mc (cN _) t0 c0 t1 c1;rw[aB,show rz (k+1) (.mk op n [.mk bQ n0 l0,.mk cz n1 l1]) z=decide (¬(op=3/\n>=z)/\bit (rz k (.mk bQ n0 l0) z)=1/\bit (rz k (.mk cz n1 l1) z)=1) from by show(!(decide<|op=3/\n>=z)&&(rz k (.mk bQ n0 l0) z&&(rz k (.mk cz n1 l1) z&&true)))=_;rw[Bool.and_true,Bool.eq_iff_iff,decide_eq_true_eq,DY,DY,Bool.and_eq_true,Bool.and_eq_true, ←decide_not,decide_eq_true_eq]];exact key
def Ks(e:Ex)(z:Int):Bool:=eP 6 e&&rz 6 e z
def oJ(args:List AV)(v:AV):Prop:=∃(e:Ex) (z:Int),args=[.agg<|aB e,.int .i64 z]/\v= .bool (Ks e z)
theorem oJ.bM(args:List AV)(v v':AV)(h:oJ args v)(h':oJ args v'):v=v':=by obtain⟨e,z,rfl,rfl⟩:=h;obtain⟨e',z',h1,rfl⟩:=h';simp only[List.cons.injEq,AV.agg.injEq,AV.int.injEq,true_and,_root_.and_true] at h1;rw[ny _ _ h1.1,h1.2]
noncomputable def vC:FuncId×KE:=(69,.val<|aR oJ)
theorem Ot:bj (aR vO) [.agg<|aB e]=some (.bool<|decide<|bit (eP 6 e)=1):=by rw[w9];exact eO (eK vO.bM ⟨e,rfl,rfl⟩) rM rfl
theorem acn(hP:bS pg){L:bO}(h:aX L):aX<|vC::L:=by refine gE hP h (UO hP<|Tl hP 6 de) Tryz.func69 fun args v e=>?_;obtain⟨⟨op,n,l⟩,z,rfl,rfl⟩:=fS e;refine⟨aK.1 aU,fun B mc=>?_⟩;rw[←hI];have c0:=Ot (e:=.mk op n l);have c1:bit (eP 6<|.mk op n l)=1->_:=fun hx=>Nk (k:=6) (e:=.mk op n l) (z:=z)<|(DY _).1 hx;rw[aB] at c0 c1;have key:=afs mc c0 c1;rw[aB,show Ks (.mk op n l) z=decide (bit (eP 6<|.mk op n l)=1/\bit (rz 6 (.mk op n l) z)=1) from by rw[Bool.eq_iff_iff,decide_eq_true_eq,DY,DY];exact Bool.and_eq_true _ _▸Iff.rfl];exact key
end xN
end
section
open Go Go.Rn Go.RowKit Go.Proofs
namespace mQ
open cj cH cU dm eZ fQ dq
variable {K:Cb} {k N L ld Ne Nd Nb Na Lb La:Nat} {L0:bO} {B:aI} {pf p:fx} {i to ob oa nb na kd:Int} {g:Option ae} {x2 x1 w2 w1 u2 u1:AV} {bN:Option Code}
noncomputable section
abbrev mA:=St->AV->AV->Option fx
def kL(ek:List St->AV->AV->Option fx)(rd:mA):List St->AV->AV->Option fx
 |[],v1,v2=>some ⟨true,v1,v2,none⟩
 |s::r,v1,v2=>match rd s v1 v2 with
  |none=>none
  |some p=>match p.ret with
   |false=>some p
   |true=>match ek (bG s) p.v1 p.v2 with
    |none=>none
    |some q=>match q.ret with
     |false=>some q
     |true=>match ek (bF s) q.v1 q.v2 with
      |none=>none
      |some u=>match u.ret with
       |false=>some u
       |true=>kL ek rd r u.v1 u.v2
def fE(rd:mA):Nat->List St->AV->AV->Option fx
 |0,_,_,_=>none
 |k+1,l,v1,v2=>match decide (l.length<=1000000) with
  |true=>kL (fE rd k) rd l v1 v2
  |false=>none
open Classical in
def FO(x:AV):Option<|List St:=if h:∃l:List St,x= .U (nm<|bz l) 0 l.length then some h.choose else none
open Classical in
def zr(rd:mA)(k:Nat)(x v1 v2:AV):Option fx:=match FO x with
 |none=>none
 |some l=>if okB v1/\okB v2 then fE rd k l v1 v2 else none
def dh(K:Cb)(rd:mA)(k:Nat):FuncId×KE:=(66,.raw<|qQ K<|zr rd k)
def oE(K:Cb)(v1 v2:AV):List<|Nat×Option ae:=ak++[(270,some<|Cb.loop K none 272 273 271),(271,some .defs),(272,some<|eN v1),(273,some<|eN v2)]
def sE(K:Cb)(v1 v2:AV)(c:List AV):AS:=ah (oE K v1 v2++[(274,some<|.cells 10 (Tr.fill c 0 .nil) [])]) 275
def sA(K:Cb)(bN:Option Code)(v1 v2:AV)(c:List AV)(g:Option ae):AS:=ah (ak++[(270,some<|Cb.loop K bN 272 273 271),(271,some .defs),(272,some<|eN v1),(273,some<|eN v2),(274,some<|.cells 10 (Tr.fill c 0 .nil) []),(275,g)]) 276
def Ew(L:bO):Env:=yd pg 270 dV dH L 274 true
def W7(K:Cb)(p:fx)(s':AS)(y:AV):Prop:=y= .bool p.ret/\s'.h.get 270=some (Cb.loop K p.bN 272 273 271)/\s'.h.get 271=some .defs/\s'.h.get 272=some (eN p.v1)/\s'.h.get 273=some (eN p.v2)
end
theorem VJ:fL<=274:=Nat.le_trans gT ab
theorem P5{o4:Option ae}{nx:Nat}:W7 K p (ah (ak++[(270,some<|Cb.loop K p.bN 272 273 271),(271,some .defs),(272,some<|eN p.v1),(273,some<|eN p.v2),(274,o4),(275,g)]) nx)<|.bool p.ret:=⟨rfl,by kernel_rfl,by kernel_rfl,by kernel_rfl,by kernel_rfl⟩
theorem ags{nx:Nat}:W7 K p (ah (ak++[(270,some<|Cb.loop K p.bN 272 273 271),(271,some .defs),(272,some<|eN p.v1),(273,some<|eN p.v2)]) nx)<|.bool p.ret:=⟨rfl,by kernel_rfl,by kernel_rfl,by kernel_rfl,by kernel_rfl⟩
theorem aft{v1 v2:AV}{l:List<|Nat×AV}(h:∀r:Nat->Nat,(∀k,k<274->r k=k)->(∀k,top<=k->r k=k)->∀p∈l,bp r p.2 p.2)(jM:K.s1<top)(kH:K.s2<top)(mP:K.s1≠K.s2)(iZ:okB v1)(pW:okB v2):tO 274 l<|oE K v1 v2:=by
 intro r r1 r2;refine⟨h r r1 r2,fun p hp x hx=>?_⟩;rcases List.mem_append.1 hp with hp|hp
 ·exact Fm (nx:=270) (fun k hk=>r1 k ab) bW p hp x hx
 ·simp only[List.mem_cons,List.not_mem_nil,or_false] at hp;rcases hp with rfl|rfl|rfl|rfl<;>cases hx
  ·exact ab9 jM kH mP (r1 _ ab) (r1 _ ab)<|r1 _ ab
  ·exact aca
  ·exact UK iZ r2
  ·exact UK pW r2
noncomputable def Bo(N L:Nat)(i:Int):List<|Nat×AV:=[(1,(.yield 270)),(7,(.U N 0 L)),(8,(i6<|(L:Int))),(9,(i6 i))]
noncomputable def rC(N L:Nat)(i:Int):AF:=⟨66,aC<|Bo N L i,(max Tryz.f66.ntmps 2),[.code<|aQ pg 66 [1,0,1,0,0],.inLoop<|aQ pg 66 [1,0,1,0,0],.inBlock 0,.code<|aQ pg 66 [1,1]],[],none⟩
theorem Wo{v1 v2:AV}(N L:Nat)(i:Int)(hn:top<=N)(jM:K.s1<top)(kH:K.s2<top)(mP:K.s1≠K.s2)(iZ:okB v1)(pW:okB v2):((Bo N L i).map (fun q=>some q.2)=(Bo N L i).map (fun q=>some q.2))/\((oE K v1 v2).map (fun q=>q.2)=(oE K v1 v2).map (fun q=>q.2))/\tO 274 (Bo N L i) (oE K v1 v2)/\(rC N L i=rC N L i/\ah (oE K v1 v2) 274=ah (oE K v1 v2) 274):=⟨rfl,rfl,aft (fun r r1 r2 p hp=>by simp only[Bo,List.mem_cons,List.not_mem_nil,or_false] at hp;rcases hp with rfl|rfl|rfl|rfl<;>first|exact bp.int _ _|exact bp.bool _|exact bp.U (r2 _ hn) r2|exact bp.yield<|r1 270 ab) jM kH mP iZ pW,rfl,rfl⟩
noncomputable abbrev fl(kd to oa na:Int)(Na La:Nat)(ob nb:Int)(Nb Lb Nd ld Ne le:Nat):List AV:=[(u8<|kd),(i6 to),(u8<|oa),(i6 na),(.U Na 0 La),(u8<|ob),(i6 nb),(.U Nb 0 Lb),(.U Nd 0 ld),(.U Ne 0 le)]
theorem ah8{rd:mA}{v1 v2 u1 u2 x1 x2:AV}{pf:fx}{le:Nat}(mc:Mt (dh K rd k::L0) B)(hn:top<=N)(hi:0<=i)(hL:L<=1000000)(hx:cG FU N (0+i.toNat*10+0) 10=some (fl kd to oa na Na La ob nb Nb Lb Nd ld Ne le))(hr:aZ pg (sp<|dh K rd k::L0) FU 6 (.round 270) [.agg<|fl kd to oa na Na La ob nb Nb Lb Nd ld Ne le] (sE K v1 v2<|fl kd to oa na Na La ob nb Nb Lb Nd ld Ne le)= .ok (.bool false) (sA K bN w1 w2 (fl kd to oa na Na La ob nb Nb Lb Nd ld Ne le) g))(h1:i<(L:Int)):au pg B 274 (rO K 270 pg (az Tryz.f66) ⟨false,w1,w2,bN⟩) (rC N L i)<|ah (oE K v1 v2) 274:=by exact me (E:=Ew<|dh K rd k::L0) eT rfl bI mc.2.2.1 mc.2.2.2 900 (.st 1<|.rg<|.fk (.en<|.st 6<|.rg<|.eF<|.eG (fl kd to oa na Na La ob nb Nb Lb Nd ld Ne le)<|.go 2<|.en<|.st 1<|.rg<|.go 2<|.cy (.bool false) (sA K bN w1 w2 (fl kd to oa na Na La ob nb Nb Lb Nd ld Ne le) g)<|.go 15<|.en<|.rt 4 .no)<|.no)<|aT (i<(L:Int)) (fun _=>(dU i (L:Int)<|ai hn<|ai hx<|ai hr<|P5 (K:=K) (p:=⟨false,w1,w2,bN⟩) (o4:=some<|.cells 10 (Tr.fill (fl kd to oa na Na La ob nb Nb Lb Nd ld Ne le) 0 .nil) []) (g:=g) (nx:=276))) gb
theorem ah9{rd:mA}{v1 v2 x1 x2:AV}{pf:fx}{le:Nat}(mc:Mt (dh K rd k::L0) B)(hn:top<=N)(hi:0<=i)(hL:L<=1000000)(hx:cG FU N (0+i.toNat*10+0) 10=some (fl kd to oa na Na La ob nb Nb Lb Nd ld Ne le))(hr:aZ pg (sp<|dh K rd k::L0) FU 6 (.round 270) [.agg<|fl kd to oa na Na La ob nb Nb Lb Nd ld Ne le] (sE K v1 v2<|fl kd to oa na Na La ob nb Nb Lb Nd ld Ne le)= .ok (.bool true) (sA K none w1 w2 (fl kd to oa na Na La ob nb Nb Lb Nd ld Ne le) g))(hb:aZ pg (sp<|dh K rd k::L0) FU 6 (.fn 66) [.U Nd 0 ld,.yield 270] (sA K none w1 w2 (fl kd to oa na Na La ob nb Nb Lb Nd ld Ne le) g)= .ok (.bool false) (sA K bN u1 u2 (fl kd to oa na Na La ob nb Nb Lb Nd ld Ne le) g))(h1:i<(L:Int)):au pg B 274 (rO K 270 pg (az Tryz.f66) ⟨false,u1,u2,bN⟩) (rC N L i)<|ah (oE K v1 v2) 274:=by exact me (E:=Ew<|dh K rd k::L0) eT rfl bI mc.2.2.1 mc.2.2.2 900 (.st 1<|.rg<|.fk (.en<|.st 6<|.rg<|.eF<|.eG (fl kd to oa na Na La ob nb Nb Lb Nd ld Ne le)<|.go 2<|.en<|.st 1<|.rg<|.go 2<|.cy (.bool true) (sA K none w1 w2 (fl kd to oa na Na La ob nb Nb Lb Nd ld Ne le) g)<|.go 5<|.cu (.bool false) (sA K bN u1 u2 (fl kd to oa na Na La ob nb Nb Lb Nd ld Ne le) g)<|.go 9<|.en<|.rt 4 .no)<|.no)<|aT (i<(L:Int)) (fun _=>(dU i (L:Int)<|ai hn<|ai hx<|ai hr<|ai hb<|P5 (K:=K) (p:=⟨false,u1,u2,bN⟩) (o4:=some<|.cells 10 (Tr.fill (fl kd to oa na Na La ob nb Nb Lb Nd ld Ne le) 0 .nil) []) (g:=g) (nx:=276))) gb
theorem aia{rd:mA}{v1 v2:AV}{pf:fx}{le:Nat}(mc:Mt (dh K rd k::L0) B)(hn:top<=N)(hi:0<=i)(hL:L<=1000000)(hx:cG FU N (0+i.toNat*10+0) 10=some (fl kd to oa na Na La ob nb Nb Lb Nd ld Ne le))(hr:aZ pg (sp<|dh K rd k::L0) FU 6 (.round 270) [.agg<|fl kd to oa na Na La ob nb Nb Lb Nd ld Ne le] (sE K v1 v2<|fl kd to oa na Na La ob nb Nb Lb Nd ld Ne le)= .ok (.bool true) (sA K none w1 w2 (fl kd to oa na Na La ob nb Nb Lb Nd ld Ne le) g))(hb:aZ pg (sp<|dh K rd k::L0) FU 6 (.fn 66) [.U Nd 0 ld,.yield 270] (sA K none w1 w2 (fl kd to oa na Na La ob nb Nb Lb Nd ld Ne le) g)= .ok (.bool true) (sA K none u1 u2 (fl kd to oa na Na La ob nb Nb Lb Nd ld Ne le) g))(ho:aZ pg (sp<|dh K rd k::L0) FU 6 (.fn 66) [.U Ne 0 le,.yield 270] (sA K none u1 u2 (fl kd to oa na Na La ob nb Nb Lb Nd ld Ne le) g)= .ok (.bool false) (sA K bN x1 x2 (fl kd to oa na Na La ob nb Nb Lb Nd ld Ne le) g))(h1:i<(L:Int)):au pg B 274 (rO K 270 pg (az Tryz.f66) ⟨false,x1,x2,bN⟩) (rC N L i)<|ah (oE K v1 v2) 274:=by exact me (E:=Ew<|dh K rd k::L0) eT rfl bI mc.2.2.1 mc.2.2.2 900 (.st 1<|.rg<|.fk (.en<|.st 6<|.rg<|.eF<|.eG (fl kd to oa na Na La ob nb Nb Lb Nd ld Ne le)<|.go 2<|.en<|.st 1<|.rg<|.go 2<|.cy (.bool true) (sA K none w1 w2 (fl kd to oa na Na La ob nb Nb Lb Nd ld Ne le) g)<|.go 5<|.cu (.bool true) (sA K none u1 u2 (fl kd to oa na Na La ob nb Nb Lb Nd ld Ne le) g)<|.go 6<|.cu (.bool false) (sA K bN x1 x2 (fl kd to oa na Na La ob nb Nb Lb Nd ld Ne le) g)<|.go 2<|.en<|.rt 4 .no)<|.no)<|aT (i<(L:Int)) (fun _=>(dU i (L:Int)<|ai hn<|ai hx<|ai hr<|ai hb<|ai ho<|P5 (K:=K) (p:=⟨false,x1,x2,bN⟩) (o4:=some<|.cells 10 (Tr.fill (fl kd to oa na Na La ob nb Nb Lb Nd ld Ne le) 0 .nil) []) (g:=g) (nx:=276))) gb
theorem aib{rd:mA}{v1 v2:AV}{bN:Option Code}{le:Nat}(mc:Mt (dh K rd k::L0) B)(hn:top<=N)(hi:0<=i)(hL:L<=1000000)(hx:cG FU N (0+i.toNat*10+0) 10=some (fl kd to oa na Na La ob nb Nb Lb Nd ld Ne le))(hr:aZ pg (sp<|dh K rd k::L0) FU 6 (.round 270) [.agg<|fl kd to oa na Na La ob nb Nb Lb Nd ld Ne le] (sE K v1 v2<|fl kd to oa na Na La ob nb Nb Lb Nd ld Ne le)= .ok (.bool true) (sA K none w1 w2 (fl kd to oa na Na La ob nb Nb Lb Nd ld Ne le) g))(hb:aZ pg (sp<|dh K rd k::L0) FU 6 (.fn 66) [.U Nd 0 ld,.yield 270] (sA K none w1 w2 (fl kd to oa na Na La ob nb Nb Lb Nd ld Ne le) g)= .ok (.bool true) (sA K none u1 u2 (fl kd to oa na Na La ob nb Nb Lb Nd ld Ne le) g))(ho:aZ pg (sp<|dh K rd k::L0) FU 6 (.fn 66) [.U Ne 0 le,.yield 270] (sA K none u1 u2 (fl kd to oa na Na La ob nb Nb Lb Nd ld Ne le) g)= .ok (.bool true) (sA K none x1 x2 (fl kd to oa na Na La ob nb Nb Lb Nd ld Ne le) g))(h1:i<(L:Int))(jM:K.s1<top)(kH:K.s2<top)(mP:K.s1≠K.s2)(iZ:okB x1)(pW:okB x2)(H:au pg B 274 (rO K 270 pg (az Tryz.f66) pf) (rC N L<|i+1)<|ah (oE K x1 x2) 274):au pg B 274 (rO K 270 pg (az Tryz.f66) pf) (rC N L i)<|ah (oE K v1 v2) 274:=by exact wp_cut (E:=Ew<|dh K rd k::L0) (C:=(fun fr s1 _=>fr=rC N L (i+1)/\s1=ah (oE K x1 x2) 274)) eT rfl bI mc.2.2.1 mc.2.2.2 VJ rfl mc.1 mT 900 (.st 1<|.rg<|.fk (.en<|.st 6<|.rg<|.eF<|.eG (fl kd to oa na Na La ob nb Nb Lb Nd ld Ne le)<|.go 2<|.en<|.st 1<|.rg<|.go 2<|.cy (.bool true) (sA K none w1 w2 (fl kd to oa na Na La ob nb Nb Lb Nd ld Ne le) g)<|.go 5<|.cu (.bool true) (sA K none u1 u2 (fl kd to oa na Na La ob nb Nb Lb Nd ld Ne le) g)<|.go 6<|.cu (.bool true) (sA K none x1 x2 (fl kd to oa na Na La ob nb Nb Lb Nd ld Ne le) g)<|.go 2<|.en<|.st 3<|.rg<|.vl (i6<|i+1)<|.go 1<|.en<|.st 1<|.bk (Bo N L<|i+1) (oE K x1 x2) 274 .no)<|.no)<|aT (i<(L:Int)) (fun _=>(dU i (L:Int)<|ai hn<|ai hx<|ai hr<|ai hb<|ai ho<|ai (wI<|i+1)<|Wo N L (i+1) hn jM kH mP iZ pW)) gb
theorem afu{rd:mA}{v1 v2:AV}(mc:Mt (dh K rd k::L0) B)(h1:(L:Int)<=i):au pg B 274 (rO K 270 pg (az Tryz.f66) ⟨true,v1,v2,none⟩) (rC N L i)<|ah (oE K v1 v2) 274:=by exact me (E:=Ew<|dh K rd k::L0) eT rfl bI mc.2.2.1 mc.2.2.2 900 (.st 1<|.rg<|.fk (.no)<|.en<|.rt 6 .no)<|aT (i<(L:Int)) gb fun _=>(ags (K:=K) (p:=⟨true,v1,v2,none⟩) (nx:=274))
theorem agt{rd:mA}{v1 v2:AV}(mc:Mt (dh K rd k::L0) B)(hn:top<=N)(jM:K.s1<top)(kH:K.s2<top)(mP:K.s1≠K.s2)(iZ:okB v1)(pW:okB v2)(H:au pg B 274 (rO K 270 pg (az Tryz.f66) pf) (rC N L 0)<|ah (oE K v1 v2) 274):au pg B 274 (rO K 270 pg (az Tryz.f66) pf) (sF 66 Tryz.f66 [.U N 0 L,.yield 270])<|ah (oE K v1 v2) 274:=by exact wp_cut (E:=Ew<|dh K rd k::L0) (C:=(fun fr s1 _=>fr=rC N L 0/\s1=ah (oE K v1 v2) 274)) eT rfl bI mc.2.2.1 mc.2.2.2 VJ rfl mc.1 mT 900 (.st 7<|.bk (Bo N L 0) (oE K v1 v2) 274 .no)<|Wo N L 0 hn jM kH mP iZ pW
end mQ
end
