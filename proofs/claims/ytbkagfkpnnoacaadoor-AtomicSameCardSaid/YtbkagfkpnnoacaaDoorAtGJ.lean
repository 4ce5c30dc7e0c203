import Derived.Test.YtbkagfkpnnoacaaDoorProg
import Derived.Test.YtbkagfkpnnoacaaDoorRnGG
import Derived.KernelRfl
import Derived.Test.YtbkagfkpnnoacaaDoorRnGH
import Derived.Test.YtbkagfkpnnoacaaDoorRnGE
set_option maxRecDepth 100000
set_option maxHeartbeats 8000000
set_option linter.unusedSimpArgs false
set_option linter.unusedVariables false
section
open Go Go.Rn Go.RowKit Go.Proofs
namespace cG
inductive Ex where
 |mk (op n:Int) (args:List Ex)
instance:Inhabited Ex:=⟨.mk 0 0 []⟩
mutual
noncomputable def aD:Ex->List AV
 | .mk op n args=>[.int .u8 op,.int .i64 n,.U (nm<|cH args) 0 args.length]
noncomputable def cH:List Ex->List AV
 |[]=>[]
 |e::l=>aD e++cH l
end
theorem Cs:∀l:List Ex,cH l=(l.map aD).flatten
 |[]=>by rw[cH];rfl
 |e::l=>by rw[cH,Cs l];rfl
theorem M5{op n:Int}{args:List Ex}:aD (.mk op n args)=[.int .u8 op,.int .i64 n,aw aD args]:=by rw[aD,Cs];rfl
theorem kF:mf 3 aD:=⟨fun⟨_,_,_⟩=>by rw[aD];rfl,fun⟨_,_,_⟩=>by rw[aD];show(true&&(true&&(Nat.ble top (nm _)&&true)))=true;rw[aL.2<|cF _];rfl⟩
theorem Sf(l:List Ex):(cH l).all AV.gg=true:=by rw[Cs];exact kF.all l
theorem sU{l m:List AV}(h1:l.all AV.gg=true)(h2:m.all AV.gg=true)(h:nm l=nm m):l=m:=by have e:=Dm h1;rw[h,Dm h2] at e;injection e with e;exact e.symm
mutual
theorem nr:∀x y:Ex,aD x=aD y->x=y
 | .mk a b l,.mk c d m,h=>by rw[aD,aD] at h;simp only[List.cons.injEq,AV.int.injEq,AV.U.injEq,true_and,_root_.and_true] at h;obtain⟨h1,h2,h3,_⟩:=h;rw[h1,h2,Sg l m<|sU (Sf l) (Sf m) h3]
theorem Sg:∀l m:List Ex,cH l=cH m->l=m
 |[],[],_=>rfl
 |[],⟨_,_,_⟩::m,h=>by rw[cH,cH,aD] at h;cases h
 |⟨_,_,_⟩::l,[],h=>by rw[cH,cH,aD] at h;cases h
 |x::l,y::m,h=>by rw[cH,cH] at h;obtain⟨h1,h2⟩:=List.append_inj h (by rw[kF.len x,kF.len y]);rw[nr x y h1,Sg l m h2]
end
def Ex.op:Ex->Int| .mk o _ _=>o
def Ex.n:Ex->Int| .mk _ n _=>n
def Ex.args:Ex->List Ex| .mk _ _ l=>l
def eL:Nat->Ex->Bool
 |0,_=>false
 |k+1,.mk op n args=>
  if op=1 then args.isEmpty else if op=2 then args.isEmpty&&decide (0<=n)&&decide (n<8) else if op=3 then args.isEmpty&&decide (0<=n)&&decide (n<6)
  else if op<4\/op>8\/n≠0 then false else decide (args.length=2)&&eL k (args.getD 0 default)&&eL k (args.getD 1 default)
theorem LR{k:Nat}{op n:Int}{args:List Ex}:eL (k+1) (.mk op n args)=if op=1 then args.isEmpty else if op=2 then args.isEmpty&&decide (0<=n)&&decide (n<8) else if op=3 then args.isEmpty&&decide (0<=n)&&decide (n<6) else if op<4\/op>8\/n≠0 then false else decide (args.length=2)&&eL k (args.getD 0 default)&&eL k (args.getD 1 default):=rfl
end cG
end
section
open Go Go.Rn Go.RowKit Go.Proofs
namespace dj
open cG
inductive St where
 |mk (kind to:Int) (a b:Ex) (body other:List St)
instance:Inhabited St:=⟨.mk 0 0 default default [] []⟩
mutual
noncomputable def aM:St->List AV
 | .mk kind to a b body other=>[.int .u8 kind,.int .i64 to]++(aD a++(aD b++[.U (nm<|bx body) 0 body.length,.U (nm<|bx other) 0 other.length]))
noncomputable def bx:List St->List AV
 |[]=>[]
 |e::l=>aM e++bx l
end
theorem uH:∀l:List St,bx l=(l.map aM).flatten
 |[]=>by rw[bx];rfl
 |e::l=>by rw[bx,uH l];rfl
theorem wK{kind to:Int}{a b:Ex}{body other:List St}:aM (.mk kind to a b body other)=[.int .u8 kind,.int .i64 to]++(aD a++(aD b++[aw aM body,aw aM other])):=by rw[aM,uH,uH];rfl
theorem mu:mf 10 aM:=⟨fun⟨_,_,a,b,_,_⟩=>by
 rw[aM,List.length_append,List.length_append,List.length_append,kF.len a,kF.len b];rfl,fun⟨_,_,a,b,_,_⟩=>by
 rw[aM,List.all_append,List.all_append,List.all_append,kF.gg a,kF.gg b];show(true&&(true&&true)&&(true&&(true&&(Nat.ble top (nm _)&&(Nat.ble top (nm _)&&true)))))=true;rw[aL.2<|cF _,aL.2<|cF _];rfl⟩
theorem lK(l:List St):(bx l).all AV.gg=true:=by rw[uH];exact mu.all l
mutual
theorem MA:∀x y:St,aM x=aM y->x=y
 | .mk k t a b l m,.mk k' t' a' b' l' m',h=>by rw[aM,aM] at h;obtain⟨h1,h⟩:=List.append_inj h rfl;obtain⟨h2,h⟩:=List.append_inj h (by rw[kF.len,kF.len]);obtain⟨h3,h⟩:=List.append_inj h (by rw[kF.len,kF.len]);simp only[List.cons.injEq,AV.int.injEq,AV.U.injEq,true_and,_root_.and_true] at h1 h;rw[h1.1,h1.2,nr _ _ h2,nr _ _ h3,sk l l'<|sU (lK l) (lK l') h.1.1,sk m m'<|sU (lK m) (lK m') h.2.1]
theorem sk:∀l m:List St,bx l=bx m->l=m
 |[],[],_=>rfl
 |[],y::m,h=>by have:=congrArg List.length h;rw[bx,bx,List.length_append,mu.len y] at this;simp only[List.length_nil] at this;omega
 |x::l,[],h=>by have:=congrArg List.length h;rw[bx,bx,List.length_append,mu.len x] at this;simp only[List.length_nil] at this;omega
 |x::l,y::m,h=>by rw[bx,bx] at h;obtain⟨h1,h2⟩:=List.append_inj h (by rw[mu.len x,mu.len y]);rw[MA x y h1,sk l m h2]
end
theorem xE(e:St):AV.hi (.agg<|aM e)=true:=by show(aM e).all AV.cM=true;exact List.all_eq_true.2 fun x hx=>CD<|List.all_eq_true.1 (mu.gg e) x hx
def lr:Nat->Ex->Int
 |0,_=>0
 |k+1,.mk _ _ args=>args.foldl (fun n a=>n+lr k a) 1
end dj
end
section
namespace Go.Rn
variable {P:Prop}
theorem dQ(h:P:=by first|omega|(simp only[List.length_set,List.length_take,List.length_append,List.length_cons,List.length_nil];omega)):P:=h
theorem bU(h:P:=by as_aux_lemma=>kernel_rfl):P:=h
theorem QB(h:P:=by exact aT (to<0) (fun _=>(show AV.bool false= .bool (decide<|0<=to/\to<8/\to=0/\xa=1/\xb=1/\ld=0/\le=0) from by rw[decide_eq_false ab])) fun _=>(aT (to>=8) (fun _=>(show AV.bool false= .bool (decide<|0<=to/\to<8/\to=0/\xa=1/\xb=1/\ld=0/\le=0) from by rw[decide_eq_false ab])) fun _=>(aT (to≠0) (fun _=>(show AV.bool false= .bool (decide<|0<=to/\to<8/\to=0/\xa=1/\xb=1/\ld=0/\le=0) from by rw[decide_eq_false ab])) fun _=>(ai ha<|aT (xa=1) (fun _=>(ai hb<|aT (xb=1) (fun _=>(aT ((ld:Int)=0) (fun _=>(aT ((le:Int)=0) (fun _=>(show AV.bool true= .bool (decide<|0<=to/\to<8/\to=0/\xa=1/\xb=1/\ld=0/\le=0) from by rw[decide_eq_true ab])) fun _=>(show AV.bool false= .bool (decide<|0<=to/\to<8/\to=0/\xa=1/\xb=1/\ld=0/\le=0) from by rw[decide_eq_false ab]))) fun _=>(show AV.bool false= .bool (decide<|0<=to/\to<8/\to=0/\xa=1/\xb=1/\ld=0/\le=0) from by rw[decide_eq_false ab]))) fun _=>(show AV.bool false= .bool (decide<|0<=to/\to<8/\to=0/\xa=1/\xb=1/\ld=0/\le=0) from by rw[decide_eq_false ab]))) fun _=>(show AV.bool false= .bool (decide<|0<=to/\to<8/\to=0/\xa=1/\xb=1/\ld=0/\le=0) from by rw[decide_eq_false ab]))))):P:=h
theorem o8(h:P:=by exact fun _=>(wq0 (m:=m) (op:=op) (n:=n) (L:=L) (x0:=x0) (x1:=x1) ab)):P:=h
theorem XI(h:P:=by exact aT (to<0) (fun _=>(show AV.bool false= .bool (decide<|0<=to/\to<8/\xa=1/\xb=1/\ld=0/\le=0) from by rw[decide_eq_false ab])) fun _=>(aT (to>=8) (fun _=>(show AV.bool false= .bool (decide<|0<=to/\to<8/\xa=1/\xb=1/\ld=0/\le=0) from by rw[decide_eq_false ab])) fun _=>(ai ha<|aT (xa=1) (fun _=>(ai hb<|aT (xb=1) (fun _=>(aT ((ld:Int)=0) (fun _=>(aT ((le:Int)=0) (fun _=>(show AV.bool true= .bool (decide<|0<=to/\to<8/\xa=1/\xb=1/\ld=0/\le=0) from by rw[decide_eq_true ab])) fun _=>(show AV.bool false= .bool (decide<|0<=to/\to<8/\xa=1/\xb=1/\ld=0/\le=0) from by rw[decide_eq_false ab]))) fun _=>(show AV.bool false= .bool (decide<|0<=to/\to<8/\xa=1/\xb=1/\ld=0/\le=0) from by rw[decide_eq_false ab]))) fun _=>(show AV.bool false= .bool (decide<|0<=to/\to<8/\xa=1/\xb=1/\ld=0/\le=0) from by rw[decide_eq_false ab]))) fun _=>(show AV.bool false= .bool (decide<|0<=to/\to<8/\xa=1/\xb=1/\ld=0/\le=0) from by rw[decide_eq_false ab])))):P:=h
theorem XJ(h:P:=by exact aT (to<0) (fun _=>(show AV.bool false= .bool (decide<|0<=to/\to<8/\to=0/\xa=1/\xb=1) from by rw[decide_eq_false ab])) fun _=>(aT (to>=8) (fun _=>(show AV.bool false= .bool (decide<|0<=to/\to<8/\to=0/\xa=1/\xb=1) from by rw[decide_eq_false ab])) fun _=>(aT (to≠0) (fun _=>(show AV.bool false= .bool (decide<|0<=to/\to<8/\to=0/\xa=1/\xb=1) from by rw[decide_eq_false ab])) fun _=>(ai ha<|aT (xa=1) (fun _=>(ai hb<|aT (xb=1) (fun _=>(show AV.bool true= .bool (decide<|0<=to/\to<8/\to=0/\xa=1/\xb=1) from by rw[decide_eq_true ab])) fun _=>(show AV.bool false= .bool (decide<|0<=to/\to<8/\to=0/\xa=1/\xb=1) from by rw[decide_eq_false ab]))) fun _=>(show AV.bool false= .bool (decide<|0<=to/\to<8/\to=0/\xa=1/\xb=1) from by rw[decide_eq_false ab]))))):P:=h
theorem mQ(h:P:=by exact fun fr s1 p hC=>by obtain⟨rfl,rfl⟩:=hC;exact H):P:=h
theorem fZ(h:P:=by exact fun _=>(oF ab)):P:=h
theorem KX(h:P:=by exact mL (st:=(fc a n c u fs)) (s:=ah (ae0 a n c u fs kind to op nn N L aF n2 N2 L2 N3 L3 N4 L4) 275) (show(.agg [(u8<|.ofNat 1),i0,i0])=Y from(EI ab ab ab)) bU bU bU):P:=h
theorem XK(h:P:=by exact dS to (Int.ofNat 8)<|ai (TJ (c':=(i6 z)) (show((a.row (.ptr<|some (271,0)) (.slice (some (272,0)) (len) cap)<|i6 a.steps):List AV).length<=top from aL.1 aW) (Ux (a.row (.ptr<|some (271,0)) (.slice (some (272,0)) (len) cap)<|i6 a.steps) (k:=2+to.toNat) ab) rfl)<|mL (st:=(⟨⟨(a.pre:List AV).set (2+to.toNat)<|.int .i64 z,len,cap,[.int .i64 a.steps]⟩,u,row⟩:VS)) (s:=ah (Vs a len cap to z u row kind op n N L aF n2 N2 L2 N3 L3 N4 L4) 274) (show((.tuple []):AV)= .tuple [] from rfl) ((show(ah (Vs a len cap to z u row kind op n N L aF n2 N2 L2 N3 L3 N4 L4) 274).h.get 270=(some<|aC ng<|((a.row (.ptr<|some (271,0)) (.slice (some (272,0)) (len) cap)<|i6 a.steps):List AV).set (2+to.toNat)<|i6 z) from bU).trans<|congrArg some<|Uy (pre:=a.pre) (post:=[.int .i64 a.steps]) (len:=len) (i:=2+to.toNat) (r1:=271) (r2:=272) (cap:=cap) (c:=.int .i64 z) (by show 2+to.toNat<10;omega)) bU bU):P:=h
theorem WG(h:P:=by exact fun _=>(jK [l7,iL,jE,kO,lY] 29 272 (vR nK) (xh op nn N L) (fc a n c u fs) (i6 v) hO hv hA bU<|ai hg<|mL (st:=(fc a n c u fs)) (s:=ah (ar++[(270,some<|.cells 13 (Tr.fill (a.row (.ptr<|some (271,0)) (I8 n c)<|i6 a.steps) 0 .nil) []),(271,(some<|.tok 3 u)),(272,(some<|aC aI fs)),(273,some<|.cells 3 (Tr.fill [(u8<|.ofNat 2),(i6 v),i0] 0 .nil) []),(274,some<|.cells 10 (Tr.fill (sW kind to op nn N L aF n2 N2 L2 N3 L3 N4 L4) 0 .nil) [])]) 275) (show(.agg [(u8<|.ofNat 2),(i6 v),i0])=Y from(E2 ab)) bU bU bU)):P:=h
theorem WH(h:P:=by exact fun _=>(jK [l7,iL,jE,kO,lY] 27 272 (vR ji) (xh op nn N L) (fc a n c u fs) (i6 z) hO hz hA bU<|mL (st:=(fc a n c u fs)) (s:=ah (ar++[(270,some<|.cells 13 (Tr.fill (a.row (.ptr<|some (271,0)) (I8 n c)<|i6 a.steps) 0 .nil) []),(271,(some<|.tok 3 u)),(272,(some<|aC aI fs)),(273,some<|.cells 3 (Tr.fill [(u8<|.ofNat 3),i0,(i6 z)] 0 .nil) []),(274,some<|.cells 10 (Tr.fill (sW kind to op nn N L aF n2 N2 L2 N3 L3 N4 L4) 0 .nil) [])]) 275) (show(.agg [(u8<|.ofNat 3),i0,(i6 z)])=Y from(E8 ab)) bU bU bU)):P:=h
theorem WI(h:P:=by exact fun _=>(dS (0:Int) 2<|ai hn<|ai rV<|ai jk<|aT (x0=1) (fun _=>(dS (1:Int) 2<|ai hn<|ai hZ<|ai jG<|aT (x1=1) (fun _=>(show AV.bool true= .bool (decide<|¬(op=3/\n>=z)/\x0=1/\x1=1) from by rw[decide_eq_true ab])) fun _=>(show AV.bool false= .bool (decide<|¬(op=3/\n>=z)/\x0=1/\x1=1) from by rw[decide_eq_false ab]))) fun _=>(show AV.bool false= .bool (decide<|¬(op=3/\n>=z)/\x0=1/\x1=1) from by rw[decide_eq_false ab]))):P:=h
theorem WJ(h:P:=by exact fun _=>(aT (op<4) o8 fun _=>(aT (op>8) o8 fun _=>(aT (n≠0) o8 fun _=>(aT ((L:Int)≠2) o8 fun _=>(dS (0:Int) (L:Int)<|ai hn<|ai (rV ab)<|ai (wI<|m - 1)<|ai (jk ab ab)<|aT (x0=1) (fun _=>(dS (1:Int) (L:Int)<|ai hn<|ai (hZ ab)<|ai (wI<|m - 1)<|ai (jG ab ab)<|aT (x1=1) Ke o8)) o8)))))):P:=h
theorem WK(h:P:=by exact fun _=>(mL (st:=(fc a n c u fs)) (s:=ah (ar++[(270,some<|.cells 13 (Tr.fill (a.row (.ptr<|some (271,0)) (I8 n c)<|i6 a.steps) 0 .nil) []),(271,(some<|.tok 3 u)),(272,(some<|aC aI fs)),(273,some<|.cells 3 (Tr.fill [(u8<|.ofNat 4),i0,i0] 0 .nil) []),(274,some<|.cells 10 (Tr.fill (sW kind to op nn N L aF n2 N2 L2 N3 L3 N4 L4) 0 .nil) [])]) 275) (show(.agg [(u8<|.ofNat 4),i0,i0])=Y from(E6 ab ab)) bU bU bU)):P:=h
theorem PL(h:P:=by exact vZ LM 39 280 (dH eG) [] (aQ A1.pre m1 (.aq c1 13) A1.steps u1 br) (aQ A2.pre m2 (.aq c2 13) A2.steps u2 bj) k9 rS yh<|Ee 14 2 38 (cO 14 [1,1,1,1,1,1,1,1,1]) A2 m2 (.aq c2 13) u2 bj 280 281 hlen nL):P:=h
theorem Bt(h:P:=by exact wI<|(av (fs.take n)<|(((0+n):Nat):Int) - 1).ak+1):P:=h
theorem WL(h:P:=by exact adh (show((a.row (.ptr<|some (271,0)) (.slice (some (272,0)) (len) cap)<|i6 a.steps):List AV).length<=top from aL.1 aW) (show((a.row (.ptr<|some (271,0)) (.slice (some (272,0)) (len) cap)<|i6 a.steps):List AV)[10]? =some (.ptr<|some (271,0)) from rfl)):P:=h
theorem DJ(h:P:=by exact fun fr s1 _ hC=>by obtain⟨rfl,rfl⟩:=hC;exact H):P:=h
theorem Bu(h:P:=by exact wI<|(((0+n):Nat):Int) - 1):P:=h
theorem WM(h:P:=by exact fun _=>(aT (kind=2) (fun _=>(jK [l7,iL,jE,kO,lY] 29 272 (vR nK) (xh op nn N L) (fc a n c u fs) (i6 v) hO hv hA bU<|ai hg KX)) fun _=>KX)):P:=h
theorem Ke(h:P:=by exact fun _=>(wq1 (m:=m) (op:=op) (n:=n) (L:=L) (x0:=x0) (x1:=x1) ab)):P:=h
theorem PM(h:P:=by simp only[List.length_nil];unfold room;omega):P:=h
theorem PN(h:P:=by simp only[List.length_nil];unfold top;omega):P:=h
theorem Bv(h:P:=by exact wI<|a.steps+1):P:=h
theorem WN(h:P:=by exact aT (i<(L:Int)) fZ fun _=>(show(.tuple [(i6 m),(.bool false)])=v from hv)):P:=h
theorem gu(h:P:=by first|exact m0.bD|exact mp.bD|exact m1.bD|exact hK|exact hN|exact hB|exact qJ|exact pT|exact hv|exact hA|exact lG.bD|exact hE|exact mE.bD):P:=h
theorem ab(h:P:=by omega):P:=h
theorem qK(h:P:=by first|exact m0.bD|exact mp.bD|exact m1.bD|exact hK|exact hN|exact hB|exact qJ|exact pT|exact hv|exact hA|exact lG.bD|exact hE|exact mE.bD|exact hW|exact bC|exact hD):P:=h
theorem bY(h:P:=by as_aux_lemma=>kernel_rfl):P:=h
theorem aW(h:P:=by kernel_rfl):P:=h
theorem v7(h:P:=by first|exact m0.bD|exact mp.bD|exact m1.bD|exact hK|exact hN|exact hB|exact qJ|exact pT|exact hv|exact hA|exact lG.bD|exact hE|exact mE.bD|exact hD):P:=h
theorem v8(h:P:=by first|exact m0.bD|exact mp.bD|exact m1.bD|exact hK|exact hN|exact hB|exact qJ|exact pT|exact hv|exact hA|exact lG.bD|exact hX):P:=h
theorem yn(h:P:=by first|exact m0.bD|exact mp.bD|exact m1.bD|exact hK|exact hN|exact hB|exact qJ|exact pT|exact hv|exact hA):P:=h
theorem dZ(h:P:=by unfold top;omega):P:=h
theorem B1(h:P:=by first|exact m0.bD|exact mp.bD|exact m1.bD|exact hK|exact hN|exact hB|exact qJ|exact pT|exact hv|exact hA|exact XL):P:=h
theorem DK(h:P:=by first|omega|(simp only[List.length_set,List.length_take,List.length_append,List.length_cons,List.length_nil];omega)):P:=h
theorem zt(h:P:=by simp only[reduceCtorEq,true_or,false_or,true_and,_root_.and_true];omega):P:=h
theorem zu(h:P:=by have:=m0.len;have:top=549755813888:=rfl;omega):P:=h
theorem rD(h:P:=by rw[List.all_cons,Bf];rfl):P:=h
theorem qB(h:P:=by rw[t.n];omega):P:=h
theorem WO(h:P:=by rw[List.all_cons,show AV.hi (.U (nm<|bx b) 0 b.length)=true from aL.2<|cF _];rfl):P:=h
theorem Gq(h:P:=by rw[List.reverse_reverse];exact d2.eq):P:=h
theorem Gr(h:P:=by rw[List.reverse_reverse];exact d.eq):P:=h
theorem tJ(h:P:=by rw[p1];omega):P:=h
theorem nM(h:P:=by cases hp):P:=h
theorem Gs(h:P:=by rw[blt_eq];unfold top;omega):P:=h
theorem PO(h:P:=by first|exact m0.bD|exact d.run|exact d.ep.bD):P:=h
theorem Gt(h:P:=by rw[List.length_cons];omega):P:=h
theorem PQ(h:P:=by rw[List.length_cons,List.length_cons];omega):P:=h
end Go.Rn
end
section
open Go Go.Rn Go.RowKit Go.Proofs
namespace eO
open cG dj
def zc(n:Int):List AV:=[.int .i64 n]
theorem K0:mf 1 zc:=⟨fun _=>rfl,fun _=>rfl⟩
theorem aaS(x y:Int)(h:zc x=zc y):x=y:=by simp only[zc,List.cons.injEq,AV.int.injEq,true_and,_root_.and_true] at h;exact h
def hI(c:AV):List AV:=[c]
abbrev bf:=List<|List<|Int×Int
def JR(p:Int×Int):AV:=.agg [.int .i64 p.1,.int .i64 p.2]
def bI(ms:bf):AV:=.agg<|ms.map fun m=>.agg<|m.map JR
theorem aaT(p q:Int×Int)(h:JR p=JR q):p=q:=by obtain⟨a,b⟩:=p;obtain⟨c,d⟩:=q;simp only[JR,AV.agg.injEq,List.cons.injEq,AV.int.injEq,true_and,_root_.and_true] at h;rw[h.1,h.2]
theorem sw:∀a b,bI a=bI b->a=b:=by
 intro a b h;injection h with h
 refine(List.map_inj_right fun x y e=>?_).1 h;injection e with e
 exact(List.map_inj_right aaT).1 e
def jQ(n:Nat):List AV:=(List.range n).map fun i=>.map<|some<|272+i
noncomputable def qi:Nat->bf->List (Nat×ae)
 |_,[]=>[]
 |k,m::ms=>(k,bz m)::qi (k+1) ms
noncomputable def WR(n:Nat)(cap:bW):ae:=aC hI [.slice (some (271,0)) n cap]
noncomputable def dL(ms:bf)(cap:bW):List<|Nat×ae:=(270,WR ms.length cap)::(271,aC hI<|jQ ms.length)::qi 272 ms
def de(ms:bf):Prop:=(1<=ms.length/\ms.length<=7)/\∀m∈ms,dU m
def oU(n:Nat)(cap:bW):Prop:=cap= .aq n 1\/(n=1/\cap= .known 1)
theorem HV:∀{k:Nat} {ms:bf} {p:Nat×ae},p∈qi k ms->k<=p.1/\p.1<k+ms.length/\∃m,p.2=bz m
 |k,[],p,h=>by cases h
 |k,m::ms,p,h=>by
  rcases List.mem_cons.1 h with rfl|h
  ·exact⟨Nat.le_refl _,by rw[List.length_cons];omega,m,rfl⟩
  ·obtain⟨h1,h2,h3⟩:=HV h;exact⟨by omega,by rw[List.length_cons];omega,h3⟩
theorem S4:∀{k:Nat} {ms:bf} {i:Nat},i<ms.length->k+i∈(qi k ms).map (·.1)
 |k,[],i,h=>by cases h
 |k,m::ms,0,h=>List.mem_cons_self
 |k,m::ms,i+1,h=>by have:=S4 (k:=k+1) (ms:=ms) (i:=i) (by rw[List.length_cons] at h;omega);rw[show k+(i+1)=k+1+i by omega];exact List.mem_cons_of_mem _ this
structure Fr where
 block:List St
 ak:Int
 turns:Int
 bV:Bool
 kept:List Int
 other:Option<|List St
instance:Inhabited Fr:=⟨⟨[],0,0,false,[],none⟩⟩
noncomputable def zT:Option (List St)->AV
 |none=>.slice none 0<|.known 0
 |some l=>aw aM l
theorem adl(o:Option<|List St):(zT o).bR=true:=by cases o<;>rfl
theorem ae4(o:Option<|List St):(zT o).cM=true:=by
 cases o with
 |none=>rfl
 |some l=>exact aL.2<|cF _
def eight(l:List Int):List AV:=[.int .i64<|l.getD 0 0,.int .i64<|l.getD 1 0,.int .i64<|l.getD 2 0,.int .i64<|l.getD 3 0,.int .i64<|l.getD 4 0,.int .i64<|l.getD 5 0,.int .i64<|l.getD 6 0,.int .i64<|l.getD 7 0]
noncomputable def aI(f:Fr):List AV:=[aw aM f.block,.int .i64 f.ak,.int .i64 f.turns,.bool f.bV]++(eight f.kept++[zT f.other])
theorem fA(f:Fr):(aI f).length=13:=rfl
theorem MC(f:Fr):(aI f).all AV.bR=true:=by show(true&&(true&&(true&&(true&&(true&&(true&&(true&&(true&&(true&&(true&&(true&&(true&&((zT f.other).bR&&true)))))))))))))=true;rw[adl];rfl
theorem TL(f:Fr):∀c∈aI f,c.cM=true:=fun c hc=>by
 have h:(aI f).all AV.cM=true:=by show((aw aM f.block).cM&&(true&&(true&&(true&&(true&&(true&&(true&&(true&&(true&&(true&&(true&&(true&&((zT f.other).cM&&true)))))))))))))=true;rw[show(aw aM f.block).cM=true from aL.2<|cF _,ae4];rfl
 exact List.all_eq_true.1 h c hc
noncomputable def K2(f:Fr):AV:=.agg [aw aM f.block,.int .i64 f.ak,.int .i64 f.turns,.bool f.bV,.agg<|f.kept.map fun x=>.int .i64 x,zT f.other]
theorem HW{l m:List St}(h:aw aM l=aw aM m):l=m:=by
 injection h with h _ _
 have h:nm (bx l)=nm (bx m):=by rw[uH,uH];exact h
 exact sk _ _<|sU (lK _) (lK _) h
theorem UC{a b:Option<|List St}(h:zT a=zT b):a=b:=by
 cases a with
 |none=>cases b with
  |none=>rfl
  |some m=>cases h
 |some l=>cases b with
  |none=>cases h
  |some m=>exact congrArg some<|HW h
theorem TM{l m:List Int}(h:(l.map fun x=>AV.int .i64 x)=m.map fun x=>.int .i64 x):l=m:=(List.map_inj_right fun x y e=>by injection e).1 h
theorem adm(f g:Fr)(h:K2 f=K2 g):f=g:=by obtain⟨a1,a2,a3,a4,a5,a6⟩:=f;obtain⟨b1,b2,b3,b4,b5,b6⟩:=g;simp only[K2,AV.agg.injEq,List.cons.injEq,AV.int.injEq,AV.bool.injEq,true_and,_root_.and_true] at h;obtain⟨h1,rfl,rfl,rfl,h5,h6⟩:=h;rw[HW h1,TM h5,UC h6]
structure dF where
 vars:Int
 aA:List Int
 l:List Int
 b:bf
 fs:List Fr
 steps:Int
noncomputable def FZ(a:dF)(c:Nat):List AV:=[.int .i64 a.vars,aw zc a.aA]++(eight a.l++[.ptr<|some (271,0),.slice (some (272,0)) a.fs.length<|.aq c 13,.int .i64 a.steps])
noncomputable def eh(a:dF):AV:=.agg [.int .i64 a.vars,aw zc a.aA,.agg<|a.l.map fun x=>.int .i64 x,bI a.b,.agg<|a.fs.map K2,.int .i64 a.steps]
theorem uI:∀a b,eh a=eh b->a=b:=by
 intro a b h;obtain⟨a1,a2,a3,a4,a5,a6⟩:=a;obtain⟨b1,b2,b3,b4,b5,b6⟩:=b;simp only[eh,AV.agg.injEq,List.cons.injEq,AV.int.injEq,true_and,_root_.and_true] at h;obtain⟨rfl,h2,h3,h4,h5,rfl⟩:=h;have e2:a2=b2:=by refine(dv.aw K0 a2).inj aaS ?_;rw[h2];exact dv.aw K0 b2
 rw[e2,TM h3,sw _ _ h4,(List.map_inj_right adm).1 h5]
def xj(a:dF):Prop:=a.l.length=8/\de a.b/\a.fs.length<=1000/\a.aA.length<=1000/\(1<=a.vars/\a.vars<=32)
noncomputable def gz(a:dF)(bh:List Fr)(c:Nat):List<|Nat×ae:=[(270,aC hI<|FZ a c),(271,.tok 3<|bI a.b),(272,aC aI<|a.fs++bh)]
def mC(a:dF)(bh:List Fr)(c:Nat):Prop:=a.fs.length<=c/\(a.fs++bh).length<=1000000/\∀f∈bh,(0<=f.turns/\f.turns<=1000000)/\f.kept.length=8
theorem wU{n:Nat}(h:n<100000):n<top:=by have:top=549755813888:=rfl;omega
theorem CY(l:List AV):(l.map hI).flatten=l:=by
 induction l with
 |nil=>rfl
 |cons x l ih=>rw[List.map_cons,List.flatten_cons,ih];rfl
theorem Z4{ns:List Nat}{m:List<|Int×Int}:lu ns<|bz m:=fun _ _ _ h=>uL h
theorem ae5{ms:bf}{cap:bW}(h:de ms):∀p∈dL ms cap,270<=p.1/\p.1<top/\(p.2.own=true\/p.2.kN=true)/\lu ((dL ms cap).map (·.1)) p.2:=by
 intro p hp;have h8:=h.1.2;rcases List.mem_cons.1 hp with rfl|hp
 ·refine⟨Nat.le_refl _,wU (by show 270<100000;omega),.inl rfl,lu.row ?_ fun c hc=>?_⟩
  ·rw[CY];exact Nat.le_of_lt<|wU (by show 1<100000;omega)
  ·rw[CY] at hc;rw[List.mem_singleton] at hc;subst hc;exact gy.slice (by simp[dL])
 rcases List.mem_cons.1 hp with rfl|hp
 ·refine⟨by show 270<=271;omega,wU (by show 271<100000;omega),.inl rfl,lu.row ?_ fun c hc=>?_⟩
  ·rw[CY,jQ,List.length_map,List.length_range];exact Nat.le_of_lt<|wU ab
  ·rw[CY] at hc;obtain⟨i,hi,rfl⟩:=List.mem_map.1 hc;refine gy.map ?_;show 272+i∈270::271::(qi 272 ms).map (·.1);exact List.mem_cons_of_mem _<|List.mem_cons_of_mem _<|S4<|List.mem_range.1 hi
 ·obtain⟨h1,h2,m,h3⟩:=HV hp;refine⟨by omega,wU ab,.inl (by rw[h3];rfl),by rw[h3];exact Z4⟩
theorem adn{a:dF}{bh:List Fr}{c:Nat}(h:xj a)(hj:mC a bh c):∀p∈gz a bh c,270<=p.1/\p.1<top/\(p.2.own=true\/p.2.kN=true)/\lu ((gz a bh c).map (·.1)) p.2:=by
 intro p hp;simp only[gz,List.mem_cons,List.not_mem_nil,or_false] at hp;rcases hp with rfl|rfl|rfl
 ·refine⟨Nat.le_refl _,wU (by show 270<100000;omega),.inl rfl,lu.row ?_ fun c hc=>?_⟩
  ·rw[CY];exact Nat.le_of_lt<|wU (by show 13<100000;omega)
  ·rw[CY] at hc;simp only[FZ,eight,List.cons_append,List.nil_append,List.mem_cons,List.not_mem_nil,or_false] at hc;rcases hc with rfl|rfl|rfl|rfl|rfl|rfl|rfl|rfl|rfl|rfl|rfl|rfl|rfl
   ·exact gy.hi rfl
   ·exact gy.hi<|aL.2<|cF _
   ·exact gy.hi rfl
   ·exact gy.hi rfl
   ·exact gy.hi rfl
   ·exact gy.hi rfl
   ·exact gy.hi rfl
   ·exact gy.hi rfl
   ·exact gy.hi rfl
   ·exact gy.hi rfl
   ·exact gy.ptr (by simp[gz])
   ·exact gy.slice (by simp[gz])
   ·exact gy.hi rfl
 ·exact⟨by show 270<=271;omega,wU (by show 271<100000;omega),.inr rfl,lu.tok⟩
 ·have h3:=hj.2.1;have ht:top=549755813888:=rfl;refine⟨by show 270<=272;omega,wU (by show 272<100000;omega),.inl rfl,lu.row ?_ fun c hc=>?_⟩
  ·rw[yE (K:=13) fA];omega
  ·obtain⟨x,hx,hc⟩:=List.mem_flatten.1 hc;obtain⟨f,_,rfl⟩:=List.mem_map.1 hx;exact gy.hi<|TL f c hc
end eO
end
section
open Go Go.Rn Go.RowKit Go.Proofs
namespace ch
open eO
variable {T A:Prop} {i nv:Nat} {c y v c' Y:AV} {ns:List Nat} {C:xT}
noncomputable abbrev pg:Program:=Tryd.prog
abbrev az(f:Func):List ResultVar:=f.results.toList
noncomputable abbrev cO(g:Nat)(p:List Nat):List Item:=[.code<|aR Tryd.prog g p]
noncomputable abbrev sF(g:Nat)(f:Func)(args:List AV):AF:=⟨g,dt args,max f.ntmps args.length,[.code<|aR Tryd.prog g []],[],none⟩
def ae6:List<|Option FuncId:=[none,none,none,none,some 120,some 121,some 122,some 123,some 125]
noncomputable section
def Sk:List AV:=ae6.map IC
def dG:Tr ae:=(Tr.nil).put 0<|some<|.ro Sk.length<|Tr.fill Sk 0 .nil
end
def dT:List Nat:=[0]
theorem bH:Tryd.prog.follows .mixedOrders=true:=by kernel_rfl
theorem gU:fI<=270:=aL.1 aW
theorem aaU:fI<=271:=aL.1 aW
theorem rf:270<=top:=aL.1 aW
noncomputable def ar:List<|Nat×Option ae:=dT.map fun n=>(n,dG.get n)
theorem TN:fR ar=dG:=by kernel_rfl
theorem ij:ah ar 270=⟨dG,270,0,[],[]⟩:=by show(⟨fR ar,270,0,[],[]⟩:AS)=_;rw[TN]
theorem lU:∀p∈ar,p.1<top:=fun p hp=>by obtain⟨k,hk,rfl⟩:=List.mem_map.1 hp;exact LY (m:=top) (l:=dT) aW k hk
theorem mh:∀n o,(n,some o)∈ar->dG.get n=some o:=fun n o hm=>by
 obtain⟨k,hk,e⟩:=List.mem_map.1 hm;injection e with e1 e2
 rw[←e1];exact e2
theorem jR(n:Nat)(o:ae)(_:n<top)(h:dG.get n=some o):n∈dT:=by
 rw[←TN] at h;obtain⟨k,hk,e⟩:=List.mem_map.1<|uK (l:=ar) lU h;injection e with e1 _
 rw[←e1];exact hk
theorem jj:∀n∈dT,n<270:=fun n hn=>LY (m:=270) (l:=dT) aW n hn
def encI(n:Int):List AV:=[.int .i64 n]
theorem eI:mf 1 encI:=⟨fun _=>rfl,fun _=>rfl⟩
theorem sB(x y:Int)(h:encI x=encI y):x=y:=by simp only[encI,List.cons.injEq,AV.int.injEq,true_and,_root_.and_true] at h;exact h
def ng(c:AV):List AV:=[c]
noncomputable abbrev en(L:bO):Env:=xX pg 270 dT dG L 270 true
noncomputable abbrev o9(L:bO):Env:=xX pg 270 dT dG L 271 true
noncomputable abbrev sp(L:bO):Sp:=dk 270 dT dG L
structure zw where
 rv:Int
 NO:Int
 has:List Bool
def Bw(a:zw):List AV:=[AV.int .i64 a.rv,AV.int .i64 a.NO]++a.has.map AV.bool
def PT(a:zw):AV:=.agg<|Bw a
def V8(a:zw):Prop:=O1 a.rv/\(1<=a.NO/\a.NO<=32)/\a.has.length=32
theorem alz:∀a b,PT a=PT b->a=b:=by
 intro a b h;obtain⟨r,s,l⟩:=a;obtain⟨r',s',l'⟩:=b;injection h with h
 simp only[Bw,List.cons_append,List.nil_append,List.cons.injEq,AV.int.injEq,true_and] at h;obtain⟨rfl,rfl,h⟩:=h;have:l=l':=by
  have inj:∀x y:Bool,AV.bool x=AV.bool y->x=y:=fun x y h=>by injection h
  clear r s;induction l generalizing l' with
  |nil=>cases l' with
   |nil=>rfl
   |cons _ _=>cases h
  |cons x l ih=>cases l' with
   |nil=>cases h
   |cons y l'=>simp only[List.map_cons,List.cons.injEq] at h;rw[inj x y h.1,ih l' h.2]
 rw[this]
noncomputable def ah4(a:zw):ae:=aC ng<|Bw a
structure Lk where
 owner:Int
 version:Int
deriving Inhabited
def zd(k:Lk):List AV:=[.int .i64 k.owner,.int .i64 k.version]
structure ze where
 vq:List Lk
 bp:Int
 xF:Int
 vH:List Int
def JS(a:ze):AV:=.agg [.int .i64 a.bp,.int .i64 a.xF,.agg<|a.vq.map fun k=>.agg<|zd k,.agg<|a.vH.map fun x=>.int .i64 x]
def Jc(a:ze):Prop:=(1<=a.vq.length/\a.vq.length<=32)/\(1<=a.vH.length/\a.vH.length<=32)/\0<=a.bp/\a.xF<=1099511627776
theorem alw:∀a b,JS a=JS b->a=b:=by
 intro a b h;obtain⟨l,c,m,v⟩:=a;obtain⟨l',c',m',v'⟩:=b;injection h with h
 simp only[List.cons.injEq,AV.int.injEq,AV.agg.injEq,true_and,_root_.and_true] at h;obtain⟨rfl,rfl,h1,h2⟩:=h;have e1:l=l':=(List.map_inj_right (fun x y e=>by obtain⟨o,w⟩:=x;obtain⟨o',w'⟩:=y;simp only[zd,AV.agg.injEq,List.cons.injEq,AV.int.injEq,true_and,_root_.and_true] at e;obtain⟨rfl,rfl⟩:=e;rfl)).1 h1;have e2:v=v':=(List.map_inj_right fun x y e=>by injection e).1 h2;rw[e1,e2]
def O9(nl nv:Nat)(c1 c2:bW)(bp xF:Int):List AV:=[.slice (some (271,0)) nl c1,.int .i64 bp,.int .i64 xF,.slice (some (272,0)) nv c2]
noncomputable def Pa(nl nv:Nat)(c1 c2:bW)(bp xF:Int):ae:=aC ng<|O9 nl nv c1 c2 bp xF
noncomputable def F0(a:ze)(c1 c2:bW):List<|Nat×ae:=[(270,Pa a.vq.length a.vH.length c1 c2 a.bp a.xF),(271,aC zd a.vq),(272,aC encI a.vH)]
inductive XT:TX
 |set (a:zw) (h:V8 a):XT 1 (PT a) [(270,ah4 a)]
 |heap (a:ze) (h:Jc a) (c1 c2:bW):XT 2 (JS a)<|F0 a c1 c2
 |buf (ms:bf) (h:de ms) (cap:bW) (hc:oU ms.length cap):XT 3 (bI ms)<|dL ms cap
 |tL (a:dF) (h:xj a) (bh:List Fr) (c:Nat) (hj:mC a bh c):XT 4 (eh a)<|gz a bh c
theorem Dr(l:List AV):(l.map ng).flatten=l:=by
 induction l with
 |nil=>rfl
 |cons x l ih=>rw[List.map_cons,List.flatten_cons,ih];rfl
theorem ado(a:zw):∀c∈Bw a,c.cM=true:=fun c hc=>by
 rcases List.mem_append.1 hc with h|h
 ·simp only[List.mem_cons,List.not_mem_nil,or_false] at h;rcases h with rfl|rfl<;>rfl
 ·obtain⟨b,_,rfl⟩:=List.mem_map.1 h;rfl
theorem TO(a:zw)(h:a.has.length=32):(Bw a).length=34:=by unfold Bw;rw[List.length_append,List.length_map,h];rfl
theorem XS(x:AV):(ng x).length=1:=rfl
theorem adh{l:List AV}(hl:l.length<=top)(hc:l[i]? =some c):cellsOf (some<|aC ng l) i 1=some [c]:=by have:=mB XS (l:=l) (i:=i) ab hc 0 1 rfl;rwa[Nat.mul_one,Nat.add_zero] at this
theorem adp{l:List AV}(hl:l.length<=top)(hc:l[i]? =some c)(h1:c'.bR=true):xA (some<|aC ng l) i [c']=some (aC ng<|l.set i c'):=by have:=pv XS (l:=l) (i:=i) (c':=c') (r:=[c']) ab hc 0 rfl rfl (by rw[List.all_cons,h1];rfl);rwa[Nat.mul_one,Nat.add_zero] at this
theorem TJ{l:List AV}{z:Nat}(hl:l.length<=top)(hc:l[i+z]? =some c)(h1:c'.bR=true):xA (some<|aC ng l) (i+z*1) [c']=some (aC ng<|l.set (i+z) c'):=by rw[Nat.mul_one];exact adp hl hc h1
theorem alA{a:zw}(h:V8 a):(Bw a).length<=top:=by rw[TO a h.2.2];exact aL.1 aW
abbrev oV(k:Nat)(y:AV)(v:AV)(s:AS)(Y:AV):Prop:=Y=y/\∃L',XT k v L'/\∀m o,(m,o)∈L'->s.h.get m=some o
theorem al2{k:Nat}{o:ae}(hx:XT k v [(270,o)])(e:Y=y)(nx:Nat):oV k y v (ah (ar++[(270,some o)]) nx) Y:=by
 refine⟨e,_,hx,fun m p hm=>?_⟩;simp only[List.mem_cons,List.not_mem_nil,or_false] at hm;injection hm with h1 h2
 subst h1;subst h2;kernel_rfl
abbrev alS(B:aJ)(g nt:Nat)(rs:List ResultVar)(k:Nat)(o:ae)(rest:List AV)(y v':AV):Prop:=au pg B 271 (iS XT pg rs k y v') ⟨g,dt<|.ptr (some (270,0))::rest,nt,[.code<|aR pg g []],[],none⟩<|ah (ar++[(270,some o)]) 271
theorem adq{l:List Lk}:∀c∈(l.map zd).flatten,gy ns c:=fun c hc=>by obtain⟨x,hx,hc⟩:=List.mem_flatten.1 hc;obtain⟨k,_,rfl⟩:=List.mem_map.1 hx;simp only[zd,List.mem_cons,List.not_mem_nil,or_false] at hc;rcases hc with rfl|rfl<;>exact gy.hi rfl
theorem ae7{l:List Int}:∀c∈(l.map encI).flatten,gy ns c:=fun c hc=>by obtain⟨x,hx,hc⟩:=List.mem_flatten.1 hc;obtain⟨k,_,rfl⟩:=List.mem_map.1 hx;simp only[encI,List.mem_cons,List.not_mem_nil,or_false] at hc;subst hc;exact gy.hi rfl
theorem yS{n:Nat}(h:n<1024):n<top:=by have:top=549755813888:=rfl;omega
theorem yo:yk XT 270:=by
 refine⟨fun k v L hx p hp=>?_,fun k v L hx=>?_⟩
 ·cases hx with
  |set a h=>
   simp only[List.mem_cons,List.not_mem_nil,or_false] at hp;subst hp;refine⟨Nat.le_refl _,aL.1 aW,.inl rfl,lu.row ?_ fun c hc=>?_⟩
   ·rw[Dr,TO a h.2.2];exact aL.1 aW
   ·rw[Dr] at hc;exact gy.hi<|ado a c hc
  |heap a h c1 c2=>
   simp only[F0,List.mem_cons,List.not_mem_nil,or_false] at hp;have h1:=h.1.2;have h2:=h.2.1.2;rcases hp with rfl|rfl|rfl
   ·refine⟨Nat.le_refl _,aL.1 aW,.inl rfl,lu.row ?_ fun c hc=>?_⟩
    ·rw[Dr];exact Nat.le_of_lt<|yS (by show 4<1024;omega)
    ·rw[Dr] at hc;simp only[O9,List.mem_cons,List.not_mem_nil,or_false] at hc;rcases hc with rfl|rfl|rfl|rfl
     ·exact gy.slice (by simp[F0])
     ·exact gy.hi rfl
     ·exact gy.hi rfl
     ·exact gy.slice (by simp[F0])
   ·refine⟨by show 270<=271;omega,yS (by show 271<1024;omega),.inl rfl,lu.row ?_ adq⟩;rw[yE (K:=2) fun _=>rfl];exact Nat.le_of_lt<|yS ab
   ·refine⟨by show 270<=272;omega,yS (by show 272<1024;omega),.inl rfl,lu.row ?_ ae7⟩;rw[yE (K:=1) fun _=>rfl];exact Nat.le_of_lt<|yS ab
  |buf ms h cap hc=>exact ae5 h p hp
  |tL a h bh c hj=>exact adn h hj p hp
 ·cases hx with
  |set a h=>exact⟨_,List.mem_cons_self⟩
  |heap a h c1 c2=>exact⟨_,List.mem_cons_self⟩
  |buf ms h cap hc=>exact⟨_,List.mem_cons_self⟩
  |tL a h bh c hj=>exact⟨_,List.mem_cons_self⟩
theorem al3{a:ze}{nl:Nat}(c1 c2:bW)(h:Jc a)(hn:nl=a.vq.length)(hv:nv=a.vH.length)(e:Y=y)(ev:v=JS a)(nx:Nat):
 oV 2 y v (ah (ar++[(270,some<|Pa nl nv c1 c2 a.bp a.xF),(271,some<|aC zd a.vq),(272,some<|aC encI a.vH)]) nx) Y:=by
 subst hn;subst hv;subst ev;refine⟨e,_,.heap a h c1 c2,fun m p hm=>?_⟩;simp only[F0,List.mem_cons,List.not_mem_nil,or_false] at hm;rcases hm with hm|hm|hm<;>(injection hm with h1 h2;subst h1;subst h2;kernel_rfl)
abbrev alT(B:aJ)(g nt:Nat)(rs:List ResultVar)(a:ze)(c1 c2:bW)(rest:List AV)(y v':AV):Prop:=au pg B 271 (iS XT pg rs 2 y v') ⟨g,dt<|.ptr (some (270,0))::rest,nt,[.code<|aR pg g []],[],none⟩<|ah (ar++[(270,some<|Pa a.vq.length a.vH.length c1 c2 a.bp a.xF),(271,some<|aC zd a.vq),(272,some<|aC encI a.vH)]) 273
def WS(l:List Lk)(z:Int):Lk:=l.getD z.toNat default
theorem alU{l:List Lk}{z:Int}(h1:0<=z)(h2:z<((l.length:Nat):Int)):l[z.toNat]? =some (WS l z):=by
 have:z.toNat<l.length:=by omega
 unfold WS;rw[List.getD_eq_getElem?_getD,List.getElem?_eq_getElem this];rfl
def Gv(l:List Int)(z:Int):Int:=l.getD z.toNat 0
theorem agn{l:List Int}{z:Int}(h1:0<=z)(h2:z<((l.length:Nat):Int)):l[z.toNat]? =some (Gv l z):=by
 have:z.toNat<l.length:=by omega
 unfold Gv;rw[List.getD_eq_getElem?_getD,List.getElem?_eq_getElem this];rfl
theorem alx(x:Lk):(zd x).length=2:=rfl
theorem alG{a:ze}(h:Jc a):a.vq.length*2<=top:=by have:=h.1.2;exact Nat.le_of_lt<|yS ab
theorem alH{a:ze}(h:Jc a):a.vH.length*1<=top:=by have:=h.2.1.2;exact Nat.le_of_lt<|yS ab
theorem aly{nl:Nat}{c1 c2:bW}{x y:Int}:(O9 nl nv c1 c2 x y).length<=top:=Nat.le_of_lt<|yS (by show 4<1024;omega)
abbrev aY(L:bO):Prop:=dR XT 270 pg<|sp L
abbrev Mt(L:bO)(B:aJ):Prop:=qz XT pg 270 dT dG L B
theorem ai{B:Prop}(a:A)(b:B):A/\B:=⟨a,b⟩
theorem oF(h:False):False:=h
theorem rX{α:Type}(x:α):x=x:=rfl
theorem mS(l:List<|Nat×AV):l.map (fun q=>some q.2)=l.map (fun q=>some q.2):=rfl
theorem mO(l:List<|Nat×Option ae):l.map (fun q=>q.2)=l.map (fun q=>q.2):=rfl
theorem wI(z:Int)(h: -9223372036854775808<=z/\z<=9223372036854775807:=by omega):AV.int .i64 (IntKind.wrap .i64 z)=AV.int .i64 z:=congrArg (AV.int .i64)<|EA h
theorem ix2(z n:Int)(h1:0<=z)(h2:z<n)(x:A):0<=z/\z<n/\A:=⟨h1,h2,x⟩
theorem dS(z n:Int)(x:A)(h1:0<=z:=by omega)(h2:z<n:=by omega):0<=z/\z<n/\A:=⟨h1,h2,x⟩
abbrev i6(n:Int):AV:=.int .i64 n
abbrev u8(n:Int):AV:=.int .u8 n
abbrev i0:AV:=.int .i64<|.ofNat 0
section
variable {L:bO} {B:aJ} (mc:Mt L B) {f nt:Nat} {t:Tr AV} {K:List Item} {s:AS} {rs:List ResultVar} {R:AV->AS->Prop}
include mc
theorem wS(p:Pl)(x:T)(h:T=wp (en L) 900 6 (.fr f nt K t s) p rs (fun v s _=>R v s) (fun _ _ _=>False):=by as_aux_lemma=>kernel_rfl)(h0:Nat.ble 270 s.nx=true:=by as_aux_lemma=>kernel_rfl):au pg B 270 (Fin pg rs R) ⟨f,t,nt,K,[],none⟩ s:=lZ (E:=en L) eQ rfl bH mc.2.2.1 mc.2.2.2 900 p x h h0
theorem Ei(p:Pl)(x:T)(h:T=wp (o9 L) 900 6 (.fr f nt K t s) p rs (fun v s _=>R v s) (fun _ _ _=>False):=by as_aux_lemma=>kernel_rfl)(h0:Nat.ble 271 s.nx=true:=by as_aux_lemma=>kernel_rfl):au pg B 271 (Fin pg rs R) ⟨f,t,nt,K,[],none⟩ s:=lZ (E:=o9 L) eQ rfl bH mc.2.2.1 mc.2.2.2 900 p x h h0
theorem wC(hC:∀fr s p,C fr s p->au pg B 270 (Fin pg rs R) fr s)(p:Pl)(x:T)(h:T=wp (en L) 900 6 (.fr f nt K t s) p rs (fun v s _=>R v s) C:=by as_aux_lemma=>kernel_rfl)(h0:Nat.ble 270 s.nx=true:=by as_aux_lemma=>kernel_rfl):au pg B 270 (Fin pg rs R) ⟨f,t,nt,K,[],none⟩ s:=wp_cut (E:=en L) eQ rfl bH mc.2.2.1 mc.2.2.2 gU rfl mc.1 hC 900 p x h h0
theorem B6(hC:∀fr s p,C fr s p->au pg B 271 (Fin pg rs R) fr s)(p:Pl)(x:T)(h:T=wp (o9 L) 900 6 (.fr f nt K t s) p rs (fun v s _=>R v s) C:=by as_aux_lemma=>kernel_rfl)(h0:Nat.ble 271 s.nx=true:=by as_aux_lemma=>kernel_rfl):au pg B 271 (Fin pg rs R) ⟨f,t,nt,K,[],none⟩ s:=wp_cut (E:=o9 L) eQ rfl bH mc.2.2.1 mc.2.2.2 aaU rfl mc.1 hC 900 p x h h0
end
abbrev Sm(B:aJ)(f:Func)(v:AV)(fr:AF)(s:AS):Prop:=au pg B 270 (Fin pg f.results.toList fun y _=>y=v) fr s
theorem gP{L L':bO}{g:Nat}{fn:Func}{val:List AV->Option AV}(hP:bS pg)(h:aY L)(h':aY L')(cj:Tryd.prog.funcs[g]? =some fn)(eT:∀args v,val args=some v->max fn.ntmps args.length<=top/\∀B:aJ,Mt L' B->au pg B 270 (Fin pg fn.results.toList fun y _=>y=v) ⟨g,dt args,max fn.ntmps args.length,[.code<|aR pg g []],[],none⟩ ⟨dG,270,0,[],[]⟩)(ct:fn.body=some (aR pg g []):=by kernel_rfl)(hn:(fn.name == "runtime.NumGoroutine")=false:=by kernel_rfl):aY<|(g,.val val)::L:=adb hP gU rf jR jj h h' cj ct hn eT
end ch
end
section
open Go Go.Rn Go.RowKit Go.Proofs
namespace cQ
open ch cG
variable {x0:Int} {L k:Nat}
def sX(m op n:Int)(L:Nat)(x0 x1:Int):Prop:=1<=m/\((op=1/\L=0)\/(op=2/\L=0/\0<=n/\n<8)\/(op=3/\L=0/\0<=n/\n<6)\/(4<=op/\op<=8/\n=0/\L=2/\x0=1/\x1=1))
instance {m op n:Int} {L:Nat} {x0 x1:Int}:Decidable<|sX m op n L x0 x1:=by unfold sX;exact inferInstance
theorem wq1{m op n:Int}{x1:Int}(h:1<=m/\((op=1/\L=0)\/(op=2/\L=0/\0<=n/\n<8)\/(op=3/\L=0/\0<=n/\n<6)\/(4<=op/\op<=8/\n=0/\L=2/\x0=1/\x1=1))):AV.bool true= .bool (decide<|sX m op n L x0 x1):=by rw[decide_eq_true (show sX m op n L x0 x1 from h)]
theorem wq0{m op n:Int}{x1:Int}(h:¬(1<=m/\((op=1/\L=0)\/(op=2/\L=0/\0<=n/\n<8)\/(op=3/\L=0/\0<=n/\n<6)\/(4<=op/\op<=8/\n=0/\L=2/\x0=1/\x1=1)))):AV.bool false= .bool (decide<|sX m op n L x0 x1):=by rw[decide_eq_false (show ¬sX m op n L x0 x1 from h)]
def sY(k:Nat)(args:List AV)(v:AV):Prop:=∃(e:Ex) (m:Int),args=[.agg<|aD e,.int .i64 m]/\(0<=m/\m<k)/\k<=50/\v= .bool (eL m.toNat e)
theorem sY.bM(args:List AV)(v v':AV)(h:sY k args v)(h':sY k args v'):v=v':=by obtain⟨e,m,rfl,_,_,rfl⟩:=h;obtain⟨e',m',h1,_,_,rfl⟩:=h';simp only[List.cons.injEq,AV.agg.injEq,AV.int.injEq,true_and,_root_.and_true] at h1;rw[nr _ _ h1.1,h1.2]
noncomputable def kW(k:Nat):FuncId×KE:=(81,.val<|aP<|sY k)
theorem adr{B:aJ}{N N0 L0 N1 L1:Nat}{op n m bN n0 cx n1 x1:Int}(mc:Mt [kW k] B)(hn:top<=N)(hm:0<=m/\m<100)(rV:L=2->cv FU N (0+(0:Int).toNat*3+0) 3=some [(u8<|bN),(i6 n0),(.U N0 0 L0)])(jk:L=2->1<=m->ba (aP<|sY k) [(.agg [(u8<|bN),(i6 n0),(.U N0 0 L0)]),(i6<|(m - 1))]=some (.bool<|decide<|x0=1))(hZ:L=2->cv FU N (0+(1:Int).toNat*3+0) 3=some [(u8<|cx),(i6 n1),(.U N1 0 L1)])(jG:L=2->1<=m->ba (aP<|sY k) [(.agg [(u8<|cx),(i6 n1),(.U N1 0 L1)]),(i6<|(m - 1))]=some (.bool<|decide<|x1=1)):au pg B 270 (Fin pg (az Tryd.f81) fun y _=>y=(.bool<|decide<|sX m op n L x0 x1)) (sF 81 Tryd.f81 [(.agg [(u8<|op),(i6 n),(.U N 0 L)]),(i6 m)])<|ah ar 270:=by exact wS mc (.st 3<|.rg<|.go 3<|.fk (.go 1<|.en<|.st 3<|.rg<|.go 1<|.fk (.go 1<|.en<|.rt 4 .no)<|.go 1<|.en<|.st 2<|.rg<|.go 2<|.fk (.go 1<|.en<|.rt 4 .no)<|.go 1<|.en<|.st 2<|.rg<|.go 2<|.fk (.go 1<|.en<|.st 2<|.rg<|.go 4<|.fk (.go 4<|.fk (.go 2<|.en<|.rt 1 .no)<|.go 2<|.en<|.rt 1 .no)<|.go 7<|.en<|.rt 1 .no)<|.go 1<|.en<|.st 2<|.rg<|.go 2<|.fk (.go 1<|.en<|.st 2<|.rg<|.go 4<|.fk (.go 4<|.fk (.go 2<|.en<|.rt 1 .no)<|.go 2<|.en<|.rt 1 .no)<|.go 7<|.en<|.rt 1 .no)<|.go 1<|.en<|.st 2<|.rg<|.go 2<|.fk (.go 17<|.en<|.rt 4 .no)<|.go 3<|.fk (.go 13<|.en<|.rt 4 .no)<|.go 4<|.fk (.go 8<|.en<|.rt 4 .no)<|.go 5<|.fk (.go 2<|.en<|.rt 4 .no)<|.go 2<|.en<|.st 4<|.rg<|.go 2<|.eB<|.eC [(u8<|bN),(i6 n0),(.U N0 0 L0)]<|.go 1<|.vl (i6<|m - 1)<|.kp (x0=1) inferInstance (.go 3<|.eB<|.eC [(u8<|cx),(i6 n1),(.U N1 0 L1)]<|.go 1<|.vl (i6<|m - 1)<|.kp (x1=1) inferInstance (.go 2<|.en<|.rt 1 .no)<|.go 2<|.en<|.rt 1 .no)<|.go 10<|.en<|.rt 1 .no)<|.go 1<|.en<|.st 3<|.rg<|.go 1<|.fk (.go 1<|.en<|.rt 4 .no)<|.go 1<|.en<|.st 2<|.rg<|.go 2<|.fk (.go 1<|.en<|.rt 4 .no)<|.go 1<|.en<|.st 2<|.rg<|.go 2<|.fk (.go 1<|.en<|.rt 4 .no)<|.go 1<|.en<|.st 2<|.rg<|.go 2<|.fk (.go 1<|.en<|.rt 4 .no)<|.go 1<|.en<|.st 2<|.rg<|.go 2<|.fk (.go 17<|.en<|.rt 4 .no)<|.go 3<|.fk (.go 13<|.en<|.rt 4 .no)<|.go 4<|.fk (.go 8<|.en<|.rt 4 .no)<|.go 5<|.fk (.go 2<|.en<|.rt 4 .no)<|.go 2<|.en<|.st 4<|.rg<|.go 2<|.eB<|.eC [(u8<|bN),(i6 n0),(.U N0 0 L0)]<|.go 1<|.vl (i6<|m - 1)<|.kp (x0=1) inferInstance (.go 3<|.eB<|.eC [(u8<|cx),(i6 n1),(.U N1 0 L1)]<|.go 1<|.vl (i6<|m - 1)<|.kp (x1=1) inferInstance (.go 2<|.en<|.rt 1 .no)<|.go 2<|.en<|.rt 1 .no)<|.go 10<|.en<|.rt 1 .no)<|aT ((L:Int)=0) (fun _=>(aT (m<1) o8 fun _=>(aT (op=1) Ke fun _=>(aT (op=2) (fun _=>(aT (n>=0) (fun _=>(aT (n<8) Ke o8)) o8)) fun _=>(aT (op=3) (fun _=>(aT (n>=0) (fun _=>(aT (n<6) Ke o8)) o8)) WJ))))) fun _=>(aT (m<1) o8 fun _=>(aT (op=1) o8 fun _=>(aT (op=2) o8 fun _=>(aT (op=3) o8 WJ))))
end cQ
end
section
open Go Go.Rn Go.RowKit Go.Proofs
namespace di
open ch cG cQ
theorem yK{l:List Ex}{i:Nat}{a:Ex}(h:l[i]? =some a){z:Int}(hz:z.toNat=i):cv FU (nm<|cH l) (0+z.toNat*3+0) 3=some (aD a):=by rw[Cs,hz,Nat.zero_add,sS kF h 0 3 ab];rw[List.drop_zero,List.take_of_length_le (by rw[kF.len];omega)]
def bit(b:Bool):Int:=if b then 1 else 0
theorem wV(b:Bool):decide (bit b=1)=b:=by cases b<;>rfl
theorem ab6{m op n:Int}{l:List Ex}(h0:0<=m):sX m op n l.length (bit<|eL (m - 1).toNat<|l.getD 0 default) (bit<|eL (m - 1).toNat<|l.getD 1 default)↔eL m.toNat (.mk op n l)=true:=by
 by_cases hm:m=0
 ·subst hm;unfold sX;show _↔false=true;constructor
  ·intro h;omega
  ·intro h;cases h
 ·obtain⟨k,hk⟩:∃k,m.toNat=k+1:=⟨m.toNat - 1,by omega⟩;rw[hk,show(m - 1).toNat=k by omega,LR];unfold sX;have b1:∀b:Bool,(bit b=1)↔b=true:=fun b=>by cases b<;>decide
  rw[b1,b1];have e1:l.isEmpty=true↔l.length=0:=by cases l<;>simp
  generalize eL k (l.getD 0 default)=x;generalize eL k (l.getD 1 default)=y;generalize l.isEmpty=q at e1;generalize l.length=L at e1;have x2:(x=true)\/(x=false):=by cases x<;>simp
  have y2:(y=true)\/(y=false):=by cases y<;>simp
  split
  ·rw[e1];omega
  split
  ·rw[Bool.and_eq_true,Bool.and_eq_true,e1,decide_eq_true_eq,decide_eq_true_eq];omega
  split
  ·rw[Bool.and_eq_true,Bool.and_eq_true,e1,decide_eq_true_eq,decide_eq_true_eq];omega
  split
  ·exact⟨fun h=>by omega,fun h=>by cases h⟩
  rw[Bool.and_eq_true,Bool.and_eq_true,decide_eq_true_eq];constructor
  ·intro h;rcases h.2 with h|h|h|h
   ·omega
   ·omega
   ·omega
   ·exact⟨⟨h.2.2.2.1,h.2.2.2.2.1⟩,h.2.2.2.2.2⟩
  ·intro h;exact⟨by omega,.inr<|.inr<|.inr ⟨by omega,by omega,by omega,h.1.1,h.1.2,h.2⟩⟩
theorem Bf(e:Ex):AV.hi (.agg<|aD e)=true:=by show(aD e).all AV.cM=true;exact List.all_eq_true.2 fun x hx=>CD<|List.all_eq_true.1 (kF.gg e) x hx
theorem Z5(hP:bS pg){k:Nat}(h':aY [kW k]){L:bO}(h:aY L):aY<|kW (k+1)::L:=by
 refine gP hP h h' Tryd.func81 fun args v e=>?_;obtain⟨⟨op,n,l⟩,m,rfl,hm,hk,rfl⟩:=fV e;refine⟨aL.1 aW,fun B mc=>?_⟩;rw[←ij];obtain⟨bN,n0,l0,e0⟩:∃a b c,l.getD 0 default=Ex.mk a b c:=by cases l.getD 0 default;exact⟨_,_,_,rfl⟩
 obtain⟨cx,n1,l1,e1⟩:∃a b c,l.getD 1 default=Ex.mk a b c:=by cases l.getD 1 default;exact⟨_,_,_,rfl⟩
 have c:∀x:Ex,1<=m->ba (aP<|sY k) [.agg<|aD x,.int .i64<|m - 1]=some (.bool<|decide<|bit (eL (m - 1).toNat x)=1):=fun x h1=>by rw[wV];refine eP (eK sY.bM ⟨x,m - 1,rfl,by omega,by omega,rfl⟩) ?_ rfl;rw[List.all_cons,Bf];rfl
 have key:=adr (L:=l.length) (N:=nm<|cH l) (op:=op) (n:=n) (m:=m) (k:=k) mc (cF _) ab
  (x0:=bit<|eL (m - 1).toNat<|l.getD 0 default) (x1:=bit<|eL (m - 1).toNat<|l.getD 1 default)
  (N0:=nm<|cH l0) (L0:=l0.length) (bN:=bN) (n0:=n0) (N1:=nm<|cH l1) (L1:=l1.length) (cx:=cx) (n1:=n1)
  (fun _=>by have:=yK (l:=l) (i:=0) (a:=l.getD 0 default) (by rw[List.getD_eq_getElem?_getD,List.getElem?_eq_getElem (show 0<l.length by omega)];rfl) (z:=0) rfl;rw[e0,aD] at this;exact this)
  (fun h2 h1=>by have:=c (l.getD 0 default) h1;rw[e0,aD, ←e0] at this;exact this)
  (fun _=>by have:=yK (l:=l) (i:=1) (a:=l.getD 1 default) (by rw[List.getD_eq_getElem?_getD,List.getElem?_eq_getElem (show 1<l.length by omega)];rfl) (z:=1) rfl;rw[e1,aD] at this;exact this)
  (fun h2 h1=>by have:=c (l.getD 1 default) h1;rw[e1,aD, ←e1] at this;exact this)
 rw[show decide (sX m op n l.length _ _)=eL m.toNat (.mk op n l) from by rw[Bool.eq_iff_iff,decide_eq_true_eq];exact ab6 hm.1] at key;rw[aD];exact key
theorem S5(hP:bS pg):∀k,aY [kW k]
 |0=>by refine gP hP dc dc Tryd.func81 fun args v e=>?_;obtain⟨_,m,_,hm,_⟩:=fV e;omega
 |k+1=>Z5 hP (S5 hP k) dc
end di
end
section
open Go Go.Rn Go.RowKit Go.Proofs
namespace fW
open ch cG cQ di
variable {x:Int} {B:aJ} {N L:Nat}
def tM(x m:Int):AV:=if m<1 then .tuple [.int .i64 0,.int .i64 1] else if Int.tmod x m<0 then .tuple [.int .i64<|Int.tmod x m+m,.int .i64 0] else .tuple [.int .i64<|Int.tmod x m,.int .i64 0]
theorem ads{m:Int}(h:1<=m): - m<Int.tmod x m/\Int.tmod x m<m:=by have h1:=Int.tmod_lt_of_pos x (show 0<m by omega);have h2:=Int.lt_tmod_of_pos x (show 0<m by omega);exact⟨h2,h1⟩
theorem adt{op n:Int}(mc:Mt [kW 7] B)(hc:ba (aP<|sY 7) [(.agg [(u8<|op),(i6 n),(.U N 0 L)]),.int .i64 6]=some (.bool<|decide<|x=1)):au pg B 270 (Fin pg (az Tryd.f71) fun y _=>y=(.bool<|decide<|x=1)) (sF 71 Tryd.f71 [(.agg [(u8<|op),(i6 n),(.U N 0 L)])])<|ah ar 270:=by exact wS mc (.st 3<|.rg<|.go 1<|.kp (x=1) inferInstance (.go 1<|.en<|.rt 1 .no)<|.go 1<|.en<|.rt 1 .no)<|ai hc<|aT (x=1) (fun _=>(show AV.bool true= .bool (decide<|x=1) from by rw[decide_eq_true ab])) fun _=>(show AV.bool false= .bool (decide<|x=1) from by rw[decide_eq_false ab])
theorem ah5{o:Nat}{z u:Int}(mc:Mt [] B)(hn:top<=N)(hz:0<=z)(hy:z<(L:Int)->cv FU N (o+z.toNat*1+0) 1=some [.int .i64 u]):au pg B 270 (Fin pg (az Tryd.f82) fun y _=>y=(if z>=(L:Int) then .tuple [.int .i64 0,.int .i64 5] else .tuple [.int .i64 u,.int .i64 0])) (sF 82 Tryd.f82 [(.U N o L),(i6 z)])<|ah ar 270:=by exact wS mc (.st 4<|.rg<|.go 3<|.fk (.en<|.rt 4 .no)<|.en<|.st 3<|.rg<|.go 2<|.eB<|.eC [(i6 u)]<|.go 2<|.en<|.rt 1 .no)<|aT (z>=(L:Int)) (fun _=>(show AV.tuple [i0,(i6<|.ofNat 5)]=(if z>=(L:Int) then .tuple [.int .i64 0,.int .i64 5] else .tuple [.int .i64 u,.int .i64 0]) from by rw[if_pos ab];rfl)) fun _=>(dS z (L:Int)<|ai hn<|ai (hy ab) (show AV.tuple [(i6 u),i0]=(if z>=(L:Int) then .tuple [.int .i64 0,.int .i64 5] else .tuple [.int .i64 u,.int .i64 0]) from by rw[if_neg ab];rfl))
theorem ago{m:Int}(mc:Mt [] B)(hm:m<=1099511627776)(ht:1<=m-> - m<Int.tmod x m):au pg B 270 (Fin pg (az Tryd.f52) fun y _=>y=(tM x m)) (sF 52 Tryd.f52 [(i6 x),(i6 m)])<|ah ar 270:=by exact wS mc (.st 4<|.rg<|.go 1<|.fk (.en<|.rt 4 .no)<|.en<|.st 3<|.rg<|.go 2<|.rm<|.go 1<|.en<|.st 2<|.rg<|.go 1<|.fk (.en<|.st 1<|.rg<|.go 2<|.vl (i6<|(Int.tmod x m)+m)<|.go 1<|.en<|.rt 3 .no)<|.en<|.rt 5 .no)<|aT (m<1) (fun _=>(show AV.tuple [i0,(i6<|.ofNat 1)]=tM x m from by unfold tM;repeat' split<;>first|rfl|omega|(exfalso;omega))) fun _=>(ai (show m≠0 from by omega)<|aT ((Int.tmod x m)<0) (fun _=>(ai (wI<|(Int.tmod x m)+m) (show AV.tuple [(i6<|((Int.tmod x m)+m)),i0]=tM x m from by unfold tM;repeat' split<;>first|rfl|omega|(exfalso;omega)))) fun _=>(show AV.tuple [(i6<|(Int.tmod x m)),i0]=tM x m from by unfold tM;repeat' split<;>first|rfl|omega|(exfalso;omega)))
end fW
end
section
open Go Go.Rn Go.RowKit Go.Proofs
namespace fD
open ch cG cQ di fW
variable {L:bO}
noncomputable section
def vI(args:List AV)(v:AV):Prop:=∃e:Ex,args=[.agg<|aD e]/\v= .bool (eL 6 e)
theorem vI.bM(args:List AV)(v v':AV)(h:vI args v)(h':vI args v'):v=v':=by obtain⟨e,rfl,rfl⟩:=h;obtain⟨e',h1,rfl⟩:=h';simp only[List.cons.injEq,AV.agg.injEq,_root_.and_true] at h1;rw[nr _ _ h1]
def PU:FuncId×KE:=(71,.val<|aP vI)
theorem UD(hP:bS pg)(h:aY L):aY<|PU::L:=by refine gP hP h (S5 hP 7) Tryd.func71 fun args v e=>?_;obtain⟨⟨op,n,l⟩,rfl,rfl⟩:=fV e;refine⟨aL.1 aW,fun B mc=>?_⟩;rw[←ij];have key:=adt (L:=l.length) (N:=nm<|cH l) (op:=op) (n:=n) (x:=bit<|eL 6<|.mk op n l) mc (by rw[wV];have:=eP (eK sY.bM ⟨.mk op n l,6,rfl,by omega,by omega,rfl⟩:aP (sY 7) [.agg<|aD<|.mk op n l,.int .i64 6]=_) rD rfl;rw[aD] at this;exact this);rw[wV] at key;rw[aD];exact key
def rW(l:List Int)(z:Int):Int×Int:=if z>=(l.length:Int) then(0,5) else(Gv l z,0)
def DN(p:Int×Int):AV:=.tuple [.int .i64 p.1,.int .i64 p.2]
def AtR(args:List AV)(v:AV):Prop:=∃(N o L:Nat) (l:List Int) (z:Int),args=[.U N o L,.int .i64 z]/\dv encI 1 (.U N o L) l/\0<=z/\v=DN (rW l z)
theorem AtR.bM(args:List AV)(v v':AV)(h:AtR args v)(h':AtR args v'):v=v':=by obtain⟨N,o,L,l,z,rfl,hl,_,rfl⟩:=h;obtain⟨N',o',L',l',z',h1,kV,_,rfl⟩:=h';simp only[List.cons.injEq,AV.U.injEq,AV.int.injEq,true_and,_root_.and_true] at h1;obtain⟨⟨rfl,rfl,rfl⟩,rfl⟩:=h1;rw[dv.inj sB hl kV]
def zU:FuncId×KE:=(82,.val<|aP AtR)
theorem ae8(hP:bS pg)(h:aY L):aY<|zU::L:=by
 refine gP hP h dc Tryd.func82 fun args v e=>?_;obtain⟨N,o,len,l,z,rfl,hl,hz,rfl⟩:=fV e;refine⟨aL.1 aW,fun B mc=>?_⟩;rw[←ij];obtain⟨h1,h2,h3⟩:=hl.len;subst h1;have key:=ah5 (u:=Gv l z) mc h2 hz (fun bZ=>by have:=h3 z.toNat (Gv l z)<|agn hz ab;exact this);unfold DN rW;split at key<;>rename_i q
 ·rw[if_pos q];exact key
 ·rw[if_neg q];exact key
def Bx(args:List AV)(v:AV):Prop:=∃(x m:Int),args=[.int .i64 x,.int .i64 m]/\m<=1099511627776/\v=tM x m
theorem Bx.bM(args:List AV)(v v':AV)(h:Bx args v)(h':Bx args v'):v=v':=by obtain⟨x,m,rfl,_,rfl⟩:=h;obtain⟨x',m',h1,_,rfl⟩:=h';simp only[List.cons.injEq,AV.int.injEq,true_and,_root_.and_true] at h1;rw[h1.1,h1.2]
def Kh:FuncId×KE:=(52,.val<|aP Bx)
theorem adu(hP:bS pg)(h:aY L):aY<|Kh::L:=by refine gP hP h dc Tryd.func52 fun args v e=>?_;obtain⟨x,m,rfl,hm,rfl⟩:=fV e;refine⟨aL.1 aW,fun B mc=>?_⟩;rw[←ij];exact ago mc hm fun h=>(ads h).1
end
end fD
end
section
open Go Go.Rn Go.RowKit Go.Proofs
namespace gH
open ch cG cQ di fW fD
variable {k q p lm lg N1 N0 N L1 L0 L G:Nat} {x0 bN n1 n0 f1 f0:Int} {B:aJ}
def nX(op a b:Int):Int:=if op=4 then IntKind.wrap .i64 (a+b) else if op=5 then IntKind.wrap .i64 (a - b) else if op=6 then IntKind.wrap .i64 (a*b) else if op=7 then(if a<b then 1 else 0) else if a=b then 1 else 0
def lv(op n x0 f0 x1 f1:Int):Int×Int:=if op=1 then(n,0) else if op=2 then(x0,f0) else if op=3 then(x0,f0) else if f0≠0 then(0,f0) else if f1≠0 then(0,f1) else(nX op x0 x1,0)
def gK(op n x0 f0 x1 f1:Int):AV:=DN<|lv op n x0 f0 x1 f1
def ly:Nat->Ex->List Int->List Int->Int×Int
 |0,_,_,_=>(0,0)
 |k+1,.mk op n args,lo,aA=>
  if op=2 then lv op n (rW lo n).1 (rW lo n).2 0 0 else if op=3 then lv op n (rW aA n).1 (rW aA n).2 0 0
  else lv op n (ly k (args.getD 0 default) lo aA).1 (ly k (args.getD 0 default) lo aA).2 (ly k (args.getD 1 default) lo aA).1 (ly k (args.getD 1 default) lo aA).2
theorem Z6{op n:Int}{args:List Ex}{lo aA:List Int}:ly (k+1) (.mk op n args) lo aA=if op=2 then lv op n (rW lo n).1 (rW lo n).2 0 0 else if op=3 then lv op n (rW aA n).1 (rW aA n).2 0 0 else lv op n (ly k (args.getD 0 default) lo aA).1 (ly k (args.getD 0 default) lo aA).2 (ly k (args.getD 1 default) lo aA).1 (ly k (args.getD 1 default) lo aA).2:=rfl
def qj(k:Nat)(args:List AV)(v:AV):Prop:=∃(e:Ex) (M p lm G q lg:Nat) (lo aA:List Int),args=[.agg<|aD e,.U M p lm,.U G q lg]/\dv encI 1 (.U M p lm) lo/\dv encI 1 (.U G q lg) aA/\eL k e=true/\v=DN (ly k e lo aA)
theorem qj.bM(args:List AV)(v v':AV)(h:qj k args v)(h':qj k args v'):v=v':=by obtain⟨e,M,p,lm,G,q,lg,lo,aA,rfl,a1,a2,_,rfl⟩:=h;obtain⟨e',M',p',lm',G',q',lg',nV,Ki,h1,b1,b2,_,rfl⟩:=h';simp only[List.cons.injEq,AV.agg.injEq,AV.U.injEq,_root_.and_true] at h1;obtain⟨h0,⟨rfl,rfl,rfl⟩,rfl,rfl,rfl⟩:=h1;rw[nr _ _ h0,dv.inj sB a1 b1,dv.inj sB a2 b2]
noncomputable def kC(k:Nat):FuncId×KE:=(72,.val<|aP<|qj k)
theorem adv{M N0 L0 N1 L1:Nat}{n bN n0 cx n1 x1:Int}(mc:Mt [kC k,zU] B):au pg B 270 (Fin pg (az Tryd.f72) fun y _=>y=(gK 1 n x0 f0 x1 f1)) (sF 72 Tryd.f72 [(.agg [(u8<|.ofNat 1),(i6 n),(.U N 0 L)]),(.U M p lm),(.U G q lg)])<|ah ar 270:=by exact wS mc (.rt 12 .no) (show AV.tuple [(i6 n),i0]=gK 1 n x0 f0 x1 f1 from by(unfold gK lv nX;repeat' split)<;>first|rfl|(exfalso;omega))
theorem adw{M N0 L0 N1 L1:Nat}{n bN n0 cx n1 x1:Int}(mc:Mt [kC k,zU] B)(hc:ba (aP AtR) [(.U M p lm),.int .i64 n]=some (.tuple [.int .i64 x0,.int .i64 f0])):au pg B 270 (Fin pg (az Tryd.f72) fun y _=>y=(gK 2 n x0 f0 x1 f1)) (sF 72 Tryd.f72 [(.agg [(u8<|.ofNat 2),(i6 n),(.U N 0 L)]),(.U M p lm),(.U G q lg)])<|ah ar 270:=by exact wS mc (.st 13<|.rg<|.go 3<|.kn (.tuple [(i6 x0),(i6 f0)])<|.go 4<|.en<|.rt 1 .no)<|ai hc (show AV.tuple [(i6 x0),(i6 f0)]=gK 2 n x0 f0 x1 f1 from by(unfold gK lv nX;repeat' split)<;>first|rfl|(exfalso;omega))
theorem adx{M N0 L0 N1 L1:Nat}{n bN n0 cx n1 x1:Int}(mc:Mt [kC k,zU] B)(hc:ba (aP AtR) [(.U G q lg),.int .i64 n]=some (.tuple [.int .i64 x0,.int .i64 f0])):au pg B 270 (Fin pg (az Tryd.f72) fun y _=>y=(gK 3 n x0 f0 x1 f1)) (sF 72 Tryd.f72 [(.agg [(u8<|.ofNat 3),(i6 n),(.U N 0 L)]),(.U M p lm),(.U G q lg)])<|ah ar 270:=by exact wS mc (.st 16<|.rg<|.go 3<|.kn (.tuple [(i6 x0),(i6 f0)])<|.go 4<|.en<|.rt 1 .no)<|ai hc (show AV.tuple [(i6 x0),(i6 f0)]=gK 3 n x0 f0 x1 f1 from by(unfold gK lv nX;repeat' split)<;>first|rfl|(exfalso;omega))
theorem NP{ka:Int}(hk:ka=4\/ka=5\/ka=6){L M:Nat}{n cx x1:Int}(mc:Mt [kC k,zU] B)(hn:top<=N)(rV:cv FU N (0+(0:Int).toNat*3+0) 3=some [(u8<|bN),(i6 n0),(.U N0 0 L0)])(jk:ba (aP<|qj k) [(.agg [(u8<|bN),(i6 n0),(.U N0 0 L0)]),(.U M p lm),(.U G q lg)]=some (.tuple [.int .i64 x0,.int .i64 f0]))(hZ:cv FU N (0+(1:Int).toNat*3+0) 3=some [(u8<|cx),(i6 n1),(.U N1 0 L1)])(jG:ba (aP<|qj k) [(.agg [(u8<|cx),(i6 n1),(.U N1 0 L1)]),(.U M p lm),(.U G q lg)]=some (.tuple [.int .i64 x1,.int .i64 f1])):au pg B 270 (Fin pg (az Tryd.f72) fun y _=>y=(gK ka n x0 f0 x1 f1)) (sF 72 Tryd.f72 [(.agg [(.int .u8 ka),(i6 n),(.U N 0 2)]),(.U M p lm),(.U G q lg)])<|ah ar 270:=by
 have TT:=(dS (0:Int) 2<|ai hn<|ai rV<|ai jk<|aT (f0≠0) (fun _=>(show AV.tuple [i0,(i6 f0)]=gK ka n x0 f0 x1 f1 from by rcases hk with rfl|rfl|rfl<;>(unfold gK lv nX;repeat' split)<;>first|rfl|(exfalso;omega))) fun _=>(dS (1:Int) 2<|ai hn<|ai hZ<|ai jG<|aT (f1≠0) (fun _=>(show AV.tuple [i0,(i6 f1)]=gK ka n x0 f0 x1 f1 from by rcases hk with rfl|rfl|rfl<;>(unfold gK lv nX;repeat' split)<;>first|rfl|(exfalso;omega))) fun _=>(show AV.tuple [(i6<|nX ka x0 x1),i0]=gK ka n x0 f0 x1 f1 from by rcases hk with rfl|rfl|rfl<;>(unfold gK lv nX;repeat' split)<;>first|rfl|(exfalso;omega))));rcases hk with rfl|rfl|rfl
 all_goals exact wS mc (.st 32<|.rg<|.go 1<|.eB<|.eC [(u8<|bN),(i6 n0),(.U N0 0 L0)]<|.go 3<|.en<|.st 1<|.rg<|.go 3<|.kn (.tuple [(i6 x0),(i6 f0)])<|.go 5<|.en<|.st 2<|.rg<|.go 1<|.fk (.en<|.rt 4 .no)<|.en<|.st 14<|.rg<|.go 1<|.eB<|.eC [(u8<|cx),(i6 n1),(.U N1 0 L1)]<|.go 3<|.en<|.st 1<|.rg<|.go 3<|.kn (.tuple [(i6 x1),(i6 f1)])<|.go 5<|.en<|.st 2<|.rg<|.go 1<|.fk (.en<|.rt 4 .no)<|.en<|.st 12<|.rg<|.go 8<|.il<|.st 3<|.rg<|.go 2<|.go 1<|.go 1<|.en<|.rt 1<|.go 2<|.en<|.rt 1 .no) TT
theorem ady{L M:Nat}{n cx x1:Int}(mc:Mt [kC k,zU] B)(hn:top<=N)(rV:cv FU N (0+(0:Int).toNat*3+0) 3=some [(u8<|bN),(i6 n0),(.U N0 0 L0)])(jk:ba (aP<|qj k) [(.agg [(u8<|bN),(i6 n0),(.U N0 0 L0)]),(.U M p lm),(.U G q lg)]=some (.tuple [.int .i64 x0,.int .i64 f0]))(hZ:cv FU N (0+(1:Int).toNat*3+0) 3=some [(u8<|cx),(i6 n1),(.U N1 0 L1)])(jG:ba (aP<|qj k) [(.agg [(u8<|cx),(i6 n1),(.U N1 0 L1)]),(.U M p lm),(.U G q lg)]=some (.tuple [.int .i64 x1,.int .i64 f1])):au pg B 270 (Fin pg (az Tryd.f72) fun y _=>y=(gK 7 n x0 f0 x1 f1)) (sF 72 Tryd.f72 [(.agg [(u8<|.ofNat 7),(i6 n),(.U N 0 2)]),(.U M p lm),(.U G q lg)])<|ah ar 270:=by exact wS mc (.st 32<|.rg<|.go 1<|.eB<|.eC [(u8<|bN),(i6 n0),(.U N0 0 L0)]<|.go 3<|.en<|.st 1<|.rg<|.go 3<|.kn (.tuple [(i6 x0),(i6 f0)])<|.go 5<|.en<|.st 2<|.rg<|.go 1<|.fk (.en<|.rt 4 .no)<|.en<|.st 14<|.rg<|.go 1<|.eB<|.eC [(u8<|cx),(i6 n1),(.U N1 0 L1)]<|.go 3<|.en<|.st 1<|.rg<|.go 3<|.kn (.tuple [(i6 x1),(i6 f1)])<|.go 5<|.en<|.st 2<|.rg<|.go 1<|.fk (.en<|.rt 4 .no)<|.en<|.st 12<|.rg<|.go 8<|.il<|.st 3<|.rg<|.go 2<|.fk (.il<|.rt 9<|.go 1<|.en<|.rt 1<|.go 2<|.en<|.rt 1 .no)<|.il<|.rt 10<|.go 1<|.en<|.rt 1<|.go 2<|.en<|.rt 1 .no)<|dS (0:Int) 2<|ai hn<|ai rV<|ai jk<|aT (f0≠0) (fun _=>(show AV.tuple [i0,(i6 f0)]=gK 7 n x0 f0 x1 f1 from by(unfold gK lv nX;repeat' split)<;>first|rfl|(exfalso;omega))) fun _=>(dS (1:Int) 2<|ai hn<|ai hZ<|ai jG<|aT (f1≠0) (fun _=>(show AV.tuple [i0,(i6 f1)]=gK 7 n x0 f0 x1 f1 from by(unfold gK lv nX;repeat' split)<;>first|rfl|(exfalso;omega))) fun _=>(aT (x0<x1) (fun _=>(show AV.tuple [(i6<|.ofNat 1),i0]=gK 7 n x0 f0 x1 f1 from by(unfold gK lv nX;repeat' split)<;>first|rfl|(exfalso;omega))) fun _=>(show AV.tuple [i0,i0]=gK 7 n x0 f0 x1 f1 from by(unfold gK lv nX;repeat' split)<;>first|rfl|(exfalso;omega))))
theorem adz{L M:Nat}{n cx x1:Int}(mc:Mt [kC k,zU] B)(hn:top<=N)(rV:cv FU N (0+(0:Int).toNat*3+0) 3=some [(u8<|bN),(i6 n0),(.U N0 0 L0)])(jk:ba (aP<|qj k) [(.agg [(u8<|bN),(i6 n0),(.U N0 0 L0)]),(.U M p lm),(.U G q lg)]=some (.tuple [.int .i64 x0,.int .i64 f0]))(hZ:cv FU N (0+(1:Int).toNat*3+0) 3=some [(u8<|cx),(i6 n1),(.U N1 0 L1)])(jG:ba (aP<|qj k) [(.agg [(u8<|cx),(i6 n1),(.U N1 0 L1)]),(.U M p lm),(.U G q lg)]=some (.tuple [.int .i64 x1,.int .i64 f1])):au pg B 270 (Fin pg (az Tryd.f72) fun y _=>y=(gK 8 n x0 f0 x1 f1)) (sF 72 Tryd.f72 [(.agg [(u8<|.ofNat 8),(i6 n),(.U N 0 2)]),(.U M p lm),(.U G q lg)])<|ah ar 270:=by exact wS mc (.st 32<|.rg<|.go 1<|.eB<|.eC [(u8<|bN),(i6 n0),(.U N0 0 L0)]<|.go 3<|.en<|.st 1<|.rg<|.go 3<|.kn (.tuple [(i6 x0),(i6 f0)])<|.go 5<|.en<|.st 2<|.rg<|.go 1<|.fk (.en<|.rt 4 .no)<|.en<|.st 14<|.rg<|.go 1<|.eB<|.eC [(u8<|cx),(i6 n1),(.U N1 0 L1)]<|.go 3<|.en<|.st 1<|.rg<|.go 3<|.kn (.tuple [(i6 x1),(i6 f1)])<|.go 5<|.en<|.st 2<|.rg<|.go 1<|.fk (.en<|.rt 4 .no)<|.en<|.st 12<|.rg<|.go 8<|.il<|.st 3<|.rg<|.go 2<|.fk (.il<|.rt 9<|.go 1<|.en<|.rt 1<|.go 2<|.en<|.rt 1 .no)<|.il<|.rt 10<|.go 1<|.en<|.rt 1<|.go 2<|.en<|.rt 1 .no)<|dS (0:Int) 2<|ai hn<|ai rV<|ai jk<|aT (f0≠0) (fun _=>(show AV.tuple [i0,(i6 f0)]=gK 8 n x0 f0 x1 f1 from by(unfold gK lv nX;repeat' split)<;>first|rfl|(exfalso;omega))) fun _=>(dS (1:Int) 2<|ai hn<|ai hZ<|ai jG<|aT (f1≠0) (fun _=>(show AV.tuple [i0,(i6 f1)]=gK 8 n x0 f0 x1 f1 from by(unfold gK lv nX;repeat' split)<;>first|rfl|(exfalso;omega))) fun _=>(aT (x0=x1) (fun _=>(show AV.tuple [(i6<|.ofNat 1),i0]=gK 8 n x0 f0 x1 f1 from by(unfold gK lv nX;repeat' split)<;>first|rfl|(exfalso;omega))) fun _=>(show AV.tuple [i0,i0]=gK 8 n x0 f0 x1 f1 from by(unfold gK lv nX;repeat' split)<;>first|rfl|(exfalso;omega))))
end gH
end
section
open Go Go.Rn Go.RowKit Go.Proofs
namespace gQ
open ch cG cQ di fW fD gH
variable {k:Nat}
theorem Zv{op n:Int}{l:List Ex}(h:eL (k+1) (.mk op n l)=true):(op=1\/(op=2/\0<=n)\/(op=3/\0<=n))\/((op=4\/op=5\/op=6\/op=7\/op=8)/\l.length=2/\eL k (l.getD 0 default)=true/\eL k (l.getD 1 default)=true):=by
 rw[LR] at h;split at h
 ·omega
 split at h
 ·rw[Bool.and_eq_true,Bool.and_eq_true,decide_eq_true_eq] at h;omega
 split at h
 ·rw[Bool.and_eq_true,Bool.and_eq_true,decide_eq_true_eq] at h;omega
 split at h
 ·cases h
 rw[Bool.and_eq_true,Bool.and_eq_true,decide_eq_true_eq] at h;exact .inr ⟨by omega,h.1.1,h.1.2,h.2⟩
theorem V9{N o L:Nat}{l:List Int}{z:Int}(h:dv encI 1 (.U N o L) l)(hz:0<=z):ba (aP AtR) [.U N o L,.int .i64 z]=some (.tuple [.int .i64 (rW l z).1,.int .i64 (rW l z).2]):=eP (eK AtR.bM ⟨N,o,L,l,z,rfl,h,hz,rfl⟩) (by rw[List.all_cons,h.hi];rfl) rfl
theorem NQ{e:Ex}{M p lm G q lg:Nat}{lo aA:List Int}(h1:dv encI 1 (.U M p lm) lo)(h2:dv encI 1 (.U G q lg) aA)(hw:eL k e=true):
 ba (aP<|qj k) [.agg<|aD e,.U M p lm,.U G q lg]=some (.tuple [.int .i64 (ly k e lo aA).1,.int .i64 (ly k e lo aA).2]):=
 eP (eK qj.bM ⟨e,M,p,lm,G,q,lg,lo,aA,rfl,h1,h2,hw,rfl⟩) (by rw[List.all_cons,List.all_cons,List.all_cons,Bf,h1.hi,h2.hi];rfl) rfl
theorem aaV(hP:bS pg)(h':aY [kC k,zU]){L:bO}(h:aY L):aY<|kC (k+1)::L:=by
 refine gP hP h h' Tryd.func72 fun args v e=>?_;obtain⟨⟨op,n,l⟩,M,p,lm,G,q,lg,lo,aA,rfl,i1,i2,hw,rfl⟩:=fV e;refine⟨aL.1 aW,fun B mc=>?_⟩;rw[←ij,Z6,aD];rcases Zv hw with(rfl|⟨rfl,hn⟩|⟨rfl,hn⟩)|⟨ho,h2,w0,w1⟩
 ·exact adv (N0:=0) (L0:=0) (N1:=0) (L1:=0) (bN:=0) (n0:=0) (cx:=0) (n1:=0) (x0:=(ly k (l.getD 0 default) lo aA).1) (f0:=(ly k (l.getD 0 default) lo aA).2) (x1:=(ly k (l.getD 1 default) lo aA).1) (f1:=(ly k (l.getD 1 default) lo aA).2) mc
 ·exact adw (N0:=0) (L0:=0) (N1:=0) (L1:=0) (bN:=0) (n0:=0) (cx:=0) (n1:=0) (x1:=0) (f1:=0) mc<|V9 i1 hn
 ·exact adx (N0:=0) (L0:=0) (N1:=0) (L1:=0) (bN:=0) (n0:=0) (cx:=0) (n1:=0) (x1:=0) (f1:=0) mc<|V9 i2 hn
 obtain⟨bN,n0,l0,e0⟩:∃a b c,l.getD 0 default=Ex.mk a b c:=by cases l.getD 0 default;exact⟨_,_,_,rfl⟩
 obtain⟨cx,n1,l1,e1⟩:∃a b c,l.getD 1 default=Ex.mk a b c:=by cases l.getD 1 default;exact⟨_,_,_,rfl⟩
 have t0:=yK (l:=l) (i:=0) (a:=l.getD 0 default) (by rw[List.getD_eq_getElem?_getD,List.getElem?_eq_getElem (show 0<l.length by omega)];rfl) (z:=0) rfl;have t1:=yK (l:=l) (i:=1) (a:=l.getD 1 default) (by rw[List.getD_eq_getElem?_getD,List.getElem?_eq_getElem (show 1<l.length by omega)];rfl) (z:=1) rfl;have c0:=NQ i1 i2 w0;have c1:=NQ i1 i2 w1;rw[if_neg ab,if_neg ab,h2];generalize rV:ly k (l.getD 0 default) lo aA=y0 at c0;generalize hZ:ly k (l.getD 1 default) lo aA=y1 at c1;rw[e0,aD] at t0 c0;rw[e1,aD] at t1 c1;rcases ho with rfl|rfl|rfl|rfl|rfl
 ·exact NP (.inl rfl) (L:=0) mc (cF _) t0 c0 t1 c1
 ·exact NP (.inr<|.inl rfl) (L:=0) mc (cF _) t0 c0 t1 c1
 ·exact NP (.inr<|.inr rfl) (L:=0) mc (cF _) t0 c0 t1 c1
 ·exact ady (L:=0) mc (cF _) t0 c0 t1 c1
 ·exact adz (L:=0) mc (cF _) t0 c0 t1 c1
theorem TP(hP:bS pg):∀(k:Nat) {L:bO},aY L->aY (kC k::L)
 |0,L,h=>by refine gP hP h dc Tryd.func72 fun args v e=>?_;obtain⟨_,_,_,_,_,_,_,_,_,_,_,_,hw,_⟩:=fV e;cases hw
 |k+1,L,h=>aaV hP (TP hP k<|ae8 hP dc) h
end gQ
end
section
open Go Go.Rn Go.RowKit Go.Proofs
namespace gW
open ch cG cQ di fW fD gH gQ
theorem Og{e:Ex}:ba (aP vI) [.agg<|aD e]=some (.bool<|eL 6 e):=eP (eK vI.bM ⟨e,rfl,rfl⟩) rD rfl
def zf(e:Ex)(lo aA:List Int):Int×Int:=if eL 6 e=true then ly 6 e lo aA else(0,4)
def zg(args:List AV)(v:AV):Prop:=∃(e:Ex) (M p lm G q lg:Nat) (lo aA:List Int),args=[.agg<|aD e,.U M p lm,.U G q lg]/\dv encI 1 (.U M p lm) lo/\dv encI 1 (.U G q lg) aA/\v=DN (zf e lo aA)
theorem zg.bM(args:List AV)(v v':AV)(h:zg args v)(h':zg args v'):v=v':=by obtain⟨e,M,p,lm,G,q,lg,lo,aA,rfl,a1,a2,rfl⟩:=h;obtain⟨e',M',p',lm',G',q',lg',nV,Ki,h1,b1,b2,rfl⟩:=h';simp only[List.cons.injEq,AV.agg.injEq,AV.U.injEq,_root_.and_true] at h1;obtain⟨h0,⟨rfl,rfl,rfl⟩,rfl,rfl,rfl⟩:=h1;rw[nr _ _ h0,dv.inj sB a1 b1,dv.inj sB a2 b2]
theorem ae9{B:aJ}{N L M p lm G q lg:Nat}{op n x u f:Int}(mc:Mt [PU,kC 6] B)(hc:ba (aP vI) [(.agg [(u8<|op),(i6 n),(.U N 0 L)])]=some (.bool<|decide<|x=1))(hd:x=1->ba (aP<|qj 6) [(.agg [(u8<|op),(i6 n),(.U N 0 L)]),(.U M p lm),(.U G q lg)]=some (.tuple [.int .i64 u,.int .i64 f])):au pg B 270 (Fin pg (az Tryd.f50) fun y _=>y=(if x=1 then .tuple [.int .i64 u,.int .i64 f] else .tuple [.int .i64 0,.int .i64 4])) (sF 50 Tryd.f50 [(.agg [(u8<|op),(i6 n),(.U N 0 L)]),(.U M p lm),(.U G q lg)])<|ah ar 270:=by exact wS mc (.st 4<|.rg<|.go 1<|.kp (x=1) inferInstance (.go 1<|.en<|.st 3<|.rg<|.go 3<|.kn (.tuple [(i6 u),(i6 f)])<|.go 4<|.en<|.rt 1 .no)<|.go 1<|.en<|.rt 4 .no)<|ai hc<|aT (x=1) (fun _=>(ai (hd ab) (show AV.tuple [(i6 u),(i6 f)]=(if x=1 then .tuple [.int .i64 u,.int .i64 f] else .tuple [.int .i64 0,.int .i64 4]) from by split<;>first|rfl|(exfalso;omega)))) fun _=>(show AV.tuple [i0,(i6<|.ofNat 4)]=(if x=1 then .tuple [.int .i64 u,.int .i64 f] else .tuple [.int .i64 0,.int .i64 4]) from by split<;>first|rfl|(exfalso;omega))
end gW
end
section
open Go Go.Rn Go.RowKit Go.Proofs
namespace B7
open ch cG cQ di dj
variable {B:aJ} {kind:Int} {L:bO}
noncomputable section
def K3:List<|List Bool:=[[false,false,false,false,false,false],[true,true,true,false,false,false],[true,true,true,false,false,false],[true,false,true,true,false,false],[true,false,true,false,true,true],[true,false,true,false,true,false],[true,false,false,false,false,false],[true,false,false,false,true,true],[true,false,true,false,false,false]]
def pU(kind:Int):List Bool:=K3.getD kind.toNat [false,false,false,false,false,false]
def we(kind:Int):AV:=.agg<|(pU kind).map AV.bool
theorem adA(h:9<=kind):we kind= .agg [.bool false,.bool false,.bool false,.bool false,.bool false,.bool false]:=by unfold we pU;rw[List.getD_eq_getElem?_getD,List.getElem?_eq_none (show K3.length<=kind.toNat by show 9<=kind.toNat;omega)];rfl
theorem ah6{k:Int}(mc:Mt [] B)(h:0<=k/\k<9):au pg B 270 (Fin pg (az Tryd.f66) fun y _=>y=(we k)) (sF 66 Tryd.f66 [.int .u8 k])<|ah ar 270:=by
 have TT:(AV.int .i64 (IntKind.wrap .i64 k)= .int .i64 k)/\we k=we k:=⟨wI k,rfl⟩;let P:Pl:=.st 6<|.rg<|.go 1<|.vl (.int .i64 k)<|.go 1<|.en<|.rt 5 .no;obtain rfl|rfl|rfl|rfl|rfl|rfl|rfl|rfl|rfl:k=0\/k=1\/k=2\/k=3\/k=4\/k=5\/k=6\/k=7\/k=8:=by omega
 all_goals exact wS mc P TT aW
theorem ah7(mc:Mt [] B)(h0:9<=kind)(h9:kind<256):au pg B 270 (Fin pg (az Tryd.f66) fun y _=>y=(we kind)) (sF 66 Tryd.f66 [(u8<|kind)])<|ah ar 270:=by exact wS mc (.st 6<|.rg<|.go 1<|.vl (.int .i64 kind)<|.fk (.en<|.rt 4 .no)<|.no)<|ai (wI kind)<|aT (kind>=9) (fun _=>(show(.agg [(.bool false),(.bool false),(.bool false),(.bool false),(.bool false),(.bool false)])=we kind from(adA h0).symm)) fZ
theorem afa{N L:Nat}{op n:Int}(mc:Mt [] B):au pg B 270 (Fin pg (az Tryd.f69) fun y _=>y=(.bool<|decide<|op=0/\n=0/\L=0)) (sF 69 Tryd.f69 [(.agg [(u8<|op),(i6 n),(.U N 0 L)])])<|ah ar 270:=by exact wS mc (.st 3<|.rg<|.go 2<|.fk (.go 3<|.fk (.go 5<|.fk (.go 2<|.en<|.rt 1 .no)<|.go 2<|.en<|.rt 1 .no)<|.go 8<|.en<|.rt 1 .no)<|.go 12<|.en<|.rt 1 .no)<|aT (op=0) (fun _=>(aT (n=0) (fun _=>(aT ((L:Int)=0) (fun _=>(show AV.bool true= .bool (decide<|op=0/\n=0/\L=0) from by rw[decide_eq_true ab])) fun _=>(show AV.bool false= .bool (decide<|op=0/\n=0/\L=0) from by rw[decide_eq_false ab]))) fun _=>(show AV.bool false= .bool (decide<|op=0/\n=0/\L=0) from by rw[decide_eq_false ab]))) fun _=>(show AV.bool false= .bool (decide<|op=0/\n=0/\L=0) from by rw[decide_eq_false ab])
def ku(args:List AV)(v:AV):Prop:=∃kind:Int,args=[.int .u8 kind]/\0<=kind/\kind<256/\v=we kind
theorem ku.bM(args:List AV)(v v':AV)(h:ku args v)(h':ku args v'):v=v':=by obtain⟨x,rfl,_,_,rfl⟩:=h;obtain⟨x',h1,_,_,rfl⟩:=h';simp only[List.cons.injEq,AV.int.injEq,true_and,_root_.and_true] at h1;rw[h1]
def wg:FuncId×KE:=(66,.val<|aP ku)
theorem afb(hP:bS pg)(h:aY L):aY<|wg::L:=by
 refine gP hP h dc Tryd.func66 fun args v e=>?_;obtain⟨kind,rfl,h0,h1,rfl⟩:=fV e;refine⟨aL.1 aW,fun B mc=>?_⟩;rw[←ij];by_cases h9:9<=kind
 ·exact ah7 mc h9 h1
 exact ah6 mc ⟨h0,by omega⟩
def Ds(e:Ex):Prop:=e.op=0/\e.n=0/\e.args.length=0
instance {e:Ex}:Decidable<|Ds e:=by unfold Ds;exact inferInstance
def mX(args:List AV)(v:AV):Prop:=∃e:Ex,args=[.agg<|aD e]/\v= .bool (decide<|Ds e)
theorem mX.bM(args:List AV)(v v':AV)(h:mX args v)(h':mX args v'):v=v':=by obtain⟨e,rfl,rfl⟩:=h;obtain⟨e',h1,rfl⟩:=h';simp only[List.cons.injEq,AV.agg.injEq,_root_.and_true] at h1;rw[nr _ _ h1]
def vt:FuncId×KE:=(69,.val<|aP mX)
theorem ab7(hP:bS pg)(h:aY L):aY<|vt::L:=by refine gP hP h dc Tryd.func69 fun args v e=>?_;obtain⟨⟨op,n,l⟩,rfl,rfl⟩:=fV e;refine⟨aL.1 aW,fun B mc=>?_⟩;rw[←ij,aD];exact afa mc
end
end B7
end
section
open Go Go.Rn Go.RowKit Go.Proofs
namespace eX
open ch cG cQ di dj
variable {k N L N0 L0:Nat} {v:AV} {B:aJ} {bN n0 i c:Int}
noncomputable section
theorem Oh{nx:Nat}{l:List<|Nat×AV}(h:∀r:Nat->Nat,(∀k,top<=k->r k=k)->∀p∈l,bg r p.2 p.2)(hn:Nat.ble 270 nx=true):tI nx l ar:=by intro r r1 r2;exact⟨h r r2,fun p hp x hx=>E9 (nx:=270) (fun k hk=>r1 k<|Nat.lt_of_lt_of_le hk<|aL.1 hn) bY p hp x hx⟩
def tz:Nat->Ex->Bool
 |0,_=>false
 |k+1,.mk _ _ args=>args.all<|tz k
def uY(k:Nat)(args:List AV)(v:AV):Prop:=∃e:Ex,args=[.agg<|aD e]/\tz k e=true/\lr k e<=1000000/\v= .int .i64 (lr k e)
theorem uY.bM(args:List AV)(v v':AV)(h:uY k args v)(h':uY k args v'):v=v':=by obtain⟨e,rfl,_,_,rfl⟩:=h;obtain⟨e',h1,_,_,rfl⟩:=h';simp only[List.cons.injEq,AV.agg.injEq,_root_.and_true] at h1;rw[nr _ _ h1]
def A3(k:Nat):FuncId×KE:=(79,.val<|aP<|uY k)
def A4(N:Nat)(L:Nat)(m:Int)(i:Int):List<|Nat×AV:=[(3,(i6 m)),(7,(.U N 0 L)),(8,(i6<|(L:Int))),(9,(i6 i))]
def xk(N:Nat)(L:Nat)(m:Int)(i:Int):AF:=⟨79,aE<|A4 N L m i,(max Tryd.f79.ntmps 1),[.code<|aR pg 79 [1,1,0,1,0,0],.inLoop<|aR pg 79 [1,1,0,1,0,0],.inBlock 0,.code<|aR pg 79 [1,1,1]],[],none⟩
theorem Vu(N:Nat)(L:Nat)(m:Int)(i:Int)(hn:top<=N):((A4 N L m i).map (fun q=>some q.2)=(A4 N L m i).map (fun q=>some q.2))/\(ar.map (fun q=>q.2)=ar.map (fun q=>q.2))/\tI 270 (A4 N L m i) ar/\(xk N L m i=xk N L m i/\ah ar 270=ah ar 270):=⟨rfl,rfl,Oh (fun r r2 p hp=>by simp only[A4,List.mem_cons,List.not_mem_nil,or_false] at hp;rcases hp with rfl|rfl|rfl|rfl<;>first|exact bg.int _ _|exact bg.U (r2 _ hn) r2) rfl,rfl,rfl⟩
theorem afc{m:Int}(mc:Mt [A3 k] B)(hn:top<=N)(hi:0<=i)(hL:L<=1000000)(hm:0<=m/\m<=1000000)(jk:0<=c/\c<=1000000)(hx:cv FU N (0+i.toNat*3+0) 3=some [(u8<|bN),(i6 n0),(.U N0 0 L0)])(hc:ba (aP<|uY k) [(.agg [(u8<|bN),(i6 n0),(.U N0 0 L0)])]=some (.int .i64 c))(h1:i<(L:Int))(H:au pg B 270 (Fin pg (az Tryd.f79) fun y _=>y=v) (xk N L (m+c)<|i+1)<|ah ar 270):au pg B 270 (Fin pg (az Tryd.f79) fun y _=>y=v) (xk N L m i)<|ah ar 270:=by exact wC mc (C:=(fun fr s1 _=>fr=xk N L (m+c) (i+1)/\s1=ah ar 270)) mQ (.st 1<|.rg<|.fk (.en<|.st 6<|.rg<|.eB<|.eC [(u8<|bN),(i6 n0),(.U N0 0 L0)]<|.go 2<|.en<|.rg<|.go 2<|.kn (i6 c)<|.vl (i6<|m+c)<|.go 1<|.en<|.st 1<|.rg<|.vl (i6<|i+1)<|.go 1<|.en<|.st 1<|.bk (A4 N L (m+c)<|i+1) ar 270 .no)<|.no)<|aT (i<(L:Int)) (fun _=>(dS i (L:Int)<|ai hn<|ai hx<|ai hc<|ai (wI<|m+c)<|ai (wI<|i+1)<|Vu N L (m+c) (i+1) hn)) fZ
theorem afd{m:Int}{N0 L0:Nat}{bN n0 c:Int}(mc:Mt [A3 k] B)(h1:(L:Int)<=i)(hv: .int .i64 m=v):au pg B 270 (Fin pg (az Tryd.f79) fun y _=>y=v) (xk N L m i)<|ah ar 270:=by exact wS mc (.st 1<|.rg<|.fk (.no)<|.en<|.rt 6 .no)<|aT (i<(L:Int)) fZ fun _=>(show(i6 m)=v from hv)
theorem go_cnt{op n:Int}(mc:Mt [A3 k] B)(hn:top<=N)(H:au pg B 270 (Fin pg (az Tryd.f79) fun y _=>y=v) (xk N L 1 0)<|ah ar 270):au pg B 270 (Fin pg (az Tryd.f79) fun y _=>y=v) (sF 79 Tryd.f79 [(.agg [(u8<|op),(i6 n),(.U N 0 L)])])<|ah ar 270:=by exact wC mc (C:=(fun fr s1 _=>fr=xk N L 1 0/\s1=ah ar 270)) mQ (.st 9<|.bk (A4 N L 1 0) ar 270 .no)<|Vu N L 1 0 hn
end
end eX
end
section
open Go Go.Rn Go.RowKit Go.Proofs
namespace By
open ch cG cQ di eX dj
theorem IF{g:Ex->Int}:∀(l:List Ex) (m:Int),(∀a∈l,1<=g a)->m+(l.length:Nat)<=l.foldl (fun n a=>n+g a) m
 |[],m,_=>by simp only[List.length_nil,List.foldl_nil];omega
 |a::l,m,h=>by have h1:=IF l (m+g a) fun b hb=>h b<|List.mem_cons_of_mem _ hb;have h2:=h a List.mem_cons_self;rw[List.foldl_cons,List.length_cons];omega
theorem ER:∀(k:Nat) (e:Ex),tz k e=true->1<=lr k e
 |0,_,h=>by cases h
 |k+1,.mk op n l,h=>by have h1:l.all (tz k)=true:=h;have:=IF (g:=lr k) l 1 fun a ha=>ER k a<|List.all_eq_true.1 h1 a ha;show 1<=l.foldl (fun n a=>n+lr k a) 1;omega
theorem Z7(hP:bS pg){k:Nat}(h':aY [A3 k]){L:bO}(h:aY L):aY<|A3 (k+1)::L:=by
 refine gP hP h h' Tryd.func79 fun args v e=>?_;obtain⟨⟨op,n,l⟩,rfl,hd,hc,rfl⟩:=fV e;refine⟨aL.1 aW,fun B mc=>?_⟩;rw[←ij,aD];have hd:l.all (tz k)=true:=hd;have hc:l.foldl (fun n a=>n+lr k a) 1<=1000000:=hc;have pos:∀a∈l,1<=lr k a:=fun a ha=>ER k a<|List.all_eq_true.1 hd a ha;have key:∀(r:List Ex) (i:Nat) (m:Int),l.drop i=r->0<=m->r.foldl (fun n a=>n+lr k a) m<=1000000->
  au pg B 270 (Fin pg (az Tryd.f79) fun y _=>y= .int .i64 (r.foldl (fun n a=>n+lr k a) m)) (xk (nm<|cH l) l.length m i) (ah ar 270):=by
  intro r;induction r with
  |nil=>intro i m hr _ _;have hi:l.length<=i:=List.drop_eq_nil_iff.1 hr;exact afd (k:=k) (N0:=0) (L0:=0) (bN:=0) (n0:=0) (c:=0) mc ab rfl
  |cons a r ih=>
   intro i m hr h0 h1;have hl:i<l.length:=by
    by_cases q:i<l.length
    ·exact q
    ·rw[List.drop_of_length_le ab] at hr;cases hr
   have ha:l[i]? =some a:=by have:=congrArg (fun q=>q[0]?) hr;simp only[List.getElem?_drop,List.getElem?_cons_zero,Nat.add_zero] at this;exact this
   have hm:a∈l:=List.mem_of_getElem? ha;have j8:l.drop (i+1)=r:=by have:=congrArg (List.drop 1) hr;rw[List.drop_drop] at this;exact this
   have ah8:∀b∈r,b∈l:=fun b hb=>List.mem_of_mem_drop (i:=i) (by rw[hr];exact List.mem_cons_of_mem _ hb);have h2:=IF (g:=lr k) r (m+lr k a) fun b hb=>pos b<|ah8 b hb;have h3:=pos a hm;have h4:=IF (g:=lr k) l 1 pos;rw[List.foldl_cons] at h1 ⊢;obtain⟨bN,n0,l0⟩:=a;have hx:=yK ha (z:=(i:Int)) ab;have bG:=eP (eK uY.bM ⟨.mk bN n0 l0,rfl,List.all_eq_true.1 hd _ hm,by omega,rfl⟩:aP (uY k) [.agg<|aD<|.mk bN n0 l0]=_) rD rfl;rw[aD] at hx bG;exact afc (k:=k) mc (cF _) ab ab ab ab hx bG ab<|ih (i+1) (m+lr k (.mk bN n0 l0)) j8 ab h1
 exact go_cnt mc (cF _)<|key l 0 1 (List.drop_zero) ab hc
theorem S6(hP:bS pg):∀(k:Nat) {L:bO},aY L->aY (A3 k::L)
 |0,L,h=>by refine gP hP h dc Tryd.func79 fun args v e=>?_;obtain⟨_,_,hd,_⟩:=fV e;cases hd
 |k+1,L,h=>Z7 hP (S6 hP k dc) h
end By
end
section
open Go Go.Rn Go.RowKit Go.Proofs
namespace uo
open ch cG cQ di dj eX By
def l6(k:Nat)(e:Ex):Int:=if e.op=0 then 0 else lr k e
def yT(k:Nat)(args:List AV)(v:AV):Prop:=∃e:Ex,args=[.agg<|aD e]/\tz k e=true/\lr k e<=1000000/\v= .int .i64 (l6 k e)
theorem yT.bM{k:Nat}(args:List AV)(v v':AV)(h:yT k args v)(h':yT k args v'):v=v':=by obtain⟨e,rfl,_,_,rfl⟩:=h;obtain⟨e',h1,_,_,rfl⟩:=h';simp only[List.cons.injEq,AV.agg.injEq,_root_.and_true] at h1;rw[nr _ _ h1]
noncomputable def px(k:Nat):FuncId×KE:=(63,.val<|aP<|yT k)
theorem adB{B:aJ}{k N L:Nat}{op n c:Int}(mc:Mt [A3 k] B)(hc:ba (aP<|uY k) [(.agg [(u8<|op),(i6 n),(.U N 0 L)])]=some (.int .i64 c)):au pg B 270 (Fin pg (az Tryd.f63) fun y _=>y=(i6 (if op=0 then 0 else c))) (sF 63 Tryd.f63 [(.agg [(u8<|op),(i6 n),(.U N 0 L)])])<|ah ar 270:=by exact wS mc (.st 4<|.rg<|.go 2<|.fk (.en<|.rt 4 .no)<|.en<|.st 3<|.rg<|.go 1<|.kn (i6 c)<|.go 1<|.en<|.rt 1 .no)<|aT (op=0) (fun _=>(show(i0:AV)= .int .i64 (if op=0 then 0 else c) from by split<;>first|rfl|(exfalso;omega))) fun _=>(ai hc (show((i6 c):AV)= .int .i64 (if op=0 then 0 else c) from by split<;>first|rfl|(exfalso;omega)))
theorem S7(hP:bS pg)(k:Nat){L:bO}(h:aY L):aY<|px k::L:=by refine gP hP h (S6 hP k dc) Tryd.func63 fun args v e=>?_;obtain⟨⟨op,n,l⟩,rfl,hd,hc,rfl⟩:=fV e;refine⟨aL.1 aW,fun B mc=>?_⟩;rw[←ij];have bG:=eP (eK uY.bM ⟨.mk op n l,rfl,hd,hc,rfl⟩:aP (uY k) [.agg<|aD<|.mk op n l]=_) rD rfl;rw[aD] at bG ⊢;exact adB mc bG
end uo
end
section
open Go Go.Rn Go.RowKit Go.Proofs
namespace fO
open ch cG cQ di dj eX By
variable {k N L:Nat} {v:AV} {B:aJ} {i:Int}
noncomputable section
def cK(x y:Int):Int:=match decide (y>x) with|true=>y|false=>x
def jt(ld le:Nat)(m cd ce:Int):Int:=if 0<le then cK (if 0<ld then cK m cd else m) ce else if 0<ld then cK m cd else m
def bF:St->List St| .mk _ _ _ _ b _=>b
def bE:St->List St| .mk _ _ _ _ _ b=>b
def fp:Nat->List St->Int
 |0,_=>0
 |k+1,l=>l.foldl (fun m s=>jt (bF s).length (bE s).length m (fp k<|bF s)<|fp k<|bE s) 0+1
def qk:Nat->List St->Bool
 |0,_=>false
 |k+1,l=>decide (l.length<=1000000)&&l.all fun s=>((bF s).isEmpty||qk k (bF s))&&((bE s).isEmpty||qk k (bE s))
def s8(k:Nat)(args:List AV)(v:AV):Prop:=∃l:List St,args=[.U (nm<|bx l) 0 l.length]/\qk k l=true/\k<=100/\v= .int .i64 (fp k l)
theorem s8.bM(args:List AV)(v v':AV)(h:s8 k args v)(h':s8 k args v'):v=v':=by obtain⟨l,rfl,_,_,rfl⟩:=h;obtain⟨l',h1,_,_,rfl⟩:=h';simp only[List.cons.injEq,AV.U.injEq,_root_.and_true,true_and] at h1;rw[sk _ _<|sU (lK l) (lK l') h1.1]
def jz(k:Nat):FuncId×KE:=(44,.val<|aP<|s8 k)
def uZ(N L:Nat)(m i:Int):List<|Nat×AV:=[(3,(i6 m)),(6,(.U N 0 L)),(7,(i6<|(L:Int))),(8,(i6 i))]
def xm(N L:Nat)(m i:Int):AF:=⟨44,aE<|uZ N L m i,(max Tryd.f44.ntmps 1),[.code<|aR pg 44 [1,1,0,1,0,0],.inLoop<|aR pg 44 [1,1,0,1,0,0],.inBlock 0,.code<|aR pg 44 [1,1,1]],[],none⟩
theorem FC(N L:Nat)(m i:Int)(hn:top<=N){M:Int}(e:m=M):((uZ N L m i).map (fun q=>some q.2)=(uZ N L m i).map (fun q=>some q.2))/\(ar.map (fun q=>q.2)=ar.map (fun q=>q.2))/\tI 270 (uZ N L m i) ar/\(xm N L m i=xm N L M i/\ah ar 270=ah ar 270):=⟨rfl,rfl,Oh (fun r r2 p hp=>by simp only[uZ,List.mem_cons,List.not_mem_nil,or_false] at hp;rcases hp with rfl|rfl|rfl|rfl<;>first|exact bg.int _ _|exact bg.U (r2 _ hn) r2) rfl,by rw[e],rfl⟩
theorem aff{m:Int}{Na La Nb Lb Nd ld Ne le:Nat}{kd to oa na ob nb cd ce:Int}(mc:Mt [jz k] B)(hn:top<=N)(hi:0<=i)(hL:L<=1000000)(hx:cv FU N (0+i.toNat*10+0) 10=some [(u8<|kd),(i6 to),(u8<|oa),(i6 na),(.U Na 0 La),(u8<|ob),(i6 nb),(.U Nb 0 Lb),(.U Nd 0 ld),(.U Ne 0 le)])(hd:0<ld->ba (aP<|s8 k) [(.U Nd 0 ld)]=some (.int .i64 cd))(he:0<le->ba (aP<|s8 k) [(.U Ne 0 le)]=some (.int .i64 ce))(h1:i<(L:Int))(H:au pg B 270 (Fin pg (az Tryd.f44) fun y _=>y=v) (xm N L (jt ld le m cd ce)<|i+1)<|ah ar 270):au pg B 270 (Fin pg (az Tryd.f44) fun y _=>y=v) (xm N L m i)<|ah ar 270:=by exact wC mc (C:=(fun fr s1 _=>fr=xm N L (jt ld le m cd ce) (i+1)/\s1=ah ar 270)) mQ (.st 1<|.rg<|.fk (.en<|.st 6<|.rg<|.eB<|.eC [(u8<|kd),(i6 to),(u8<|oa),(i6 na),(.U Na 0 La),(u8<|ob),(i6 nb),(.U Nb 0 Lb),(.U Nd 0 ld),(.U Ne 0 le)]<|.go 2<|.en<|.st 2<|.rg<|.go 3<|.fk (.en<|.st 1<|.rg<|.go 3<|.kn (i6 cd)<|.vl (i6<|(cK m cd))<|.go 1<|.en<|.st 1<|.rg<|.go 3<|.fk (.en<|.st 1<|.rg<|.go 3<|.kn (i6 ce)<|.vl (i6<|(cK (cK m cd) ce))<|.go 1<|.en<|.st 1<|.rg<|.vl (i6<|i+1)<|.go 1<|.en<|.st 1<|.bk (uZ N L (cK (cK m cd) ce)<|i+1) ar 270 .no)<|.en<|.st 3<|.rg<|.vl (i6<|i+1)<|.go 1<|.en<|.st 1<|.bk (uZ N L (cK m cd)<|i+1) ar 270 .no)<|.en<|.st 3<|.rg<|.go 3<|.fk (.en<|.st 1<|.rg<|.go 3<|.kn (i6 ce)<|.vl (i6<|(cK m ce))<|.go 1<|.en<|.st 1<|.rg<|.vl (i6<|i+1)<|.go 1<|.en<|.st 1<|.bk (uZ N L (cK m ce)<|i+1) ar 270 .no)<|.en<|.st 3<|.rg<|.vl (i6<|i+1)<|.go 1<|.en<|.st 1<|.bk (uZ N L m<|i+1) ar 270 .no)<|.no)<|aT (i<(L:Int)) (fun _=>(dS i (L:Int)<|ai hn<|ai hx<|aT ((ld:Int)>0) (fun _=>(ai (hd ab)<|ai (congrArg (AV.int .i64) (show(match decide (cd>m) with|true=>cd|false=>m)=cK m cd from rfl))<|aT ((le:Int)>0) (fun _=>(ai (he ab)<|ai (congrArg (AV.int .i64) (show(match decide (ce>(cK m cd)) with|true=>ce|false=>(cK m cd))=cK (cK m cd) ce from rfl))<|ai (wI<|i+1)<|FC N L (cK (cK m cd) ce) (i+1) hn (show(cK (cK m cd) ce)=jt ld le m cd ce from by(unfold jt;repeat' split)<;>first|rfl|(exfalso;omega)))) fun _=>(ai (wI<|i+1)<|FC N L (cK m cd) (i+1) hn (show(cK m cd)=jt ld le m cd ce from by(unfold jt;repeat' split)<;>first|rfl|(exfalso;omega))))) fun _=>(aT ((le:Int)>0) (fun _=>(ai (he ab)<|ai (congrArg (AV.int .i64) (show(match decide (ce>m) with|true=>ce|false=>m)=cK m ce from rfl))<|ai (wI<|i+1)<|FC N L (cK m ce) (i+1) hn (show(cK m ce)=jt ld le m cd ce from by(unfold jt;repeat' split)<;>first|rfl|(exfalso;omega)))) fun _=>(ai (wI<|i+1)<|FC N L m (i+1) hn (show m=jt ld le m cd ce from by(unfold jt;repeat' split)<;>first|rfl|(exfalso;omega)))))) fZ
theorem afg{m:Int}(mc:Mt [jz k] B)(hm:0<=m/\m<=1000000)(h1:(L:Int)<=i)(hv: .int .i64 (m+1)=v):au pg B 270 (Fin pg (az Tryd.f44) fun y _=>y=v) (xm N L m i)<|ah ar 270:=by exact wS mc (.st 1<|.rg<|.fk (.no)<|.en<|.st 4<|.rg<|.go 1<|.vl (i6<|m+1)<|.go 1<|.en<|.rt 1 .no)<|aT (i<(L:Int)) fZ fun _=>(ai (wI<|m+1) (show((i6<|(m+1)):AV)=v from hv))
theorem go_dep(mc:Mt [jz k] B)(hn:top<=N)(H:au pg B 270 (Fin pg (az Tryd.f44) fun y _=>y=v) (xm N L 0 0)<|ah ar 270):au pg B 270 (Fin pg (az Tryd.f44) fun y _=>y=v) (sF 44 Tryd.f44 [(.U N 0 L)])<|ah ar 270:=by exact wC mc (C:=(fun fr s1 _=>fr=xm N L 0 0/\s1=ah ar 270)) mQ (.st 9<|.bk (uZ N L 0 0) ar 270 .no)<|FC N L 0 0 hn rfl
end
end fO
end
section
open Go Go.Rn Go.RowKit Go.Proofs
namespace tN
open ch cG cQ di eX dj fO
theorem Fa{l:List St}{i:Nat}{a:St}(h:l[i]? =some a){z:Int}(hz:z.toNat=i):cv FU (nm<|bx l) (0+z.toNat*10+0) 10=some (aM a):=by rw[uH,hz,Nat.zero_add,sS mu h 0 10 ab];rw[List.drop_zero,List.take_of_length_le (by rw[mu.len];omega)]
theorem Fl{x y b:Int}(h1:0<=x/\x<=b)(h2:0<=y/\y<=b):0<=cK x y/\cK x y<=b:=by unfold cK;split<;>assumption
theorem Vv{ld le:Nat}{m cd ce b:Int}(h1:0<=m/\m<=b)(h2:0<=cd/\cd<=b)(h3:0<=ce/\ce<=b):0<=jt ld le m cd ce/\jt ld le m cd ce<=b:=by
 have h4:=Fl h1 h2;unfold jt;split
 ·split
  ·exact Fl h4 h3
  ·exact Fl h1 h3
 ·split
  ·exact h4
  ·exact h1
theorem NR{b:Int}{f:Int->St->Int}(hf:∀m s,0<=m/\m<=b->0<=f m s/\f m s<=b):∀(l:List St) (m:Int),0<=m/\m<=b->0<=l.foldl f m/\l.foldl f m<=b
 |[],_,h=>h
 |s::l,m,h=>by rw[List.foldl_cons];exact NR hf l _<|hf m s h
theorem Ii:∀(k:Nat) (l:List St),0<=fp k l/\fp k l<=k
 |0,_=>⟨Int.le_refl _,Int.le_refl _⟩
 |k+1,l=>by have:=NR (b:=k) (f:=fun m s=>jt (bF s).length (bE s).length m (fp k<|bF s)<|fp k<|bE s) (fun m s h=>Vv h (Ii k _)<|Ii k _) l 0 ab;show 0<=l.foldl (fun m s=>jt (bF s).length (bE s).length m (fp k<|bF s)<|fp k<|bE s) 0+1/\l.foldl (fun m s=>jt (bF s).length (bE s).length m (fp k<|bF s)<|fp k<|bE s) 0+1<=_;omega
theorem afi{l:List St}{b:Bool}(h:(l.isEmpty||b)=true)(hl:0<l.length):b=true:=by
 cases l with
 |nil=>simp only[List.length_nil] at hl;omega
 |cons _ _=>exact h
theorem Z9(hP:bS pg){k:Nat}(h':aY [jz k]){L:bO}(h:aY L):aY<|jz (k+1)::L:=by
 refine gP hP h h' Tryd.func44 fun args v e=>?_;obtain⟨l,rfl,hd,hk,rfl⟩:=fV e;refine⟨aL.1 aW,fun B mc=>?_⟩;rw[←ij];have hd:(decide (l.length<=1000000)&&l.all fun s=>((bF s).isEmpty||qk k (bF s))&&((bE s).isEmpty||qk k (bE s)))=true:=hd;rw[Bool.and_eq_true,decide_eq_true_eq,List.all_eq_true] at hd;obtain⟨hlen,hd⟩:=hd;have use:∀b:List St,(b.isEmpty||qk k b)=true->0<b.length->ba (aP<|s8 k) [.U (nm<|bx b) 0 b.length]=some (i6<|fp k b):=fun b h1 h2=>eP (eK s8.bM ⟨b,rfl,afi h1 h2,by omega,rfl⟩) WO rfl;have key:∀(r:List St) (i:Nat) (m:Int),l.drop i=r->0<=m/\m<=k->
  au pg B 270 (Fin pg (az Tryd.f44) fun y _=>y= .int .i64 (r.foldl (fun m s=>jt (bF s).length (bE s).length m (fp k<|bF s)<|fp k<|bE s) m+1)) (xm (nm<|bx l) l.length m i) (ah ar 270):=by
  intro r;induction r with
  |nil=>intro i m hr h0;have hi:l.length<=i:=List.drop_eq_nil_iff.1 hr;exact afg (k:=k) mc ab ab rfl
  |cons a r ih=>
   intro i m hr h0;have hl:i<l.length:=by
    by_cases q:i<l.length
    ·exact q
    ·rw[List.drop_of_length_le ab] at hr;cases hr
   have ha:l[i]? =some a:=by have:=congrArg (fun q=>q[0]?) hr;simp only[List.getElem?_drop,List.getElem?_cons_zero,Nat.add_zero] at this;exact this
   have hm:a∈l:=List.mem_of_getElem? ha;have j8:l.drop (i+1)=r:=by have:=congrArg (List.drop 1) hr;rw[List.drop_drop] at this;exact this
   have uq:=hd a hm;rw[Bool.and_eq_true] at uq;have hx:=Fa ha (z:=(i:Int)) ab;have pA:=ih (i+1) _ j8<|Vv (ld:=(bF a).length) (le:=(bE a).length) h0 (Ii k<|bF a)<|Ii k<|bE a;have hb:=use _ uq.1;have he:=use _ uq.2;obtain⟨kd,to,⟨oa,na,la⟩,⟨ob,nb,lb⟩,bd,el⟩:=a;rw[aM,aD,aD] at hx;rw[List.foldl_cons];exact aff (k:=k) mc (cF _) ab hlen hx hb he ab pA
 exact go_dep mc (cF _)<|key l 0 0 (List.drop_zero) ab
theorem S8(hP:bS pg):∀(k:Nat) {L:bO},aY L->aY (jz k::L)
 |0,L,h=>by refine gP hP h dc Tryd.func44 fun args v e=>?_;obtain⟨_,_,hd,_⟩:=fV e;cases hd
 |k+1,L,h=>Z9 hP (S8 hP k dc) h
end tN
end
section
open Go Go.Rn Go.RowKit Go.Proofs
namespace iB
open ch cG cQ di dj eX By fO tN
variable {k N L:Nat} {v:AV} {B:aJ} {i:Int}
noncomputable section
def dW(x y:Int):Int:=match decide (y<x) with|true=>y|false=>x
def jL(kd m cd ce:Int):Int:=if kd=4 then dW (m+1+cK cd ce) 2001 else if kd=5 then dW (m+1+8*cd) 2001 else if kd=7 then dW (m+1+(cd+ce)) 2001 else dW (m+1+0) 2001
def fB:St->Int| .mk k _ _ _ _ _=>k
def gh:Nat->List St->Int
 |0,_=>0
 |k+1,l=>l.foldl (fun m s=>jL (fB s) m (gh k<|bF s)<|gh k<|bE s) 0
def ky:Nat->List St->Bool
 |0,_=>false
 |k+1,l=>decide (l.length<=1000000)&&l.all fun s=>ky k (bF s)&&ky k (bE s)
def tA(k:Nat)(args:List AV)(v:AV):Prop:=∃l:List St,args=[.U (nm<|bx l) 0 l.length]/\ky k l=true/\v= .int .i64 (gh k l)
theorem tA.bM(args:List AV)(v v':AV)(h:tA k args v)(h':tA k args v'):v=v':=by obtain⟨l,rfl,_,rfl⟩:=h;obtain⟨l',h1,_,rfl⟩:=h';simp only[List.cons.injEq,AV.U.injEq,_root_.and_true,true_and] at h1;rw[sk _ _<|sU (lK l) (lK l') h1.1]
def jD(k:Nat):FuncId×KE:=(45,.val<|aP<|tA k)
def u0(N L:Nat)(m i:Int):List<|Nat×AV:=[(3,(i6 m)),(7,(.U N 0 L)),(8,(i6<|(L:Int))),(9,(i6 i))]
def xp(N L:Nat)(m i:Int):AF:=⟨45,aE<|u0 N L m i,(max Tryd.f45.ntmps 1),[.code<|aR pg 45 [1,1,0,1,0,0],.inLoop<|aR pg 45 [1,1,0,1,0,0],.inBlock 0,.code<|aR pg 45 [1,1,1]],[],none⟩
theorem FD(N L:Nat)(m i:Int)(hn:top<=N){M:Int}(e:m=M):((u0 N L m i).map (fun q=>some q.2)=(u0 N L m i).map (fun q=>some q.2))/\(ar.map (fun q=>q.2)=ar.map (fun q=>q.2))/\tI 270 (u0 N L m i) ar/\(xp N L m i=xp N L M i/\ah ar 270=ah ar 270):=⟨rfl,rfl,Oh (fun r r2 p hp=>by simp only[u0,List.mem_cons,List.not_mem_nil,or_false] at hp;rcases hp with rfl|rfl|rfl|rfl<;>first|exact bg.int _ _|exact bg.U (r2 _ hn) r2) rfl,by rw[e],rfl⟩
theorem afj{m:Int}{Na La Nb Lb Nd ld Ne le:Nat}{kd to oa na ob nb cd ce:Int}(mc:Mt [jD k] B)(hn:top<=N)(hi:0<=i)(hL:L<=1000000)(hx:cv FU N (0+i.toNat*10+0) 10=some [(u8<|kd),(i6 to),(u8<|oa),(i6 na),(.U Na 0 La),(u8<|ob),(i6 nb),(.U Nb 0 Lb),(.U Nd 0 ld),(.U Ne 0 le)])(hm:0<=m/\m<=2001)(hd0:0<=cd/\cd<=2001)(he0:0<=ce/\ce<=2001)(hmx:0<=cK cd ce/\cK cd ce<=2001)(hd:ba (aP<|tA k) [(.U Nd 0 ld)]=some (.int .i64 cd))(he:ba (aP<|tA k) [(.U Ne 0 le)]=some (.int .i64 ce))(h1:i<(L:Int))(H:au pg B 270 (Fin pg (az Tryd.f45) fun y _=>y=v) (xp N L (jL kd m cd ce)<|i+1)<|ah ar 270):au pg B 270 (Fin pg (az Tryd.f45) fun y _=>y=v) (xp N L m i)<|ah ar 270:=by exact wC mc (C:=(fun fr s1 _=>fr=xp N L (jL kd m cd ce) (i+1)/\s1=ah ar 270)) mQ (.st 1<|.rg<|.fk (.en<|.st 6<|.rg<|.eB<|.eC [(u8<|kd),(i6 to),(u8<|oa),(i6 na),(.U Na 0 La),(u8<|ob),(i6 nb),(.U Nb 0 Lb),(.U Nd 0 ld),(.U Ne 0 le)]<|.go 2<|.en<|.st 7<|.rg<|.fk (.go 1<|.en<|.st 1<|.rg<|.go 2<|.kn (i6 cd)<|.go 2<|.kn (i6 ce)<|.vl (i6<|(cK cd ce))<|.go 1<|.en<|.st 1<|.rg<|.go 1<|.vl (i6<|m+1)<|.go 1<|.vl (i6<|(m+1)+(cK cd ce))<|.vl (i6<|(dW ((m+1)+(cK cd ce)) (2001:Int)))<|.go 1<|.en<|.st 1<|.rg<|.vl (i6<|i+1)<|.go 1<|.en<|.st 1<|.bk (u0 N L (dW ((m+1)+(cK cd ce)) (2001:Int))<|i+1) ar 270 .no)<|.go 1<|.en<|.st 2<|.rg<|.fk (.go 1<|.en<|.st 1<|.rg<|.go 2<|.kn (i6 cd)<|.vl (i6<|8*cd)<|.go 1<|.en<|.st 1<|.rg<|.go 1<|.vl (i6<|m+1)<|.go 1<|.vl (i6<|(m+1)+(8*cd))<|.vl (i6<|(dW ((m+1)+(8*cd)) (2001:Int)))<|.go 1<|.en<|.st 1<|.rg<|.vl (i6<|i+1)<|.go 1<|.en<|.st 1<|.bk (u0 N L (dW ((m+1)+(8*cd)) (2001:Int))<|i+1) ar 270 .no)<|.go 1<|.en<|.st 2<|.rg<|.fk (.go 1<|.en<|.st 1<|.rg<|.go 2<|.kn (i6 cd)<|.go 2<|.kn (i6 ce)<|.vl (i6<|cd+ce)<|.go 1<|.en<|.st 1<|.rg<|.go 1<|.vl (i6<|m+1)<|.go 1<|.vl (i6<|(m+1)+(cd+ce))<|.vl (i6<|(dW ((m+1)+(cd+ce)) (2001:Int)))<|.go 1<|.en<|.st 1<|.rg<|.vl (i6<|i+1)<|.go 1<|.en<|.st 1<|.bk (u0 N L (dW ((m+1)+(cd+ce)) (2001:Int))<|i+1) ar 270 .no)<|.go 1<|.en<|.st 3<|.rg<|.go 1<|.vl (i6<|m+1)<|.go 1<|.vl (i6<|(m+1)+0)<|.vl (i6<|(dW ((m+1)+0) (2001:Int)))<|.go 1<|.en<|.st 1<|.rg<|.vl (i6<|i+1)<|.go 1<|.en<|.st 1<|.bk (u0 N L (dW ((m+1)+0) (2001:Int))<|i+1) ar 270 .no)<|.no)<|aT (i<(L:Int)) (fun _=>(dS i (L:Int)<|ai hn<|ai hx<|aT (kd=4) (fun _=>(ai hd<|ai he<|ai (congrArg (AV.int .i64) (show(match decide (ce>cd) with|true=>ce|false=>cd)=cK cd ce from rfl))<|ai (wI<|m+1)<|ai (wI<|(m+1)+(cK cd ce))<|ai (congrArg (AV.int .i64) (show(match decide ((2001:Int)<((m+1)+(cK cd ce))) with|true=>(2001:Int)|false=>((m+1)+(cK cd ce)))=dW ((m+1)+(cK cd ce)) (2001:Int) from rfl))<|ai (wI<|i+1)<|FD N L (dW ((m+1)+(cK cd ce)) (2001:Int)) (i+1) hn (show(dW ((m+1)+(cK cd ce)) (2001:Int))=jL kd m cd ce from by(unfold jL;repeat' split)<;>first|rfl|(exfalso;omega)))) fun _=>(aT (kd=5) (fun _=>(ai hd<|ai (wI<|8*cd)<|ai (wI<|m+1)<|ai (wI<|(m+1)+(8*cd))<|ai (congrArg (AV.int .i64) (show(match decide ((2001:Int)<((m+1)+(8*cd))) with|true=>(2001:Int)|false=>((m+1)+(8*cd)))=dW ((m+1)+(8*cd)) (2001:Int) from rfl))<|ai (wI<|i+1)<|FD N L (dW ((m+1)+(8*cd)) (2001:Int)) (i+1) hn (show(dW ((m+1)+(8*cd)) (2001:Int))=jL kd m cd ce from by(unfold jL;repeat' split)<;>first|rfl|(exfalso;omega)))) fun _=>(aT (kd=7) (fun _=>(ai hd<|ai he<|ai (wI<|cd+ce)<|ai (wI<|m+1)<|ai (wI<|(m+1)+(cd+ce))<|ai (congrArg (AV.int .i64) (show(match decide ((2001:Int)<((m+1)+(cd+ce))) with|true=>(2001:Int)|false=>((m+1)+(cd+ce)))=dW ((m+1)+(cd+ce)) (2001:Int) from rfl))<|ai (wI<|i+1)<|FD N L (dW ((m+1)+(cd+ce)) (2001:Int)) (i+1) hn (show(dW ((m+1)+(cd+ce)) (2001:Int))=jL kd m cd ce from by(unfold jL;repeat' split)<;>first|rfl|(exfalso;omega)))) fun _=>(ai (wI<|m+1)<|ai (wI<|(m+1)+0)<|ai (congrArg (AV.int .i64) (show(match decide ((2001:Int)<((m+1)+0)) with|true=>(2001:Int)|false=>((m+1)+0))=dW ((m+1)+0) (2001:Int) from rfl))<|ai (wI<|i+1)<|FD N L (dW ((m+1)+0) (2001:Int)) (i+1) hn (show(dW ((m+1)+0) (2001:Int))=jL kd m cd ce from by(unfold jL;repeat' split)<;>first|rfl|(exfalso;omega))))))) fZ
theorem afk{m:Int}(mc:Mt [jD k] B)(h1:(L:Int)<=i)(hv: .int .i64 m=v):au pg B 270 (Fin pg (az Tryd.f45) fun y _=>y=v) (xp N L m i)<|ah ar 270:=by exact wS mc (.st 1<|.rg<|.fk (.no)<|.en<|.rt 6 .no)<|aT (i<(L:Int)) fZ fun _=>(show((i6 m):AV)=v from hv)
theorem go_cos(mc:Mt [jD k] B)(hn:top<=N)(H:au pg B 270 (Fin pg (az Tryd.f45) fun y _=>y=v) (xp N L 0 0)<|ah ar 270):au pg B 270 (Fin pg (az Tryd.f45) fun y _=>y=v) (sF 45 Tryd.f45 [(.U N 0 L)])<|ah ar 270:=by exact wC mc (C:=(fun fr s1 _=>fr=xp N L 0 0/\s1=ah ar 270)) mQ (.st 9<|.bk (u0 N L 0 0) ar 270 .no)<|FD N L 0 0 hn rfl
end
end iB
end
section
open Go Go.Rn Go.RowKit Go.Proofs
namespace F1
open ch cG cQ di eX dj fO tN iB
theorem UE{x:Int}(h1:0<=x):0<=dW x 2001/\dW x 2001<=2001:=by
 unfold dW;split<;>rename_i q
 ·omega
 ·have:=of_decide_eq_false q;omega
theorem Vx{kd m cd ce:Int}(h1:0<=m/\m<=2001)(h2:0<=cd/\cd<=2001)(h3:0<=ce/\ce<=2001):0<=jL kd m cd ce/\jL kd m cd ce<=2001:=by
 have h4:=Fl h2 h3;unfold jL
 repeat' split
 all_goals exact UE ab
theorem CO:∀(k:Nat) (l:List St),0<=gh k l/\gh k l<=2001
 |0,_=>⟨Int.le_refl _,by show(0:Int)<=2001;omega⟩
 |k+1,l=>NR (b:=2001) (f:=fun m s=>jL (fB s) m (gh k<|bF s)<|gh k<|bE s) (fun m s h=>Vx h (CO k _)<|CO k _) l 0 ab
theorem aaW(hP:bS pg){k:Nat}(h':aY [jD k]){L:bO}(h:aY L):aY<|jD (k+1)::L:=by
 refine gP hP h h' Tryd.func45 fun args v e=>?_;obtain⟨l,rfl,hd,rfl⟩:=fV e;refine⟨aL.1 aW,fun B mc=>?_⟩;rw[←ij];have hd:(decide (l.length<=1000000)&&l.all fun s=>ky k (bF s)&&ky k (bE s))=true:=hd;rw[Bool.and_eq_true,decide_eq_true_eq,List.all_eq_true] at hd;obtain⟨hlen,hd⟩:=hd;have use:∀b:List St,ky k b=true->ba (aP<|tA k) [.U (nm<|bx b) 0 b.length]=some (i6<|gh k b):=fun b h1=>eP (eK tA.bM ⟨b,rfl,h1,rfl⟩) WO rfl;have key:∀(r:List St) (i:Nat) (m:Int),l.drop i=r->0<=m/\m<=2001->
  au pg B 270 (Fin pg (az Tryd.f45) fun y _=>y= .int .i64 (r.foldl (fun m s=>jL (fB s) m (gh k<|bF s)<|gh k<|bE s) m)) (xp (nm<|bx l) l.length m i) (ah ar 270):=by
  intro r;induction r with
  |nil=>intro i m hr h0;have hi:l.length<=i:=List.drop_eq_nil_iff.1 hr;exact afk (k:=k) mc ab rfl
  |cons a r ih=>
   intro i m hr h0;have hl:i<l.length:=by
    by_cases q:i<l.length
    ·exact q
    ·rw[List.drop_of_length_le ab] at hr;cases hr
   have ha:l[i]? =some a:=by have:=congrArg (fun q=>q[0]?) hr;simp only[List.getElem?_drop,List.getElem?_cons_zero,Nat.add_zero] at this;exact this
   have hm:a∈l:=List.mem_of_getElem? ha;have j8:l.drop (i+1)=r:=by have:=congrArg (List.drop 1) hr;rw[List.drop_drop] at this;exact this
   have uq:=hd a hm;rw[Bool.and_eq_true] at uq;have hx:=Fa ha (z:=(i:Int)) ab;have b1:=CO k<|bF a;have b2:=CO k<|bE a;have pA:=ih (i+1) _ j8<|Vx (kd:=fB a) h0 b1 b2;have hb:=use _ uq.1;have he:=use _ uq.2;obtain⟨kd,to,⟨oa,na,la⟩,⟨ob,nb,lb⟩,bd,el⟩:=a;rw[aM,aD,aD] at hx;rw[List.foldl_cons];exact afj (k:=k) mc (cF _) ab hlen hx h0 b1 b2 (Fl b1 b2) hb he ab pA
 exact go_cos mc (cF _)<|key l 0 0 (List.drop_zero) ab
theorem TQ(hP:bS pg):∀(k:Nat) {L:bO},aY L->aY (jD k::L)
 |0,L,h=>by refine gP hP h dc Tryd.func45 fun args v e=>?_;obtain⟨_,_,hd,_⟩:=fV e;cases hd
 |k+1,L,h=>aaW hP (TQ hP k dc) h
end F1
end
section
open Go Go.Rn Go.RowKit Go.Proofs
namespace vJ
open ch cG cQ di fD dj
variable {N k N1 N0 L1 L0:Nat} {B:aJ} {x0 bN n1 n0:Int}
def rh:Nat->Ex->Int->Bool
 |0,_,_=>true
 |k+1,.mk op n args,z=> !(decide<|op=3/\n>=z)&&args.all fun a=>rh k a z
def xq(k:Nat)(args:List AV)(v:AV):Prop:=∃(e:Ex) (z:Int),args=[.agg<|aD e,.int .i64 z]/\eL k e=true/\v= .bool (rh k e z)
noncomputable def Jd(k:Nat):FuncId×KE:=(80,.val<|aP<|xq k)
theorem ab8{N0 L0 N1 L1:Nat}{op n z bN n0 cx n1 x0 x1:Int}(mc:Mt [Jd k] B):au pg B 270 (Fin pg (az Tryd.f80) fun y _=>y=(.bool<|decide<|¬(op=3/\n>=z))) (sF 80 Tryd.f80 [(.agg [(u8<|op),(i6 n),(.U N 0 0)]),(i6 z)])<|ah ar 270:=by exact wS mc (.st 4<|.rg<|.go 2<|.fk (.go 4<|.fk (.go 1<|.en<|.rt 4 .no)<|.go 1<|.en<|.st 3<|.rg<|.go 3<|.il<|.st 3<|.rg<|.go 2<|.il<|.rt 15<|.go 2<|.en<|.rt 1<|.go 2<|.en<|.rt 1 .no)<|.go 6<|.en<|.st 3<|.rg<|.go 3<|.il<|.st 3<|.rg<|.go 2<|.il<|.rt 15<|.go 2<|.en<|.rt 1<|.go 2<|.en<|.rt 1 .no)<|aT (op=3) (fun _=>(aT (n>=z) (fun _=>(show AV.bool false= .bool (decide<|¬(op=3/\n>=z)) from by rw[decide_eq_false ab])) fun _=>(show AV.bool true= .bool (decide<|¬(op=3/\n>=z)) from by rw[decide_eq_true ab]))) fun _=>(show AV.bool true= .bool (decide<|¬(op=3/\n>=z)) from by rw[decide_eq_true ab])
theorem ab9{op n z cx x1:Int}(mc:Mt [Jd k] B)(hn:top<=N)(rV:cv FU N (0+(0:Int).toNat*3+0) 3=some [(u8<|bN),(i6 n0),(.U N0 0 L0)])(jk:ba (aP<|xq k) [(.agg [(u8<|bN),(i6 n0),(.U N0 0 L0)]),(i6 z)]=some (.bool<|decide<|x0=1))(hZ:cv FU N (0+(1:Int).toNat*3+0) 3=some [(u8<|cx),(i6 n1),(.U N1 0 L1)])(jG:ba (aP<|xq k) [(.agg [(u8<|cx),(i6 n1),(.U N1 0 L1)]),(i6 z)]=some (.bool<|decide<|x1=1)):au pg B 270 (Fin pg (az Tryd.f80) fun y _=>y=(.bool<|decide<|¬(op=3/\n>=z)/\x0=1/\x1=1)) (sF 80 Tryd.f80 [(.agg [(u8<|op),(i6 n),(.U N 0 2)]),(i6 z)])<|ah ar 270:=by exact wS mc (.st 4<|.rg<|.go 2<|.fk (.go 4<|.fk (.go 1<|.en<|.rt 4 .no)<|.go 1<|.en<|.st 3<|.rg<|.go 3<|.il<|.st 3<|.rg<|.go 2<|.il<|.st 17<|.rg<|.go 3<|.eB<|.eC [(u8<|bN),(i6 n0),(.U N0 0 L0)]<|.il<|.st 3<|.rg<|.go 2<|.kp (x0=1) inferInstance (.go 2<|.en<|.rt 1<|.en<|.st 15<|.rg<|.go 3<|.eB<|.eC [(u8<|cx),(i6 n1),(.U N1 0 L1)]<|.il<|.st 3<|.rg<|.go 2<|.kp (x1=1) inferInstance (.go 2<|.en<|.rt 1<|.en<|.rt 13<|.go 2<|.en<|.rt 1<|.go 2<|.en<|.rt 1 .no)<|.go 2<|.en<|.rt 1<|.en<|.rt 4<|.go 2<|.en<|.rt 1<|.go 2<|.en<|.rt 1 .no)<|.go 2<|.en<|.rt 1<|.en<|.rt 4<|.go 2<|.en<|.rt 1<|.go 2<|.en<|.rt 1 .no)<|.go 6<|.en<|.st 3<|.rg<|.go 3<|.il<|.st 3<|.rg<|.go 2<|.il<|.st 17<|.rg<|.go 3<|.eB<|.eC [(u8<|bN),(i6 n0),(.U N0 0 L0)]<|.il<|.st 3<|.rg<|.go 2<|.kp (x0=1) inferInstance (.go 2<|.en<|.rt 1<|.en<|.st 15<|.rg<|.go 3<|.eB<|.eC [(u8<|cx),(i6 n1),(.U N1 0 L1)]<|.il<|.st 3<|.rg<|.go 2<|.kp (x1=1) inferInstance (.go 2<|.en<|.rt 1<|.en<|.rt 13<|.go 2<|.en<|.rt 1<|.go 2<|.en<|.rt 1 .no)<|.go 2<|.en<|.rt 1<|.en<|.rt 4<|.go 2<|.en<|.rt 1<|.go 2<|.en<|.rt 1 .no)<|.go 2<|.en<|.rt 1<|.en<|.rt 4<|.go 2<|.en<|.rt 1<|.go 2<|.en<|.rt 1 .no)<|aT (op=3) (fun _=>(aT (n>=z) (fun _=>(show AV.bool false= .bool (decide<|¬(op=3/\n>=z)/\x0=1/\x1=1) from by rw[decide_eq_false ab])) WI)) WI
theorem afm{L:Nat}{op n z x y1:Int}(mc:Mt [PU,Jd 6] B)(hc:ba (aP vI) [(.agg [(u8<|op),(i6 n),(.U N 0 L)])]=some (.bool<|decide<|x=1))(hb:x=1->ba (aP<|xq 6) [(.agg [(u8<|op),(i6 n),(.U N 0 L)]),(i6 z)]=some (.bool<|decide<|y1=1)):au pg B 270 (Fin pg (az Tryd.f68) fun y _=>y=(.bool<|decide<|x=1/\y1=1)) (sF 68 Tryd.f68 [(.agg [(u8<|op),(i6 n),(.U N 0 L)]),(i6 z)])<|ah ar 270:=by exact wS mc (.st 3<|.rg<|.go 1<|.kp (x=1) inferInstance (.go 3<|.kp (y1=1) inferInstance (.go 2<|.en<|.rt 1 .no)<|.go 2<|.en<|.rt 1 .no)<|.go 6<|.en<|.rt 1 .no)<|ai hc<|aT (x=1) (fun _=>(ai (hb ab)<|aT (y1=1) (fun _=>(show AV.bool true= .bool (decide<|x=1/\y1=1) from by rw[decide_eq_true ab])) fun _=>(show AV.bool false= .bool (decide<|x=1/\y1=1) from by rw[decide_eq_false ab]))) fun _=>(show AV.bool false= .bool (decide<|x=1/\y1=1) from by rw[decide_eq_false ab])
end vJ
end
section
open Go Go.Rn Go.RowKit Go.Proofs
namespace xG
open ch cG cQ di fD dj vJ
variable {k:Nat} {e:Ex}
theorem S9{op n:Int}{l:List Ex}(h:eL (k+1) (.mk op n l)=true):l=[]\/∃a b,l=[a,b]/\eL k a=true/\eL k b=true:=by
 rw[LR] at h;split at h
 ·exact .inl<|List.isEmpty_iff.1 h
 split at h
 ·rw[Bool.and_eq_true,Bool.and_eq_true] at h;exact .inl<|List.isEmpty_iff.1 h.1.1
 split at h
 ·rw[Bool.and_eq_true,Bool.and_eq_true] at h;exact .inl<|List.isEmpty_iff.1 h.1.1
 split at h
 ·cases h
 rw[Bool.and_eq_true,Bool.and_eq_true,decide_eq_true_eq] at h
 match l,h with
 |[a,b],h=>exact .inr ⟨a,b,rfl,h.1.2,h.2⟩
theorem xq.bM(args:List AV)(v v':AV)(h:xq k args v)(h':xq k args v'):v=v':=by obtain⟨e,z,rfl,_,rfl⟩:=h;obtain⟨e',z',h1,_,rfl⟩:=h';simp only[List.cons.injEq,AV.agg.injEq,AV.int.injEq,true_and,_root_.and_true] at h1;rw[nr _ _ h1.1,h1.2]
theorem M6{z:Int}(hw:eL k e=true):ba (aP<|xq k) [.agg<|aD e,.int .i64 z]=some (.bool<|decide<|bit (rh k e z)=1):=by rw[wV];exact eP (eK xq.bM ⟨e,z,rfl,hw,rfl⟩) rD rfl
theorem DO(b:Bool):bit b=1↔b=true:=by cases b<;>decide
theorem Ta(hP:bS pg):∀(k:Nat) {L:bO},aY L->aY (Jd k::L)
 |0,L,h=>by refine gP hP h dc Tryd.func80 fun args v e=>?_;obtain⟨_,_,_,hw,_⟩:=fV e;cases hw
 |k+1,L,h=>by
  refine gP hP h (Ta hP k dc) Tryd.func80 fun args v e=>?_;obtain⟨⟨op,n,l⟩,z,rfl,hw,rfl⟩:=fV e;refine⟨aL.1 aW,fun B mc=>?_⟩;rw[←ij];rcases S9 hw with rfl|⟨a,b,rfl,w0,w1⟩
  ·have key:=ab8 (L0:=0) (N1:=0) (L1:=0) (N0:=0) (bN:=0) (n0:=0) (cx:=0) (n1:=0) (x0:=0) (x1:=0) (N:=nm<|cH []) (op:=op) (n:=n) (z:=z) mc;rw[aD,show rh (k+1) (.mk op n []) z=decide (¬(op=3/\n>=z)) from by show(!(decide<|op=3/\n>=z)&&true)=_;rw[Bool.and_true,decide_not]];exact key
  ·obtain⟨bN,n0,l0⟩:=a;obtain⟨cx,n1,l1⟩:=b;have t0:=yK (l:=[Ex.mk bN n0 l0,.mk cx n1 l1]) (i:=0) (a:=.mk bN n0 l0) rfl (z:=0) rfl;have t1:=yK (l:=[Ex.mk bN n0 l0,.mk cx n1 l1]) (i:=1) (a:=.mk cx n1 l1) rfl (z:=1) rfl;have c0:=M6 (z:=z) w0;have c1:=M6 (z:=z) w1;rw[aD] at t0 t1 c0 c1;have key:=ab9 (op:=op) (n:=n) (z:=z) mc (cF _) t0 c0 t1 c1;rw[aD,show rh (k+1) (.mk op n [.mk bN n0 l0,.mk cx n1 l1]) z=decide (¬(op=3/\n>=z)/\bit (rh k (.mk bN n0 l0) z)=1/\bit (rh k (.mk cx n1 l1) z)=1) from by show(!(decide<|op=3/\n>=z)&&(rh k (.mk bN n0 l0) z&&(rh k (.mk cx n1 l1) z&&true)))=_;rw[Bool.and_true,Bool.eq_iff_iff,decide_eq_true_eq,DO,DO,Bool.and_eq_true,Bool.and_eq_true, ←decide_not,decide_eq_true_eq]];exact key
def Kj(e:Ex)(z:Int):Bool:=eL 6 e&&rh 6 e z
def oJ(args:List AV)(v:AV):Prop:=∃(e:Ex) (z:Int),args=[.agg<|aD e,.int .i64 z]/\v= .bool (Kj e z)
theorem oJ.bM(args:List AV)(v v':AV)(h:oJ args v)(h':oJ args v'):v=v':=by obtain⟨e,z,rfl,rfl⟩:=h;obtain⟨e',z',h1,rfl⟩:=h';simp only[List.cons.injEq,AV.agg.injEq,AV.int.injEq,true_and,_root_.and_true] at h1;rw[nr _ _ h1.1,h1.2]
noncomputable def vu:FuncId×KE:=(68,.val<|aP oJ)
theorem Og:ba (aP vI) [.agg<|aD e]=some (.bool<|decide<|bit (eL 6 e)=1):=by rw[wV];exact eP (eK vI.bM ⟨e,rfl,rfl⟩) rD rfl
theorem aca(hP:bS pg){L:bO}(h:aY L):aY<|vu::L:=by refine gP hP h (UD hP<|Ta hP 6 dc) Tryd.func68 fun args v e=>?_;obtain⟨⟨op,n,l⟩,z,rfl,rfl⟩:=fV e;refine⟨aL.1 aW,fun B mc=>?_⟩;rw[←ij];have c0:=Og (e:=.mk op n l);have c1:bit (eL 6<|.mk op n l)=1->_:=fun hx=>M6 (k:=6) (e:=.mk op n l) (z:=z)<|(DO _).1 hx;rw[aD] at c0 c1;have key:=afm mc c0 c1;rw[aD,show Kj (.mk op n l) z=decide (bit (eL 6<|.mk op n l)=1/\bit (rh 6 (.mk op n l) z)=1) from by rw[Bool.eq_iff_iff,decide_eq_true_eq,DO,DO];exact Bool.and_eq_true _ _▸Iff.rfl];exact key
end xG
end
section
open Go Go.Rn Go.RowKit Go.Proofs
namespace mN
open ch cG cQ di eX fO dj
variable {K:Cb} {k N L ld Ne Nd Nb Na Lb La:Nat} {L0:bO} {B:aJ} {pf p:fw} {i to ob oa nb na kd:Int} {g:Option ae} {x2 w2 w1 u2 u1:AV} {bL:Option Code}
noncomputable section
abbrev mw:=St->AV->AV->Option fw
def kG(ek:List St->AV->AV->Option fw)(rd:mw):List St->AV->AV->Option fw
 |[],v1,v2=>some ⟨true,v1,v2,none⟩
 |s::r,v1,v2=>match rd s v1 v2 with
  |none=>none
  |some p=>match p.ret with
   |false=>some p
   |true=>match ek (bF s) p.v1 p.v2 with
    |none=>none
    |some q=>match q.ret with
     |false=>some q
     |true=>match ek (bE s) q.v1 q.v2 with
      |none=>none
      |some u=>match u.ret with
       |false=>some u
       |true=>kG ek rd r u.v1 u.v2
def fC(rd:mw):Nat->List St->AV->AV->Option fw
 |0,_,_,_=>none
 |k+1,l,v1,v2=>match decide (l.length<=1000000) with
  |true=>kG (fC rd k) rd l v1 v2
  |false=>none
open Classical in
def FE(x:AV):Option<|List St:=if h:∃l:List St,x= .U (nm<|bx l) 0 l.length then some h.choose else none
open Classical in
def zh(rd:mw)(k:Nat)(x v1 v2:AV):Option fw:=match FE x with
 |none=>none
 |some l=>if okB v1/\okB v2 then fC rd k l v1 v2 else none
def cZ(K:Cb)(rd:mw)(k:Nat):FuncId×KE:=(65,.raw<|qL K<|zh rd k)
def oE(K:Cb)(v1 v2:AV):List<|Nat×Option ae:=ar++[(270,some<|Cb.loop K none 272 273 271),(271,some .defs),(272,some<|eH v1),(273,some<|eH v2)]
def sE(K:Cb)(v1 v2:AV)(c:List AV):AS:=ah (oE K v1 v2++[(274,some<|.cells 10 (Tr.fill c 0 .nil) [])]) 275
def sA(K:Cb)(bL:Option Code)(v1 v2:AV)(c:List AV)(g:Option ae):AS:=ah (ar++[(270,some<|Cb.loop K bL 272 273 271),(271,some .defs),(272,some<|eH v1),(273,some<|eH v2),(274,some<|.cells 10 (Tr.fill c 0 .nil) []),(275,g)]) 276
def Ej(L:bO):Env:=xX pg 270 dT dG L 274 true
def WT(K:Cb)(p:fw)(s':AS)(y:AV):Prop:=y= .bool p.ret/\s'.h.get 270=some (Cb.loop K p.bL 272 273 271)/\s'.h.get 271=some .defs/\s'.h.get 272=some (eH p.v1)/\s'.h.get 273=some (eH p.v2)
end
theorem Vy:fI<=274:=Nat.le_trans gU ab
theorem PV{o4:Option ae}{nx:Nat}:WT K p (ah (ar++[(270,some<|Cb.loop K p.bL 272 273 271),(271,some .defs),(272,some<|eH p.v1),(273,some<|eH p.v2),(274,o4),(275,g)]) nx)<|.bool p.ret:=⟨rfl,by kernel_rfl,by kernel_rfl,by kernel_rfl,by kernel_rfl⟩
theorem agp{nx:Nat}:WT K p (ah (ar++[(270,some<|Cb.loop K p.bL 272 273 271),(271,some .defs),(272,some<|eH p.v1),(273,some<|eH p.v2)]) nx)<|.bool p.ret:=⟨rfl,by kernel_rfl,by kernel_rfl,by kernel_rfl,by kernel_rfl⟩
theorem afn{v1 v2:AV}{l:List<|Nat×AV}(h:∀r:Nat->Nat,(∀k,k<274->r k=k)->(∀k,top<=k->r k=k)->∀p∈l,bg r p.2 p.2)(jJ:K.s1<top)(kB:K.s2<top)(mM:K.s1≠K.s2)(hZ:okB v1)(nW:okB v2):tI 274 l<|oE K v1 v2:=by
 intro r r1 r2;refine⟨h r r1 r2,fun p hp x hx=>?_⟩;rcases List.mem_append.1 hp with hp|hp
 ·exact E9 (nx:=270) (fun k hk=>r1 k ab) bY p hp x hx
 ·simp only[List.mem_cons,List.not_mem_nil,or_false] at hp;rcases hp with rfl|rfl|rfl|rfl<;>cases hx
  ·exact abY jJ kB mM (r1 _ ab) (r1 _ ab)<|r1 _ ab
  ·exact abZ
  ·exact Uz hZ r2
  ·exact Uz nW r2
noncomputable def Bg(N L:Nat)(i:Int):List<|Nat×AV:=[(1,(.yield 270)),(7,(.U N 0 L)),(8,(i6<|(L:Int))),(9,(i6 i))]
noncomputable def rp(N L:Nat)(i:Int):AF:=⟨65,aE<|Bg N L i,(max Tryd.f65.ntmps 2),[.code<|aR pg 65 [1,0,1,0,0],.inLoop<|aR pg 65 [1,0,1,0,0],.inBlock 0,.code<|aR pg 65 [1,1]],[],none⟩
theorem Wa{v1 v2:AV}(N L:Nat)(i:Int)(hn:top<=N)(jJ:K.s1<top)(kB:K.s2<top)(mM:K.s1≠K.s2)(hZ:okB v1)(nW:okB v2):((Bg N L i).map (fun q=>some q.2)=(Bg N L i).map (fun q=>some q.2))/\((oE K v1 v2).map (fun q=>q.2)=(oE K v1 v2).map (fun q=>q.2))/\tI 274 (Bg N L i) (oE K v1 v2)/\(rp N L i=rp N L i/\ah (oE K v1 v2) 274=ah (oE K v1 v2) 274):=⟨rfl,rfl,afn (fun r r1 r2 p hp=>by simp only[Bg,List.mem_cons,List.not_mem_nil,or_false] at hp;rcases hp with rfl|rfl|rfl|rfl<;>first|exact bg.int _ _|exact bg.bool _|exact bg.U (r2 _ hn) r2|exact bg.yield<|r1 270 ab) jJ kB mM hZ nW,rfl,rfl⟩
noncomputable abbrev fh(kd to oa na:Int)(Na La:Nat)(ob nb:Int)(Nb Lb Nd ld Ne le:Nat):List AV:=[(u8<|kd),(i6 to),(u8<|oa),(i6 na),(.U Na 0 La),(u8<|ob),(i6 nb),(.U Nb 0 Lb),(.U Nd 0 ld),(.U Ne 0 le)]
theorem ah9{rd:mw}{v1 v2 u1 u2 x1 x2:AV}{pf:fw}{le:Nat}(mc:Mt (cZ K rd k::L0) B)(hn:top<=N)(hi:0<=i)(hL:L<=1000000)(hx:cv FU N (0+i.toNat*10+0) 10=some (fh kd to oa na Na La ob nb Nb Lb Nd ld Ne le))(hr:bc pg (sp<|cZ K rd k::L0) FU 6 (.round 270) [.agg<|fh kd to oa na Na La ob nb Nb Lb Nd ld Ne le] (sE K v1 v2<|fh kd to oa na Na La ob nb Nb Lb Nd ld Ne le)= .ok (.bool false) (sA K bL w1 w2 (fh kd to oa na Na La ob nb Nb Lb Nd ld Ne le) g))(h1:i<(L:Int)):au pg B 274 (rF K 270 pg (az Tryd.f65) ⟨false,w1,w2,bL⟩) (rp N L i)<|ah (oE K v1 v2) 274:=by exact lZ (E:=Ej<|cZ K rd k::L0) eQ rfl bH mc.2.2.1 mc.2.2.2 900 (.st 1<|.rg<|.fk (.en<|.st 6<|.rg<|.eB<|.eC (fh kd to oa na Na La ob nb Nb Lb Nd ld Ne le)<|.go 2<|.en<|.st 1<|.rg<|.go 2<|.cy (.bool false) (sA K bL w1 w2 (fh kd to oa na Na La ob nb Nb Lb Nd ld Ne le) g)<|.go 15<|.en<|.rt 4 .no)<|.no)<|aT (i<(L:Int)) (fun _=>(dS i (L:Int)<|ai hn<|ai hx<|ai hr<|PV (K:=K) (p:=⟨false,w1,w2,bL⟩) (o4:=some<|.cells 10 (Tr.fill (fh kd to oa na Na La ob nb Nb Lb Nd ld Ne le) 0 .nil) []) (g:=g) (nx:=276))) fZ
theorem aia{rd:mw}{v1 v2 x1 x2:AV}{pf:fw}{le:Nat}(mc:Mt (cZ K rd k::L0) B)(hn:top<=N)(hi:0<=i)(hL:L<=1000000)(hx:cv FU N (0+i.toNat*10+0) 10=some (fh kd to oa na Na La ob nb Nb Lb Nd ld Ne le))(hr:bc pg (sp<|cZ K rd k::L0) FU 6 (.round 270) [.agg<|fh kd to oa na Na La ob nb Nb Lb Nd ld Ne le] (sE K v1 v2<|fh kd to oa na Na La ob nb Nb Lb Nd ld Ne le)= .ok (.bool true) (sA K none w1 w2 (fh kd to oa na Na La ob nb Nb Lb Nd ld Ne le) g))(hb:bc pg (sp<|cZ K rd k::L0) FU 6 (.fn 65) [.U Nd 0 ld,.yield 270] (sA K none w1 w2 (fh kd to oa na Na La ob nb Nb Lb Nd ld Ne le) g)= .ok (.bool false) (sA K bL u1 u2 (fh kd to oa na Na La ob nb Nb Lb Nd ld Ne le) g))(h1:i<(L:Int)):au pg B 274 (rF K 270 pg (az Tryd.f65) ⟨false,u1,u2,bL⟩) (rp N L i)<|ah (oE K v1 v2) 274:=by exact lZ (E:=Ej<|cZ K rd k::L0) eQ rfl bH mc.2.2.1 mc.2.2.2 900 (.st 1<|.rg<|.fk (.en<|.st 6<|.rg<|.eB<|.eC (fh kd to oa na Na La ob nb Nb Lb Nd ld Ne le)<|.go 2<|.en<|.st 1<|.rg<|.go 2<|.cy (.bool true) (sA K none w1 w2 (fh kd to oa na Na La ob nb Nb Lb Nd ld Ne le) g)<|.go 5<|.cu (.bool false) (sA K bL u1 u2 (fh kd to oa na Na La ob nb Nb Lb Nd ld Ne le) g)<|.go 9<|.en<|.rt 4 .no)<|.no)<|aT (i<(L:Int)) (fun _=>(dS i (L:Int)<|ai hn<|ai hx<|ai hr<|ai hb<|PV (K:=K) (p:=⟨false,u1,u2,bL⟩) (o4:=some<|.cells 10 (Tr.fill (fh kd to oa na Na La ob nb Nb Lb Nd ld Ne le) 0 .nil) []) (g:=g) (nx:=276))) fZ
theorem aib{rd:mw}{v1 v2 x1:AV}{pf:fw}{le:Nat}(mc:Mt (cZ K rd k::L0) B)(hn:top<=N)(hi:0<=i)(hL:L<=1000000)(hx:cv FU N (0+i.toNat*10+0) 10=some (fh kd to oa na Na La ob nb Nb Lb Nd ld Ne le))(hr:bc pg (sp<|cZ K rd k::L0) FU 6 (.round 270) [.agg<|fh kd to oa na Na La ob nb Nb Lb Nd ld Ne le] (sE K v1 v2<|fh kd to oa na Na La ob nb Nb Lb Nd ld Ne le)= .ok (.bool true) (sA K none w1 w2 (fh kd to oa na Na La ob nb Nb Lb Nd ld Ne le) g))(hb:bc pg (sp<|cZ K rd k::L0) FU 6 (.fn 65) [.U Nd 0 ld,.yield 270] (sA K none w1 w2 (fh kd to oa na Na La ob nb Nb Lb Nd ld Ne le) g)= .ok (.bool true) (sA K none u1 u2 (fh kd to oa na Na La ob nb Nb Lb Nd ld Ne le) g))(ho:bc pg (sp<|cZ K rd k::L0) FU 6 (.fn 65) [.U Ne 0 le,.yield 270] (sA K none u1 u2 (fh kd to oa na Na La ob nb Nb Lb Nd ld Ne le) g)= .ok (.bool false) (sA K bL x1 x2 (fh kd to oa na Na La ob nb Nb Lb Nd ld Ne le) g))(h1:i<(L:Int)):au pg B 274 (rF K 270 pg (az Tryd.f65) ⟨false,x1,x2,bL⟩) (rp N L i)<|ah (oE K v1 v2) 274:=by exact lZ (E:=Ej<|cZ K rd k::L0) eQ rfl bH mc.2.2.1 mc.2.2.2 900 (.st 1<|.rg<|.fk (.en<|.st 6<|.rg<|.eB<|.eC (fh kd to oa na Na La ob nb Nb Lb Nd ld Ne le)<|.go 2<|.en<|.st 1<|.rg<|.go 2<|.cy (.bool true) (sA K none w1 w2 (fh kd to oa na Na La ob nb Nb Lb Nd ld Ne le) g)<|.go 5<|.cu (.bool true) (sA K none u1 u2 (fh kd to oa na Na La ob nb Nb Lb Nd ld Ne le) g)<|.go 6<|.cu (.bool false) (sA K bL x1 x2 (fh kd to oa na Na La ob nb Nb Lb Nd ld Ne le) g)<|.go 2<|.en<|.rt 4 .no)<|.no)<|aT (i<(L:Int)) (fun _=>(dS i (L:Int)<|ai hn<|ai hx<|ai hr<|ai hb<|ai ho<|PV (K:=K) (p:=⟨false,x1,x2,bL⟩) (o4:=some<|.cells 10 (Tr.fill (fh kd to oa na Na La ob nb Nb Lb Nd ld Ne le) 0 .nil) []) (g:=g) (nx:=276))) fZ
theorem aic{rd:mw}{v1 v2 x1:AV}{bL:Option Code}{le:Nat}(mc:Mt (cZ K rd k::L0) B)(hn:top<=N)(hi:0<=i)(hL:L<=1000000)(hx:cv FU N (0+i.toNat*10+0) 10=some (fh kd to oa na Na La ob nb Nb Lb Nd ld Ne le))(hr:bc pg (sp<|cZ K rd k::L0) FU 6 (.round 270) [.agg<|fh kd to oa na Na La ob nb Nb Lb Nd ld Ne le] (sE K v1 v2<|fh kd to oa na Na La ob nb Nb Lb Nd ld Ne le)= .ok (.bool true) (sA K none w1 w2 (fh kd to oa na Na La ob nb Nb Lb Nd ld Ne le) g))(hb:bc pg (sp<|cZ K rd k::L0) FU 6 (.fn 65) [.U Nd 0 ld,.yield 270] (sA K none w1 w2 (fh kd to oa na Na La ob nb Nb Lb Nd ld Ne le) g)= .ok (.bool true) (sA K none u1 u2 (fh kd to oa na Na La ob nb Nb Lb Nd ld Ne le) g))(ho:bc pg (sp<|cZ K rd k::L0) FU 6 (.fn 65) [.U Ne 0 le,.yield 270] (sA K none u1 u2 (fh kd to oa na Na La ob nb Nb Lb Nd ld Ne le) g)= .ok (.bool true) (sA K none x1 x2 (fh kd to oa na Na La ob nb Nb Lb Nd ld Ne le) g))(h1:i<(L:Int))(jJ:K.s1<top)(kB:K.s2<top)(mM:K.s1≠K.s2)(hZ:okB x1)(nW:okB x2)(H:au pg B 274 (rF K 270 pg (az Tryd.f65) pf) (rp N L<|i+1)<|ah (oE K x1 x2) 274):au pg B 274 (rF K 270 pg (az Tryd.f65) pf) (rp N L i)<|ah (oE K v1 v2) 274:=by exact wp_cut (E:=Ej<|cZ K rd k::L0) (C:=(fun fr s1 _=>fr=rp N L (i+1)/\s1=ah (oE K x1 x2) 274)) eQ rfl bH mc.2.2.1 mc.2.2.2 Vy rfl mc.1 mQ 900 (.st 1<|.rg<|.fk (.en<|.st 6<|.rg<|.eB<|.eC (fh kd to oa na Na La ob nb Nb Lb Nd ld Ne le)<|.go 2<|.en<|.st 1<|.rg<|.go 2<|.cy (.bool true) (sA K none w1 w2 (fh kd to oa na Na La ob nb Nb Lb Nd ld Ne le) g)<|.go 5<|.cu (.bool true) (sA K none u1 u2 (fh kd to oa na Na La ob nb Nb Lb Nd ld Ne le) g)<|.go 6<|.cu (.bool true) (sA K none x1 x2 (fh kd to oa na Na La ob nb Nb Lb Nd ld Ne le) g)<|.go 2<|.en<|.st 3<|.rg<|.vl (i6<|i+1)<|.go 1<|.en<|.st 1<|.bk (Bg N L<|i+1) (oE K x1 x2) 274 .no)<|.no)<|aT (i<(L:Int)) (fun _=>(dS i (L:Int)<|ai hn<|ai hx<|ai hr<|ai hb<|ai ho<|ai (wI<|i+1)<|Wa N L (i+1) hn jJ kB mM hZ nW)) fZ
theorem afo{rd:mw}{v1 v2:AV}(mc:Mt (cZ K rd k::L0) B)(h1:(L:Int)<=i):au pg B 274 (rF K 270 pg (az Tryd.f65) ⟨true,v1,v2,none⟩) (rp N L i)<|ah (oE K v1 v2) 274:=by exact lZ (E:=Ej<|cZ K rd k::L0) eQ rfl bH mc.2.2.1 mc.2.2.2 900 (.st 1<|.rg<|.fk (.no)<|.en<|.rt 6 .no)<|aT (i<(L:Int)) fZ fun _=>(agp (K:=K) (p:=⟨true,v1,v2,none⟩) (nx:=274))
theorem agq{rd:mw}{v1 v2:AV}(mc:Mt (cZ K rd k::L0) B)(hn:top<=N)(jJ:K.s1<top)(kB:K.s2<top)(mM:K.s1≠K.s2)(hZ:okB v1)(nW:okB v2)(H:au pg B 274 (rF K 270 pg (az Tryd.f65) pf) (rp N L 0)<|ah (oE K v1 v2) 274):au pg B 274 (rF K 270 pg (az Tryd.f65) pf) (sF 65 Tryd.f65 [.U N 0 L,.yield 270])<|ah (oE K v1 v2) 274:=by exact wp_cut (E:=Ej<|cZ K rd k::L0) (C:=(fun fr s1 _=>fr=rp N L 0/\s1=ah (oE K v1 v2) 274)) eQ rfl bH mc.2.2.1 mc.2.2.2 Vy rfl mc.1 mQ 900 (.st 7<|.bk (Bg N L 0) (oE K v1 v2) 274 .no)<|Wa N L 0 hn jJ kB mM hZ nW
end mN
end
