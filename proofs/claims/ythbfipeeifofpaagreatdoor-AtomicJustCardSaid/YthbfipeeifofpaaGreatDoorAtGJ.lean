import Derived.Test.YthbfipeeifofpaaGreatDoorProg
import Derived.Test.YthbfipeeifofpaaGreatDoorRnGG
import Derived.KernelRfl
import Derived.Test.YthbfipeeifofpaaGreatDoorRnGH
import Derived.Test.YthbfipeeifofpaaGreatDoorRnGE
set_option maxRecDepth 100000
set_option maxHeartbeats 8000000
set_option linter.unusedSimpArgs false
set_option linter.unusedVariables false
section
open Go Go.Rn Go.RowKit Go.Proofs
namespace cG
inductive Ex where
 |mk (op n:Int) (args:List Ex)
instance:Inhabited Ex:=⟨.mk 0 0 []⟩
mutual
noncomputable def aC:Ex->List AV
 | .mk op n args=>[.int .u8 op,.int .i64 n,.U (nm<|cH args) 0 args.length]
noncomputable def cH:List Ex->List AV
 |[]=>[]
 |e::l=>aC e++cH l
end
theorem Co:∀l:List Ex,cH l=(l.map aC).flatten
 |[]=>by rw[cH];rfl
 |e::l=>by rw[cH,Co l];rfl
theorem MT{op n:Int}{args:List Ex}:aC (.mk op n args)=[.int .u8 op,.int .i64 n,ax aC args]:=by rw[aC,Co];rfl
theorem ky:l9 3 aC:=⟨fun⟨_,_,_⟩=>by rw[aC];rfl,fun⟨_,_,_⟩=>by rw[aC];show(true&&(true&&(Nat.ble top (nm _)&&true)))=true;rw[aM.2<|cF _];rfl⟩
theorem R7(l:List Ex):(cH l).all AV.gf=true:=by rw[Co];exact ky.all l
theorem sM{l m:List AV}(h1:l.all AV.gf=true)(h2:m.all AV.gf=true)(h:nm l=nm m):l=m:=by have e:=Dh h1;rw[h,Dh h2] at e;injection e with e;exact e.symm
mutual
theorem nk:∀x y:Ex,aC x=aC y->x=y
 | .mk a b l,.mk c d m,h=>by rw[aC,aC] at h;simp only[List.cons.injEq,AV.int.injEq,AV.U.injEq,true_and,_root_.and_true] at h;obtain⟨h1,h2,h3,_⟩:=h;rw[h1,h2,R8 l m<|sM (R7 l) (R7 m) h3]
theorem R8:∀l m:List Ex,cH l=cH m->l=m
 |[],[],_=>rfl
 |[],⟨_,_,_⟩::m,h=>by rw[cH,cH,aC] at h;cases h
 |⟨_,_,_⟩::l,[],h=>by rw[cH,cH,aC] at h;cases h
 |x::l,y::m,h=>by rw[cH,cH] at h;obtain⟨h1,h2⟩:=List.append_inj h (by rw[ky.len x,ky.len y]);rw[nk x y h1,R8 l m h2]
end
def Ex.op:Ex->Int| .mk o _ _=>o
def Ex.n:Ex->Int| .mk _ n _=>n
def Ex.args:Ex->List Ex| .mk _ _ l=>l
def eL:Nat->Ex->Bool
 |0,_=>false
 |k+1,.mk op n args=>
  if op=1 then args.isEmpty else if op=2 then args.isEmpty&&decide (0<=n)&&decide (n<8) else if op=3 then args.isEmpty&&decide (0<=n)&&decide (n<6)
  else if op<4\/op>8\/n≠0 then false else decide (args.length=2)&&eL k (args.getD 0 default)&&eL k (args.getD 1 default)
theorem LH{k:Nat}{op n:Int}{args:List Ex}:eL (k+1) (.mk op n args)=if op=1 then args.isEmpty else if op=2 then args.isEmpty&&decide (0<=n)&&decide (n<8) else if op=3 then args.isEmpty&&decide (0<=n)&&decide (n<6) else if op<4\/op>8\/n≠0 then false else decide (args.length=2)&&eL k (args.getD 0 default)&&eL k (args.getD 1 default):=rfl
end cG
end
section
open Go Go.Rn Go.RowKit Go.Proofs
namespace dj
open cG
inductive St where
 |mk (kind to:Int) (a b:Ex) (body other:List St)
instance:Inhabited St:=⟨.mk 0 0 default default [] []⟩
mutual
noncomputable def aL:St->List AV
 | .mk kind to a b body other=>[.int .u8 kind,.int .i64 to]++(aC a++(aC b++[.U (nm<|bx body) 0 body.length,.U (nm<|bx other) 0 other.length]))
noncomputable def bx:List St->List AV
 |[]=>[]
 |e::l=>aL e++bx l
end
theorem uB:∀l:List St,bx l=(l.map aL).flatten
 |[]=>by rw[bx];rfl
 |e::l=>by rw[bx,uB l];rfl
theorem wD{kind to:Int}{a b:Ex}{body other:List St}:aL (.mk kind to a b body other)=[.int .u8 kind,.int .i64 to]++(aC a++(aC b++[ax aL body,ax aL other])):=by rw[aL,uB,uB];rfl
theorem ml:l9 10 aL:=⟨fun⟨_,_,a,b,_,_⟩=>by
 rw[aL,List.length_append,List.length_append,List.length_append,ky.len a,ky.len b];rfl,fun⟨_,_,a,b,_,_⟩=>by
 rw[aL,List.all_append,List.all_append,List.all_append,ky.gf a,ky.gf b];show(true&&(true&&true)&&(true&&(true&&(Nat.ble top (nm _)&&(Nat.ble top (nm _)&&true)))))=true;rw[aM.2<|cF _,aM.2<|cF _];rfl⟩
theorem lG(l:List St):(bx l).all AV.gf=true:=by rw[uB];exact ml.all l
mutual
theorem Mr:∀x y:St,aL x=aL y->x=y
 | .mk k t a b l m,.mk k' t' a' b' l' m',h=>by rw[aL,aL] at h;obtain⟨h1,h⟩:=List.append_inj h rfl;obtain⟨h2,h⟩:=List.append_inj h (by rw[ky.len,ky.len]);obtain⟨h3,h⟩:=List.append_inj h (by rw[ky.len,ky.len]);simp only[List.cons.injEq,AV.int.injEq,AV.U.injEq,true_and,_root_.and_true] at h1 h;rw[h1.1,h1.2,nk _ _ h2,nk _ _ h3,sf l l'<|sM (lG l) (lG l') h.1.1,sf m m'<|sM (lG m) (lG m') h.2.1]
theorem sf:∀l m:List St,bx l=bx m->l=m
 |[],[],_=>rfl
 |[],y::m,h=>by have:=congrArg List.length h;rw[bx,bx,List.length_append,ml.len y] at this;simp only[List.length_nil] at this;omega
 |x::l,[],h=>by have:=congrArg List.length h;rw[bx,bx,List.length_append,ml.len x] at this;simp only[List.length_nil] at this;omega
 |x::l,y::m,h=>by rw[bx,bx] at h;obtain⟨h1,h2⟩:=List.append_inj h (by rw[ml.len x,ml.len y]);rw[Mr x y h1,sf l m h2]
end
theorem xy(e:St):AV.hi (.agg<|aL e)=true:=by show(aL e).all AV.cM=true;exact List.all_eq_true.2 fun x hx=>Cy<|List.all_eq_true.1 (ml.gf e) x hx
def ll:Nat->Ex->Int
 |0,_=>0
 |k+1,.mk _ _ args=>args.foldl (fun n a=>n+ll k a) 1
end dj
end
section
namespace Go.Rn
variable {P:Prop}
theorem dQ(h:P:=by first|omega|(simp only[List.length_set,List.length_take,List.length_append,List.length_cons,List.length_nil];omega)):P:=h
theorem bU(h:P:=by as_aux_lemma=>kernel_rfl):P:=h
theorem Qt(h:P:=by exact aR (to<0) (fun _=>(show AV.bool false= .bool (decide<|0<=to/\to<8/\to=0/\xa=1/\xb=1/\ld=0/\le=0) from by rw[decide_eq_false ab])) fun _=>(aR (to>=8) (fun _=>(show AV.bool false= .bool (decide<|0<=to/\to<8/\to=0/\xa=1/\xb=1/\ld=0/\le=0) from by rw[decide_eq_false ab])) fun _=>(aR (to≠0) (fun _=>(show AV.bool false= .bool (decide<|0<=to/\to<8/\to=0/\xa=1/\xb=1/\ld=0/\le=0) from by rw[decide_eq_false ab])) fun _=>(ai ha<|aR (xa=1) (fun _=>(ai hb<|aR (xb=1) (fun _=>(aR ((ld:Int)=0) (fun _=>(aR ((le:Int)=0) (fun _=>(show AV.bool true= .bool (decide<|0<=to/\to<8/\to=0/\xa=1/\xb=1/\ld=0/\le=0) from by rw[decide_eq_true ab])) fun _=>(show AV.bool false= .bool (decide<|0<=to/\to<8/\to=0/\xa=1/\xb=1/\ld=0/\le=0) from by rw[decide_eq_false ab]))) fun _=>(show AV.bool false= .bool (decide<|0<=to/\to<8/\to=0/\xa=1/\xb=1/\ld=0/\le=0) from by rw[decide_eq_false ab]))) fun _=>(show AV.bool false= .bool (decide<|0<=to/\to<8/\to=0/\xa=1/\xb=1/\ld=0/\le=0) from by rw[decide_eq_false ab]))) fun _=>(show AV.bool false= .bool (decide<|0<=to/\to<8/\to=0/\xa=1/\xb=1/\ld=0/\le=0) from by rw[decide_eq_false ab]))))):P:=h
theorem oU(h:P:=by exact fun _=>(wq0 (m:=m) (op:=op) (n:=n) (L:=L) (x0:=x0) (x1:=x1) ab)):P:=h
theorem Xz(h:P:=by exact aR (to<0) (fun _=>(show AV.bool false= .bool (decide<|0<=to/\to<8/\xa=1/\xb=1/\ld=0/\le=0) from by rw[decide_eq_false ab])) fun _=>(aR (to>=8) (fun _=>(show AV.bool false= .bool (decide<|0<=to/\to<8/\xa=1/\xb=1/\ld=0/\le=0) from by rw[decide_eq_false ab])) fun _=>(ai ha<|aR (xa=1) (fun _=>(ai hb<|aR (xb=1) (fun _=>(aR ((ld:Int)=0) (fun _=>(aR ((le:Int)=0) (fun _=>(show AV.bool true= .bool (decide<|0<=to/\to<8/\xa=1/\xb=1/\ld=0/\le=0) from by rw[decide_eq_true ab])) fun _=>(show AV.bool false= .bool (decide<|0<=to/\to<8/\xa=1/\xb=1/\ld=0/\le=0) from by rw[decide_eq_false ab]))) fun _=>(show AV.bool false= .bool (decide<|0<=to/\to<8/\xa=1/\xb=1/\ld=0/\le=0) from by rw[decide_eq_false ab]))) fun _=>(show AV.bool false= .bool (decide<|0<=to/\to<8/\xa=1/\xb=1/\ld=0/\le=0) from by rw[decide_eq_false ab]))) fun _=>(show AV.bool false= .bool (decide<|0<=to/\to<8/\xa=1/\xb=1/\ld=0/\le=0) from by rw[decide_eq_false ab])))):P:=h
theorem XA(h:P:=by exact aR (to<0) (fun _=>(show AV.bool false= .bool (decide<|0<=to/\to<8/\to=0/\xa=1/\xb=1) from by rw[decide_eq_false ab])) fun _=>(aR (to>=8) (fun _=>(show AV.bool false= .bool (decide<|0<=to/\to<8/\to=0/\xa=1/\xb=1) from by rw[decide_eq_false ab])) fun _=>(aR (to≠0) (fun _=>(show AV.bool false= .bool (decide<|0<=to/\to<8/\to=0/\xa=1/\xb=1) from by rw[decide_eq_false ab])) fun _=>(ai ha<|aR (xa=1) (fun _=>(ai hb<|aR (xb=1) (fun _=>(show AV.bool true= .bool (decide<|0<=to/\to<8/\to=0/\xa=1/\xb=1) from by rw[decide_eq_true ab])) fun _=>(show AV.bool false= .bool (decide<|0<=to/\to<8/\to=0/\xa=1/\xb=1) from by rw[decide_eq_false ab]))) fun _=>(show AV.bool false= .bool (decide<|0<=to/\to<8/\to=0/\xa=1/\xb=1) from by rw[decide_eq_false ab]))))):P:=h
theorem mK(h:P:=by exact fun fr s1 p hC=>by obtain⟨rfl,rfl⟩:=hC;exact H):P:=h
theorem fZ(h:P:=by exact fun _=>(oF ab)):P:=h
theorem KO(h:P:=by exact mG (st:=(fh a n c u fs)) (s:=ah (aeL a n c u fs kind to op nn N L aF n2 N2 L2 N3 L3 N4 L4) 275) (show(.agg [(u8<|.ofNat 1),i0,i0])=Y from(EI ab ab ab)) bU bU bU):P:=h
theorem XB(h:P:=by exact dS to (Int.ofNat 8)<|ai (Ty (c':=(i6 z)) (show((a.row (.ptr<|some (271,0)) (.slice (some (272,0)) (len) cap)<|i6 a.steps):List AV).length<=top from aM.1 aV) (Un (a.row (.ptr<|some (271,0)) (.slice (some (272,0)) (len) cap)<|i6 a.steps) (k:=2+to.toNat) ab) rfl)<|mG (st:=(⟨⟨(a.pre:List AV).set (2+to.toNat)<|.int .i64 z,len,cap,[.int .i64 a.steps]⟩,u,row⟩:VS)) (s:=ah (Vh a len cap to z u row kind op n N L aF n2 N2 L2 N3 L3 N4 L4) 274) (show((.tuple []):AV)= .tuple [] from rfl) ((show(ah (Vh a len cap to z u row kind op n N L aF n2 N2 L2 N3 L3 N4 L4) 274).h.get 270=(some<|aA mX<|((a.row (.ptr<|some (271,0)) (.slice (some (272,0)) (len) cap)<|i6 a.steps):List AV).set (2+to.toNat)<|i6 z) from bU).trans<|congrArg some<|Uo (pre:=a.pre) (post:=[.int .i64 a.steps]) (len:=len) (i:=2+to.toNat) (r1:=271) (r2:=272) (cap:=cap) (c:=.int .i64 z) (by show 2+to.toNat<10;omega)) bU bU):P:=h
theorem Wu(h:P:=by exact fun _=>(jI [lY,iJ,jC,kK,lV] 31 272 (vR nF) (xc op nn N L) (fh a n c u fs) (i6 v) hO hv hA bU<|ai hg<|mG (st:=(fh a n c u fs)) (s:=ah (ar++[(270,some<|.cells 13 (Tr.fill (a.row (.ptr<|some (271,0)) (IZ n c)<|i6 a.steps) 0 .nil) []),(271,(some<|.tok 3 u)),(272,(some<|aA aI fs)),(273,some<|.cells 3 (Tr.fill [(u8<|.ofNat 2),(i6 v),i0] 0 .nil) []),(274,some<|.cells 10 (Tr.fill (sO kind to op nn N L aF n2 N2 L2 N3 L3 N4 L4) 0 .nil) [])]) 275) (show(.agg [(u8<|.ofNat 2),(i6 v),i0])=Y from(E2 ab)) bU bU bU)):P:=h
theorem Wv(h:P:=by exact fun _=>(jI [lY,iJ,jC,kK,lV] 29 272 (vR jh) (xc op nn N L) (fh a n c u fs) (i6 z) hO hz hA bU<|mG (st:=(fh a n c u fs)) (s:=ah (ar++[(270,some<|.cells 13 (Tr.fill (a.row (.ptr<|some (271,0)) (IZ n c)<|i6 a.steps) 0 .nil) []),(271,(some<|.tok 3 u)),(272,(some<|aA aI fs)),(273,some<|.cells 3 (Tr.fill [(u8<|.ofNat 3),i0,(i6 z)] 0 .nil) []),(274,some<|.cells 10 (Tr.fill (sO kind to op nn N L aF n2 N2 L2 N3 L3 N4 L4) 0 .nil) [])]) 275) (show(.agg [(u8<|.ofNat 3),i0,(i6 z)])=Y from(E8 ab)) bU bU bU)):P:=h
theorem Ww(h:P:=by exact fun _=>(dS (0:Int) 2<|ai hn<|ai rR<|ai jj<|aR (x0=1) (fun _=>(dS (1:Int) 2<|ai hn<|ai iV<|ai jE<|aR (x1=1) (fun _=>(show AV.bool true= .bool (decide<|¬(op=3/\n>=z)/\x0=1/\x1=1) from by rw[decide_eq_true ab])) fun _=>(show AV.bool false= .bool (decide<|¬(op=3/\n>=z)/\x0=1/\x1=1) from by rw[decide_eq_false ab]))) fun _=>(show AV.bool false= .bool (decide<|¬(op=3/\n>=z)/\x0=1/\x1=1) from by rw[decide_eq_false ab]))):P:=h
theorem Wx(h:P:=by exact fun _=>(aR (op<4) oU fun _=>(aR (op>8) oU fun _=>(aR (n≠0) oU fun _=>(aR ((L:Int)≠2) oU fun _=>(dS (0:Int) (L:Int)<|ai hn<|ai (rR ab)<|ai (wI<|m - 1)<|ai (jj ab ab)<|aR (x0=1) (fun _=>(dS (1:Int) (L:Int)<|ai hn<|ai (iV ab)<|ai (wI<|m - 1)<|ai (jE ab ab)<|aR (x1=1) J6 oU)) oU)))))):P:=h
theorem Wy(h:P:=by exact fun _=>(mG (st:=(fh a n c u fs)) (s:=ah (ar++[(270,some<|.cells 13 (Tr.fill (a.row (.ptr<|some (271,0)) (IZ n c)<|i6 a.steps) 0 .nil) []),(271,(some<|.tok 3 u)),(272,(some<|aA aI fs)),(273,some<|.cells 3 (Tr.fill [(u8<|.ofNat 4),i0,i0] 0 .nil) []),(274,some<|.cells 10 (Tr.fill (sO kind to op nn N L aF n2 N2 L2 N3 L3 N4 L4) 0 .nil) [])]) 275) (show(.agg [(u8<|.ofNat 4),i0,i0])=Y from(E6 ab ab)) bU bU bU)):P:=h
theorem PE(h:P:=by exact vU LM 41 280 (dH eG) [] (aQ A1.pre m1 (.aq c1 13) A1.steps u1 br) (aQ A2.pre m2 (.aq c2 13) A2.steps u2 bj) k9 rO yc<|D9 15 2 38 (cO 15 [1,1,1,1,1,1,1,1,1]) A2 m2 (.aq c2 13) u2 bj 280 281 hlen nG):P:=h
theorem Bq(h:P:=by exact wI<|(av (fs.take n)<|(((0+n):Nat):Int) - 1).ak+1):P:=h
theorem Wz(h:P:=by exact ac0 (show((a.row (.ptr<|some (271,0)) (.slice (some (272,0)) (len) cap)<|i6 a.steps):List AV).length<=top from aM.1 aV) (show((a.row (.ptr<|some (271,0)) (.slice (some (272,0)) (len) cap)<|i6 a.steps):List AV)[10]? =some (.ptr<|some (271,0)) from rfl)):P:=h
theorem DE(h:P:=by exact fun fr s1 _ hC=>by obtain⟨rfl,rfl⟩:=hC;exact H):P:=h
theorem Br(h:P:=by exact wI<|(((0+n):Nat):Int) - 1):P:=h
theorem WA(h:P:=by exact fun _=>(aR (kind=2) (fun _=>(jI [lY,iJ,jC,kK,lV] 31 272 (vR nF) (xc op nn N L) (fh a n c u fs) (i6 v) hO hv hA bU<|ai hg KO)) fun _=>KO)):P:=h
theorem J6(h:P:=by exact fun _=>(wq1 (m:=m) (op:=op) (n:=n) (L:=L) (x0:=x0) (x1:=x1) ab)):P:=h
theorem PF(h:P:=by simp only[List.length_nil];unfold room;omega):P:=h
theorem PG(h:P:=by simp only[List.length_nil];unfold top;omega):P:=h
theorem Bs(h:P:=by exact wI<|a.steps+1):P:=h
theorem WB(h:P:=by exact aR (i<(L:Int)) fZ fun _=>(show(.tuple [(i6 m),(.bool false)])=v from hv)):P:=h
theorem gu(h:P:=by first|exact m0.bD|exact mp.bD|exact m1.bD|exact hK|exact hN|exact hB|exact qH|exact pP|exact hv|exact hA|exact lC.bD|exact hE|exact mE.bD):P:=h
theorem ab(h:P:=by omega):P:=h
theorem qI(h:P:=by first|exact m0.bD|exact mp.bD|exact m1.bD|exact hK|exact hN|exact hB|exact qH|exact pP|exact hv|exact hA|exact lC.bD|exact hE|exact mE.bD|exact hW|exact bC|exact hD):P:=h
theorem bY(h:P:=by as_aux_lemma=>kernel_rfl):P:=h
theorem aV(h:P:=by kernel_rfl):P:=h
theorem vV(h:P:=by first|exact m0.bD|exact mp.bD|exact m1.bD|exact hK|exact hN|exact hB|exact qH|exact pP|exact hv|exact hA|exact lC.bD|exact hE|exact mE.bD|exact hD):P:=h
theorem vW(h:P:=by first|exact m0.bD|exact mp.bD|exact m1.bD|exact hK|exact hN|exact hB|exact qH|exact pP|exact hv|exact hA|exact lC.bD|exact hX):P:=h
theorem yh(h:P:=by first|exact m0.bD|exact mp.bD|exact m1.bD|exact hK|exact hN|exact hB|exact qH|exact pP|exact hv|exact hA):P:=h
theorem dZ(h:P:=by unfold top;omega):P:=h
theorem BZ(h:P:=by first|exact m0.bD|exact mp.bD|exact m1.bD|exact hK|exact hN|exact hB|exact qH|exact pP|exact hv|exact hA|exact XC):P:=h
theorem DF(h:P:=by first|omega|(simp only[List.length_set,List.length_take,List.length_append,List.length_cons,List.length_nil];omega)):P:=h
theorem zq(h:P:=by simp only[reduceCtorEq,true_or,false_or,true_and,_root_.and_true];omega):P:=h
theorem zr(h:P:=by have:=m0.len;have:top=549755813888:=rfl;omega):P:=h
theorem rA(h:P:=by rw[List.all_cons,Bb];rfl):P:=h
theorem qz(h:P:=by rw[t.n];omega):P:=h
theorem WC(h:P:=by rw[List.all_cons,show AV.hi (.U (nm<|bx b) 0 b.length)=true from aM.2<|cF _];rfl):P:=h
theorem Gf(h:P:=by rw[List.reverse_reverse];exact d2.eq):P:=h
theorem Gg(h:P:=by rw[List.reverse_reverse];exact d.eq):P:=h
theorem tD(h:P:=by rw[p1];omega):P:=h
theorem nH(h:P:=by cases hp):P:=h
theorem Gh(h:P:=by rw[blt_eq];unfold top;omega):P:=h
theorem PH(h:P:=by first|exact m0.bD|exact d.run|exact d.eh.bD):P:=h
theorem Gi(h:P:=by rw[List.length_cons];omega):P:=h
theorem PI(h:P:=by rw[List.length_cons,List.length_cons];omega):P:=h
end Go.Rn
end
section
open Go Go.Rn Go.RowKit Go.Proofs
namespace eO
open cG dj
def y9(n:Int):List AV:=[.int .i64 n]
theorem KS:l9 1 y9:=⟨fun _=>rfl,fun _=>rfl⟩
theorem aaI(x y:Int)(h:y9 x=y9 y):x=y:=by simp only[y9,List.cons.injEq,AV.int.injEq,true_and,_root_.and_true] at h;exact h
def gZ(c:AV):List AV:=[c]
abbrev bg:=List<|List<|Int×Int
def JI(p:Int×Int):AV:=.agg [.int .i64 p.1,.int .i64 p.2]
def bI(ms:bg):AV:=.agg<|ms.map fun m=>.agg<|m.map JI
theorem aaJ(p q:Int×Int)(h:JI p=JI q):p=q:=by obtain⟨a,b⟩:=p;obtain⟨c,d⟩:=q;simp only[JI,AV.agg.injEq,List.cons.injEq,AV.int.injEq,true_and,_root_.and_true] at h;rw[h.1,h.2]
theorem sq:∀a b,bI a=bI b->a=b:=by
 intro a b h;injection h with h
 refine(List.map_inj_right fun x y e=>?_).1 h;injection e with e
 exact(List.map_inj_right aaJ).1 e
def jP(n:Nat):List AV:=(List.range n).map fun i=>.map<|some<|272+i
noncomputable def qg:Nat->bg->List (Nat×ae)
 |_,[]=>[]
 |k,m::ms=>(k,bz m)::qg (k+1) ms
noncomputable def WE(n:Nat)(cap:bW):ae:=aA gZ [.slice (some (271,0)) n cap]
noncomputable def dL(ms:bg)(cap:bW):List<|Nat×ae:=(270,WE ms.length cap)::(271,aA gZ<|jP ms.length)::qg 272 ms
def de(ms:bg):Prop:=(1<=ms.length/\ms.length<=7)/\∀m∈ms,dU m
def oC(n:Nat)(cap:bW):Prop:=cap= .aq n 1\/(n=1/\cap= .known 1)
theorem HI:∀{k:Nat} {ms:bg} {p:Nat×ae},p∈qg k ms->k<=p.1/\p.1<k+ms.length/\∃m,p.2=bz m
 |k,[],p,h=>by cases h
 |k,m::ms,p,h=>by
  rcases List.mem_cons.1 h with rfl|h
  ·exact⟨Nat.le_refl _,by rw[List.length_cons];omega,m,rfl⟩
  ·obtain⟨h1,h2,h3⟩:=HI h;exact⟨by omega,by rw[List.length_cons];omega,h3⟩
theorem SS:∀{k:Nat} {ms:bg} {i:Nat},i<ms.length->k+i∈(qg k ms).map (·.1)
 |k,[],i,h=>by cases h
 |k,m::ms,0,h=>List.mem_cons_self
 |k,m::ms,i+1,h=>by have:=SS (k:=k+1) (ms:=ms) (i:=i) (by rw[List.length_cons] at h;omega);rw[show k+(i+1)=k+1+i by omega];exact List.mem_cons_of_mem _ this
structure Fr where
 block:List St
 ak:Int
 turns:Int
 bV:Bool
 kept:List Int
 other:Option<|List St
instance:Inhabited Fr:=⟨⟨[],0,0,false,[],none⟩⟩
noncomputable def zQ:Option (List St)->AV
 |none=>.slice none 0<|.known 0
 |some l=>ax aL l
theorem ac4(o:Option<|List St):(zQ o).bQ=true:=by cases o<;>rfl
theorem aeP(o:Option<|List St):(zQ o).cM=true:=by
 cases o with
 |none=>rfl
 |some l=>exact aM.2<|cF _
def eight(l:List Int):List AV:=[.int .i64<|l.getD 0 0,.int .i64<|l.getD 1 0,.int .i64<|l.getD 2 0,.int .i64<|l.getD 3 0,.int .i64<|l.getD 4 0,.int .i64<|l.getD 5 0,.int .i64<|l.getD 6 0,.int .i64<|l.getD 7 0]
noncomputable def aI(f:Fr):List AV:=[ax aL f.block,.int .i64 f.ak,.int .i64 f.turns,.bool f.bV]++(eight f.kept++[zQ f.other])
theorem fA(f:Fr):(aI f).length=13:=rfl
theorem Mu(f:Fr):(aI f).all AV.bQ=true:=by show(true&&(true&&(true&&(true&&(true&&(true&&(true&&(true&&(true&&(true&&(true&&(true&&((zQ f.other).bQ&&true)))))))))))))=true;rw[ac4];rfl
theorem TA(f:Fr):∀c∈aI f,c.cM=true:=fun c hc=>by
 have h:(aI f).all AV.cM=true:=by show((ax aL f.block).cM&&(true&&(true&&(true&&(true&&(true&&(true&&(true&&(true&&(true&&(true&&(true&&((zQ f.other).cM&&true)))))))))))))=true;rw[show(ax aL f.block).cM=true from aM.2<|cF _,aeP];rfl
 exact List.all_eq_true.1 h c hc
noncomputable def KT(f:Fr):AV:=.agg [ax aL f.block,.int .i64 f.ak,.int .i64 f.turns,.bool f.bV,.agg<|f.kept.map fun x=>.int .i64 x,zQ f.other]
theorem HJ{l m:List St}(h:ax aL l=ax aL m):l=m:=by
 injection h with h _ _
 have h:nm (bx l)=nm (bx m):=by rw[uB,uB];exact h
 exact sf _ _<|sM (lG _) (lG _) h
theorem Us{a b:Option<|List St}(h:zQ a=zQ b):a=b:=by
 cases a with
 |none=>cases b with
  |none=>rfl
  |some m=>cases h
 |some l=>cases b with
  |none=>cases h
  |some m=>exact congrArg some<|HJ h
theorem TB{l m:List Int}(h:(l.map fun x=>AV.int .i64 x)=m.map fun x=>.int .i64 x):l=m:=(List.map_inj_right fun x y e=>by injection e).1 h
theorem ac5(f g:Fr)(h:KT f=KT g):f=g:=by obtain⟨a1,a2,a3,a4,a5,a6⟩:=f;obtain⟨b1,b2,b3,b4,b5,b6⟩:=g;simp only[KT,AV.agg.injEq,List.cons.injEq,AV.int.injEq,AV.bool.injEq,true_and,_root_.and_true] at h;obtain⟨h1,rfl,rfl,rfl,h5,h6⟩:=h;rw[HJ h1,TB h5,Us h6]
structure dE where
 vars:Int
 aD:List Int
 l:List Int
 b:bg
 fs:List Fr
 steps:Int
noncomputable def FN(a:dE)(c:Nat):List AV:=[.int .i64 a.vars,ax y9 a.aD]++(eight a.l++[.ptr<|some (271,0),.slice (some (272,0)) a.fs.length<|.aq c 13,.int .i64 a.steps])
noncomputable def eg(a:dE):AV:=.agg [.int .i64 a.vars,ax y9 a.aD,.agg<|a.l.map fun x=>.int .i64 x,bI a.b,.agg<|a.fs.map KT,.int .i64 a.steps]
theorem uC:∀a b,eg a=eg b->a=b:=by
 intro a b h;obtain⟨a1,a2,a3,a4,a5,a6⟩:=a;obtain⟨b1,b2,b3,b4,b5,b6⟩:=b;simp only[eg,AV.agg.injEq,List.cons.injEq,AV.int.injEq,true_and,_root_.and_true] at h;obtain⟨rfl,h2,h3,h4,h5,rfl⟩:=h;have e2:a2=b2:=by refine(dm.ax KS a2).inj aaI ?_;rw[h2];exact dm.ax KS b2
 rw[e2,TB h3,sq _ _ h4,(List.map_inj_right ac5).1 h5]
def xd(a:dE):Prop:=a.l.length=8/\de a.b/\a.fs.length<=1000/\a.aD.length<=1000/\(1<=a.vars/\a.vars<=32)
noncomputable def gz(a:dE)(bh:List Fr)(c:Nat):List<|Nat×ae:=[(270,aA gZ<|FN a c),(271,.tok 3<|bI a.b),(272,aA aI<|a.fs++bh)]
def mw(a:dE)(bh:List Fr)(c:Nat):Prop:=a.fs.length<=c/\(a.fs++bh).length<=1000000/\∀f∈bh,(0<=f.turns/\f.turns<=1000000)/\f.kept.length=8
theorem wO{n:Nat}(h:n<100000):n<top:=by have:top=549755813888:=rfl;omega
theorem CT(l:List AV):(l.map gZ).flatten=l:=by
 induction l with
 |nil=>rfl
 |cons x l ih=>rw[List.map_cons,List.flatten_cons,ih];rfl
theorem ZU{ns:List Nat}{m:List<|Int×Int}:ln ns<|bz m:=fun _ _ _ h=>uF h
theorem aeQ{ms:bg}{cap:bW}(h:de ms):∀p∈dL ms cap,270<=p.1/\p.1<top/\(p.2.own=true\/p.2.kJ=true)/\ln ((dL ms cap).map (·.1)) p.2:=by
 intro p hp;have h8:=h.1.2;rcases List.mem_cons.1 hp with rfl|hp
 ·refine⟨Nat.le_refl _,wO (by show 270<100000;omega),.inl rfl,ln.row ?_ fun c hc=>?_⟩
  ·rw[CT];exact Nat.le_of_lt<|wO (by show 1<100000;omega)
  ·rw[CT] at hc;rw[List.mem_singleton] at hc;subst hc;exact gy.slice (by simp[dL])
 rcases List.mem_cons.1 hp with rfl|hp
 ·refine⟨by show 270<=271;omega,wO (by show 271<100000;omega),.inl rfl,ln.row ?_ fun c hc=>?_⟩
  ·rw[CT,jP,List.length_map,List.length_range];exact Nat.le_of_lt<|wO ab
  ·rw[CT] at hc;obtain⟨i,hi,rfl⟩:=List.mem_map.1 hc;refine gy.map ?_;show 272+i∈270::271::(qg 272 ms).map (·.1);exact List.mem_cons_of_mem _<|List.mem_cons_of_mem _<|SS<|List.mem_range.1 hi
 ·obtain⟨h1,h2,m,h3⟩:=HI hp;refine⟨by omega,wO ab,.inl (by rw[h3];rfl),by rw[h3];exact ZU⟩
theorem ac6{a:dE}{bh:List Fr}{c:Nat}(h:xd a)(hj:mw a bh c):∀p∈gz a bh c,270<=p.1/\p.1<top/\(p.2.own=true\/p.2.kJ=true)/\ln ((gz a bh c).map (·.1)) p.2:=by
 intro p hp;simp only[gz,List.mem_cons,List.not_mem_nil,or_false] at hp;rcases hp with rfl|rfl|rfl
 ·refine⟨Nat.le_refl _,wO (by show 270<100000;omega),.inl rfl,ln.row ?_ fun c hc=>?_⟩
  ·rw[CT];exact Nat.le_of_lt<|wO (by show 13<100000;omega)
  ·rw[CT] at hc;simp only[FN,eight,List.cons_append,List.nil_append,List.mem_cons,List.not_mem_nil,or_false] at hc;rcases hc with rfl|rfl|rfl|rfl|rfl|rfl|rfl|rfl|rfl|rfl|rfl|rfl|rfl
   ·exact gy.hi rfl
   ·exact gy.hi<|aM.2<|cF _
   ·exact gy.hi rfl
   ·exact gy.hi rfl
   ·exact gy.hi rfl
   ·exact gy.hi rfl
   ·exact gy.hi rfl
   ·exact gy.hi rfl
   ·exact gy.hi rfl
   ·exact gy.hi rfl
   ·exact gy.ptr (by simp[gz])
   ·exact gy.slice (by simp[gz])
   ·exact gy.hi rfl
 ·exact⟨by show 270<=271;omega,wO (by show 271<100000;omega),.inr rfl,ln.tok⟩
 ·have h3:=hj.2.1;have ht:top=549755813888:=rfl;refine⟨by show 270<=272;omega,wO (by show 272<100000;omega),.inl rfl,ln.row ?_ fun c hc=>?_⟩
  ·rw[yB (K:=13) fA];omega
  ·obtain⟨x,hx,hc⟩:=List.mem_flatten.1 hc;obtain⟨f,_,rfl⟩:=List.mem_map.1 hx;exact gy.hi<|TA f c hc
end eO
end
section
open Go Go.Rn Go.RowKit Go.Proofs
namespace ch
open eO
variable {T A:Prop} {i nv:Nat} {c y v c' Y:AV} {ns:List Nat} {C:xO}
noncomputable abbrev pg:Program:=Tryz.prog
abbrev az(f:Func):List ResultVar:=f.results.toList
noncomputable abbrev cO(g:Nat)(p:List Nat):List Item:=[.code<|aS Tryz.prog g p]
noncomputable abbrev sF(g:Nat)(f:Func)(args:List AV):AF:=⟨g,dt args,max f.ntmps args.length,[.code<|aS Tryz.prog g []],[],none⟩
def aeR:List<|Option FuncId:=[none,none,none,none,some 122,some 123,some 124,some 125,some 127]
noncomputable section
def Sc:List AV:=aeR.map Ir
def dF:Tr ae:=(Tr.nil).put 0<|some<|.ro Sc.length<|Tr.fill Sc 0 .nil
end
def dT:List Nat:=[0]
theorem bH:Tryz.prog.follows .mixedOrders=true:=by kernel_rfl
theorem gS:fI<=270:=aM.1 aV
theorem aaK:fI<=271:=aM.1 aV
theorem qZ:270<=top:=aM.1 aV
noncomputable def ar:List<|Nat×Option ae:=dT.map fun n=>(n,dF.get n)
theorem TC:fR ar=dF:=by kernel_rfl
theorem ib:ah ar 270=⟨dF,270,0,[],[]⟩:=by show(⟨fR ar,270,0,[],[]⟩:AS)=_;rw[TC]
theorem lQ:∀p∈ar,p.1<top:=fun p hp=>by obtain⟨k,hk,rfl⟩:=List.mem_map.1 hp;exact LO (m:=top) (l:=dT) aV k hk
theorem me:∀n o,(n,some o)∈ar->dF.get n=some o:=fun n o hm=>by
 obtain⟨k,hk,e⟩:=List.mem_map.1 hm;injection e with e1 e2
 rw[←e1];exact e2
theorem jQ(n:Nat)(o:ae)(_:n<top)(h:dF.get n=some o):n∈dT:=by
 rw[←TC] at h;obtain⟨k,hk,e⟩:=List.mem_map.1<|uE (l:=ar) lQ h;injection e with e1 _
 rw[←e1];exact hk
theorem ji:∀n∈dT,n<270:=fun n hn=>LO (m:=270) (l:=dT) aV n hn
def encI(n:Int):List AV:=[.int .i64 n]
theorem eI:l9 1 encI:=⟨fun _=>rfl,fun _=>rfl⟩
theorem qT(x y:Int)(h:encI x=encI y):x=y:=by simp only[encI,List.cons.injEq,AV.int.injEq,true_and,_root_.and_true] at h;exact h
def mX(c:AV):List AV:=[c]
noncomputable abbrev en(L:bO):Env:=xS pg 270 dT dF L 270 true
noncomputable abbrev oV(L:bO):Env:=xS pg 270 dT dF L 271 true
noncomputable abbrev sp(L:bO):Sp:=dk 270 dT dF L
structure zt where
 rv:Int
 NF:Int
 has:List Bool
def Bt(a:zt):List AV:=[AV.int .i64 a.rv,AV.int .i64 a.NF]++a.has.map AV.bool
def PL(a:zt):AV:=.agg<|Bt a
def VT(a:zt):Prop:=OT a.rv/\(1<=a.NF/\a.NF<=32)/\a.has.length=32
theorem ali:∀a b,PL a=PL b->a=b:=by
 intro a b h;obtain⟨r,s,l⟩:=a;obtain⟨r',s',l'⟩:=b;injection h with h
 simp only[Bt,List.cons_append,List.nil_append,List.cons.injEq,AV.int.injEq,true_and] at h;obtain⟨rfl,rfl,h⟩:=h;have:l=l':=by
  have inj:∀x y:Bool,AV.bool x=AV.bool y->x=y:=fun x y h=>by injection h
  clear r s;induction l generalizing l' with
  |nil=>cases l' with
   |nil=>rfl
   |cons _ _=>cases h
  |cons x l ih=>cases l' with
   |nil=>cases h
   |cons y l'=>simp only[List.map_cons,List.cons.injEq] at h;rw[inj x y h.1,ih l' h.2]
 rw[this]
noncomputable def ahL(a:zt):ae:=aA mX<|Bt a
structure Lk where
 owner:Int
 version:Int
deriving Inhabited
def za(k:Lk):List AV:=[.int .i64 k.owner,.int .i64 k.version]
structure zb where
 vd:List Lk
 bp:Int
 xz:Int
 vy:List Int
def JJ(a:zb):AV:=.agg [.int .i64 a.bp,.int .i64 a.xz,.agg<|a.vd.map fun k=>.agg<|za k,.agg<|a.vy.map fun x=>.int .i64 x]
def I3(a:zb):Prop:=(1<=a.vd.length/\a.vd.length<=32)/\(1<=a.vy.length/\a.vy.length<=32)/\0<=a.bp/\a.xz<=1099511627776
theorem alf:∀a b,JJ a=JJ b->a=b:=by
 intro a b h;obtain⟨l,c,m,v⟩:=a;obtain⟨l',c',m',v'⟩:=b;injection h with h
 simp only[List.cons.injEq,AV.int.injEq,AV.agg.injEq,true_and,_root_.and_true] at h;obtain⟨rfl,rfl,h1,h2⟩:=h;have e1:l=l':=(List.map_inj_right (fun x y e=>by obtain⟨o,w⟩:=x;obtain⟨o',w'⟩:=y;simp only[za,AV.agg.injEq,List.cons.injEq,AV.int.injEq,true_and,_root_.and_true] at e;obtain⟨rfl,rfl⟩:=e;rfl)).1 h1;have e2:v=v':=(List.map_inj_right fun x y e=>by injection e).1 h2;rw[e1,e2]
def O1(nl nv:Nat)(c1 c2:bW)(bp xz:Int):List AV:=[.slice (some (271,0)) nl c1,.int .i64 bp,.int .i64 xz,.slice (some (272,0)) nv c2]
noncomputable def O2(nl nv:Nat)(c1 c2:bW)(bp xz:Int):ae:=aA mX<|O1 nl nv c1 c2 bp xz
noncomputable def FO(a:zb)(c1 c2:bW):List<|Nat×ae:=[(270,O2 a.vd.length a.vy.length c1 c2 a.bp a.xz),(271,aA za a.vd),(272,aA encI a.vy)]
inductive XT:TX
 |set (a:zt) (h:VT a):XT 1 (PL a) [(270,ahL a)]
 |heap (a:zb) (h:I3 a) (c1 c2:bW):XT 2 (JJ a)<|FO a c1 c2
 |buf (ms:bg) (h:de ms) (cap:bW) (hc:oC ms.length cap):XT 3 (bI ms)<|dL ms cap
 |tF (a:dE) (h:xd a) (bh:List Fr) (c:Nat) (hj:mw a bh c):XT 4 (eg a)<|gz a bh c
theorem Dl(l:List AV):(l.map mX).flatten=l:=by
 induction l with
 |nil=>rfl
 |cons x l ih=>rw[List.map_cons,List.flatten_cons,ih];rfl
theorem ac7(a:zt):∀c∈Bt a,c.cM=true:=fun c hc=>by
 rcases List.mem_append.1 hc with h|h
 ·simp only[List.mem_cons,List.not_mem_nil,or_false] at h;rcases h with rfl|rfl<;>rfl
 ·obtain⟨b,_,rfl⟩:=List.mem_map.1 h;rfl
theorem TE(a:zt)(h:a.has.length=32):(Bt a).length=34:=by unfold Bt;rw[List.length_append,List.length_map,h];rfl
theorem XJ(x:AV):(mX x).length=1:=rfl
theorem ac0{l:List AV}(hl:l.length<=top)(hc:l[i]? =some c):cellsOf (some<|aA mX l) i 1=some [c]:=by have:=mu XJ (l:=l) (i:=i) ab hc 0 1 rfl;rwa[Nat.mul_one,Nat.add_zero] at this
theorem ac8{l:List AV}(hl:l.length<=top)(hc:l[i]? =some c)(h1:c'.bQ=true):xr (some<|aA mX l) i [c']=some (aA mX<|l.set i c'):=by have:=ph XJ (l:=l) (i:=i) (c':=c') (r:=[c']) ab hc 0 rfl rfl (by rw[List.all_cons,h1];rfl);rwa[Nat.mul_one,Nat.add_zero] at this
theorem Ty{l:List AV}{z:Nat}(hl:l.length<=top)(hc:l[i+z]? =some c)(h1:c'.bQ=true):xr (some<|aA mX l) (i+z*1) [c']=some (aA mX<|l.set (i+z) c'):=by rw[Nat.mul_one];exact ac8 hl hc h1
theorem alj{a:zt}(h:VT a):(Bt a).length<=top:=by rw[TE a h.2.2];exact aM.1 aV
abbrev oH(k:Nat)(y:AV)(v:AV)(s:AS)(Y:AV):Prop:=Y=y/\∃L',XT k v L'/\∀m o,(m,o)∈L'->s.h.get m=some o
theorem alJ{k:Nat}{o:ae}(hx:XT k v [(270,o)])(e:Y=y)(nx:Nat):oH k y v (ah (ar++[(270,some o)]) nx) Y:=by
 refine⟨e,_,hx,fun m p hm=>?_⟩;simp only[List.mem_cons,List.not_mem_nil,or_false] at hm;injection hm with h1 h2
 subst h1;subst h2;kernel_rfl
abbrev alz(B:aJ)(g nt:Nat)(rs:List ResultVar)(k:Nat)(o:ae)(rest:List AV)(y v':AV):Prop:=au pg B 271 (iQ XT pg rs k y v') ⟨g,dt<|.ptr (some (270,0))::rest,nt,[.code<|aS pg g []],[],none⟩<|ah (ar++[(270,some o)]) 271
theorem ac9{l:List Lk}:∀c∈(l.map za).flatten,gy ns c:=fun c hc=>by obtain⟨x,hx,hc⟩:=List.mem_flatten.1 hc;obtain⟨k,_,rfl⟩:=List.mem_map.1 hx;simp only[za,List.mem_cons,List.not_mem_nil,or_false] at hc;rcases hc with rfl|rfl<;>exact gy.hi rfl
theorem aeS{l:List Int}:∀c∈(l.map encI).flatten,gy ns c:=fun c hc=>by obtain⟨x,hx,hc⟩:=List.mem_flatten.1 hc;obtain⟨k,_,rfl⟩:=List.mem_map.1 hx;simp only[encI,List.mem_cons,List.not_mem_nil,or_false] at hc;subst hc;exact gy.hi rfl
theorem yP{n:Nat}(h:n<1024):n<top:=by have:top=549755813888:=rfl;omega
theorem yj:ye XT 270:=by
 refine⟨fun k v L hx p hp=>?_,fun k v L hx=>?_⟩
 ·cases hx with
  |set a h=>
   simp only[List.mem_cons,List.not_mem_nil,or_false] at hp;subst hp;refine⟨Nat.le_refl _,aM.1 aV,.inl rfl,ln.row ?_ fun c hc=>?_⟩
   ·rw[Dl,TE a h.2.2];exact aM.1 aV
   ·rw[Dl] at hc;exact gy.hi<|ac7 a c hc
  |heap a h c1 c2=>
   simp only[FO,List.mem_cons,List.not_mem_nil,or_false] at hp;have h1:=h.1.2;have h2:=h.2.1.2;rcases hp with rfl|rfl|rfl
   ·refine⟨Nat.le_refl _,aM.1 aV,.inl rfl,ln.row ?_ fun c hc=>?_⟩
    ·rw[Dl];exact Nat.le_of_lt<|yP (by show 4<1024;omega)
    ·rw[Dl] at hc;simp only[O1,List.mem_cons,List.not_mem_nil,or_false] at hc;rcases hc with rfl|rfl|rfl|rfl
     ·exact gy.slice (by simp[FO])
     ·exact gy.hi rfl
     ·exact gy.hi rfl
     ·exact gy.slice (by simp[FO])
   ·refine⟨by show 270<=271;omega,yP (by show 271<1024;omega),.inl rfl,ln.row ?_ ac9⟩;rw[yB (K:=2) fun _=>rfl];exact Nat.le_of_lt<|yP ab
   ·refine⟨by show 270<=272;omega,yP (by show 272<1024;omega),.inl rfl,ln.row ?_ aeS⟩;rw[yB (K:=1) fun _=>rfl];exact Nat.le_of_lt<|yP ab
  |buf ms h cap hc=>exact aeQ h p hp
  |tF a h bh c hj=>exact ac6 h hj p hp
 ·cases hx with
  |set a h=>exact⟨_,List.mem_cons_self⟩
  |heap a h c1 c2=>exact⟨_,List.mem_cons_self⟩
  |buf ms h cap hc=>exact⟨_,List.mem_cons_self⟩
  |tF a h bh c hj=>exact⟨_,List.mem_cons_self⟩
theorem alK{a:zb}{nl:Nat}(c1 c2:bW)(h:I3 a)(hn:nl=a.vd.length)(hv:nv=a.vy.length)(e:Y=y)(ev:v=JJ a)(nx:Nat):
 oH 2 y v (ah (ar++[(270,some<|O2 nl nv c1 c2 a.bp a.xz),(271,some<|aA za a.vd),(272,some<|aA encI a.vy)]) nx) Y:=by
 subst hn;subst hv;subst ev;refine⟨e,_,.heap a h c1 c2,fun m p hm=>?_⟩;simp only[FO,List.mem_cons,List.not_mem_nil,or_false] at hm;rcases hm with hm|hm|hm<;>(injection hm with h1 h2;subst h1;subst h2;kernel_rfl)
abbrev alA(B:aJ)(g nt:Nat)(rs:List ResultVar)(a:zb)(c1 c2:bW)(rest:List AV)(y v':AV):Prop:=au pg B 271 (iQ XT pg rs 2 y v') ⟨g,dt<|.ptr (some (270,0))::rest,nt,[.code<|aS pg g []],[],none⟩<|ah (ar++[(270,some<|O2 a.vd.length a.vy.length c1 c2 a.bp a.xz),(271,some<|aA za a.vd),(272,some<|aA encI a.vy)]) 273
def WG(l:List Lk)(z:Int):Lk:=l.getD z.toNat default
theorem alB{l:List Lk}{z:Int}(h1:0<=z)(h2:z<((l.length:Nat):Int)):l[z.toNat]? =some (WG l z):=by
 have:z.toNat<l.length:=by omega
 unfold WG;rw[List.getD_eq_getElem?_getD,List.getElem?_eq_getElem this];rfl
def Gk(l:List Int)(z:Int):Int:=l.getD z.toNat 0
theorem af5{l:List Int}{z:Int}(h1:0<=z)(h2:z<((l.length:Nat):Int)):l[z.toNat]? =some (Gk l z):=by
 have:z.toNat<l.length:=by omega
 unfold Gk;rw[List.getD_eq_getElem?_getD,List.getElem?_eq_getElem this];rfl
theorem alg(x:Lk):(za x).length=2:=rfl
theorem aln{a:zb}(h:I3 a):a.vd.length*2<=top:=by have:=h.1.2;exact Nat.le_of_lt<|yP ab
theorem alo{a:zb}(h:I3 a):a.vy.length*1<=top:=by have:=h.2.1.2;exact Nat.le_of_lt<|yP ab
theorem alh{nl:Nat}{c1 c2:bW}{x y:Int}:(O1 nl nv c1 c2 x y).length<=top:=Nat.le_of_lt<|yP (by show 4<1024;omega)
abbrev aY(L:bO):Prop:=dR XT 270 pg<|sp L
abbrev Mt(L:bO)(B:aJ):Prop:=qx XT pg 270 dT dF L B
theorem ai{B:Prop}(a:A)(b:B):A/\B:=⟨a,b⟩
theorem oF(h:False):False:=h
theorem rX{α:Type}(x:α):x=x:=rfl
theorem mS(l:List<|Nat×AV):l.map (fun q=>some q.2)=l.map (fun q=>some q.2):=rfl
theorem mO(l:List<|Nat×Option ae):l.map (fun q=>q.2)=l.map (fun q=>q.2):=rfl
theorem wI(z:Int)(h: -9223372036854775808<=z/\z<=9223372036854775807:=by omega):AV.int .i64 (IntKind.wrap .i64 z)=AV.int .i64 z:=congrArg (AV.int .i64)<|Ab h
theorem ix2(z n:Int)(h1:0<=z)(h2:z<n)(x:A):0<=z/\z<n/\A:=⟨h1,h2,x⟩
theorem dS(z n:Int)(x:A)(h1:0<=z:=by omega)(h2:z<n:=by omega):0<=z/\z<n/\A:=⟨h1,h2,x⟩
abbrev i6(n:Int):AV:=.int .i64 n
abbrev u8(n:Int):AV:=.int .u8 n
abbrev i0:AV:=.int .i64<|.ofNat 0
section
variable {L:bO} {B:aJ} (mc:Mt L B) {f nt:Nat} {t:Tr AV} {K:List Item} {s:AS} {rs:List ResultVar} {R:AV->AS->Prop}
include mc
theorem wS(p:Pl)(x:T)(h:T=wp (en L) 900 6 (.fr f nt K t s) p rs (fun v s _=>R v s) (fun _ _ _=>False):=by as_aux_lemma=>kernel_rfl)(h0:Nat.ble 270 s.nx=true:=by as_aux_lemma=>kernel_rfl):au pg B 270 (Fin pg rs R) ⟨f,t,nt,K,[],none⟩ s:=lW (E:=en L) eQ rfl bH mc.2.2.1 mc.2.2.2 900 p x h h0
theorem Ed(p:Pl)(x:T)(h:T=wp (oV L) 900 6 (.fr f nt K t s) p rs (fun v s _=>R v s) (fun _ _ _=>False):=by as_aux_lemma=>kernel_rfl)(h0:Nat.ble 271 s.nx=true:=by as_aux_lemma=>kernel_rfl):au pg B 271 (Fin pg rs R) ⟨f,t,nt,K,[],none⟩ s:=lW (E:=oV L) eQ rfl bH mc.2.2.1 mc.2.2.2 900 p x h h0
theorem wC(hC:∀fr s p,C fr s p->au pg B 270 (Fin pg rs R) fr s)(p:Pl)(x:T)(h:T=wp (en L) 900 6 (.fr f nt K t s) p rs (fun v s _=>R v s) C:=by as_aux_lemma=>kernel_rfl)(h0:Nat.ble 270 s.nx=true:=by as_aux_lemma=>kernel_rfl):au pg B 270 (Fin pg rs R) ⟨f,t,nt,K,[],none⟩ s:=wp_cut (E:=en L) eQ rfl bH mc.2.2.1 mc.2.2.2 gS rfl mc.1 hC 900 p x h h0
theorem B4(hC:∀fr s p,C fr s p->au pg B 271 (Fin pg rs R) fr s)(p:Pl)(x:T)(h:T=wp (oV L) 900 6 (.fr f nt K t s) p rs (fun v s _=>R v s) C:=by as_aux_lemma=>kernel_rfl)(h0:Nat.ble 271 s.nx=true:=by as_aux_lemma=>kernel_rfl):au pg B 271 (Fin pg rs R) ⟨f,t,nt,K,[],none⟩ s:=wp_cut (E:=oV L) eQ rfl bH mc.2.2.1 mc.2.2.2 aaK rfl mc.1 hC 900 p x h h0
end
abbrev Sm(B:aJ)(f:Func)(v:AV)(fr:AF)(s:AS):Prop:=au pg B 270 (Fin pg f.results.toList fun y _=>y=v) fr s
theorem gO{L L':bO}{g:Nat}{fn:Func}{val:List AV->Option AV}(hP:bR pg)(h:aY L)(h':aY L')(cj:Tryz.prog.funcs[g]? =some fn)(eT:∀args v,val args=some v->max fn.ntmps args.length<=top/\∀B:aJ,Mt L' B->au pg B 270 (Fin pg fn.results.toList fun y _=>y=v) ⟨g,dt args,max fn.ntmps args.length,[.code<|aS pg g []],[],none⟩ ⟨dF,270,0,[],[]⟩)(cw:fn.body=some (aS pg g []):=by kernel_rfl)(hn:(fn.name == "runtime.NumGoroutine")=false:=by kernel_rfl):aY<|(g,.val val)::L:=acW hP gS qZ jQ ji h h' cj cw hn eT
end ch
end
section
open Go Go.Rn Go.RowKit Go.Proofs
namespace cQ
open ch cG
variable {x0:Int} {L k:Nat}
def sP(m op n:Int)(L:Nat)(x0 x1:Int):Prop:=1<=m/\((op=1/\L=0)\/(op=2/\L=0/\0<=n/\n<8)\/(op=3/\L=0/\0<=n/\n<6)\/(4<=op/\op<=8/\n=0/\L=2/\x0=1/\x1=1))
instance {m op n:Int} {L:Nat} {x0 x1:Int}:Decidable<|sP m op n L x0 x1:=by unfold sP;exact inferInstance
theorem wq1{m op n:Int}{x1:Int}(h:1<=m/\((op=1/\L=0)\/(op=2/\L=0/\0<=n/\n<8)\/(op=3/\L=0/\0<=n/\n<6)\/(4<=op/\op<=8/\n=0/\L=2/\x0=1/\x1=1))):AV.bool true= .bool (decide<|sP m op n L x0 x1):=by rw[decide_eq_true (show sP m op n L x0 x1 from h)]
theorem wq0{m op n:Int}{x1:Int}(h:¬(1<=m/\((op=1/\L=0)\/(op=2/\L=0/\0<=n/\n<8)\/(op=3/\L=0/\0<=n/\n<6)\/(4<=op/\op<=8/\n=0/\L=2/\x0=1/\x1=1)))):AV.bool false= .bool (decide<|sP m op n L x0 x1):=by rw[decide_eq_false (show ¬sP m op n L x0 x1 from h)]
def sQ(k:Nat)(args:List AV)(v:AV):Prop:=∃(e:Ex) (m:Int),args=[.agg<|aC e,.int .i64 m]/\(0<=m/\m<k)/\k<=50/\v= .bool (eL m.toNat e)
theorem sQ.bM(args:List AV)(v v':AV)(h:sQ k args v)(h':sQ k args v'):v=v':=by obtain⟨e,m,rfl,_,_,rfl⟩:=h;obtain⟨e',m',h1,_,_,rfl⟩:=h';simp only[List.cons.injEq,AV.agg.injEq,AV.int.injEq,true_and,_root_.and_true] at h1;rw[nk _ _ h1.1,h1.2]
noncomputable def kW(k:Nat):FuncId×KE:=(83,.val<|aP<|sQ k)
theorem ada{B:aJ}{N N0 L0 N1 L1:Nat}{op n m bN n0 cz n1 x1:Int}(mc:Mt [kW k] B)(hn:top<=N)(hm:0<=m/\m<100)(rR:L=2->cr FU N (0+(0:Int).toNat*3+0) 3=some [(u8<|bN),(i6 n0),(.U N0 0 L0)])(jj:L=2->1<=m->bf (aP<|sQ k) [(.agg [(u8<|bN),(i6 n0),(.U N0 0 L0)]),(i6<|(m - 1))]=some (.bool<|decide<|x0=1))(iV:L=2->cr FU N (0+(1:Int).toNat*3+0) 3=some [(u8<|cz),(i6 n1),(.U N1 0 L1)])(jE:L=2->1<=m->bf (aP<|sQ k) [(.agg [(u8<|cz),(i6 n1),(.U N1 0 L1)]),(i6<|(m - 1))]=some (.bool<|decide<|x1=1)):au pg B 270 (Fin pg (az Tryz.f83) fun y _=>y=(.bool<|decide<|sP m op n L x0 x1)) (sF 83 Tryz.f83 [(.agg [(u8<|op),(i6 n),(.U N 0 L)]),(i6 m)])<|ah ar 270:=by exact wS mc (.st 3<|.rg<|.go 3<|.fk (.go 1<|.en<|.st 3<|.rg<|.go 1<|.fk (.go 1<|.en<|.rt 4 .no)<|.go 1<|.en<|.st 2<|.rg<|.go 2<|.fk (.go 1<|.en<|.rt 4 .no)<|.go 1<|.en<|.st 2<|.rg<|.go 2<|.fk (.go 1<|.en<|.st 2<|.rg<|.go 4<|.fk (.go 4<|.fk (.go 2<|.en<|.rt 1 .no)<|.go 2<|.en<|.rt 1 .no)<|.go 7<|.en<|.rt 1 .no)<|.go 1<|.en<|.st 2<|.rg<|.go 2<|.fk (.go 1<|.en<|.st 2<|.rg<|.go 4<|.fk (.go 4<|.fk (.go 2<|.en<|.rt 1 .no)<|.go 2<|.en<|.rt 1 .no)<|.go 7<|.en<|.rt 1 .no)<|.go 1<|.en<|.st 2<|.rg<|.go 2<|.fk (.go 17<|.en<|.rt 4 .no)<|.go 3<|.fk (.go 13<|.en<|.rt 4 .no)<|.go 4<|.fk (.go 8<|.en<|.rt 4 .no)<|.go 5<|.fk (.go 2<|.en<|.rt 4 .no)<|.go 2<|.en<|.st 4<|.rg<|.go 2<|.eB<|.eC [(u8<|bN),(i6 n0),(.U N0 0 L0)]<|.go 1<|.vl (i6<|m - 1)<|.kp (x0=1) inferInstance (.go 3<|.eB<|.eC [(u8<|cz),(i6 n1),(.U N1 0 L1)]<|.go 1<|.vl (i6<|m - 1)<|.kp (x1=1) inferInstance (.go 2<|.en<|.rt 1 .no)<|.go 2<|.en<|.rt 1 .no)<|.go 10<|.en<|.rt 1 .no)<|.go 1<|.en<|.st 3<|.rg<|.go 1<|.fk (.go 1<|.en<|.rt 4 .no)<|.go 1<|.en<|.st 2<|.rg<|.go 2<|.fk (.go 1<|.en<|.rt 4 .no)<|.go 1<|.en<|.st 2<|.rg<|.go 2<|.fk (.go 1<|.en<|.rt 4 .no)<|.go 1<|.en<|.st 2<|.rg<|.go 2<|.fk (.go 1<|.en<|.rt 4 .no)<|.go 1<|.en<|.st 2<|.rg<|.go 2<|.fk (.go 17<|.en<|.rt 4 .no)<|.go 3<|.fk (.go 13<|.en<|.rt 4 .no)<|.go 4<|.fk (.go 8<|.en<|.rt 4 .no)<|.go 5<|.fk (.go 2<|.en<|.rt 4 .no)<|.go 2<|.en<|.st 4<|.rg<|.go 2<|.eB<|.eC [(u8<|bN),(i6 n0),(.U N0 0 L0)]<|.go 1<|.vl (i6<|m - 1)<|.kp (x0=1) inferInstance (.go 3<|.eB<|.eC [(u8<|cz),(i6 n1),(.U N1 0 L1)]<|.go 1<|.vl (i6<|m - 1)<|.kp (x1=1) inferInstance (.go 2<|.en<|.rt 1 .no)<|.go 2<|.en<|.rt 1 .no)<|.go 10<|.en<|.rt 1 .no)<|aR ((L:Int)=0) (fun _=>(aR (m<1) oU fun _=>(aR (op=1) J6 fun _=>(aR (op=2) (fun _=>(aR (n>=0) (fun _=>(aR (n<8) J6 oU)) oU)) fun _=>(aR (op=3) (fun _=>(aR (n>=0) (fun _=>(aR (n<6) J6 oU)) oU)) Wx))))) fun _=>(aR (m<1) oU fun _=>(aR (op=1) oU fun _=>(aR (op=2) oU fun _=>(aR (op=3) oU Wx))))
end cQ
end
section
open Go Go.Rn Go.RowKit Go.Proofs
namespace di
open ch cG cQ
theorem yH{l:List Ex}{i:Nat}{a:Ex}(h:l[i]? =some a){z:Int}(hz:z.toNat=i):cr FU (nm<|cH l) (0+z.toNat*3+0) 3=some (aC a):=by rw[Co,hz,Nat.zero_add,sL ky h 0 3 ab];rw[List.drop_zero,List.take_of_length_le (by rw[ky.len];omega)]
def bit(b:Bool):Int:=if b then 1 else 0
theorem wP(b:Bool):decide (bit b=1)=b:=by cases b<;>rfl
theorem abW{m op n:Int}{l:List Ex}(h0:0<=m):sP m op n l.length (bit<|eL (m - 1).toNat<|l.getD 0 default) (bit<|eL (m - 1).toNat<|l.getD 1 default)↔eL m.toNat (.mk op n l)=true:=by
 by_cases hm:m=0
 ·subst hm;unfold sP;show _↔false=true;constructor
  ·intro h;omega
  ·intro h;cases h
 ·obtain⟨k,hk⟩:∃k,m.toNat=k+1:=⟨m.toNat - 1,by omega⟩;rw[hk,show(m - 1).toNat=k by omega,LH];unfold sP;have b1:∀b:Bool,(bit b=1)↔b=true:=fun b=>by cases b<;>decide
  rw[b1,b1];have e1:l.isEmpty=true↔l.length=0:=by cases l<;>simp
  generalize eL k (l.getD 0 default)=x;generalize eL k (l.getD 1 default)=y;generalize l.isEmpty=q at e1;generalize l.length=L at e1;have x2:(x=true)\/(x=false):=by cases x<;>simp
  have y2:(y=true)\/(y=false):=by cases y<;>simp
  split
  ·rw[e1];omega
  split
  ·rw[Bool.and_eq_true,Bool.and_eq_true,e1,decide_eq_true_eq,decide_eq_true_eq];omega
  split
  ·rw[Bool.and_eq_true,Bool.and_eq_true,e1,decide_eq_true_eq,decide_eq_true_eq];omega
  split
  ·exact⟨fun h=>by omega,fun h=>by cases h⟩
  rw[Bool.and_eq_true,Bool.and_eq_true,decide_eq_true_eq];constructor
  ·intro h;rcases h.2 with h|h|h|h
   ·omega
   ·omega
   ·omega
   ·exact⟨⟨h.2.2.2.1,h.2.2.2.2.1⟩,h.2.2.2.2.2⟩
  ·intro h;exact⟨by omega,.inr<|.inr<|.inr ⟨by omega,by omega,by omega,h.1.1,h.1.2,h.2⟩⟩
theorem Bb(e:Ex):AV.hi (.agg<|aC e)=true:=by show(aC e).all AV.cM=true;exact List.all_eq_true.2 fun x hx=>Cy<|List.all_eq_true.1 (ky.gf e) x hx
theorem ZV(hP:bR pg){k:Nat}(h':aY [kW k]){L:bO}(h:aY L):aY<|kW (k+1)::L:=by
 refine gO hP h h' Tryz.func83 fun args v e=>?_;obtain⟨⟨op,n,l⟩,m,rfl,hm,hk,rfl⟩:=fV e;refine⟨aM.1 aV,fun B mc=>?_⟩;rw[←ib];obtain⟨bN,n0,l0,e0⟩:∃a b c,l.getD 0 default=Ex.mk a b c:=by cases l.getD 0 default;exact⟨_,_,_,rfl⟩
 obtain⟨cz,n1,l1,e1⟩:∃a b c,l.getD 1 default=Ex.mk a b c:=by cases l.getD 1 default;exact⟨_,_,_,rfl⟩
 have c:∀x:Ex,1<=m->bf (aP<|sQ k) [.agg<|aC x,.int .i64<|m - 1]=some (.bool<|decide<|bit (eL (m - 1).toNat x)=1):=fun x h1=>by rw[wP];refine eP (eK sQ.bM ⟨x,m - 1,rfl,by omega,by omega,rfl⟩) ?_ rfl;rw[List.all_cons,Bb];rfl
 have key:=ada (L:=l.length) (N:=nm<|cH l) (op:=op) (n:=n) (m:=m) (k:=k) mc (cF _) ab
  (x0:=bit<|eL (m - 1).toNat<|l.getD 0 default) (x1:=bit<|eL (m - 1).toNat<|l.getD 1 default)
  (N0:=nm<|cH l0) (L0:=l0.length) (bN:=bN) (n0:=n0) (N1:=nm<|cH l1) (L1:=l1.length) (cz:=cz) (n1:=n1)
  (fun _=>by have:=yH (l:=l) (i:=0) (a:=l.getD 0 default) (by rw[List.getD_eq_getElem?_getD,List.getElem?_eq_getElem (show 0<l.length by omega)];rfl) (z:=0) rfl;rw[e0,aC] at this;exact this)
  (fun h2 h1=>by have:=c (l.getD 0 default) h1;rw[e0,aC, ←e0] at this;exact this)
  (fun _=>by have:=yH (l:=l) (i:=1) (a:=l.getD 1 default) (by rw[List.getD_eq_getElem?_getD,List.getElem?_eq_getElem (show 1<l.length by omega)];rfl) (z:=1) rfl;rw[e1,aC] at this;exact this)
  (fun h2 h1=>by have:=c (l.getD 1 default) h1;rw[e1,aC, ←e1] at this;exact this)
 rw[show decide (sP m op n l.length _ _)=eL m.toNat (.mk op n l) from by rw[Bool.eq_iff_iff,decide_eq_true_eq];exact abW hm.1] at key;rw[aC];exact key
theorem SU(hP:bR pg):∀k,aY [kW k]
 |0=>by refine gO hP dc dc Tryz.func83 fun args v e=>?_;obtain⟨_,m,_,hm,_⟩:=fV e;omega
 |k+1=>ZV hP (SU hP k) dc
end di
end
section
open Go Go.Rn Go.RowKit Go.Proofs
namespace fW
open ch cG cQ di
variable {x:Int} {B:aJ} {N L:Nat}
def tH(x m:Int):AV:=if m<1 then .tuple [.int .i64 0,.int .i64 1] else if Int.tmod x m<0 then .tuple [.int .i64<|Int.tmod x m+m,.int .i64 0] else .tuple [.int .i64<|Int.tmod x m,.int .i64 0]
theorem adb{m:Int}(h:1<=m): - m<Int.tmod x m/\Int.tmod x m<m:=by have h1:=Int.tmod_lt_of_pos x (show 0<m by omega);have h2:=Int.lt_tmod_of_pos x (show 0<m by omega);exact⟨h2,h1⟩
theorem ade{op n:Int}(mc:Mt [kW 7] B)(hc:bf (aP<|sQ 7) [(.agg [(u8<|op),(i6 n),(.U N 0 L)]),.int .i64 6]=some (.bool<|decide<|x=1)):au pg B 270 (Fin pg (az Tryz.f73) fun y _=>y=(.bool<|decide<|x=1)) (sF 73 Tryz.f73 [(.agg [(u8<|op),(i6 n),(.U N 0 L)])])<|ah ar 270:=by exact wS mc (.st 3<|.rg<|.go 1<|.kp (x=1) inferInstance (.go 1<|.en<|.rt 1 .no)<|.go 1<|.en<|.rt 1 .no)<|ai hc<|aR (x=1) (fun _=>(show AV.bool true= .bool (decide<|x=1) from by rw[decide_eq_true ab])) fun _=>(show AV.bool false= .bool (decide<|x=1) from by rw[decide_eq_false ab])
theorem ahM{o:Nat}{z u:Int}(mc:Mt [] B)(hn:top<=N)(hz:0<=z)(hy:z<(L:Int)->cr FU N (o+z.toNat*1+0) 1=some [.int .i64 u]):au pg B 270 (Fin pg (az Tryz.f84) fun y _=>y=(if z>=(L:Int) then .tuple [.int .i64 0,.int .i64 5] else .tuple [.int .i64 u,.int .i64 0])) (sF 84 Tryz.f84 [(.U N o L),(i6 z)])<|ah ar 270:=by exact wS mc (.st 4<|.rg<|.go 3<|.fk (.en<|.rt 4 .no)<|.en<|.st 3<|.rg<|.go 2<|.eB<|.eC [(i6 u)]<|.go 2<|.en<|.rt 1 .no)<|aR (z>=(L:Int)) (fun _=>(show AV.tuple [i0,(i6<|.ofNat 5)]=(if z>=(L:Int) then .tuple [.int .i64 0,.int .i64 5] else .tuple [.int .i64 u,.int .i64 0]) from by rw[if_pos ab];rfl)) fun _=>(dS z (L:Int)<|ai hn<|ai (hy ab) (show AV.tuple [(i6 u),i0]=(if z>=(L:Int) then .tuple [.int .i64 0,.int .i64 5] else .tuple [.int .i64 u,.int .i64 0]) from by rw[if_neg ab];rfl))
theorem af6{m:Int}(mc:Mt [] B)(hm:m<=1099511627776)(ht:1<=m-> - m<Int.tmod x m):au pg B 270 (Fin pg (az Tryz.f54) fun y _=>y=(tH x m)) (sF 54 Tryz.f54 [(i6 x),(i6 m)])<|ah ar 270:=by exact wS mc (.st 4<|.rg<|.go 1<|.fk (.en<|.rt 4 .no)<|.en<|.st 3<|.rg<|.go 2<|.rm<|.go 1<|.en<|.st 2<|.rg<|.go 1<|.fk (.en<|.st 1<|.rg<|.go 2<|.vl (i6<|(Int.tmod x m)+m)<|.go 1<|.en<|.rt 3 .no)<|.en<|.rt 5 .no)<|aR (m<1) (fun _=>(show AV.tuple [i0,(i6<|.ofNat 1)]=tH x m from by unfold tH;repeat' split<;>first|rfl|omega|(exfalso;omega))) fun _=>(ai (show m≠0 from by omega)<|aR ((Int.tmod x m)<0) (fun _=>(ai (wI<|(Int.tmod x m)+m) (show AV.tuple [(i6<|((Int.tmod x m)+m)),i0]=tH x m from by unfold tH;repeat' split<;>first|rfl|omega|(exfalso;omega)))) fun _=>(show AV.tuple [(i6<|(Int.tmod x m)),i0]=tH x m from by unfold tH;repeat' split<;>first|rfl|omega|(exfalso;omega)))
end fW
end
section
open Go Go.Rn Go.RowKit Go.Proofs
namespace fD
open ch cG cQ di fW
variable {L:bO}
noncomputable section
def vA(args:List AV)(v:AV):Prop:=∃e:Ex,args=[.agg<|aC e]/\v= .bool (eL 6 e)
theorem vA.bM(args:List AV)(v v':AV)(h:vA args v)(h':vA args v'):v=v':=by obtain⟨e,rfl,rfl⟩:=h;obtain⟨e',h1,rfl⟩:=h';simp only[List.cons.injEq,AV.agg.injEq,_root_.and_true] at h1;rw[nk _ _ h1]
def PM:FuncId×KE:=(73,.val<|aP vA)
theorem Ut(hP:bR pg)(h:aY L):aY<|PM::L:=by refine gO hP h (SU hP 7) Tryz.func73 fun args v e=>?_;obtain⟨⟨op,n,l⟩,rfl,rfl⟩:=fV e;refine⟨aM.1 aV,fun B mc=>?_⟩;rw[←ib];have key:=ade (L:=l.length) (N:=nm<|cH l) (op:=op) (n:=n) (x:=bit<|eL 6<|.mk op n l) mc (by rw[wP];have:=eP (eK sQ.bM ⟨.mk op n l,6,rfl,by omega,by omega,rfl⟩:aP (sQ 7) [.agg<|aC<|.mk op n l,.int .i64 6]=_) rA rfl;rw[aC] at this;exact this);rw[wP] at key;rw[aC];exact key
def rS(l:List Int)(z:Int):Int×Int:=if z>=(l.length:Int) then(0,5) else(Gk l z,0)
def DI(p:Int×Int):AV:=.tuple [.int .i64 p.1,.int .i64 p.2]
def AtR(args:List AV)(v:AV):Prop:=∃(N o L:Nat) (l:List Int) (z:Int),args=[.U N o L,.int .i64 z]/\dm encI 1 (.U N o L) l/\0<=z/\v=DI (rS l z)
theorem AtR.bM(args:List AV)(v v':AV)(h:AtR args v)(h':AtR args v'):v=v':=by obtain⟨N,o,L,l,z,rfl,hl,_,rfl⟩:=h;obtain⟨N',o',L',l',z',h1,kQ,_,rfl⟩:=h';simp only[List.cons.injEq,AV.U.injEq,AV.int.injEq,true_and,_root_.and_true] at h1;obtain⟨⟨rfl,rfl,rfl⟩,rfl⟩:=h1;rw[dm.inj qT hl kQ]
def zR:FuncId×KE:=(84,.val<|aP AtR)
theorem aeT(hP:bR pg)(h:aY L):aY<|zR::L:=by
 refine gO hP h dc Tryz.func84 fun args v e=>?_;obtain⟨N,o,len,l,z,rfl,hl,hz,rfl⟩:=fV e;refine⟨aM.1 aV,fun B mc=>?_⟩;rw[←ib];obtain⟨h1,h2,h3⟩:=hl.len;subst h1;have key:=ahM (u:=Gk l z) mc h2 hz (fun bZ=>by have:=h3 z.toNat (Gk l z)<|af5 hz ab;exact this);unfold DI rS;split at key<;>rename_i q
 ·rw[if_pos q];exact key
 ·rw[if_neg q];exact key
def Bu(args:List AV)(v:AV):Prop:=∃(x m:Int),args=[.int .i64 x,.int .i64 m]/\m<=1099511627776/\v=tH x m
theorem Bu.bM(args:List AV)(v v':AV)(h:Bu args v)(h':Bu args v'):v=v':=by obtain⟨x,m,rfl,_,rfl⟩:=h;obtain⟨x',m',h1,_,rfl⟩:=h';simp only[List.cons.injEq,AV.int.injEq,true_and,_root_.and_true] at h1;rw[h1.1,h1.2]
def J9:FuncId×KE:=(54,.val<|aP Bu)
theorem adf(hP:bR pg)(h:aY L):aY<|J9::L:=by refine gO hP h dc Tryz.func54 fun args v e=>?_;obtain⟨x,m,rfl,hm,rfl⟩:=fV e;refine⟨aM.1 aV,fun B mc=>?_⟩;rw[←ib];exact af6 mc hm fun h=>(adb h).1
end
end fD
end
section
open Go Go.Rn Go.RowKit Go.Proofs
namespace gH
open ch cG cQ di fW fD
variable {k q p lm lg N1 N0 N L1 L0 L G:Nat} {x0 bN n1 n0 f1 f0:Int} {B:aJ}
def nS(op a b:Int):Int:=if op=4 then IntKind.wrap .i64 (a+b) else if op=5 then IntKind.wrap .i64 (a - b) else if op=6 then IntKind.wrap .i64 (a*b) else if op=7 then(if a<b then 1 else 0) else if a=b then 1 else 0
def lp(op n x0 f0 x1 f1:Int):Int×Int:=if op=1 then(n,0) else if op=2 then(x0,f0) else if op=3 then(x0,f0) else if f0≠0 then(0,f0) else if f1≠0 then(0,f1) else(nS op x0 x1,0)
def gK(op n x0 f0 x1 f1:Int):AV:=DI<|lp op n x0 f0 x1 f1
def lq:Nat->Ex->List Int->List Int->Int×Int
 |0,_,_,_=>(0,0)
 |k+1,.mk op n args,lo,aD=>
  if op=2 then lp op n (rS lo n).1 (rS lo n).2 0 0 else if op=3 then lp op n (rS aD n).1 (rS aD n).2 0 0
  else lp op n (lq k (args.getD 0 default) lo aD).1 (lq k (args.getD 0 default) lo aD).2 (lq k (args.getD 1 default) lo aD).1 (lq k (args.getD 1 default) lo aD).2
theorem ZW{op n:Int}{args:List Ex}{lo aD:List Int}:lq (k+1) (.mk op n args) lo aD=if op=2 then lp op n (rS lo n).1 (rS lo n).2 0 0 else if op=3 then lp op n (rS aD n).1 (rS aD n).2 0 0 else lp op n (lq k (args.getD 0 default) lo aD).1 (lq k (args.getD 0 default) lo aD).2 (lq k (args.getD 1 default) lo aD).1 (lq k (args.getD 1 default) lo aD).2:=rfl
def qh(k:Nat)(args:List AV)(v:AV):Prop:=∃(e:Ex) (M p lm G q lg:Nat) (lo aD:List Int),args=[.agg<|aC e,.U M p lm,.U G q lg]/\dm encI 1 (.U M p lm) lo/\dm encI 1 (.U G q lg) aD/\eL k e=true/\v=DI (lq k e lo aD)
theorem qh.bM(args:List AV)(v v':AV)(h:qh k args v)(h':qh k args v'):v=v':=by obtain⟨e,M,p,lm,G,q,lg,lo,aD,rfl,a1,a2,_,rfl⟩:=h;obtain⟨e',M',p',lm',G',q',lg',nQ,Ka,h1,b1,b2,_,rfl⟩:=h';simp only[List.cons.injEq,AV.agg.injEq,AV.U.injEq,_root_.and_true] at h1;obtain⟨h0,⟨rfl,rfl,rfl⟩,rfl,rfl,rfl⟩:=h1;rw[nk _ _ h0,dm.inj qT a1 b1,dm.inj qT a2 b2]
noncomputable def kC(k:Nat):FuncId×KE:=(74,.val<|aP<|qh k)
theorem adg{M N0 L0 N1 L1:Nat}{n bN n0 cz n1 x1:Int}(mc:Mt [kC k,zR] B):au pg B 270 (Fin pg (az Tryz.f74) fun y _=>y=(gK 1 n x0 f0 x1 f1)) (sF 74 Tryz.f74 [(.agg [(u8<|.ofNat 1),(i6 n),(.U N 0 L)]),(.U M p lm),(.U G q lg)])<|ah ar 270:=by exact wS mc (.rt 12 .no) (show AV.tuple [(i6 n),i0]=gK 1 n x0 f0 x1 f1 from by(unfold gK lp nS;repeat' split)<;>first|rfl|(exfalso;omega))
theorem adh{M N0 L0 N1 L1:Nat}{n bN n0 cz n1 x1:Int}(mc:Mt [kC k,zR] B)(hc:bf (aP AtR) [(.U M p lm),.int .i64 n]=some (.tuple [.int .i64 x0,.int .i64 f0])):au pg B 270 (Fin pg (az Tryz.f74) fun y _=>y=(gK 2 n x0 f0 x1 f1)) (sF 74 Tryz.f74 [(.agg [(u8<|.ofNat 2),(i6 n),(.U N 0 L)]),(.U M p lm),(.U G q lg)])<|ah ar 270:=by exact wS mc (.st 13<|.rg<|.go 3<|.kn (.tuple [(i6 x0),(i6 f0)])<|.go 4<|.en<|.rt 1 .no)<|ai hc (show AV.tuple [(i6 x0),(i6 f0)]=gK 2 n x0 f0 x1 f1 from by(unfold gK lp nS;repeat' split)<;>first|rfl|(exfalso;omega))
theorem adi{M N0 L0 N1 L1:Nat}{n bN n0 cz n1 x1:Int}(mc:Mt [kC k,zR] B)(hc:bf (aP AtR) [(.U G q lg),.int .i64 n]=some (.tuple [.int .i64 x0,.int .i64 f0])):au pg B 270 (Fin pg (az Tryz.f74) fun y _=>y=(gK 3 n x0 f0 x1 f1)) (sF 74 Tryz.f74 [(.agg [(u8<|.ofNat 3),(i6 n),(.U N 0 L)]),(.U M p lm),(.U G q lg)])<|ah ar 270:=by exact wS mc (.st 16<|.rg<|.go 3<|.kn (.tuple [(i6 x0),(i6 f0)])<|.go 4<|.en<|.rt 1 .no)<|ai hc (show AV.tuple [(i6 x0),(i6 f0)]=gK 3 n x0 f0 x1 f1 from by(unfold gK lp nS;repeat' split)<;>first|rfl|(exfalso;omega))
theorem NG{ka:Int}(hk:ka=4\/ka=5\/ka=6){L M:Nat}{n cz x1:Int}(mc:Mt [kC k,zR] B)(hn:top<=N)(rR:cr FU N (0+(0:Int).toNat*3+0) 3=some [(u8<|bN),(i6 n0),(.U N0 0 L0)])(jj:bf (aP<|qh k) [(.agg [(u8<|bN),(i6 n0),(.U N0 0 L0)]),(.U M p lm),(.U G q lg)]=some (.tuple [.int .i64 x0,.int .i64 f0]))(iV:cr FU N (0+(1:Int).toNat*3+0) 3=some [(u8<|cz),(i6 n1),(.U N1 0 L1)])(jE:bf (aP<|qh k) [(.agg [(u8<|cz),(i6 n1),(.U N1 0 L1)]),(.U M p lm),(.U G q lg)]=some (.tuple [.int .i64 x1,.int .i64 f1])):au pg B 270 (Fin pg (az Tryz.f74) fun y _=>y=(gK ka n x0 f0 x1 f1)) (sF 74 Tryz.f74 [(.agg [(.int .u8 ka),(i6 n),(.U N 0 2)]),(.U M p lm),(.U G q lg)])<|ah ar 270:=by
 have TT:=(dS (0:Int) 2<|ai hn<|ai rR<|ai jj<|aR (f0≠0) (fun _=>(show AV.tuple [i0,(i6 f0)]=gK ka n x0 f0 x1 f1 from by rcases hk with rfl|rfl|rfl<;>(unfold gK lp nS;repeat' split)<;>first|rfl|(exfalso;omega))) fun _=>(dS (1:Int) 2<|ai hn<|ai iV<|ai jE<|aR (f1≠0) (fun _=>(show AV.tuple [i0,(i6 f1)]=gK ka n x0 f0 x1 f1 from by rcases hk with rfl|rfl|rfl<;>(unfold gK lp nS;repeat' split)<;>first|rfl|(exfalso;omega))) fun _=>(show AV.tuple [(i6<|nS ka x0 x1),i0]=gK ka n x0 f0 x1 f1 from by rcases hk with rfl|rfl|rfl<;>(unfold gK lp nS;repeat' split)<;>first|rfl|(exfalso;omega))));rcases hk with rfl|rfl|rfl
 all_goals exact wS mc (.st 32<|.rg<|.go 1<|.eB<|.eC [(u8<|bN),(i6 n0),(.U N0 0 L0)]<|.go 3<|.en<|.st 1<|.rg<|.go 3<|.kn (.tuple [(i6 x0),(i6 f0)])<|.go 5<|.en<|.st 2<|.rg<|.go 1<|.fk (.en<|.rt 4 .no)<|.en<|.st 14<|.rg<|.go 1<|.eB<|.eC [(u8<|cz),(i6 n1),(.U N1 0 L1)]<|.go 3<|.en<|.st 1<|.rg<|.go 3<|.kn (.tuple [(i6 x1),(i6 f1)])<|.go 5<|.en<|.st 2<|.rg<|.go 1<|.fk (.en<|.rt 4 .no)<|.en<|.st 12<|.rg<|.go 8<|.il<|.st 3<|.rg<|.go 2<|.go 1<|.go 1<|.en<|.rt 1<|.go 2<|.en<|.rt 1 .no) TT
theorem adj{L M:Nat}{n cz x1:Int}(mc:Mt [kC k,zR] B)(hn:top<=N)(rR:cr FU N (0+(0:Int).toNat*3+0) 3=some [(u8<|bN),(i6 n0),(.U N0 0 L0)])(jj:bf (aP<|qh k) [(.agg [(u8<|bN),(i6 n0),(.U N0 0 L0)]),(.U M p lm),(.U G q lg)]=some (.tuple [.int .i64 x0,.int .i64 f0]))(iV:cr FU N (0+(1:Int).toNat*3+0) 3=some [(u8<|cz),(i6 n1),(.U N1 0 L1)])(jE:bf (aP<|qh k) [(.agg [(u8<|cz),(i6 n1),(.U N1 0 L1)]),(.U M p lm),(.U G q lg)]=some (.tuple [.int .i64 x1,.int .i64 f1])):au pg B 270 (Fin pg (az Tryz.f74) fun y _=>y=(gK 7 n x0 f0 x1 f1)) (sF 74 Tryz.f74 [(.agg [(u8<|.ofNat 7),(i6 n),(.U N 0 2)]),(.U M p lm),(.U G q lg)])<|ah ar 270:=by exact wS mc (.st 32<|.rg<|.go 1<|.eB<|.eC [(u8<|bN),(i6 n0),(.U N0 0 L0)]<|.go 3<|.en<|.st 1<|.rg<|.go 3<|.kn (.tuple [(i6 x0),(i6 f0)])<|.go 5<|.en<|.st 2<|.rg<|.go 1<|.fk (.en<|.rt 4 .no)<|.en<|.st 14<|.rg<|.go 1<|.eB<|.eC [(u8<|cz),(i6 n1),(.U N1 0 L1)]<|.go 3<|.en<|.st 1<|.rg<|.go 3<|.kn (.tuple [(i6 x1),(i6 f1)])<|.go 5<|.en<|.st 2<|.rg<|.go 1<|.fk (.en<|.rt 4 .no)<|.en<|.st 12<|.rg<|.go 8<|.il<|.st 3<|.rg<|.go 2<|.fk (.il<|.rt 9<|.go 1<|.en<|.rt 1<|.go 2<|.en<|.rt 1 .no)<|.il<|.rt 10<|.go 1<|.en<|.rt 1<|.go 2<|.en<|.rt 1 .no)<|dS (0:Int) 2<|ai hn<|ai rR<|ai jj<|aR (f0≠0) (fun _=>(show AV.tuple [i0,(i6 f0)]=gK 7 n x0 f0 x1 f1 from by(unfold gK lp nS;repeat' split)<;>first|rfl|(exfalso;omega))) fun _=>(dS (1:Int) 2<|ai hn<|ai iV<|ai jE<|aR (f1≠0) (fun _=>(show AV.tuple [i0,(i6 f1)]=gK 7 n x0 f0 x1 f1 from by(unfold gK lp nS;repeat' split)<;>first|rfl|(exfalso;omega))) fun _=>(aR (x0<x1) (fun _=>(show AV.tuple [(i6<|.ofNat 1),i0]=gK 7 n x0 f0 x1 f1 from by(unfold gK lp nS;repeat' split)<;>first|rfl|(exfalso;omega))) fun _=>(show AV.tuple [i0,i0]=gK 7 n x0 f0 x1 f1 from by(unfold gK lp nS;repeat' split)<;>first|rfl|(exfalso;omega))))
theorem adk{L M:Nat}{n cz x1:Int}(mc:Mt [kC k,zR] B)(hn:top<=N)(rR:cr FU N (0+(0:Int).toNat*3+0) 3=some [(u8<|bN),(i6 n0),(.U N0 0 L0)])(jj:bf (aP<|qh k) [(.agg [(u8<|bN),(i6 n0),(.U N0 0 L0)]),(.U M p lm),(.U G q lg)]=some (.tuple [.int .i64 x0,.int .i64 f0]))(iV:cr FU N (0+(1:Int).toNat*3+0) 3=some [(u8<|cz),(i6 n1),(.U N1 0 L1)])(jE:bf (aP<|qh k) [(.agg [(u8<|cz),(i6 n1),(.U N1 0 L1)]),(.U M p lm),(.U G q lg)]=some (.tuple [.int .i64 x1,.int .i64 f1])):au pg B 270 (Fin pg (az Tryz.f74) fun y _=>y=(gK 8 n x0 f0 x1 f1)) (sF 74 Tryz.f74 [(.agg [(u8<|.ofNat 8),(i6 n),(.U N 0 2)]),(.U M p lm),(.U G q lg)])<|ah ar 270:=by exact wS mc (.st 32<|.rg<|.go 1<|.eB<|.eC [(u8<|bN),(i6 n0),(.U N0 0 L0)]<|.go 3<|.en<|.st 1<|.rg<|.go 3<|.kn (.tuple [(i6 x0),(i6 f0)])<|.go 5<|.en<|.st 2<|.rg<|.go 1<|.fk (.en<|.rt 4 .no)<|.en<|.st 14<|.rg<|.go 1<|.eB<|.eC [(u8<|cz),(i6 n1),(.U N1 0 L1)]<|.go 3<|.en<|.st 1<|.rg<|.go 3<|.kn (.tuple [(i6 x1),(i6 f1)])<|.go 5<|.en<|.st 2<|.rg<|.go 1<|.fk (.en<|.rt 4 .no)<|.en<|.st 12<|.rg<|.go 8<|.il<|.st 3<|.rg<|.go 2<|.fk (.il<|.rt 9<|.go 1<|.en<|.rt 1<|.go 2<|.en<|.rt 1 .no)<|.il<|.rt 10<|.go 1<|.en<|.rt 1<|.go 2<|.en<|.rt 1 .no)<|dS (0:Int) 2<|ai hn<|ai rR<|ai jj<|aR (f0≠0) (fun _=>(show AV.tuple [i0,(i6 f0)]=gK 8 n x0 f0 x1 f1 from by(unfold gK lp nS;repeat' split)<;>first|rfl|(exfalso;omega))) fun _=>(dS (1:Int) 2<|ai hn<|ai iV<|ai jE<|aR (f1≠0) (fun _=>(show AV.tuple [i0,(i6 f1)]=gK 8 n x0 f0 x1 f1 from by(unfold gK lp nS;repeat' split)<;>first|rfl|(exfalso;omega))) fun _=>(aR (x0=x1) (fun _=>(show AV.tuple [(i6<|.ofNat 1),i0]=gK 8 n x0 f0 x1 f1 from by(unfold gK lp nS;repeat' split)<;>first|rfl|(exfalso;omega))) fun _=>(show AV.tuple [i0,i0]=gK 8 n x0 f0 x1 f1 from by(unfold gK lp nS;repeat' split)<;>first|rfl|(exfalso;omega))))
end gH
end
section
open Go Go.Rn Go.RowKit Go.Proofs
namespace gP
open ch cG cQ di fW fD gH
variable {k:Nat}
theorem Zl{op n:Int}{l:List Ex}(h:eL (k+1) (.mk op n l)=true):(op=1\/(op=2/\0<=n)\/(op=3/\0<=n))\/((op=4\/op=5\/op=6\/op=7\/op=8)/\l.length=2/\eL k (l.getD 0 default)=true/\eL k (l.getD 1 default)=true):=by
 rw[LH] at h;split at h
 ·omega
 split at h
 ·rw[Bool.and_eq_true,Bool.and_eq_true,decide_eq_true_eq] at h;omega
 split at h
 ·rw[Bool.and_eq_true,Bool.and_eq_true,decide_eq_true_eq] at h;omega
 split at h
 ·cases h
 rw[Bool.and_eq_true,Bool.and_eq_true,decide_eq_true_eq] at h;exact .inr ⟨by omega,h.1.1,h.1.2,h.2⟩
theorem VU{N o L:Nat}{l:List Int}{z:Int}(h:dm encI 1 (.U N o L) l)(hz:0<=z):bf (aP AtR) [.U N o L,.int .i64 z]=some (.tuple [.int .i64 (rS l z).1,.int .i64 (rS l z).2]):=eP (eK AtR.bM ⟨N,o,L,l,z,rfl,h,hz,rfl⟩) (by rw[List.all_cons,h.hi];rfl) rfl
theorem NH{e:Ex}{M p lm G q lg:Nat}{lo aD:List Int}(h1:dm encI 1 (.U M p lm) lo)(h2:dm encI 1 (.U G q lg) aD)(hw:eL k e=true):
 bf (aP<|qh k) [.agg<|aC e,.U M p lm,.U G q lg]=some (.tuple [.int .i64 (lq k e lo aD).1,.int .i64 (lq k e lo aD).2]):=
 eP (eK qh.bM ⟨e,M,p,lm,G,q,lg,lo,aD,rfl,h1,h2,hw,rfl⟩) (by rw[List.all_cons,List.all_cons,List.all_cons,Bb,h1.hi,h2.hi];rfl) rfl
theorem aaL(hP:bR pg)(h':aY [kC k,zR]){L:bO}(h:aY L):aY<|kC (k+1)::L:=by
 refine gO hP h h' Tryz.func74 fun args v e=>?_;obtain⟨⟨op,n,l⟩,M,p,lm,G,q,lg,lo,aD,rfl,i1,i2,hw,rfl⟩:=fV e;refine⟨aM.1 aV,fun B mc=>?_⟩;rw[←ib,ZW,aC];rcases Zl hw with(rfl|⟨rfl,hn⟩|⟨rfl,hn⟩)|⟨ho,h2,w0,w1⟩
 ·exact adg (N0:=0) (L0:=0) (N1:=0) (L1:=0) (bN:=0) (n0:=0) (cz:=0) (n1:=0) (x0:=(lq k (l.getD 0 default) lo aD).1) (f0:=(lq k (l.getD 0 default) lo aD).2) (x1:=(lq k (l.getD 1 default) lo aD).1) (f1:=(lq k (l.getD 1 default) lo aD).2) mc
 ·exact adh (N0:=0) (L0:=0) (N1:=0) (L1:=0) (bN:=0) (n0:=0) (cz:=0) (n1:=0) (x1:=0) (f1:=0) mc<|VU i1 hn
 ·exact adi (N0:=0) (L0:=0) (N1:=0) (L1:=0) (bN:=0) (n0:=0) (cz:=0) (n1:=0) (x1:=0) (f1:=0) mc<|VU i2 hn
 obtain⟨bN,n0,l0,e0⟩:∃a b c,l.getD 0 default=Ex.mk a b c:=by cases l.getD 0 default;exact⟨_,_,_,rfl⟩
 obtain⟨cz,n1,l1,e1⟩:∃a b c,l.getD 1 default=Ex.mk a b c:=by cases l.getD 1 default;exact⟨_,_,_,rfl⟩
 have t0:=yH (l:=l) (i:=0) (a:=l.getD 0 default) (by rw[List.getD_eq_getElem?_getD,List.getElem?_eq_getElem (show 0<l.length by omega)];rfl) (z:=0) rfl;have t1:=yH (l:=l) (i:=1) (a:=l.getD 1 default) (by rw[List.getD_eq_getElem?_getD,List.getElem?_eq_getElem (show 1<l.length by omega)];rfl) (z:=1) rfl;have c0:=NH i1 i2 w0;have c1:=NH i1 i2 w1;rw[if_neg ab,if_neg ab,h2];generalize rR:lq k (l.getD 0 default) lo aD=y0 at c0;generalize iV:lq k (l.getD 1 default) lo aD=y1 at c1;rw[e0,aC] at t0 c0;rw[e1,aC] at t1 c1;rcases ho with rfl|rfl|rfl|rfl|rfl
 ·exact NG (.inl rfl) (L:=0) mc (cF _) t0 c0 t1 c1
 ·exact NG (.inr<|.inl rfl) (L:=0) mc (cF _) t0 c0 t1 c1
 ·exact NG (.inr<|.inr rfl) (L:=0) mc (cF _) t0 c0 t1 c1
 ·exact adj (L:=0) mc (cF _) t0 c0 t1 c1
 ·exact adk (L:=0) mc (cF _) t0 c0 t1 c1
theorem TF(hP:bR pg):∀(k:Nat) {L:bO},aY L->aY (kC k::L)
 |0,L,h=>by refine gO hP h dc Tryz.func74 fun args v e=>?_;obtain⟨_,_,_,_,_,_,_,_,_,_,_,_,hw,_⟩:=fV e;cases hw
 |k+1,L,h=>aaL hP (TF hP k<|aeT hP dc) h
end gP
end
section
open Go Go.Rn Go.RowKit Go.Proofs
namespace gV
open ch cG cQ di fW fD gH gP
theorem N8{e:Ex}:bf (aP vA) [.agg<|aC e]=some (.bool<|eL 6 e):=eP (eK vA.bM ⟨e,rfl,rfl⟩) rA rfl
def zc(e:Ex)(lo aD:List Int):Int×Int:=if eL 6 e=true then lq 6 e lo aD else(0,4)
def zd(args:List AV)(v:AV):Prop:=∃(e:Ex) (M p lm G q lg:Nat) (lo aD:List Int),args=[.agg<|aC e,.U M p lm,.U G q lg]/\dm encI 1 (.U M p lm) lo/\dm encI 1 (.U G q lg) aD/\v=DI (zc e lo aD)
theorem zd.bM(args:List AV)(v v':AV)(h:zd args v)(h':zd args v'):v=v':=by obtain⟨e,M,p,lm,G,q,lg,lo,aD,rfl,a1,a2,rfl⟩:=h;obtain⟨e',M',p',lm',G',q',lg',nQ,Ka,h1,b1,b2,rfl⟩:=h';simp only[List.cons.injEq,AV.agg.injEq,AV.U.injEq,_root_.and_true] at h1;obtain⟨h0,⟨rfl,rfl,rfl⟩,rfl,rfl,rfl⟩:=h1;rw[nk _ _ h0,dm.inj qT a1 b1,dm.inj qT a2 b2]
theorem aeU{B:aJ}{N L M p lm G q lg:Nat}{op n x u f:Int}(mc:Mt [PM,kC 6] B)(hc:bf (aP vA) [(.agg [(u8<|op),(i6 n),(.U N 0 L)])]=some (.bool<|decide<|x=1))(hd:x=1->bf (aP<|qh 6) [(.agg [(u8<|op),(i6 n),(.U N 0 L)]),(.U M p lm),(.U G q lg)]=some (.tuple [.int .i64 u,.int .i64 f])):au pg B 270 (Fin pg (az Tryz.f52) fun y _=>y=(if x=1 then .tuple [.int .i64 u,.int .i64 f] else .tuple [.int .i64 0,.int .i64 4])) (sF 52 Tryz.f52 [(.agg [(u8<|op),(i6 n),(.U N 0 L)]),(.U M p lm),(.U G q lg)])<|ah ar 270:=by exact wS mc (.st 4<|.rg<|.go 1<|.kp (x=1) inferInstance (.go 1<|.en<|.st 3<|.rg<|.go 3<|.kn (.tuple [(i6 u),(i6 f)])<|.go 4<|.en<|.rt 1 .no)<|.go 1<|.en<|.rt 4 .no)<|ai hc<|aR (x=1) (fun _=>(ai (hd ab) (show AV.tuple [(i6 u),(i6 f)]=(if x=1 then .tuple [.int .i64 u,.int .i64 f] else .tuple [.int .i64 0,.int .i64 4]) from by split<;>first|rfl|(exfalso;omega)))) fun _=>(show AV.tuple [i0,(i6<|.ofNat 4)]=(if x=1 then .tuple [.int .i64 u,.int .i64 f] else .tuple [.int .i64 0,.int .i64 4]) from by split<;>first|rfl|(exfalso;omega))
end gV
end
section
open Go Go.Rn Go.RowKit Go.Proofs
namespace B5
open ch cG cQ di dj
variable {B:aJ} {kind:Int} {L:bO}
noncomputable section
def KU:List<|List Bool:=[[false,false,false,false,false,false],[true,true,true,false,false,false],[true,true,true,false,false,false],[true,false,true,true,false,false],[true,false,true,false,true,true],[true,false,true,false,true,false],[true,false,false,false,false,false],[true,false,false,false,true,true],[true,false,true,false,false,false]]
def pQ(kind:Int):List Bool:=KU.getD kind.toNat [false,false,false,false,false,false]
def vZ(kind:Int):AV:=.agg<|(pQ kind).map AV.bool
theorem adl(h:9<=kind):vZ kind= .agg [.bool false,.bool false,.bool false,.bool false,.bool false,.bool false]:=by unfold vZ pQ;rw[List.getD_eq_getElem?_getD,List.getElem?_eq_none (show KU.length<=kind.toNat by show 9<=kind.toNat;omega)];rfl
theorem ahN{k:Int}(mc:Mt [] B)(h:0<=k/\k<9):au pg B 270 (Fin pg (az Tryz.f68) fun y _=>y=(vZ k)) (sF 68 Tryz.f68 [.int .u8 k])<|ah ar 270:=by
 have TT:(AV.int .i64 (IntKind.wrap .i64 k)= .int .i64 k)/\vZ k=vZ k:=⟨wI k,rfl⟩;let P:Pl:=.st 6<|.rg<|.go 1<|.vl (.int .i64 k)<|.go 1<|.en<|.rt 5 .no;obtain rfl|rfl|rfl|rfl|rfl|rfl|rfl|rfl|rfl:k=0\/k=1\/k=2\/k=3\/k=4\/k=5\/k=6\/k=7\/k=8:=by omega
 all_goals exact wS mc P TT aV
theorem ahO(mc:Mt [] B)(h0:9<=kind)(h9:kind<256):au pg B 270 (Fin pg (az Tryz.f68) fun y _=>y=(vZ kind)) (sF 68 Tryz.f68 [(u8<|kind)])<|ah ar 270:=by exact wS mc (.st 6<|.rg<|.go 1<|.vl (.int .i64 kind)<|.fk (.en<|.rt 4 .no)<|.no)<|ai (wI kind)<|aR (kind>=9) (fun _=>(show(.agg [(.bool false),(.bool false),(.bool false),(.bool false),(.bool false),(.bool false)])=vZ kind from(adl h0).symm)) fZ
theorem aeV{N L:Nat}{op n:Int}(mc:Mt [] B):au pg B 270 (Fin pg (az Tryz.f71) fun y _=>y=(.bool<|decide<|op=0/\n=0/\L=0)) (sF 71 Tryz.f71 [(.agg [(u8<|op),(i6 n),(.U N 0 L)])])<|ah ar 270:=by exact wS mc (.st 3<|.rg<|.go 2<|.fk (.go 3<|.fk (.go 5<|.fk (.go 2<|.en<|.rt 1 .no)<|.go 2<|.en<|.rt 1 .no)<|.go 8<|.en<|.rt 1 .no)<|.go 12<|.en<|.rt 1 .no)<|aR (op=0) (fun _=>(aR (n=0) (fun _=>(aR ((L:Int)=0) (fun _=>(show AV.bool true= .bool (decide<|op=0/\n=0/\L=0) from by rw[decide_eq_true ab])) fun _=>(show AV.bool false= .bool (decide<|op=0/\n=0/\L=0) from by rw[decide_eq_false ab]))) fun _=>(show AV.bool false= .bool (decide<|op=0/\n=0/\L=0) from by rw[decide_eq_false ab]))) fun _=>(show AV.bool false= .bool (decide<|op=0/\n=0/\L=0) from by rw[decide_eq_false ab])
def kq(args:List AV)(v:AV):Prop:=∃kind:Int,args=[.int .u8 kind]/\0<=kind/\kind<256/\v=vZ kind
theorem kq.bM(args:List AV)(v v':AV)(h:kq args v)(h':kq args v'):v=v':=by obtain⟨x,rfl,_,_,rfl⟩:=h;obtain⟨x',h1,_,_,rfl⟩:=h';simp only[List.cons.injEq,AV.int.injEq,true_and,_root_.and_true] at h1;rw[h1]
def v7:FuncId×KE:=(68,.val<|aP kq)
theorem aeW(hP:bR pg)(h:aY L):aY<|v7::L:=by
 refine gO hP h dc Tryz.func68 fun args v e=>?_;obtain⟨kind,rfl,h0,h1,rfl⟩:=fV e;refine⟨aM.1 aV,fun B mc=>?_⟩;rw[←ib];by_cases h9:9<=kind
 ·exact ahO mc h9 h1
 exact ahN mc ⟨h0,by omega⟩
def Dm(e:Ex):Prop:=e.op=0/\e.n=0/\e.args.length=0
instance {e:Ex}:Decidable<|Dm e:=by unfold Dm;exact inferInstance
def mT(args:List AV)(v:AV):Prop:=∃e:Ex,args=[.agg<|aC e]/\v= .bool (decide<|Dm e)
theorem mT.bM(args:List AV)(v v':AV)(h:mT args v)(h':mT args v'):v=v':=by obtain⟨e,rfl,rfl⟩:=h;obtain⟨e',h1,rfl⟩:=h';simp only[List.cons.injEq,AV.agg.injEq,_root_.and_true] at h1;rw[nk _ _ h1]
def ve:FuncId×KE:=(71,.val<|aP mT)
theorem abX(hP:bR pg)(h:aY L):aY<|ve::L:=by refine gO hP h dc Tryz.func71 fun args v e=>?_;obtain⟨⟨op,n,l⟩,rfl,rfl⟩:=fV e;refine⟨aM.1 aV,fun B mc=>?_⟩;rw[←ib,aC];exact aeV mc
end
end B5
end
section
open Go Go.Rn Go.RowKit Go.Proofs
namespace eX
open ch cG cQ di dj
variable {k N L N0 L0:Nat} {v:AV} {B:aJ} {bN n0 i c:Int}
noncomputable section
theorem N9{nx:Nat}{l:List<|Nat×AV}(h:∀r:Nat->Nat,(∀k,top<=k->r k=k)->∀p∈l,ba r p.2 p.2)(hn:Nat.ble 270 nx=true):pE nx l ar:=by intro r r1 r2;exact⟨h r r2,fun p hp x hx=>EX (nx:=270) (fun k hk=>r1 k<|Nat.lt_of_lt_of_le hk<|aM.1 hn) bY p hp x hx⟩
def th:Nat->Ex->Bool
 |0,_=>false
 |k+1,.mk _ _ args=>args.all<|th k
def uS(k:Nat)(args:List AV)(v:AV):Prop:=∃e:Ex,args=[.agg<|aC e]/\th k e=true/\ll k e<=1000000/\v= .int .i64 (ll k e)
theorem uS.bM(args:List AV)(v v':AV)(h:uS k args v)(h':uS k args v'):v=v':=by obtain⟨e,rfl,_,_,rfl⟩:=h;obtain⟨e',h1,_,_,rfl⟩:=h';simp only[List.cons.injEq,AV.agg.injEq,_root_.and_true] at h1;rw[nk _ _ h1]
def AW(k:Nat):FuncId×KE:=(81,.val<|aP<|uS k)
def AY(N:Nat)(L:Nat)(m:Int)(i:Int):List<|Nat×AV:=[(3,(i6 m)),(7,(.U N 0 L)),(8,(i6<|(L:Int))),(9,(i6 i))]
def xe(N:Nat)(L:Nat)(m:Int)(i:Int):AF:=⟨81,aE<|AY N L m i,(max Tryz.f81.ntmps 1),[.code<|aS pg 81 [1,1,0,1,0,0],.inLoop<|aS pg 81 [1,1,0,1,0,0],.inBlock 0,.code<|aS pg 81 [1,1,1]],[],none⟩
theorem Vj(N:Nat)(L:Nat)(m:Int)(i:Int)(hn:top<=N):((AY N L m i).map (fun q=>some q.2)=(AY N L m i).map (fun q=>some q.2))/\(ar.map (fun q=>q.2)=ar.map (fun q=>q.2))/\pE 270 (AY N L m i) ar/\(xe N L m i=xe N L m i/\ah ar 270=ah ar 270):=⟨rfl,rfl,N9 (fun r r2 p hp=>by simp only[AY,List.mem_cons,List.not_mem_nil,or_false] at hp;rcases hp with rfl|rfl|rfl|rfl<;>first|exact ba.int _ _|exact ba.U (r2 _ hn) r2) rfl,rfl,rfl⟩
theorem aeX{m:Int}(mc:Mt [AW k] B)(hn:top<=N)(hi:0<=i)(hL:L<=1000000)(hm:0<=m/\m<=1000000)(jj:0<=c/\c<=1000000)(hx:cr FU N (0+i.toNat*3+0) 3=some [(u8<|bN),(i6 n0),(.U N0 0 L0)])(hc:bf (aP<|uS k) [(.agg [(u8<|bN),(i6 n0),(.U N0 0 L0)])]=some (.int .i64 c))(h1:i<(L:Int))(H:au pg B 270 (Fin pg (az Tryz.f81) fun y _=>y=v) (xe N L (m+c)<|i+1)<|ah ar 270):au pg B 270 (Fin pg (az Tryz.f81) fun y _=>y=v) (xe N L m i)<|ah ar 270:=by exact wC mc (C:=(fun fr s1 _=>fr=xe N L (m+c) (i+1)/\s1=ah ar 270)) mK (.st 1<|.rg<|.fk (.en<|.st 6<|.rg<|.eB<|.eC [(u8<|bN),(i6 n0),(.U N0 0 L0)]<|.go 2<|.en<|.rg<|.go 2<|.kn (i6 c)<|.vl (i6<|m+c)<|.go 1<|.en<|.st 1<|.rg<|.vl (i6<|i+1)<|.go 1<|.en<|.st 1<|.bk (AY N L (m+c)<|i+1) ar 270 .no)<|.no)<|aR (i<(L:Int)) (fun _=>(dS i (L:Int)<|ai hn<|ai hx<|ai hc<|ai (wI<|m+c)<|ai (wI<|i+1)<|Vj N L (m+c) (i+1) hn)) fZ
theorem aeY{m:Int}{N0 L0:Nat}{bN n0 c:Int}(mc:Mt [AW k] B)(h1:(L:Int)<=i)(hv: .int .i64 m=v):au pg B 270 (Fin pg (az Tryz.f81) fun y _=>y=v) (xe N L m i)<|ah ar 270:=by exact wS mc (.st 1<|.rg<|.fk (.no)<|.en<|.rt 6 .no)<|aR (i<(L:Int)) fZ fun _=>(show(i6 m)=v from hv)
theorem go_cnt{op n:Int}(mc:Mt [AW k] B)(hn:top<=N)(H:au pg B 270 (Fin pg (az Tryz.f81) fun y _=>y=v) (xe N L 1 0)<|ah ar 270):au pg B 270 (Fin pg (az Tryz.f81) fun y _=>y=v) (sF 81 Tryz.f81 [(.agg [(u8<|op),(i6 n),(.U N 0 L)])])<|ah ar 270:=by exact wC mc (C:=(fun fr s1 _=>fr=xe N L 1 0/\s1=ah ar 270)) mK (.st 9<|.bk (AY N L 1 0) ar 270 .no)<|Vj N L 1 0 hn
end
end eX
end
section
open Go Go.Rn Go.RowKit Go.Proofs
namespace Bv
open ch cG cQ di eX dj
theorem Iv{g:Ex->Int}:∀(l:List Ex) (m:Int),(∀a∈l,1<=g a)->m+(l.length:Nat)<=l.foldl (fun n a=>n+g a) m
 |[],m,_=>by simp only[List.length_nil,List.foldl_nil];omega
 |a::l,m,h=>by have h1:=Iv l (m+g a) fun b hb=>h b<|List.mem_cons_of_mem _ hb;have h2:=h a List.mem_cons_self;rw[List.foldl_cons,List.length_cons];omega
theorem EK:∀(k:Nat) (e:Ex),th k e=true->1<=ll k e
 |0,_,h=>by cases h
 |k+1,.mk op n l,h=>by have h1:l.all (th k)=true:=h;have:=Iv (g:=ll k) l 1 fun a ha=>EK k a<|List.all_eq_true.1 h1 a ha;show 1<=l.foldl (fun n a=>n+ll k a) 1;omega
theorem ZX(hP:bR pg){k:Nat}(h':aY [AW k]){L:bO}(h:aY L):aY<|AW (k+1)::L:=by
 refine gO hP h h' Tryz.func81 fun args v e=>?_;obtain⟨⟨op,n,l⟩,rfl,hd,hc,rfl⟩:=fV e;refine⟨aM.1 aV,fun B mc=>?_⟩;rw[←ib,aC];have hd:l.all (th k)=true:=hd;have hc:l.foldl (fun n a=>n+ll k a) 1<=1000000:=hc;have pos:∀a∈l,1<=ll k a:=fun a ha=>EK k a<|List.all_eq_true.1 hd a ha;have key:∀(r:List Ex) (i:Nat) (m:Int),l.drop i=r->0<=m->r.foldl (fun n a=>n+ll k a) m<=1000000->
  au pg B 270 (Fin pg (az Tryz.f81) fun y _=>y= .int .i64 (r.foldl (fun n a=>n+ll k a) m)) (xe (nm<|cH l) l.length m i) (ah ar 270):=by
  intro r;induction r with
  |nil=>intro i m hr _ _;have hi:l.length<=i:=List.drop_eq_nil_iff.1 hr;exact aeY (k:=k) (N0:=0) (L0:=0) (bN:=0) (n0:=0) (c:=0) mc ab rfl
  |cons a r ih=>
   intro i m hr h0 h1;have hl:i<l.length:=by
    by_cases q:i<l.length
    ·exact q
    ·rw[List.drop_of_length_le ab] at hr;cases hr
   have ha:l[i]? =some a:=by have:=congrArg (fun q=>q[0]?) hr;simp only[List.getElem?_drop,List.getElem?_cons_zero,Nat.add_zero] at this;exact this
   have hm:a∈l:=List.mem_of_getElem? ha;have j0:l.drop (i+1)=r:=by have:=congrArg (List.drop 1) hr;rw[List.drop_drop] at this;exact this
   have ahP:∀b∈r,b∈l:=fun b hb=>List.mem_of_mem_drop (i:=i) (by rw[hr];exact List.mem_cons_of_mem _ hb);have h2:=Iv (g:=ll k) r (m+ll k a) fun b hb=>pos b<|ahP b hb;have h3:=pos a hm;have h4:=Iv (g:=ll k) l 1 pos;rw[List.foldl_cons] at h1 ⊢;obtain⟨bN,n0,l0⟩:=a;have hx:=yH ha (z:=(i:Int)) ab;have bG:=eP (eK uS.bM ⟨.mk bN n0 l0,rfl,List.all_eq_true.1 hd _ hm,by omega,rfl⟩:aP (uS k) [.agg<|aC<|.mk bN n0 l0]=_) rA rfl;rw[aC] at hx bG;exact aeX (k:=k) mc (cF _) ab ab ab ab hx bG ab<|ih (i+1) (m+ll k (.mk bN n0 l0)) j0 ab h1
 exact go_cnt mc (cF _)<|key l 0 1 (List.drop_zero) ab hc
theorem SV(hP:bR pg):∀(k:Nat) {L:bO},aY L->aY (AW k::L)
 |0,L,h=>by refine gO hP h dc Tryz.func81 fun args v e=>?_;obtain⟨_,_,hd,_⟩:=fV e;cases hd
 |k+1,L,h=>ZX hP (SV hP k dc) h
end Bv
end
section
open Go Go.Rn Go.RowKit Go.Proofs
namespace uf
open ch cG cQ di dj eX Bv
def lX(k:Nat)(e:Ex):Int:=if e.op=0 then 0 else ll k e
def yQ(k:Nat)(args:List AV)(v:AV):Prop:=∃e:Ex,args=[.agg<|aC e]/\th k e=true/\ll k e<=1000000/\v= .int .i64 (lX k e)
theorem yQ.bM{k:Nat}(args:List AV)(v v':AV)(h:yQ k args v)(h':yQ k args v'):v=v':=by obtain⟨e,rfl,_,_,rfl⟩:=h;obtain⟨e',h1,_,_,rfl⟩:=h';simp only[List.cons.injEq,AV.agg.injEq,_root_.and_true] at h1;rw[nk _ _ h1]
noncomputable def pk(k:Nat):FuncId×KE:=(65,.val<|aP<|yQ k)
theorem adm{B:aJ}{k N L:Nat}{op n c:Int}(mc:Mt [AW k] B)(hc:bf (aP<|uS k) [(.agg [(u8<|op),(i6 n),(.U N 0 L)])]=some (.int .i64 c)):au pg B 270 (Fin pg (az Tryz.f65) fun y _=>y=(i6 (if op=0 then 0 else c))) (sF 65 Tryz.f65 [(.agg [(u8<|op),(i6 n),(.U N 0 L)])])<|ah ar 270:=by exact wS mc (.st 4<|.rg<|.go 2<|.fk (.en<|.rt 4 .no)<|.en<|.st 3<|.rg<|.go 1<|.kn (i6 c)<|.go 1<|.en<|.rt 1 .no)<|aR (op=0) (fun _=>(show(i0:AV)= .int .i64 (if op=0 then 0 else c) from by split<;>first|rfl|(exfalso;omega))) fun _=>(ai hc (show((i6 c):AV)= .int .i64 (if op=0 then 0 else c) from by split<;>first|rfl|(exfalso;omega)))
theorem SX(hP:bR pg)(k:Nat){L:bO}(h:aY L):aY<|pk k::L:=by refine gO hP h (SV hP k dc) Tryz.func65 fun args v e=>?_;obtain⟨⟨op,n,l⟩,rfl,hd,hc,rfl⟩:=fV e;refine⟨aM.1 aV,fun B mc=>?_⟩;rw[←ib];have bG:=eP (eK uS.bM ⟨.mk op n l,rfl,hd,hc,rfl⟩:aP (uS k) [.agg<|aC<|.mk op n l]=_) rA rfl;rw[aC] at bG ⊢;exact adm mc bG
end uf
end
section
open Go Go.Rn Go.RowKit Go.Proofs
namespace fO
open ch cG cQ di dj eX Bv
variable {k N L:Nat} {v:AV} {B:aJ} {i:Int}
noncomputable section
def cK(x y:Int):Int:=match decide (y>x) with|true=>y|false=>x
def jr(ld le:Nat)(m cd ce:Int):Int:=if 0<le then cK (if 0<ld then cK m cd else m) ce else if 0<ld then cK m cd else m
def bF:St->List St| .mk _ _ _ _ b _=>b
def bE:St->List St| .mk _ _ _ _ _ b=>b
def fq:Nat->List St->Int
 |0,_=>0
 |k+1,l=>l.foldl (fun m s=>jr (bF s).length (bE s).length m (fq k<|bF s)<|fq k<|bE s) 0+1
def qi:Nat->List St->Bool
 |0,_=>false
 |k+1,l=>decide (l.length<=1000000)&&l.all fun s=>((bF s).isEmpty||qi k (bF s))&&((bE s).isEmpty||qi k (bE s))
def sR(k:Nat)(args:List AV)(v:AV):Prop:=∃l:List St,args=[.U (nm<|bx l) 0 l.length]/\qi k l=true/\k<=100/\v= .int .i64 (fq k l)
theorem sR.bM(args:List AV)(v v':AV)(h:sR k args v)(h':sR k args v'):v=v':=by obtain⟨l,rfl,_,_,rfl⟩:=h;obtain⟨l',h1,_,_,rfl⟩:=h';simp only[List.cons.injEq,AV.U.injEq,_root_.and_true,true_and] at h1;rw[sf _ _<|sM (lG l) (lG l') h1.1]
def jx(k:Nat):FuncId×KE:=(46,.val<|aP<|sR k)
def uT(N L:Nat)(m i:Int):List<|Nat×AV:=[(3,(i6 m)),(6,(.U N 0 L)),(7,(i6<|(L:Int))),(8,(i6 i))]
def xf(N L:Nat)(m i:Int):AF:=⟨46,aE<|uT N L m i,(max Tryz.f46.ntmps 1),[.code<|aS pg 46 [1,1,0,1,0,0],.inLoop<|aS pg 46 [1,1,0,1,0,0],.inBlock 0,.code<|aS pg 46 [1,1,1]],[],none⟩
theorem Ft(N L:Nat)(m i:Int)(hn:top<=N){M:Int}(e:m=M):((uT N L m i).map (fun q=>some q.2)=(uT N L m i).map (fun q=>some q.2))/\(ar.map (fun q=>q.2)=ar.map (fun q=>q.2))/\pE 270 (uT N L m i) ar/\(xf N L m i=xf N L M i/\ah ar 270=ah ar 270):=⟨rfl,rfl,N9 (fun r r2 p hp=>by simp only[uT,List.mem_cons,List.not_mem_nil,or_false] at hp;rcases hp with rfl|rfl|rfl|rfl<;>first|exact ba.int _ _|exact ba.U (r2 _ hn) r2) rfl,by rw[e],rfl⟩
theorem ae0{m:Int}{Na La Nb Lb Nd ld Ne le:Nat}{kd to oa na ob nb cd ce:Int}(mc:Mt [jx k] B)(hn:top<=N)(hi:0<=i)(hL:L<=1000000)(hx:cr FU N (0+i.toNat*10+0) 10=some [(u8<|kd),(i6 to),(u8<|oa),(i6 na),(.U Na 0 La),(u8<|ob),(i6 nb),(.U Nb 0 Lb),(.U Nd 0 ld),(.U Ne 0 le)])(hd:0<ld->bf (aP<|sR k) [(.U Nd 0 ld)]=some (.int .i64 cd))(he:0<le->bf (aP<|sR k) [(.U Ne 0 le)]=some (.int .i64 ce))(h1:i<(L:Int))(H:au pg B 270 (Fin pg (az Tryz.f46) fun y _=>y=v) (xf N L (jr ld le m cd ce)<|i+1)<|ah ar 270):au pg B 270 (Fin pg (az Tryz.f46) fun y _=>y=v) (xf N L m i)<|ah ar 270:=by exact wC mc (C:=(fun fr s1 _=>fr=xf N L (jr ld le m cd ce) (i+1)/\s1=ah ar 270)) mK (.st 1<|.rg<|.fk (.en<|.st 6<|.rg<|.eB<|.eC [(u8<|kd),(i6 to),(u8<|oa),(i6 na),(.U Na 0 La),(u8<|ob),(i6 nb),(.U Nb 0 Lb),(.U Nd 0 ld),(.U Ne 0 le)]<|.go 2<|.en<|.st 2<|.rg<|.go 3<|.fk (.en<|.st 1<|.rg<|.go 3<|.kn (i6 cd)<|.vl (i6<|(cK m cd))<|.go 1<|.en<|.st 1<|.rg<|.go 3<|.fk (.en<|.st 1<|.rg<|.go 3<|.kn (i6 ce)<|.vl (i6<|(cK (cK m cd) ce))<|.go 1<|.en<|.st 1<|.rg<|.vl (i6<|i+1)<|.go 1<|.en<|.st 1<|.bk (uT N L (cK (cK m cd) ce)<|i+1) ar 270 .no)<|.en<|.st 3<|.rg<|.vl (i6<|i+1)<|.go 1<|.en<|.st 1<|.bk (uT N L (cK m cd)<|i+1) ar 270 .no)<|.en<|.st 3<|.rg<|.go 3<|.fk (.en<|.st 1<|.rg<|.go 3<|.kn (i6 ce)<|.vl (i6<|(cK m ce))<|.go 1<|.en<|.st 1<|.rg<|.vl (i6<|i+1)<|.go 1<|.en<|.st 1<|.bk (uT N L (cK m ce)<|i+1) ar 270 .no)<|.en<|.st 3<|.rg<|.vl (i6<|i+1)<|.go 1<|.en<|.st 1<|.bk (uT N L m<|i+1) ar 270 .no)<|.no)<|aR (i<(L:Int)) (fun _=>(dS i (L:Int)<|ai hn<|ai hx<|aR ((ld:Int)>0) (fun _=>(ai (hd ab)<|ai (congrArg (AV.int .i64) (show(match decide (cd>m) with|true=>cd|false=>m)=cK m cd from rfl))<|aR ((le:Int)>0) (fun _=>(ai (he ab)<|ai (congrArg (AV.int .i64) (show(match decide (ce>(cK m cd)) with|true=>ce|false=>(cK m cd))=cK (cK m cd) ce from rfl))<|ai (wI<|i+1)<|Ft N L (cK (cK m cd) ce) (i+1) hn (show(cK (cK m cd) ce)=jr ld le m cd ce from by(unfold jr;repeat' split)<;>first|rfl|(exfalso;omega)))) fun _=>(ai (wI<|i+1)<|Ft N L (cK m cd) (i+1) hn (show(cK m cd)=jr ld le m cd ce from by(unfold jr;repeat' split)<;>first|rfl|(exfalso;omega))))) fun _=>(aR ((le:Int)>0) (fun _=>(ai (he ab)<|ai (congrArg (AV.int .i64) (show(match decide (ce>m) with|true=>ce|false=>m)=cK m ce from rfl))<|ai (wI<|i+1)<|Ft N L (cK m ce) (i+1) hn (show(cK m ce)=jr ld le m cd ce from by(unfold jr;repeat' split)<;>first|rfl|(exfalso;omega)))) fun _=>(ai (wI<|i+1)<|Ft N L m (i+1) hn (show m=jr ld le m cd ce from by(unfold jr;repeat' split)<;>first|rfl|(exfalso;omega)))))) fZ
theorem ae1{m:Int}(mc:Mt [jx k] B)(hm:0<=m/\m<=1000000)(h1:(L:Int)<=i)(hv: .int .i64 (m+1)=v):au pg B 270 (Fin pg (az Tryz.f46) fun y _=>y=v) (xf N L m i)<|ah ar 270:=by exact wS mc (.st 1<|.rg<|.fk (.no)<|.en<|.st 4<|.rg<|.go 1<|.vl (i6<|m+1)<|.go 1<|.en<|.rt 1 .no)<|aR (i<(L:Int)) fZ fun _=>(ai (wI<|m+1) (show((i6<|(m+1)):AV)=v from hv))
theorem go_dep(mc:Mt [jx k] B)(hn:top<=N)(H:au pg B 270 (Fin pg (az Tryz.f46) fun y _=>y=v) (xf N L 0 0)<|ah ar 270):au pg B 270 (Fin pg (az Tryz.f46) fun y _=>y=v) (sF 46 Tryz.f46 [(.U N 0 L)])<|ah ar 270:=by exact wC mc (C:=(fun fr s1 _=>fr=xf N L 0 0/\s1=ah ar 270)) mK (.st 9<|.bk (uT N L 0 0) ar 270 .no)<|Ft N L 0 0 hn rfl
end
end fO
end
section
open Go Go.Rn Go.RowKit Go.Proofs
namespace tI
open ch cG cQ di eX dj fO
theorem EY{l:List St}{i:Nat}{a:St}(h:l[i]? =some a){z:Int}(hz:z.toNat=i):cr FU (nm<|bx l) (0+z.toNat*10+0) 10=some (aL a):=by rw[uB,hz,Nat.zero_add,sL ml h 0 10 ab];rw[List.drop_zero,List.take_of_length_le (by rw[ml.len];omega)]
theorem Fe{x y b:Int}(h1:0<=x/\x<=b)(h2:0<=y/\y<=b):0<=cK x y/\cK x y<=b:=by unfold cK;split<;>assumption
theorem Vk{ld le:Nat}{m cd ce b:Int}(h1:0<=m/\m<=b)(h2:0<=cd/\cd<=b)(h3:0<=ce/\ce<=b):0<=jr ld le m cd ce/\jr ld le m cd ce<=b:=by
 have h4:=Fe h1 h2;unfold jr;split
 ·split
  ·exact Fe h4 h3
  ·exact Fe h1 h3
 ·split
  ·exact h4
  ·exact h1
theorem NI{b:Int}{f:Int->St->Int}(hf:∀m s,0<=m/\m<=b->0<=f m s/\f m s<=b):∀(l:List St) (m:Int),0<=m/\m<=b->0<=l.foldl f m/\l.foldl f m<=b
 |[],_,h=>h
 |s::l,m,h=>by rw[List.foldl_cons];exact NI hf l _<|hf m s h
theorem H5:∀(k:Nat) (l:List St),0<=fq k l/\fq k l<=k
 |0,_=>⟨Int.le_refl _,Int.le_refl _⟩
 |k+1,l=>by have:=NI (b:=k) (f:=fun m s=>jr (bF s).length (bE s).length m (fq k<|bF s)<|fq k<|bE s) (fun m s h=>Vk h (H5 k _)<|H5 k _) l 0 ab;show 0<=l.foldl (fun m s=>jr (bF s).length (bE s).length m (fq k<|bF s)<|fq k<|bE s) 0+1/\l.foldl (fun m s=>jr (bF s).length (bE s).length m (fq k<|bF s)<|fq k<|bE s) 0+1<=_;omega
theorem ae3{l:List St}{b:Bool}(h:(l.isEmpty||b)=true)(hl:0<l.length):b=true:=by
 cases l with
 |nil=>simp only[List.length_nil] at hl;omega
 |cons _ _=>exact h
theorem ZY(hP:bR pg){k:Nat}(h':aY [jx k]){L:bO}(h:aY L):aY<|jx (k+1)::L:=by
 refine gO hP h h' Tryz.func46 fun args v e=>?_;obtain⟨l,rfl,hd,hk,rfl⟩:=fV e;refine⟨aM.1 aV,fun B mc=>?_⟩;rw[←ib];have hd:(decide (l.length<=1000000)&&l.all fun s=>((bF s).isEmpty||qi k (bF s))&&((bE s).isEmpty||qi k (bE s)))=true:=hd;rw[Bool.and_eq_true,decide_eq_true_eq,List.all_eq_true] at hd;obtain⟨hlen,hd⟩:=hd;have use:∀b:List St,(b.isEmpty||qi k b)=true->0<b.length->bf (aP<|sR k) [.U (nm<|bx b) 0 b.length]=some (i6<|fq k b):=fun b h1 h2=>eP (eK sR.bM ⟨b,rfl,ae3 h1 h2,by omega,rfl⟩) WC rfl;have key:∀(r:List St) (i:Nat) (m:Int),l.drop i=r->0<=m/\m<=k->
  au pg B 270 (Fin pg (az Tryz.f46) fun y _=>y= .int .i64 (r.foldl (fun m s=>jr (bF s).length (bE s).length m (fq k<|bF s)<|fq k<|bE s) m+1)) (xf (nm<|bx l) l.length m i) (ah ar 270):=by
  intro r;induction r with
  |nil=>intro i m hr h0;have hi:l.length<=i:=List.drop_eq_nil_iff.1 hr;exact ae1 (k:=k) mc ab ab rfl
  |cons a r ih=>
   intro i m hr h0;have hl:i<l.length:=by
    by_cases q:i<l.length
    ·exact q
    ·rw[List.drop_of_length_le ab] at hr;cases hr
   have ha:l[i]? =some a:=by have:=congrArg (fun q=>q[0]?) hr;simp only[List.getElem?_drop,List.getElem?_cons_zero,Nat.add_zero] at this;exact this
   have hm:a∈l:=List.mem_of_getElem? ha;have j0:l.drop (i+1)=r:=by have:=congrArg (List.drop 1) hr;rw[List.drop_drop] at this;exact this
   have ug:=hd a hm;rw[Bool.and_eq_true] at ug;have hx:=EY ha (z:=(i:Int)) ab;have po:=ih (i+1) _ j0<|Vk (ld:=(bF a).length) (le:=(bE a).length) h0 (H5 k<|bF a)<|H5 k<|bE a;have hb:=use _ ug.1;have he:=use _ ug.2;obtain⟨kd,to,⟨oa,na,la⟩,⟨ob,nb,lb⟩,bd,el⟩:=a;rw[aL,aC,aC] at hx;rw[List.foldl_cons];exact ae0 (k:=k) mc (cF _) ab hlen hx hb he ab po
 exact go_dep mc (cF _)<|key l 0 0 (List.drop_zero) ab
theorem SY(hP:bR pg):∀(k:Nat) {L:bO},aY L->aY (jx k::L)
 |0,L,h=>by refine gO hP h dc Tryz.func46 fun args v e=>?_;obtain⟨_,_,hd,_⟩:=fV e;cases hd
 |k+1,L,h=>ZY hP (SY hP k dc) h
end tI
end
section
open Go Go.Rn Go.RowKit Go.Proofs
namespace iz
open ch cG cQ di dj eX Bv fO tI
variable {k N L:Nat} {v:AV} {B:aJ} {i:Int}
noncomputable section
def dW(x y:Int):Int:=match decide (y<x) with|true=>y|false=>x
def jJ(kd m cd ce:Int):Int:=if kd=4 then dW (m+1+cK cd ce) 2001 else if kd=5 then dW (m+1+8*cd) 2001 else if kd=7 then dW (m+1+(cd+ce)) 2001 else dW (m+1+0) 2001
def fB:St->Int| .mk k _ _ _ _ _=>k
def gg:Nat->List St->Int
 |0,_=>0
 |k+1,l=>l.foldl (fun m s=>jJ (fB s) m (gg k<|bF s)<|gg k<|bE s) 0
def ks:Nat->List St->Bool
 |0,_=>false
 |k+1,l=>decide (l.length<=1000000)&&l.all fun s=>ks k (bF s)&&ks k (bE s)
def ti(k:Nat)(args:List AV)(v:AV):Prop:=∃l:List St,args=[.U (nm<|bx l) 0 l.length]/\ks k l=true/\v= .int .i64 (gg k l)
theorem ti.bM(args:List AV)(v v':AV)(h:ti k args v)(h':ti k args v'):v=v':=by obtain⟨l,rfl,_,rfl⟩:=h;obtain⟨l',h1,_,rfl⟩:=h';simp only[List.cons.injEq,AV.U.injEq,_root_.and_true,true_and] at h1;rw[sf _ _<|sM (lG l) (lG l') h1.1]
def jB(k:Nat):FuncId×KE:=(47,.val<|aP<|ti k)
def uU(N L:Nat)(m i:Int):List<|Nat×AV:=[(3,(i6 m)),(7,(.U N 0 L)),(8,(i6<|(L:Int))),(9,(i6 i))]
def xg(N L:Nat)(m i:Int):AF:=⟨47,aE<|uU N L m i,(max Tryz.f47.ntmps 1),[.code<|aS pg 47 [1,1,0,1,0,0],.inLoop<|aS pg 47 [1,1,0,1,0,0],.inBlock 0,.code<|aS pg 47 [1,1,1]],[],none⟩
theorem Fu(N L:Nat)(m i:Int)(hn:top<=N){M:Int}(e:m=M):((uU N L m i).map (fun q=>some q.2)=(uU N L m i).map (fun q=>some q.2))/\(ar.map (fun q=>q.2)=ar.map (fun q=>q.2))/\pE 270 (uU N L m i) ar/\(xg N L m i=xg N L M i/\ah ar 270=ah ar 270):=⟨rfl,rfl,N9 (fun r r2 p hp=>by simp only[uU,List.mem_cons,List.not_mem_nil,or_false] at hp;rcases hp with rfl|rfl|rfl|rfl<;>first|exact ba.int _ _|exact ba.U (r2 _ hn) r2) rfl,by rw[e],rfl⟩
theorem ae4{m:Int}{Na La Nb Lb Nd ld Ne le:Nat}{kd to oa na ob nb cd ce:Int}(mc:Mt [jB k] B)(hn:top<=N)(hi:0<=i)(hL:L<=1000000)(hx:cr FU N (0+i.toNat*10+0) 10=some [(u8<|kd),(i6 to),(u8<|oa),(i6 na),(.U Na 0 La),(u8<|ob),(i6 nb),(.U Nb 0 Lb),(.U Nd 0 ld),(.U Ne 0 le)])(hm:0<=m/\m<=2001)(hd0:0<=cd/\cd<=2001)(he0:0<=ce/\ce<=2001)(hmx:0<=cK cd ce/\cK cd ce<=2001)(hd:bf (aP<|ti k) [(.U Nd 0 ld)]=some (.int .i64 cd))(he:bf (aP<|ti k) [(.U Ne 0 le)]=some (.int .i64 ce))(h1:i<(L:Int))(H:au pg B 270 (Fin pg (az Tryz.f47) fun y _=>y=v) (xg N L (jJ kd m cd ce)<|i+1)<|ah ar 270):au pg B 270 (Fin pg (az Tryz.f47) fun y _=>y=v) (xg N L m i)<|ah ar 270:=by exact wC mc (C:=(fun fr s1 _=>fr=xg N L (jJ kd m cd ce) (i+1)/\s1=ah ar 270)) mK (.st 1<|.rg<|.fk (.en<|.st 6<|.rg<|.eB<|.eC [(u8<|kd),(i6 to),(u8<|oa),(i6 na),(.U Na 0 La),(u8<|ob),(i6 nb),(.U Nb 0 Lb),(.U Nd 0 ld),(.U Ne 0 le)]<|.go 2<|.en<|.st 7<|.rg<|.fk (.go 1<|.en<|.st 1<|.rg<|.go 2<|.kn (i6 cd)<|.go 2<|.kn (i6 ce)<|.vl (i6<|(cK cd ce))<|.go 1<|.en<|.st 1<|.rg<|.go 1<|.vl (i6<|m+1)<|.go 1<|.vl (i6<|(m+1)+(cK cd ce))<|.vl (i6<|(dW ((m+1)+(cK cd ce)) (2001:Int)))<|.go 1<|.en<|.st 1<|.rg<|.vl (i6<|i+1)<|.go 1<|.en<|.st 1<|.bk (uU N L (dW ((m+1)+(cK cd ce)) (2001:Int))<|i+1) ar 270 .no)<|.go 1<|.en<|.st 2<|.rg<|.fk (.go 1<|.en<|.st 1<|.rg<|.go 2<|.kn (i6 cd)<|.vl (i6<|8*cd)<|.go 1<|.en<|.st 1<|.rg<|.go 1<|.vl (i6<|m+1)<|.go 1<|.vl (i6<|(m+1)+(8*cd))<|.vl (i6<|(dW ((m+1)+(8*cd)) (2001:Int)))<|.go 1<|.en<|.st 1<|.rg<|.vl (i6<|i+1)<|.go 1<|.en<|.st 1<|.bk (uU N L (dW ((m+1)+(8*cd)) (2001:Int))<|i+1) ar 270 .no)<|.go 1<|.en<|.st 2<|.rg<|.fk (.go 1<|.en<|.st 1<|.rg<|.go 2<|.kn (i6 cd)<|.go 2<|.kn (i6 ce)<|.vl (i6<|cd+ce)<|.go 1<|.en<|.st 1<|.rg<|.go 1<|.vl (i6<|m+1)<|.go 1<|.vl (i6<|(m+1)+(cd+ce))<|.vl (i6<|(dW ((m+1)+(cd+ce)) (2001:Int)))<|.go 1<|.en<|.st 1<|.rg<|.vl (i6<|i+1)<|.go 1<|.en<|.st 1<|.bk (uU N L (dW ((m+1)+(cd+ce)) (2001:Int))<|i+1) ar 270 .no)<|.go 1<|.en<|.st 3<|.rg<|.go 1<|.vl (i6<|m+1)<|.go 1<|.vl (i6<|(m+1)+0)<|.vl (i6<|(dW ((m+1)+0) (2001:Int)))<|.go 1<|.en<|.st 1<|.rg<|.vl (i6<|i+1)<|.go 1<|.en<|.st 1<|.bk (uU N L (dW ((m+1)+0) (2001:Int))<|i+1) ar 270 .no)<|.no)<|aR (i<(L:Int)) (fun _=>(dS i (L:Int)<|ai hn<|ai hx<|aR (kd=4) (fun _=>(ai hd<|ai he<|ai (congrArg (AV.int .i64) (show(match decide (ce>cd) with|true=>ce|false=>cd)=cK cd ce from rfl))<|ai (wI<|m+1)<|ai (wI<|(m+1)+(cK cd ce))<|ai (congrArg (AV.int .i64) (show(match decide ((2001:Int)<((m+1)+(cK cd ce))) with|true=>(2001:Int)|false=>((m+1)+(cK cd ce)))=dW ((m+1)+(cK cd ce)) (2001:Int) from rfl))<|ai (wI<|i+1)<|Fu N L (dW ((m+1)+(cK cd ce)) (2001:Int)) (i+1) hn (show(dW ((m+1)+(cK cd ce)) (2001:Int))=jJ kd m cd ce from by(unfold jJ;repeat' split)<;>first|rfl|(exfalso;omega)))) fun _=>(aR (kd=5) (fun _=>(ai hd<|ai (wI<|8*cd)<|ai (wI<|m+1)<|ai (wI<|(m+1)+(8*cd))<|ai (congrArg (AV.int .i64) (show(match decide ((2001:Int)<((m+1)+(8*cd))) with|true=>(2001:Int)|false=>((m+1)+(8*cd)))=dW ((m+1)+(8*cd)) (2001:Int) from rfl))<|ai (wI<|i+1)<|Fu N L (dW ((m+1)+(8*cd)) (2001:Int)) (i+1) hn (show(dW ((m+1)+(8*cd)) (2001:Int))=jJ kd m cd ce from by(unfold jJ;repeat' split)<;>first|rfl|(exfalso;omega)))) fun _=>(aR (kd=7) (fun _=>(ai hd<|ai he<|ai (wI<|cd+ce)<|ai (wI<|m+1)<|ai (wI<|(m+1)+(cd+ce))<|ai (congrArg (AV.int .i64) (show(match decide ((2001:Int)<((m+1)+(cd+ce))) with|true=>(2001:Int)|false=>((m+1)+(cd+ce)))=dW ((m+1)+(cd+ce)) (2001:Int) from rfl))<|ai (wI<|i+1)<|Fu N L (dW ((m+1)+(cd+ce)) (2001:Int)) (i+1) hn (show(dW ((m+1)+(cd+ce)) (2001:Int))=jJ kd m cd ce from by(unfold jJ;repeat' split)<;>first|rfl|(exfalso;omega)))) fun _=>(ai (wI<|m+1)<|ai (wI<|(m+1)+0)<|ai (congrArg (AV.int .i64) (show(match decide ((2001:Int)<((m+1)+0)) with|true=>(2001:Int)|false=>((m+1)+0))=dW ((m+1)+0) (2001:Int) from rfl))<|ai (wI<|i+1)<|Fu N L (dW ((m+1)+0) (2001:Int)) (i+1) hn (show(dW ((m+1)+0) (2001:Int))=jJ kd m cd ce from by(unfold jJ;repeat' split)<;>first|rfl|(exfalso;omega))))))) fZ
theorem ae5{m:Int}(mc:Mt [jB k] B)(h1:(L:Int)<=i)(hv: .int .i64 m=v):au pg B 270 (Fin pg (az Tryz.f47) fun y _=>y=v) (xg N L m i)<|ah ar 270:=by exact wS mc (.st 1<|.rg<|.fk (.no)<|.en<|.rt 6 .no)<|aR (i<(L:Int)) fZ fun _=>(show((i6 m):AV)=v from hv)
theorem go_cos(mc:Mt [jB k] B)(hn:top<=N)(H:au pg B 270 (Fin pg (az Tryz.f47) fun y _=>y=v) (xg N L 0 0)<|ah ar 270):au pg B 270 (Fin pg (az Tryz.f47) fun y _=>y=v) (sF 47 Tryz.f47 [(.U N 0 L)])<|ah ar 270:=by exact wC mc (C:=(fun fr s1 _=>fr=xg N L 0 0/\s1=ah ar 270)) mK (.st 9<|.bk (uU N L 0 0) ar 270 .no)<|Fu N L 0 0 hn rfl
end
end iz
end
section
open Go Go.Rn Go.RowKit Go.Proofs
namespace FP
open ch cG cQ di eX dj fO tI iz
theorem Uu{x:Int}(h1:0<=x):0<=dW x 2001/\dW x 2001<=2001:=by
 unfold dW;split<;>rename_i q
 ·omega
 ·have:=of_decide_eq_false q;omega
theorem Vl{kd m cd ce:Int}(h1:0<=m/\m<=2001)(h2:0<=cd/\cd<=2001)(h3:0<=ce/\ce<=2001):0<=jJ kd m cd ce/\jJ kd m cd ce<=2001:=by
 have h4:=Fe h2 h3;unfold jJ
 repeat' split
 all_goals exact Uu ab
theorem CI:∀(k:Nat) (l:List St),0<=gg k l/\gg k l<=2001
 |0,_=>⟨Int.le_refl _,by show(0:Int)<=2001;omega⟩
 |k+1,l=>NI (b:=2001) (f:=fun m s=>jJ (fB s) m (gg k<|bF s)<|gg k<|bE s) (fun m s h=>Vl h (CI k _)<|CI k _) l 0 ab
theorem aaM(hP:bR pg){k:Nat}(h':aY [jB k]){L:bO}(h:aY L):aY<|jB (k+1)::L:=by
 refine gO hP h h' Tryz.func47 fun args v e=>?_;obtain⟨l,rfl,hd,rfl⟩:=fV e;refine⟨aM.1 aV,fun B mc=>?_⟩;rw[←ib];have hd:(decide (l.length<=1000000)&&l.all fun s=>ks k (bF s)&&ks k (bE s))=true:=hd;rw[Bool.and_eq_true,decide_eq_true_eq,List.all_eq_true] at hd;obtain⟨hlen,hd⟩:=hd;have use:∀b:List St,ks k b=true->bf (aP<|ti k) [.U (nm<|bx b) 0 b.length]=some (i6<|gg k b):=fun b h1=>eP (eK ti.bM ⟨b,rfl,h1,rfl⟩) WC rfl;have key:∀(r:List St) (i:Nat) (m:Int),l.drop i=r->0<=m/\m<=2001->
  au pg B 270 (Fin pg (az Tryz.f47) fun y _=>y= .int .i64 (r.foldl (fun m s=>jJ (fB s) m (gg k<|bF s)<|gg k<|bE s) m)) (xg (nm<|bx l) l.length m i) (ah ar 270):=by
  intro r;induction r with
  |nil=>intro i m hr h0;have hi:l.length<=i:=List.drop_eq_nil_iff.1 hr;exact ae5 (k:=k) mc ab rfl
  |cons a r ih=>
   intro i m hr h0;have hl:i<l.length:=by
    by_cases q:i<l.length
    ·exact q
    ·rw[List.drop_of_length_le ab] at hr;cases hr
   have ha:l[i]? =some a:=by have:=congrArg (fun q=>q[0]?) hr;simp only[List.getElem?_drop,List.getElem?_cons_zero,Nat.add_zero] at this;exact this
   have hm:a∈l:=List.mem_of_getElem? ha;have j0:l.drop (i+1)=r:=by have:=congrArg (List.drop 1) hr;rw[List.drop_drop] at this;exact this
   have ug:=hd a hm;rw[Bool.and_eq_true] at ug;have hx:=EY ha (z:=(i:Int)) ab;have b1:=CI k<|bF a;have b2:=CI k<|bE a;have po:=ih (i+1) _ j0<|Vl (kd:=fB a) h0 b1 b2;have hb:=use _ ug.1;have he:=use _ ug.2;obtain⟨kd,to,⟨oa,na,la⟩,⟨ob,nb,lb⟩,bd,el⟩:=a;rw[aL,aC,aC] at hx;rw[List.foldl_cons];exact ae4 (k:=k) mc (cF _) ab hlen hx h0 b1 b2 (Fe b1 b2) hb he ab po
 exact go_cos mc (cF _)<|key l 0 0 (List.drop_zero) ab
theorem TG(hP:bR pg):∀(k:Nat) {L:bO},aY L->aY (jB k::L)
 |0,L,h=>by refine gO hP h dc Tryz.func47 fun args v e=>?_;obtain⟨_,_,hd,_⟩:=fV e;cases hd
 |k+1,L,h=>aaM hP (TG hP k dc) h
end FP
end
section
open Go Go.Rn Go.RowKit Go.Proofs
namespace vB
open ch cG cQ di fD dj
variable {N k N1 N0 L1 L0:Nat} {B:aJ} {x0 bN n1 n0:Int}
def ra:Nat->Ex->Int->Bool
 |0,_,_=>true
 |k+1,.mk op n args,z=> !(decide<|op=3/\n>=z)&&args.all fun a=>ra k a z
def xh(k:Nat)(args:List AV)(v:AV):Prop:=∃(e:Ex) (z:Int),args=[.agg<|aC e,.int .i64 z]/\eL k e=true/\v= .bool (ra k e z)
noncomputable def I4(k:Nat):FuncId×KE:=(82,.val<|aP<|xh k)
theorem abY{N0 L0 N1 L1:Nat}{op n z bN n0 cz n1 x0 x1:Int}(mc:Mt [I4 k] B):au pg B 270 (Fin pg (az Tryz.f82) fun y _=>y=(.bool<|decide<|¬(op=3/\n>=z))) (sF 82 Tryz.f82 [(.agg [(u8<|op),(i6 n),(.U N 0 0)]),(i6 z)])<|ah ar 270:=by exact wS mc (.st 4<|.rg<|.go 2<|.fk (.go 4<|.fk (.go 1<|.en<|.rt 4 .no)<|.go 1<|.en<|.st 3<|.rg<|.go 3<|.il<|.st 3<|.rg<|.go 2<|.il<|.rt 15<|.go 2<|.en<|.rt 1<|.go 2<|.en<|.rt 1 .no)<|.go 6<|.en<|.st 3<|.rg<|.go 3<|.il<|.st 3<|.rg<|.go 2<|.il<|.rt 15<|.go 2<|.en<|.rt 1<|.go 2<|.en<|.rt 1 .no)<|aR (op=3) (fun _=>(aR (n>=z) (fun _=>(show AV.bool false= .bool (decide<|¬(op=3/\n>=z)) from by rw[decide_eq_false ab])) fun _=>(show AV.bool true= .bool (decide<|¬(op=3/\n>=z)) from by rw[decide_eq_true ab]))) fun _=>(show AV.bool true= .bool (decide<|¬(op=3/\n>=z)) from by rw[decide_eq_true ab])
theorem abZ{op n z cz x1:Int}(mc:Mt [I4 k] B)(hn:top<=N)(rR:cr FU N (0+(0:Int).toNat*3+0) 3=some [(u8<|bN),(i6 n0),(.U N0 0 L0)])(jj:bf (aP<|xh k) [(.agg [(u8<|bN),(i6 n0),(.U N0 0 L0)]),(i6 z)]=some (.bool<|decide<|x0=1))(iV:cr FU N (0+(1:Int).toNat*3+0) 3=some [(u8<|cz),(i6 n1),(.U N1 0 L1)])(jE:bf (aP<|xh k) [(.agg [(u8<|cz),(i6 n1),(.U N1 0 L1)]),(i6 z)]=some (.bool<|decide<|x1=1)):au pg B 270 (Fin pg (az Tryz.f82) fun y _=>y=(.bool<|decide<|¬(op=3/\n>=z)/\x0=1/\x1=1)) (sF 82 Tryz.f82 [(.agg [(u8<|op),(i6 n),(.U N 0 2)]),(i6 z)])<|ah ar 270:=by exact wS mc (.st 4<|.rg<|.go 2<|.fk (.go 4<|.fk (.go 1<|.en<|.rt 4 .no)<|.go 1<|.en<|.st 3<|.rg<|.go 3<|.il<|.st 3<|.rg<|.go 2<|.il<|.st 17<|.rg<|.go 3<|.eB<|.eC [(u8<|bN),(i6 n0),(.U N0 0 L0)]<|.il<|.st 3<|.rg<|.go 2<|.kp (x0=1) inferInstance (.go 2<|.en<|.rt 1<|.en<|.st 15<|.rg<|.go 3<|.eB<|.eC [(u8<|cz),(i6 n1),(.U N1 0 L1)]<|.il<|.st 3<|.rg<|.go 2<|.kp (x1=1) inferInstance (.go 2<|.en<|.rt 1<|.en<|.rt 13<|.go 2<|.en<|.rt 1<|.go 2<|.en<|.rt 1 .no)<|.go 2<|.en<|.rt 1<|.en<|.rt 4<|.go 2<|.en<|.rt 1<|.go 2<|.en<|.rt 1 .no)<|.go 2<|.en<|.rt 1<|.en<|.rt 4<|.go 2<|.en<|.rt 1<|.go 2<|.en<|.rt 1 .no)<|.go 6<|.en<|.st 3<|.rg<|.go 3<|.il<|.st 3<|.rg<|.go 2<|.il<|.st 17<|.rg<|.go 3<|.eB<|.eC [(u8<|bN),(i6 n0),(.U N0 0 L0)]<|.il<|.st 3<|.rg<|.go 2<|.kp (x0=1) inferInstance (.go 2<|.en<|.rt 1<|.en<|.st 15<|.rg<|.go 3<|.eB<|.eC [(u8<|cz),(i6 n1),(.U N1 0 L1)]<|.il<|.st 3<|.rg<|.go 2<|.kp (x1=1) inferInstance (.go 2<|.en<|.rt 1<|.en<|.rt 13<|.go 2<|.en<|.rt 1<|.go 2<|.en<|.rt 1 .no)<|.go 2<|.en<|.rt 1<|.en<|.rt 4<|.go 2<|.en<|.rt 1<|.go 2<|.en<|.rt 1 .no)<|.go 2<|.en<|.rt 1<|.en<|.rt 4<|.go 2<|.en<|.rt 1<|.go 2<|.en<|.rt 1 .no)<|aR (op=3) (fun _=>(aR (n>=z) (fun _=>(show AV.bool false= .bool (decide<|¬(op=3/\n>=z)/\x0=1/\x1=1) from by rw[decide_eq_false ab])) Ww)) Ww
theorem ae7{L:Nat}{op n z x y1:Int}(mc:Mt [PM,I4 6] B)(hc:bf (aP vA) [(.agg [(u8<|op),(i6 n),(.U N 0 L)])]=some (.bool<|decide<|x=1))(hb:x=1->bf (aP<|xh 6) [(.agg [(u8<|op),(i6 n),(.U N 0 L)]),(i6 z)]=some (.bool<|decide<|y1=1)):au pg B 270 (Fin pg (az Tryz.f70) fun y _=>y=(.bool<|decide<|x=1/\y1=1)) (sF 70 Tryz.f70 [(.agg [(u8<|op),(i6 n),(.U N 0 L)]),(i6 z)])<|ah ar 270:=by exact wS mc (.st 3<|.rg<|.go 1<|.kp (x=1) inferInstance (.go 3<|.kp (y1=1) inferInstance (.go 2<|.en<|.rt 1 .no)<|.go 2<|.en<|.rt 1 .no)<|.go 6<|.en<|.rt 1 .no)<|ai hc<|aR (x=1) (fun _=>(ai (hb ab)<|aR (y1=1) (fun _=>(show AV.bool true= .bool (decide<|x=1/\y1=1) from by rw[decide_eq_true ab])) fun _=>(show AV.bool false= .bool (decide<|x=1/\y1=1) from by rw[decide_eq_false ab]))) fun _=>(show AV.bool false= .bool (decide<|x=1/\y1=1) from by rw[decide_eq_false ab])
end vB
end
section
open Go Go.Rn Go.RowKit Go.Proofs
namespace xA
open ch cG cQ di fD dj vB
variable {k:Nat} {e:Ex}
theorem SZ{op n:Int}{l:List Ex}(h:eL (k+1) (.mk op n l)=true):l=[]\/∃a b,l=[a,b]/\eL k a=true/\eL k b=true:=by
 rw[LH] at h;split at h
 ·exact .inl<|List.isEmpty_iff.1 h
 split at h
 ·rw[Bool.and_eq_true,Bool.and_eq_true] at h;exact .inl<|List.isEmpty_iff.1 h.1.1
 split at h
 ·rw[Bool.and_eq_true,Bool.and_eq_true] at h;exact .inl<|List.isEmpty_iff.1 h.1.1
 split at h
 ·cases h
 rw[Bool.and_eq_true,Bool.and_eq_true,decide_eq_true_eq] at h
 match l,h with
 |[a,b],h=>exact .inr ⟨a,b,rfl,h.1.2,h.2⟩
theorem xh.bM(args:List AV)(v v':AV)(h:xh k args v)(h':xh k args v'):v=v':=by obtain⟨e,z,rfl,_,rfl⟩:=h;obtain⟨e',z',h1,_,rfl⟩:=h';simp only[List.cons.injEq,AV.agg.injEq,AV.int.injEq,true_and,_root_.and_true] at h1;rw[nk _ _ h1.1,h1.2]
theorem MU{z:Int}(hw:eL k e=true):bf (aP<|xh k) [.agg<|aC e,.int .i64 z]=some (.bool<|decide<|bit (ra k e z)=1):=by rw[wP];exact eP (eK xh.bM ⟨e,z,rfl,hw,rfl⟩) rA rfl
theorem DJ(b:Bool):bit b=1↔b=true:=by cases b<;>decide
theorem S0(hP:bR pg):∀(k:Nat) {L:bO},aY L->aY (I4 k::L)
 |0,L,h=>by refine gO hP h dc Tryz.func82 fun args v e=>?_;obtain⟨_,_,_,hw,_⟩:=fV e;cases hw
 |k+1,L,h=>by
  refine gO hP h (S0 hP k dc) Tryz.func82 fun args v e=>?_;obtain⟨⟨op,n,l⟩,z,rfl,hw,rfl⟩:=fV e;refine⟨aM.1 aV,fun B mc=>?_⟩;rw[←ib];rcases SZ hw with rfl|⟨a,b,rfl,w0,w1⟩
  ·have key:=abY (L0:=0) (N1:=0) (L1:=0) (N0:=0) (bN:=0) (n0:=0) (cz:=0) (n1:=0) (x0:=0) (x1:=0) (N:=nm<|cH []) (op:=op) (n:=n) (z:=z) mc;rw[aC,show ra (k+1) (.mk op n []) z=decide (¬(op=3/\n>=z)) from by show(!(decide<|op=3/\n>=z)&&true)=_;rw[Bool.and_true,decide_not]];exact key
  ·obtain⟨bN,n0,l0⟩:=a;obtain⟨cz,n1,l1⟩:=b;have t0:=yH (l:=[Ex.mk bN n0 l0,.mk cz n1 l1]) (i:=0) (a:=.mk bN n0 l0) rfl (z:=0) rfl;have t1:=yH (l:=[Ex.mk bN n0 l0,.mk cz n1 l1]) (i:=1) (a:=.mk cz n1 l1) rfl (z:=1) rfl;have c0:=MU (z:=z) w0;have c1:=MU (z:=z) w1;rw[aC] at t0 t1 c0 c1;have key:=abZ (op:=op) (n:=n) (z:=z) mc (cF _) t0 c0 t1 c1;rw[aC,show ra (k+1) (.mk op n [.mk bN n0 l0,.mk cz n1 l1]) z=decide (¬(op=3/\n>=z)/\bit (ra k (.mk bN n0 l0) z)=1/\bit (ra k (.mk cz n1 l1) z)=1) from by show(!(decide<|op=3/\n>=z)&&(ra k (.mk bN n0 l0) z&&(ra k (.mk cz n1 l1) z&&true)))=_;rw[Bool.and_true,Bool.eq_iff_iff,decide_eq_true_eq,DJ,DJ,Bool.and_eq_true,Bool.and_eq_true, ←decide_not,decide_eq_true_eq]];exact key
def Kb(e:Ex)(z:Int):Bool:=eL 6 e&&ra 6 e z
def ox(args:List AV)(v:AV):Prop:=∃(e:Ex) (z:Int),args=[.agg<|aC e,.int .i64 z]/\v= .bool (Kb e z)
theorem ox.bM(args:List AV)(v v':AV)(h:ox args v)(h':ox args v'):v=v':=by obtain⟨e,z,rfl,rfl⟩:=h;obtain⟨e',z',h1,rfl⟩:=h';simp only[List.cons.injEq,AV.agg.injEq,AV.int.injEq,true_and,_root_.and_true] at h1;rw[nk _ _ h1.1,h1.2]
noncomputable def vg:FuncId×KE:=(70,.val<|aP ox)
theorem N8:bf (aP vA) [.agg<|aC e]=some (.bool<|decide<|bit (eL 6 e)=1):=by rw[wP];exact eP (eK vA.bM ⟨e,rfl,rfl⟩) rA rfl
theorem ab0(hP:bR pg){L:bO}(h:aY L):aY<|vg::L:=by refine gO hP h (Ut hP<|S0 hP 6 dc) Tryz.func70 fun args v e=>?_;obtain⟨⟨op,n,l⟩,z,rfl,rfl⟩:=fV e;refine⟨aM.1 aV,fun B mc=>?_⟩;rw[←ib];have c0:=N8 (e:=.mk op n l);have c1:bit (eL 6<|.mk op n l)=1->_:=fun hx=>MU (k:=6) (e:=.mk op n l) (z:=z)<|(DJ _).1 hx;rw[aC] at c0 c1;have key:=ae7 mc c0 c1;rw[aC,show Kb (.mk op n l) z=decide (bit (eL 6<|.mk op n l)=1/\bit (ra 6 (.mk op n l) z)=1) from by rw[Bool.eq_iff_iff,decide_eq_true_eq,DJ,DJ];exact Bool.and_eq_true _ _▸Iff.rfl];exact key
end xA
end
section
open Go Go.Rn Go.RowKit Go.Proofs
namespace mI
open ch cG cQ di eX fO dj
variable {K:Cb} {k N L ld Ne Nd Nb Na Lb La:Nat} {L0:bO} {B:aJ} {pf p:fx} {i to ob oa nb na kd:Int} {g:Option ae} {x2 w2 w1 u2 u1:AV} {bL:Option Code}
noncomputable section
abbrev mo:=St->AV->AV->Option fx
def kz(ek:List St->AV->AV->Option fx)(rd:mo):List St->AV->AV->Option fx
 |[],v1,v2=>some ⟨true,v1,v2,none⟩
 |s::r,v1,v2=>match rd s v1 v2 with
  |none=>none
  |some p=>match p.ret with
   |false=>some p
   |true=>match ek (bF s) p.v1 p.v2 with
    |none=>none
    |some q=>match q.ret with
     |false=>some q
     |true=>match ek (bE s) q.v1 q.v2 with
      |none=>none
      |some u=>match u.ret with
       |false=>some u
       |true=>kz ek rd r u.v1 u.v2
def fC(rd:mo):Nat->List St->AV->AV->Option fx
 |0,_,_,_=>none
 |k+1,l,v1,v2=>match decide (l.length<=1000000) with
  |true=>kz (fC rd k) rd l v1 v2
  |false=>none
open Classical in
def Fv(x:AV):Option<|List St:=if h:∃l:List St,x= .U (nm<|bx l) 0 l.length then some h.choose else none
open Classical in
def ze(rd:mo)(k:Nat)(x v1 v2:AV):Option fx:=match Fv x with
 |none=>none
 |some l=>if okB v1/\okB v2 then fC rd k l v1 v2 else none
def cZ(K:Cb)(rd:mo)(k:Nat):FuncId×KE:=(67,.raw<|qJ K<|ze rd k)
def oE(K:Cb)(v1 v2:AV):List<|Nat×Option ae:=ar++[(270,some<|Cb.loop K none 272 273 271),(271,some .defs),(272,some<|eH v1),(273,some<|eH v2)]
def sE(K:Cb)(v1 v2:AV)(c:List AV):AS:=ah (oE K v1 v2++[(274,some<|.cells 10 (Tr.fill c 0 .nil) [])]) 275
def sA(K:Cb)(bL:Option Code)(v1 v2:AV)(c:List AV)(g:Option ae):AS:=ah (ar++[(270,some<|Cb.loop K bL 272 273 271),(271,some .defs),(272,some<|eH v1),(273,some<|eH v2),(274,some<|.cells 10 (Tr.fill c 0 .nil) []),(275,g)]) 276
def Ee(L:bO):Env:=xS pg 270 dT dF L 274 true
def WH(K:Cb)(p:fx)(s':AS)(y:AV):Prop:=y= .bool p.ret/\s'.h.get 270=some (Cb.loop K p.bL 272 273 271)/\s'.h.get 271=some .defs/\s'.h.get 272=some (eH p.v1)/\s'.h.get 273=some (eH p.v2)
end
theorem Vm:fI<=274:=Nat.le_trans gS ab
theorem PN{o4:Option ae}{nx:Nat}:WH K p (ah (ar++[(270,some<|Cb.loop K p.bL 272 273 271),(271,some .defs),(272,some<|eH p.v1),(273,some<|eH p.v2),(274,o4),(275,g)]) nx)<|.bool p.ret:=⟨rfl,by kernel_rfl,by kernel_rfl,by kernel_rfl,by kernel_rfl⟩
theorem af7{nx:Nat}:WH K p (ah (ar++[(270,some<|Cb.loop K p.bL 272 273 271),(271,some .defs),(272,some<|eH p.v1),(273,some<|eH p.v2)]) nx)<|.bool p.ret:=⟨rfl,by kernel_rfl,by kernel_rfl,by kernel_rfl,by kernel_rfl⟩
theorem ae8{v1 v2:AV}{l:List<|Nat×AV}(h:∀r:Nat->Nat,(∀k,k<274->r k=k)->(∀k,top<=k->r k=k)->∀p∈l,ba r p.2 p.2)(jH:K.s1<top)(kv:K.s2<top)(mH:K.s1≠K.s2)(iV:okB v1)(pO:okB v2):pE 274 l<|oE K v1 v2:=by
 intro r r1 r2;refine⟨h r r1 r2,fun p hp x hx=>?_⟩;rcases List.mem_append.1 hp with hp|hp
 ·exact EX (nx:=270) (fun k hk=>r1 k ab) bY p hp x hx
 ·simp only[List.mem_cons,List.not_mem_nil,or_false] at hp;rcases hp with rfl|rfl|rfl|rfl<;>cases hx
  ·exact abO jH kv mH (r1 _ ab) (r1 _ ab)<|r1 _ ab
  ·exact abP
  ·exact Up iV r2
  ·exact Up pO r2
noncomputable def Bc(N L:Nat)(i:Int):List<|Nat×AV:=[(1,(.yield 270)),(7,(.U N 0 L)),(8,(i6<|(L:Int))),(9,(i6 i))]
noncomputable def rj(N L:Nat)(i:Int):AF:=⟨67,aE<|Bc N L i,(max Tryz.f67.ntmps 2),[.code<|aS pg 67 [1,0,1,0,0],.inLoop<|aS pg 67 [1,0,1,0,0],.inBlock 0,.code<|aS pg 67 [1,1]],[],none⟩
theorem VV{v1 v2:AV}(N L:Nat)(i:Int)(hn:top<=N)(jH:K.s1<top)(kv:K.s2<top)(mH:K.s1≠K.s2)(iV:okB v1)(pO:okB v2):((Bc N L i).map (fun q=>some q.2)=(Bc N L i).map (fun q=>some q.2))/\((oE K v1 v2).map (fun q=>q.2)=(oE K v1 v2).map (fun q=>q.2))/\pE 274 (Bc N L i) (oE K v1 v2)/\(rj N L i=rj N L i/\ah (oE K v1 v2) 274=ah (oE K v1 v2) 274):=⟨rfl,rfl,ae8 (fun r r1 r2 p hp=>by simp only[Bc,List.mem_cons,List.not_mem_nil,or_false] at hp;rcases hp with rfl|rfl|rfl|rfl<;>first|exact ba.int _ _|exact ba.bool _|exact ba.U (r2 _ hn) r2|exact ba.yield<|r1 270 ab) jH kv mH iV pO,rfl,rfl⟩
noncomputable abbrev fl(kd to oa na:Int)(Na La:Nat)(ob nb:Int)(Nb Lb Nd ld Ne le:Nat):List AV:=[(u8<|kd),(i6 to),(u8<|oa),(i6 na),(.U Na 0 La),(u8<|ob),(i6 nb),(.U Nb 0 Lb),(.U Nd 0 ld),(.U Ne 0 le)]
theorem ahQ{rd:mo}{v1 v2 u1 u2 x1 x2:AV}{pf:fx}{le:Nat}(mc:Mt (cZ K rd k::L0) B)(hn:top<=N)(hi:0<=i)(hL:L<=1000000)(hx:cr FU N (0+i.toNat*10+0) 10=some (fl kd to oa na Na La ob nb Nb Lb Nd ld Ne le))(hr:aZ pg (sp<|cZ K rd k::L0) FU 6 (.round 270) [.agg<|fl kd to oa na Na La ob nb Nb Lb Nd ld Ne le] (sE K v1 v2<|fl kd to oa na Na La ob nb Nb Lb Nd ld Ne le)= .ok (.bool false) (sA K bL w1 w2 (fl kd to oa na Na La ob nb Nb Lb Nd ld Ne le) g))(h1:i<(L:Int)):au pg B 274 (rC K 270 pg (az Tryz.f67) ⟨false,w1,w2,bL⟩) (rj N L i)<|ah (oE K v1 v2) 274:=by exact lW (E:=Ee<|cZ K rd k::L0) eQ rfl bH mc.2.2.1 mc.2.2.2 900 (.st 1<|.rg<|.fk (.en<|.st 6<|.rg<|.eB<|.eC (fl kd to oa na Na La ob nb Nb Lb Nd ld Ne le)<|.go 2<|.en<|.st 1<|.rg<|.go 2<|.cy (.bool false) (sA K bL w1 w2 (fl kd to oa na Na La ob nb Nb Lb Nd ld Ne le) g)<|.go 15<|.en<|.rt 4 .no)<|.no)<|aR (i<(L:Int)) (fun _=>(dS i (L:Int)<|ai hn<|ai hx<|ai hr<|PN (K:=K) (p:=⟨false,w1,w2,bL⟩) (o4:=some<|.cells 10 (Tr.fill (fl kd to oa na Na La ob nb Nb Lb Nd ld Ne le) 0 .nil) []) (g:=g) (nx:=276))) fZ
theorem ahR{rd:mo}{v1 v2 x1 x2:AV}{pf:fx}{le:Nat}(mc:Mt (cZ K rd k::L0) B)(hn:top<=N)(hi:0<=i)(hL:L<=1000000)(hx:cr FU N (0+i.toNat*10+0) 10=some (fl kd to oa na Na La ob nb Nb Lb Nd ld Ne le))(hr:aZ pg (sp<|cZ K rd k::L0) FU 6 (.round 270) [.agg<|fl kd to oa na Na La ob nb Nb Lb Nd ld Ne le] (sE K v1 v2<|fl kd to oa na Na La ob nb Nb Lb Nd ld Ne le)= .ok (.bool true) (sA K none w1 w2 (fl kd to oa na Na La ob nb Nb Lb Nd ld Ne le) g))(hb:aZ pg (sp<|cZ K rd k::L0) FU 6 (.fn 67) [.U Nd 0 ld,.yield 270] (sA K none w1 w2 (fl kd to oa na Na La ob nb Nb Lb Nd ld Ne le) g)= .ok (.bool false) (sA K bL u1 u2 (fl kd to oa na Na La ob nb Nb Lb Nd ld Ne le) g))(h1:i<(L:Int)):au pg B 274 (rC K 270 pg (az Tryz.f67) ⟨false,u1,u2,bL⟩) (rj N L i)<|ah (oE K v1 v2) 274:=by exact lW (E:=Ee<|cZ K rd k::L0) eQ rfl bH mc.2.2.1 mc.2.2.2 900 (.st 1<|.rg<|.fk (.en<|.st 6<|.rg<|.eB<|.eC (fl kd to oa na Na La ob nb Nb Lb Nd ld Ne le)<|.go 2<|.en<|.st 1<|.rg<|.go 2<|.cy (.bool true) (sA K none w1 w2 (fl kd to oa na Na La ob nb Nb Lb Nd ld Ne le) g)<|.go 5<|.cu (.bool false) (sA K bL u1 u2 (fl kd to oa na Na La ob nb Nb Lb Nd ld Ne le) g)<|.go 9<|.en<|.rt 4 .no)<|.no)<|aR (i<(L:Int)) (fun _=>(dS i (L:Int)<|ai hn<|ai hx<|ai hr<|ai hb<|PN (K:=K) (p:=⟨false,u1,u2,bL⟩) (o4:=some<|.cells 10 (Tr.fill (fl kd to oa na Na La ob nb Nb Lb Nd ld Ne le) 0 .nil) []) (g:=g) (nx:=276))) fZ
theorem ahS{rd:mo}{v1 v2 x1:AV}{pf:fx}{le:Nat}(mc:Mt (cZ K rd k::L0) B)(hn:top<=N)(hi:0<=i)(hL:L<=1000000)(hx:cr FU N (0+i.toNat*10+0) 10=some (fl kd to oa na Na La ob nb Nb Lb Nd ld Ne le))(hr:aZ pg (sp<|cZ K rd k::L0) FU 6 (.round 270) [.agg<|fl kd to oa na Na La ob nb Nb Lb Nd ld Ne le] (sE K v1 v2<|fl kd to oa na Na La ob nb Nb Lb Nd ld Ne le)= .ok (.bool true) (sA K none w1 w2 (fl kd to oa na Na La ob nb Nb Lb Nd ld Ne le) g))(hb:aZ pg (sp<|cZ K rd k::L0) FU 6 (.fn 67) [.U Nd 0 ld,.yield 270] (sA K none w1 w2 (fl kd to oa na Na La ob nb Nb Lb Nd ld Ne le) g)= .ok (.bool true) (sA K none u1 u2 (fl kd to oa na Na La ob nb Nb Lb Nd ld Ne le) g))(ho:aZ pg (sp<|cZ K rd k::L0) FU 6 (.fn 67) [.U Ne 0 le,.yield 270] (sA K none u1 u2 (fl kd to oa na Na La ob nb Nb Lb Nd ld Ne le) g)= .ok (.bool false) (sA K bL x1 x2 (fl kd to oa na Na La ob nb Nb Lb Nd ld Ne le) g))(h1:i<(L:Int)):au pg B 274 (rC K 270 pg (az Tryz.f67) ⟨false,x1,x2,bL⟩) (rj N L i)<|ah (oE K v1 v2) 274:=by exact lW (E:=Ee<|cZ K rd k::L0) eQ rfl bH mc.2.2.1 mc.2.2.2 900 (.st 1<|.rg<|.fk (.en<|.st 6<|.rg<|.eB<|.eC (fl kd to oa na Na La ob nb Nb Lb Nd ld Ne le)<|.go 2<|.en<|.st 1<|.rg<|.go 2<|.cy (.bool true) (sA K none w1 w2 (fl kd to oa na Na La ob nb Nb Lb Nd ld Ne le) g)<|.go 5<|.cu (.bool true) (sA K none u1 u2 (fl kd to oa na Na La ob nb Nb Lb Nd ld Ne le) g)<|.go 6<|.cu (.bool false) (sA K bL x1 x2 (fl kd to oa na Na La ob nb Nb Lb Nd ld Ne le) g)<|.go 2<|.en<|.rt 4 .no)<|.no)<|aR (i<(L:Int)) (fun _=>(dS i (L:Int)<|ai hn<|ai hx<|ai hr<|ai hb<|ai ho<|PN (K:=K) (p:=⟨false,x1,x2,bL⟩) (o4:=some<|.cells 10 (Tr.fill (fl kd to oa na Na La ob nb Nb Lb Nd ld Ne le) 0 .nil) []) (g:=g) (nx:=276))) fZ
theorem ahT{rd:mo}{v1 v2 x1:AV}{bL:Option Code}{le:Nat}(mc:Mt (cZ K rd k::L0) B)(hn:top<=N)(hi:0<=i)(hL:L<=1000000)(hx:cr FU N (0+i.toNat*10+0) 10=some (fl kd to oa na Na La ob nb Nb Lb Nd ld Ne le))(hr:aZ pg (sp<|cZ K rd k::L0) FU 6 (.round 270) [.agg<|fl kd to oa na Na La ob nb Nb Lb Nd ld Ne le] (sE K v1 v2<|fl kd to oa na Na La ob nb Nb Lb Nd ld Ne le)= .ok (.bool true) (sA K none w1 w2 (fl kd to oa na Na La ob nb Nb Lb Nd ld Ne le) g))(hb:aZ pg (sp<|cZ K rd k::L0) FU 6 (.fn 67) [.U Nd 0 ld,.yield 270] (sA K none w1 w2 (fl kd to oa na Na La ob nb Nb Lb Nd ld Ne le) g)= .ok (.bool true) (sA K none u1 u2 (fl kd to oa na Na La ob nb Nb Lb Nd ld Ne le) g))(ho:aZ pg (sp<|cZ K rd k::L0) FU 6 (.fn 67) [.U Ne 0 le,.yield 270] (sA K none u1 u2 (fl kd to oa na Na La ob nb Nb Lb Nd ld Ne le) g)= .ok (.bool true) (sA K none x1 x2 (fl kd to oa na Na La ob nb Nb Lb Nd ld Ne le) g))(h1:i<(L:Int))(jH:K.s1<top)(kv:K.s2<top)(mH:K.s1≠K.s2)(iV:okB x1)(pO:okB x2)(H:au pg B 274 (rC K 270 pg (az Tryz.f67) pf) (rj N L<|i+1)<|ah (oE K x1 x2) 274):au pg B 274 (rC K 270 pg (az Tryz.f67) pf) (rj N L i)<|ah (oE K v1 v2) 274:=by exact wp_cut (E:=Ee<|cZ K rd k::L0) (C:=(fun fr s1 _=>fr=rj N L (i+1)/\s1=ah (oE K x1 x2) 274)) eQ rfl bH mc.2.2.1 mc.2.2.2 Vm rfl mc.1 mK 900 (.st 1<|.rg<|.fk (.en<|.st 6<|.rg<|.eB<|.eC (fl kd to oa na Na La ob nb Nb Lb Nd ld Ne le)<|.go 2<|.en<|.st 1<|.rg<|.go 2<|.cy (.bool true) (sA K none w1 w2 (fl kd to oa na Na La ob nb Nb Lb Nd ld Ne le) g)<|.go 5<|.cu (.bool true) (sA K none u1 u2 (fl kd to oa na Na La ob nb Nb Lb Nd ld Ne le) g)<|.go 6<|.cu (.bool true) (sA K none x1 x2 (fl kd to oa na Na La ob nb Nb Lb Nd ld Ne le) g)<|.go 2<|.en<|.st 3<|.rg<|.vl (i6<|i+1)<|.go 1<|.en<|.st 1<|.bk (Bc N L<|i+1) (oE K x1 x2) 274 .no)<|.no)<|aR (i<(L:Int)) (fun _=>(dS i (L:Int)<|ai hn<|ai hx<|ai hr<|ai hb<|ai ho<|ai (wI<|i+1)<|VV N L (i+1) hn jH kv mH iV pO)) fZ
theorem ae9{rd:mo}{v1 v2:AV}(mc:Mt (cZ K rd k::L0) B)(h1:(L:Int)<=i):au pg B 274 (rC K 270 pg (az Tryz.f67) ⟨true,v1,v2,none⟩) (rj N L i)<|ah (oE K v1 v2) 274:=by exact lW (E:=Ee<|cZ K rd k::L0) eQ rfl bH mc.2.2.1 mc.2.2.2 900 (.st 1<|.rg<|.fk (.no)<|.en<|.rt 6 .no)<|aR (i<(L:Int)) fZ fun _=>(af7 (K:=K) (p:=⟨true,v1,v2,none⟩) (nx:=274))
theorem af8{rd:mo}{v1 v2:AV}(mc:Mt (cZ K rd k::L0) B)(hn:top<=N)(jH:K.s1<top)(kv:K.s2<top)(mH:K.s1≠K.s2)(iV:okB v1)(pO:okB v2)(H:au pg B 274 (rC K 270 pg (az Tryz.f67) pf) (rj N L 0)<|ah (oE K v1 v2) 274):au pg B 274 (rC K 270 pg (az Tryz.f67) pf) (sF 67 Tryz.f67 [.U N 0 L,.yield 270])<|ah (oE K v1 v2) 274:=by exact wp_cut (E:=Ee<|cZ K rd k::L0) (C:=(fun fr s1 _=>fr=rj N L 0/\s1=ah (oE K v1 v2) 274)) eQ rfl bH mc.2.2.1 mc.2.2.2 Vm rfl mc.1 mK 900 (.st 7<|.bk (Bc N L 0) (oE K v1 v2) 274 .no)<|VV N L 0 hn jH kv mH iV pO
end mI
end
