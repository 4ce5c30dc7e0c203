import Derived.Test.YthjiifomjmdjbaaGreatDoorProg
import Derived.Test.YthjiifomjmdjbaaGreatDoorRnGG
import Derived.KernelRfl
import Derived.Test.YthjiifomjmdjbaaGreatDoorRnGH
import Derived.Test.YthjiifomjmdjbaaGreatDoorRnGE
set_option maxRecDepth 100000
set_option maxHeartbeats 8000000
set_option linter.unusedSimpArgs false
set_option linter.unusedVariables false
section
open Go Go.Rn Go.RowKit Go.Proofs
namespace cz
inductive Ex where
 |mk (op n:Int) (args:List Ex)
instance:Inhabited Ex:=⟨.mk 0 0 []⟩
mutual
noncomputable def aB:Ex->List AV
 | .mk op n args=>[.int .u8 op,.int .i64 n,.U (nm<|cI args) 0 args.length]
noncomputable def cI:List Ex->List AV
 |[]=>[]
 |e::l=>aB e++cI l
end
theorem Cz:∀l:List Ex,cI l=(l.map aB).flatten
 |[]=>by rw[cI];rfl
 |e::l=>by rw[cI,Cz l];rfl
theorem MY{op n:Int}{args:List Ex}:aB (.mk op n args)=[.int .u8 op,.int .i64 n,aX aB args]:=by rw[aB,Cz];rfl
theorem kK:ng 3 aB:=⟨fun⟨_,_,_⟩=>by rw[aB];rfl,fun⟨_,_,_⟩=>by rw[aB];show(true&&(true&&(Nat.ble top (nm _)&&true)))=true;rw[aL.2<|dU _];rfl⟩
theorem RR(l:List Ex):(cI l).all AV.gb=true:=by rw[Cz];exact kK.all l
theorem sR{l m:List AV}(h1:l.all AV.gb=true)(h2:m.all AV.gb=true)(h:nm l=nm m):l=m:=by have e:=Dw h1;rw[h,Dw h2] at e;injection e with e;exact e.symm
mutual
theorem nu:∀x y:Ex,aB x=aB y->x=y
 | .mk a b l,.mk c d m,h=>by rw[aB,aB] at h;simp only[List.cons.injEq,AV.int.injEq,AV.U.injEq,true_and,_root_.and_true] at h;obtain⟨h1,h2,h3,_⟩:=h;rw[h1,h2,RT l m<|sR (RR l) (RR m) h3]
theorem RT:∀l m:List Ex,cI l=cI m->l=m
 |[],[],_=>rfl
 |[],⟨_,_,_⟩::m,h=>by rw[cI,cI,aB] at h;cases h
 |⟨_,_,_⟩::l,[],h=>by rw[cI,cI,aB] at h;cases h
 |x::l,y::m,h=>by rw[cI,cI] at h;obtain⟨h1,h2⟩:=List.append_inj h (by rw[kK.len x,kK.len y]);rw[nu x y h1,RT l m h2]
end
def Ex.op:Ex->Int| .mk o _ _=>o
def Ex.n:Ex->Int| .mk _ n _=>n
def Ex.args:Ex->List Ex| .mk _ _ l=>l
def eM:Nat->Ex->Bool
 |0,_=>false
 |k+1,.mk op n args=>
  if op=1 then args.isEmpty else if op=2 then args.isEmpty&&decide (0<=n)&&decide (n<8) else if op=3 then args.isEmpty&&decide (0<=n)&&decide (n<6)
  else if op<4\/op>8\/n≠0 then false else decide (args.length=2)&&eM k (args.getD 0 default)&&eM k (args.getD 1 default)
theorem LF{k:Nat}{op n:Int}{args:List Ex}:eM (k+1) (.mk op n args)=if op=1 then args.isEmpty else if op=2 then args.isEmpty&&decide (0<=n)&&decide (n<8) else if op=3 then args.isEmpty&&decide (0<=n)&&decide (n<6) else if op<4\/op>8\/n≠0 then false else decide (args.length=2)&&eM k (args.getD 0 default)&&eM k (args.getD 1 default):=rfl
end cz
end
section
open Go Go.Rn Go.RowKit Go.Proofs
namespace dj
open cz
inductive St where
 |mk (kind to:Int) (a b:Ex) (body other:List St)
instance:Inhabited St:=⟨.mk 0 0 default default [] []⟩
mutual
noncomputable def aM:St->List AV
 | .mk kind to a b body other=>[.int .u8 kind,.int .i64 to]++(aB a++(aB b++[.U (nm<|bw body) 0 body.length,.U (nm<|bw other) 0 other.length]))
noncomputable def bw:List St->List AV
 |[]=>[]
 |e::l=>aM e++bw l
end
theorem uA:∀l:List St,bw l=(l.map aM).flatten
 |[]=>by rw[bw];rfl
 |e::l=>by rw[bw,uA l];rfl
theorem wz{kind to:Int}{a b:Ex}{body other:List St}:aM (.mk kind to a b body other)=[.int .u8 kind,.int .i64 to]++(aB a++(aB b++[aX aM body,aX aM other])):=by rw[aM,uA,uA];rfl
theorem mB:ng 10 aM:=⟨fun⟨_,_,a,b,_,_⟩=>by
 rw[aM,List.length_append,List.length_append,List.length_append,kK.len a,kK.len b];rfl,fun⟨_,_,a,b,_,_⟩=>by
 rw[aM,List.all_append,List.all_append,List.all_append,kK.gb a,kK.gb b];show(true&&(true&&true)&&(true&&(true&&(Nat.ble top (nm _)&&(Nat.ble top (nm _)&&true)))))=true;rw[aL.2<|dU _,aL.2<|dU _];rfl⟩
theorem lL(l:List St):(bw l).all AV.gb=true:=by rw[uA];exact mB.all l
mutual
theorem Mp:∀x y:St,aM x=aM y->x=y
 | .mk k t a b l m,.mk k' t' a' b' l' m',h=>by rw[aM,aM] at h;obtain⟨h1,h⟩:=List.append_inj h rfl;obtain⟨h2,h⟩:=List.append_inj h (by rw[kK.len,kK.len]);obtain⟨h3,h⟩:=List.append_inj h (by rw[kK.len,kK.len]);simp only[List.cons.injEq,AV.int.injEq,AV.U.injEq,true_and,_root_.and_true] at h1 h;rw[h1.1,h1.2,nu _ _ h2,nu _ _ h3,ss l l'<|sR (lL l) (lL l') h.1.1,ss m m'<|sR (lL m) (lL m') h.2.1]
theorem ss:∀l m:List St,bw l=bw m->l=m
 |[],[],_=>rfl
 |[],y::m,h=>by have:=congrArg List.length h;rw[bw,bw,List.length_append,mB.len y] at this;simp only[List.length_nil] at this;omega
 |x::l,[],h=>by have:=congrArg List.length h;rw[bw,bw,List.length_append,mB.len x] at this;simp only[List.length_nil] at this;omega
 |x::l,y::m,h=>by rw[bw,bw] at h;obtain⟨h1,h2⟩:=List.append_inj h (by rw[mB.len x,mB.len y]);rw[Mp x y h1,ss l m h2]
end
theorem xm(e:St):AV.hi (.agg<|aM e)=true:=by show(aM e).all AV.bZ=true;exact List.all_eq_true.2 fun x hx=>CK<|List.all_eq_true.1 (mB.gb e) x hx
def lu:Nat->Ex->Int
 |0,_=>0
 |k+1,.mk _ _ args=>args.foldl (fun n a=>n+lu k a) 1
end dj
end
section
namespace Go.Rn
variable {P:Prop}
theorem dR(h:P:=by first|omega|(simp only[List.length_set,List.length_take,List.length_append,List.length_cons,List.length_nil];omega)):P:=h
theorem Qg(h:P:=by exact ax (to<0) (fun _=>(show AV.bool false= .bool (decide<|0<=to/\to<8/\to=0/\xa=1/\xb=1/\ld=0/\le=0) from by rw[decide_eq_false ab])) fun _=>(ax (to>=8) (fun _=>(show AV.bool false= .bool (decide<|0<=to/\to<8/\to=0/\xa=1/\xb=1/\ld=0/\le=0) from by rw[decide_eq_false ab])) fun _=>(ax (to≠0) (fun _=>(show AV.bool false= .bool (decide<|0<=to/\to<8/\to=0/\xa=1/\xb=1/\ld=0/\le=0) from by rw[decide_eq_false ab])) fun _=>(ai ha<|ax (xa=1) (fun _=>(ai hb<|ax (xb=1) (fun _=>(ax ((ld:Int)=0) (fun _=>(ax ((le:Int)=0) (fun _=>(show AV.bool true= .bool (decide<|0<=to/\to<8/\to=0/\xa=1/\xb=1/\ld=0/\le=0) from by rw[decide_eq_true ab])) fun _=>(show AV.bool false= .bool (decide<|0<=to/\to<8/\to=0/\xa=1/\xb=1/\ld=0/\le=0) from by rw[decide_eq_false ab]))) fun _=>(show AV.bool false= .bool (decide<|0<=to/\to<8/\to=0/\xa=1/\xb=1/\ld=0/\le=0) from by rw[decide_eq_false ab]))) fun _=>(show AV.bool false= .bool (decide<|0<=to/\to<8/\to=0/\xa=1/\xb=1/\ld=0/\le=0) from by rw[decide_eq_false ab]))) fun _=>(show AV.bool false= .bool (decide<|0<=to/\to<8/\to=0/\xa=1/\xb=1/\ld=0/\le=0) from by rw[decide_eq_false ab]))))):P:=h
theorem ct(h:P:=by as_aux_lemma=>kernel_rfl):P:=h
theorem bh(h:P:=by exact fun _=>(oF ab)):P:=h
theorem oP(h:P:=by exact fun _=>(wq0 (m:=m) (op:=op) (n:=n) (L:=L) (x0:=x0) (x1:=x1) ab)):P:=h
theorem Xq(h:P:=by exact ax (to<0) (fun _=>(show AV.bool false= .bool (decide<|0<=to/\to<8/\xa=1/\xb=1/\ld=0/\le=0) from by rw[decide_eq_false ab])) fun _=>(ax (to>=8) (fun _=>(show AV.bool false= .bool (decide<|0<=to/\to<8/\xa=1/\xb=1/\ld=0/\le=0) from by rw[decide_eq_false ab])) fun _=>(ai ha<|ax (xa=1) (fun _=>(ai hb<|ax (xb=1) (fun _=>(ax ((ld:Int)=0) (fun _=>(ax ((le:Int)=0) (fun _=>(show AV.bool true= .bool (decide<|0<=to/\to<8/\xa=1/\xb=1/\ld=0/\le=0) from by rw[decide_eq_true ab])) fun _=>(show AV.bool false= .bool (decide<|0<=to/\to<8/\xa=1/\xb=1/\ld=0/\le=0) from by rw[decide_eq_false ab]))) fun _=>(show AV.bool false= .bool (decide<|0<=to/\to<8/\xa=1/\xb=1/\ld=0/\le=0) from by rw[decide_eq_false ab]))) fun _=>(show AV.bool false= .bool (decide<|0<=to/\to<8/\xa=1/\xb=1/\ld=0/\le=0) from by rw[decide_eq_false ab]))) fun _=>(show AV.bool false= .bool (decide<|0<=to/\to<8/\xa=1/\xb=1/\ld=0/\le=0) from by rw[decide_eq_false ab])))):P:=h
theorem Xr(h:P:=by exact ax (to<0) (fun _=>(show AV.bool false= .bool (decide<|0<=to/\to<8/\to=0/\xa=1/\xb=1) from by rw[decide_eq_false ab])) fun _=>(ax (to>=8) (fun _=>(show AV.bool false= .bool (decide<|0<=to/\to<8/\to=0/\xa=1/\xb=1) from by rw[decide_eq_false ab])) fun _=>(ax (to≠0) (fun _=>(show AV.bool false= .bool (decide<|0<=to/\to<8/\to=0/\xa=1/\xb=1) from by rw[decide_eq_false ab])) fun _=>(ai ha<|ax (xa=1) (fun _=>(ai hb<|ax (xb=1) (fun _=>(show AV.bool true= .bool (decide<|0<=to/\to<8/\to=0/\xa=1/\xb=1) from by rw[decide_eq_true ab])) fun _=>(show AV.bool false= .bool (decide<|0<=to/\to<8/\to=0/\xa=1/\xb=1) from by rw[decide_eq_false ab]))) fun _=>(show AV.bool false= .bool (decide<|0<=to/\to<8/\to=0/\xa=1/\xb=1) from by rw[decide_eq_false ab]))))):P:=h
theorem np(h:P:=by exact fun fr s1 p hC=>by obtain⟨rfl,rfl⟩:=hC;exact H):P:=h
theorem KR(h:P:=by exact nM (st:=(eV a n c u fs)) (s:=aq (aeR a n c u fs kind to op nn N L aE n2 N2 L2 N3 L3 N4 L4) 275) (show(.agg [(u8<|.ofNat 1),i0,i0])=Y from(EI ab ab ab)) ct ct ct):P:=h
theorem Xs(h:P:=by exact dq to (Int.ofNat 8)<|ai (MZ (c':=(i6 z)) (show((a.row (.ptr<|some (271,0)) (.slice (some (272,0)) (len) cap)<|i6 a.steps):List AV).length<=top from aL.1 aW) (Uk (a.row (.ptr<|some (271,0)) (.slice (some (272,0)) (len) cap)<|i6 a.steps) (k:=2+to.toNat) ab) rfl)<|nM (st:=(⟨⟨(a.pre:List AV).set (2+to.toNat)<|.int .i64 z,len,cap,[.int .i64 a.steps]⟩,u,row⟩:VS)) (s:=aq (Vd a len cap to z u row kind op n N L aE n2 N2 L2 N3 L3 N4 L4) 274) (show((.tuple []):AV)= .tuple [] from rfl) ((show(aq (Vd a len cap to z u row kind op n N L aE n2 N2 L2 N3 L3 N4 L4) 274).h.get 270=(some<|aN lS<|((a.row (.ptr<|some (271,0)) (.slice (some (272,0)) (len) cap)<|i6 a.steps):List AV).set (2+to.toNat)<|i6 z) from ct).trans<|congrArg some<|Ul (pre:=a.pre) (post:=[.int .i64 a.steps]) (len:=len) (i:=2+to.toNat) (r1:=271) (r2:=272) (cap:=cap) (c:=.int .i64 z) (by show 2+to.toNat<10;omega)) ct ct):P:=h
theorem Wn(h:P:=by exact fun _=>(jL [mm,iG,jG,lf,mf] 53 272 (vR nN) (w6 op nn N L) (eV a n c u fs) (i6 v) hO hv hA ct<|ai hg<|nM (st:=(eV a n c u fs)) (s:=aq (ar++[(270,some<|.cells 13 (Tr.fill (a.row (.ptr<|some (271,0)) (I7 n c)<|i6 a.steps) 0 .nil) []),(271,(some<|.tok 3 u)),(272,(some<|aN aH fs)),(273,some<|.cells 3 (Tr.fill [(u8<|.ofNat 2),(i6 v),i0] 0 .nil) []),(274,some<|.cells 10 (Tr.fill (sS kind to op nn N L aE n2 N2 L2 N3 L3 N4 L4) 0 .nil) [])]) 275) (show(.agg [(u8<|.ofNat 2),(i6 v),i0])=Y from(E2 ab)) ct ct ct)):P:=h
theorem Wo(h:P:=by exact fun _=>(jL [mm,iG,jG,lf,mf] 51 272 (vR jr) (w6 op nn N L) (eV a n c u fs) (i6 z) hO hz hA ct<|nM (st:=(eV a n c u fs)) (s:=aq (ar++[(270,some<|.cells 13 (Tr.fill (a.row (.ptr<|some (271,0)) (I7 n c)<|i6 a.steps) 0 .nil) []),(271,(some<|.tok 3 u)),(272,(some<|aN aH fs)),(273,some<|.cells 3 (Tr.fill [(u8<|.ofNat 3),i0,(i6 z)] 0 .nil) []),(274,some<|.cells 10 (Tr.fill (sS kind to op nn N L aE n2 N2 L2 N3 L3 N4 L4) 0 .nil) [])]) 275) (show(.agg [(u8<|.ofNat 3),i0,(i6 z)])=Y from(E8 ab)) ct ct ct)):P:=h
theorem Wp(h:P:=by exact fun _=>(dq (0:Int) 2<|ai hn<|ai rY<|ai iM<|ax (x0=1) (fun _=>(dq (1:Int) 2<|ai hn<|ai jc<|ai jK<|ax (x1=1) (fun _=>(show AV.bool true= .bool (decide<|¬(op=3/\n>=z)/\x0=1/\x1=1) from by rw[decide_eq_true ab])) fun _=>(show AV.bool false= .bool (decide<|¬(op=3/\n>=z)/\x0=1/\x1=1) from by rw[decide_eq_false ab]))) fun _=>(show AV.bool false= .bool (decide<|¬(op=3/\n>=z)/\x0=1/\x1=1) from by rw[decide_eq_false ab]))):P:=h
theorem Wq(h:P:=by exact fun _=>(ax (op<4) oP fun _=>(ax (op>8) oP fun _=>(ax (n≠0) oP fun _=>(ax ((L:Int)≠2) oP fun _=>(dq (0:Int) (L:Int)<|ai hn<|ai (rY ab)<|ai (wI<|m - 1)<|ai (iM ab ab)<|ax (x0=1) (fun _=>(dq (1:Int) (L:Int)<|ai hn<|ai (jc ab)<|ai (wI<|m - 1)<|ai (jK ab ab)<|ax (x1=1) Ke oP)) oP)))))):P:=h
theorem Ws(h:P:=by exact fun _=>(nM (st:=(eV a n c u fs)) (s:=aq (ar++[(270,some<|.cells 13 (Tr.fill (a.row (.ptr<|some (271,0)) (I7 n c)<|i6 a.steps) 0 .nil) []),(271,(some<|.tok 3 u)),(272,(some<|aN aH fs)),(273,some<|.cells 3 (Tr.fill [(u8<|.ofNat 4),i0,i0] 0 .nil) []),(274,some<|.cells 10 (Tr.fill (sS kind to op nn N L aE n2 N2 L2 N3 L3 N4 L4) 0 .nil) [])]) 275) (show(.agg [(u8<|.ofNat 4),i0,i0])=Y from(E6 ab ab)) ct ct ct)):P:=h
theorem Pr(h:P:=by exact vV LM 62 280 (dH eJ) [] (aQ A1.pre m1 (.ak c1 13) A1.steps u1 bq) (aQ A2.pre m2 (.ak c2 13) A2.steps u2 bj) k9 rV yd<|Em 41 2 38 (dF 41 [1,1,1,1,1,1,1,1,1]) A2 m2 (.ak c2 13) u2 bj 280 281 hlen nO):P:=h
theorem BE(h:P:=by exact wI<|(av (fs.take n)<|(((0+n):Nat):Int) - 1).ah+1):P:=h
theorem Wt(h:P:=by exact ky (show((a.row (.ptr<|some (271,0)) (.slice (some (272,0)) (len) cap)<|i6 a.steps):List AV).length<=top from aL.1 aW) (show((a.row (.ptr<|some (271,0)) (.slice (some (272,0)) (len) cap)<|i6 a.steps):List AV)[10]? =some (.ptr<|some (271,0)) from rfl)):P:=h
theorem Kf(h:P:=by exact fun _=>(rfl:AV.tuple [.ptr none,.int .i64<|.ofNat 1]= .tuple [.ptr none,.int .i64 1])):P:=h
theorem BF(h:P:=by exact wI<|(((0+n):Nat):Int) - 1):P:=h
theorem Wu(h:P:=by exact fun _=>(ax (kind=2) (fun _=>(jL [mm,iG,jG,lf,mf] 53 272 (vR nN) (w6 op nn N L) (eV a n c u fs) (i6 v) hO hv hA ct<|ai hg KR)) fun _=>KR)):P:=h
theorem Ke(h:P:=by exact fun _=>(wq1 (m:=m) (op:=op) (n:=n) (L:=L) (x0:=x0) (x1:=x1) ab)):P:=h
theorem Ps(h:P:=by exact ai k1 (show((.bool true):AV)= .bool true from rfl)):P:=h
theorem Pt(h:P:=by simp only[List.length_nil];unfold room;omega):P:=h
theorem Pu(h:P:=by simp only[List.length_nil];unfold top;omega):P:=h
theorem BG(h:P:=by exact wI<|a.steps+1):P:=h
theorem Wv(h:P:=by exact ax (i<(L:Int)) bh fun _=>(show(.tuple [(i6 m),(.bool false)])=v from hv)):P:=h
theorem gq(h:P:=by first|exact m0.bA|exact mp.bA|exact m1.bA|exact hK|exact hN|exact hB|exact qK|exact pP|exact hv|exact hA|exact lJ.bA|exact hE|exact mE.bA):P:=h
theorem ab(h:P:=by omega):P:=h
theorem qL(h:P:=by first|exact m0.bA|exact mp.bA|exact m1.bA|exact hK|exact hN|exact hB|exact qK|exact pP|exact hv|exact hA|exact lJ.bA|exact hE|exact mE.bA|exact hW|exact bM|exact hD):P:=h
theorem aW(h:P:=by kernel_rfl):P:=h
theorem cN(h:P:=by as_aux_lemma=>kernel_rfl):P:=h
theorem vW(h:P:=by first|exact m0.bA|exact mp.bA|exact m1.bA|exact hK|exact hN|exact hB|exact qK|exact pP|exact hv|exact hA|exact lJ.bA|exact hE|exact mE.bA|exact hD):P:=h
theorem vX(h:P:=by first|exact m0.bA|exact mp.bA|exact m1.bA|exact hK|exact hN|exact hB|exact qK|exact pP|exact hv|exact hA|exact lJ.bA|exact hX):P:=h
theorem yh(h:P:=by first|exact m0.bA|exact mp.bA|exact m1.bA|exact hK|exact hN|exact hB|exact qK|exact pP|exact hv|exact hA):P:=h
theorem Cc(h:P:=by first|exact m0.bA|exact mp.bA|exact m1.bA|exact hK|exact hN|exact hB|exact qK|exact pP|exact hv|exact hA|exact Xt):P:=h
theorem En(h:P:=by first|omega|(simp only[List.length_set,List.length_take,List.length_append,List.length_cons,List.length_nil];omega)):P:=h
theorem iy(h:P:=by unfold top;omega):P:=h
theorem zB(h:P:=by simp only[reduceCtorEq,true_or,false_or,true_and,_root_.and_true];omega):P:=h
theorem zC(h:P:=by have:=m0.len;have:top=549755813888:=rfl;omega):P:=h
theorem zD(h:P:=by show 2*((dZ m'.fs.reverse:Nat):Int)<=_;omega):P:=h
theorem rF(h:P:=by rw[List.all_cons,Bq];rfl):P:=h
theorem qD(h:P:=by rw[t.n];omega):P:=h
theorem Kg(h:P:=by show 2*((dZ m.fs.reverse:Nat):Int)<=_;omega):P:=h
theorem Ww(h:P:=by rw[List.all_cons,show AV.hi (.U (nm<|bw b) 0 b.length)=true from aL.2<|dU _];rfl):P:=h
theorem Gp(h:P:=by rw[List.reverse_reverse];exact d2.eq):P:=h
theorem Gq(h:P:=by rw[List.reverse_reverse];exact d.eq):P:=h
theorem tL(h:P:=by rw[p1];omega):P:=h
theorem nP(h:P:=by cases hp):P:=h
theorem Wx(h:P:=by simp only[List.mem_cons,List.not_mem_nil,or_false] at hp;subst hp;show 270<271;omega):P:=h
theorem Pv(h:P:=by first|rfl|exact aL.2 (dU _)|assumption):P:=h
theorem Pw(h:P:=by first|exact m0.bA|exact d.run|exact d.ep.bA):P:=h
theorem Gr(h:P:=by rw[List.length_cons];omega):P:=h
theorem Px(h:P:=by rw[List.length_cons,List.length_cons];omega):P:=h
end Go.Rn
end
section
open Go Go.Rn Go.RowKit Go.Proofs
namespace eX
open cz dj
def zh(n:Int):List AV:=[.int .i64 n]
theorem KV:ng 1 zh:=⟨fun _=>rfl,fun _=>rfl⟩
theorem aaF(x y:Int)(h:zh x=zh y):x=y:=by simp only[zh,List.cons.injEq,AV.int.injEq,true_and,_root_.and_true] at h;exact h
def kg(c:AV):List AV:=[c]
abbrev bz:=List<|List<|Int×Int
def JS(p:Int×Int):AV:=.agg [.int .i64 p.1,.int .i64 p.2]
def bW(ms:bz):AV:=.agg<|ms.map fun m=>.agg<|m.map JS
theorem aaG(p q:Int×Int)(h:JS p=JS q):p=q:=by obtain⟨a,b⟩:=p;obtain⟨c,d⟩:=q;simp only[JS,AV.agg.injEq,List.cons.injEq,AV.int.injEq,true_and,_root_.and_true] at h;rw[h.1,h.2]
theorem wB:∀a b,bW a=bW b->a=b:=by
 intro a b h;injection h with h
 refine(List.map_inj_right fun x y e=>?_).1 h;injection e with e
 exact(List.map_inj_right aaG).1 e
def mq(n:Nat):List AV:=(List.range n).map fun i=>.map<|some<|272+i
noncomputable def qm:Nat->bz->List (Nat×ae)
 |_,[]=>[]
 |k,m::ms=>(k,bG m)::qm (k+1) ms
noncomputable def Wz(n:Nat)(cap:cL):ae:=aN kg [.slice (some (271,0)) n cap]
noncomputable def gC(ms:bz)(cap:cL):List<|Nat×ae:=(270,Wz ms.length cap)::(271,aN kg<|mq ms.length)::qm 272 ms
def fe(ms:bz):Prop:=(1<=ms.length/\ms.length<=7)/\∀m∈ms,fS m
def tN(n:Nat)(cap:cL):Prop:=cap= .ak n 1\/(n=1/\cap= .known 1)
theorem Ms:∀{k:Nat} {ms:bz} {p:Nat×ae},p∈qm k ms->k<=p.1/\p.1<k+ms.length/\∃m,p.2=bG m
 |k,[],p,h=>by cases h
 |k,m::ms,p,h=>by
  rcases List.mem_cons.1 h with rfl|h
  ·exact⟨Nat.le_refl _,by rw[List.length_cons];omega,m,rfl⟩
  ·obtain⟨h1,h2,h3⟩:=Ms h;exact⟨by omega,by rw[List.length_cons];omega,h3⟩
theorem SI:∀{k:Nat} {ms:bz} {i:Nat},i<ms.length->k+i∈(qm k ms).map (·.1)
 |k,[],i,h=>by cases h
 |k,m::ms,0,h=>List.mem_cons_self
 |k,m::ms,i+1,h=>by have:=SI (k:=k+1) (ms:=ms) (i:=i) (by rw[List.length_cons] at h;omega);rw[show k+(i+1)=k+1+i by omega];exact List.mem_cons_of_mem _ this
structure Fr where
 block:List St
 ah:Int
 turns:Int
 ch:Bool
 kept:List Int
 other:Option<|List St
instance:Inhabited Fr:=⟨⟨[],0,0,false,[],none⟩⟩
noncomputable def zZ:Option (List St)->AV
 |none=>.slice none 0<|.known 0
 |some l=>aX aM l
theorem ac8(o:Option<|List St):(zZ o).cj=true:=by cases o<;>rfl
theorem aeV(o:Option<|List St):(zZ o).bZ=true:=by
 cases o with
 |none=>rfl
 |some l=>exact aL.2<|dU _
def eight(l:List Int):List AV:=[.int .i64<|l.getD 0 0,.int .i64<|l.getD 1 0,.int .i64<|l.getD 2 0,.int .i64<|l.getD 3 0,.int .i64<|l.getD 4 0,.int .i64<|l.getD 5 0,.int .i64<|l.getD 6 0,.int .i64<|l.getD 7 0]
noncomputable def aH(f:Fr):List AV:=[aX aM f.block,.int .i64 f.ah,.int .i64 f.turns,.bool f.ch]++(eight f.kept++[zZ f.other])
theorem fy(f:Fr):(aH f).length=13:=rfl
theorem Mu(f:Fr):(aH f).all AV.cj=true:=by show(true&&(true&&(true&&(true&&(true&&(true&&(true&&(true&&(true&&(true&&(true&&(true&&((zZ f.other).cj&&true)))))))))))))=true;rw[ac8];rfl
theorem Tu(f:Fr):∀c∈aH f,c.bZ=true:=fun c hc=>by
 have h:(aH f).all AV.bZ=true:=by show((aX aM f.block).bZ&&(true&&(true&&(true&&(true&&(true&&(true&&(true&&(true&&(true&&(true&&(true&&((zZ f.other).bZ&&true)))))))))))))=true;rw[show(aX aM f.block).bZ=true from aL.2<|dU _,aeV];rfl
 exact List.all_eq_true.1 h c hc
noncomputable def KW(f:Fr):AV:=.agg [aX aM f.block,.int .i64 f.ah,.int .i64 f.turns,.bool f.ch,.agg<|f.kept.map fun x=>.int .i64 x,zZ f.other]
theorem Mv{l m:List St}(h:aX aM l=aX aM m):l=m:=by
 injection h with h _ _
 have h:nm (bw l)=nm (bw m):=by rw[uA,uA];exact h
 exact ss _ _<|sR (lL _) (lL _) h
theorem Uo{a b:Option<|List St}(h:zZ a=zZ b):a=b:=by
 cases a with
 |none=>cases b with
  |none=>rfl
  |some m=>cases h
 |some l=>cases b with
  |none=>cases h
  |some m=>exact congrArg some<|Mv h
theorem Tv{l m:List Int}(h:(l.map fun x=>AV.int .i64 x)=m.map fun x=>.int .i64 x):l=m:=(List.map_inj_right fun x y e=>by injection e).1 h
theorem ac9(f g:Fr)(h:KW f=KW g):f=g:=by obtain⟨a1,a2,a3,a4,a5,a6⟩:=f;obtain⟨b1,b2,b3,b4,b5,b6⟩:=g;simp only[KW,AV.agg.injEq,List.cons.injEq,AV.int.injEq,AV.bool.injEq,true_and,_root_.and_true] at h;obtain⟨h1,rfl,rfl,rfl,h5,h6⟩:=h;rw[Mv h1,Tv h5,Uo h6]
structure dO where
 vars:Int
 aK:List Int
 l:List Int
 b:bz
 fs:List Fr
 steps:Int
noncomputable def VJ(a:dO)(c:Nat):List AV:=[.int .i64 a.vars,aX zh a.aK]++(eight a.l++[.ptr<|some (271,0),.slice (some (272,0)) a.fs.length<|.ak c 13,.int .i64 a.steps])
noncomputable def bU(a:dO):AV:=.agg [.int .i64 a.vars,aX zh a.aK,.agg<|a.l.map fun x=>.int .i64 x,bW a.b,.agg<|a.fs.map KW,.int .i64 a.steps]
theorem CB:∀a b,bU a=bU b->a=b:=by
 intro a b h;obtain⟨a1,a2,a3,a4,a5,a6⟩:=a;obtain⟨b1,b2,b3,b4,b5,b6⟩:=b;simp only[bU,AV.agg.injEq,List.cons.injEq,AV.int.injEq,true_and,_root_.and_true] at h;obtain⟨rfl,h2,h3,h4,h5,rfl⟩:=h;have e2:a2=b2:=by refine(eC.aX KV a2).inj aaF ?_;rw[h2];exact eC.aX KV b2
 rw[e2,Tv h3,wB _ _ h4,(List.map_inj_right ac9).1 h5]
def Bb(a:dO):Prop:=a.l.length=8/\fe a.b/\a.fs.length<=1000/\a.aK.length<=1000/\(1<=a.vars/\a.vars<=32)
noncomputable def kz(a:dO)(bH:List Fr)(c:Nat):List<|Nat×ae:=[(270,aN kg<|VJ a c),(271,.tok 3<|bW a.b),(272,aN aH<|a.fs++bH)]
def ny(a:dO)(bH:List Fr)(c:Nat):Prop:=a.fs.length<=c/\(a.fs++bH).length<=1000000/\∀f∈bH,(0<=f.turns/\f.turns<=1000000)/\f.kept.length=8
theorem wL{n:Nat}(h:n<100000):n<top:=by have:top=549755813888:=rfl;omega
theorem C5(l:List AV):(l.map kg).flatten=l:=by
 induction l with
 |nil=>rfl
 |cons x l ih=>rw[List.map_cons,List.flatten_cons,ih];rfl
theorem ZN{ns:List Nat}{m:List<|Int×Int}:lv ns<|bG m:=fun _ _ _ h=>wA h
theorem aeW{ms:bz}{cap:cL}(h:fe ms):∀p∈gC ms cap,270<=p.1/\p.1<top/\(p.2.own=true\/p.2.kZ=true)/\lv ((gC ms cap).map (·.1)) p.2:=by
 intro p hp;have h8:=h.1.2;rcases List.mem_cons.1 hp with rfl|hp
 ·refine⟨Nat.le_refl _,wL (by show 270<100000;omega),.inl rfl,lv.row ?_ fun c hc=>?_⟩
  ·rw[C5];exact Nat.le_of_lt<|wL (by show 1<100000;omega)
  ·rw[C5] at hc;rw[List.mem_singleton] at hc;subst hc;exact gz.slice (by simp[gC])
 rcases List.mem_cons.1 hp with rfl|hp
 ·refine⟨by show 270<=271;omega,wL (by show 271<100000;omega),.inl rfl,lv.row ?_ fun c hc=>?_⟩
  ·rw[C5,mq,List.length_map,List.length_range];exact Nat.le_of_lt<|wL ab
  ·rw[C5] at hc;obtain⟨i,hi,rfl⟩:=List.mem_map.1 hc;refine gz.map ?_;show 272+i∈270::271::(qm 272 ms).map (·.1);exact List.mem_cons_of_mem _<|List.mem_cons_of_mem _<|SI<|List.mem_range.1 hi
 ·obtain⟨h1,h2,m,h3⟩:=Ms hp;refine⟨by omega,wL ab,.inl (by rw[h3];rfl),by rw[h3];exact ZN⟩
theorem ada{a:dO}{bH:List Fr}{c:Nat}(h:Bb a)(hj:ny a bH c):∀p∈kz a bH c,270<=p.1/\p.1<top/\(p.2.own=true\/p.2.kZ=true)/\lv ((kz a bH c).map (·.1)) p.2:=by
 intro p hp;simp only[kz,List.mem_cons,List.not_mem_nil,or_false] at hp;rcases hp with rfl|rfl|rfl
 ·refine⟨Nat.le_refl _,wL (by show 270<100000;omega),.inl rfl,lv.row ?_ fun c hc=>?_⟩
  ·rw[C5];exact Nat.le_of_lt<|wL (by show 13<100000;omega)
  ·rw[C5] at hc;simp only[VJ,eight,List.cons_append,List.nil_append,List.mem_cons,List.not_mem_nil,or_false] at hc;rcases hc with rfl|rfl|rfl|rfl|rfl|rfl|rfl|rfl|rfl|rfl|rfl|rfl|rfl
   ·exact gz.hi rfl
   ·exact gz.hi<|aL.2<|dU _
   ·exact gz.hi rfl
   ·exact gz.hi rfl
   ·exact gz.hi rfl
   ·exact gz.hi rfl
   ·exact gz.hi rfl
   ·exact gz.hi rfl
   ·exact gz.hi rfl
   ·exact gz.hi rfl
   ·exact gz.ptr (by simp[kz])
   ·exact gz.slice (by simp[kz])
   ·exact gz.hi rfl
 ·exact⟨by show 270<=271;omega,wL (by show 271<100000;omega),.inr rfl,lv.tok⟩
 ·have h3:=hj.2.1;have ht:top=549755813888:=rfl;refine⟨by show 270<=272;omega,wL (by show 272<100000;omega),.inl rfl,lv.row ?_ fun c hc=>?_⟩
  ·rw[yA (K:=13) fy];omega
  ·obtain⟨x,hx,hc⟩:=List.mem_flatten.1 hc;obtain⟨f,_,rfl⟩:=List.mem_map.1 hx;exact gz.hi<|Tu f c hc
end eX
end
section
open Go Go.Rn Go.RowKit Go.Proofs
namespace cq
open eX
variable {T A:Prop} {i nv nl:Nat} {c y v c' Y:AV} {ns:List Nat} {C:zx}
noncomputable abbrev pg:Program:=Tryz.prog
abbrev az(f:Func):List ResultVar:=f.results.toList
noncomputable abbrev dF(g:Nat)(p:List Nat):List Item:=[.code<|a9 Tryz.prog g p]
noncomputable abbrev sF(g:Nat)(f:Func)(args:List AV):AF:=⟨g,eh args,max f.ntmps args.length,[.code<|a9 Tryz.prog g []],[],none⟩
def aeX:List<|Option FuncId:=[none,none,none,none,some 121,some 122,some 123,some 124,some 126]
noncomputable section
def RY:List AV:=aeX.map Ix
def dV:Tr ae:=(Tr.nil).put 0<|some<|.ro RY.length<|Tr.fill RY 0 .nil
end
def eK:List Nat:=[0]
theorem bV:Tryz.prog.follows .mixedOrders=true:=by kernel_rfl
theorem hJ:fN<=270:=aL.1 aW
theorem aaH:fN<=271:=aL.1 aW
theorem qd:270<=top:=aL.1 aW
noncomputable def ar:List<|Nat×Option ae:=eK.map fun n=>(n,dV.get n)
theorem Tw:gf ar=dV:=by kernel_rfl
theorem gX:aq ar 270=⟨dV,270,0,[],[]⟩:=by show(⟨gf ar,270,0,[],[]⟩:AS)=_;rw[Tw]
theorem lB:∀p∈ar,p.1<top:=fun p hp=>by obtain⟨k,hk,rfl⟩:=List.mem_map.1 hp;exact LJ (m:=top) (l:=eK) aW k hk
theorem lT:∀n o,(n,some o)∈ar->dV.get n=some o:=fun n o hm=>by
 obtain⟨k,hk,e⟩:=List.mem_map.1 hm;injection e with e1 e2
 rw[←e1];exact e2
theorem iT(n:Nat)(o:ae)(_:n<top)(h:dV.get n=some o):n∈eK:=by
 rw[←Tw] at h;obtain⟨k,hk,e⟩:=List.mem_map.1<|wx (l:=ar) lB h;injection e with e1 _
 rw[←e1];exact hk
theorem iz:∀n∈eK,n<270:=fun n hn=>LJ (m:=270) (l:=eK) aW n hn
def bS(n:Int):List AV:=[.int .i64 n]
theorem eI:ng 1 bS:=⟨fun _=>rfl,fun _=>rfl⟩
theorem wD(x y:Int)(h:bS x=bS y):x=y:=by simp only[bS,List.cons.injEq,AV.int.injEq,true_and,_root_.and_true] at h;exact h
def lS(c:AV):List AV:=[c]
noncomputable abbrev en(L:bY):Env:=xQ pg 270 eK dV L 270 true
noncomputable abbrev yj(L:bY):Env:=xQ pg 270 eK dV L 271 true
noncomputable abbrev sp(L:bY):Sp:=dA 270 eK dV L
structure jH where
 rv:Int
 qW:Int
 has:List Bool
def nQ(a:jH):List AV:=[AV.int .i64 a.rv,AV.int .i64 a.qW]++a.has.map AV.bool
def jt(a:jH):AV:=.agg<|nQ a
def pe(a:jH):Prop:=ze a.rv/\(1<=a.qW/\a.qW<=32)/\a.has.length=32
theorem H9:∀a b,jt a=jt b->a=b:=by
 intro a b h;obtain⟨r,s,l⟩:=a;obtain⟨r',s',l'⟩:=b;injection h with h
 simp only[nQ,List.cons_append,List.nil_append,List.cons.injEq,AV.int.injEq,true_and] at h;obtain⟨rfl,rfl,h⟩:=h;have:l=l':=by
  have inj:∀x y:Bool,AV.bool x=AV.bool y->x=y:=fun x y h=>by injection h
  clear r s;induction l generalizing l' with
  |nil=>cases l' with
   |nil=>rfl
   |cons _ _=>cases h
  |cons x l ih=>cases l' with
   |nil=>cases h
   |cons y l'=>simp only[List.map_cons,List.cons.injEq] at h;rw[inj x y h.1,ih l' h.2]
 rw[this]
noncomputable def BH(a:jH):ae:=aN lS<|nQ a
structure Lk where
 owner:Int
 version:Int
deriving Inhabited
def nB(k:Lk):List AV:=[.int .i64 k.owner,.int .i64 k.version]
structure cr where
 ba:List Lk
 aO:Int
 fT:Int
 cC:List Int
def aC(a:cr):AV:=.agg [.int .i64 a.aO,.int .i64 a.fT,.agg<|a.ba.map fun k=>.agg<|nB k,.agg<|a.cC.map fun x=>.int .i64 x]
def kf(a:cr):Prop:=(1<=a.ba.length/\a.ba.length<=32)/\(1<=a.cC.length/\a.cC.length<=32)/\0<=a.aO/\a.fT<=1099511627776
theorem Mw:∀a b,aC a=aC b->a=b:=by
 intro a b h;obtain⟨l,c,m,v⟩:=a;obtain⟨l',c',m',v'⟩:=b;injection h with h
 simp only[List.cons.injEq,AV.int.injEq,AV.agg.injEq,true_and,_root_.and_true] at h;obtain⟨rfl,rfl,h1,h2⟩:=h;have e1:l=l':=(List.map_inj_right (fun x y e=>by obtain⟨o,w⟩:=x;obtain⟨o',w'⟩:=y;simp only[nB,AV.agg.injEq,List.cons.injEq,AV.int.injEq,true_and,_root_.and_true] at e;obtain⟨rfl,rfl⟩:=e;rfl)).1 h1;have e2:v=v':=(List.map_inj_right fun x y e=>by injection e).1 h2;rw[e1,e2]
def jR(nl nv:Nat)(c1 c2:cL)(aO fT:Int):List AV:=[.slice (some (271,0)) nl c1,.int .i64 aO,.int .i64 fT,.slice (some (272,0)) nv c2]
noncomputable def OU(nl nv:Nat)(c1 c2:cL)(aO fT:Int):ae:=aN lS<|jR nl nv c1 c2 aO fT
noncomputable def Br(a:cr)(c1 c2:cL):List<|Nat×ae:=[(270,OU a.ba.length a.cC.length c1 c2 a.aO a.fT),(271,aN nB a.ba),(272,aN bS a.cC)]
inductive XT:TX
 |set (a:jH) (h:pe a):XT 1 (jt a) [(270,BH a)]
 |heap (a:cr) (h:kf a) (c1 c2:cL):XT 2 (aC a)<|Br a c1 c2
 |buf (ms:bz) (h:fe ms) (cap:cL) (hc:tN ms.length cap):XT 3 (bW ms)<|gC ms cap
 |BI (a:dO) (h:Bb a) (bH:List Fr) (c:Nat) (hj:ny a bH c):XT 4 (bU a)<|kz a bH c
theorem DA(l:List AV):(l.map lS).flatten=l:=by
 induction l with
 |nil=>rfl
 |cons x l ih=>rw[List.map_cons,List.flatten_cons,ih];rfl
theorem adb(a:jH):∀c∈nQ a,c.bZ=true:=fun c hc=>by
 rcases List.mem_append.1 hc with h|h
 ·simp only[List.mem_cons,List.not_mem_nil,or_false] at h;rcases h with rfl|rfl<;>rfl
 ·obtain⟨b,_,rfl⟩:=List.mem_map.1 h;rfl
theorem Tx(a:jH)(h:a.has.length=32):(nQ a).length=34:=by unfold nQ;rw[List.length_append,List.length_map,h];rfl
theorem XA(x:AV):(lS x).length=1:=rfl
theorem ky{l:List AV}(hl:l.length<=top)(hc:l[i]? =some c):cellsOf (some<|aN lS l) i 1=some [c]:=by have:=ke XA (l:=l) (i:=i) ab hc 0 1 rfl;rwa[Nat.mul_one,Nat.add_zero] at this
theorem Up{l:List AV}(hl:l.length<=top)(hc:l[i]? =some c)(h1:c'.cj=true):xh (some<|aN lS l) i [c']=some (aN lS<|l.set i c'):=by have:=qc XA (l:=l) (i:=i) (c':=c') (r:=[c']) ab hc 0 rfl rfl (by rw[List.all_cons,h1];rfl);rwa[Nat.mul_one,Nat.add_zero] at this
theorem MZ{l:List AV}{z:Nat}(hl:l.length<=top)(hc:l[i+z]? =some c)(h1:c'.cj=true):xh (some<|aN lS l) (i+z*1) [c']=some (aN lS<|l.set (i+z) c'):=by rw[Nat.mul_one];exact Up hl hc h1
theorem M3{a:jH}(h:pe a):(nQ a).length<=top:=by rw[Tx a h.2.2];exact aL.1 aW
abbrev px(k:Nat)(y:AV)(v:AV)(s:AS)(Y:AV):Prop:=Y=y/\∃L',XT k v L'/\∀m o,(m,o)∈L'->s.h.get m=some o
theorem DY{k:Nat}{o:ae}(hx:XT k v [(270,o)])(e:Y=y)(nx:Nat):px k y v (aq (ar++[(270,some o)]) nx) Y:=by
 refine⟨e,_,hx,fun m p hm=>?_⟩;simp only[List.mem_cons,List.not_mem_nil,or_false] at hm;injection hm with h1 h2
 subst h1;subst h2;kernel_rfl
abbrev VK(B:aJ)(g nt:Nat)(rs:List ResultVar)(k:Nat)(o:ae)(rest:List AV)(y v':AV):Prop:=au pg B 271 (iW XT pg rs k y v') ⟨g,eh<|.ptr (some (270,0))::rest,nt,[.code<|a9 pg g []],[],none⟩<|aq (ar++[(270,some o)]) 271
theorem ade{l:List Lk}:∀c∈(l.map nB).flatten,gz ns c:=fun c hc=>by obtain⟨x,hx,hc⟩:=List.mem_flatten.1 hc;obtain⟨k,_,rfl⟩:=List.mem_map.1 hx;simp only[nB,List.mem_cons,List.not_mem_nil,or_false] at hc;rcases hc with rfl|rfl<;>exact gz.hi rfl
theorem aeY{l:List Int}:∀c∈(l.map bS).flatten,gz ns c:=fun c hc=>by obtain⟨x,hx,hc⟩:=List.mem_flatten.1 hc;obtain⟨k,_,rfl⟩:=List.mem_map.1 hx;simp only[bS,List.mem_cons,List.not_mem_nil,or_false] at hc;subst hc;exact gz.hi rfl
theorem yT{n:Nat}(h:n<1024):n<top:=by have:top=549755813888:=rfl;omega
theorem rZ:ye XT 270:=by
 refine⟨fun k v L hx p hp=>?_,fun k v L hx=>?_⟩
 ·cases hx with
  |set a h=>
   simp only[List.mem_cons,List.not_mem_nil,or_false] at hp;subst hp;refine⟨Nat.le_refl _,aL.1 aW,.inl rfl,lv.row ?_ fun c hc=>?_⟩
   ·rw[DA,Tx a h.2.2];exact aL.1 aW
   ·rw[DA] at hc;exact gz.hi<|adb a c hc
  |heap a h c1 c2=>
   simp only[Br,List.mem_cons,List.not_mem_nil,or_false] at hp;have h1:=h.1.2;have h2:=h.2.1.2;rcases hp with rfl|rfl|rfl
   ·refine⟨Nat.le_refl _,aL.1 aW,.inl rfl,lv.row ?_ fun c hc=>?_⟩
    ·rw[DA];exact Nat.le_of_lt<|yT (by show 4<1024;omega)
    ·rw[DA] at hc;simp only[jR,List.mem_cons,List.not_mem_nil,or_false] at hc;rcases hc with rfl|rfl|rfl|rfl
     ·exact gz.slice (by simp[Br])
     ·exact gz.hi rfl
     ·exact gz.hi rfl
     ·exact gz.slice (by simp[Br])
   ·refine⟨by show 270<=271;omega,yT (by show 271<1024;omega),.inl rfl,lv.row ?_ ade⟩;rw[yA (K:=2) fun _=>rfl];exact Nat.le_of_lt<|yT ab
   ·refine⟨by show 270<=272;omega,yT (by show 272<1024;omega),.inl rfl,lv.row ?_ aeY⟩;rw[yA (K:=1) fun _=>rfl];exact Nat.le_of_lt<|yT ab
  |buf ms h cap hc=>exact aeW h p hp
  |BI a h bH c hj=>exact ada h hj p hp
 ·cases hx with
  |set a h=>exact⟨_,List.mem_cons_self⟩
  |heap a h c1 c2=>exact⟨_,List.mem_cons_self⟩
  |buf ms h cap hc=>exact⟨_,List.mem_cons_self⟩
  |BI a h bH c hj=>exact⟨_,List.mem_cons_self⟩
theorem ia{a:cr}(c1 c2:cL)(h:kf a)(hn:nl=a.ba.length)(hv:nv=a.cC.length)(e:Y=y)(ev:v=aC a)(nx:Nat):
 px 2 y v (aq (ar++[(270,some<|OU nl nv c1 c2 a.aO a.fT),(271,some<|aN nB a.ba),(272,some<|aN bS a.cC)]) nx) Y:=by
 subst hn;subst hv;subst ev;refine⟨e,_,.heap a h c1 c2,fun m p hm=>?_⟩;simp only[Br,List.mem_cons,List.not_mem_nil,or_false] at hm;rcases hm with hm|hm|hm<;>(injection hm with h1 h2;subst h1;subst h2;kernel_rfl)
abbrev rr(B:aJ)(g nt:Nat)(rs:List ResultVar)(a:cr)(c1 c2:cL)(rest:List AV)(y v':AV):Prop:=au pg B 271 (iW XT pg rs 2 y v') ⟨g,eh<|.ptr (some (270,0))::rest,nt,[.code<|a9 pg g []],[],none⟩<|aq (ar++[(270,some<|OU a.ba.length a.cC.length c1 c2 a.aO a.fT),(271,some<|aN nB a.ba),(272,some<|aN bS a.cC)]) 273
def ib(l:List Lk)(z:Int):Lk:=l.getD z.toNat default
theorem u7{l:List Lk}{z:Int}(h1:0<=z)(h2:z<((l.length:Nat):Int)):l[z.toNat]? =some (ib l z):=by
 have:z.toNat<l.length:=by omega
 unfold ib;rw[List.getD_eq_getElem?_getD,List.getElem?_eq_getElem this];rfl
def oJ(l:List Int)(z:Int):Int:=l.getD z.toNat 0
theorem OV{l:List Int}{z:Int}(h1:0<=z)(h2:z<((l.length:Nat):Int)):l[z.toNat]? =some (oJ l z):=by
 have:z.toNat<l.length:=by omega
 unfold oJ;rw[List.getD_eq_getElem?_getD,List.getElem?_eq_getElem this];rfl
theorem Ap(x:Lk):(nB x).length=2:=rfl
theorem Bc{a:cr}(h:kf a):a.ba.length*2<=top:=by have:=h.1.2;exact Nat.le_of_lt<|yT ab
theorem aeZ{a:cr}(h:kf a):a.cC.length*1<=top:=by have:=h.2.1.2;exact Nat.le_of_lt<|yT ab
theorem lq{c1 c2:cL}{x y:Int}:(jR nl nv c1 c2 x y).length<=top:=Nat.le_of_lt<|yT (by show 4<1024;omega)
abbrev aV(L:bY):Prop:=eA XT 270 pg<|sp L
abbrev Mt(L:bY)(B:aJ):Prop:=qC XT pg 270 eK dV L B
theorem ai{B:Prop}(a:A)(b:B):A/\B:=⟨a,b⟩
theorem oF(h:False):False:=h
theorem rX{α:Type}(x:α):x=x:=rfl
theorem mS(l:List<|Nat×AV):l.map (fun q=>some q.2)=l.map (fun q=>some q.2):=rfl
theorem mO(l:List<|Nat×Option ae):l.map (fun q=>q.2)=l.map (fun q=>q.2):=rfl
theorem wI(z:Int)(h: -9223372036854775808<=z/\z<=9223372036854775807:=by omega):AV.int .i64 (IntKind.wrap .i64 z)=AV.int .i64 z:=congrArg (AV.int .i64)<|Y9 h
theorem ix2(z n:Int)(h1:0<=z)(h2:z<n)(x:A):0<=z/\z<n/\A:=⟨h1,h2,x⟩
theorem dq(z n:Int)(x:A)(h1:0<=z:=by omega)(h2:z<n:=by omega):0<=z/\z<n/\A:=⟨h1,h2,x⟩
abbrev i6(n:Int):AV:=.int .i64 n
abbrev u8(n:Int):AV:=.int .u8 n
abbrev i0:AV:=.int .i64<|.ofNat 0
section
variable {L:bY} {B:aJ} (mc:Mt L B) {f nt:Nat} {t:Tr AV} {K:List Item} {s:AS} {rs:List ResultVar} {R:AV->AS->Prop}
include mc
theorem wS(p:Pl)(x:T)(h:T=wp (en L) 900 6 (.fr f nt K t s) p rs (fun v s _=>R v s) (fun _ _ _=>False):=by as_aux_lemma=>kernel_rfl)(h0:Nat.ble 270 s.nx=true:=by as_aux_lemma=>kernel_rfl):au pg B 270 (Fin pg rs R) ⟨f,t,nt,K,[],none⟩ s:=mh (E:=en L) eY rfl bV mc.2.2.1 mc.2.2.2 900 p x h h0
theorem nY(p:Pl)(x:T)(h:T=wp (yj L) 900 6 (.fr f nt K t s) p rs (fun v s _=>R v s) (fun _ _ _=>False):=by as_aux_lemma=>kernel_rfl)(h0:Nat.ble 271 s.nx=true:=by as_aux_lemma=>kernel_rfl):au pg B 271 (Fin pg rs R) ⟨f,t,nt,K,[],none⟩ s:=mh (E:=yj L) eY rfl bV mc.2.2.1 mc.2.2.2 900 p x h h0
theorem wC(hC:∀fr s p,C fr s p->au pg B 270 (Fin pg rs R) fr s)(p:Pl)(x:T)(h:T=wp (en L) 900 6 (.fr f nt K t s) p rs (fun v s _=>R v s) C:=by as_aux_lemma=>kernel_rfl)(h0:Nat.ble 270 s.nx=true:=by as_aux_lemma=>kernel_rfl):au pg B 270 (Fin pg rs R) ⟨f,t,nt,K,[],none⟩ s:=wZ (E:=en L) eY rfl bV mc.2.2.1 mc.2.2.2 hJ rfl mc.1 hC 900 p x h h0
theorem Qk(hC:∀fr s p,C fr s p->au pg B 271 (Fin pg rs R) fr s)(p:Pl)(x:T)(h:T=wp (yj L) 900 6 (.fr f nt K t s) p rs (fun v s _=>R v s) C:=by as_aux_lemma=>kernel_rfl)(h0:Nat.ble 271 s.nx=true:=by as_aux_lemma=>kernel_rfl):au pg B 271 (Fin pg rs R) ⟨f,t,nt,K,[],none⟩ s:=wZ (E:=yj L) eY rfl bV mc.2.2.1 mc.2.2.2 aaH rfl mc.1 hC 900 p x h h0
end
abbrev Sm(B:aJ)(f:Func)(v:AV)(fr:AF)(s:AS):Prop:=au pg B 270 (Fin pg f.results.toList fun y _=>y=v) fr s
theorem ig{L L':bY}{g:Nat}{fn:Func}{val:List AV->Option AV}(hP:bE pg)(h:aV L)(h':aV L')(cm:Tryz.prog.funcs[g]? =some fn)(eP:∀args v,val args=some v->max fn.ntmps args.length<=top/\∀B:aJ,Mt L' B->au pg B 270 (Fin pg fn.results.toList fun y _=>y=v) ⟨g,eh args,max fn.ntmps args.length,[.code<|a9 pg g []],[],none⟩ ⟨dV,270,0,[],[]⟩)(cv:fn.body=some (a9 pg g []):=by kernel_rfl)(hn:(fn.name == "runtime.NumGoroutine")=false:=by kernel_rfl):aV<|(g,.val val)::L:=ac0 hP hJ qd iT iz h h' cm cv hn eP
end cq
end
section
open Go Go.Rn Go.RowKit Go.Proofs
namespace G2
open cq
variable {a:jH} {ve ow st rv:Int} {B:aJ} {L:bY}
noncomputable section
def u9(a:jH)(ow ve:Int):AV:=.int .u8 (if ow≠ -1 then 1 else if ve>a.rv then 2 else 0)
theorem age(h1:ow≠ -1):AV.int .u8 (.ofNat 1)=u9 a ow ve:=by unfold u9;rw[if_pos h1];rfl
theorem agf(h1:¬(ow≠ -1))(h2:ve>a.rv):AV.int .u8 (.ofNat 2)=u9 a ow ve:=by unfold u9;rw[if_neg h1,if_pos h2];rfl
theorem agh(h1:¬(ow≠ -1))(h2:¬(ve>a.rv)):AV.int .u8 (.ofNat 0)=u9 a ow ve:=by unfold u9;rw[if_neg h1,if_neg h2];rfl
def JT:jH->List AV->Option (AV×jH)
 |a,[.int .i64 ow,.int .i64 ve]=>some (u9 a ow ve,a)
 |_,_=>none
def hasB(a:jH)(n:Int):Bool:=a.has.getD n.toNat false
theorem abT{n:Int}(h:pe a)(h1:0<=n)(h2:n<32):(nQ a)[2+n.toNat]? =some (AV.bool<|hasB a n):=by
 have hl:=h.2.2;have bJ:n.toNat<a.has.length:=by omega
 unfold nQ hasB;rw[List.getElem?_append_right (by show 2<=2+n.toNat;omega)];show(a.has.map AV.bool)[2+n.toNat - 2]? =_;rw[show 2+n.toNat - 2=n.toNat by omega,List.getElem?_map,List.getElem?_eq_getElem bJ,List.getD_eq_getElem?_getD,List.getElem?_eq_getElem bJ];rfl
def Gt(a:jH)(n:Int):jH:={a with has:=a.has.set n.toNat true}
theorem abU{n:Int}:nQ (Gt a n)=(nQ a).set (2+n.toNat) (AV.bool true):=by unfold nQ Gt;rw[List.set_append_right _ _ (by show 2<=2+n.toNat;omega)];show _++(a.has.set n.toNat true).map AV.bool=_++(a.has.map AV.bool).set (2+n.toNat - 2) (AV.bool true);rw[show 2+n.toNat - 2=n.toNat by omega,List.map_set]
theorem Uq{n:Int}(h:pe a):pe<|Gt a n:=⟨h.1,h.2.1,by show(a.has.set n.toNat true).length=32;rw[List.length_set];exact h.2.2⟩
def zE(a:jH)(n:Int):AV:=.int .i64 (if n<0\/n>=a.qW then 1 else 0)
def py(a:jH)(n:Int):jH:=if n<0\/n>=a.qW then a else Gt a n
theorem VL{n:Int}(h:pe a)(q:n<0\/n>=a.qW):px 1 (zE a n) (jt<|py a n) (aq (ar++[(270,some<|BH a)]) 271)<|AV.int .i64<|.ofNat 1:=by unfold zE py;rw[if_pos q,if_pos q];exact DY (.set a h) rfl 271
theorem ae0{n:Int}(h:pe a)(h1:n<0):px 1 (zE a n) (jt<|py a n) (aq (ar++[(270,some<|BH a)]) 271)<|AV.int .i64<|.ofNat 1:=VL h<|.inl h1
theorem ae1{n:Int}(h:pe a)(_:¬(n<0))(h2:n>=a.qW):px 1 (zE a n) (jt<|py a n) (aq (ar++[(270,some<|BH a)]) 271)<|AV.int .i64<|.ofNat 1:=VL h<|.inr h2
theorem agi{n:Int}(h:pe a)(h1:¬(n<0))(h2:¬(n>=a.qW)):px 1 (zE a n) (jt<|py a n) (aq (ar++[(270,some<|aN lS<|(nQ a).set (2+n.toNat)<|.bool true)]) 271)<|AV.int .i64<|.ofNat 0:=by unfold zE py;rw[if_neg ab,if_neg ab, ←abU];exact DY (.set (Gt a n)<|Uq h) rfl 271
def zF:jH->List AV->Option (AV×jH)
 |a,[.int .i64 n]=>some (zE a n,py a n)
 |_,_=>none
def pw(rv st:Int):jH:=⟨rv,st,List.replicate 32 false⟩
theorem agj(hi:ze rv)(dz:¬(rv<0\/rv>1099511627776\/st<1\/st>32)):px 1 (.tuple [.ptr<|some (270,0),.int .i64 0]) (jt<|pw rv st) (aq (ar++[(270,some<|BH<|pw rv st)]) 271)<|.tuple [.ptr<|some (270,0),.int .i64<|.ofNat 0]:=DY (.set (pw rv st) ⟨hi,by show 1<=st/\st<=32;omega,rfl⟩) rfl 271
def wM:List AV->Option (Option AV×(AV->AV))
 |[.int .i64 rv,.int .i64 st]=>if rv<0\/rv>1099511627776\/st<1\/st>32 then some (none,fun p=>.tuple [p,.int .i64 1]) else some (some<|jt<|pw rv st,fun p=>.tuple [p,.int .i64 0])
 |_=>none
theorem ae2(mc:Mt [] B)(h:pe a):VK B 43 (max Tryz.f43.ntmps 3) (az Tryz.f43) 1 (BH a) [.int .i64 ow,.int .i64 ve] (u9 a ow ve)<|jt a:=by
 exact nY mc (.st 8<|.rg<|.go 1<|.fk (.go 1<|.en<|.rt 4 .no)<|.go 1<|.en<|.st 2<|.rg<|.go 4<|.ld [(i6 a.rv)]<|.fk (.go 1<|.en<|.rt 4 .no)<|.go 1<|.en<|.rt 6 .no)
  (ax (ow≠(-1)) (fun h1=>(DY (.set a h) (age (a:=a) (ow:=ow) (ve:=ve) h1) 271))
  (fun h1=>(ai (ky (M3 h) (show(nQ a)[0]? =some (AV.int .i64 a.rv) from rfl))
  (ax (ve>a.rv) (fun h2=>(DY (.set a h) (agf (a:=a) (ow:=ow) (ve:=ve) h1 h2) 271))
  (fun h2=>(DY (.set a h) (agh (a:=a) (ow:=ow) (ve:=ve) h1 h2) 271))))))
theorem agk(mc:Mt [] B){n:Int}(h:pe a):VK B 49 (max Tryz.f49.ntmps 2) (az Tryz.f49) 1 (BH a) [.int .i64 n] (zE a n)<|jt<|py a n:=by
 exact nY mc (.st 8<|.rg<|.go 1<|.fk (.go 9<|.en<|.rt 4 .no)<|.go 5<|.ld [(i6 a.qW)]<|.fk (.go 2<|.en<|.rt 4 .no)<|.go 2<|.en<|.st 4<|.rg<|.go 4<|.GY<|.l6 (aN lS<|(nQ a).set (2+n.toNat)<|.bool true)<|.en<|.rt 3 .no)
  (ax (n<0) (fun h1=>(ae0 h h1))
  (fun h1=>(ai (ky (M3 h) (show(nQ a)[1]? =some (AV.int .i64 a.qW) from rfl))
  (ax (n>=a.qW) (fun h2=>(ae1 h h1 h2))
  (fun h2=>(ix2 n (Int.ofNat 32) ab (by have:=h.2.1;have q:n<32:=ab;exact q)
  (ai (MZ (c':=(.bool true)) (M3 h) (abT (n:=n) h ab (by have:=h.2.1;omega)) rfl)
  (agi h h1 h2))))))))
theorem adf(mc:Mt [] B)(dz:rv<0\/rv>1099511627776\/st<1\/st>32):au pg B 270 (Fin pg (az Tryz.f20) fun y _=>y= .tuple [.ptr none,.int .i64 1]) (sF 20 Tryz.f20 [.int .i64 rv,.int .i64 st])<|aq ar 270:=by exact wS mc (.st 4<|.rg<|.go 1<|.fk (.go 12<|.en<|.rt 4 .no)<|.go 2<|.fk (.go 9<|.en<|.rt 4 .no)<|.go 3<|.fk (.go 5<|.en<|.rt 4 .no)<|.go 3<|.fk (.go 1<|.en<|.rt 4 .no)<|.no)<|ax (rv<0) Kf fun _=>(ax (rv>1099511627776) Kf fun _=>(ax (st<1) Kf fun _=>(ax (st>32) Kf bh)))
theorem agl(mc:Mt [] B)(hi:ze rv)(dz:¬(rv<0\/rv>1099511627776\/st<1\/st>32)):au pg B 270 (iW XT pg (az Tryz.f20) 1 (.tuple [.ptr<|some (270,0),.int .i64 0])<|jt<|pw rv st) (sF 20 Tryz.f20 [.int .i64 rv,.int .i64 st])<|aq ar 270:=by exact wS mc (.st 4<|.rg<|.go 1<|.fk (.no)<|.go 2<|.fk (.no)<|.go 3<|.fk (.no)<|.go 3<|.fk (.no)<|.go 1<|.en<|.rt 5 .no)<|ax (rv<0) bh fun _=>(ax (rv>1099511627776) bh fun _=>(ax (st<1) bh fun _=>(ax (st>32) bh fun _=>(agj hi dz))))
def VM:FuncId×KE:=(43,.tok 1<|dX jt JT)
theorem abV(hP:bE pg)(h:aV L):aV<|VM::L:=by
 refine CR rZ hP hJ qd iT iz lT lB h cP Tryz.func43 (body:=a9 pg 43 []) aW aW fun v rest y v' e=>?_;obtain⟨a,a',rfl,e1,rfl⟩:=AB e;unfold JT at e1;split at e1
 ·injection e1 with e1
  injection e1 with e2 e3
  subst e2;subst e3;refine⟨aL.1 aW,fun L hx=>?_⟩;generalize hv:jt a=v at hx;cases hx with
  |set b hb=>have:=H9 _ _ hv;subst this;exact⟨271,by omega,aL.1 aW,fun p hp=>Wx,fun B mc=>ae2 mc hb⟩
 ·cases e1
def WA:FuncId×KE:=(49,.tok 1<|dX jt zF)
theorem adg(hP:bE pg)(h:aV L):aV<|WA::L:=by
 refine CR rZ hP hJ qd iT iz lT lB h cP Tryz.func49 (body:=a9 pg 49 []) aW aW fun v rest y v' e=>?_;obtain⟨a,a',rfl,e1,rfl⟩:=AB e;unfold zF at e1;split at e1
 ·injection e1 with e1
  injection e1 with e2 e3
  subst e2;subst e3;refine⟨aL.1 aW,fun L hx=>?_⟩;generalize hv:jt a=v at hx;cases hx with
  |set b hb=>have:=H9 _ _ hv;subst this;exact⟨271,by omega,aL.1 aW,fun p hp=>Wx,fun B mc=>agk mc hb⟩
 ·cases e1
def Ur:FuncId×KE:=(20,.new 1 wM)
theorem ZO(hP:bE pg)(h:aV L):aV<|Ur::L:=by
 refine Iy rZ hP hJ (aL.1 aW) iT iz h cP Tryz.func20 (body:=a9 pg 20 []) aW aW fun args p e=>?_;unfold wM at e;split at e
 ·rename_i rv st;refine⟨aL.1 aW,fun e0 B mc=>?_,fun v e0=>?_⟩
  ·split at e
   ·rename_i dz;injection e with e;subst e
    rw[←gX];exact adf mc dz
   ·injection e with e;subst e;cases e0
  ·split at e
   ·injection e with e;subst e;cases e0
   ·rename_i dz;injection e with e;subst e
    injection e0 with e0
    subst e0;refine⟨u0.Qf rfl,fun B mc=>?_⟩;rw[←gX];exact agl mc (by unfold ze;omega) dz
 ·cases e
end
end G2
end
section
open Go Go.Rn Go.RowKit Go.Proofs
namespace z6
open cq
variable {a:cr} {c2 c1:cL} {B:aJ} {s du:Int} {L:bY} {k:Lk}
noncomputable section
def w7(a:cr)(s:Int):AV:=.int .i64 (if 0<=s/\s<a.ba.length then(ib a.ba s).owner else -1)
def yU(a:cr)(_:Int):cr:=a
def yB(a:cr)(s:Int):AV:=.int .i64 (if 0<=s/\s<a.ba.length then(ib a.ba s).version else 0)
def AD(a:cr)(_:Int):cr:=a
def yV(a:cr)(s:Int):AV:=.int .i64 (if 0<=s/\s<a.cC.length then oJ a.cC s else 0)
def Bd(a:cr)(_:Int):cr:=a
def FD(a:cr):AV:=.int .i64 a.aO
def Jb(a:cr):cr:=a
def JU(a:cr):AV:=.int .i64 (a.cC.length:Nat)
def OW(a:cr):cr:=a
def Ia(a:cr):AV:=.int .i64 (a.ba.length:Nat)
def M4(a:cr):cr:=a
def yJ(a:cr)(s:Int):AV:=.int .i64 (if 0<=s/\s<a.cC.length then Int.tmod s (a.ba.length:Nat) else -1)
def AQ(a:cr)(_:Int):cr:=a
def tC(a:cr)(s:Int)(k:Lk):cr:={a with ba:=a.ba.set s.toNat k}
def nC(a:cr)(s du im:Int):AV:=.int .i64 (if 0<=s/\s<a.ba.length then(if 0<=du/\(ib a.ba s).owner=du then(if(ib a.ba s).version<=im/\im<=a.aO then 0 else 1) else 7) else 5)
def nE(a:cr)(s du im:Int):cr:=if(0<=s/\s<a.ba.length)/\(0<=du/\(ib a.ba s).owner=du)/\(ib a.ba s).version<=im/\im<=a.aO then tC a s ⟨-1,im⟩ else a
def DB(a:cr):AV:=if a.aO<a.fT then .tuple [.int .i64<|a.aO+1,.int .i64 0] else .tuple [.int .i64 0,.int .i64 41]
def Jc(a:cr)(c:Int):cr:={a with aO:=c}
theorem ae3(h:kf a):kf<|Jc a<|a.aO+1:=⟨h.1,h.2.1,by show 0<=a.aO+1;have:=h.2.2.1;omega,h.2.2.2⟩
def DC(a:cr):cr:=if a.aO<a.fT then Jc a (a.aO+1) else a
def pz(a:cr)(s du:Int):AV:=.int .i64 (if 0<=s/\s<a.ba.length then(if 0<=du/\du<6 then(if(ib a.ba s).owner= -1 then 0 else 6) else 1) else 5)
def pA(a:cr)(s du:Int):cr:=if(0<=s/\s<a.ba.length)/\(0<=du/\du<6)/\(ib a.ba s).owner= -1 then tC a s {ib a.ba s with owner:=du} else a
def aic(a:cr)(s du:Int):AV:=.int .i64 (if 0<=s/\s<a.ba.length then(if 0<=du/\(ib a.ba s).owner=du then 0 else 7) else 5)
def aid(a:cr)(s du:Int):cr:=if(0<=s/\s<a.ba.length)/\0<=du/\(ib a.ba s).owner=du then tC a s {ib a.ba s with owner:= -1} else a
theorem Vf(h:kf a):kf<|tC a s k:=by unfold kf tC at*;rw[List.length_set];exact h
theorem SJ:a.ba.length=(tC a s k).ba.length:=by unfold tC;exact List.length_set.symm
noncomputable abbrev lQ(a:cr)(c1:cL):AV:=.slice (some (271,0)) (a.ba.length) c1
theorem adh(mc:Mt [] B)(h:kf a):rr B 44 (max Tryz.f44.ntmps 2) (az Tryz.f44) a c1 c2 [.int .i64 s] (w7 a s)<|aC<|yU a s:=by
 exact nY mc (.st 4<|.rg<|.go 2<|.il<|.st 8<|.rg<|.go 4<|.il<|.st 4<|.rg<|.go 1<|.fk (.go 9<|.en<|.rt 4<|.go 1<|.en<|.rt 1<|.go 1<|.en<|.rt 7 .no)<|.go 5<|.ld [(lQ a c1)]<|.go 1<|.fk (.go 1<|.en<|.rt 4<|.go 1<|.en<|.rt 1<|.go 1<|.en<|.rt 7 .no)<|.go 1<|.en<|.st 3<|.rg<|.go 3<|.ld [(lQ a c1)]<|.go 1<|.ix<|.go 1<|.en<|.rt 1<|.go 1<|.en<|.rt 1<|.go 1<|.en<|.st 4<|.rg<|.go 3<|.ld [(i6<|(ib a.ba s).owner)]<|.go 1<|.en<|.rt 1 .no)
  (ax (s<0) (fun _=>(ia (a:=a) (nl:=a.ba.length) (nv:=a.cC.length) c1 c2 h rfl rfl (show(i6<|.negSucc 0)=w7 a s from by(unfold w7;repeat' split)<;>first|rfl|omega|(exfalso;omega)) (show aC (yU a s)=aC a from by(unfold yU;repeat' split)<;>first|rfl|omega|(exfalso;omega)) 273))
  (fun _=>(ai (ky lq (show((jR a.ba.length a.cC.length c1 c2 a.aO a.fT))[0]? =some ((lQ a c1)) from rfl))
  (ax (s>=(a.ba.length:Int)) (fun _=>(ia (a:=a) (nl:=a.ba.length) (nv:=a.cC.length) c1 c2 h rfl rfl (show(i6<|.negSucc 0)=w7 a s from by(unfold w7;repeat' split)<;>first|rfl|omega|(exfalso;omega)) (show aC (yU a s)=aC a from by(unfold yU;repeat' split)<;>first|rfl|omega|(exfalso;omega)) 273))
  (fun _=>(ai (ky lq (show((jR a.ba.length a.cC.length c1 c2 a.aO a.fT))[0]? =some ((lQ a c1)) from rfl))
  (dq s (a.ba.length:Int)
  (ai (ke Ap (Bc h) (u7 (l:=a.ba) (z:=s) ab ab) 0 1 rfl)
  (ia (a:=a) (nl:=a.ba.length) (nv:=a.cC.length) c1 c2 h rfl rfl (show(i6<|(ib a.ba s).owner)=w7 a s from by(unfold w7;repeat' split)<;>first|rfl|omega|(exfalso;omega)) (show aC (yU a s)=aC a from by(unfold yU;repeat' split)<;>first|rfl|omega|(exfalso;omega)) 273)))))))))
theorem aaI(mc:Mt [] B)(h:kf a):rr B 45 (max Tryz.f45.ntmps 2) (az Tryz.f45) a c1 c2 [.int .i64 s] (yB a s)<|aC<|AD a s:=by
 exact nY mc (.st 4<|.rg<|.go 2<|.il<|.st 8<|.rg<|.go 4<|.il<|.st 4<|.rg<|.go 1<|.fk (.go 9<|.en<|.rt 4<|.go 1<|.en<|.rt 1<|.go 1<|.en<|.rt 7 .no)<|.go 5<|.ld [(lQ a c1)]<|.go 1<|.fk (.go 1<|.en<|.rt 4<|.go 1<|.en<|.rt 1<|.go 1<|.en<|.rt 7 .no)<|.go 1<|.en<|.st 3<|.rg<|.go 3<|.ld [(lQ a c1)]<|.go 1<|.ix<|.go 1<|.en<|.rt 1<|.go 1<|.en<|.rt 1<|.go 1<|.en<|.st 4<|.rg<|.go 3<|.ld [(i6<|(ib a.ba s).version)]<|.go 1<|.en<|.rt 1 .no)
  (ax (s<0) (fun _=>(ia (a:=a) (nl:=a.ba.length) (nv:=a.cC.length) c1 c2 h rfl rfl (show i0=yB a s from by(unfold yB;repeat' split)<;>first|rfl|omega|(exfalso;omega)) (show aC (AD a s)=aC a from by(unfold AD;repeat' split)<;>first|rfl|omega|(exfalso;omega)) 273))
  (fun _=>(ai (ky lq (show((jR a.ba.length a.cC.length c1 c2 a.aO a.fT))[0]? =some ((lQ a c1)) from rfl))
  (ax (s>=(a.ba.length:Int)) (fun _=>(ia (a:=a) (nl:=a.ba.length) (nv:=a.cC.length) c1 c2 h rfl rfl (show i0=yB a s from by(unfold yB;repeat' split)<;>first|rfl|omega|(exfalso;omega)) (show aC (AD a s)=aC a from by(unfold AD;repeat' split)<;>first|rfl|omega|(exfalso;omega)) 273))
  (fun _=>(ai (ky lq (show((jR a.ba.length a.cC.length c1 c2 a.aO a.fT))[0]? =some ((lQ a c1)) from rfl))
  (dq s (a.ba.length:Int)
  (ai (ke Ap (Bc h) (u7 (l:=a.ba) (z:=s) ab ab) 1 1 rfl)
  (ia (a:=a) (nl:=a.ba.length) (nv:=a.cC.length) c1 c2 h rfl rfl (show(i6<|(ib a.ba s).version)=yB a s from by(unfold yB;repeat' split)<;>first|rfl|omega|(exfalso;omega)) (show aC (AD a s)=aC a from by(unfold AD;repeat' split)<;>first|rfl|omega|(exfalso;omega)) 273)))))))))
noncomputable abbrev zi(a:cr)(c2:cL):AV:=.slice (some (272,0)) (a.cC.length) c2
theorem adi(mc:Mt [] B)(h:kf a):rr B 47 (max Tryz.f47.ntmps 2) (az Tryz.f47) a c1 c2 [.int .i64 s] (yV a s)<|aC<|Bd a s:=by
 exact nY mc (.st 4<|.rg<|.go 1<|.fk (.go 6<|.en<|.rt 4 .no)<|.go 3<|.il<|.st 8<|.rg<|.go 3<|.ld [(zi a c2)]<|.go 2<|.en<|.rt 1<|.fk (.go 1<|.en<|.rt 4 .no)<|.go 1<|.en<|.st 3<|.rg<|.go 3<|.ld [(zi a c2)]<|.go 1<|.ix<|.ld [(i6<|(oJ a.cC s))]<|.go 1<|.en<|.rt 1 .no)
  (ax (s<0) (fun _=>(ia (a:=a) (nl:=a.ba.length) (nv:=a.cC.length) c1 c2 h rfl rfl (show i0=yV a s from by(unfold yV;repeat' split)<;>first|rfl|omega|(exfalso;omega)) (show aC (Bd a s)=aC a from by(unfold Bd;repeat' split)<;>first|rfl|omega|(exfalso;omega)) 273))
  (fun _=>(ai (ky lq (show((jR a.ba.length a.cC.length c1 c2 a.aO a.fT))[3]? =some ((zi a c2)) from rfl))
  (ax (s>=(a.cC.length:Int)) (fun _=>(ia (a:=a) (nl:=a.ba.length) (nv:=a.cC.length) c1 c2 h rfl rfl (show i0=yV a s from by(unfold yV;repeat' split)<;>first|rfl|omega|(exfalso;omega)) (show aC (Bd a s)=aC a from by(unfold Bd;repeat' split)<;>first|rfl|omega|(exfalso;omega)) 273))
  (fun _=>(ai (ky lq (show((jR a.ba.length a.cC.length c1 c2 a.aO a.fT))[3]? =some ((zi a c2)) from rfl))
  (dq s (a.cC.length:Int)
  (ai (ke eI.1 (aeZ h) (OV (l:=a.cC) (z:=s) ab ab) 0 1 rfl)
  (ia (a:=a) (nl:=a.ba.length) (nv:=a.cC.length) c1 c2 h rfl rfl (show(i6<|(oJ a.cC s))=yV a s from by(unfold yV;repeat' split)<;>first|rfl|omega|(exfalso;omega)) (show aC (Bd a s)=aC a from by(unfold Bd;repeat' split)<;>first|rfl|omega|(exfalso;omega)) 273)))))))))
theorem adj(mc:Mt [] B)(h:kf a):rr B 38 (max Tryz.f38.ntmps 1) (az Tryz.f38) a c1 c2 [] (FD a)<|aC<|Jb a:=by
 exact nY mc (.st 8<|.rg<|.go 4<|.ld [(i6 a.aO)]<|.go 1<|.en<|.rt 1 .no)
  (ai (ky lq (show((jR a.ba.length a.cC.length c1 c2 a.aO a.fT))[1]? =some ((i6 a.aO)) from rfl))
  (ia (a:=a) (nl:=a.ba.length) (nv:=a.cC.length) c1 c2 h rfl rfl (show(i6 a.aO)=FD a from by(unfold FD;repeat' split)<;>first|rfl|omega|(exfalso;omega)) (show aC (Jb a)=aC a from by(unfold Jb;repeat' split)<;>first|rfl|omega|(exfalso;omega)) 273))
theorem ae4(mc:Mt [] B)(h:kf a):rr B 21 (max Tryz.f21.ntmps 1) (az Tryz.f21) a c1 c2 [] (JU a)<|aC<|OW a:=by
 exact nY mc (.st 8<|.rg<|.go 3<|.ld [(zi a c2)]<|.go 2<|.en<|.rt 1 .no)
  (ai (ky lq (show((jR a.ba.length a.cC.length c1 c2 a.aO a.fT))[3]? =some ((zi a c2)) from rfl))
  (ia (a:=a) (nl:=a.ba.length) (nv:=a.cC.length) c1 c2 h rfl rfl (show(i6<|(a.cC.length:Int))=JU a from by(unfold JU;repeat' split)<;>first|rfl|omega|(exfalso;omega)) (show aC (OW a)=aC a from by(unfold OW;repeat' split)<;>first|rfl|omega|(exfalso;omega)) 273))
theorem aaJ(mc:Mt [] B)(h:kf a):rr B 22 (max Tryz.f22.ntmps 1) (az Tryz.f22) a c1 c2 [] (Ia a)<|aC<|M4 a:=by
 exact nY mc (.st 8<|.rg<|.go 4<|.ld [(lQ a c1)]<|.go 2<|.en<|.rt 1 .no)
  (ai (ky lq (show((jR a.ba.length a.cC.length c1 c2 a.aO a.fT))[0]? =some ((lQ a c1)) from rfl))
  (ia (a:=a) (nl:=a.ba.length) (nv:=a.cC.length) c1 c2 h rfl rfl (show(i6<|(a.ba.length:Int))=Ia a from by(unfold Ia;repeat' split)<;>first|rfl|omega|(exfalso;omega)) (show aC (M4 a)=aC a from by(unfold M4;repeat' split)<;>first|rfl|omega|(exfalso;omega)) 273))
theorem abW(mc:Mt [] B)(h:kf a)(h0:1<=a.ba.length):rr B 42 (max Tryz.f42.ntmps 2) (az Tryz.f42) a c1 c2 [.int .i64 s] (yJ a s)<|aC<|AQ a s:=by
 exact nY mc (.st 4<|.rg<|.go 1<|.fk (.go 6<|.en<|.rt 4 .no)<|.go 3<|.il<|.st 8<|.rg<|.go 3<|.ld [(zi a c2)]<|.go 2<|.en<|.rt 1<|.fk (.go 1<|.en<|.rt 4 .no)<|.go 1<|.en<|.st 3<|.rg<|.go 5<|.ld [(lQ a c1)]<|.go 1<|.rm<|.go 1<|.en<|.rt 1 .no)
  (ax (s<0) (fun _=>(ia (a:=a) (nl:=a.ba.length) (nv:=a.cC.length) c1 c2 h rfl rfl (show(i6<|.negSucc 0)=yJ a s from by(unfold yJ;repeat' split)<;>first|rfl|omega|(exfalso;omega)) (show aC (AQ a s)=aC a from by(unfold AQ;repeat' split)<;>first|rfl|omega|(exfalso;omega)) 273))
  (fun _=>(ai (ky lq (show((jR a.ba.length a.cC.length c1 c2 a.aO a.fT))[3]? =some ((zi a c2)) from rfl))
  (ax (s>=(a.cC.length:Int)) (fun _=>(ia (a:=a) (nl:=a.ba.length) (nv:=a.cC.length) c1 c2 h rfl rfl (show(i6<|.negSucc 0)=yJ a s from by(unfold yJ;repeat' split)<;>first|rfl|omega|(exfalso;omega)) (show aC (AQ a s)=aC a from by(unfold AQ;repeat' split)<;>first|rfl|omega|(exfalso;omega)) 273))
  (fun _=>(ai (ky lq (show((jR a.ba.length a.cC.length c1 c2 a.aO a.fT))[0]? =some ((lQ a c1)) from rfl))
  (ai (show(a.ba.length:Int)≠0 from by omega)
  (ia (a:=a) (nl:=a.ba.length) (nv:=a.cC.length) c1 c2 h rfl rfl (show(i6<|(Int.tmod s (a.ba.length:Int)))=yJ a s from by(unfold yJ;repeat' split)<;>first|rfl|omega|(exfalso;omega)) (show aC (AQ a s)=aC a from by(unfold AQ;repeat' split)<;>first|rfl|omega|(exfalso;omega)) 273))))))))
theorem gR:∀p∈Br a c1 c2,p.1<273:=fun p hp=>by
 simp only[Br,List.mem_cons,List.not_mem_nil,or_false] at hp;rcases hp with rfl|rfl|rfl
 ·show 270<273;omega
 ·show 271<273;omega
 ·show 272<273;omega
theorem M5{L0:bY}{g:Nat}{fn:Func}{F:cr->List AV->Option (AV×cr)}(hP:bE pg)(h:aV L)(h0:aV L0)(cm:Tryz.prog.funcs[g]? =some fn)(H:∀a rest y a',F a rest=some (y,a')->max fn.ntmps (rest.length+1)<=top/\∀B c1 c2,Mt L0 B->kf a->rr B g (max fn.ntmps<|rest.length+1) fn.results.toList a c1 c2 rest y (aC a'))(cv:fn.body=some (a9 pg g []):=by kernel_rfl)(hn:(fn.name == "runtime.NumGoroutine")=false:=by kernel_rfl):aV<|(g,.tok 2<|dX aC F)::L:=by
 refine CR rZ hP hJ qd iT iz lT lB h h0 cm cv hn fun v rest y v' e=>?_;obtain⟨a,a',rfl,e1,rfl⟩:=AB e;obtain⟨q1,q2⟩:=H a rest y a' e1;refine⟨q1,fun L hx=>?_⟩;generalize hv:aC a=v at hx;cases hx with
 |heap b hb c1 c2=>have:=Mw _ _ hv;subst this;exact⟨273,by omega,aL.1 aW,gR,fun B mc=>q2 B c1 c2 mc hb⟩
theorem agm(mc:Mt [] B)(h:kf a):rr B 15 (max Tryz.f15.ntmps 3) (az Tryz.f15) a c1 c2 [.int .i64 s,.int .i64 du] (pz a s du)<|aC<|pA a s du:=by
 exact nY mc (.st 3<|.rg<|.go 2<|.il<|.st 8<|.rg<|.go 4<|.il<|.st 4<|.rg<|.go 1<|.fk (.go 9<|.en<|.rt 4<|.go 1<|.en<|.rt 1<|.go 1<|.en<|.st 6<|.rg<|.go 1<|.il<|.rt 10<|.go 1<|.en<|.rt 1 .no)<|.go 5<|.ld [(lQ a c1)]<|.go 1<|.fk (.go 1<|.en<|.rt 4<|.go 1<|.en<|.rt 1<|.go 1<|.en<|.st 6<|.rg<|.go 1<|.il<|.rt 10<|.go 1<|.en<|.rt 1 .no)<|.go 1<|.en<|.st 3<|.rg<|.go 3<|.ld [(lQ a c1)]<|.go 1<|.ix<|.go 1<|.en<|.rt 1<|.go 1<|.en<|.rt 1<|.go 1<|.en<|.st 6<|.rg<|.go 1<|.fk (.go 5<|.en<|.rt 4 .no)<|.go 2<|.fk (.go 2<|.en<|.rt 4 .no)<|.go 2<|.en<|.st 2<|.rg<|.go 3<|.ld [(i6<|(ib a.ba s).owner)]<|.fk (.go 1<|.en<|.rt 4 .no)<|.go 1<|.en<|.st 4<|.rg<|.go 4<|.l6 (aN nB<|a.ba.set s.toNat {(ib a.ba s) with owner:=du})<|.en<|.rt 3 .no)
  (ax (s<0) (fun _=>(ia (a:=a) (nl:=a.ba.length) (nv:=a.cC.length) c1 c2 h rfl rfl (show(i6<|.ofNat 5)=pz a s du from by(unfold pz;repeat' split)<;>first|rfl|omega|(exfalso;omega)) (show aC (pA a s du)=aC a from by(unfold pA;repeat' split)<;>first|rfl|omega|(exfalso;omega)) 273))
  (fun _=>(ai (ky lq (show((jR a.ba.length a.cC.length c1 c2 a.aO a.fT))[0]? =some ((lQ a c1)) from rfl))
  (ax (s>=(a.ba.length:Int)) (fun _=>(ia (a:=a) (nl:=a.ba.length) (nv:=a.cC.length) c1 c2 h rfl rfl (show(i6<|.ofNat 5)=pz a s du from by(unfold pz;repeat' split)<;>first|rfl|omega|(exfalso;omega)) (show aC (pA a s du)=aC a from by(unfold pA;repeat' split)<;>first|rfl|omega|(exfalso;omega)) 273))
  (fun _=>(ai (ky lq (show((jR a.ba.length a.cC.length c1 c2 a.aO a.fT))[0]? =some ((lQ a c1)) from rfl))
  (dq s (a.ba.length:Int)
  (ax (du<0) (fun _=>(ia (a:=a) (nl:=a.ba.length) (nv:=a.cC.length) c1 c2 h rfl rfl (show(i6<|.ofNat 1)=pz a s du from by(unfold pz;repeat' split)<;>first|rfl|omega|(exfalso;omega)) (show aC (pA a s du)=aC a from by(unfold pA;repeat' split)<;>first|rfl|omega|(exfalso;omega)) 273))
  (fun _=>(ax (du>=6) (fun _=>(ia (a:=a) (nl:=a.ba.length) (nv:=a.cC.length) c1 c2 h rfl rfl (show(i6<|.ofNat 1)=pz a s du from by(unfold pz;repeat' split)<;>first|rfl|omega|(exfalso;omega)) (show aC (pA a s du)=aC a from by(unfold pA;repeat' split)<;>first|rfl|omega|(exfalso;omega)) 273))
  (fun _=>(ai (ke Ap (Bc h) (u7 (l:=a.ba) (z:=s) ab ab) 0 1 rfl)
  (ax ((ib a.ba s).owner≠(-1)) (fun _=>(ia (a:=a) (nl:=a.ba.length) (nv:=a.cC.length) c1 c2 h rfl rfl (show(i6<|.ofNat 6)=pz a s du from by(unfold pz;repeat' split)<;>first|rfl|omega|(exfalso;omega)) (show aC (pA a s du)=aC a from by(unfold pA;repeat' split)<;>first|rfl|omega|(exfalso;omega)) 273))
  (fun _=>(ai (qc Ap (Bc h) (u7 (l:=a.ba) (z:=s) ab ab) (c':={(ib a.ba s) with owner:=du}) (r:=[(i6 du)]) 0 rfl rfl rfl)
  (ia (a:=(tC a s {(ib a.ba s) with owner:=du})) (nl:=a.ba.length) (nv:=a.cC.length) c1 c2 (Vf h) SJ rfl (show i0=pz a s du from by(unfold pz;repeat' split)<;>first|rfl|omega|(exfalso;omega)) (show aC (pA a s du)=aC (tC a s {(ib a.ba s) with owner:=du}) from by(unfold pA;repeat' split)<;>first|rfl|omega|(exfalso;omega)) 273))))))))))))))))
theorem ae5(mc:Mt [] B){im:Int}(h:kf a):rr B 16 (max Tryz.f16.ntmps 4) (az Tryz.f16) a c1 c2 [.int .i64 s,.int .i64 du,.int .i64 im] (nC a s du im)<|aC<|nE a s du im:=by
 exact nY mc (.st 3<|.rg<|.go 3<|.il<|.st 3<|.rg<|.go 2<|.il<|.st 8<|.rg<|.go 4<|.il<|.st 4<|.rg<|.go 1<|.fk (.go 9<|.en<|.rt 4<|.go 1<|.en<|.rt 1<|.go 1<|.en<|.st 6<|.rg<|.go 1<|.il<|.rt 10<|.go 2<|.en<|.rt 1<|.go 5<|.en<|.rt 8 .no)<|.go 5<|.ld [(lQ a c1)]<|.go 1<|.fk (.go 1<|.en<|.rt 4<|.go 1<|.en<|.rt 1<|.go 1<|.en<|.st 6<|.rg<|.go 1<|.il<|.rt 10<|.go 2<|.en<|.rt 1<|.go 5<|.en<|.rt 8 .no)<|.go 1<|.en<|.st 3<|.rg<|.go 3<|.ld [(lQ a c1)]<|.go 1<|.ix<|.go 1<|.en<|.rt 1<|.go 1<|.en<|.rt 1<|.go 1<|.en<|.st 6<|.rg<|.go 1<|.fk (.go 9<|.en<|.rt 4<|.go 5<|.en<|.rt 8 .no)<|.go 4<|.ld [(i6<|(ib a.ba s).owner)]<|.go 1<|.fk (.go 2<|.en<|.rt 4<|.go 5<|.en<|.rt 8 .no)<|.go 2<|.en<|.rt 6<|.go 5<|.en<|.st 6<|.rg<|.go 4<|.ld [(i6<|(ib a.ba s).version)]<|.fk (.go 10<|.en<|.rt 4 .no)<|.go 6<|.ld [(i6 a.aO)]<|.fk (.go 2<|.en<|.rt 4 .no)<|.go 2<|.en<|.st 4<|.rg<|.go 4<|.l6 (aN nB<|a.ba.set s.toNat (⟨(-1),im⟩:Lk))<|.en<|.rt 3 .no)
  (ax (s<0) (fun _=>(ia (a:=a) (nl:=a.ba.length) (nv:=a.cC.length) c1 c2 h rfl rfl (show(i6<|.ofNat 5)=nC a s du im from by(unfold nC;repeat' split)<;>first|rfl|omega|(exfalso;omega)) (show aC (nE a s du im)=aC a from by(unfold nE;repeat' split)<;>first|rfl|omega|(exfalso;omega)) 273))
  (fun _=>(ai (ky lq (show((jR a.ba.length a.cC.length c1 c2 a.aO a.fT))[0]? =some ((lQ a c1)) from rfl))
  (ax (s>=(a.ba.length:Int)) (fun _=>(ia (a:=a) (nl:=a.ba.length) (nv:=a.cC.length) c1 c2 h rfl rfl (show(i6<|.ofNat 5)=nC a s du im from by(unfold nC;repeat' split)<;>first|rfl|omega|(exfalso;omega)) (show aC (nE a s du im)=aC a from by(unfold nE;repeat' split)<;>first|rfl|omega|(exfalso;omega)) 273))
  (fun _=>(ai (ky lq (show((jR a.ba.length a.cC.length c1 c2 a.aO a.fT))[0]? =some ((lQ a c1)) from rfl))
  (dq s (a.ba.length:Int)
  (ax (du<0) (fun _=>(ia (a:=a) (nl:=a.ba.length) (nv:=a.cC.length) c1 c2 h rfl rfl (show(i6<|.ofNat 7)=nC a s du im from by(unfold nC;repeat' split)<;>first|rfl|omega|(exfalso;omega)) (show aC (nE a s du im)=aC a from by(unfold nE;repeat' split)<;>first|rfl|omega|(exfalso;omega)) 273))
  (fun _=>(ai (ke Ap (Bc h) (u7 (l:=a.ba) (z:=s) ab ab) 0 1 rfl)
  (ax ((ib a.ba s).owner≠du) (fun _=>(ia (a:=a) (nl:=a.ba.length) (nv:=a.cC.length) c1 c2 h rfl rfl (show(i6<|.ofNat 7)=nC a s du im from by(unfold nC;repeat' split)<;>first|rfl|omega|(exfalso;omega)) (show aC (nE a s du im)=aC a from by(unfold nE;repeat' split)<;>first|rfl|omega|(exfalso;omega)) 273))
  (fun _=>(ai (ke Ap (Bc h) (u7 (l:=a.ba) (z:=s) ab ab) 1 1 rfl)
  (ax (im<(ib a.ba s).version) (fun _=>(ia (a:=a) (nl:=a.ba.length) (nv:=a.cC.length) c1 c2 h rfl rfl (show(i6<|.ofNat 1)=nC a s du im from by(unfold nC;repeat' split)<;>first|rfl|omega|(exfalso;omega)) (show aC (nE a s du im)=aC a from by(unfold nE;repeat' split)<;>first|rfl|omega|(exfalso;omega)) 273))
  (fun _=>(ai (ky lq (show((jR a.ba.length a.cC.length c1 c2 a.aO a.fT))[1]? =some ((i6 a.aO)) from rfl))
  (ax (im>a.aO) (fun _=>(ia (a:=a) (nl:=a.ba.length) (nv:=a.cC.length) c1 c2 h rfl rfl (show(i6<|.ofNat 1)=nC a s du im from by(unfold nC;repeat' split)<;>first|rfl|omega|(exfalso;omega)) (show aC (nE a s du im)=aC a from by(unfold nE;repeat' split)<;>first|rfl|omega|(exfalso;omega)) 273))
  (fun _=>(ai (qc Ap (Bc h) (u7 (l:=a.ba) (z:=s) ab ab) (c':=(⟨(-1),im⟩:Lk)) (r:=[(i6<|.negSucc 0),(i6 im)]) 0 rfl rfl rfl)
  (ia (a:=(tC a s (⟨(-1),im⟩:Lk))) (nl:=a.ba.length) (nv:=a.cC.length) c1 c2 (Vf h) SJ rfl (show i0=nC a s du im from by(unfold nC;repeat' split)<;>first|rfl|omega|(exfalso;omega)) (show aC (nE a s du im)=aC (tC a s (⟨(-1),im⟩:Lk)) from by(unfold nE;repeat' split)<;>first|rfl|omega|(exfalso;omega)) 273))))))))))))))))))))
theorem ae6(mc:Mt [] B)(h:kf a)(h0:0<=a.aO)(h1:a.fT<=1099511627776):rr B 14 (max Tryz.f14.ntmps 1) (az Tryz.f14) a c1 c2 [] (DB a)<|aC<|DC a:=by
 exact nY mc (.st 8<|.rg<|.go 3<|.il<|.st 4<|.rg<|.go 3<|.ld [(i6 a.aO)]<|.go 3<|.ld [(i6 a.fT)]<|.fk (.en<|.rt 4<|.go 4<|.en<|.rt 1 .no)<|.en<|.st 3<|.rg<|.go 3<|.ld [(i6 a.aO)]<|.vl (i6<|a.aO+1)<|.go 2<|.l6 (aN lS<|jR a.ba.length a.cC.length c1 c2 (a.aO+1) a.fT)<|.en<|.st 1<|.rg<|.go 3<|.ld [(i6<|(a.aO+1))]<|.go 2<|.en<|.rt 1<|.go 4<|.en<|.rt 1 .no)
  (ai (ky lq (show((jR a.ba.length a.cC.length c1 c2 a.aO a.fT))[1]? =some ((i6 a.aO)) from rfl))
  (ai (ky lq (show((jR a.ba.length a.cC.length c1 c2 a.aO a.fT))[2]? =some ((i6 a.fT)) from rfl))
  (ax (a.aO>=a.fT) (fun _=>(ia (a:=a) (nl:=a.ba.length) (nv:=a.cC.length) c1 c2 h rfl rfl (show(.tuple [i0,(i6<|.ofNat 41)])=DB a from by(unfold DB;repeat' split)<;>first|rfl|omega|(exfalso;omega)) (show aC (DC a)=aC a from by(unfold DC;repeat' split)<;>first|rfl|omega|(exfalso;omega)) 273))
  (fun _=>(ai (ky lq (show((jR a.ba.length a.cC.length c1 c2 a.aO a.fT))[1]? =some ((i6 a.aO)) from rfl))
  (ai (wI<|a.aO+1)
  (ai (Up (c':=(i6<|(a.aO+1))) lq (show((jR a.ba.length a.cC.length c1 c2 a.aO a.fT))[1]? =some ((i6 a.aO)) from rfl) rfl)
  (ai (ky lq (show((jR a.ba.length a.cC.length c1 c2 (a.aO+1) a.fT))[1]? =some ((i6<|(a.aO+1))) from rfl))
  (ia (a:=(Jc a<|a.aO+1)) (nl:=a.ba.length) (nv:=a.cC.length) c1 c2 (ae3 h) rfl rfl (show(.tuple [(i6<|(a.aO+1)),i0])=DB a from by(unfold DB;repeat' split)<;>first|rfl|omega|(exfalso;omega)) (show aC (DC a)=aC (Jc a<|a.aO+1) from by(unfold DC;repeat' split)<;>first|rfl|omega|(exfalso;omega)) 273)))))))))
def alS:cr->List AV->Option (AV×cr)
 |a,[.int .i64 x0]=>some (w7 a x0,yU a x0)
 |_,_=>none
def alT:cr->List AV->Option (AV×cr)
 |a,[]=>some (FD a,Jb a)
 |_,_=>none
def WB:cr->List AV->Option (AV×cr)
 |a,[.int .i64 x0,.int .i64 x1]=>some (pz a x0 x1,pA a x0 x1)
 |_,_=>none
def agn:FuncId×KE:=(15,.tok 2<|dX aC WB)
theorem alP(hP:bE pg)(h:aV L):aV<|agn::L:=M5 hP h cP Tryz.func15 fun a rest y a' e=>by unfold WB at e;split at e<;>cases e;exact⟨aL.1 aW,fun B c1 c2 mc hb=>agm mc hb⟩
def amb:cr->List AV->Option (AV×cr)
 |a,[.int .i64 x0,.int .i64 x1]=>some (aic a x0 x1,aid a x0 x1)
 |_,_=>none
def VN:cr->List AV->Option (AV×cr)
 |a,[.int .i64 x0,.int .i64 x1,.int .i64 x2]=>some (nC a x0 x1 x2,nE a x0 x1 x2)
 |_,_=>none
def ae7:FuncId×KE:=(16,.tok 2<|dX aC VN)
theorem alN(hP:bE pg)(h:aV L):aV<|ae7::L:=M5 hP h cP Tryz.func16 fun a rest y a' e=>by unfold VN at e;split at e<;>cases e;exact⟨aL.1 aW,fun B c1 c2 mc hb=>ae5 mc hb⟩
def VO:cr->List AV->Option (AV×cr)
 |a,[]=>some (DB a,DC a)
 |_,_=>none
def ae8:FuncId×KE:=(14,.tok 2<|dX aC VO)
theorem alO(hP:bE pg)(h:aV L):aV<|ae8::L:=M5 hP h cP Tryz.func14 fun a rest y a' e=>by unfold VO at e;split at e<;>cases e;exact⟨aL.1 aW,fun B c1 c2 mc hb=>ae6 mc hb hb.2.2.1 hb.2.2.2⟩
end
end z6
end
section
open Go Go.Rn Go.RowKit Go.Proofs
namespace cO
open cq cz
variable {x1 x0:Int} {L k:Nat}
def sU(m op n:Int)(L:Nat)(x0 x1:Int):Prop:=1<=m/\((op=1/\L=0)\/(op=2/\L=0/\0<=n/\n<8)\/(op=3/\L=0/\0<=n/\n<6)\/(4<=op/\op<=8/\n=0/\L=2/\x0=1/\x1=1))
instance {m op n:Int} {L:Nat} {x0 x1:Int}:Decidable<|sU m op n L x0 x1:=by unfold sU;exact inferInstance
theorem wq1{m op n:Int}(h:1<=m/\((op=1/\L=0)\/(op=2/\L=0/\0<=n/\n<8)\/(op=3/\L=0/\0<=n/\n<6)\/(4<=op/\op<=8/\n=0/\L=2/\x0=1/\x1=1))):AV.bool true= .bool (decide<|sU m op n L x0 x1):=by rw[decide_eq_true (show sU m op n L x0 x1 from h)]
theorem wq0{m op n:Int}(h:¬(1<=m/\((op=1/\L=0)\/(op=2/\L=0/\0<=n/\n<8)\/(op=3/\L=0/\0<=n/\n<6)\/(4<=op/\op<=8/\n=0/\L=2/\x0=1/\x1=1)))):AV.bool false= .bool (decide<|sU m op n L x0 x1):=by rw[decide_eq_false (show ¬sU m op n L x0 x1 from h)]
def sW(k:Nat)(args:List AV)(v:AV):Prop:=∃(e:Ex) (m:Int),args=[.agg<|aB e,.int .i64 m]/\(0<=m/\m<k)/\k<=50/\v= .bool (eM m.toNat e)
theorem sW.bT(args:List AV)(v v':AV)(h:sW k args v)(h':sW k args v'):v=v':=by obtain⟨e,m,rfl,_,_,rfl⟩:=h;obtain⟨e',m',h1,_,_,rfl⟩:=h';simp only[List.cons.injEq,AV.agg.injEq,AV.int.injEq,true_and,_root_.and_true] at h1;rw[nu _ _ h1.1,h1.2]
noncomputable def kW(k:Nat):FuncId×KE:=(97,.val<|aU<|sW k)
theorem adk{B:aJ}{N N0 L0 N1 L1:Nat}{op n m bN n0 cx n1:Int}(mc:Mt [kW k] B)(hn:top<=N)(hm:0<=m/\m<100)(rY:L=2->cX FU N (0+(0:Int).toNat*3+0) 3=some [(u8<|bN),(i6 n0),(.U N0 0 L0)])(iM:L=2->1<=m->bf (aU<|sW k) [(.agg [(u8<|bN),(i6 n0),(.U N0 0 L0)]),(i6<|(m - 1))]=some (.bool<|decide<|x0=1))(jc:L=2->cX FU N (0+(1:Int).toNat*3+0) 3=some [(u8<|cx),(i6 n1),(.U N1 0 L1)])(jK:L=2->1<=m->bf (aU<|sW k) [(.agg [(u8<|cx),(i6 n1),(.U N1 0 L1)]),(i6<|(m - 1))]=some (.bool<|decide<|x1=1)):au pg B 270 (Fin pg (az Tryz.f97) fun y _=>y=(.bool<|decide<|sU m op n L x0 x1)) (sF 97 Tryz.f97 [(.agg [(u8<|op),(i6 n),(.U N 0 L)]),(i6 m)])<|aq ar 270:=by exact wS mc (.st 3<|.rg<|.go 3<|.fk (.go 1<|.en<|.st 3<|.rg<|.go 1<|.fk (.go 1<|.en<|.rt 4 .no)<|.go 1<|.en<|.st 2<|.rg<|.go 2<|.fk (.go 1<|.en<|.rt 4 .no)<|.go 1<|.en<|.st 2<|.rg<|.go 2<|.fk (.go 1<|.en<|.st 2<|.rg<|.go 4<|.fk (.go 4<|.fk (.go 2<|.en<|.rt 1 .no)<|.go 2<|.en<|.rt 1 .no)<|.go 7<|.en<|.rt 1 .no)<|.go 1<|.en<|.st 2<|.rg<|.go 2<|.fk (.go 1<|.en<|.st 2<|.rg<|.go 4<|.fk (.go 4<|.fk (.go 2<|.en<|.rt 1 .no)<|.go 2<|.en<|.rt 1 .no)<|.go 7<|.en<|.rt 1 .no)<|.go 1<|.en<|.st 2<|.rg<|.go 2<|.fk (.go 17<|.en<|.rt 4 .no)<|.go 3<|.fk (.go 13<|.en<|.rt 4 .no)<|.go 4<|.fk (.go 8<|.en<|.rt 4 .no)<|.go 5<|.fk (.go 2<|.en<|.rt 4 .no)<|.go 2<|.en<|.st 4<|.rg<|.go 2<|.fF<|.fG [(u8<|bN),(i6 n0),(.U N0 0 L0)]<|.go 1<|.vl (i6<|m - 1)<|.kp (x0=1) inferInstance (.go 3<|.fF<|.fG [(u8<|cx),(i6 n1),(.U N1 0 L1)]<|.go 1<|.vl (i6<|m - 1)<|.kp (x1=1) inferInstance (.go 2<|.en<|.rt 1 .no)<|.go 2<|.en<|.rt 1 .no)<|.go 10<|.en<|.rt 1 .no)<|.go 1<|.en<|.st 3<|.rg<|.go 1<|.fk (.go 1<|.en<|.rt 4 .no)<|.go 1<|.en<|.st 2<|.rg<|.go 2<|.fk (.go 1<|.en<|.rt 4 .no)<|.go 1<|.en<|.st 2<|.rg<|.go 2<|.fk (.go 1<|.en<|.rt 4 .no)<|.go 1<|.en<|.st 2<|.rg<|.go 2<|.fk (.go 1<|.en<|.rt 4 .no)<|.go 1<|.en<|.st 2<|.rg<|.go 2<|.fk (.go 17<|.en<|.rt 4 .no)<|.go 3<|.fk (.go 13<|.en<|.rt 4 .no)<|.go 4<|.fk (.go 8<|.en<|.rt 4 .no)<|.go 5<|.fk (.go 2<|.en<|.rt 4 .no)<|.go 2<|.en<|.st 4<|.rg<|.go 2<|.fF<|.fG [(u8<|bN),(i6 n0),(.U N0 0 L0)]<|.go 1<|.vl (i6<|m - 1)<|.kp (x0=1) inferInstance (.go 3<|.fF<|.fG [(u8<|cx),(i6 n1),(.U N1 0 L1)]<|.go 1<|.vl (i6<|m - 1)<|.kp (x1=1) inferInstance (.go 2<|.en<|.rt 1 .no)<|.go 2<|.en<|.rt 1 .no)<|.go 10<|.en<|.rt 1 .no)<|ax ((L:Int)=0) (fun _=>(ax (m<1) oP fun _=>(ax (op=1) Ke fun _=>(ax (op=2) (fun _=>(ax (n>=0) (fun _=>(ax (n<8) Ke oP)) oP)) fun _=>(ax (op=3) (fun _=>(ax (n>=0) (fun _=>(ax (n<6) Ke oP)) oP)) Wq))))) fun _=>(ax (m<1) oP fun _=>(ax (op=1) oP fun _=>(ax (op=2) oP fun _=>(ax (op=3) oP Wq))))
end cO
end
section
open Go Go.Rn Go.RowKit Go.Proofs
namespace cT
open cq cz cO
theorem yK{l:List Ex}{i:Nat}{a:Ex}(h:l[i]? =some a){z:Int}(hz:z.toNat=i):cX FU (nm<|cI l) (0+z.toNat*3+0) 3=some (aB a):=by rw[Cz,hz,Nat.zero_add,C4 kK h 0 3 ab];rw[List.drop_zero,List.take_of_length_le (by rw[kK.len];omega)]
def bit(b:Bool):Int:=if b then 1 else 0
theorem wN(b:Bool):decide (bit b=1)=b:=by cases b<;>rfl
theorem abX{m op n:Int}{l:List Ex}(h0:0<=m):sU m op n l.length (bit<|eM (m - 1).toNat<|l.getD 0 default) (bit<|eM (m - 1).toNat<|l.getD 1 default)↔eM m.toNat (.mk op n l)=true:=by
 by_cases hm:m=0
 ·subst hm;unfold sU;show _↔false=true;constructor
  ·intro h;omega
  ·intro h;cases h
 ·obtain⟨k,hk⟩:∃k,m.toNat=k+1:=⟨m.toNat - 1,by omega⟩;rw[hk,show(m - 1).toNat=k by omega,LF];unfold sU;have b1:∀b:Bool,(bit b=1)↔b=true:=fun b=>by cases b<;>decide
  rw[b1,b1];have e1:l.isEmpty=true↔l.length=0:=by cases l<;>simp
  generalize eM k (l.getD 0 default)=x;generalize eM k (l.getD 1 default)=y;generalize l.isEmpty=q at e1;generalize l.length=L at e1;have x2:(x=true)\/(x=false):=by cases x<;>simp
  have y2:(y=true)\/(y=false):=by cases y<;>simp
  split
  ·rw[e1];omega
  split
  ·rw[Bool.and_eq_true,Bool.and_eq_true,e1,decide_eq_true_eq,decide_eq_true_eq];omega
  split
  ·rw[Bool.and_eq_true,Bool.and_eq_true,e1,decide_eq_true_eq,decide_eq_true_eq];omega
  split
  ·exact⟨fun h=>by omega,fun h=>by cases h⟩
  rw[Bool.and_eq_true,Bool.and_eq_true,decide_eq_true_eq];constructor
  ·intro h;rcases h.2 with h|h|h|h
   ·omega
   ·omega
   ·omega
   ·exact⟨⟨h.2.2.2.1,h.2.2.2.2.1⟩,h.2.2.2.2.2⟩
  ·intro h;exact⟨by omega,.inr<|.inr<|.inr ⟨by omega,by omega,by omega,h.1.1,h.1.2,h.2⟩⟩
theorem Bq(e:Ex):AV.hi (.agg<|aB e)=true:=by show(aB e).all AV.bZ=true;exact List.all_eq_true.2 fun x hx=>CK<|List.all_eq_true.1 (kK.gb e) x hx
theorem ZP(hP:bE pg){k:Nat}(h':aV [kW k]){L:bY}(h:aV L):aV<|kW (k+1)::L:=by
 refine ig hP h h' Tryz.func97 fun args v e=>?_;obtain⟨⟨op,n,l⟩,m,rfl,hm,hk,rfl⟩:=gI e;refine⟨aL.1 aW,fun B mc=>?_⟩;rw[←gX];obtain⟨bN,n0,l0,e0⟩:∃a b c,l.getD 0 default=Ex.mk a b c:=by cases l.getD 0 default;exact⟨_,_,_,rfl⟩
 obtain⟨cx,n1,l1,e1⟩:∃a b c,l.getD 1 default=Ex.mk a b c:=by cases l.getD 1 default;exact⟨_,_,_,rfl⟩
 have c:∀x:Ex,1<=m->bf (aU<|sW k) [.agg<|aB x,.int .i64<|m - 1]=some (.bool<|decide<|bit (eM (m - 1).toNat x)=1):=fun x h1=>by rw[wN];refine fA (eZ sW.bT ⟨x,m - 1,rfl,by omega,by omega,rfl⟩) ?_ rfl;rw[List.all_cons,Bq];rfl
 have key:=adk (L:=l.length) (N:=nm<|cI l) (op:=op) (n:=n) (m:=m) (k:=k) mc (dU _) ab
  (x0:=bit<|eM (m - 1).toNat<|l.getD 0 default) (x1:=bit<|eM (m - 1).toNat<|l.getD 1 default)
  (N0:=nm<|cI l0) (L0:=l0.length) (bN:=bN) (n0:=n0) (N1:=nm<|cI l1) (L1:=l1.length) (cx:=cx) (n1:=n1)
  (fun _=>by have:=yK (l:=l) (i:=0) (a:=l.getD 0 default) (by rw[List.getD_eq_getElem?_getD,List.getElem?_eq_getElem (show 0<l.length by omega)];rfl) (z:=0) rfl;rw[e0,aB] at this;exact this)
  (fun h2 h1=>by have:=c (l.getD 0 default) h1;rw[e0,aB, ←e0] at this;exact this)
  (fun _=>by have:=yK (l:=l) (i:=1) (a:=l.getD 1 default) (by rw[List.getD_eq_getElem?_getD,List.getElem?_eq_getElem (show 1<l.length by omega)];rfl) (z:=1) rfl;rw[e1,aB] at this;exact this)
  (fun h2 h1=>by have:=c (l.getD 1 default) h1;rw[e1,aB, ←e1] at this;exact this)
 rw[show decide (sU m op n l.length _ _)=eM m.toNat (.mk op n l) from by rw[Bool.eq_iff_iff,decide_eq_true_eq];exact abX hm.1] at key;rw[aB];exact key
theorem SK(hP:bE pg):∀k,aV [kW k]
 |0=>by refine ig hP cP cP Tryz.func97 fun args v e=>?_;obtain⟨_,m,_,hm,_⟩:=gI e;omega
 |k+1=>ZP hP (SK hP k) cP
end cT
end
section
open Go Go.Rn Go.RowKit Go.Proofs
namespace fm
open cq cz cO cT
variable {x:Int} {B:aJ} {N L:Nat}
def tO(x m:Int):AV:=if m<1 then .tuple [.int .i64 0,.int .i64 1] else if Int.tmod x m<0 then .tuple [.int .i64<|Int.tmod x m+m,.int .i64 0] else .tuple [.int .i64<|Int.tmod x m,.int .i64 0]
theorem adl{m:Int}(h:1<=m): - m<Int.tmod x m/\Int.tmod x m<m:=by have h1:=Int.tmod_lt_of_pos x (show 0<m by omega);have h2:=Int.lt_tmod_of_pos x (show 0<m by omega);exact⟨h2,h1⟩
theorem adm{op n:Int}(mc:Mt [kW 7] B)(hc:bf (aU<|sW 7) [(.agg [(u8<|op),(i6 n),(.U N 0 L)]),.int .i64 6]=some (.bool<|decide<|x=1)):au pg B 270 (Fin pg (az Tryz.f89) fun y _=>y=(.bool<|decide<|x=1)) (sF 89 Tryz.f89 [(.agg [(u8<|op),(i6 n),(.U N 0 L)])])<|aq ar 270:=by exact wS mc (.st 3<|.rg<|.go 1<|.kp (x=1) inferInstance (.go 1<|.en<|.rt 1 .no)<|.go 1<|.en<|.rt 1 .no)<|ai hc<|ax (x=1) (fun _=>(show AV.bool true= .bool (decide<|x=1) from by rw[decide_eq_true ab])) fun _=>(show AV.bool false= .bool (decide<|x=1) from by rw[decide_eq_false ab])
theorem aie{o:Nat}{z u:Int}(mc:Mt [] B)(hn:top<=N)(hz:0<=z)(hy:z<(L:Int)->cX FU N (o+z.toNat*1+0) 1=some [.int .i64 u]):au pg B 270 (Fin pg (az Tryz.f98) fun y _=>y=(if z>=(L:Int) then .tuple [.int .i64 0,.int .i64 5] else .tuple [.int .i64 u,.int .i64 0])) (sF 98 Tryz.f98 [(.U N o L),(i6 z)])<|aq ar 270:=by exact wS mc (.st 4<|.rg<|.go 3<|.fk (.en<|.rt 4 .no)<|.en<|.st 3<|.rg<|.go 2<|.fF<|.fG [(i6 u)]<|.go 2<|.en<|.rt 1 .no)<|ax (z>=(L:Int)) (fun _=>(show AV.tuple [i0,(i6<|.ofNat 5)]=(if z>=(L:Int) then .tuple [.int .i64 0,.int .i64 5] else .tuple [.int .i64 u,.int .i64 0]) from by rw[if_pos ab];rfl)) fun _=>(dq z (L:Int)<|ai hn<|ai (hy ab) (show AV.tuple [(i6 u),i0]=(if z>=(L:Int) then .tuple [.int .i64 0,.int .i64 5] else .tuple [.int .i64 u,.int .i64 0]) from by rw[if_neg ab];rfl))
theorem ago{m:Int}(mc:Mt [] B)(hm:m<=1099511627776)(ht:1<=m-> - m<Int.tmod x m):au pg B 270 (Fin pg (az Tryz.f74) fun y _=>y=(tO x m)) (sF 74 Tryz.f74 [(i6 x),(i6 m)])<|aq ar 270:=by exact wS mc (.st 4<|.rg<|.go 1<|.fk (.en<|.rt 4 .no)<|.en<|.st 3<|.rg<|.go 2<|.rm<|.go 1<|.en<|.st 2<|.rg<|.go 1<|.fk (.en<|.st 1<|.rg<|.go 2<|.vl (i6<|(Int.tmod x m)+m)<|.go 1<|.en<|.rt 3 .no)<|.en<|.rt 5 .no)<|ax (m<1) (fun _=>(show AV.tuple [i0,(i6<|.ofNat 1)]=tO x m from by unfold tO;repeat' split<;>first|rfl|omega|(exfalso;omega))) fun _=>(ai (show m≠0 from by omega)<|ax ((Int.tmod x m)<0) (fun _=>(ai (wI<|(Int.tmod x m)+m) (show AV.tuple [(i6<|((Int.tmod x m)+m)),i0]=tO x m from by unfold tO;repeat' split<;>first|rfl|omega|(exfalso;omega)))) fun _=>(show AV.tuple [(i6<|(Int.tmod x m)),i0]=tO x m from by unfold tO;repeat' split<;>first|rfl|omega|(exfalso;omega)))
end fm
end
section
open Go Go.Rn Go.RowKit Go.Proofs
namespace eR
open cq cz cO cT fm
variable {L:bY}
noncomputable section
def vB(args:List AV)(v:AV):Prop:=∃e:Ex,args=[.agg<|aB e]/\v= .bool (eM 6 e)
theorem vB.bT(args:List AV)(v v':AV)(h:vB args v)(h':vB args v'):v=v':=by obtain⟨e,rfl,rfl⟩:=h;obtain⟨e',h1,rfl⟩:=h';simp only[List.cons.injEq,AV.agg.injEq,_root_.and_true] at h1;rw[nu _ _ h1]
def PA:FuncId×KE:=(89,.val<|aU vB)
theorem Us(hP:bE pg)(h:aV L):aV<|PA::L:=by refine ig hP h (SK hP 7) Tryz.func89 fun args v e=>?_;obtain⟨⟨op,n,l⟩,rfl,rfl⟩:=gI e;refine⟨aL.1 aW,fun B mc=>?_⟩;rw[←gX];have key:=adm (L:=l.length) (N:=nm<|cI l) (op:=op) (n:=n) (x:=bit<|eM 6<|.mk op n l) mc (by rw[wN];have:=fA (eZ sW.bT ⟨.mk op n l,6,rfl,by omega,by omega,rfl⟩:aU (sW 7) [.agg<|aB<|.mk op n l,.int .i64 6]=_) rF rfl;rw[aB] at this;exact this);rw[wN] at key;rw[aB];exact key
def sa(l:List Int)(z:Int):Int×Int:=if z>=(l.length:Int) then(0,5) else(oJ l z,0)
def DZ(p:Int×Int):AV:=.tuple [.int .i64 p.1,.int .i64 p.2]
def AtR(args:List AV)(v:AV):Prop:=∃(N o L:Nat) (l:List Int) (z:Int),args=[.U N o L,.int .i64 z]/\eC bS 1 (.U N o L) l/\0<=z/\v=DZ (sa l z)
theorem AtR.bT(args:List AV)(v v':AV)(h:AtR args v)(h':AtR args v'):v=v':=by obtain⟨N,o,L,l,z,rfl,hl,_,rfl⟩:=h;obtain⟨N',o',L',l',z',h1,mR,_,rfl⟩:=h';simp only[List.cons.injEq,AV.U.injEq,AV.int.injEq,true_and,_root_.and_true] at h1;obtain⟨⟨rfl,rfl,rfl⟩,rfl⟩:=h1;rw[eC.inj wD hl mR]
def z7:FuncId×KE:=(98,.val<|aU AtR)
theorem ae9(hP:bE pg)(h:aV L):aV<|z7::L:=by
 refine ig hP h cP Tryz.func98 fun args v e=>?_;obtain⟨N,o,len,l,z,rfl,hl,hz,rfl⟩:=gI e;refine⟨aL.1 aW,fun B mc=>?_⟩;rw[←gX];obtain⟨h1,h2,h3⟩:=hl.len;subst h1;have key:=aie (u:=oJ l z) mc h2 hz (fun bJ=>by have:=h3 z.toNat (oJ l z)<|OV hz ab;exact this);unfold DZ sa;split at key<;>rename_i q
 ·rw[if_pos q];exact key
 ·rw[if_neg q];exact key
def BJ(args:List AV)(v:AV):Prop:=∃(x m:Int),args=[.int .i64 x,.int .i64 m]/\m<=1099511627776/\v=tO x m
theorem BJ.bT(args:List AV)(v v':AV)(h:BJ args v)(h':BJ args v'):v=v':=by obtain⟨x,m,rfl,_,rfl⟩:=h;obtain⟨x',m',h1,_,rfl⟩:=h';simp only[List.cons.injEq,AV.int.injEq,true_and,_root_.and_true] at h1;rw[h1.1,h1.2]
def Kj:FuncId×KE:=(74,.val<|aU BJ)
theorem adn(hP:bE pg)(h:aV L):aV<|Kj::L:=by refine ig hP h cP Tryz.func74 fun args v e=>?_;obtain⟨x,m,rfl,hm,rfl⟩:=gI e;refine⟨aL.1 aW,fun B mc=>?_⟩;rw[←gX];exact ago mc hm fun h=>(adl h).1
end
end eR
end
section
open Go Go.Rn Go.RowKit Go.Proofs
namespace fM
open cq cz cO cT fm eR
variable {k q p lm lg N1 N0 N L1 L0 L G:Nat} {x1 x0 bN n1 n0 f1 f0:Int} {B:aJ}
def nZ(op a b:Int):Int:=if op=4 then IntKind.wrap .i64 (a+b) else if op=5 then IntKind.wrap .i64 (a - b) else if op=6 then IntKind.wrap .i64 (a*b) else if op=7 then(if a<b then 1 else 0) else if a=b then 1 else 0
def ly(op n x0 f0 x1 f1:Int):Int×Int:=if op=1 then(n,0) else if op=2 then(x0,f0) else if op=3 then(x0,f0) else if f0≠0 then(0,f0) else if f1≠0 then(0,f1) else(nZ op x0 x1,0)
def gL(op n x0 f0 x1 f1:Int):AV:=DZ<|ly op n x0 f0 x1 f1
def lz:Nat->Ex->List Int->List Int->Int×Int
 |0,_,_,_=>(0,0)
 |k+1,.mk op n args,lo,aK=>
  if op=2 then ly op n (sa lo n).1 (sa lo n).2 0 0 else if op=3 then ly op n (sa aK n).1 (sa aK n).2 0 0
  else ly op n (lz k (args.getD 0 default) lo aK).1 (lz k (args.getD 0 default) lo aK).2 (lz k (args.getD 1 default) lo aK).1 (lz k (args.getD 1 default) lo aK).2
theorem ZQ{op n:Int}{args:List Ex}{lo aK:List Int}:lz (k+1) (.mk op n args) lo aK=if op=2 then ly op n (sa lo n).1 (sa lo n).2 0 0 else if op=3 then ly op n (sa aK n).1 (sa aK n).2 0 0 else ly op n (lz k (args.getD 0 default) lo aK).1 (lz k (args.getD 0 default) lo aK).2 (lz k (args.getD 1 default) lo aK).1 (lz k (args.getD 1 default) lo aK).2:=rfl
def qo(k:Nat)(args:List AV)(v:AV):Prop:=∃(e:Ex) (M p lm G q lg:Nat) (lo aK:List Int),args=[.agg<|aB e,.U M p lm,.U G q lg]/\eC bS 1 (.U M p lm) lo/\eC bS 1 (.U G q lg) aK/\eM k e=true/\v=DZ (lz k e lo aK)
theorem qo.bT(args:List AV)(v v':AV)(h:qo k args v)(h':qo k args v'):v=v':=by obtain⟨e,M,p,lm,G,q,lg,lo,aK,rfl,a1,a2,_,rfl⟩:=h;obtain⟨e',M',p',lm',G',q',lg',nX,WC,h1,b1,b2,_,rfl⟩:=h';simp only[List.cons.injEq,AV.agg.injEq,AV.U.injEq,_root_.and_true] at h1;obtain⟨h0,⟨rfl,rfl,rfl⟩,rfl,rfl,rfl⟩:=h1;rw[nu _ _ h0,eC.inj wD a1 b1,eC.inj wD a2 b2]
noncomputable def kC(k:Nat):FuncId×KE:=(90,.val<|aU<|qo k)
theorem ado{M N0 L0 N1 L1:Nat}{n bN n0 cx n1:Int}(mc:Mt [kC k,z7] B):au pg B 270 (Fin pg (az Tryz.f90) fun y _=>y=(gL 1 n x0 f0 x1 f1)) (sF 90 Tryz.f90 [(.agg [(u8<|.ofNat 1),(i6 n),(.U N 0 L)]),(.U M p lm),(.U G q lg)])<|aq ar 270:=by exact wS mc (.rt 12 .no) (show AV.tuple [(i6 n),i0]=gL 1 n x0 f0 x1 f1 from by(unfold gL ly nZ;repeat' split)<;>first|rfl|(exfalso;omega))
theorem adp{M N0 L0 N1 L1:Nat}{n bN n0 cx n1:Int}(mc:Mt [kC k,z7] B)(hc:bf (aU AtR) [(.U M p lm),.int .i64 n]=some (.tuple [.int .i64 x0,.int .i64 f0])):au pg B 270 (Fin pg (az Tryz.f90) fun y _=>y=(gL 2 n x0 f0 x1 f1)) (sF 90 Tryz.f90 [(.agg [(u8<|.ofNat 2),(i6 n),(.U N 0 L)]),(.U M p lm),(.U G q lg)])<|aq ar 270:=by exact wS mc (.st 13<|.rg<|.go 3<|.kn (.tuple [(i6 x0),(i6 f0)])<|.go 4<|.en<|.rt 1 .no)<|ai hc (show AV.tuple [(i6 x0),(i6 f0)]=gL 2 n x0 f0 x1 f1 from by(unfold gL ly nZ;repeat' split)<;>first|rfl|(exfalso;omega))
theorem adq{M N0 L0 N1 L1:Nat}{n bN n0 cx n1:Int}(mc:Mt [kC k,z7] B)(hc:bf (aU AtR) [(.U G q lg),.int .i64 n]=some (.tuple [.int .i64 x0,.int .i64 f0])):au pg B 270 (Fin pg (az Tryz.f90) fun y _=>y=(gL 3 n x0 f0 x1 f1)) (sF 90 Tryz.f90 [(.agg [(u8<|.ofNat 3),(i6 n),(.U N 0 L)]),(.U M p lm),(.U G q lg)])<|aq ar 270:=by exact wS mc (.st 16<|.rg<|.go 3<|.kn (.tuple [(i6 x0),(i6 f0)])<|.go 4<|.en<|.rt 1 .no)<|ai hc (show AV.tuple [(i6 x0),(i6 f0)]=gL 3 n x0 f0 x1 f1 from by(unfold gL ly nZ;repeat' split)<;>first|rfl|(exfalso;omega))
theorem NC{ka:Int}(hk:ka=4\/ka=5\/ka=6){L M:Nat}{n cx:Int}(mc:Mt [kC k,z7] B)(hn:top<=N)(rY:cX FU N (0+(0:Int).toNat*3+0) 3=some [(u8<|bN),(i6 n0),(.U N0 0 L0)])(iM:bf (aU<|qo k) [(.agg [(u8<|bN),(i6 n0),(.U N0 0 L0)]),(.U M p lm),(.U G q lg)]=some (.tuple [.int .i64 x0,.int .i64 f0]))(jc:cX FU N (0+(1:Int).toNat*3+0) 3=some [(u8<|cx),(i6 n1),(.U N1 0 L1)])(jK:bf (aU<|qo k) [(.agg [(u8<|cx),(i6 n1),(.U N1 0 L1)]),(.U M p lm),(.U G q lg)]=some (.tuple [.int .i64 x1,.int .i64 f1])):au pg B 270 (Fin pg (az Tryz.f90) fun y _=>y=(gL ka n x0 f0 x1 f1)) (sF 90 Tryz.f90 [(.agg [(.int .u8 ka),(i6 n),(.U N 0 2)]),(.U M p lm),(.U G q lg)])<|aq ar 270:=by
 have TT:=(dq (0:Int) 2<|ai hn<|ai rY<|ai iM<|ax (f0≠0) (fun _=>(show AV.tuple [i0,(i6 f0)]=gL ka n x0 f0 x1 f1 from by rcases hk with rfl|rfl|rfl<;>(unfold gL ly nZ;repeat' split)<;>first|rfl|(exfalso;omega))) fun _=>(dq (1:Int) 2<|ai hn<|ai jc<|ai jK<|ax (f1≠0) (fun _=>(show AV.tuple [i0,(i6 f1)]=gL ka n x0 f0 x1 f1 from by rcases hk with rfl|rfl|rfl<;>(unfold gL ly nZ;repeat' split)<;>first|rfl|(exfalso;omega))) fun _=>(show AV.tuple [(i6<|nZ ka x0 x1),i0]=gL ka n x0 f0 x1 f1 from by rcases hk with rfl|rfl|rfl<;>(unfold gL ly nZ;repeat' split)<;>first|rfl|(exfalso;omega))));rcases hk with rfl|rfl|rfl
 all_goals exact wS mc (.st 32<|.rg<|.go 1<|.fF<|.fG [(u8<|bN),(i6 n0),(.U N0 0 L0)]<|.go 3<|.en<|.st 1<|.rg<|.go 3<|.kn (.tuple [(i6 x0),(i6 f0)])<|.go 5<|.en<|.st 2<|.rg<|.go 1<|.fk (.en<|.rt 4 .no)<|.en<|.st 14<|.rg<|.go 1<|.fF<|.fG [(u8<|cx),(i6 n1),(.U N1 0 L1)]<|.go 3<|.en<|.st 1<|.rg<|.go 3<|.kn (.tuple [(i6 x1),(i6 f1)])<|.go 5<|.en<|.st 2<|.rg<|.go 1<|.fk (.en<|.rt 4 .no)<|.en<|.st 12<|.rg<|.go 8<|.il<|.st 3<|.rg<|.go 2<|.go 1<|.go 1<|.en<|.rt 1<|.go 2<|.en<|.rt 1 .no) TT
theorem adr{L M:Nat}{n cx:Int}(mc:Mt [kC k,z7] B)(hn:top<=N)(rY:cX FU N (0+(0:Int).toNat*3+0) 3=some [(u8<|bN),(i6 n0),(.U N0 0 L0)])(iM:bf (aU<|qo k) [(.agg [(u8<|bN),(i6 n0),(.U N0 0 L0)]),(.U M p lm),(.U G q lg)]=some (.tuple [.int .i64 x0,.int .i64 f0]))(jc:cX FU N (0+(1:Int).toNat*3+0) 3=some [(u8<|cx),(i6 n1),(.U N1 0 L1)])(jK:bf (aU<|qo k) [(.agg [(u8<|cx),(i6 n1),(.U N1 0 L1)]),(.U M p lm),(.U G q lg)]=some (.tuple [.int .i64 x1,.int .i64 f1])):au pg B 270 (Fin pg (az Tryz.f90) fun y _=>y=(gL 7 n x0 f0 x1 f1)) (sF 90 Tryz.f90 [(.agg [(u8<|.ofNat 7),(i6 n),(.U N 0 2)]),(.U M p lm),(.U G q lg)])<|aq ar 270:=by exact wS mc (.st 32<|.rg<|.go 1<|.fF<|.fG [(u8<|bN),(i6 n0),(.U N0 0 L0)]<|.go 3<|.en<|.st 1<|.rg<|.go 3<|.kn (.tuple [(i6 x0),(i6 f0)])<|.go 5<|.en<|.st 2<|.rg<|.go 1<|.fk (.en<|.rt 4 .no)<|.en<|.st 14<|.rg<|.go 1<|.fF<|.fG [(u8<|cx),(i6 n1),(.U N1 0 L1)]<|.go 3<|.en<|.st 1<|.rg<|.go 3<|.kn (.tuple [(i6 x1),(i6 f1)])<|.go 5<|.en<|.st 2<|.rg<|.go 1<|.fk (.en<|.rt 4 .no)<|.en<|.st 12<|.rg<|.go 8<|.il<|.st 3<|.rg<|.go 2<|.fk (.il<|.rt 9<|.go 1<|.en<|.rt 1<|.go 2<|.en<|.rt 1 .no)<|.il<|.rt 10<|.go 1<|.en<|.rt 1<|.go 2<|.en<|.rt 1 .no)<|dq (0:Int) 2<|ai hn<|ai rY<|ai iM<|ax (f0≠0) (fun _=>(show AV.tuple [i0,(i6 f0)]=gL 7 n x0 f0 x1 f1 from by(unfold gL ly nZ;repeat' split)<;>first|rfl|(exfalso;omega))) fun _=>(dq (1:Int) 2<|ai hn<|ai jc<|ai jK<|ax (f1≠0) (fun _=>(show AV.tuple [i0,(i6 f1)]=gL 7 n x0 f0 x1 f1 from by(unfold gL ly nZ;repeat' split)<;>first|rfl|(exfalso;omega))) fun _=>(ax (x0<x1) (fun _=>(show AV.tuple [(i6<|.ofNat 1),i0]=gL 7 n x0 f0 x1 f1 from by(unfold gL ly nZ;repeat' split)<;>first|rfl|(exfalso;omega))) fun _=>(show AV.tuple [i0,i0]=gL 7 n x0 f0 x1 f1 from by(unfold gL ly nZ;repeat' split)<;>first|rfl|(exfalso;omega))))
theorem ads{L M:Nat}{n cx:Int}(mc:Mt [kC k,z7] B)(hn:top<=N)(rY:cX FU N (0+(0:Int).toNat*3+0) 3=some [(u8<|bN),(i6 n0),(.U N0 0 L0)])(iM:bf (aU<|qo k) [(.agg [(u8<|bN),(i6 n0),(.U N0 0 L0)]),(.U M p lm),(.U G q lg)]=some (.tuple [.int .i64 x0,.int .i64 f0]))(jc:cX FU N (0+(1:Int).toNat*3+0) 3=some [(u8<|cx),(i6 n1),(.U N1 0 L1)])(jK:bf (aU<|qo k) [(.agg [(u8<|cx),(i6 n1),(.U N1 0 L1)]),(.U M p lm),(.U G q lg)]=some (.tuple [.int .i64 x1,.int .i64 f1])):au pg B 270 (Fin pg (az Tryz.f90) fun y _=>y=(gL 8 n x0 f0 x1 f1)) (sF 90 Tryz.f90 [(.agg [(u8<|.ofNat 8),(i6 n),(.U N 0 2)]),(.U M p lm),(.U G q lg)])<|aq ar 270:=by exact wS mc (.st 32<|.rg<|.go 1<|.fF<|.fG [(u8<|bN),(i6 n0),(.U N0 0 L0)]<|.go 3<|.en<|.st 1<|.rg<|.go 3<|.kn (.tuple [(i6 x0),(i6 f0)])<|.go 5<|.en<|.st 2<|.rg<|.go 1<|.fk (.en<|.rt 4 .no)<|.en<|.st 14<|.rg<|.go 1<|.fF<|.fG [(u8<|cx),(i6 n1),(.U N1 0 L1)]<|.go 3<|.en<|.st 1<|.rg<|.go 3<|.kn (.tuple [(i6 x1),(i6 f1)])<|.go 5<|.en<|.st 2<|.rg<|.go 1<|.fk (.en<|.rt 4 .no)<|.en<|.st 12<|.rg<|.go 8<|.il<|.st 3<|.rg<|.go 2<|.fk (.il<|.rt 9<|.go 1<|.en<|.rt 1<|.go 2<|.en<|.rt 1 .no)<|.il<|.rt 10<|.go 1<|.en<|.rt 1<|.go 2<|.en<|.rt 1 .no)<|dq (0:Int) 2<|ai hn<|ai rY<|ai iM<|ax (f0≠0) (fun _=>(show AV.tuple [i0,(i6 f0)]=gL 8 n x0 f0 x1 f1 from by(unfold gL ly nZ;repeat' split)<;>first|rfl|(exfalso;omega))) fun _=>(dq (1:Int) 2<|ai hn<|ai jc<|ai jK<|ax (f1≠0) (fun _=>(show AV.tuple [i0,(i6 f1)]=gL 8 n x0 f0 x1 f1 from by(unfold gL ly nZ;repeat' split)<;>first|rfl|(exfalso;omega))) fun _=>(ax (x0=x1) (fun _=>(show AV.tuple [(i6<|.ofNat 1),i0]=gL 8 n x0 f0 x1 f1 from by(unfold gL ly nZ;repeat' split)<;>first|rfl|(exfalso;omega))) fun _=>(show AV.tuple [i0,i0]=gL 8 n x0 f0 x1 f1 from by(unfold gL ly nZ;repeat' split)<;>first|rfl|(exfalso;omega))))
end fM
end
section
open Go Go.Rn Go.RowKit Go.Proofs
namespace fO
open cq cz cO cT fm eR fM
variable {k:Nat}
theorem Zd{op n:Int}{l:List Ex}(h:eM (k+1) (.mk op n l)=true):(op=1\/(op=2/\0<=n)\/(op=3/\0<=n))\/((op=4\/op=5\/op=6\/op=7\/op=8)/\l.length=2/\eM k (l.getD 0 default)=true/\eM k (l.getD 1 default)=true):=by
 rw[LF] at h;split at h
 ·omega
 split at h
 ·rw[Bool.and_eq_true,Bool.and_eq_true,decide_eq_true_eq] at h;omega
 split at h
 ·rw[Bool.and_eq_true,Bool.and_eq_true,decide_eq_true_eq] at h;omega
 split at h
 ·cases h
 rw[Bool.and_eq_true,Bool.and_eq_true,decide_eq_true_eq] at h;exact .inr ⟨by omega,h.1.1,h.1.2,h.2⟩
theorem VP{N o L:Nat}{l:List Int}{z:Int}(h:eC bS 1 (.U N o L) l)(hz:0<=z):bf (aU AtR) [.U N o L,.int .i64 z]=some (.tuple [.int .i64 (sa l z).1,.int .i64 (sa l z).2]):=fA (eZ AtR.bT ⟨N,o,L,l,z,rfl,h,hz,rfl⟩) (by rw[List.all_cons,h.hi];rfl) rfl
theorem ND{e:Ex}{M p lm G q lg:Nat}{lo aK:List Int}(h1:eC bS 1 (.U M p lm) lo)(h2:eC bS 1 (.U G q lg) aK)(hw:eM k e=true):
 bf (aU<|qo k) [.agg<|aB e,.U M p lm,.U G q lg]=some (.tuple [.int .i64 (lz k e lo aK).1,.int .i64 (lz k e lo aK).2]):=
 fA (eZ qo.bT ⟨e,M,p,lm,G,q,lg,lo,aK,rfl,h1,h2,hw,rfl⟩) (by rw[List.all_cons,List.all_cons,List.all_cons,Bq,h1.hi,h2.hi];rfl) rfl
theorem aaK(hP:bE pg)(h':aV [kC k,z7]){L:bY}(h:aV L):aV<|kC (k+1)::L:=by
 refine ig hP h h' Tryz.func90 fun args v e=>?_;obtain⟨⟨op,n,l⟩,M,p,lm,G,q,lg,lo,aK,rfl,i1,i2,hw,rfl⟩:=gI e;refine⟨aL.1 aW,fun B mc=>?_⟩;rw[←gX,ZQ,aB];rcases Zd hw with(rfl|⟨rfl,hn⟩|⟨rfl,hn⟩)|⟨ho,h2,w0,w1⟩
 ·exact ado (N0:=0) (L0:=0) (N1:=0) (L1:=0) (bN:=0) (n0:=0) (cx:=0) (n1:=0) (x0:=(lz k (l.getD 0 default) lo aK).1) (f0:=(lz k (l.getD 0 default) lo aK).2) (x1:=(lz k (l.getD 1 default) lo aK).1) (f1:=(lz k (l.getD 1 default) lo aK).2) mc
 ·exact adp (N0:=0) (L0:=0) (N1:=0) (L1:=0) (bN:=0) (n0:=0) (cx:=0) (n1:=0) (x1:=0) (f1:=0) mc<|VP i1 hn
 ·exact adq (N0:=0) (L0:=0) (N1:=0) (L1:=0) (bN:=0) (n0:=0) (cx:=0) (n1:=0) (x1:=0) (f1:=0) mc<|VP i2 hn
 obtain⟨bN,n0,l0,e0⟩:∃a b c,l.getD 0 default=Ex.mk a b c:=by cases l.getD 0 default;exact⟨_,_,_,rfl⟩
 obtain⟨cx,n1,l1,e1⟩:∃a b c,l.getD 1 default=Ex.mk a b c:=by cases l.getD 1 default;exact⟨_,_,_,rfl⟩
 have t0:=yK (l:=l) (i:=0) (a:=l.getD 0 default) (by rw[List.getD_eq_getElem?_getD,List.getElem?_eq_getElem (show 0<l.length by omega)];rfl) (z:=0) rfl;have t1:=yK (l:=l) (i:=1) (a:=l.getD 1 default) (by rw[List.getD_eq_getElem?_getD,List.getElem?_eq_getElem (show 1<l.length by omega)];rfl) (z:=1) rfl;have c0:=ND i1 i2 w0;have c1:=ND i1 i2 w1;rw[if_neg ab,if_neg ab,h2];generalize rY:lz k (l.getD 0 default) lo aK=y0 at c0;generalize jc:lz k (l.getD 1 default) lo aK=y1 at c1;rw[e0,aB] at t0 c0;rw[e1,aB] at t1 c1;rcases ho with rfl|rfl|rfl|rfl|rfl
 ·exact NC (.inl rfl) (L:=0) mc (dU _) t0 c0 t1 c1
 ·exact NC (.inr<|.inl rfl) (L:=0) mc (dU _) t0 c0 t1 c1
 ·exact NC (.inr<|.inr rfl) (L:=0) mc (dU _) t0 c0 t1 c1
 ·exact adr (L:=0) mc (dU _) t0 c0 t1 c1
 ·exact ads (L:=0) mc (dU _) t0 c0 t1 c1
theorem Ty(hP:bE pg):∀(k:Nat) {L:bY},aV L->aV (kC k::L)
 |0,L,h=>by refine ig hP h cP Tryz.func90 fun args v e=>?_;obtain⟨_,_,_,_,_,_,_,_,_,_,_,_,hw,_⟩:=gI e;cases hw
 |k+1,L,h=>aaK hP (Ty hP k<|ae9 hP cP) h
end fO
end
section
open Go Go.Rn Go.RowKit Go.Proofs
namespace fU
open cq cz cO cT fm eR fM fO
theorem N6{e:Ex}:bf (aU vB) [.agg<|aB e]=some (.bool<|eM 6 e):=fA (eZ vB.bT ⟨e,rfl,rfl⟩) rF rfl
def zj(e:Ex)(lo aK:List Int):Int×Int:=if eM 6 e=true then lz 6 e lo aK else(0,4)
def zk(args:List AV)(v:AV):Prop:=∃(e:Ex) (M p lm G q lg:Nat) (lo aK:List Int),args=[.agg<|aB e,.U M p lm,.U G q lg]/\eC bS 1 (.U M p lm) lo/\eC bS 1 (.U G q lg) aK/\v=DZ (zj e lo aK)
theorem zk.bT(args:List AV)(v v':AV)(h:zk args v)(h':zk args v'):v=v':=by obtain⟨e,M,p,lm,G,q,lg,lo,aK,rfl,a1,a2,rfl⟩:=h;obtain⟨e',M',p',lm',G',q',lg',nX,WC,h1,b1,b2,rfl⟩:=h';simp only[List.cons.injEq,AV.agg.injEq,AV.U.injEq,_root_.and_true] at h1;obtain⟨h0,⟨rfl,rfl,rfl⟩,rfl,rfl,rfl⟩:=h1;rw[nu _ _ h0,eC.inj wD a1 b1,eC.inj wD a2 b2]
theorem afa{B:aJ}{N L M p lm G q lg:Nat}{op n x u f:Int}(mc:Mt [PA,kC 6] B)(hc:bf (aU vB) [(.agg [(u8<|op),(i6 n),(.U N 0 L)])]=some (.bool<|decide<|x=1))(hd:x=1->bf (aU<|qo 6) [(.agg [(u8<|op),(i6 n),(.U N 0 L)]),(.U M p lm),(.U G q lg)]=some (.tuple [.int .i64 u,.int .i64 f])):au pg B 270 (Fin pg (az Tryz.f72) fun y _=>y=(if x=1 then .tuple [.int .i64 u,.int .i64 f] else .tuple [.int .i64 0,.int .i64 4])) (sF 72 Tryz.f72 [(.agg [(u8<|op),(i6 n),(.U N 0 L)]),(.U M p lm),(.U G q lg)])<|aq ar 270:=by exact wS mc (.st 4<|.rg<|.go 1<|.kp (x=1) inferInstance (.go 1<|.en<|.st 3<|.rg<|.go 3<|.kn (.tuple [(i6 u),(i6 f)])<|.go 4<|.en<|.rt 1 .no)<|.go 1<|.en<|.rt 4 .no)<|ai hc<|ax (x=1) (fun _=>(ai (hd ab) (show AV.tuple [(i6 u),(i6 f)]=(if x=1 then .tuple [.int .i64 u,.int .i64 f] else .tuple [.int .i64 0,.int .i64 4]) from by split<;>first|rfl|(exfalso;omega)))) fun _=>(show AV.tuple [i0,(i6<|.ofNat 4)]=(if x=1 then .tuple [.int .i64 u,.int .i64 f] else .tuple [.int .i64 0,.int .i64 4]) from by split<;>first|rfl|(exfalso;omega))
end fU
end
section
open Go Go.Rn Go.RowKit Go.Proofs
namespace Ch
open cq cz cO cT dj
variable {B:aJ} {kind:Int} {L:bY}
noncomputable section
def KX:List<|List Bool:=[[false,false,false,false,false,false],[true,true,true,false,false,false],[true,true,true,false,false,false],[true,false,true,true,false,false],[true,false,true,false,true,true],[true,false,true,false,true,false],[true,false,false,false,false,false],[true,false,false,false,true,true],[true,false,true,false,false,false]]
def pQ(kind:Int):List Bool:=KX.getD kind.toNat [false,false,false,false,false,false]
def vZ(kind:Int):AV:=.agg<|(pQ kind).map AV.bool
theorem adt(h:9<=kind):vZ kind= .agg [.bool false,.bool false,.bool false,.bool false,.bool false,.bool false]:=by unfold vZ pQ;rw[List.getD_eq_getElem?_getD,List.getElem?_eq_none (show KX.length<=kind.toNat by show 9<=kind.toNat;omega)];rfl
theorem aif{k:Int}(mc:Mt [] B)(h:0<=k/\k<9):au pg B 270 (Fin pg (az Tryz.f79) fun y _=>y=(vZ k)) (sF 79 Tryz.f79 [.int .u8 k])<|aq ar 270:=by
 have TT:(AV.int .i64 (IntKind.wrap .i64 k)= .int .i64 k)/\vZ k=vZ k:=⟨wI k,rfl⟩;let P:Pl:=.st 6<|.rg<|.go 1<|.vl (.int .i64 k)<|.go 1<|.en<|.rt 5 .no;obtain rfl|rfl|rfl|rfl|rfl|rfl|rfl|rfl|rfl:k=0\/k=1\/k=2\/k=3\/k=4\/k=5\/k=6\/k=7\/k=8:=by omega
 all_goals exact wS mc P TT aW
theorem aih(mc:Mt [] B)(h0:9<=kind)(h9:kind<256):au pg B 270 (Fin pg (az Tryz.f79) fun y _=>y=(vZ kind)) (sF 79 Tryz.f79 [(u8<|kind)])<|aq ar 270:=by exact wS mc (.st 6<|.rg<|.go 1<|.vl (.int .i64 kind)<|.fk (.en<|.rt 4 .no)<|.no)<|ai (wI kind)<|ax (kind>=9) (fun _=>(show(.agg [(.bool false),(.bool false),(.bool false),(.bool false),(.bool false),(.bool false)])=vZ kind from(adt h0).symm)) bh
theorem afb{N L:Nat}{op n:Int}(mc:Mt [] B):au pg B 270 (Fin pg (az Tryz.f82) fun y _=>y=(.bool<|decide<|op=0/\n=0/\L=0)) (sF 82 Tryz.f82 [(.agg [(u8<|op),(i6 n),(.U N 0 L)])])<|aq ar 270:=by exact wS mc (.st 3<|.rg<|.go 2<|.fk (.go 3<|.fk (.go 5<|.fk (.go 2<|.en<|.rt 1 .no)<|.go 2<|.en<|.rt 1 .no)<|.go 8<|.en<|.rt 1 .no)<|.go 12<|.en<|.rt 1 .no)<|ax (op=0) (fun _=>(ax (n=0) (fun _=>(ax ((L:Int)=0) (fun _=>(show AV.bool true= .bool (decide<|op=0/\n=0/\L=0) from by rw[decide_eq_true ab])) fun _=>(show AV.bool false= .bool (decide<|op=0/\n=0/\L=0) from by rw[decide_eq_false ab]))) fun _=>(show AV.bool false= .bool (decide<|op=0/\n=0/\L=0) from by rw[decide_eq_false ab]))) fun _=>(show AV.bool false= .bool (decide<|op=0/\n=0/\L=0) from by rw[decide_eq_false ab])
def ku(args:List AV)(v:AV):Prop:=∃kind:Int,args=[.int .u8 kind]/\0<=kind/\kind<256/\v=vZ kind
theorem ku.bT(args:List AV)(v v':AV)(h:ku args v)(h':ku args v'):v=v':=by obtain⟨x,rfl,_,_,rfl⟩:=h;obtain⟨x',h1,_,_,rfl⟩:=h';simp only[List.cons.injEq,AV.int.injEq,true_and,_root_.and_true] at h1;rw[h1]
def v5:FuncId×KE:=(79,.val<|aU ku)
theorem afc(hP:bE pg)(h:aV L):aV<|v5::L:=by
 refine ig hP h cP Tryz.func79 fun args v e=>?_;obtain⟨kind,rfl,h0,h1,rfl⟩:=gI e;refine⟨aL.1 aW,fun B mc=>?_⟩;rw[←gX];by_cases h9:9<=kind
 ·exact aih mc h9 h1
 exact aif mc ⟨h0,by omega⟩
def DD(e:Ex):Prop:=e.op=0/\e.n=0/\e.args.length=0
instance {e:Ex}:Decidable<|DD e:=by unfold DD;exact inferInstance
def mZ(args:List AV)(v:AV):Prop:=∃e:Ex,args=[.agg<|aB e]/\v= .bool (decide<|DD e)
theorem mZ.bT(args:List AV)(v v':AV)(h:mZ args v)(h':mZ args v'):v=v':=by obtain⟨e,rfl,rfl⟩:=h;obtain⟨e',h1,rfl⟩:=h';simp only[List.cons.injEq,AV.agg.injEq,_root_.and_true] at h1;rw[nu _ _ h1]
def vd:FuncId×KE:=(82,.val<|aU mZ)
theorem abY(hP:bE pg)(h:aV L):aV<|vd::L:=by refine ig hP h cP Tryz.func82 fun args v e=>?_;obtain⟨⟨op,n,l⟩,rfl,rfl⟩:=gI e;refine⟨aL.1 aW,fun B mc=>?_⟩;rw[←gX,aB];exact afb mc
end
end Ch
end
section
open Go Go.Rn Go.RowKit Go.Proofs
namespace eH
open cq cz cO cT dj
variable {k N L N0 L0:Nat} {v:AV} {B:aJ} {bN n0 i c:Int}
noncomputable section
theorem N7{nx:Nat}{l:List<|Nat×AV}(h:∀r:Nat->Nat,(∀k,top<=k->r k=k)->∀p∈l,bR r p.2 p.2)(hn:Nat.ble 270 nx=true):xM nx l ar:=by intro r r1 r2;exact⟨h r r2,fun p hp x hx=>H6 (nx:=270) (fun k hk=>r1 k<|Nat.lt_of_lt_of_le hk<|aL.1 hn) cN p hp x hx⟩
def tD:Nat->Ex->Bool
 |0,_=>false
 |k+1,.mk _ _ args=>args.all<|tD k
def uQ(k:Nat)(args:List AV)(v:AV):Prop:=∃e:Ex,args=[.agg<|aB e]/\tD k e=true/\lu k e<=1000000/\v= .int .i64 (lu k e)
theorem uQ.bT(args:List AV)(v v':AV)(h:uQ k args v)(h':uQ k args v'):v=v':=by obtain⟨e,rfl,_,_,rfl⟩:=h;obtain⟨e',h1,_,_,rfl⟩:=h';simp only[List.cons.injEq,AV.agg.injEq,_root_.and_true] at h1;rw[nu _ _ h1]
def Be(k:Nat):FuncId×KE:=(93,.val<|aU<|uQ k)
def Bf(N:Nat)(L:Nat)(m:Int)(i:Int):List<|Nat×AV:=[(3,(i6 m)),(7,(.U N 0 L)),(8,(i6<|(L:Int))),(9,(i6 i))]
def w8(N:Nat)(L:Nat)(m:Int)(i:Int):AF:=⟨93,aS<|Bf N L m i,(max Tryz.f93.ntmps 1),[.code<|a9 pg 93 [1,1,0,1,0,0],.inLoop<|a9 pg 93 [1,1,0,1,0,0],.inBlock 0,.code<|a9 pg 93 [1,1,1]],[],none⟩
theorem Vg(N:Nat)(L:Nat)(m:Int)(i:Int)(hn:top<=N):((Bf N L m i).map (fun q=>some q.2)=(Bf N L m i).map (fun q=>some q.2))/\(ar.map (fun q=>q.2)=ar.map (fun q=>q.2))/\xM 270 (Bf N L m i) ar/\(w8 N L m i=w8 N L m i/\aq ar 270=aq ar 270):=⟨rfl,rfl,N7 (fun r r2 p hp=>by simp only[Bf,List.mem_cons,List.not_mem_nil,or_false] at hp;rcases hp with rfl|rfl|rfl|rfl<;>first|exact bR.int _ _|exact bR.U (r2 _ hn) r2) rfl,rfl,rfl⟩
theorem afd{m:Int}(mc:Mt [Be k] B)(hn:top<=N)(hi:0<=i)(hL:L<=1000000)(hm:0<=m/\m<=1000000)(iM:0<=c/\c<=1000000)(hx:cX FU N (0+i.toNat*3+0) 3=some [(u8<|bN),(i6 n0),(.U N0 0 L0)])(hc:bf (aU<|uQ k) [(.agg [(u8<|bN),(i6 n0),(.U N0 0 L0)])]=some (.int .i64 c))(h1:i<(L:Int))(H:au pg B 270 (Fin pg (az Tryz.f93) fun y _=>y=v) (w8 N L (m+c)<|i+1)<|aq ar 270):au pg B 270 (Fin pg (az Tryz.f93) fun y _=>y=v) (w8 N L m i)<|aq ar 270:=by exact wC mc (C:=(fun fr s1 _=>fr=w8 N L (m+c) (i+1)/\s1=aq ar 270)) np (.st 1<|.rg<|.fk (.en<|.st 6<|.rg<|.fF<|.fG [(u8<|bN),(i6 n0),(.U N0 0 L0)]<|.go 2<|.en<|.rg<|.go 2<|.kn (i6 c)<|.vl (i6<|m+c)<|.go 1<|.en<|.st 1<|.rg<|.vl (i6<|i+1)<|.go 1<|.en<|.st 1<|.bk (Bf N L (m+c)<|i+1) ar 270 .no)<|.no)<|ax (i<(L:Int)) (fun _=>(dq i (L:Int)<|ai hn<|ai hx<|ai hc<|ai (wI<|m+c)<|ai (wI<|i+1)<|Vg N L (m+c) (i+1) hn)) bh
theorem afe{m:Int}{N0 L0:Nat}{bN n0 c:Int}(mc:Mt [Be k] B)(h1:(L:Int)<=i)(hv: .int .i64 m=v):au pg B 270 (Fin pg (az Tryz.f93) fun y _=>y=v) (w8 N L m i)<|aq ar 270:=by exact wS mc (.st 1<|.rg<|.fk (.no)<|.en<|.rt 6 .no)<|ax (i<(L:Int)) bh fun _=>(show(i6 m)=v from hv)
theorem aff{op n:Int}(mc:Mt [Be k] B)(hn:top<=N)(H:au pg B 270 (Fin pg (az Tryz.f93) fun y _=>y=v) (w8 N L 1 0)<|aq ar 270):au pg B 270 (Fin pg (az Tryz.f93) fun y _=>y=v) (sF 93 Tryz.f93 [(.agg [(u8<|op),(i6 n),(.U N 0 L)])])<|aq ar 270:=by exact wC mc (C:=(fun fr s1 _=>fr=w8 N L 1 0/\s1=aq ar 270)) np (.st 9<|.bk (Bf N L 1 0) ar 270 .no)<|Vg N L 1 0 hn
end
end eH
end
section
open Go Go.Rn Go.RowKit Go.Proofs
namespace BK
open cq cz cO cT eH dj
theorem IB{g:Ex->Int}:∀(l:List Ex) (m:Int),(∀a∈l,1<=g a)->m+(l.length:Nat)<=l.foldl (fun n a=>n+g a) m
 |[],m,_=>by simp only[List.length_nil,List.foldl_nil];omega
 |a::l,m,h=>by have h1:=IB l (m+g a) fun b hb=>h b<|List.mem_cons_of_mem _ hb;have h2:=h a List.mem_cons_self;rw[List.foldl_cons,List.length_cons];omega
theorem EX:∀(k:Nat) (e:Ex),tD k e=true->1<=lu k e
 |0,_,h=>by cases h
 |k+1,.mk op n l,h=>by have h1:l.all (tD k)=true:=h;have:=IB (g:=lu k) l 1 fun a ha=>EX k a<|List.all_eq_true.1 h1 a ha;show 1<=l.foldl (fun n a=>n+lu k a) 1;omega
theorem ZR(hP:bE pg){k:Nat}(h':aV [Be k]){L:bY}(h:aV L):aV<|Be (k+1)::L:=by
 refine ig hP h h' Tryz.func93 fun args v e=>?_;obtain⟨⟨op,n,l⟩,rfl,hd,hc,rfl⟩:=gI e;refine⟨aL.1 aW,fun B mc=>?_⟩;rw[←gX,aB];have hd:l.all (tD k)=true:=hd;have hc:l.foldl (fun n a=>n+lu k a) 1<=1000000:=hc;have pos:∀a∈l,1<=lu k a:=fun a ha=>EX k a<|List.all_eq_true.1 hd a ha;have key:∀(r:List Ex) (i:Nat) (m:Int),l.drop i=r->0<=m->r.foldl (fun n a=>n+lu k a) m<=1000000->
  au pg B 270 (Fin pg (az Tryz.f93) fun y _=>y= .int .i64 (r.foldl (fun n a=>n+lu k a) m)) (w8 (nm<|cI l) l.length m i) (aq ar 270):=by
  intro r;induction r with
  |nil=>intro i m hr _ _;have hi:l.length<=i:=List.drop_eq_nil_iff.1 hr;exact afe (k:=k) (N0:=0) (L0:=0) (bN:=0) (n0:=0) (c:=0) mc ab rfl
  |cons a r ih=>
   intro i m hr h0 h1;have hl:i<l.length:=by
    by_cases q:i<l.length
    ·exact q
    ·rw[List.drop_of_length_le ab] at hr;cases hr
   have ha:l[i]? =some a:=by have:=congrArg (fun q=>q[0]?) hr;simp only[List.getElem?_drop,List.getElem?_cons_zero,Nat.add_zero] at this;exact this
   have hm:a∈l:=List.mem_of_getElem? ha;have lF:l.drop (i+1)=r:=by have:=congrArg (List.drop 1) hr;rw[List.drop_drop] at this;exact this
   have aii:∀b∈r,b∈l:=fun b hb=>List.mem_of_mem_drop (i:=i) (by rw[hr];exact List.mem_cons_of_mem _ hb);have h2:=IB (g:=lu k) r (m+lu k a) fun b hb=>pos b<|aii b hb;have h3:=pos a hm;have h4:=IB (g:=lu k) l 1 pos;rw[List.foldl_cons] at h1 ⊢;obtain⟨bN,n0,l0⟩:=a;have hx:=yK ha (z:=(i:Int)) ab;have bC:=fA (eZ uQ.bT ⟨.mk bN n0 l0,rfl,List.all_eq_true.1 hd _ hm,by omega,rfl⟩:aU (uQ k) [.agg<|aB<|.mk bN n0 l0]=_) rF rfl;rw[aB] at hx bC;exact afd (k:=k) mc (dU _) ab ab ab ab hx bC ab<|ih (i+1) (m+lu k (.mk bN n0 l0)) lF ab h1
 exact aff mc (dU _)<|key l 0 1 (List.drop_zero) ab hc
theorem SL(hP:bE pg):∀(k:Nat) {L:bY},aV L->aV (Be k::L)
 |0,L,h=>by refine ig hP h cP Tryz.func93 fun args v e=>?_;obtain⟨_,_,hd,_⟩:=gI e;cases hd
 |k+1,L,h=>ZR hP (SL hP k cP) h
end BK
end
section
open Go Go.Rn Go.RowKit Go.Proofs
namespace uo
open cq cz cO cT dj eH BK
def mj(k:Nat)(e:Ex):Int:=if e.op=0 then 0 else lu k e
def yW(k:Nat)(args:List AV)(v:AV):Prop:=∃e:Ex,args=[.agg<|aB e]/\tD k e=true/\lu k e<=1000000/\v= .int .i64 (mj k e)
theorem yW.bT{k:Nat}(args:List AV)(v v':AV)(h:yW k args v)(h':yW k args v'):v=v':=by obtain⟨e,rfl,_,_,rfl⟩:=h;obtain⟨e',h1,_,_,rfl⟩:=h';simp only[List.cons.injEq,AV.agg.injEq,_root_.and_true] at h1;rw[nu _ _ h1]
noncomputable def o9(k:Nat):FuncId×KE:=(76,.val<|aU<|yW k)
theorem adu{B:aJ}{k N L:Nat}{op n c:Int}(mc:Mt [Be k] B)(hc:bf (aU<|uQ k) [(.agg [(u8<|op),(i6 n),(.U N 0 L)])]=some (.int .i64 c)):au pg B 270 (Fin pg (az Tryz.f76) fun y _=>y=(i6 (if op=0 then 0 else c))) (sF 76 Tryz.f76 [(.agg [(u8<|op),(i6 n),(.U N 0 L)])])<|aq ar 270:=by exact wS mc (.st 4<|.rg<|.go 2<|.fk (.en<|.rt 4 .no)<|.en<|.st 3<|.rg<|.go 1<|.kn (i6 c)<|.go 1<|.en<|.rt 1 .no)<|ax (op=0) (fun _=>(show(i0:AV)= .int .i64 (if op=0 then 0 else c) from by split<;>first|rfl|(exfalso;omega))) fun _=>(ai hc (show((i6 c):AV)= .int .i64 (if op=0 then 0 else c) from by split<;>first|rfl|(exfalso;omega)))
theorem SM(hP:bE pg)(k:Nat){L:bY}(h:aV L):aV<|o9 k::L:=by refine ig hP h (SL hP k cP) Tryz.func76 fun args v e=>?_;obtain⟨⟨op,n,l⟩,rfl,hd,hc,rfl⟩:=gI e;refine⟨aL.1 aW,fun B mc=>?_⟩;rw[←gX];have bC:=fA (eZ uQ.bT ⟨.mk op n l,rfl,hd,hc,rfl⟩:aU (uQ k) [.agg<|aB<|.mk op n l]=_) rF rfl;rw[aB] at bC ⊢;exact adu mc bC
end uo
end
section
open Go Go.Rn Go.RowKit Go.Proofs
namespace fx
open cq cz cO cT dj eH BK
variable {k N L:Nat} {v:AV} {B:aJ} {i:Int}
noncomputable section
def cK(x y:Int):Int:=match decide (y>x) with|true=>y|false=>x
def jz(ld le:Nat)(m cd ce:Int):Int:=if 0<le then cK (if 0<ld then cK m cd else m) ce else if 0<ld then cK m cd else m
def bF:St->List St| .mk _ _ _ _ b _=>b
def bB:St->List St| .mk _ _ _ _ _ b=>b
def fc:Nat->List St->Int
 |0,_=>0
 |k+1,l=>l.foldl (fun m s=>jz (bF s).length (bB s).length m (fc k<|bF s)<|fc k<|bB s) 0+1
def ru:Nat->List St->Bool
 |0,_=>false
 |k+1,l=>decide (l.length<=1000000)&&l.all fun s=>((bF s).isEmpty||ru k (bF s))&&((bB s).isEmpty||ru k (bB s))
def sX(k:Nat)(args:List AV)(v:AV):Prop:=∃l:List St,args=[.U (nm<|bw l) 0 l.length]/\ru k l=true/\k<=100/\v= .int .i64 (fc k l)
theorem sX.bT(args:List AV)(v v':AV)(h:sX k args v)(h':sX k args v'):v=v':=by obtain⟨l,rfl,_,_,rfl⟩:=h;obtain⟨l',h1,_,_,rfl⟩:=h';simp only[List.cons.injEq,AV.U.injEq,_root_.and_true,true_and] at h1;rw[ss _ _<|sR (lL l) (lL l') h1.1]
def jD(k:Nat):FuncId×KE:=(58,.val<|aU<|sX k)
def uR(N L:Nat)(m i:Int):List<|Nat×AV:=[(3,(i6 m)),(6,(.U N 0 L)),(7,(i6<|(L:Int))),(8,(i6 i))]
def w9(N L:Nat)(m i:Int):AF:=⟨58,aS<|uR N L m i,(max Tryz.f58.ntmps 1),[.code<|a9 pg 58 [1,1,0,1,0,0],.inLoop<|a9 pg 58 [1,1,0,1,0,0],.inBlock 0,.code<|a9 pg 58 [1,1,1]],[],none⟩
theorem FE(N L:Nat)(m i:Int)(hn:top<=N){M:Int}(e:m=M):((uR N L m i).map (fun q=>some q.2)=(uR N L m i).map (fun q=>some q.2))/\(ar.map (fun q=>q.2)=ar.map (fun q=>q.2))/\xM 270 (uR N L m i) ar/\(w9 N L m i=w9 N L M i/\aq ar 270=aq ar 270):=⟨rfl,rfl,N7 (fun r r2 p hp=>by simp only[uR,List.mem_cons,List.not_mem_nil,or_false] at hp;rcases hp with rfl|rfl|rfl|rfl<;>first|exact bR.int _ _|exact bR.U (r2 _ hn) r2) rfl,by rw[e],rfl⟩
theorem afg{m:Int}{Na La Nb Lb Nd ld Ne le:Nat}{kd to oa na ob nb cd ce:Int}(mc:Mt [jD k] B)(hn:top<=N)(hi:0<=i)(hL:L<=1000000)(hx:cX FU N (0+i.toNat*10+0) 10=some [(u8<|kd),(i6 to),(u8<|oa),(i6 na),(.U Na 0 La),(u8<|ob),(i6 nb),(.U Nb 0 Lb),(.U Nd 0 ld),(.U Ne 0 le)])(hd:0<ld->bf (aU<|sX k) [(.U Nd 0 ld)]=some (.int .i64 cd))(he:0<le->bf (aU<|sX k) [(.U Ne 0 le)]=some (.int .i64 ce))(h1:i<(L:Int))(H:au pg B 270 (Fin pg (az Tryz.f58) fun y _=>y=v) (w9 N L (jz ld le m cd ce)<|i+1)<|aq ar 270):au pg B 270 (Fin pg (az Tryz.f58) fun y _=>y=v) (w9 N L m i)<|aq ar 270:=by exact wC mc (C:=(fun fr s1 _=>fr=w9 N L (jz ld le m cd ce) (i+1)/\s1=aq ar 270)) np (.st 1<|.rg<|.fk (.en<|.st 6<|.rg<|.fF<|.fG [(u8<|kd),(i6 to),(u8<|oa),(i6 na),(.U Na 0 La),(u8<|ob),(i6 nb),(.U Nb 0 Lb),(.U Nd 0 ld),(.U Ne 0 le)]<|.go 2<|.en<|.st 2<|.rg<|.go 3<|.fk (.en<|.st 1<|.rg<|.go 3<|.kn (i6 cd)<|.vl (i6<|(cK m cd))<|.go 1<|.en<|.st 1<|.rg<|.go 3<|.fk (.en<|.st 1<|.rg<|.go 3<|.kn (i6 ce)<|.vl (i6<|(cK (cK m cd) ce))<|.go 1<|.en<|.st 1<|.rg<|.vl (i6<|i+1)<|.go 1<|.en<|.st 1<|.bk (uR N L (cK (cK m cd) ce)<|i+1) ar 270 .no)<|.en<|.st 3<|.rg<|.vl (i6<|i+1)<|.go 1<|.en<|.st 1<|.bk (uR N L (cK m cd)<|i+1) ar 270 .no)<|.en<|.st 3<|.rg<|.go 3<|.fk (.en<|.st 1<|.rg<|.go 3<|.kn (i6 ce)<|.vl (i6<|(cK m ce))<|.go 1<|.en<|.st 1<|.rg<|.vl (i6<|i+1)<|.go 1<|.en<|.st 1<|.bk (uR N L (cK m ce)<|i+1) ar 270 .no)<|.en<|.st 3<|.rg<|.vl (i6<|i+1)<|.go 1<|.en<|.st 1<|.bk (uR N L m<|i+1) ar 270 .no)<|.no)<|ax (i<(L:Int)) (fun _=>(dq i (L:Int)<|ai hn<|ai hx<|ax ((ld:Int)>0) (fun _=>(ai (hd ab)<|ai (congrArg (AV.int .i64) (show(match decide (cd>m) with|true=>cd|false=>m)=cK m cd from rfl))<|ax ((le:Int)>0) (fun _=>(ai (he ab)<|ai (congrArg (AV.int .i64) (show(match decide (ce>(cK m cd)) with|true=>ce|false=>(cK m cd))=cK (cK m cd) ce from rfl))<|ai (wI<|i+1)<|FE N L (cK (cK m cd) ce) (i+1) hn (show(cK (cK m cd) ce)=jz ld le m cd ce from by(unfold jz;repeat' split)<;>first|rfl|(exfalso;omega)))) fun _=>(ai (wI<|i+1)<|FE N L (cK m cd) (i+1) hn (show(cK m cd)=jz ld le m cd ce from by(unfold jz;repeat' split)<;>first|rfl|(exfalso;omega))))) fun _=>(ax ((le:Int)>0) (fun _=>(ai (he ab)<|ai (congrArg (AV.int .i64) (show(match decide (ce>m) with|true=>ce|false=>m)=cK m ce from rfl))<|ai (wI<|i+1)<|FE N L (cK m ce) (i+1) hn (show(cK m ce)=jz ld le m cd ce from by(unfold jz;repeat' split)<;>first|rfl|(exfalso;omega)))) fun _=>(ai (wI<|i+1)<|FE N L m (i+1) hn (show m=jz ld le m cd ce from by(unfold jz;repeat' split)<;>first|rfl|(exfalso;omega)))))) bh
theorem afh{m:Int}(mc:Mt [jD k] B)(hm:0<=m/\m<=1000000)(h1:(L:Int)<=i)(hv: .int .i64 (m+1)=v):au pg B 270 (Fin pg (az Tryz.f58) fun y _=>y=v) (w9 N L m i)<|aq ar 270:=by exact wS mc (.st 1<|.rg<|.fk (.no)<|.en<|.st 4<|.rg<|.go 1<|.vl (i6<|m+1)<|.go 1<|.en<|.rt 1 .no)<|ax (i<(L:Int)) bh fun _=>(ai (wI<|m+1) (show((i6<|(m+1)):AV)=v from hv))
theorem afi(mc:Mt [jD k] B)(hn:top<=N)(H:au pg B 270 (Fin pg (az Tryz.f58) fun y _=>y=v) (w9 N L 0 0)<|aq ar 270):au pg B 270 (Fin pg (az Tryz.f58) fun y _=>y=v) (sF 58 Tryz.f58 [(.U N 0 L)])<|aq ar 270:=by exact wC mc (C:=(fun fr s1 _=>fr=w9 N L 0 0/\s1=aq ar 270)) np (.st 9<|.bk (uR N L 0 0) ar 270 .no)<|FE N L 0 0 hn rfl
end
end fx
end
section
open Go Go.Rn Go.RowKit Go.Proofs
namespace xR
open cq cz cO cT eH dj fx
theorem Fh{l:List St}{i:Nat}{a:St}(h:l[i]? =some a){z:Int}(hz:z.toNat=i):cX FU (nm<|bw l) (0+z.toNat*10+0) 10=some (aM a):=by rw[uA,hz,Nat.zero_add,C4 mB h 0 10 ab];rw[List.drop_zero,List.take_of_length_le (by rw[mB.len];omega)]
theorem Fp{x y b:Int}(h1:0<=x/\x<=b)(h2:0<=y/\y<=b):0<=cK x y/\cK x y<=b:=by unfold cK;split<;>assumption
theorem Vh{ld le:Nat}{m cd ce b:Int}(h1:0<=m/\m<=b)(h2:0<=cd/\cd<=b)(h3:0<=ce/\ce<=b):0<=jz ld le m cd ce/\jz ld le m cd ce<=b:=by
 have h4:=Fp h1 h2;unfold jz;split
 ·split
  ·exact Fp h4 h3
  ·exact Fp h1 h3
 ·split
  ·exact h4
  ·exact h1
theorem NF{b:Int}{f:Int->St->Int}(hf:∀m s,0<=m/\m<=b->0<=f m s/\f m s<=b):∀(l:List St) (m:Int),0<=m/\m<=b->0<=l.foldl f m/\l.foldl f m<=b
 |[],_,h=>h
 |s::l,m,h=>by rw[List.foldl_cons];exact NF hf l _<|hf m s h
theorem Ib:∀(k:Nat) (l:List St),0<=fc k l/\fc k l<=k
 |0,_=>⟨Int.le_refl _,Int.le_refl _⟩
 |k+1,l=>by have:=NF (b:=k) (f:=fun m s=>jz (bF s).length (bB s).length m (fc k<|bF s)<|fc k<|bB s) (fun m s h=>Vh h (Ib k _)<|Ib k _) l 0 ab;show 0<=l.foldl (fun m s=>jz (bF s).length (bB s).length m (fc k<|bF s)<|fc k<|bB s) 0+1/\l.foldl (fun m s=>jz (bF s).length (bB s).length m (fc k<|bF s)<|fc k<|bB s) 0+1<=_;omega
theorem afj{l:List St}{b:Bool}(h:(l.isEmpty||b)=true)(hl:0<l.length):b=true:=by
 cases l with
 |nil=>simp only[List.length_nil] at hl;omega
 |cons _ _=>exact h
theorem ZS(hP:bE pg){k:Nat}(h':aV [jD k]){L:bY}(h:aV L):aV<|jD (k+1)::L:=by
 refine ig hP h h' Tryz.func58 fun args v e=>?_;obtain⟨l,rfl,hd,hk,rfl⟩:=gI e;refine⟨aL.1 aW,fun B mc=>?_⟩;rw[←gX];have hd:(decide (l.length<=1000000)&&l.all fun s=>((bF s).isEmpty||ru k (bF s))&&((bB s).isEmpty||ru k (bB s)))=true:=hd;rw[Bool.and_eq_true,decide_eq_true_eq,List.all_eq_true] at hd;obtain⟨hlen,hd⟩:=hd;have use:∀b:List St,(b.isEmpty||ru k b)=true->0<b.length->bf (aU<|sX k) [.U (nm<|bw b) 0 b.length]=some (i6<|fc k b):=fun b h1 h2=>fA (eZ sX.bT ⟨b,rfl,afj h1 h2,by omega,rfl⟩) Ww rfl;have key:∀(r:List St) (i:Nat) (m:Int),l.drop i=r->0<=m/\m<=k->
  au pg B 270 (Fin pg (az Tryz.f58) fun y _=>y= .int .i64 (r.foldl (fun m s=>jz (bF s).length (bB s).length m (fc k<|bF s)<|fc k<|bB s) m+1)) (w9 (nm<|bw l) l.length m i) (aq ar 270):=by
  intro r;induction r with
  |nil=>intro i m hr h0;have hi:l.length<=i:=List.drop_eq_nil_iff.1 hr;exact afh (k:=k) mc ab ab rfl
  |cons a r ih=>
   intro i m hr h0;have hl:i<l.length:=by
    by_cases q:i<l.length
    ·exact q
    ·rw[List.drop_of_length_le ab] at hr;cases hr
   have ha:l[i]? =some a:=by have:=congrArg (fun q=>q[0]?) hr;simp only[List.getElem?_drop,List.getElem?_cons_zero,Nat.add_zero] at this;exact this
   have hm:a∈l:=List.mem_of_getElem? ha;have lF:l.drop (i+1)=r:=by have:=congrArg (List.drop 1) hr;rw[List.drop_drop] at this;exact this
   have Ci:=hd a hm;rw[Bool.and_eq_true] at Ci;have hx:=Fh ha (z:=(i:Int)) ab;have tE:=ih (i+1) _ lF<|Vh (ld:=(bF a).length) (le:=(bB a).length) h0 (Ib k<|bF a)<|Ib k<|bB a;have hb:=use _ Ci.1;have he:=use _ Ci.2;obtain⟨kd,to,⟨oa,na,la⟩,⟨ob,nb,lb⟩,bd,el⟩:=a;rw[aM,aB,aB] at hx;rw[List.foldl_cons];exact afg (k:=k) mc (dU _) ab hlen hx hb he ab tE
 exact afi mc (dU _)<|key l 0 0 (List.drop_zero) ab
theorem SN(hP:bE pg):∀(k:Nat) {L:bY},aV L->aV (jD k::L)
 |0,L,h=>by refine ig hP h cP Tryz.func58 fun args v e=>?_;obtain⟨_,_,hd,_⟩:=gI e;cases hd
 |k+1,L,h=>ZS hP (SN hP k cP) h
end xR
end
