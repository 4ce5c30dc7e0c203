import Derived.Test.YtaooegdfpnfncaaGreatDoorProg
import Derived.Test.YtaooegdfpnfncaaGreatDoorRnGD
import Derived.KernelRfl
import Derived.Test.YtaooegdfpnfncaaGreatDoorRnGC
set_option maxRecDepth 100000
set_option maxHeartbeats 8000000
set_option linter.unusedSimpArgs false
set_option linter.unusedVariables false
section
open Go Go.Rn Go.RowKit Go.Proofs
namespace cU
inductive Ex where
 |mk (op n:Int) (args:List Ex)
instance:Inhabited Ex:=⟨.mk 0 0 []⟩
mutual
noncomputable def aM:Ex->List AV
 | .mk op n args=>[.int .u8 op,.int .i64 n,.ab (nm<|dz args) 0 args.length]
noncomputable def dz:List Ex->List AV
 |[]=>[]
 |e::l=>aM e++dz l
end
theorem DR:∀l:List Ex,dz l=(l.map aM).flatten
 |[]=>by rw[dz];rfl
 |e::l=>by rw[dz,DR l];rfl
theorem OL{op n:Int}{args:List Ex}:aM (.mk op n args)=[.int .u8 op,.int .i64 n,aD aM args]:=by rw[aM,DR];rfl
theorem kV:mh 3 aM:=⟨fun⟨_,_,_⟩=>by rw[aM];rfl,fun⟨_,_,_⟩=>by rw[aM];show(true&&(true&&(Nat.ble top (nm _)&&true)))=true;rw[aL.2<|cV _];rfl⟩
theorem TE(l:List Ex):(dz l).all AV.gi=true:=by rw[DR];exact kV.all l
theorem ud{l m:List AV}(h1:l.all AV.gi=true)(h2:m.all AV.gi=true)(h:nm l=nm m):l=m:=by have e:=Cn h1;rw[h,Cn h2] at e;injection e with e;exact e.symm
mutual
theorem nU:∀x y:Ex,aM x=aM y->x=y
 | .mk a b l,.mk c d m,h=>by rw[aM,aM] at h;simp only[List.cons.injEq,AV.int.injEq,AV.ab.injEq,true_and,_root_.and_true] at h;obtain⟨h1,h2,h3,_⟩:=h;rw[h1,h2,TF l m<|ud (TE l) (TE m) h3]
theorem TF:∀l m:List Ex,dz l=dz m->l=m
 |[],[],_=>rfl
 |[],⟨_,_,_⟩::m,h=>by rw[dz,dz,aM] at h;cases h
 |⟨_,_,_⟩::l,[],h=>by rw[dz,dz,aM] at h;cases h
 |x::l,y::m,h=>by rw[dz,dz] at h;obtain⟨h1,h2⟩:=List.append_inj h (by rw[kV.len x,kV.len y]);rw[nU x y h1,TF l m h2]
end
def Ex.op:Ex->Int| .mk o _ _=>o
def Ex.n:Ex->Int| .mk _ n _=>n
def Ex.args:Ex->List Ex| .mk _ _ l=>l
def eQ:Nat->Ex->Bool
 |0,_=>false
 |k+1,.mk op n args=>
  if op=1 then args.isEmpty else if op=2 then args.isEmpty&&decide (0<=n)&&decide (n<8) else if op=3 then args.isEmpty&&decide (0<=n)&&decide (n<6)
  else if op<4\/op>8\/n≠0 then false else decide (args.length=2)&&eQ k (args.getD 0 default)&&eQ k (args.getD 1 default)
theorem Nw{k:Nat}{op n:Int}{args:List Ex}:eQ (k+1) (.mk op n args)=if op=1 then args.isEmpty else if op=2 then args.isEmpty&&decide (0<=n)&&decide (n<8) else if op=3 then args.isEmpty&&decide (0<=n)&&decide (n<6) else if op<4\/op>8\/n≠0 then false else decide (args.length=2)&&eQ k (args.getD 0 default)&&eQ k (args.getD 1 default):=rfl
end cU
end
section
open Go Go.Rn Go.RowKit Go.Proofs
namespace dM
open cU
inductive St where
 |mk (kind to:Int) (a b:Ex) (body other:List St)
instance:Inhabited St:=⟨.mk 0 0 default default [] []⟩
mutual
noncomputable def ba:St->List AV
 | .mk kind to a b body other=>[.int .u8 kind,.int .i64 to]++(aM a++(aM b++[.ab (nm<|bD body) 0 body.length,.ab (nm<|bD other) 0 other.length]))
noncomputable def bD:List St->List AV
 |[]=>[]
 |e::l=>ba e++bD l
end
theorem vy:∀l:List St,bD l=(l.map ba).flatten
 |[]=>by rw[bD];rfl
 |e::l=>by rw[bD,vy l];rfl
theorem U4{kind to:Int}{a b:Ex}{body other:List St}:ba (.mk kind to a b body other)=[.int .u8 kind,.int .i64 to]++(aM a++(aM b++[aD ba body,aD ba other])):=by rw[ba,vy,vy];rfl
theorem lF:mh 10 ba:=⟨fun⟨_,_,a,b,_,_⟩=>by
 rw[ba,List.length_append,List.length_append,List.length_append,kV.len a,kV.len b];rfl,fun⟨_,_,a,b,_,_⟩=>by
 rw[ba,List.all_append,List.all_append,List.all_append,kV.gi a,kV.gi b];show(true&&(true&&true)&&(true&&(true&&(Nat.ble top (nm _)&&(Nat.ble top (nm _)&&true)))))=true;rw[aL.2<|cV _,aL.2<|cV _];rfl⟩
theorem lW(l:List St):(bD l).all AV.gi=true:=by rw[vy];exact lF.all l
mutual
theorem Od:∀x y:St,ba x=ba y->x=y
 | .mk k t a b l m,.mk k' t' a' b' l' m',h=>by rw[ba,ba] at h;obtain⟨h1,h⟩:=List.append_inj h rfl;obtain⟨h2,h⟩:=List.append_inj h (by rw[kV.len,kV.len]);obtain⟨h3,h⟩:=List.append_inj h (by rw[kV.len,kV.len]);simp only[List.cons.injEq,AV.int.injEq,AV.ab.injEq,true_and,_root_.and_true] at h1 h;rw[h1.1,h1.2,nU _ _ h2,nU _ _ h3,tL l l'<|ud (lW l) (lW l') h.1.1,tL m m'<|ud (lW m) (lW m') h.2.1]
theorem tL:∀l m:List St,bD l=bD m->l=m
 |[],[],_=>rfl
 |[],y::m,h=>by have:=congrArg List.length h;rw[bD,bD,List.length_append,lF.len y] at this;simp only[List.length_nil] at this;omega
 |x::l,[],h=>by have:=congrArg List.length h;rw[bD,bD,List.length_append,lF.len x] at this;simp only[List.length_nil] at this;omega
 |x::l,y::m,h=>by rw[bD,bD] at h;obtain⟨h1,h2⟩:=List.append_inj h (by rw[lF.len x,lF.len y]);rw[Od x y h1,tL l m h2]
end
theorem Xx(e:St):AV.hi (.agg<|ba e)=true:=by show(ba e).all AV.cq=true;exact List.all_eq_true.2 fun x hx=>D3<|List.all_eq_true.1 (lF.gi e) x hx
def lI:Nat->Ex->Int
 |0,_=>0
 |k+1,.mk _ _ args=>args.foldl (fun n a=>n+lI k a) 1
end dM
end
section
namespace Go.Rn
variable {P:Prop}
theorem cn(h:P:=by as_aux_lemma=>kernel_rfl):P:=h
theorem RX(h:P:=by exact ax (to<0) (fun _=>(show AV.bool false= .bool (decide<|0<=to/\to<8/\to=0/\xa=1/\xb=1/\ld=0/\le=0) from by rw[decide_eq_false ah])) fun _=>(ax (to>=8) (fun _=>(show AV.bool false= .bool (decide<|0<=to/\to<8/\to=0/\xa=1/\xb=1/\ld=0/\le=0) from by rw[decide_eq_false ah])) fun _=>(ax (to≠0) (fun _=>(show AV.bool false= .bool (decide<|0<=to/\to<8/\to=0/\xa=1/\xb=1/\ld=0/\le=0) from by rw[decide_eq_false ah])) fun _=>(ai ha<|ax (xa=1) (fun _=>(ai hb<|ax (xb=1) (fun _=>(ax ((ld:Int)=0) (fun _=>(ax ((le:Int)=0) (fun _=>(show AV.bool true= .bool (decide<|0<=to/\to<8/\to=0/\xa=1/\xb=1/\ld=0/\le=0) from by rw[decide_eq_true ah])) fun _=>(show AV.bool false= .bool (decide<|0<=to/\to<8/\to=0/\xa=1/\xb=1/\ld=0/\le=0) from by rw[decide_eq_false ah]))) fun _=>(show AV.bool false= .bool (decide<|0<=to/\to<8/\to=0/\xa=1/\xb=1/\ld=0/\le=0) from by rw[decide_eq_false ah]))) fun _=>(show AV.bool false= .bool (decide<|0<=to/\to<8/\to=0/\xa=1/\xb=1/\ld=0/\le=0) from by rw[decide_eq_false ah]))) fun _=>(show AV.bool false= .bool (decide<|0<=to/\to<8/\to=0/\xa=1/\xb=1/\ld=0/\le=0) from by rw[decide_eq_false ah]))))):P:=h
theorem nM(h:P:=by first|omega|(simp only[List.length_set,List.length_take,List.length_append,List.length_cons,List.length_nil];omega)):P:=h
theorem pC(h:P:=by exact fun _=>(wq0 (m:=m) (op:=op) (n:=n) (L:=L) (x0:=x0) (x1:=x1) ah)):P:=h
theorem Zq(h:P:=by exact ax (to<0) (fun _=>(show AV.bool false= .bool (decide<|0<=to/\to<8/\xa=1/\xb=1/\ld=0/\le=0) from by rw[decide_eq_false ah])) fun _=>(ax (to>=8) (fun _=>(show AV.bool false= .bool (decide<|0<=to/\to<8/\xa=1/\xb=1/\ld=0/\le=0) from by rw[decide_eq_false ah])) fun _=>(ai ha<|ax (xa=1) (fun _=>(ai hb<|ax (xb=1) (fun _=>(ax ((ld:Int)=0) (fun _=>(ax ((le:Int)=0) (fun _=>(show AV.bool true= .bool (decide<|0<=to/\to<8/\xa=1/\xb=1/\ld=0/\le=0) from by rw[decide_eq_true ah])) fun _=>(show AV.bool false= .bool (decide<|0<=to/\to<8/\xa=1/\xb=1/\ld=0/\le=0) from by rw[decide_eq_false ah]))) fun _=>(show AV.bool false= .bool (decide<|0<=to/\to<8/\xa=1/\xb=1/\ld=0/\le=0) from by rw[decide_eq_false ah]))) fun _=>(show AV.bool false= .bool (decide<|0<=to/\to<8/\xa=1/\xb=1/\ld=0/\le=0) from by rw[decide_eq_false ah]))) fun _=>(show AV.bool false= .bool (decide<|0<=to/\to<8/\xa=1/\xb=1/\ld=0/\le=0) from by rw[decide_eq_false ah])))):P:=h
theorem eN(h:P:=by exact fun _=>(oF ah)):P:=h
theorem Zr(h:P:=by exact ax (to<0) (fun _=>(show AV.bool false= .bool (decide<|0<=to/\to<8/\to=0/\xa=1/\xb=1) from by rw[decide_eq_false ah])) fun _=>(ax (to>=8) (fun _=>(show AV.bool false= .bool (decide<|0<=to/\to<8/\to=0/\xa=1/\xb=1) from by rw[decide_eq_false ah])) fun _=>(ax (to≠0) (fun _=>(show AV.bool false= .bool (decide<|0<=to/\to<8/\to=0/\xa=1/\xb=1) from by rw[decide_eq_false ah])) fun _=>(ai ha<|ax (xa=1) (fun _=>(ai hb<|ax (xb=1) (fun _=>(show AV.bool true= .bool (decide<|0<=to/\to<8/\to=0/\xa=1/\xb=1) from by rw[decide_eq_true ah])) fun _=>(show AV.bool false= .bool (decide<|0<=to/\to<8/\to=0/\xa=1/\xb=1) from by rw[decide_eq_false ah]))) fun _=>(show AV.bool false= .bool (decide<|0<=to/\to<8/\to=0/\xa=1/\xb=1) from by rw[decide_eq_false ah]))))):P:=h
theorem nN(h:P:=by exact fun fr s1 p hC=>by obtain⟨rfl,rfl⟩:=hC;exact H):P:=h
theorem MA(h:P:=by exact oe (st:=(fj a n c u fs)) (s:=aj (agR a n c u fs kind to op nn N L a9 n2 N2 L2 N3 L3 N4 L4) 275) (show(.agg [(u8<|.ofNat 1),i0,i0])=Y from(EI ah ah ah)) cn cn cn):P:=h
theorem Zs(h:P:=by exact eZ to (Int.ofNat 8)<|ai (OM (c':=(i6 z)) (show((a.row (.ptr<|some (271,0)) (.slice (some (272,0)) (len) cap)<|i6 a.steps):List AV).length<=top from aL.1 uF) (VT (a.row (.ptr<|some (271,0)) (.slice (some (272,0)) (len) cap)<|i6 a.steps) (k:=2+to.toNat) ah) rfl)<|oe (st:=(⟨⟨(a.pre:List AV).set (2+to.toNat)<|.int .i64 z,len,cap,[.int .i64 a.steps]⟩,u,row⟩:VS)) (s:=aj (WW a len cap to z u row kind op n N L a9 n2 N2 L2 N3 L3 N4 L4) 274) (show((.tuple []):AV)= .tuple [] from rfl) ((show(aj (WW a len cap to z u row kind op n N L a9 n2 N2 L2 N3 L3 N4 L4) 274).h.get 270=(some<|aJ kG<|((a.row (.ptr<|some (271,0)) (.slice (some (272,0)) (len) cap)<|i6 a.steps):List AV).set (2+to.toNat)<|i6 z) from cn).trans<|congrArg some<|VU (pre:=a.pre) (post:=[.int .i64 a.steps]) (len:=len) (i:=2+to.toNat) (r1:=271) (r2:=272) (cap:=cap) (c:=.int .i64 z) (by show 2+to.toNat<10;omega)) cn cn):P:=h
theorem Yf(h:P:=by exact fun _=>(ks [mI,iN,jG,lp,mC] 63 272 (vR og) (yd op nn N L) (fj a n c u fs) (i6 v) hO hv hA cn<|ai hg<|oe (st:=(fj a n c u fs)) (s:=aj (aq++[(270,some<|.cells 13 (Tr.fill (a.row (.ptr<|some (271,0)) (KD n c)<|i6 a.steps) 0 .nil) []),(271,(some<|.tok 3 u)),(272,(some<|aJ aS fs)),(273,some<|.cells 3 (Tr.fill [(u8<|.ofNat 2),(i6 v),i0] 0 .nil) []),(274,some<|.cells 10 (Tr.fill (ue kind to op nn N L a9 n2 N2 L2 N3 L3 N4 L4) 0 .nil) [])]) 275) (show(.agg [(u8<|.ofNat 2),(i6 v),i0])=Y from(E2 ah)) cn cn cn)):P:=h
theorem Yg(h:P:=by exact fun _=>(ks [mI,iN,jG,lp,mC] 61 272 (vR jH) (yd op nn N L) (fj a n c u fs) (i6 z) hO hz hA cn<|oe (st:=(fj a n c u fs)) (s:=aj (aq++[(270,some<|.cells 13 (Tr.fill (a.row (.ptr<|some (271,0)) (KD n c)<|i6 a.steps) 0 .nil) []),(271,(some<|.tok 3 u)),(272,(some<|aJ aS fs)),(273,some<|.cells 3 (Tr.fill [(u8<|.ofNat 3),i0,(i6 z)] 0 .nil) []),(274,some<|.cells 10 (Tr.fill (ue kind to op nn N L a9 n2 N2 L2 N3 L3 N4 L4) 0 .nil) [])]) 275) (show(.agg [(u8<|.ofNat 3),i0,(i6 z)])=Y from(E8 ah)) cn cn cn)):P:=h
theorem Yh(h:P:=by exact fun _=>(eZ (0:Int) 2<|ai hn<|ai wY<|ai jt<|ax (x0=1) (fun _=>(eZ (1:Int) 2<|ai hn<|ai ja<|ai jL<|ax (x1=1) (fun _=>(show AV.bool true= .bool (decide<|¬(op=3/\n>=z)/\x0=1/\x1=1) from by rw[decide_eq_true ah])) fun _=>(show AV.bool false= .bool (decide<|¬(op=3/\n>=z)/\x0=1/\x1=1) from by rw[decide_eq_false ah]))) fun _=>(show AV.bool false= .bool (decide<|¬(op=3/\n>=z)/\x0=1/\x1=1) from by rw[decide_eq_false ah]))):P:=h
theorem Yi(h:P:=by exact fun _=>(ax (op<4) pC fun _=>(ax (op>8) pC fun _=>(ax (n≠0) pC fun _=>(ax ((L:Int)≠2) pC fun _=>(eZ (0:Int) (L:Int)<|ai hn<|ai (wY ah)<|ai (wI<|m - 1)<|ai (jt ah ah)<|ax (x0=1) (fun _=>(eZ (1:Int) (L:Int)<|ai hn<|ai (ja ah)<|ai (wI<|m - 1)<|ai (jL ah ah)<|ax (x1=1) L6 pC)) pC)))))):P:=h
theorem Yj(h:P:=by exact fun _=>(oe (st:=(fj a n c u fs)) (s:=aj (aq++[(270,some<|.cells 13 (Tr.fill (a.row (.ptr<|some (271,0)) (KD n c)<|i6 a.steps) 0 .nil) []),(271,(some<|.tok 3 u)),(272,(some<|aJ aS fs)),(273,some<|.cells 3 (Tr.fill [(u8<|.ofNat 4),i0,i0] 0 .nil) []),(274,some<|.cells 10 (Tr.fill (ue kind to op nn N L a9 n2 N2 L2 N3 L3 N4 L4) 0 .nil) [])]) 275) (show(.agg [(u8<|.ofNat 4),i0,i0])=Y from(E6 ah ah)) cn cn cn)):P:=h
theorem QZ(h:P:=by rw[List.length_append];show L.length+1<=100000;omega):P:=h
theorem Yk(h:P:=by exact ky (show((a.row (.ptr<|some (271,0)) (.slice (some (272,0)) (len) cap)<|i6 a.steps):List AV).length<=top from aL.1 uF) (show((a.row (.ptr<|some (271,0)) (.slice (some (272,0)) (len) cap)<|i6 a.steps):List AV)[10]? =some (.ptr<|some (271,0)) from rfl)):P:=h
theorem L7(h:P:=by exact fun _=>(rfl:AV.tuple [.ptr none,.int .i64<|.ofNat 1]= .tuple [.ptr none,.int .i64 1])):P:=h
theorem Yl(h:P:=by exact ai (wI i h0 hl)<|zf KH ns (i+1) uh um us 7 seen nv 272 278 275 279 hG hN (F3 278 274 (List.append_ne_nil_of_right_ne_nil L<|List.cons_ne_nil (⟨10,2,0,s,0,0,gy⟩:bZ) []) QZ) hq):P:=h
theorem Ym(h:P:=by exact ai (wI i h0 hl)<|zf KH ns (i+1) uh um us w seen nv 272 278 275 279 hG hN (F3 278 274 (List.append_ne_nil_of_right_ne_nil L<|List.cons_ne_nil (⟨2,2,0,s,ve,0,0⟩:bZ) []) QZ) hq):P:=h
theorem Yn(h:P:=by exact fun _=>(ax (kind=2) (fun _=>(ks [mI,iN,jG,lp,mC] 63 272 (vR og) (yd op nn N L) (fj a n c u fs) (i6 v) hO hv hA cn<|ai hg MA)) fun _=>MA)):P:=h
theorem L6(h:P:=by exact fun _=>(wq1 (m:=m) (op:=op) (n:=n) (L:=L) (x0:=x0) (x1:=x1) ah)):P:=h
theorem CF(h:P:=by unfold room;omega):P:=h
theorem CG(h:P:=by unfold top;omega):P:=h
theorem Yo(h:P:=by exact F3 280 274 (List.append_ne_nil_of_right_ne_nil L<|List.cons_ne_nil (⟨3,2,0,au,0,x,0⟩:bZ) []) QZ):P:=h
theorem Yp(h:P:=by exact fun _=>(Di KQ ns i uh um us 7 seen nv 272 282 283 true 0 ⟨10,2,0,s,0,0,3⟩ hG hN hm hq)):P:=h
theorem Q0(h:P:=by simp only[List.length_nil];unfold room;omega):P:=h
theorem Q1(h:P:=by simp only[List.length_nil];unfold top;omega):P:=h
theorem uF(h:P:=by kernel_rfl):P:=h
theorem Yq(h:P:=by exact F4 49 2 38 (dt 49 [1,1,1,1,1,1,1,1,1]) A2 m2 (.ar c2 13) u2 bE 280 281 hlen pq):P:=h
theorem Yr(h:P:=by exact ax (i<(L:Int)) eN fun _=>(show(.tuple [(i6 m),(.bool false)])=v from hv)):P:=h
theorem ah(h:P:=by omega):P:=h
theorem ku(h:P:=by first|exact m0.bR|exact mp.bR|exact m1.bR|exact hK|exact hN|exact hB|exact tf|exact rD|exact hv|exact hA|exact nj.bR|exact hE|exact mE.bR):P:=h
theorem rE(h:P:=by first|exact m0.bR|exact mp.bR|exact m1.bR|exact hK|exact hN|exact hB|exact tf|exact rD|exact hv|exact hA|exact nj.bR|exact hE|exact mE.bR|exact hW|exact bH|exact hD):P:=h
theorem cC(h:P:=by as_aux_lemma=>kernel_rfl):P:=h
theorem aZ(h:P:=by kernel_rfl):P:=h
theorem wZ(h:P:=by first|exact m0.bR|exact mp.bR|exact m1.bR|exact hK|exact hN|exact hB|exact tf|exact rD|exact hv|exact hA|exact nj.bR|exact hE|exact mE.bR|exact hD):P:=h
theorem w6(h:P:=by first|exact m0.bR|exact mp.bR|exact m1.bR|exact hK|exact hN|exact hB|exact tf|exact rD|exact hv|exact hA|exact nj.bR|exact hX):P:=h
theorem w7(h:P:=by first|omega|(simp only[List.length_set,List.length_take,List.length_append,List.length_cons,List.length_nil];omega)):P:=h
theorem zg(h:P:=by first|exact m0.bR|exact mp.bR|exact m1.bR|exact hK|exact hN|exact hB|exact tf|exact rD|exact hv|exact hA):P:=h
theorem Dj(h:P:=by first|exact m0.bR|exact mp.bR|exact m1.bR|exact hK|exact hN|exact hB|exact tf|exact rD|exact hv|exact hA|exact Zt):P:=h
theorem eX(h:P:=by unfold top;omega):P:=h
theorem AG(h:P:=by simp only[reduceCtorEq,true_or,false_or,true_and,_root_.and_true];omega):P:=h
theorem sB(h:P:=by rw[List.all_cons,Co];rfl):P:=h
theorem CH(h:P:=by have:=m0.len;have:top=549755813888:=rfl;omega):P:=h
theorem Ys(h:P:=by rw[List.all_cons,show AV.hi (.ab (nm<|bD b) 0 b.length)=true from aL.2<|cV _];rfl):P:=h
theorem H9(h:P:=by rw[List.reverse_reverse];exact d.eq):P:=h
theorem oh(h:P:=by cases hp):P:=h
theorem Yt(h:P:=by show(true&&(true&&(Nat.ble top (nI L)&&true)))=true;rw[aL.2<|cV _];rfl):P:=h
theorem Yu(h:P:=by simp only[List.mem_cons,List.not_mem_nil,or_false] at hp;subst hp;show 270<271;omega):P:=h
theorem Ia(h:P:=by show 3<=top;unfold top;omega):P:=h
theorem L8(h:P:=by rw[List.reverse_reverse];exact d2.eq):P:=h
theorem Q2(h:P:=by first|exact m0.bR|exact d.run|exact d.fO.bR):P:=h
theorem yM(h:P:=by rw[p1];omega):P:=h
theorem Ib(h:P:=by rw[List.length_cons];omega):P:=h
theorem Q3(h:P:=by rw[List.length_cons,List.length_cons];omega):P:=h
theorem L9(h:P:=by rw[blt_eq];unfold top;omega):P:=h
end Go.Rn
end
section
open Go Go.Rn Go.RowKit Go.Proofs
namespace fF
open cU dM
def Ai(n:Int):List AV:=[.int .i64 n]
theorem MD:mh 1 Ai:=⟨fun _=>rfl,fun _=>rfl⟩
theorem acF(x y:Int)(h:Ai x=Ai y):x=y:=by simp only[Ai,List.cons.injEq,AV.int.injEq,true_and,_root_.and_true] at h;exact h
def kg(c:AV):List AV:=[c]
abbrev bB:=List<|List<|Int×Int
def Lz(p:Int×Int):AV:=.agg [.int .i64 p.1,.int .i64 p.2]
def cv(ms:bB):AV:=.agg<|ms.map fun m=>.agg<|m.map Lz
theorem acG(p q:Int×Int)(h:Lz p=Lz q):p=q:=by obtain⟨a,b⟩:=p;obtain⟨c,d⟩:=q;simp only[Lz,AV.agg.injEq,List.cons.injEq,AV.int.injEq,true_and,_root_.and_true] at h;rw[h.1,h.2]
theorem xJ:∀a b,cv a=cv b->a=b:=by
 intro a b h;injection h with h
 refine(List.map_inj_right fun x y e=>?_).1 h;injection e with e
 exact(List.map_inj_right acG).1 e
def mJ(n:Nat):List AV:=(List.range n).map fun i=>.map<|some<|272+i
noncomputable def qT:Nat->bB->List (Nat×ae)
 |_,[]=>[]
 |k,m::ms=>(k,bM m)::qT (k+1) ms
noncomputable def Yw(n:Nat)(cap:cR):ae:=aJ kg [.slice (some (271,0)) n cap]
noncomputable def gE(ms:bB)(cap:cR):List<|Nat×ae:=(270,Yw ms.length cap)::(271,aJ kg<|mJ ms.length)::qT 272 ms
def fy(ms:bB):Prop:=(1<=ms.length/\ms.length<=7)/\∀m∈ms,fZ m
def uI(n:Nat)(cap:cR):Prop:=cap= .ar n 1\/(n=1/\cap= .known 1)
theorem Og:∀{k:Nat} {ms:bB} {p:Nat×ae},p∈qT k ms->k<=p.1/\p.1<k+ms.length/\∃m,p.2=bM m
 |k,[],p,h=>by cases h
 |k,m::ms,p,h=>by
  rcases List.mem_cons.1 h with rfl|h
  ·exact⟨Nat.le_refl _,by rw[List.length_cons];omega,m,rfl⟩
  ·obtain⟨h1,h2,h3⟩:=Og h;exact⟨by omega,by rw[List.length_cons];omega,h3⟩
theorem Un:∀{k:Nat} {ms:bB} {i:Nat},i<ms.length->k+i∈(qT k ms).map (·.1)
 |k,[],i,h=>by cases h
 |k,m::ms,0,h=>List.mem_cons_self
 |k,m::ms,i+1,h=>by have:=Un (k:=k+1) (ms:=ms) (i:=i) (by rw[List.length_cons] at h;omega);rw[show k+(i+1)=k+1+i by omega];exact List.mem_cons_of_mem _ this
structure Fr where
 block:List St
 au:Int
 turns:Int
 aU:Bool
 kept:List Int
 other:Option<|List St
instance:Inhabited Fr:=⟨⟨[],0,0,false,[],none⟩⟩
noncomputable def A8:Option (List St)->AV
 |none=>.slice none 0<|.known 0
 |some l=>aD ba l
theorem ae5(o:Option<|List St):(A8 o).cj=true:=by cases o<;>rfl
theorem agV(o:Option<|List St):(A8 o).cq=true:=by
 cases o with
 |none=>rfl
 |some l=>exact aL.2<|cV _
def eight(l:List Int):List AV:=[.int .i64<|l.getD 0 0,.int .i64<|l.getD 1 0,.int .i64<|l.getD 2 0,.int .i64<|l.getD 3 0,.int .i64<|l.getD 4 0,.int .i64<|l.getD 5 0,.int .i64<|l.getD 6 0,.int .i64<|l.getD 7 0]
noncomputable def aS(f:Fr):List AV:=[aD ba f.block,.int .i64 f.au,.int .i64 f.turns,.bool f.aU]++(eight f.kept++[A8 f.other])
theorem jy(f:Fr):(aS f).length=13:=rfl
theorem Oh(f:Fr):(aS f).all AV.cj=true:=by show(true&&(true&&(true&&(true&&(true&&(true&&(true&&(true&&(true&&(true&&(true&&(true&&((A8 f.other).cj&&true)))))))))))))=true;rw[ae5];rfl
theorem U6(f:Fr):∀c∈aS f,c.cq=true:=fun c hc=>by
 have h:(aS f).all AV.cq=true:=by show((aD ba f.block).cq&&(true&&(true&&(true&&(true&&(true&&(true&&(true&&(true&&(true&&(true&&(true&&((A8 f.other).cq&&true)))))))))))))=true;rw[show(aD ba f.block).cq=true from aL.2<|cV _,agV];rfl
 exact List.all_eq_true.1 h c hc
noncomputable def ME(f:Fr):AV:=.agg [aD ba f.block,.int .i64 f.au,.int .i64 f.turns,.bool f.aU,.agg<|f.kept.map fun x=>.int .i64 x,A8 f.other]
theorem Oi{l m:List St}(h:aD ba l=aD ba m):l=m:=by
 injection h with h _ _
 have h:nm (bD l)=nm (bD m):=by rw[vy,vy];exact h
 exact tL _ _<|ud (lW _) (lW _) h
theorem VX{a b:Option<|List St}(h:A8 a=A8 b):a=b:=by
 cases a with
 |none=>cases b with
  |none=>rfl
  |some m=>cases h
 |some l=>cases b with
  |none=>cases h
  |some m=>exact congrArg some<|Oi h
theorem U7{l m:List Int}(h:(l.map fun x=>AV.int .i64 x)=m.map fun x=>.int .i64 x):l=m:=(List.map_inj_right fun x y e=>by injection e).1 h
theorem ae6(f g:Fr)(h:ME f=ME g):f=g:=by obtain⟨a1,a2,a3,a4,a5,a6⟩:=f;obtain⟨b1,b2,b3,b4,b5,b6⟩:=g;simp only[ME,AV.agg.injEq,List.cons.injEq,AV.int.injEq,AV.bool.injEq,true_and,_root_.and_true] at h;obtain⟨h1,rfl,rfl,rfl,h5,h6⟩:=h;rw[Oi h1,U7 h5,VX h6]
structure dR where
 vars:Int
 aG:List Int
 l:List Int
 b:bB
 fs:List Fr
 steps:Int
noncomputable def XA(a:dR)(c:Nat):List AV:=[.int .i64 a.vars,aD Ai a.aG]++(eight a.l++[.ptr<|some (271,0),.slice (some (272,0)) a.fs.length<|.ar c 13,.int .i64 a.steps])
noncomputable def eK(a:dR):AV:=.agg [.int .i64 a.vars,aD Ai a.aG,.agg<|a.l.map fun x=>.int .i64 x,cv a.b,.agg<|a.fs.map ME,.int .i64 a.steps]
theorem DT:∀a b,eK a=eK b->a=b:=by
 intro a b h;obtain⟨a1,a2,a3,a4,a5,a6⟩:=a;obtain⟨b1,b2,b3,b4,b5,b6⟩:=b;simp only[eK,AV.agg.injEq,List.cons.injEq,AV.int.injEq,true_and,_root_.and_true] at h;obtain⟨rfl,h2,h3,h4,h5,rfl⟩:=h;have e2:a2=b2:=by refine(dj.aD MD a2).inj acF ?_;rw[h2];exact dj.aD MD b2
 rw[e2,U7 h3,xJ _ _ h4,(List.map_inj_right ae6).1 h5]
def B6(a:dR):Prop:=a.l.length=8/\fy a.b/\a.fs.length<=1000/\a.aG.length<=1000/\(1<=a.vars/\a.vars<=32)
noncomputable def pe(a:dR)(cf:List Fr)(c:Nat):List<|Nat×ae:=[(270,aJ kg<|XA a c),(271,.tok 3<|cv a.b),(272,aJ aS<|a.fs++cf)]
def ye(a:dR)(cf:List Fr)(c:Nat):Prop:=a.fs.length<=c/\(a.fs++cf).length<=1000000/\∀f∈cf,(0<=f.turns/\f.turns<=1000000)/\f.kept.length=8
theorem xR{n:Nat}(h:n<100000):n<top:=by have:top=549755813888:=rfl;omega
theorem Eo(l:List AV):(l.map kg).flatten=l:=by
 induction l with
 |nil=>rfl
 |cons x l ih=>rw[List.map_cons,List.flatten_cons,ih];rfl
theorem abL{ns:List Nat}{m:List<|Int×Int}:lK ns<|bM m:=fun _ _ _ h=>xI h
theorem agW{ms:bB}{cap:cR}(h:fy ms):∀p∈gE ms cap,270<=p.1/\p.1<top/\(p.2.own=true\/p.2.ll=true)/\lK ((gE ms cap).map (·.1)) p.2:=by
 intro p hp;have h8:=h.1.2;rcases List.mem_cons.1 hp with rfl|hp
 ·refine⟨Nat.le_refl _,xR (by show 270<100000;omega),.inl rfl,lK.row ?_ fun c hc=>?_⟩
  ·rw[Eo];exact Nat.le_of_lt<|xR (by show 1<100000;omega)
  ·rw[Eo] at hc;rw[List.mem_singleton] at hc;subst hc;exact gA.slice (by simp[gE])
 rcases List.mem_cons.1 hp with rfl|hp
 ·refine⟨by show 270<=271;omega,xR (by show 271<100000;omega),.inl rfl,lK.row ?_ fun c hc=>?_⟩
  ·rw[Eo,mJ,List.length_map,List.length_range];exact Nat.le_of_lt<|xR ah
  ·rw[Eo] at hc;obtain⟨i,hi,rfl⟩:=List.mem_map.1 hc;refine gA.map ?_;show 272+i∈270::271::(qT 272 ms).map (·.1);exact List.mem_cons_of_mem _<|List.mem_cons_of_mem _<|Un<|List.mem_range.1 hi
 ·obtain⟨h1,h2,m,h3⟩:=Og hp;refine⟨by omega,xR ah,.inl (by rw[h3];rfl),by rw[h3];exact abL⟩
theorem ae7{a:dR}{cf:List Fr}{c:Nat}(h:B6 a)(hj:ye a cf c):∀p∈pe a cf c,270<=p.1/\p.1<top/\(p.2.own=true\/p.2.ll=true)/\lK ((pe a cf c).map (·.1)) p.2:=by
 intro p hp;simp only[pe,List.mem_cons,List.not_mem_nil,or_false] at hp;rcases hp with rfl|rfl|rfl
 ·refine⟨Nat.le_refl _,xR (by show 270<100000;omega),.inl rfl,lK.row ?_ fun c hc=>?_⟩
  ·rw[Eo];exact Nat.le_of_lt<|xR (by show 13<100000;omega)
  ·rw[Eo] at hc;simp only[XA,eight,List.cons_append,List.nil_append,List.mem_cons,List.not_mem_nil,or_false] at hc;rcases hc with rfl|rfl|rfl|rfl|rfl|rfl|rfl|rfl|rfl|rfl|rfl|rfl|rfl
   ·exact gA.hi rfl
   ·exact gA.hi<|aL.2<|cV _
   ·exact gA.hi rfl
   ·exact gA.hi rfl
   ·exact gA.hi rfl
   ·exact gA.hi rfl
   ·exact gA.hi rfl
   ·exact gA.hi rfl
   ·exact gA.hi rfl
   ·exact gA.hi rfl
   ·exact gA.ptr (by simp[pe])
   ·exact gA.slice (by simp[pe])
   ·exact gA.hi rfl
 ·exact⟨by show 270<=271;omega,xR (by show 271<100000;omega),.inr rfl,lK.tok⟩
 ·have h3:=hj.2.1;have ht:top=549755813888:=rfl;refine⟨by show 270<=272;omega,xR (by show 272<100000;omega),.inl rfl,lK.row ?_ fun c hc=>?_⟩
  ·rw[zG (K:=13) jy];omega
  ·obtain⟨x,hx,hc⟩:=List.mem_flatten.1 hc;obtain⟨f,_,rfl⟩:=List.mem_map.1 hx;exact gA.hi<|U6 f c hc
end fF
end
section
open Go Go.Rn Go.RowKit Go.Proofs
namespace cr
open fF
variable {T A:Prop} {i nv nl:Nat} {c y c' Y:AV} {ns:List Nat} {C:AB}
noncomputable abbrev pg:Program:=Tryz.prog
abbrev aA(f:Func):List ResultVar:=f.results.toList
noncomputable abbrev dt(g:Nat)(p:List Nat):List Item:=[.code<|aW Tryz.prog g p]
noncomputable abbrev sF(g:Nat)(f:Func)(args:List AV):AF:=⟨g,eg args,max f.ntmps args.length,[.code<|aW Tryz.prog g []],[],none⟩
def agX:List<|Option FuncId:=[none,none,none,none,some 134,some 135,some 136,some 137,some 139]
noncomputable section
def TJ:List AV:=agX.map J7
def dW:Tr ae:=(Tr.nil).put 0<|some<|.ro TJ.length<|Tr.fill TJ 0 .nil
end
def eC:List Nat:=[0]
theorem bU:Tryz.prog.follows .mixedOrders=true:=by kernel_rfl
theorem gL:fH<=270:=aL.1 aZ
theorem acH:fH<=271:=aL.1 aZ
theorem p7:270<=top:=aL.1 aZ
noncomputable def aq:List<|Nat×Option ae:=eC.map fun n=>(n,dW.get n)
theorem U8:fL aq=dW:=by kernel_rfl
theorem gN:aj aq 270=⟨dW,270,0,[],[]⟩:=by show(⟨fL aq,270,0,[],[]⟩:AS)=_;rw[U8]
theorem kl:∀p∈aq,p.1<top:=fun p hp=>by obtain⟨k,hk,rfl⟩:=List.mem_map.1 hp;exact NC (m:=top) (l:=eC) aZ k hk
theorem kI:∀n o,(n,some o)∈aq->dW.get n=some o:=fun n o hm=>by
 obtain⟨k,hk,e⟩:=List.mem_map.1 hm;injection e with e1 e2
 rw[←e1];exact e2
theorem ir(n:Nat)(o:ae)(_:n<top)(h:dW.get n=some o):n∈eC:=by
 rw[←U8] at h;obtain⟨k,hk,e⟩:=List.mem_map.1<|xF (l:=aq) kl h;injection e with e1 _
 rw[←e1];exact hk
theorem gZ:∀n∈eC,n<270:=fun n hn=>NC (m:=270) (l:=eC) aZ n hn
def aH(n:Int):List AV:=[.int .i64 n]
theorem eI:mh 1 aH:=⟨fun _=>rfl,fun _=>rfl⟩
theorem rW(x y:Int)(h:aH x=aH y):x=y:=by simp only[aH,List.cons.injEq,AV.int.injEq,true_and,_root_.and_true] at h;exact h
def kG(c:AV):List AV:=[c]
noncomputable abbrev en(L:bV):Env:=wA pg 270 eC dW L 270 true
noncomputable abbrev rG(L:bV):Env:=wA pg 270 eC dW L 271 true
noncomputable abbrev sp(L:bV):Sp:=dx 270 eC dW L
structure dO where
 rv:Int
 fG:Int
 has:List Bool
def lr(a:dO):List AV:=[AV.int .i64 a.rv,AV.int .i64 a.fG]++a.has.map AV.bool
def gR(a:dO):AV:=.agg<|lr a
def iS(a:dO):Prop:=Af a.rv/\(1<=a.fG/\a.fG<=32)/\a.has.length=32
theorem zI:∀a b,gR a=gR b->a=b:=by
 intro a b h;obtain⟨r,s,l⟩:=a;obtain⟨r',s',l'⟩:=b;injection h with h
 simp only[lr,List.cons_append,List.nil_append,List.cons.injEq,AV.int.injEq,true_and] at h;obtain⟨rfl,rfl,h⟩:=h;have:l=l':=by
  have inj:∀x y:Bool,AV.bool x=AV.bool y->x=y:=fun x y h=>by injection h
  clear r s;induction l generalizing l' with
  |nil=>cases l' with
   |nil=>rfl
   |cons _ _=>cases h
  |cons x l ih=>cases l' with
   |nil=>cases h
   |cons y l'=>simp only[List.map_cons,List.cons.injEq] at h;rw[inj x y h.1,ih l' h.2]
 rw[this]
noncomputable def kJ(a:dO):ae:=aJ kG<|lr a
structure Lk where
 owner:Int
 version:Int
deriving Inhabited
def nZ(k:Lk):List AV:=[.int .i64 k.owner,.int .i64 k.version]
structure cL where
 bq:List Lk
 bg:Int
 kh:Int
 cO:List Int
def aX(a:cL):AV:=.agg [.int .i64 a.bg,.int .i64 a.kh,.agg<|a.bq.map fun k=>.agg<|nZ k,.agg<|a.cO.map fun x=>.int .i64 x]
def lk(a:cL):Prop:=(1<=a.bq.length/\a.bq.length<=32)/\(1<=a.cO.length/\a.cO.length<=32)/\0<=a.bg/\a.kh<=1099511627776
theorem GA:∀a b,aX a=aX b->a=b:=by
 intro a b h;obtain⟨l,c,m,v⟩:=a;obtain⟨l',c',m',v'⟩:=b;injection h with h
 simp only[List.cons.injEq,AV.int.injEq,AV.agg.injEq,true_and,_root_.and_true] at h;obtain⟨rfl,rfl,h1,h2⟩:=h;have e1:l=l':=(List.map_inj_right (fun x y e=>by obtain⟨o,w⟩:=x;obtain⟨o',w'⟩:=y;simp only[nZ,AV.agg.injEq,List.cons.injEq,AV.int.injEq,true_and,_root_.and_true] at e;obtain⟨rfl,rfl⟩:=e;rfl)).1 h1;have e2:v=v':=(List.map_inj_right fun x y e=>by injection e).1 h2;rw[e1,e2]
def mZ(nl nv:Nat)(c1 c2:cR)(bg kh:Int):List AV:=[.slice (some (271,0)) nl c1,.int .i64 bg,.int .i64 kh,.slice (some (272,0)) nv c2]
noncomputable def Qt(nl nv:Nat)(c1 c2:cR)(bg kh:Int):ae:=aJ kG<|mZ nl nv c1 c2 bg kh
noncomputable def Cp(a:cL)(c1 c2:cR):List<|Nat×ae:=[(270,Qt a.bq.length a.cO.length c1 c2 a.bg a.kh),(271,aJ nZ a.bq),(272,aJ aH a.cO)]
inductive XT:TX
 |set (a:dO) (h:iS a):XT 1 (gR a) [(270,kJ a)]
 |heap (a:cL) (h:lk a) (c1 c2:cR):XT 2 (aX a)<|Cp a c1 c2
 |buf (ms:bB) (h:fy ms) (cap:cR) (hc:uI ms.length cap):XT 3 (cv ms)<|gE ms cap
 |CJ (a:dR) (h:B6 a) (cf:List Fr) (c:Nat) (hj:ye a cf c):XT 4 (eK a)<|pe a cf c
theorem Cq(l:List AV):(l.map kG).flatten=l:=by
 induction l with
 |nil=>rfl
 |cons x l ih=>rw[List.map_cons,List.flatten_cons,ih];rfl
theorem VY(a:dO):∀c∈lr a,c.cq=true:=fun c hc=>by
 rcases List.mem_append.1 hc with h|h
 ·simp only[List.mem_cons,List.not_mem_nil,or_false] at h;rcases h with rfl|rfl<;>rfl
 ·obtain⟨b,_,rfl⟩:=List.mem_map.1 h;rfl
theorem U9(a:dO)(h:a.has.length=32):(lr a).length=34:=by unfold lr;rw[List.length_append,List.length_map,h];rfl
theorem ZA(x:AV):(kG x).length=1:=rfl
theorem ky{l:List AV}(hl:l.length<=top)(hc:l[i]? =some c):cellsOf (some<|aJ kG l) i 1=some [c]:=by have:=nr ZA (l:=l) (i:=i) ah hc 0 1 rfl;rwa[Nat.mul_one,Nat.add_zero] at this
theorem ae8{l:List AV}(hl:l.length<=top)(hc:l[i]? =some c)(h1:c'.cj=true):wa (some<|aJ kG l) i [c']=some (aJ kG<|l.set i c'):=by have:=Em ZA (l:=l) (i:=i) (c':=c') (r:=[c']) ah hc 0 rfl rfl (by rw[List.all_cons,h1];rfl);rwa[Nat.mul_one,Nat.add_zero] at this
theorem OM{l:List AV}{z:Nat}(hl:l.length<=top)(hc:l[i+z]? =some c)(h1:c'.cj=true):wa (some<|aJ kG l) (i+z*1) [c']=some (aJ kG<|l.set (i+z) c'):=by rw[Nat.mul_one];exact ae8 hl hc h1
theorem xK{a:dO}(h:iS a):(lr a).length<=top:=by rw[U9 a h.2.2];exact aL.1 aZ
abbrev nG(k:Nat)(y:AV)(v:AV)(s:AS)(Y:AV):Prop:=Y=y/\∃L',XT k v L'/\∀m o,(m,o)∈L'->s.h.get m=some o
theorem CK{k:Nat}{v:AV}{o:ae}(hx:XT k v [(270,o)])(e:Y=y)(nx:Nat):nG k y v (aj (aq++[(270,some o)]) nx) Y:=by
 refine⟨e,_,hx,fun m p hm=>?_⟩;simp only[List.mem_cons,List.not_mem_nil,or_false] at hm;injection hm with h1 h2
 subst h1;subst h2;kernel_rfl
abbrev XB(B:aI)(g nt:Nat)(rs:List ResultVar)(k:Nat)(o:ae)(rest:List AV)(y v':AV):Prop:=av pg B 271 (mj XT pg rs k y v') ⟨g,eg<|.ptr (some (270,0))::rest,nt,[.code<|aW pg g []],[],none⟩<|aj (aq++[(270,some o)]) 271
theorem ae9{l:List Lk}:∀c∈(l.map nZ).flatten,gA ns c:=fun c hc=>by obtain⟨x,hx,hc⟩:=List.mem_flatten.1 hc;obtain⟨k,_,rfl⟩:=List.mem_map.1 hx;simp only[nZ,List.mem_cons,List.not_mem_nil,or_false] at hc;rcases hc with rfl|rfl<;>exact gA.hi rfl
theorem agY{l:List Int}:∀c∈(l.map aH).flatten,gA ns c:=fun c hc=>by obtain⟨x,hx,hc⟩:=List.mem_flatten.1 hc;obtain⟨k,_,rfl⟩:=List.mem_map.1 hx;simp only[aH,List.mem_cons,List.not_mem_nil,or_false] at hc;subst hc;exact gA.hi rfl
theorem zZ{n:Nat}(h:n<1024):n<top:=by have:top=549755813888:=rfl;omega
theorem rJ:zc XT 270:=by
 refine⟨fun k v L hx p hp=>?_,fun k v L hx=>?_⟩
 ·cases hx with
  |set a h=>
   simp only[List.mem_cons,List.not_mem_nil,or_false] at hp;subst hp;refine⟨Nat.le_refl _,aL.1 aZ,.inl rfl,lK.row ?_ fun c hc=>?_⟩
   ·rw[Cq,U9 a h.2.2];exact aL.1 aZ
   ·rw[Cq] at hc;exact gA.hi<|VY a c hc
  |heap a h c1 c2=>
   simp only[Cp,List.mem_cons,List.not_mem_nil,or_false] at hp;have h1:=h.1.2;have h2:=h.2.1.2;rcases hp with rfl|rfl|rfl
   ·refine⟨Nat.le_refl _,aL.1 aZ,.inl rfl,lK.row ?_ fun c hc=>?_⟩
    ·rw[Cq];exact Nat.le_of_lt<|zZ (by show 4<1024;omega)
    ·rw[Cq] at hc;simp only[mZ,List.mem_cons,List.not_mem_nil,or_false] at hc;rcases hc with rfl|rfl|rfl|rfl
     ·exact gA.slice (by simp[Cp])
     ·exact gA.hi rfl
     ·exact gA.hi rfl
     ·exact gA.slice (by simp[Cp])
   ·refine⟨by show 270<=271;omega,zZ (by show 271<1024;omega),.inl rfl,lK.row ?_ ae9⟩;rw[zG (K:=2) fun _=>rfl];exact Nat.le_of_lt<|zZ ah
   ·refine⟨by show 270<=272;omega,zZ (by show 272<1024;omega),.inl rfl,lK.row ?_ agY⟩;rw[zG (K:=1) fun _=>rfl];exact Nat.le_of_lt<|zZ ah
  |buf ms h cap hc=>exact agW h p hp
  |CJ a h cf c hj=>exact ae7 h hj p hp
 ·cases hx with
  |set a h=>exact⟨_,List.mem_cons_self⟩
  |heap a h c1 c2=>exact⟨_,List.mem_cons_self⟩
  |buf ms h cap hc=>exact⟨_,List.mem_cons_self⟩
  |CJ a h cf c hj=>exact⟨_,List.mem_cons_self⟩
theorem jq{a:cL}{v:AV}(c1 c2:cR)(h:lk a)(hn:nl=a.bq.length)(hv:nv=a.cO.length)(e:Y=y)(ev:v=aX a)(nx:Nat):
 nG 2 y v (aj (aq++[(270,some<|Qt nl nv c1 c2 a.bg a.kh),(271,some<|aJ nZ a.bq),(272,some<|aJ aH a.cO)]) nx) Y:=by
 subst hn;subst hv;subst ev;refine⟨e,_,.heap a h c1 c2,fun m p hm=>?_⟩;simp only[Cp,List.mem_cons,List.not_mem_nil,or_false] at hm;rcases hm with hm|hm|hm<;>(injection hm with h1 h2;subst h1;subst h2;kernel_rfl)
abbrev uy(B:aI)(g nt:Nat)(rs:List ResultVar)(a:cL)(c1 c2:cR)(rest:List AV)(y v':AV):Prop:=av pg B 271 (mj XT pg rs 2 y v') ⟨g,eg<|.ptr (some (270,0))::rest,nt,[.code<|aW pg g []],[],none⟩<|aj (aq++[(270,some<|Qt a.bq.length a.cO.length c1 c2 a.bg a.kh),(271,some<|aJ nZ a.bq),(272,some<|aJ aH a.cO)]) 273
def fS(l:List Lk)(z:Int):Lk:=l.getD z.toNat default
theorem EV{l:List Lk}{z:Int}(h1:0<=z)(h2:z<((l.length:Nat):Int)):l[z.toNat]? =some (fS l z):=by
 have:z.toNat<l.length:=by omega
 unfold fS;rw[List.getD_eq_getElem?_getD,List.getElem?_eq_getElem this];rfl
def pt(l:List Int)(z:Int):Int:=l.getD z.toNat 0
theorem XC{l:List Int}{z:Int}(h1:0<=z)(h2:z<((l.length:Nat):Int)):l[z.toNat]? =some (pt l z):=by
 have:z.toNat<l.length:=by omega
 unfold pt;rw[List.getD_eq_getElem?_getD,List.getElem?_eq_getElem this];rfl
theorem DU(x:Lk):(nZ x).length=2:=rfl
theorem Ep{a:cL}(h:lk a):a.bq.length*2<=top:=by have:=h.1.2;exact Nat.le_of_lt<|zZ ah
theorem agZ{a:cL}(h:lk a):a.cO.length*1<=top:=by have:=h.2.1.2;exact Nat.le_of_lt<|zZ ah
theorem oJ{c1 c2:cR}{x y:Int}:(mZ nl nv c1 c2 x y).length<=top:=Nat.le_of_lt<|zZ (by show 4<1024;omega)
abbrev aV(L:bV):Prop:=dY XT 270 pg<|sp L
abbrev Mt(L:bV)(B:aI):Prop:=qm XT pg 270 eC dW L B
theorem ai{B:Prop}(a:A)(b:B):A/\B:=⟨a,b⟩
theorem oF(h:False):False:=h
theorem rX{α:Type}(x:α):x=x:=rfl
theorem mS(l:List<|Nat×AV):l.map (fun q=>some q.2)=l.map (fun q=>some q.2):=rfl
theorem mO(l:List<|Nat×Option ae):l.map (fun q=>q.2)=l.map (fun q=>q.2):=rfl
theorem wI(z:Int)(h: -9223372036854775808<=z/\z<=9223372036854775807:=by omega):AV.int .i64 (IntKind.wrap .i64 z)=AV.int .i64 z:=congrArg (AV.int .i64)<|Bo h
theorem ix2(z n:Int)(h1:0<=z)(h2:z<n)(x:A):0<=z/\z<n/\A:=⟨h1,h2,x⟩
theorem eZ(z n:Int)(x:A)(h1:0<=z:=by omega)(h2:z<n:=by omega):0<=z/\z<n/\A:=⟨h1,h2,x⟩
abbrev i6(n:Int):AV:=.int .i64 n
abbrev u8(n:Int):AV:=.int .u8 n
abbrev i0:AV:=.int .i64<|.ofNat 0
section
variable {L:bV} {B:aI} (mc:Mt L B) {f nt:Nat} {t:Tr AV} {K:List Item} {s:AS} {rs:List ResultVar} {R:AV->AS->Prop}
include mc
theorem wS(p:Pl)(x:T)(h:T=wp (en L) 900 6 (.fr f nt K t s) p rs (fun v s _=>R v s) (fun _ _ _=>False):=by as_aux_lemma=>kernel_rfl)(h0:Nat.ble 270 s.nx=true:=by as_aux_lemma=>kernel_rfl):av pg B 270 (Fin pg rs R) ⟨f,t,nt,K,[],none⟩ s:=l9 (E:=en L) eJ rfl bU mc.2.2.1 mc.2.2.2 900 p x h h0
theorem ox(p:Pl)(x:T)(h:T=wp (rG L) 900 6 (.fr f nt K t s) p rs (fun v s _=>R v s) (fun _ _ _=>False):=by as_aux_lemma=>kernel_rfl)(h0:Nat.ble 271 s.nx=true:=by as_aux_lemma=>kernel_rfl):av pg B 271 (Fin pg rs R) ⟨f,t,nt,K,[],none⟩ s:=l9 (E:=rG L) eJ rfl bU mc.2.2.1 mc.2.2.2 900 p x h h0
theorem wC(hC:∀fr s p,C fr s p->av pg B 270 (Fin pg rs R) fr s)(p:Pl)(x:T)(h:T=wp (en L) 900 6 (.fr f nt K t s) p rs (fun v s _=>R v s) C:=by as_aux_lemma=>kernel_rfl)(h0:Nat.ble 270 s.nx=true:=by as_aux_lemma=>kernel_rfl):av pg B 270 (Fin pg rs R) ⟨f,t,nt,K,[],none⟩ s:=yb (E:=en L) eJ rfl bU mc.2.2.1 mc.2.2.2 gL rfl mc.1 hC 900 p x h h0
theorem IM(hC:∀fr s p,C fr s p->av pg B 271 (Fin pg rs R) fr s)(p:Pl)(x:T)(h:T=wp (rG L) 900 6 (.fr f nt K t s) p rs (fun v s _=>R v s) C:=by as_aux_lemma=>kernel_rfl)(h0:Nat.ble 271 s.nx=true:=by as_aux_lemma=>kernel_rfl):av pg B 271 (Fin pg rs R) ⟨f,t,nt,K,[],none⟩ s:=yb (E:=rG L) eJ rfl bU mc.2.2.1 mc.2.2.2 acH rfl mc.1 hC 900 p x h h0
end
abbrev Sm(B:aI)(f:Func)(v:AV)(fr:AF)(s:AS):Prop:=av pg B 270 (Fin pg f.results.toList fun y _=>y=v) fr s
theorem g9{L L':bV}{g:Nat}{fn:Func}{val:List AV->Option AV}(hP:bC pg)(h:aV L)(h':aV L')(ch:Tryz.prog.funcs[g]? =some fn)(eL:∀args v,val args=some v->max fn.ntmps args.length<=top/\∀B:aI,Mt L' B->av pg B 270 (Fin pg fn.results.toList fun y _=>y=v) ⟨g,eg args,max fn.ntmps args.length,[.code<|aW pg g []],[],none⟩ ⟨dW,270,0,[],[]⟩)(cw:fn.body=some (aW pg g []):=by kernel_rfl)(hn:(fn.name == "runtime.NumGoroutine")=false:=by kernel_rfl):aV<|(g,.val val)::L:=aeX hP gL p7 ir gZ h h' ch cw hn eL
end cr
end
section
open Go Go.Rn Go.RowKit Go.Proofs
namespace A9
open cr
variable {a:dO} {ve ow st rv:Int} {B:aI} {L:bV}
noncomputable section
def qd(a:dO)(ow ve:Int):AV:=.int .u8 (if ow≠ -1 then 1 else if ve>a.rv then 2 else 0)
theorem aid(h1:ow≠ -1):AV.int .u8 (.ofNat 1)=qd a ow ve:=by unfold qd;rw[if_pos h1];rfl
theorem aie(h1:¬(ow≠ -1))(h2:ve>a.rv):AV.int .u8 (.ofNat 2)=qd a ow ve:=by unfold qd;rw[if_neg h1,if_pos h2];rfl
theorem aif(h1:¬(ow≠ -1))(h2:¬(ve>a.rv)):AV.int .u8 (.ofNat 0)=qd a ow ve:=by unfold qd;rw[if_neg h1,if_neg h2];rfl
def Cr:dO->List AV->Option (AV×dO)
 |a,[.int .i64 ow,.int .i64 ve]=>some (qd a ow ve,a)
 |_,_=>none
def hasB(a:dO)(n:Int):Bool:=a.has.getD n.toNat false
theorem ON{n:Int}(h:iS a)(h1:0<=n)(h2:n<32):(lr a)[2+n.toNat]? =some (AV.bool<|hasB a n):=by
 have hl:=h.2.2;have cF:n.toNat<a.has.length:=by omega
 unfold lr hasB;rw[List.getElem?_append_right (by show 2<=2+n.toNat;omega)];show(a.has.map AV.bool)[2+n.toNat - 2]? =_;rw[show 2+n.toNat - 2=n.toNat by omega,List.getElem?_map,List.getElem?_eq_getElem cF,List.getD_eq_getElem?_getD,List.getElem?_eq_getElem cF];rfl
def Fs(a:dO)(n:Int):dO:={a with has:=a.has.set n.toNat true}
theorem adR{n:Int}:lr (Fs a n)=(lr a).set (2+n.toNat) (AV.bool true):=by unfold lr Fs;rw[List.set_append_right _ _ (by show 2<=2+n.toNat;omega)];show _++(a.has.set n.toNat true).map AV.bool=_++(a.has.map AV.bool).set (2+n.toNat - 2) (AV.bool true);rw[show 2+n.toNat - 2=n.toNat by omega,List.map_set]
theorem VZ{n:Int}(h:iS a):iS<|Fs a n:=⟨h.1,h.2.1,by show(a.has.set n.toNat true).length=32;rw[List.length_set];exact h.2.2⟩
def AH(a:dO)(n:Int):AV:=.int .i64 (if n<0\/n>=a.fG then 1 else 0)
def nf(a:dO)(n:Int):dO:=if n<0\/n>=a.fG then a else Fs a n
theorem XD{n:Int}(h:iS a)(q:n<0\/n>=a.fG):nG 1 (AH a n) (gR<|nf a n) (aj (aq++[(270,some<|kJ a)]) 271)<|AV.int .i64<|.ofNat 1:=by unfold AH nf;rw[if_pos q,if_pos q];exact CK (.set a h) rfl 271
theorem ag0{n:Int}(h:iS a)(h1:n<0):nG 1 (AH a n) (gR<|nf a n) (aj (aq++[(270,some<|kJ a)]) 271)<|AV.int .i64<|.ofNat 1:=XD h<|.inl h1
theorem ag1{n:Int}(h:iS a)(_:¬(n<0))(h2:n>=a.fG):nG 1 (AH a n) (gR<|nf a n) (aj (aq++[(270,some<|kJ a)]) 271)<|AV.int .i64<|.ofNat 1:=XD h<|.inr h2
theorem aih{n:Int}(h:iS a)(h1:¬(n<0))(h2:¬(n>=a.fG)):nG 1 (AH a n) (gR<|nf a n) (aj (aq++[(270,some<|aJ kG<|(lr a).set (2+n.toNat)<|.bool true)]) 271)<|AV.int .i64<|.ofNat 0:=by unfold AH nf;rw[if_neg ah,if_neg ah, ←adR];exact CK (.set (Fs a n)<|VZ h) rfl 271
def Ie:dO->List AV->Option (AV×dO)
 |a,[.int .i64 n]=>some (AH a n,nf a n)
 |_,_=>none
def ql(rv st:Int):dO:=⟨rv,st,List.replicate 32 false⟩
theorem aii(hi:Af rv)(dq:¬(rv<0\/rv>1099511627776\/st<1\/st>32)):nG 1 (.tuple [.ptr<|some (270,0),.int .i64 0]) (gR<|ql rv st) (aj (aq++[(270,some<|kJ<|ql rv st)]) 271)<|.tuple [.ptr<|some (270,0),.int .i64<|.ofNat 0]:=CK (.set (ql rv st) ⟨hi,by show 1<=st/\st<=32;omega,rfl⟩) rfl 271
def Ed:List AV->Option (Option AV×(AV->AV))
 |[.int .i64 rv,.int .i64 st]=>if rv<0\/rv>1099511627776\/st<1\/st>32 then some (none,fun p=>.tuple [p,.int .i64 1]) else some (some<|gR<|ql rv st,fun p=>.tuple [p,.int .i64 0])
 |_=>none
theorem ag2(mc:Mt [] B)(h:iS a):XB B 50 (max Tryz.f50.ntmps 3) (aA Tryz.f50) 1 (kJ a) [.int .i64 ow,.int .i64 ve] (qd a ow ve)<|gR a:=
 ox mc (.st 8<|.rg<|.go 1<|.fk (.go 1<|.en<|.rt 4 .no)<|.go 1<|.en<|.st 2<|.rg<|.go 4<|.ld [(i6 a.rv)]<|.fk (.go 1<|.en<|.rt 4 .no)<|.go 1<|.en<|.rt 6 .no)
  (ax (ow≠(-1)) (fun h1=>(CK (.set a h) (aid (a:=a) (ow:=ow) (ve:=ve) h1) 271))
  (fun h1=>(ai (ky (xK h) (show(lr a)[0]? =some (AV.int .i64 a.rv) from rfl))
  (ax (ve>a.rv) (fun h2=>(CK (.set a h) (aie (a:=a) (ow:=ow) (ve:=ve) h1 h2) 271))
  (fun h2=>(CK (.set a h) (aif (a:=a) (ow:=ow) (ve:=ve) h1 h2) 271))))))
theorem aij(mc:Mt [] B){n:Int}(h:iS a):XB B 56 (max Tryz.f56.ntmps 2) (aA Tryz.f56) 1 (kJ a) [.int .i64 n] (AH a n)<|gR<|nf a n:=
 ox mc (.st 8<|.rg<|.go 1<|.fk (.go 9<|.en<|.rt 4 .no)<|.go 5<|.ld [(i6 a.fG)]<|.fk (.go 2<|.en<|.rt 4 .no)<|.go 2<|.en<|.st 4<|.rg<|.go 4<|.De<|.s8 (aJ kG<|(lr a).set (2+n.toNat)<|.bool true)<|.en<|.rt 3 .no)
  (ax (n<0) (fun h1=>(ag0 h h1))
  (fun h1=>(ai (ky (xK h) (show(lr a)[1]? =some (AV.int .i64 a.fG) from rfl))
  (ax (n>=a.fG) (fun h2=>(ag1 h h1 h2))
  (fun h2=>(ix2 n (Int.ofNat 32) ah (by have:=h.2.1;have q:n<32:=ah;exact q)
  (ai (OM (c':=(.bool true)) (xK h) (ON (n:=n) h ah (by have:=h.2.1;omega)) rfl)
  (aih h h1 h2))))))))
theorem afa(mc:Mt [] B)(dq:rv<0\/rv>1099511627776\/st<1\/st>32):av pg B 270 (Fin pg (aA Tryz.f24) fun y _=>y= .tuple [.ptr none,.int .i64 1]) (sF 24 Tryz.f24 [.int .i64 rv,.int .i64 st])<|aj aq 270:=wS mc (.st 4<|.rg<|.go 1<|.fk (.go 12<|.en<|.rt 4 .no)<|.go 2<|.fk (.go 9<|.en<|.rt 4 .no)<|.go 3<|.fk (.go 5<|.en<|.rt 4 .no)<|.go 3<|.fk (.go 1<|.en<|.rt 4 .no)<|.no)<|ax (rv<0) L7 fun _=>(ax (rv>1099511627776) L7 fun _=>(ax (st<1) L7 fun _=>(ax (st>32) L7 eN)))
theorem aik(mc:Mt [] B)(hi:Af rv)(dq:¬(rv<0\/rv>1099511627776\/st<1\/st>32)):av pg B 270 (mj XT pg (aA Tryz.f24) 1 (.tuple [.ptr<|some (270,0),.int .i64 0])<|gR<|ql rv st) (sF 24 Tryz.f24 [.int .i64 rv,.int .i64 st])<|aj aq 270:=wS mc (.st 4<|.rg<|.go 1<|.fk (.no)<|.go 2<|.fk (.no)<|.go 3<|.fk (.no)<|.go 3<|.fk (.no)<|.go 1<|.en<|.rt 5 .no)<|ax (rv<0) eN fun _=>(ax (rv>1099511627776) eN fun _=>(ax (st<1) eN fun _=>(ax (st>32) eN fun _=>(aii hi dq))))
def XE:FuncId×KE:=(50,.tok 1<|eW gR Cr)
theorem adS(hP:bC pg)(h:aV L):aV<|XE::L:=by
 refine Eb rJ hP gL p7 ir gZ kI kl h cN Tryz.func50 (body:=aW pg 50 []) aZ aZ fun v rest y v' e=>?_;obtain⟨a,a',rfl,e1,rfl⟩:=BF e;unfold Cr at e1;split at e1
 ·injection e1 with e1
  injection e1 with e2 e3
  subst e2;subst e3;refine⟨aL.1 aZ,fun L hx=>?_⟩;generalize hv:gR a=v at hx;cases hx with
  |set b hb=>have:=zI _ _ hv;subst this;exact⟨271,by omega,aL.1 aZ,fun p hp=>Yu,fun B mc=>ag2 mc hb⟩
 ·cases e1
def Yx:FuncId×KE:=(56,.tok 1<|eW gR Ie)
theorem afb(hP:bC pg)(h:aV L):aV<|Yx::L:=by
 refine Eb rJ hP gL p7 ir gZ kI kl h cN Tryz.func56 (body:=aW pg 56 []) aZ aZ fun v rest y v' e=>?_;obtain⟨a,a',rfl,e1,rfl⟩:=BF e;unfold Ie at e1;split at e1
 ·injection e1 with e1
  injection e1 with e2 e3
  subst e2;subst e3;refine⟨aL.1 aZ,fun L hx=>?_⟩;generalize hv:gR a=v at hx;cases hx with
  |set b hb=>have:=zI _ _ hv;subst this;exact⟨271,by omega,aL.1 aZ,fun p hp=>Yu,fun B mc=>aij mc hb⟩
 ·cases e1
def V4:FuncId×KE:=(24,.new 1 Ed)
theorem abM(hP:bC pg)(h:aV L):aV<|V4::L:=by
 refine J8 rJ hP gL (aL.1 aZ) ir gZ h cN Tryz.func24 (body:=aW pg 24 []) aZ aZ fun args p e=>?_;unfold Ed at e;split at e
 ·rename_i rv st;refine⟨aL.1 aZ,fun e0 B mc=>?_,fun v e0=>?_⟩
  ·split at e
   ·rename_i dq;injection e with e;subst e
    rw[←gN];exact afa mc dq
   ·injection e with e;subst e;cases e0
  ·split at e
   ·injection e with e;subst e;cases e0
   ·rename_i dq;injection e with e;subst e
    injection e0 with e0
    subst e0;refine⟨we.RV rfl,fun B mc=>?_⟩;rw[←gN];exact aik mc (by unfold Af;omega) dq
 ·cases e
end
end A9
end
section
open Go Go.Rn Go.RowKit Go.Proofs
namespace zm
open cr
variable {a:cL} {c2 c1:cR} {B:aI} {s dC:Int} {L:bV} {k:Lk}
noncomputable section
def yf(a:cL)(s:Int):AV:=.int .i64 (if 0<=s/\s<a.bq.length then(fS a.bq s).owner else -1)
def z6(a:cL)(_:Int):cL:=a
def zJ(a:cL)(s:Int):AV:=.int .i64 (if 0<=s/\s<a.bq.length then(fS a.bq s).version else 0)
def BG(a:cL)(_:Int):cL:=a
def z7(a:cL)(s:Int):AV:=.int .i64 (if 0<=s/\s<a.cO.length then pt a.cO s else 0)
def B7(a:cL)(_:Int):cL:=a
def KJ(a:cL):AV:=.int .i64 a.bg
def PM(a:cL):cL:=a
def LA(a:cL):AV:=.int .i64 (a.cO.length:Nat)
def Qu(a:cL):cL:=a
def JR(a:cL):AV:=.int .i64 (a.bq.length:Nat)
def OO(a:cL):cL:=a
def zP(a:cL)(s:Int):AV:=.int .i64 (if 0<=s/\s<a.cO.length then Int.tmod s (a.bq.length:Nat) else -1)
def BS(a:cL)(_:Int):cL:=a
def uz(a:cL)(s:Int)(k:Lk):cL:={a with bq:=a.bq.set s.toNat k}
def qo(a:cL)(s dC:Int):AV:=.int .i64 (if 0<=s/\s<a.bq.length then(if 0<=dC/\dC<6 then(if(fS a.bq s).owner= -1 then 0 else 6) else 1) else 5)
def oi(a:cL)(s dC:Int):cL:=if(0<=s/\s<a.bq.length)/\(0<=dC/\dC<6)/\(fS a.bq s).owner= -1 then uz a s {fS a.bq s with owner:=dC} else a
def sH(a:cL)(s dC:Int):AV:=.int .i64 (if 0<=s/\s<a.bq.length then(if 0<=dC/\(fS a.bq s).owner=dC then 0 else 7) else 5)
def qp(a:cL)(s dC:Int):cL:=if(0<=s/\s<a.bq.length)/\0<=dC/\(fS a.bq s).owner=dC then uz a s {fS a.bq s with owner:= -1} else a
theorem PN(h:lk a):lk<|uz a s k:=by unfold lk uz at*;rw[List.length_set];exact h
theorem Oj:a.bq.length=(uz a s k).bq.length:=by unfold uz;exact List.length_set.symm
noncomputable abbrev me(a:cL)(c1:cR):AV:=.slice (some (271,0)) (a.bq.length) c1
theorem afc(mc:Mt [] B)(h:lk a):uy B 51 (max Tryz.f51.ntmps 2) (aA Tryz.f51) a c1 c2 [.int .i64 s] (yf a s)<|aX<|z6 a s:=
 ox mc (.st 4<|.rg<|.go 2<|.il<|.st 8<|.rg<|.go 4<|.il<|.st 4<|.rg<|.go 1<|.fk (.go 9<|.en<|.rt 4<|.go 1<|.en<|.rt 1<|.go 1<|.en<|.rt 7 .no)<|.go 5<|.ld [(me a c1)]<|.go 1<|.fk (.go 1<|.en<|.rt 4<|.go 1<|.en<|.rt 1<|.go 1<|.en<|.rt 7 .no)<|.go 1<|.en<|.st 3<|.rg<|.go 3<|.ld [(me a c1)]<|.go 1<|.ix<|.go 1<|.en<|.rt 1<|.go 1<|.en<|.rt 1<|.go 1<|.en<|.st 4<|.rg<|.go 3<|.ld [(i6<|(fS a.bq s).owner)]<|.go 1<|.en<|.rt 1 .no)
  (ax (s<0) (fun _=>(jq (a:=a) (nl:=a.bq.length) (nv:=a.cO.length) c1 c2 h rfl rfl (show(i6<|.negSucc 0)=yf a s from by(unfold yf;repeat' split)<;>first|rfl|omega|(exfalso;omega)) (show aX (z6 a s)=aX a from by(unfold z6;repeat' split)<;>first|rfl|omega|(exfalso;omega)) 273))
  (fun _=>(ai (ky oJ (show((mZ a.bq.length a.cO.length c1 c2 a.bg a.kh))[0]? =some ((me a c1)) from rfl))
  (ax (s>=(a.bq.length:Int)) (fun _=>(jq (a:=a) (nl:=a.bq.length) (nv:=a.cO.length) c1 c2 h rfl rfl (show(i6<|.negSucc 0)=yf a s from by(unfold yf;repeat' split)<;>first|rfl|omega|(exfalso;omega)) (show aX (z6 a s)=aX a from by(unfold z6;repeat' split)<;>first|rfl|omega|(exfalso;omega)) 273))
  (fun _=>(ai (ky oJ (show((mZ a.bq.length a.cO.length c1 c2 a.bg a.kh))[0]? =some ((me a c1)) from rfl))
  (eZ s (a.bq.length:Int)
  (ai (nr DU (Ep h) (EV (l:=a.bq) (z:=s) ah ah) 0 1 rfl)
  (jq (a:=a) (nl:=a.bq.length) (nv:=a.cO.length) c1 c2 h rfl rfl (show(i6<|(fS a.bq s).owner)=yf a s from by(unfold yf;repeat' split)<;>first|rfl|omega|(exfalso;omega)) (show aX (z6 a s)=aX a from by(unfold z6;repeat' split)<;>first|rfl|omega|(exfalso;omega)) 273)))))))))
theorem acI(mc:Mt [] B)(h:lk a):uy B 52 (max Tryz.f52.ntmps 2) (aA Tryz.f52) a c1 c2 [.int .i64 s] (zJ a s)<|aX<|BG a s:=
 ox mc (.st 4<|.rg<|.go 2<|.il<|.st 8<|.rg<|.go 4<|.il<|.st 4<|.rg<|.go 1<|.fk (.go 9<|.en<|.rt 4<|.go 1<|.en<|.rt 1<|.go 1<|.en<|.rt 7 .no)<|.go 5<|.ld [(me a c1)]<|.go 1<|.fk (.go 1<|.en<|.rt 4<|.go 1<|.en<|.rt 1<|.go 1<|.en<|.rt 7 .no)<|.go 1<|.en<|.st 3<|.rg<|.go 3<|.ld [(me a c1)]<|.go 1<|.ix<|.go 1<|.en<|.rt 1<|.go 1<|.en<|.rt 1<|.go 1<|.en<|.st 4<|.rg<|.go 3<|.ld [(i6<|(fS a.bq s).version)]<|.go 1<|.en<|.rt 1 .no)
  (ax (s<0) (fun _=>(jq (a:=a) (nl:=a.bq.length) (nv:=a.cO.length) c1 c2 h rfl rfl (show i0=zJ a s from by(unfold zJ;repeat' split)<;>first|rfl|omega|(exfalso;omega)) (show aX (BG a s)=aX a from by(unfold BG;repeat' split)<;>first|rfl|omega|(exfalso;omega)) 273))
  (fun _=>(ai (ky oJ (show((mZ a.bq.length a.cO.length c1 c2 a.bg a.kh))[0]? =some ((me a c1)) from rfl))
  (ax (s>=(a.bq.length:Int)) (fun _=>(jq (a:=a) (nl:=a.bq.length) (nv:=a.cO.length) c1 c2 h rfl rfl (show i0=zJ a s from by(unfold zJ;repeat' split)<;>first|rfl|omega|(exfalso;omega)) (show aX (BG a s)=aX a from by(unfold BG;repeat' split)<;>first|rfl|omega|(exfalso;omega)) 273))
  (fun _=>(ai (ky oJ (show((mZ a.bq.length a.cO.length c1 c2 a.bg a.kh))[0]? =some ((me a c1)) from rfl))
  (eZ s (a.bq.length:Int)
  (ai (nr DU (Ep h) (EV (l:=a.bq) (z:=s) ah ah) 1 1 rfl)
  (jq (a:=a) (nl:=a.bq.length) (nv:=a.cO.length) c1 c2 h rfl rfl (show(i6<|(fS a.bq s).version)=zJ a s from by(unfold zJ;repeat' split)<;>first|rfl|omega|(exfalso;omega)) (show aX (BG a s)=aX a from by(unfold BG;repeat' split)<;>first|rfl|omega|(exfalso;omega)) 273)))))))))
noncomputable abbrev Aj(a:cL)(c2:cR):AV:=.slice (some (272,0)) (a.cO.length) c2
theorem afd(mc:Mt [] B)(h:lk a):uy B 54 (max Tryz.f54.ntmps 2) (aA Tryz.f54) a c1 c2 [.int .i64 s] (z7 a s)<|aX<|B7 a s:=
 ox mc (.st 4<|.rg<|.go 1<|.fk (.go 6<|.en<|.rt 4 .no)<|.go 3<|.il<|.st 8<|.rg<|.go 3<|.ld [(Aj a c2)]<|.go 2<|.en<|.rt 1<|.fk (.go 1<|.en<|.rt 4 .no)<|.go 1<|.en<|.st 3<|.rg<|.go 3<|.ld [(Aj a c2)]<|.go 1<|.ix<|.ld [(i6<|(pt a.cO s))]<|.go 1<|.en<|.rt 1 .no)
  (ax (s<0) (fun _=>(jq (a:=a) (nl:=a.bq.length) (nv:=a.cO.length) c1 c2 h rfl rfl (show i0=z7 a s from by(unfold z7;repeat' split)<;>first|rfl|omega|(exfalso;omega)) (show aX (B7 a s)=aX a from by(unfold B7;repeat' split)<;>first|rfl|omega|(exfalso;omega)) 273))
  (fun _=>(ai (ky oJ (show((mZ a.bq.length a.cO.length c1 c2 a.bg a.kh))[3]? =some ((Aj a c2)) from rfl))
  (ax (s>=(a.cO.length:Int)) (fun _=>(jq (a:=a) (nl:=a.bq.length) (nv:=a.cO.length) c1 c2 h rfl rfl (show i0=z7 a s from by(unfold z7;repeat' split)<;>first|rfl|omega|(exfalso;omega)) (show aX (B7 a s)=aX a from by(unfold B7;repeat' split)<;>first|rfl|omega|(exfalso;omega)) 273))
  (fun _=>(ai (ky oJ (show((mZ a.bq.length a.cO.length c1 c2 a.bg a.kh))[3]? =some ((Aj a c2)) from rfl))
  (eZ s (a.cO.length:Int)
  (ai (nr eI.1 (agZ h) (XC (l:=a.cO) (z:=s) ah ah) 0 1 rfl)
  (jq (a:=a) (nl:=a.bq.length) (nv:=a.cO.length) c1 c2 h rfl rfl (show(i6<|(pt a.cO s))=z7 a s from by(unfold z7;repeat' split)<;>first|rfl|omega|(exfalso;omega)) (show aX (B7 a s)=aX a from by(unfold B7;repeat' split)<;>first|rfl|omega|(exfalso;omega)) 273)))))))))
theorem afe(mc:Mt [] B)(h:lk a):uy B 46 (max Tryz.f46.ntmps 1) (aA Tryz.f46) a c1 c2 [] (KJ a)<|aX<|PM a:=
 ox mc (.st 8<|.rg<|.go 4<|.ld [(i6 a.bg)]<|.go 1<|.en<|.rt 1 .no)
  (ai (ky oJ (show((mZ a.bq.length a.cO.length c1 c2 a.bg a.kh))[1]? =some ((i6 a.bg)) from rfl))
  (jq (a:=a) (nl:=a.bq.length) (nv:=a.cO.length) c1 c2 h rfl rfl (show(i6 a.bg)=KJ a from by(unfold KJ;repeat' split)<;>first|rfl|omega|(exfalso;omega)) (show aX (PM a)=aX a from by(unfold PM;repeat' split)<;>first|rfl|omega|(exfalso;omega)) 273))
theorem ag3(mc:Mt [] B)(h:lk a):uy B 28 (max Tryz.f28.ntmps 1) (aA Tryz.f28) a c1 c2 [] (LA a)<|aX<|Qu a:=
 ox mc (.st 8<|.rg<|.go 3<|.ld [(Aj a c2)]<|.go 2<|.en<|.rt 1 .no)
  (ai (ky oJ (show((mZ a.bq.length a.cO.length c1 c2 a.bg a.kh))[3]? =some ((Aj a c2)) from rfl))
  (jq (a:=a) (nl:=a.bq.length) (nv:=a.cO.length) c1 c2 h rfl rfl (show(i6<|(a.cO.length:Int))=LA a from by(unfold LA;repeat' split)<;>first|rfl|omega|(exfalso;omega)) (show aX (Qu a)=aX a from by(unfold Qu;repeat' split)<;>first|rfl|omega|(exfalso;omega)) 273))
theorem acJ(mc:Mt [] B)(h:lk a):uy B 29 (max Tryz.f29.ntmps 1) (aA Tryz.f29) a c1 c2 [] (JR a)<|aX<|OO a:=
 ox mc (.st 8<|.rg<|.go 4<|.ld [(me a c1)]<|.go 2<|.en<|.rt 1 .no)
  (ai (ky oJ (show((mZ a.bq.length a.cO.length c1 c2 a.bg a.kh))[0]? =some ((me a c1)) from rfl))
  (jq (a:=a) (nl:=a.bq.length) (nv:=a.cO.length) c1 c2 h rfl rfl (show(i6<|(a.bq.length:Int))=JR a from by(unfold JR;repeat' split)<;>first|rfl|omega|(exfalso;omega)) (show aX (OO a)=aX a from by(unfold OO;repeat' split)<;>first|rfl|omega|(exfalso;omega)) 273))
theorem adT(mc:Mt [] B)(h:lk a)(h0:1<=a.bq.length):uy B 11 (max Tryz.f11.ntmps 2) (aA Tryz.f11) a c1 c2 [.int .i64 s] (zP a s)<|aX<|BS a s:=
 ox mc (.st 4<|.rg<|.go 1<|.fk (.go 6<|.en<|.rt 4 .no)<|.go 3<|.il<|.st 8<|.rg<|.go 3<|.ld [(Aj a c2)]<|.go 2<|.en<|.rt 1<|.fk (.go 1<|.en<|.rt 4 .no)<|.go 1<|.en<|.st 3<|.rg<|.go 5<|.ld [(me a c1)]<|.go 1<|.rm<|.go 1<|.en<|.rt 1 .no)
  (ax (s<0) (fun _=>(jq (a:=a) (nl:=a.bq.length) (nv:=a.cO.length) c1 c2 h rfl rfl (show(i6<|.negSucc 0)=zP a s from by(unfold zP;repeat' split)<;>first|rfl|omega|(exfalso;omega)) (show aX (BS a s)=aX a from by(unfold BS;repeat' split)<;>first|rfl|omega|(exfalso;omega)) 273))
  (fun _=>(ai (ky oJ (show((mZ a.bq.length a.cO.length c1 c2 a.bg a.kh))[3]? =some ((Aj a c2)) from rfl))
  (ax (s>=(a.cO.length:Int)) (fun _=>(jq (a:=a) (nl:=a.bq.length) (nv:=a.cO.length) c1 c2 h rfl rfl (show(i6<|.negSucc 0)=zP a s from by(unfold zP;repeat' split)<;>first|rfl|omega|(exfalso;omega)) (show aX (BS a s)=aX a from by(unfold BS;repeat' split)<;>first|rfl|omega|(exfalso;omega)) 273))
  (fun _=>(ai (ky oJ (show((mZ a.bq.length a.cO.length c1 c2 a.bg a.kh))[0]? =some ((me a c1)) from rfl))
  (ai (show(a.bq.length:Int)≠0 from by omega)
  (jq (a:=a) (nl:=a.bq.length) (nv:=a.cO.length) c1 c2 h rfl rfl (show(i6<|(Int.tmod s (a.bq.length:Int)))=zP a s from by(unfold zP;repeat' split)<;>first|rfl|omega|(exfalso;omega)) (show aX (BS a s)=aX a from by(unfold BS;repeat' split)<;>first|rfl|omega|(exfalso;omega)) 273))))))))
theorem gV:∀p∈Cp a c1 c2,p.1<273:=fun p hp=>by
 simp only[Cp,List.mem_cons,List.not_mem_nil,or_false] at hp;rcases hp with rfl|rfl|rfl
 ·show 270<273;omega
 ·show 271<273;omega
 ·show 272<273;omega
theorem Va{L0:bV}{g:Nat}{fn:Func}{F:cL->List AV->Option (AV×cL)}(hP:bC pg)(h:aV L)(h0:aV L0)(ch:Tryz.prog.funcs[g]? =some fn)(H:∀a rest y a',F a rest=some (y,a')->max fn.ntmps (rest.length+1)<=top/\∀B c1 c2,Mt L0 B->lk a->uy B g (max fn.ntmps<|rest.length+1) fn.results.toList a c1 c2 rest y (aX a'))(cw:fn.body=some (aW pg g []):=by kernel_rfl)(hn:(fn.name == "runtime.NumGoroutine")=false:=by kernel_rfl):aV<|(g,.tok 2<|eW aX F)::L:=by
 refine Eb rJ hP gL p7 ir gZ kI kl h h0 ch cw hn fun v rest y v' e=>?_;obtain⟨a,a',rfl,e1,rfl⟩:=BF e;obtain⟨q1,q2⟩:=H a rest y a' e1;refine⟨q1,fun L hx=>?_⟩;generalize hv:aX a=v at hx;cases hx with
 |heap b hb c1 c2=>have:=GA _ _ hv;subst this;exact⟨273,by omega,aL.1 aZ,gV,fun B mc=>q2 B c1 c2 mc hb⟩
theorem ail(mc:Mt [] B)(h:lk a):uy B 8 (max Tryz.f8.ntmps 3) (aA Tryz.f8) a c1 c2 [.int .i64 s,.int .i64 dC] (qo a s dC)<|aX<|oi a s dC:=
 ox mc (.st 3<|.rg<|.go 2<|.il<|.st 8<|.rg<|.go 4<|.il<|.st 4<|.rg<|.go 1<|.fk (.go 9<|.en<|.rt 4<|.go 1<|.en<|.rt 1<|.go 1<|.en<|.st 6<|.rg<|.go 1<|.il<|.rt 10<|.go 1<|.en<|.rt 1 .no)<|.go 5<|.ld [(me a c1)]<|.go 1<|.fk (.go 1<|.en<|.rt 4<|.go 1<|.en<|.rt 1<|.go 1<|.en<|.st 6<|.rg<|.go 1<|.il<|.rt 10<|.go 1<|.en<|.rt 1 .no)<|.go 1<|.en<|.st 3<|.rg<|.go 3<|.ld [(me a c1)]<|.go 1<|.ix<|.go 1<|.en<|.rt 1<|.go 1<|.en<|.rt 1<|.go 1<|.en<|.st 6<|.rg<|.go 1<|.fk (.go 5<|.en<|.rt 4 .no)<|.go 2<|.fk (.go 2<|.en<|.rt 4 .no)<|.go 2<|.en<|.st 2<|.rg<|.go 3<|.ld [(i6<|(fS a.bq s).owner)]<|.fk (.go 1<|.en<|.rt 4 .no)<|.go 1<|.en<|.st 4<|.rg<|.go 4<|.s8 (aJ nZ<|a.bq.set s.toNat {(fS a.bq s) with owner:=dC})<|.en<|.rt 3 .no)
  (ax (s<0) (fun _=>(jq (a:=a) (nl:=a.bq.length) (nv:=a.cO.length) c1 c2 h rfl rfl (show(i6<|.ofNat 5)=qo a s dC from by(unfold qo;repeat' split)<;>first|rfl|omega|(exfalso;omega)) (show aX (oi a s dC)=aX a from by(unfold oi;repeat' split)<;>first|rfl|omega|(exfalso;omega)) 273))
  (fun _=>(ai (ky oJ (show((mZ a.bq.length a.cO.length c1 c2 a.bg a.kh))[0]? =some ((me a c1)) from rfl))
  (ax (s>=(a.bq.length:Int)) (fun _=>(jq (a:=a) (nl:=a.bq.length) (nv:=a.cO.length) c1 c2 h rfl rfl (show(i6<|.ofNat 5)=qo a s dC from by(unfold qo;repeat' split)<;>first|rfl|omega|(exfalso;omega)) (show aX (oi a s dC)=aX a from by(unfold oi;repeat' split)<;>first|rfl|omega|(exfalso;omega)) 273))
  (fun _=>(ai (ky oJ (show((mZ a.bq.length a.cO.length c1 c2 a.bg a.kh))[0]? =some ((me a c1)) from rfl))
  (eZ s (a.bq.length:Int)
  (ax (dC<0) (fun _=>(jq (a:=a) (nl:=a.bq.length) (nv:=a.cO.length) c1 c2 h rfl rfl (show(i6<|.ofNat 1)=qo a s dC from by(unfold qo;repeat' split)<;>first|rfl|omega|(exfalso;omega)) (show aX (oi a s dC)=aX a from by(unfold oi;repeat' split)<;>first|rfl|omega|(exfalso;omega)) 273))
  (fun _=>(ax (dC>=6) (fun _=>(jq (a:=a) (nl:=a.bq.length) (nv:=a.cO.length) c1 c2 h rfl rfl (show(i6<|.ofNat 1)=qo a s dC from by(unfold qo;repeat' split)<;>first|rfl|omega|(exfalso;omega)) (show aX (oi a s dC)=aX a from by(unfold oi;repeat' split)<;>first|rfl|omega|(exfalso;omega)) 273))
  (fun _=>(ai (nr DU (Ep h) (EV (l:=a.bq) (z:=s) ah ah) 0 1 rfl)
  (ax ((fS a.bq s).owner≠(-1)) (fun _=>(jq (a:=a) (nl:=a.bq.length) (nv:=a.cO.length) c1 c2 h rfl rfl (show(i6<|.ofNat 6)=qo a s dC from by(unfold qo;repeat' split)<;>first|rfl|omega|(exfalso;omega)) (show aX (oi a s dC)=aX a from by(unfold oi;repeat' split)<;>first|rfl|omega|(exfalso;omega)) 273))
  (fun _=>(ai (Em DU (Ep h) (EV (l:=a.bq) (z:=s) ah ah) (c':={(fS a.bq s) with owner:=dC}) (r:=[(i6 dC)]) 0 rfl rfl rfl)
  (jq (a:=(uz a s {(fS a.bq s) with owner:=dC})) (nl:=a.bq.length) (nv:=a.cO.length) c1 c2 (PN h) Oj rfl (show i0=qo a s dC from by(unfold qo;repeat' split)<;>first|rfl|omega|(exfalso;omega)) (show aX (oi a s dC)=aX (uz a s {(fS a.bq s) with owner:=dC}) from by(unfold oi;repeat' split)<;>first|rfl|omega|(exfalso;omega)) 273))))))))))))))))
theorem aim(mc:Mt [] B)(h:lk a):uy B 9 (max Tryz.f9.ntmps 3) (aA Tryz.f9) a c1 c2 [.int .i64 s,.int .i64 dC] (sH a s dC)<|aX<|qp a s dC:=
 ox mc (.st 3<|.rg<|.go 3<|.il<|.st 3<|.rg<|.go 2<|.il<|.st 8<|.rg<|.go 4<|.il<|.st 4<|.rg<|.go 1<|.fk (.go 9<|.en<|.rt 4<|.go 1<|.en<|.rt 1<|.go 1<|.en<|.st 6<|.rg<|.go 1<|.il<|.rt 10<|.go 2<|.en<|.rt 1<|.go 5<|.en<|.rt 8 .no)<|.go 5<|.ld [(me a c1)]<|.go 1<|.fk (.go 1<|.en<|.rt 4<|.go 1<|.en<|.rt 1<|.go 1<|.en<|.st 6<|.rg<|.go 1<|.il<|.rt 10<|.go 2<|.en<|.rt 1<|.go 5<|.en<|.rt 8 .no)<|.go 1<|.en<|.st 3<|.rg<|.go 3<|.ld [(me a c1)]<|.go 1<|.ix<|.go 1<|.en<|.rt 1<|.go 1<|.en<|.rt 1<|.go 1<|.en<|.st 6<|.rg<|.go 1<|.fk (.go 9<|.en<|.rt 4<|.go 5<|.en<|.rt 8 .no)<|.go 4<|.ld [(i6<|(fS a.bq s).owner)]<|.go 1<|.fk (.go 2<|.en<|.rt 4<|.go 5<|.en<|.rt 8 .no)<|.go 2<|.en<|.rt 6<|.go 5<|.en<|.st 4<|.rg<|.go 3<|.s8 (aJ nZ<|a.bq.set s.toNat {(fS a.bq s) with owner:=(-1)})<|.en<|.rt 3 .no)
  (ax (s<0) (fun _=>(jq (a:=a) (nl:=a.bq.length) (nv:=a.cO.length) c1 c2 h rfl rfl (show(i6<|.ofNat 5)=sH a s dC from by(unfold sH;repeat' split)<;>first|rfl|omega|(exfalso;omega)) (show aX (qp a s dC)=aX a from by(unfold qp;repeat' split)<;>first|rfl|omega|(exfalso;omega)) 273))
  (fun _=>(ai (ky oJ (show((mZ a.bq.length a.cO.length c1 c2 a.bg a.kh))[0]? =some ((me a c1)) from rfl))
  (ax (s>=(a.bq.length:Int)) (fun _=>(jq (a:=a) (nl:=a.bq.length) (nv:=a.cO.length) c1 c2 h rfl rfl (show(i6<|.ofNat 5)=sH a s dC from by(unfold sH;repeat' split)<;>first|rfl|omega|(exfalso;omega)) (show aX (qp a s dC)=aX a from by(unfold qp;repeat' split)<;>first|rfl|omega|(exfalso;omega)) 273))
  (fun _=>(ai (ky oJ (show((mZ a.bq.length a.cO.length c1 c2 a.bg a.kh))[0]? =some ((me a c1)) from rfl))
  (eZ s (a.bq.length:Int)
  (ax (dC<0) (fun _=>(jq (a:=a) (nl:=a.bq.length) (nv:=a.cO.length) c1 c2 h rfl rfl (show(i6<|.ofNat 7)=sH a s dC from by(unfold sH;repeat' split)<;>first|rfl|omega|(exfalso;omega)) (show aX (qp a s dC)=aX a from by(unfold qp;repeat' split)<;>first|rfl|omega|(exfalso;omega)) 273))
  (fun _=>(ai (nr DU (Ep h) (EV (l:=a.bq) (z:=s) ah ah) 0 1 rfl)
  (ax ((fS a.bq s).owner≠dC) (fun _=>(jq (a:=a) (nl:=a.bq.length) (nv:=a.cO.length) c1 c2 h rfl rfl (show(i6<|.ofNat 7)=sH a s dC from by(unfold sH;repeat' split)<;>first|rfl|omega|(exfalso;omega)) (show aX (qp a s dC)=aX a from by(unfold qp;repeat' split)<;>first|rfl|omega|(exfalso;omega)) 273))
  (fun _=>(ai (Em DU (Ep h) (EV (l:=a.bq) (z:=s) ah ah) (c':={(fS a.bq s) with owner:=(-1)}) (r:=[(i6<|.negSucc 0)]) 0 rfl rfl rfl)
  (jq (a:=(uz a s {(fS a.bq s) with owner:=(-1)})) (nl:=a.bq.length) (nv:=a.cO.length) c1 c2 (PN h) Oj rfl (show i0=sH a s dC from by(unfold sH;repeat' split)<;>first|rfl|omega|(exfalso;omega)) (show aX (qp a s dC)=aX (uz a s {(fS a.bq s) with owner:=(-1)}) from by(unfold qp;repeat' split)<;>first|rfl|omega|(exfalso;omega)) 273))))))))))))))
def anG:cL->List AV->Option (AV×cL)
 |a,[.int .i64 x0]=>some (yf a x0,z6 a x0)
 |_,_=>none
def Mc:cL->List AV->Option (AV×cL)
 |a,[.int .i64 x0,.int .i64 x1]=>some (qo a x0 x1,oi a x0 x1)
 |_,_=>none
def XF:FuncId×KE:=(8,.tok 2<|eW aX Mc)
theorem adU(hP:bC pg)(h:aV L):aV<|XF::L:=Va hP h cN Tryz.func8 fun a rest y a' e=>by unfold Mc at e;split at e<;>cases e;exact⟨aL.1 aZ,fun B c1 c2 mc hb=>ail mc hb⟩
def Md:cL->List AV->Option (AV×cL)
 |a,[.int .i64 x0,.int .i64 x1]=>some (sH a x0 x1,qp a x0 x1)
 |_,_=>none
def XG:FuncId×KE:=(9,.tok 2<|eW aX Md)
theorem adV(hP:bC pg)(h:aV L):aV<|XG::L:=Va hP h cN Tryz.func9 fun a rest y a' e=>by unfold Md at e;split at e<;>cases e;exact⟨aL.1 aZ,fun B c1 c2 mc hb=>aim mc hb⟩
end
end zm
end
section
open Go Go.Rn Go.RowKit Go.Proofs
namespace dk
open cr cU
variable {x1 x0:Int} {L k:Nat}
def uf(m op n:Int)(L:Nat)(x0 x1:Int):Prop:=1<=m/\((op=1/\L=0)\/(op=2/\L=0/\0<=n/\n<8)\/(op=3/\L=0/\0<=n/\n<6)\/(4<=op/\op<=8/\n=0/\L=2/\x0=1/\x1=1))
instance {m op n:Int} {L:Nat} {x0 x1:Int}:Decidable<|uf m op n L x0 x1:=by unfold uf;exact inferInstance
theorem wq1{m op n:Int}(h:1<=m/\((op=1/\L=0)\/(op=2/\L=0/\0<=n/\n<8)\/(op=3/\L=0/\0<=n/\n<6)\/(4<=op/\op<=8/\n=0/\L=2/\x0=1/\x1=1))):AV.bool true= .bool (decide<|uf m op n L x0 x1):=by rw[decide_eq_true (show uf m op n L x0 x1 from h)]
theorem wq0{m op n:Int}(h:¬(1<=m/\((op=1/\L=0)\/(op=2/\L=0/\0<=n/\n<8)\/(op=3/\L=0/\0<=n/\n<6)\/(4<=op/\op<=8/\n=0/\L=2/\x0=1/\x1=1)))):AV.bool false= .bool (decide<|uf m op n L x0 x1):=by rw[decide_eq_false (show ¬uf m op n L x0 x1 from h)]
def ug(k:Nat)(args:List AV)(v:AV):Prop:=∃(e:Ex) (m:Int),args=[.agg<|aM e,.int .i64 m]/\(0<=m/\m<k)/\k<=50/\v= .bool (eQ m.toNat e)
theorem ug.bS(args:List AV)(v v':AV)(h:ug k args v)(h':ug k args v'):v=v':=by obtain⟨e,m,rfl,_,_,rfl⟩:=h;obtain⟨e',m',h1,_,_,rfl⟩:=h';simp only[List.cons.injEq,AV.agg.injEq,AV.int.injEq,true_and,_root_.and_true] at h1;rw[nU _ _ h1.1,h1.2]
noncomputable def kW(k:Nat):FuncId×KE:=(110,.val<|aY<|ug k)
theorem aff{B:aI}{N N0 L0 N1 L1:Nat}{op n m bW n0 cM n1:Int}(mc:Mt [kW k] B)(hn:top<=N)(hm:0<=m/\m<100)(wY:L=2->cx FU N (0+(0:Int).toNat*3+0) 3=some [(u8<|bW),(i6 n0),(.ab N0 0 L0)])(jt:L=2->1<=m->bp (aY<|ug k) [(.agg [(u8<|bW),(i6 n0),(.ab N0 0 L0)]),(i6<|(m - 1))]=some (.bool<|decide<|x0=1))(ja:L=2->cx FU N (0+(1:Int).toNat*3+0) 3=some [(u8<|cM),(i6 n1),(.ab N1 0 L1)])(jL:L=2->1<=m->bp (aY<|ug k) [(.agg [(u8<|cM),(i6 n1),(.ab N1 0 L1)]),(i6<|(m - 1))]=some (.bool<|decide<|x1=1)):av pg B 270 (Fin pg (aA Tryz.f110) fun y _=>y=(.bool<|decide<|uf m op n L x0 x1)) (sF 110 Tryz.f110 [(.agg [(u8<|op),(i6 n),(.ab N 0 L)]),(i6 m)])<|aj aq 270:=wS mc (.st 3<|.rg<|.go 3<|.fk (.go 1<|.en<|.st 3<|.rg<|.go 1<|.fk (.go 1<|.en<|.rt 4 .no)<|.go 1<|.en<|.st 2<|.rg<|.go 2<|.fk (.go 1<|.en<|.rt 4 .no)<|.go 1<|.en<|.st 2<|.rg<|.go 2<|.fk (.go 1<|.en<|.st 2<|.rg<|.go 4<|.fk (.go 4<|.fk (.go 2<|.en<|.rt 1 .no)<|.go 2<|.en<|.rt 1 .no)<|.go 7<|.en<|.rt 1 .no)<|.go 1<|.en<|.st 2<|.rg<|.go 2<|.fk (.go 1<|.en<|.st 2<|.rg<|.go 4<|.fk (.go 4<|.fk (.go 2<|.en<|.rt 1 .no)<|.go 2<|.en<|.rt 1 .no)<|.go 7<|.en<|.rt 1 .no)<|.go 1<|.en<|.st 2<|.rg<|.go 2<|.fk (.go 17<|.en<|.rt 4 .no)<|.go 3<|.fk (.go 13<|.en<|.rt 4 .no)<|.go 4<|.fk (.go 8<|.en<|.rt 4 .no)<|.go 5<|.fk (.go 2<|.en<|.rt 4 .no)<|.go 2<|.en<|.st 4<|.rg<|.go 2<|.eG<|.eH [(u8<|bW),(i6 n0),(.ab N0 0 L0)]<|.go 1<|.vl (i6<|m - 1)<|.kp (x0=1) inferInstance (.go 3<|.eG<|.eH [(u8<|cM),(i6 n1),(.ab N1 0 L1)]<|.go 1<|.vl (i6<|m - 1)<|.kp (x1=1) inferInstance (.go 2<|.en<|.rt 1 .no)<|.go 2<|.en<|.rt 1 .no)<|.go 10<|.en<|.rt 1 .no)<|.go 1<|.en<|.st 3<|.rg<|.go 1<|.fk (.go 1<|.en<|.rt 4 .no)<|.go 1<|.en<|.st 2<|.rg<|.go 2<|.fk (.go 1<|.en<|.rt 4 .no)<|.go 1<|.en<|.st 2<|.rg<|.go 2<|.fk (.go 1<|.en<|.rt 4 .no)<|.go 1<|.en<|.st 2<|.rg<|.go 2<|.fk (.go 1<|.en<|.rt 4 .no)<|.go 1<|.en<|.st 2<|.rg<|.go 2<|.fk (.go 17<|.en<|.rt 4 .no)<|.go 3<|.fk (.go 13<|.en<|.rt 4 .no)<|.go 4<|.fk (.go 8<|.en<|.rt 4 .no)<|.go 5<|.fk (.go 2<|.en<|.rt 4 .no)<|.go 2<|.en<|.st 4<|.rg<|.go 2<|.eG<|.eH [(u8<|bW),(i6 n0),(.ab N0 0 L0)]<|.go 1<|.vl (i6<|m - 1)<|.kp (x0=1) inferInstance (.go 3<|.eG<|.eH [(u8<|cM),(i6 n1),(.ab N1 0 L1)]<|.go 1<|.vl (i6<|m - 1)<|.kp (x1=1) inferInstance (.go 2<|.en<|.rt 1 .no)<|.go 2<|.en<|.rt 1 .no)<|.go 10<|.en<|.rt 1 .no)<|ax ((L:Int)=0) (fun _=>(ax (m<1) pC fun _=>(ax (op=1) L6 fun _=>(ax (op=2) (fun _=>(ax (n>=0) (fun _=>(ax (n<8) L6 pC)) pC)) fun _=>(ax (op=3) (fun _=>(ax (n>=0) (fun _=>(ax (n<6) L6 pC)) pC)) Yi))))) fun _=>(ax (m<1) pC fun _=>(ax (op=1) pC fun _=>(ax (op=2) pC fun _=>(ax (op=3) pC Yi))))
end dk
end
section
open Go Go.Rn Go.RowKit Go.Proofs
namespace dB
open cr cU dk
theorem zQ{l:List Ex}{i:Nat}{a:Ex}(h:l[i]? =some a){z:Int}(hz:z.toNat=i):cx FU (nm<|dz l) (0+z.toNat*3+0) 3=some (aM a):=by rw[DR,hz,Nat.zero_add,yc kV h 0 3 ah];rw[List.drop_zero,List.take_of_length_le (by rw[kV.len];omega)]
def bit(b:Bool):Int:=if b then 1 else 0
theorem xS(b:Bool):decide (bit b=1)=b:=by cases b<;>rfl
theorem adW{m op n:Int}{l:List Ex}(h0:0<=m):uf m op n l.length (bit<|eQ (m - 1).toNat<|l.getD 0 default) (bit<|eQ (m - 1).toNat<|l.getD 1 default)↔eQ m.toNat (.mk op n l)=true:=by
 by_cases hm:m=0
 ·subst hm;unfold uf;show _↔false=true;constructor
  ·intro h;omega
  ·intro h;cases h
 ·obtain⟨k,hk⟩:∃k,m.toNat=k+1:=⟨m.toNat - 1,by omega⟩;rw[hk,show(m - 1).toNat=k by omega,Nw];unfold uf;have b1:∀b:Bool,(bit b=1)↔b=true:=fun b=>by cases b<;>decide
  rw[b1,b1];have e1:l.isEmpty=true↔l.length=0:=by cases l<;>simp
  generalize eQ k (l.getD 0 default)=x;generalize eQ k (l.getD 1 default)=y;generalize l.isEmpty=q at e1;generalize l.length=L at e1;have x2:(x=true)\/(x=false):=by cases x<;>simp
  have y2:(y=true)\/(y=false):=by cases y<;>simp
  split
  ·rw[e1];omega
  split
  ·rw[Bool.and_eq_true,Bool.and_eq_true,e1,decide_eq_true_eq,decide_eq_true_eq];omega
  split
  ·rw[Bool.and_eq_true,Bool.and_eq_true,e1,decide_eq_true_eq,decide_eq_true_eq];omega
  split
  ·exact⟨fun h=>by omega,fun h=>by cases h⟩
  rw[Bool.and_eq_true,Bool.and_eq_true,decide_eq_true_eq];constructor
  ·intro h;rcases h.2 with h|h|h|h
   ·omega
   ·omega
   ·omega
   ·exact⟨⟨h.2.2.2.1,h.2.2.2.2.1⟩,h.2.2.2.2.2⟩
  ·intro h;exact⟨by omega,.inr<|.inr<|.inr ⟨by omega,by omega,by omega,h.1.1,h.1.2,h.2⟩⟩
theorem Co(e:Ex):AV.hi (.agg<|aM e)=true:=by show(aM e).all AV.cq=true;exact List.all_eq_true.2 fun x hx=>D3<|List.all_eq_true.1 (kV.gi e) x hx
theorem abN(hP:bC pg){k:Nat}(h':aV [kW k]){L:bV}(h:aV L):aV<|kW (k+1)::L:=by
 refine g9 hP h h' Tryz.func110 fun args v e=>?_;obtain⟨⟨op,n,l⟩,m,rfl,hm,hk,rfl⟩:=gf e;refine⟨aL.1 aZ,fun B mc=>?_⟩;rw[←gN];obtain⟨bW,n0,l0,e0⟩:∃a b c,l.getD 0 default=Ex.mk a b c:=by cases l.getD 0 default;exact⟨_,_,_,rfl⟩
 obtain⟨cM,n1,l1,e1⟩:∃a b c,l.getD 1 default=Ex.mk a b c:=by cases l.getD 1 default;exact⟨_,_,_,rfl⟩
 have c:∀x:Ex,1<=m->bp (aY<|ug k) [.agg<|aM x,.int .i64<|m - 1]=some (.bool<|decide<|bit (eQ (m - 1).toNat x)=1):=fun x h1=>by rw[xS];refine fu (ff ug.bS ⟨x,m - 1,rfl,by omega,by omega,rfl⟩) ?_ rfl;rw[List.all_cons,Co];rfl
 have key:=aff (L:=l.length) (N:=nm<|dz l) (op:=op) (n:=n) (m:=m) (k:=k) mc (cV _) ah
  (x0:=bit<|eQ (m - 1).toNat<|l.getD 0 default) (x1:=bit<|eQ (m - 1).toNat<|l.getD 1 default)
  (N0:=nm<|dz l0) (L0:=l0.length) (bW:=bW) (n0:=n0) (N1:=nm<|dz l1) (L1:=l1.length) (cM:=cM) (n1:=n1)
  (fun _=>by have:=zQ (l:=l) (i:=0) (a:=l.getD 0 default) (by rw[List.getD_eq_getElem?_getD,List.getElem?_eq_getElem (show 0<l.length by omega)];rfl) (z:=0) rfl;rw[e0,aM] at this;exact this)
  (fun h2 h1=>by have:=c (l.getD 0 default) h1;rw[e0,aM, ←e0] at this;exact this)
  (fun _=>by have:=zQ (l:=l) (i:=1) (a:=l.getD 1 default) (by rw[List.getD_eq_getElem?_getD,List.getElem?_eq_getElem (show 1<l.length by omega)];rfl) (z:=1) rfl;rw[e1,aM] at this;exact this)
  (fun h2 h1=>by have:=c (l.getD 1 default) h1;rw[e1,aM, ←e1] at this;exact this)
 rw[show decide (uf m op n l.length _ _)=eQ m.toNat (.mk op n l) from by rw[Bool.eq_iff_iff,decide_eq_true_eq];exact adW hm.1] at key;rw[aM];exact key
theorem Uo(hP:bC pg):∀k,aV [kW k]
 |0=>by refine g9 hP cN cN Tryz.func110 fun args v e=>?_;obtain⟨_,m,_,hm,_⟩:=gf e;omega
 |k+1=>abN hP (Uo hP k) cN
end dB
end
section
open Go Go.Rn Go.RowKit Go.Proofs
namespace gF
open cr cU dk dB
variable {x:Int} {B:aI} {N L:Nat}
def uJ(x m:Int):AV:=if m<1 then .tuple [.int .i64 0,.int .i64 1] else if Int.tmod x m<0 then .tuple [.int .i64<|Int.tmod x m+m,.int .i64 0] else .tuple [.int .i64<|Int.tmod x m,.int .i64 0]
theorem afg{m:Int}(h:1<=m): - m<Int.tmod x m/\Int.tmod x m<m:=by have h1:=Int.tmod_lt_of_pos x (show 0<m by omega);have h2:=Int.lt_tmod_of_pos x (show 0<m by omega);exact⟨h2,h1⟩
theorem afh{op n:Int}(mc:Mt [kW 7] B)(hc:bp (aY<|ug 7) [(.agg [(u8<|op),(i6 n),(.ab N 0 L)]),.int .i64 6]=some (.bool<|decide<|x=1)):av pg B 270 (Fin pg (aA Tryz.f102) fun y _=>y=(.bool<|decide<|x=1)) (sF 102 Tryz.f102 [(.agg [(u8<|op),(i6 n),(.ab N 0 L)])])<|aj aq 270:=wS mc (.st 3<|.rg<|.go 1<|.kp (x=1) inferInstance (.go 1<|.en<|.rt 1 .no)<|.go 1<|.en<|.rt 1 .no)<|ai hc<|ax (x=1) (fun _=>(show AV.bool true= .bool (decide<|x=1) from by rw[decide_eq_true ah])) fun _=>(show AV.bool false= .bool (decide<|x=1) from by rw[decide_eq_false ah])
theorem aj8{o:Nat}{z u:Int}(mc:Mt [] B)(hn:top<=N)(hz:0<=z)(hy:z<(L:Int)->cx FU N (o+z.toNat*1+0) 1=some [.int .i64 u]):av pg B 270 (Fin pg (aA Tryz.f111) fun y _=>y=(if z>=(L:Int) then .tuple [.int .i64 0,.int .i64 5] else .tuple [.int .i64 u,.int .i64 0])) (sF 111 Tryz.f111 [(.ab N o L),(i6 z)])<|aj aq 270:=wS mc (.st 4<|.rg<|.go 3<|.fk (.en<|.rt 4 .no)<|.en<|.st 3<|.rg<|.go 2<|.eG<|.eH [(i6 u)]<|.go 2<|.en<|.rt 1 .no)<|ax (z>=(L:Int)) (fun _=>(show AV.tuple [i0,(i6<|.ofNat 5)]=(if z>=(L:Int) then .tuple [.int .i64 0,.int .i64 5] else .tuple [.int .i64 u,.int .i64 0]) from by rw[if_pos ah];rfl)) fun _=>(eZ z (L:Int)<|ai hn<|ai (hy ah) (show AV.tuple [(i6 u),i0]=(if z>=(L:Int) then .tuple [.int .i64 0,.int .i64 5] else .tuple [.int .i64 u,.int .i64 0]) from by rw[if_neg ah];rfl))
theorem ain{m:Int}(mc:Mt [] B)(hm:m<=1099511627776)(ht:1<=m-> - m<Int.tmod x m):av pg B 270 (Fin pg (aA Tryz.f87) fun y _=>y=(uJ x m)) (sF 87 Tryz.f87 [(i6 x),(i6 m)])<|aj aq 270:=wS mc (.st 4<|.rg<|.go 1<|.fk (.en<|.rt 4 .no)<|.en<|.st 3<|.rg<|.go 2<|.rm<|.go 1<|.en<|.st 2<|.rg<|.go 1<|.fk (.en<|.st 1<|.rg<|.go 2<|.vl (i6<|(Int.tmod x m)+m)<|.go 1<|.en<|.rt 3 .no)<|.en<|.rt 5 .no)<|ax (m<1) (fun _=>(show AV.tuple [i0,(i6<|.ofNat 1)]=uJ x m from by unfold uJ;repeat' split<;>first|rfl|omega|(exfalso;omega))) fun _=>(ai (show m≠0 from by omega)<|ax ((Int.tmod x m)<0) (fun _=>(ai (wI<|(Int.tmod x m)+m) (show AV.tuple [(i6<|((Int.tmod x m)+m)),i0]=uJ x m from by unfold uJ;repeat' split<;>first|rfl|omega|(exfalso;omega)))) fun _=>(show AV.tuple [(i6<|(Int.tmod x m)),i0]=uJ x m from by unfold uJ;repeat' split<;>first|rfl|omega|(exfalso;omega)))
end gF
end
section
open Go Go.Rn Go.RowKit Go.Proofs
namespace fT
open cr cU dk dB gF
variable {L:bV}
noncomputable section
def wB(args:List AV)(v:AV):Prop:=∃e:Ex,args=[.agg<|aM e]/\v= .bool (eQ 6 e)
theorem wB.bS(args:List AV)(v v':AV)(h:wB args v)(h':wB args v'):v=v':=by obtain⟨e,rfl,rfl⟩:=h;obtain⟨e',h1,rfl⟩:=h';simp only[List.cons.injEq,AV.agg.injEq,_root_.and_true] at h1;rw[nU _ _ h1]
def Q6:FuncId×KE:=(102,.val<|aY wB)
theorem V5(hP:bC pg)(h:aV L):aV<|Q6::L:=by refine g9 hP h (Uo hP 7) Tryz.func102 fun args v e=>?_;obtain⟨⟨op,n,l⟩,rfl,rfl⟩:=gf e;refine⟨aL.1 aZ,fun B mc=>?_⟩;rw[←gN];have key:=afh (L:=l.length) (N:=nm<|dz l) (op:=op) (n:=n) (x:=bit<|eQ 6<|.mk op n l) mc (by rw[xS];have:=fu (ff ug.bS ⟨.mk op n l,6,rfl,by omega,by omega,rfl⟩:aY (ug 7) [.agg<|aM<|.mk op n l,.int .i64 6]=_) sB rfl;rw[aM] at this;exact this);rw[xS] at key;rw[aM];exact key
def tg(l:List Int)(z:Int):Int×Int:=if z>=(l.length:Int) then(0,5) else(pt l z,0)
def Ft(p:Int×Int):AV:=.tuple [.int .i64 p.1,.int .i64 p.2]
def AtR(args:List AV)(v:AV):Prop:=∃(N o L:Nat) (l:List Int) (z:Int),args=[.ab N o L,.int .i64 z]/\dj aH 1 (.ab N o L) l/\0<=z/\v=Ft (tg l z)
theorem AtR.bS(args:List AV)(v v':AV)(h:AtR args v)(h':AtR args v'):v=v':=by obtain⟨N,o,L,l,z,rfl,hl,_,rfl⟩:=h;obtain⟨N',o',L',l',z',h1,ni,_,rfl⟩:=h';simp only[List.cons.injEq,AV.ab.injEq,AV.int.injEq,true_and,_root_.and_true] at h1;obtain⟨⟨rfl,rfl,rfl⟩,rfl⟩:=h1;rw[dj.inj rW hl ni]
def Ba:FuncId×KE:=(111,.val<|aY AtR)
theorem ag4(hP:bC pg)(h:aV L):aV<|Ba::L:=by
 refine g9 hP h cN Tryz.func111 fun args v e=>?_;obtain⟨N,o,len,l,z,rfl,hl,hz,rfl⟩:=gf e;refine⟨aL.1 aZ,fun B mc=>?_⟩;rw[←gN];obtain⟨h1,h2,h3⟩:=hl.len;subst h1;have key:=aj8 (u:=pt l z) mc h2 hz (fun cF=>by have:=h3 z.toNat (pt l z)<|XC hz ah;exact this);unfold Ft tg;split at key<;>rename_i q
 ·rw[if_pos q];exact key
 ·rw[if_neg q];exact key
def CL(args:List AV)(v:AV):Prop:=∃(x m:Int),args=[.int .i64 x,.int .i64 m]/\m<=1099511627776/\v=uJ x m
theorem CL.bS(args:List AV)(v v':AV)(h:CL args v)(h':CL args v'):v=v':=by obtain⟨x,m,rfl,_,rfl⟩:=h;obtain⟨x',m',h1,_,rfl⟩:=h';simp only[List.cons.injEq,AV.int.injEq,true_and,_root_.and_true] at h1;rw[h1.1,h1.2]
def Me:FuncId×KE:=(87,.val<|aY CL)
theorem afi(hP:bC pg)(h:aV L):aV<|Me::L:=by refine g9 hP h cN Tryz.func87 fun args v e=>?_;obtain⟨x,m,rfl,hm,rfl⟩:=gf e;refine⟨aL.1 aZ,fun B mc=>?_⟩;rw[←gN];exact ain mc hm fun h=>(afg h).1
end
end fT
end
section
open Go Go.Rn Go.RowKit Go.Proofs
namespace ia
open cr cU dk dB gF fT
variable {k q p lm lg N1 N0 N L1 L0 L G:Nat} {x1 x0 bW n1 n0 f1 f0:Int} {B:aI}
def oy(op a b:Int):Int:=if op=4 then IntKind.wrap .i64 (a+b) else if op=5 then IntKind.wrap .i64 (a - b) else if op=6 then IntKind.wrap .i64 (a*b) else if op=7 then(if a<b then 1 else 0) else if a=b then 1 else 0
def lL(op n x0 f0 x1 f1:Int):Int×Int:=if op=1 then(n,0) else if op=2 then(x0,f0) else if op=3 then(x0,f0) else if f0≠0 then(0,f0) else if f1≠0 then(0,f1) else(oy op x0 x1,0)
def gO(op n x0 f0 x1 f1:Int):AV:=Ft<|lL op n x0 f0 x1 f1
def lM:Nat->Ex->List Int->List Int->Int×Int
 |0,_,_,_=>(0,0)
 |k+1,.mk op n args,lo,aG=>
  if op=2 then lL op n (tg lo n).1 (tg lo n).2 0 0 else if op=3 then lL op n (tg aG n).1 (tg aG n).2 0 0
  else lL op n (lM k (args.getD 0 default) lo aG).1 (lM k (args.getD 0 default) lo aG).2 (lM k (args.getD 1 default) lo aG).1 (lM k (args.getD 1 default) lo aG).2
theorem abO{op n:Int}{args:List Ex}{lo aG:List Int}:lM (k+1) (.mk op n args) lo aG=if op=2 then lL op n (tg lo n).1 (tg lo n).2 0 0 else if op=3 then lL op n (tg aG n).1 (tg aG n).2 0 0 else lL op n (lM k (args.getD 0 default) lo aG).1 (lM k (args.getD 0 default) lo aG).2 (lM k (args.getD 1 default) lo aG).1 (lM k (args.getD 1 default) lo aG).2:=rfl
def qU(k:Nat)(args:List AV)(v:AV):Prop:=∃(e:Ex) (M p lm G q lg:Nat) (lo aG:List Int),args=[.agg<|aM e,.ab M p lm,.ab G q lg]/\dj aH 1 (.ab M p lm) lo/\dj aH 1 (.ab G q lg) aG/\eQ k e=true/\v=Ft (lM k e lo aG)
theorem qU.bS(args:List AV)(v v':AV)(h:qU k args v)(h':qU k args v'):v=v':=by obtain⟨e,M,p,lm,G,q,lg,lo,aG,rfl,a1,a2,_,rfl⟩:=h;obtain⟨e',M',p',lm',G',q',lg',mQ,Yy,h1,b1,b2,_,rfl⟩:=h';simp only[List.cons.injEq,AV.agg.injEq,AV.ab.injEq,_root_.and_true] at h1;obtain⟨h0,⟨rfl,rfl,rfl⟩,rfl,rfl,rfl⟩:=h1;rw[nU _ _ h0,dj.inj rW a1 b1,dj.inj rW a2 b2]
noncomputable def kC(k:Nat):FuncId×KE:=(103,.val<|aY<|qU k)
theorem afj{M N0 L0 N1 L1:Nat}{n bW n0 cM n1:Int}(mc:Mt [kC k,Ba] B):av pg B 270 (Fin pg (aA Tryz.f103) fun y _=>y=(gO 1 n x0 f0 x1 f1)) (sF 103 Tryz.f103 [(.agg [(u8<|.ofNat 1),(i6 n),(.ab N 0 L)]),(.ab M p lm),(.ab G q lg)])<|aj aq 270:=wS mc (.rt 12 .no) (show AV.tuple [(i6 n),i0]=gO 1 n x0 f0 x1 f1 from by(unfold gO lL oy;repeat' split)<;>first|rfl|(exfalso;omega))
theorem afk{M N0 L0 N1 L1:Nat}{n bW n0 cM n1:Int}(mc:Mt [kC k,Ba] B)(hc:bp (aY AtR) [(.ab M p lm),.int .i64 n]=some (.tuple [.int .i64 x0,.int .i64 f0])):av pg B 270 (Fin pg (aA Tryz.f103) fun y _=>y=(gO 2 n x0 f0 x1 f1)) (sF 103 Tryz.f103 [(.agg [(u8<|.ofNat 2),(i6 n),(.ab N 0 L)]),(.ab M p lm),(.ab G q lg)])<|aj aq 270:=wS mc (.st 13<|.rg<|.go 3<|.kn (.tuple [(i6 x0),(i6 f0)])<|.go 4<|.en<|.rt 1 .no)<|ai hc (show AV.tuple [(i6 x0),(i6 f0)]=gO 2 n x0 f0 x1 f1 from by(unfold gO lL oy;repeat' split)<;>first|rfl|(exfalso;omega))
theorem afl{M N0 L0 N1 L1:Nat}{n bW n0 cM n1:Int}(mc:Mt [kC k,Ba] B)(hc:bp (aY AtR) [(.ab G q lg),.int .i64 n]=some (.tuple [.int .i64 x0,.int .i64 f0])):av pg B 270 (Fin pg (aA Tryz.f103) fun y _=>y=(gO 3 n x0 f0 x1 f1)) (sF 103 Tryz.f103 [(.agg [(u8<|.ofNat 3),(i6 n),(.ab N 0 L)]),(.ab M p lm),(.ab G q lg)])<|aj aq 270:=wS mc (.st 16<|.rg<|.go 3<|.kn (.tuple [(i6 x0),(i6 f0)])<|.go 4<|.en<|.rt 1 .no)<|ai hc (show AV.tuple [(i6 x0),(i6 f0)]=gO 3 n x0 f0 x1 f1 from by(unfold gO lL oy;repeat' split)<;>first|rfl|(exfalso;omega))
theorem Po{ka:Int}(hk:ka=4\/ka=5\/ka=6){L M:Nat}{n cM:Int}(mc:Mt [kC k,Ba] B)(hn:top<=N)(wY:cx FU N (0+(0:Int).toNat*3+0) 3=some [(u8<|bW),(i6 n0),(.ab N0 0 L0)])(jt:bp (aY<|qU k) [(.agg [(u8<|bW),(i6 n0),(.ab N0 0 L0)]),(.ab M p lm),(.ab G q lg)]=some (.tuple [.int .i64 x0,.int .i64 f0]))(ja:cx FU N (0+(1:Int).toNat*3+0) 3=some [(u8<|cM),(i6 n1),(.ab N1 0 L1)])(jL:bp (aY<|qU k) [(.agg [(u8<|cM),(i6 n1),(.ab N1 0 L1)]),(.ab M p lm),(.ab G q lg)]=some (.tuple [.int .i64 x1,.int .i64 f1])):av pg B 270 (Fin pg (aA Tryz.f103) fun y _=>y=(gO ka n x0 f0 x1 f1)) (sF 103 Tryz.f103 [(.agg [(.int .u8 ka),(i6 n),(.ab N 0 2)]),(.ab M p lm),(.ab G q lg)])<|aj aq 270:=by
 have TT:=(eZ (0:Int) 2<|ai hn<|ai wY<|ai jt<|ax (f0≠0) (fun _=>(show AV.tuple [i0,(i6 f0)]=gO ka n x0 f0 x1 f1 from by rcases hk with rfl|rfl|rfl<;>(unfold gO lL oy;repeat' split)<;>first|rfl|(exfalso;omega))) fun _=>(eZ (1:Int) 2<|ai hn<|ai ja<|ai jL<|ax (f1≠0) (fun _=>(show AV.tuple [i0,(i6 f1)]=gO ka n x0 f0 x1 f1 from by rcases hk with rfl|rfl|rfl<;>(unfold gO lL oy;repeat' split)<;>first|rfl|(exfalso;omega))) fun _=>(show AV.tuple [(i6<|oy ka x0 x1),i0]=gO ka n x0 f0 x1 f1 from by rcases hk with rfl|rfl|rfl<;>(unfold gO lL oy;repeat' split)<;>first|rfl|(exfalso;omega))));rcases hk with rfl|rfl|rfl
 all_goals exact wS mc (.st 32<|.rg<|.go 1<|.eG<|.eH [(u8<|bW),(i6 n0),(.ab N0 0 L0)]<|.go 3<|.en<|.st 1<|.rg<|.go 3<|.kn (.tuple [(i6 x0),(i6 f0)])<|.go 5<|.en<|.st 2<|.rg<|.go 1<|.fk (.en<|.rt 4 .no)<|.en<|.st 14<|.rg<|.go 1<|.eG<|.eH [(u8<|cM),(i6 n1),(.ab N1 0 L1)]<|.go 3<|.en<|.st 1<|.rg<|.go 3<|.kn (.tuple [(i6 x1),(i6 f1)])<|.go 5<|.en<|.st 2<|.rg<|.go 1<|.fk (.en<|.rt 4 .no)<|.en<|.st 12<|.rg<|.go 8<|.il<|.st 3<|.rg<|.go 2<|.go 1<|.go 1<|.en<|.rt 1<|.go 2<|.en<|.rt 1 .no) TT
theorem afm{L M:Nat}{n cM:Int}(mc:Mt [kC k,Ba] B)(hn:top<=N)(wY:cx FU N (0+(0:Int).toNat*3+0) 3=some [(u8<|bW),(i6 n0),(.ab N0 0 L0)])(jt:bp (aY<|qU k) [(.agg [(u8<|bW),(i6 n0),(.ab N0 0 L0)]),(.ab M p lm),(.ab G q lg)]=some (.tuple [.int .i64 x0,.int .i64 f0]))(ja:cx FU N (0+(1:Int).toNat*3+0) 3=some [(u8<|cM),(i6 n1),(.ab N1 0 L1)])(jL:bp (aY<|qU k) [(.agg [(u8<|cM),(i6 n1),(.ab N1 0 L1)]),(.ab M p lm),(.ab G q lg)]=some (.tuple [.int .i64 x1,.int .i64 f1])):av pg B 270 (Fin pg (aA Tryz.f103) fun y _=>y=(gO 7 n x0 f0 x1 f1)) (sF 103 Tryz.f103 [(.agg [(u8<|.ofNat 7),(i6 n),(.ab N 0 2)]),(.ab M p lm),(.ab G q lg)])<|aj aq 270:=wS mc (.st 32<|.rg<|.go 1<|.eG<|.eH [(u8<|bW),(i6 n0),(.ab N0 0 L0)]<|.go 3<|.en<|.st 1<|.rg<|.go 3<|.kn (.tuple [(i6 x0),(i6 f0)])<|.go 5<|.en<|.st 2<|.rg<|.go 1<|.fk (.en<|.rt 4 .no)<|.en<|.st 14<|.rg<|.go 1<|.eG<|.eH [(u8<|cM),(i6 n1),(.ab N1 0 L1)]<|.go 3<|.en<|.st 1<|.rg<|.go 3<|.kn (.tuple [(i6 x1),(i6 f1)])<|.go 5<|.en<|.st 2<|.rg<|.go 1<|.fk (.en<|.rt 4 .no)<|.en<|.st 12<|.rg<|.go 8<|.il<|.st 3<|.rg<|.go 2<|.fk (.il<|.rt 9<|.go 1<|.en<|.rt 1<|.go 2<|.en<|.rt 1 .no)<|.il<|.rt 10<|.go 1<|.en<|.rt 1<|.go 2<|.en<|.rt 1 .no)<|eZ (0:Int) 2<|ai hn<|ai wY<|ai jt<|ax (f0≠0) (fun _=>(show AV.tuple [i0,(i6 f0)]=gO 7 n x0 f0 x1 f1 from by(unfold gO lL oy;repeat' split)<;>first|rfl|(exfalso;omega))) fun _=>(eZ (1:Int) 2<|ai hn<|ai ja<|ai jL<|ax (f1≠0) (fun _=>(show AV.tuple [i0,(i6 f1)]=gO 7 n x0 f0 x1 f1 from by(unfold gO lL oy;repeat' split)<;>first|rfl|(exfalso;omega))) fun _=>(ax (x0<x1) (fun _=>(show AV.tuple [(i6<|.ofNat 1),i0]=gO 7 n x0 f0 x1 f1 from by(unfold gO lL oy;repeat' split)<;>first|rfl|(exfalso;omega))) fun _=>(show AV.tuple [i0,i0]=gO 7 n x0 f0 x1 f1 from by(unfold gO lL oy;repeat' split)<;>first|rfl|(exfalso;omega))))
theorem afn{L M:Nat}{n cM:Int}(mc:Mt [kC k,Ba] B)(hn:top<=N)(wY:cx FU N (0+(0:Int).toNat*3+0) 3=some [(u8<|bW),(i6 n0),(.ab N0 0 L0)])(jt:bp (aY<|qU k) [(.agg [(u8<|bW),(i6 n0),(.ab N0 0 L0)]),(.ab M p lm),(.ab G q lg)]=some (.tuple [.int .i64 x0,.int .i64 f0]))(ja:cx FU N (0+(1:Int).toNat*3+0) 3=some [(u8<|cM),(i6 n1),(.ab N1 0 L1)])(jL:bp (aY<|qU k) [(.agg [(u8<|cM),(i6 n1),(.ab N1 0 L1)]),(.ab M p lm),(.ab G q lg)]=some (.tuple [.int .i64 x1,.int .i64 f1])):av pg B 270 (Fin pg (aA Tryz.f103) fun y _=>y=(gO 8 n x0 f0 x1 f1)) (sF 103 Tryz.f103 [(.agg [(u8<|.ofNat 8),(i6 n),(.ab N 0 2)]),(.ab M p lm),(.ab G q lg)])<|aj aq 270:=wS mc (.st 32<|.rg<|.go 1<|.eG<|.eH [(u8<|bW),(i6 n0),(.ab N0 0 L0)]<|.go 3<|.en<|.st 1<|.rg<|.go 3<|.kn (.tuple [(i6 x0),(i6 f0)])<|.go 5<|.en<|.st 2<|.rg<|.go 1<|.fk (.en<|.rt 4 .no)<|.en<|.st 14<|.rg<|.go 1<|.eG<|.eH [(u8<|cM),(i6 n1),(.ab N1 0 L1)]<|.go 3<|.en<|.st 1<|.rg<|.go 3<|.kn (.tuple [(i6 x1),(i6 f1)])<|.go 5<|.en<|.st 2<|.rg<|.go 1<|.fk (.en<|.rt 4 .no)<|.en<|.st 12<|.rg<|.go 8<|.il<|.st 3<|.rg<|.go 2<|.fk (.il<|.rt 9<|.go 1<|.en<|.rt 1<|.go 2<|.en<|.rt 1 .no)<|.il<|.rt 10<|.go 1<|.en<|.rt 1<|.go 2<|.en<|.rt 1 .no)<|eZ (0:Int) 2<|ai hn<|ai wY<|ai jt<|ax (f0≠0) (fun _=>(show AV.tuple [i0,(i6 f0)]=gO 8 n x0 f0 x1 f1 from by(unfold gO lL oy;repeat' split)<;>first|rfl|(exfalso;omega))) fun _=>(eZ (1:Int) 2<|ai hn<|ai ja<|ai jL<|ax (f1≠0) (fun _=>(show AV.tuple [i0,(i6 f1)]=gO 8 n x0 f0 x1 f1 from by(unfold gO lL oy;repeat' split)<;>first|rfl|(exfalso;omega))) fun _=>(ax (x0=x1) (fun _=>(show AV.tuple [(i6<|.ofNat 1),i0]=gO 8 n x0 f0 x1 f1 from by(unfold gO lL oy;repeat' split)<;>first|rfl|(exfalso;omega))) fun _=>(show AV.tuple [i0,i0]=gO 8 n x0 f0 x1 f1 from by(unfold gO lL oy;repeat' split)<;>first|rfl|(exfalso;omega))))
end ia
end
section
open Go Go.Rn Go.RowKit Go.Proofs
namespace ig
open cr cU dk dB gF fT ia
variable {k:Nat}
theorem aba{op n:Int}{l:List Ex}(h:eQ (k+1) (.mk op n l)=true):(op=1\/(op=2/\0<=n)\/(op=3/\0<=n))\/((op=4\/op=5\/op=6\/op=7\/op=8)/\l.length=2/\eQ k (l.getD 0 default)=true/\eQ k (l.getD 1 default)=true):=by
 rw[Nw] at h;split at h
 ·omega
 split at h
 ·rw[Bool.and_eq_true,Bool.and_eq_true,decide_eq_true_eq] at h;omega
 split at h
 ·rw[Bool.and_eq_true,Bool.and_eq_true,decide_eq_true_eq] at h;omega
 split at h
 ·cases h
 rw[Bool.and_eq_true,Bool.and_eq_true,decide_eq_true_eq] at h;exact .inr ⟨by omega,h.1.1,h.1.2,h.2⟩
theorem XH{N o L:Nat}{l:List Int}{z:Int}(h:dj aH 1 (.ab N o L) l)(hz:0<=z):bp (aY AtR) [.ab N o L,.int .i64 z]=some (.tuple [.int .i64 (tg l z).1,.int .i64 (tg l z).2]):=fu (ff AtR.bS ⟨N,o,L,l,z,rfl,h,hz,rfl⟩) (by rw[List.all_cons,h.hi];rfl) rfl
theorem Pp{e:Ex}{M p lm G q lg:Nat}{lo aG:List Int}(h1:dj aH 1 (.ab M p lm) lo)(h2:dj aH 1 (.ab G q lg) aG)(hw:eQ k e=true):
 bp (aY<|qU k) [.agg<|aM e,.ab M p lm,.ab G q lg]=some (.tuple [.int .i64 (lM k e lo aG).1,.int .i64 (lM k e lo aG).2]):=
 fu (ff qU.bS ⟨e,M,p,lm,G,q,lg,lo,aG,rfl,h1,h2,hw,rfl⟩) (by rw[List.all_cons,List.all_cons,List.all_cons,Co,h1.hi,h2.hi];rfl) rfl
theorem acK(hP:bC pg)(h':aV [kC k,Ba]){L:bV}(h:aV L):aV<|kC (k+1)::L:=by
 refine g9 hP h h' Tryz.func103 fun args v e=>?_;obtain⟨⟨op,n,l⟩,M,p,lm,G,q,lg,lo,aG,rfl,i1,i2,hw,rfl⟩:=gf e;refine⟨aL.1 aZ,fun B mc=>?_⟩;rw[←gN,abO,aM];rcases aba hw with(rfl|⟨rfl,hn⟩|⟨rfl,hn⟩)|⟨ho,h2,w0,w1⟩
 ·exact afj (N0:=0) (L0:=0) (N1:=0) (L1:=0) (bW:=0) (n0:=0) (cM:=0) (n1:=0) (x0:=(lM k (l.getD 0 default) lo aG).1) (f0:=(lM k (l.getD 0 default) lo aG).2) (x1:=(lM k (l.getD 1 default) lo aG).1) (f1:=(lM k (l.getD 1 default) lo aG).2) mc
 ·exact afk (N0:=0) (L0:=0) (N1:=0) (L1:=0) (bW:=0) (n0:=0) (cM:=0) (n1:=0) (x1:=0) (f1:=0) mc<|XH i1 hn
 ·exact afl (N0:=0) (L0:=0) (N1:=0) (L1:=0) (bW:=0) (n0:=0) (cM:=0) (n1:=0) (x1:=0) (f1:=0) mc<|XH i2 hn
 obtain⟨bW,n0,l0,e0⟩:∃a b c,l.getD 0 default=Ex.mk a b c:=by cases l.getD 0 default;exact⟨_,_,_,rfl⟩
 obtain⟨cM,n1,l1,e1⟩:∃a b c,l.getD 1 default=Ex.mk a b c:=by cases l.getD 1 default;exact⟨_,_,_,rfl⟩
 have t0:=zQ (l:=l) (i:=0) (a:=l.getD 0 default) (by rw[List.getD_eq_getElem?_getD,List.getElem?_eq_getElem (show 0<l.length by omega)];rfl) (z:=0) rfl;have t1:=zQ (l:=l) (i:=1) (a:=l.getD 1 default) (by rw[List.getD_eq_getElem?_getD,List.getElem?_eq_getElem (show 1<l.length by omega)];rfl) (z:=1) rfl;have c0:=Pp i1 i2 w0;have c1:=Pp i1 i2 w1;rw[if_neg ah,if_neg ah,h2];generalize wY:lM k (l.getD 0 default) lo aG=y0 at c0;generalize ja:lM k (l.getD 1 default) lo aG=y1 at c1;rw[e0,aM] at t0 c0;rw[e1,aM] at t1 c1;rcases ho with rfl|rfl|rfl|rfl|rfl
 ·exact Po (.inl rfl) (L:=0) mc (cV _) t0 c0 t1 c1
 ·exact Po (.inr<|.inl rfl) (L:=0) mc (cV _) t0 c0 t1 c1
 ·exact Po (.inr<|.inr rfl) (L:=0) mc (cV _) t0 c0 t1 c1
 ·exact afm (L:=0) mc (cV _) t0 c0 t1 c1
 ·exact afn (L:=0) mc (cV _) t0 c0 t1 c1
theorem Vb(hP:bC pg):∀(k:Nat) {L:bV},aV L->aV (kC k::L)
 |0,L,h=>by refine g9 hP h cN Tryz.func103 fun args v e=>?_;obtain⟨_,_,_,_,_,_,_,_,_,_,_,_,hw,_⟩:=gf e;cases hw
 |k+1,L,h=>acK hP (Vb hP k<|ag4 hP cN) h
end ig
end
section
open Go Go.Rn Go.RowKit Go.Proofs
namespace iv
open cr cU dk dB gF fT ia ig
theorem PO{e:Ex}:bp (aY wB) [.agg<|aM e]=some (.bool<|eQ 6 e):=fu (ff wB.bS ⟨e,rfl,rfl⟩) sB rfl
def Ak(e:Ex)(lo aG:List Int):Int×Int:=if eQ 6 e=true then lM 6 e lo aG else(0,4)
def Al(args:List AV)(v:AV):Prop:=∃(e:Ex) (M p lm G q lg:Nat) (lo aG:List Int),args=[.agg<|aM e,.ab M p lm,.ab G q lg]/\dj aH 1 (.ab M p lm) lo/\dj aH 1 (.ab G q lg) aG/\v=Ft (Ak e lo aG)
theorem Al.bS(args:List AV)(v v':AV)(h:Al args v)(h':Al args v'):v=v':=by obtain⟨e,M,p,lm,G,q,lg,lo,aG,rfl,a1,a2,rfl⟩:=h;obtain⟨e',M',p',lm',G',q',lg',mQ,Yy,h1,b1,b2,rfl⟩:=h';simp only[List.cons.injEq,AV.agg.injEq,AV.ab.injEq,_root_.and_true] at h1;obtain⟨h0,⟨rfl,rfl,rfl⟩,rfl,rfl,rfl⟩:=h1;rw[nU _ _ h0,dj.inj rW a1 b1,dj.inj rW a2 b2]
theorem ag5{B:aI}{N L M p lm G q lg:Nat}{op n x u f:Int}(mc:Mt [Q6,kC 6] B)(hc:bp (aY wB) [(.agg [(u8<|op),(i6 n),(.ab N 0 L)])]=some (.bool<|decide<|x=1))(hd:x=1->bp (aY<|qU 6) [(.agg [(u8<|op),(i6 n),(.ab N 0 L)]),(.ab M p lm),(.ab G q lg)]=some (.tuple [.int .i64 u,.int .i64 f])):av pg B 270 (Fin pg (aA Tryz.f85) fun y _=>y=(if x=1 then .tuple [.int .i64 u,.int .i64 f] else .tuple [.int .i64 0,.int .i64 4])) (sF 85 Tryz.f85 [(.agg [(u8<|op),(i6 n),(.ab N 0 L)]),(.ab M p lm),(.ab G q lg)])<|aj aq 270:=wS mc (.st 4<|.rg<|.go 1<|.kp (x=1) inferInstance (.go 1<|.en<|.st 3<|.rg<|.go 3<|.kn (.tuple [(i6 u),(i6 f)])<|.go 4<|.en<|.rt 1 .no)<|.go 1<|.en<|.rt 4 .no)<|ai hc<|ax (x=1) (fun _=>(ai (hd ah) (show AV.tuple [(i6 u),(i6 f)]=(if x=1 then .tuple [.int .i64 u,.int .i64 f] else .tuple [.int .i64 0,.int .i64 4]) from by split<;>first|rfl|(exfalso;omega)))) fun _=>(show AV.tuple [i0,(i6<|.ofNat 4)]=(if x=1 then .tuple [.int .i64 u,.int .i64 f] else .tuple [.int .i64 0,.int .i64 4]) from by split<;>first|rfl|(exfalso;omega))
end iv
end
section
open Go Go.Rn Go.RowKit Go.Proofs
namespace F8
open cr cU dk dB dM
variable {B:aI} {kind:Int} {L:bV}
noncomputable section
def MF:List<|List Bool:=[[false,false,false,false,false,false],[true,true,true,false,false,false],[true,true,true,false,false,false],[true,false,true,true,false,false],[true,false,true,false,true,true],[true,false,true,false,true,false],[true,false,false,false,false,false],[true,false,false,false,true,true],[true,false,true,false,false,false]]
def qD(kind:Int):List Bool:=MF.getD kind.toNat [false,false,false,false,false,false]
def w9(kind:Int):AV:=.agg<|(qD kind).map AV.bool
theorem afo(h:9<=kind):w9 kind= .agg [.bool false,.bool false,.bool false,.bool false,.bool false,.bool false]:=by unfold w9 qD;rw[List.getD_eq_getElem?_getD,List.getElem?_eq_none (show MF.length<=kind.toNat by show 9<=kind.toNat;omega)];rfl
theorem aj9{k:Int}(mc:Mt [] B)(h:0<=k/\k<9):av pg B 270 (Fin pg (aA Tryz.f92) fun y _=>y=(w9 k)) (sF 92 Tryz.f92 [.int .u8 k])<|aj aq 270:=by
 have TT:(AV.int .i64 (IntKind.wrap .i64 k)= .int .i64 k)/\w9 k=w9 k:=⟨wI k,rfl⟩;let P:Pl:=.st 6<|.rg<|.go 1<|.vl (.int .i64 k)<|.go 1<|.en<|.rt 5 .no;obtain rfl|rfl|rfl|rfl|rfl|rfl|rfl|rfl|rfl:k=0\/k=1\/k=2\/k=3\/k=4\/k=5\/k=6\/k=7\/k=8:=by omega
 all_goals exact wS mc P TT uF
theorem aka(mc:Mt [] B)(h0:9<=kind)(h9:kind<256):av pg B 270 (Fin pg (aA Tryz.f92) fun y _=>y=(w9 kind)) (sF 92 Tryz.f92 [(u8<|kind)])<|aj aq 270:=wS mc (.st 6<|.rg<|.go 1<|.vl (.int .i64 kind)<|.fk (.en<|.rt 4 .no)<|.no)<|ai (wI kind)<|ax (kind>=9) (fun _=>(show(.agg [(.bool false),(.bool false),(.bool false),(.bool false),(.bool false),(.bool false)])=w9 kind from(afo h0).symm)) eN
theorem ag6{N L:Nat}{op n:Int}(mc:Mt [] B):av pg B 270 (Fin pg (aA Tryz.f95) fun y _=>y=(.bool<|decide<|op=0/\n=0/\L=0)) (sF 95 Tryz.f95 [(.agg [(u8<|op),(i6 n),(.ab N 0 L)])])<|aj aq 270:=wS mc (.st 3<|.rg<|.go 2<|.fk (.go 3<|.fk (.go 5<|.fk (.go 2<|.en<|.rt 1 .no)<|.go 2<|.en<|.rt 1 .no)<|.go 8<|.en<|.rt 1 .no)<|.go 12<|.en<|.rt 1 .no)<|ax (op=0) (fun _=>(ax (n=0) (fun _=>(ax ((L:Int)=0) (fun _=>(show AV.bool true= .bool (decide<|op=0/\n=0/\L=0) from by rw[decide_eq_true ah])) fun _=>(show AV.bool false= .bool (decide<|op=0/\n=0/\L=0) from by rw[decide_eq_false ah]))) fun _=>(show AV.bool false= .bool (decide<|op=0/\n=0/\L=0) from by rw[decide_eq_false ah]))) fun _=>(show AV.bool false= .bool (decide<|op=0/\n=0/\L=0) from by rw[decide_eq_false ah])
def kv(args:List AV)(v:AV):Prop:=∃kind:Int,args=[.int .u8 kind]/\0<=kind/\kind<256/\v=w9 kind
theorem kv.bS(args:List AV)(v v':AV)(h:kv args v)(h':kv args v'):v=v':=by obtain⟨x,rfl,_,_,rfl⟩:=h;obtain⟨x',h1,_,_,rfl⟩:=h';simp only[List.cons.injEq,AV.int.injEq,true_and,_root_.and_true] at h1;rw[h1]
def xc:FuncId×KE:=(92,.val<|aY kv)
theorem ag7(hP:bC pg)(h:aV L):aV<|xc::L:=by
 refine g9 hP h cN Tryz.func92 fun args v e=>?_;obtain⟨kind,rfl,h0,h1,rfl⟩:=gf e;refine⟨aL.1 aZ,fun B mc=>?_⟩;rw[←gN];by_cases h9:9<=kind
 ·exact aka mc h9 h1
 exact aj9 mc ⟨h0,by omega⟩
def EW(e:Ex):Prop:=e.op=0/\e.n=0/\e.args.length=0
instance {e:Ex}:Decidable<|EW e:=by unfold EW;exact inferInstance
def nA(args:List AV)(v:AV):Prop:=∃e:Ex,args=[.agg<|aM e]/\v= .bool (decide<|EW e)
theorem nA.bS(args:List AV)(v v':AV)(h:nA args v)(h':nA args v'):v=v':=by obtain⟨e,rfl,rfl⟩:=h;obtain⟨e',h1,rfl⟩:=h';simp only[List.cons.injEq,AV.agg.injEq,_root_.and_true] at h1;rw[nU _ _ h1]
def wj:FuncId×KE:=(95,.val<|aY nA)
theorem adX(hP:bC pg)(h:aV L):aV<|wj::L:=by refine g9 hP h cN Tryz.func95 fun args v e=>?_;obtain⟨⟨op,n,l⟩,rfl,rfl⟩:=gf e;refine⟨aL.1 aZ,fun B mc=>?_⟩;rw[←gN,aM];exact ag6 mc
end
end F8
end
section
open Go Go.Rn Go.RowKit Go.Proofs
namespace fc
open cr cU dk dB dM
variable {k N L N0 L0:Nat} {B:aI} {bW n0 i c:Int}
noncomputable section
theorem PQ{nx:Nat}{l:List<|Nat×AV}(h:∀r:Nat->Nat,(∀k,top<=k->r k=k)->∀p∈l,bA r p.2 p.2)(hn:Nat.ble 270 nx=true):yI nx l aq:=by intro r r1 r2;exact⟨h r r2,fun p hp x hx=>GR (nx:=270) (fun k hk=>r1 k<|Nat.lt_of_lt_of_le hk<|aL.1 hn) cC p hp x hx⟩
def uA:Nat->Ex->Bool
 |0,_=>false
 |k+1,.mk _ _ args=>args.all<|uA k
def vS(k:Nat)(args:List AV)(v:AV):Prop:=∃e:Ex,args=[.agg<|aM e]/\uA k e=true/\lI k e<=1000000/\v= .int .i64 (lI k e)
theorem vS.bS(args:List AV)(v v':AV)(h:vS k args v)(h':vS k args v'):v=v':=by obtain⟨e,rfl,_,_,rfl⟩:=h;obtain⟨e',h1,_,_,rfl⟩:=h';simp only[List.cons.injEq,AV.agg.injEq,_root_.and_true] at h1;rw[nU _ _ h1]
def B8(k:Nat):FuncId×KE:=(106,.val<|aY<|vS k)
def B9(N:Nat)(L:Nat)(m:Int)(i:Int):List<|Nat×AV:=[(3,(i6 m)),(7,(.ab N 0 L)),(8,(i6<|(L:Int))),(9,(i6 i))]
def yg(N:Nat)(L:Nat)(m:Int)(i:Int):AF:=⟨106,aP<|B9 N L m i,(max Tryz.f106.ntmps 1),[.code<|aW pg 106 [1,1,0,1,0,0],.inLoop<|aW pg 106 [1,1,0,1,0,0],.inBlock 0,.code<|aW pg 106 [1,1,1]],[],none⟩
theorem WY(N:Nat)(L:Nat)(m:Int)(i:Int)(hn:top<=N):((B9 N L m i).map (fun q=>some q.2)=(B9 N L m i).map (fun q=>some q.2))/\(aq.map (fun q=>q.2)=aq.map (fun q=>q.2))/\yI 270 (B9 N L m i) aq/\(yg N L m i=yg N L m i/\aj aq 270=aj aq 270):=⟨rfl,rfl,PQ (fun r r2 p hp=>by simp only[B9,List.mem_cons,List.not_mem_nil,or_false] at hp;rcases hp with rfl|rfl|rfl|rfl<;>first|exact bA.int _ _|exact bA.ab (r2 _ hn) r2) rfl,rfl,rfl⟩
theorem ag8{m:Int}{v:AV}(mc:Mt [B8 k] B)(hn:top<=N)(hi:0<=i)(hL:L<=1000000)(hm:0<=m/\m<=1000000)(jt:0<=c/\c<=1000000)(hx:cx FU N (0+i.toNat*3+0) 3=some [(u8<|bW),(i6 n0),(.ab N0 0 L0)])(hc:bp (aY<|vS k) [(.agg [(u8<|bW),(i6 n0),(.ab N0 0 L0)])]=some (.int .i64 c))(h1:i<(L:Int))(H:av pg B 270 (Fin pg (aA Tryz.f106) fun y _=>y=v) (yg N L (m+c)<|i+1)<|aj aq 270):av pg B 270 (Fin pg (aA Tryz.f106) fun y _=>y=v) (yg N L m i)<|aj aq 270:=wC mc (C:=(fun fr s1 _=>fr=yg N L (m+c) (i+1)/\s1=aj aq 270)) nN (.st 1<|.rg<|.fk (.en<|.st 6<|.rg<|.eG<|.eH [(u8<|bW),(i6 n0),(.ab N0 0 L0)]<|.go 2<|.en<|.rg<|.go 2<|.kn (i6 c)<|.vl (i6<|m+c)<|.go 1<|.en<|.st 1<|.rg<|.vl (i6<|i+1)<|.go 1<|.en<|.st 1<|.bk (B9 N L (m+c)<|i+1) aq 270 .no)<|.no)<|ax (i<(L:Int)) (fun _=>(eZ i (L:Int)<|ai hn<|ai hx<|ai hc<|ai (wI<|m+c)<|ai (wI<|i+1)<|WY N L (m+c) (i+1) hn)) eN
theorem ag9{m:Int}{v:AV}{N0 L0:Nat}{bW n0 c:Int}(mc:Mt [B8 k] B)(h1:(L:Int)<=i)(hv: .int .i64 m=v):av pg B 270 (Fin pg (aA Tryz.f106) fun y _=>y=v) (yg N L m i)<|aj aq 270:=wS mc (.st 1<|.rg<|.fk (.no)<|.en<|.rt 6 .no)<|ax (i<(L:Int)) eN fun _=>(show(i6 m)=v from hv)
theorem go_cnt{op n:Int}{v:AV}(mc:Mt [B8 k] B)(hn:top<=N)(H:av pg B 270 (Fin pg (aA Tryz.f106) fun y _=>y=v) (yg N L 1 0)<|aj aq 270):av pg B 270 (Fin pg (aA Tryz.f106) fun y _=>y=v) (sF 106 Tryz.f106 [(.agg [(u8<|op),(i6 n),(.ab N 0 L)])])<|aj aq 270:=wC mc (C:=(fun fr s1 _=>fr=yg N L 1 0/\s1=aj aq 270)) nN (.st 9<|.bk (B9 N L 1 0) aq 270 .no)<|WY N L 1 0 hn
end
end fc
end
section
open Go Go.Rn Go.RowKit Go.Proofs
namespace CM
open cr cU dk dB fc dM
theorem Kc{g:Ex->Int}:∀(l:List Ex) (m:Int),(∀a∈l,1<=g a)->m+(l.length:Nat)<=l.foldl (fun n a=>n+g a) m
 |[],m,_=>by simp only[List.length_nil,List.foldl_nil];omega
 |a::l,m,h=>by have h1:=Kc l (m+g a) fun b hb=>h b<|List.mem_cons_of_mem _ hb;have h2:=h a List.mem_cons_self;rw[List.foldl_cons,List.length_cons];omega
theorem GB:∀(k:Nat) (e:Ex),uA k e=true->1<=lI k e
 |0,_,h=>by cases h
 |k+1,.mk op n l,h=>by have h1:l.all (uA k)=true:=h;have:=Kc (g:=lI k) l 1 fun a ha=>GB k a<|List.all_eq_true.1 h1 a ha;show 1<=l.foldl (fun n a=>n+lI k a) 1;omega
theorem abP(hP:bC pg){k:Nat}(h':aV [B8 k]){L:bV}(h:aV L):aV<|B8 (k+1)::L:=by
 refine g9 hP h h' Tryz.func106 fun args v e=>?_;obtain⟨⟨op,n,l⟩,rfl,hd,hc,rfl⟩:=gf e;refine⟨aL.1 aZ,fun B mc=>?_⟩;rw[←gN,aM];have hd:l.all (uA k)=true:=hd;have hc:l.foldl (fun n a=>n+lI k a) 1<=1000000:=hc;have pos:∀a∈l,1<=lI k a:=fun a ha=>GB k a<|List.all_eq_true.1 hd a ha;have key:∀(r:List Ex) (i:Nat) (m:Int),l.drop i=r->0<=m->r.foldl (fun n a=>n+lI k a) m<=1000000->
  av pg B 270 (Fin pg (aA Tryz.f106) fun y _=>y= .int .i64 (r.foldl (fun n a=>n+lI k a) m)) (yg (nm<|dz l) l.length m i) (aj aq 270):=by
  intro r;induction r with
  |nil=>intro i m hr _ _;have hi:l.length<=i:=List.drop_eq_nil_iff.1 hr;exact ag9 (k:=k) (N0:=0) (L0:=0) (bW:=0) (n0:=0) (c:=0) mc ah rfl
  |cons a r ih=>
   intro i m hr h0 h1;have hl:i<l.length:=by
    by_cases q:i<l.length
    ·exact q
    ·rw[List.drop_of_length_le ah] at hr;cases hr
   have ha:l[i]? =some a:=by have:=congrArg (fun q=>q[0]?) hr;simp only[List.getElem?_drop,List.getElem?_cons_zero,Nat.add_zero] at this;exact this
   have hm:a∈l:=List.mem_of_getElem? ha;have lT:l.drop (i+1)=r:=by have:=congrArg (List.drop 1) hr;rw[List.drop_drop] at this;exact this
   have akb:∀b∈r,b∈l:=fun b hb=>List.mem_of_mem_drop (i:=i) (by rw[hr];exact List.mem_cons_of_mem _ hb);have h2:=Kc (g:=lI k) r (m+lI k a) fun b hb=>pos b<|akb b hb;have h3:=pos a hm;have h4:=Kc (g:=lI k) l 1 pos;rw[List.foldl_cons] at h1 ⊢;obtain⟨bW,n0,l0⟩:=a;have hx:=zQ ha (z:=(i:Int)) ah;have bJ:=fu (ff vS.bS ⟨.mk bW n0 l0,rfl,List.all_eq_true.1 hd _ hm,by omega,rfl⟩:aY (vS k) [.agg<|aM<|.mk bW n0 l0]=_) sB rfl;rw[aM] at hx bJ;exact ag8 (k:=k) mc (cV _) ah ah ah ah hx bJ ah<|ih (i+1) (m+lI k (.mk bW n0 l0)) lT ah h1
 exact go_cnt mc (cV _)<|key l 0 1 (List.drop_zero) ah hc
theorem Up(hP:bC pg):∀(k:Nat) {L:bV},aV L->aV (B8 k::L)
 |0,L,h=>by refine g9 hP h cN Tryz.func106 fun args v e=>?_;obtain⟨_,_,hd,_⟩:=gf e;cases hd
 |k+1,L,h=>abP hP (Up hP k cN) h
end CM
end
section
open Go Go.Rn Go.RowKit Go.Proofs
namespace vd
open cr cU dk dB dM fc CM
def mG(k:Nat)(e:Ex):Int:=if e.op=0 then 0 else lI k e
def z8(k:Nat)(args:List AV)(v:AV):Prop:=∃e:Ex,args=[.agg<|aM e]/\uA k e=true/\lI k e<=1000000/\v= .int .i64 (mG k e)
theorem z8.bS{k:Nat}(args:List AV)(v v':AV)(h:z8 k args v)(h':z8 k args v'):v=v':=by obtain⟨e,rfl,_,_,rfl⟩:=h;obtain⟨e',h1,_,_,rfl⟩:=h';simp only[List.cons.injEq,AV.agg.injEq,_root_.and_true] at h1;rw[nU _ _ h1]
noncomputable def p8(k:Nat):FuncId×KE:=(89,.val<|aY<|z8 k)
theorem afp{B:aI}{k N L:Nat}{op n c:Int}(mc:Mt [B8 k] B)(hc:bp (aY<|vS k) [(.agg [(u8<|op),(i6 n),(.ab N 0 L)])]=some (.int .i64 c)):av pg B 270 (Fin pg (aA Tryz.f89) fun y _=>y=(i6 (if op=0 then 0 else c))) (sF 89 Tryz.f89 [(.agg [(u8<|op),(i6 n),(.ab N 0 L)])])<|aj aq 270:=wS mc (.st 4<|.rg<|.go 2<|.fk (.en<|.rt 4 .no)<|.en<|.st 3<|.rg<|.go 1<|.kn (i6 c)<|.go 1<|.en<|.rt 1 .no)<|ax (op=0) (fun _=>(show(i0:AV)= .int .i64 (if op=0 then 0 else c) from by split<;>first|rfl|(exfalso;omega))) fun _=>(ai hc (show((i6 c):AV)= .int .i64 (if op=0 then 0 else c) from by split<;>first|rfl|(exfalso;omega)))
theorem Uq(hP:bC pg)(k:Nat){L:bV}(h:aV L):aV<|p8 k::L:=by refine g9 hP h (Up hP k cN) Tryz.func89 fun args v e=>?_;obtain⟨⟨op,n,l⟩,rfl,hd,hc,rfl⟩:=gf e;refine⟨aL.1 aZ,fun B mc=>?_⟩;rw[←gN];have bJ:=fu (ff vS.bS ⟨.mk op n l,rfl,hd,hc,rfl⟩:aY (vS k) [.agg<|aM<|.mk op n l]=_) sB rfl;rw[aM] at bJ ⊢;exact afp mc bJ
end vd
end
section
open Go Go.Rn Go.RowKit Go.Proofs
namespace gK
open cr cU dk dB dM fc CM
variable {k N L:Nat} {B:aI} {i:Int}
noncomputable section
def cS(x y:Int):Int:=match decide (y>x) with|true=>y|false=>x
def jw(ld le:Nat)(m cd ce:Int):Int:=if 0<le then cS (if 0<ld then cS m cd else m) ce else if 0<ld then cS m cd else m
def ct:St->List St| .mk _ _ _ _ b _=>b
def cm:St->List St| .mk _ _ _ _ _ b=>b
def fw:Nat->List St->Int
 |0,_=>0
 |k+1,l=>l.foldl (fun m s=>jw (ct s).length (cm s).length m (fw k<|ct s)<|fw k<|cm s) 0+1
def sg:Nat->List St->Bool
 |0,_=>false
 |k+1,l=>decide (l.length<=1000000)&&l.all fun s=>((ct s).isEmpty||sg k (ct s))&&((cm s).isEmpty||sg k (cm s))
def ui(k:Nat)(args:List AV)(v:AV):Prop:=∃l:List St,args=[.ab (nm<|bD l) 0 l.length]/\sg k l=true/\k<=100/\v= .int .i64 (fw k l)
theorem ui.bS(args:List AV)(v v':AV)(h:ui k args v)(h':ui k args v'):v=v':=by obtain⟨l,rfl,_,_,rfl⟩:=h;obtain⟨l',h1,_,_,rfl⟩:=h';simp only[List.cons.injEq,AV.ab.injEq,_root_.and_true,true_and] at h1;rw[tL _ _<|ud (lW l) (lW l') h1.1]
def jD(k:Nat):FuncId×KE:=(67,.val<|aY<|ui k)
def vT(N L:Nat)(m i:Int):List<|Nat×AV:=[(3,(i6 m)),(6,(.ab N 0 L)),(7,(i6<|(L:Int))),(8,(i6 i))]
def yh(N L:Nat)(m i:Int):AF:=⟨67,aP<|vT N L m i,(max Tryz.f67.ntmps 1),[.code<|aW pg 67 [1,1,0,1,0,0],.inLoop<|aW pg 67 [1,1,0,1,0,0],.inBlock 0,.code<|aW pg 67 [1,1,1]],[],none⟩
theorem Hh(N L:Nat)(m i:Int)(hn:top<=N){M:Int}(e:m=M):((vT N L m i).map (fun q=>some q.2)=(vT N L m i).map (fun q=>some q.2))/\(aq.map (fun q=>q.2)=aq.map (fun q=>q.2))/\yI 270 (vT N L m i) aq/\(yh N L m i=yh N L M i/\aj aq 270=aj aq 270):=⟨rfl,rfl,PQ (fun r r2 p hp=>by simp only[vT,List.mem_cons,List.not_mem_nil,or_false] at hp;rcases hp with rfl|rfl|rfl|rfl<;>first|exact bA.int _ _|exact bA.ab (r2 _ hn) r2) rfl,by rw[e],rfl⟩
theorem ahb{m:Int}{v:AV}{Na La Nb Lb Nd ld Ne le:Nat}{kd to oa na ob nb cd ce:Int}(mc:Mt [jD k] B)(hn:top<=N)(hi:0<=i)(hL:L<=1000000)(hx:cx FU N (0+i.toNat*10+0) 10=some [(u8<|kd),(i6 to),(u8<|oa),(i6 na),(.ab Na 0 La),(u8<|ob),(i6 nb),(.ab Nb 0 Lb),(.ab Nd 0 ld),(.ab Ne 0 le)])(hd:0<ld->bp (aY<|ui k) [(.ab Nd 0 ld)]=some (.int .i64 cd))(he:0<le->bp (aY<|ui k) [(.ab Ne 0 le)]=some (.int .i64 ce))(h1:i<(L:Int))(H:av pg B 270 (Fin pg (aA Tryz.f67) fun y _=>y=v) (yh N L (jw ld le m cd ce)<|i+1)<|aj aq 270):av pg B 270 (Fin pg (aA Tryz.f67) fun y _=>y=v) (yh N L m i)<|aj aq 270:=wC mc (C:=(fun fr s1 _=>fr=yh N L (jw ld le m cd ce) (i+1)/\s1=aj aq 270)) nN (.st 1<|.rg<|.fk (.en<|.st 6<|.rg<|.eG<|.eH [(u8<|kd),(i6 to),(u8<|oa),(i6 na),(.ab Na 0 La),(u8<|ob),(i6 nb),(.ab Nb 0 Lb),(.ab Nd 0 ld),(.ab Ne 0 le)]<|.go 2<|.en<|.st 2<|.rg<|.go 3<|.fk (.en<|.st 1<|.rg<|.go 3<|.kn (i6 cd)<|.vl (i6<|(cS m cd))<|.go 1<|.en<|.st 1<|.rg<|.go 3<|.fk (.en<|.st 1<|.rg<|.go 3<|.kn (i6 ce)<|.vl (i6<|(cS (cS m cd) ce))<|.go 1<|.en<|.st 1<|.rg<|.vl (i6<|i+1)<|.go 1<|.en<|.st 1<|.bk (vT N L (cS (cS m cd) ce)<|i+1) aq 270 .no)<|.en<|.st 3<|.rg<|.vl (i6<|i+1)<|.go 1<|.en<|.st 1<|.bk (vT N L (cS m cd)<|i+1) aq 270 .no)<|.en<|.st 3<|.rg<|.go 3<|.fk (.en<|.st 1<|.rg<|.go 3<|.kn (i6 ce)<|.vl (i6<|(cS m ce))<|.go 1<|.en<|.st 1<|.rg<|.vl (i6<|i+1)<|.go 1<|.en<|.st 1<|.bk (vT N L (cS m ce)<|i+1) aq 270 .no)<|.en<|.st 3<|.rg<|.vl (i6<|i+1)<|.go 1<|.en<|.st 1<|.bk (vT N L m<|i+1) aq 270 .no)<|.no)<|ax (i<(L:Int)) (fun _=>(eZ i (L:Int)<|ai hn<|ai hx<|ax ((ld:Int)>0) (fun _=>(ai (hd ah)<|ai (congrArg (AV.int .i64) (show(match decide (cd>m) with|true=>cd|false=>m)=cS m cd from rfl))<|ax ((le:Int)>0) (fun _=>(ai (he ah)<|ai (congrArg (AV.int .i64) (show(match decide (ce>(cS m cd)) with|true=>ce|false=>(cS m cd))=cS (cS m cd) ce from rfl))<|ai (wI<|i+1)<|Hh N L (cS (cS m cd) ce) (i+1) hn (show(cS (cS m cd) ce)=jw ld le m cd ce from by(unfold jw;repeat' split)<;>first|rfl|(exfalso;omega)))) fun _=>(ai (wI<|i+1)<|Hh N L (cS m cd) (i+1) hn (show(cS m cd)=jw ld le m cd ce from by(unfold jw;repeat' split)<;>first|rfl|(exfalso;omega))))) fun _=>(ax ((le:Int)>0) (fun _=>(ai (he ah)<|ai (congrArg (AV.int .i64) (show(match decide (ce>m) with|true=>ce|false=>m)=cS m ce from rfl))<|ai (wI<|i+1)<|Hh N L (cS m ce) (i+1) hn (show(cS m ce)=jw ld le m cd ce from by(unfold jw;repeat' split)<;>first|rfl|(exfalso;omega)))) fun _=>(ai (wI<|i+1)<|Hh N L m (i+1) hn (show m=jw ld le m cd ce from by(unfold jw;repeat' split)<;>first|rfl|(exfalso;omega)))))) eN
theorem ahc{m:Int}{v:AV}(mc:Mt [jD k] B)(hm:0<=m/\m<=1000000)(h1:(L:Int)<=i)(hv: .int .i64 (m+1)=v):av pg B 270 (Fin pg (aA Tryz.f67) fun y _=>y=v) (yh N L m i)<|aj aq 270:=wS mc (.st 1<|.rg<|.fk (.no)<|.en<|.st 4<|.rg<|.go 1<|.vl (i6<|m+1)<|.go 1<|.en<|.rt 1 .no)<|ax (i<(L:Int)) eN fun _=>(ai (wI<|m+1) (show((i6<|(m+1)):AV)=v from hv))
theorem go_dep{v:AV}(mc:Mt [jD k] B)(hn:top<=N)(H:av pg B 270 (Fin pg (aA Tryz.f67) fun y _=>y=v) (yh N L 0 0)<|aj aq 270):av pg B 270 (Fin pg (aA Tryz.f67) fun y _=>y=v) (sF 67 Tryz.f67 [(.ab N 0 L)])<|aj aq 270:=wC mc (C:=(fun fr s1 _=>fr=yh N L 0 0/\s1=aj aq 270)) nN (.st 9<|.bk (vT N L 0 0) aq 270 .no)<|Hh N L 0 0 hn rfl
end
end gK
end
section
open Go Go.Rn Go.RowKit Go.Proofs
namespace AI
open cr cU dk dB fc dM gK
theorem GU{l:List St}{i:Nat}{a:St}(h:l[i]? =some a){z:Int}(hz:z.toNat=i):cx FU (nm<|bD l) (0+z.toNat*10+0) 10=some (ba a):=by rw[vy,hz,Nat.zero_add,yc lF h 0 10 ah];rw[List.drop_zero,List.take_of_length_le (by rw[lF.len];omega)]
theorem G2{x y b:Int}(h1:0<=x/\x<=b)(h2:0<=y/\y<=b):0<=cS x y/\cS x y<=b:=by unfold cS;split<;>assumption
theorem WZ{ld le:Nat}{m cd ce b:Int}(h1:0<=m/\m<=b)(h2:0<=cd/\cd<=b)(h3:0<=ce/\ce<=b):0<=jw ld le m cd ce/\jw ld le m cd ce<=b:=by
 have h4:=G2 h1 h2;unfold jw;split
 ·split
  ·exact G2 h4 h3
  ·exact G2 h1 h3
 ·split
  ·exact h4
  ·exact h1
theorem Pq{b:Int}{f:Int->St->Int}(hf:∀m s,0<=m/\m<=b->0<=f m s/\f m s<=b):∀(l:List St) (m:Int),0<=m/\m<=b->0<=l.foldl f m/\l.foldl f m<=b
 |[],_,h=>h
 |s::l,m,h=>by rw[List.foldl_cons];exact Pq hf l _<|hf m s h
theorem JS:∀(k:Nat) (l:List St),0<=fw k l/\fw k l<=k
 |0,_=>⟨Int.le_refl _,Int.le_refl _⟩
 |k+1,l=>by have:=Pq (b:=k) (f:=fun m s=>jw (ct s).length (cm s).length m (fw k<|ct s)<|fw k<|cm s) (fun m s h=>WZ h (JS k _)<|JS k _) l 0 ah;show 0<=l.foldl (fun m s=>jw (ct s).length (cm s).length m (fw k<|ct s)<|fw k<|cm s) 0+1/\l.foldl (fun m s=>jw (ct s).length (cm s).length m (fw k<|ct s)<|fw k<|cm s) 0+1<=_;omega
theorem ahe{l:List St}{b:Bool}(h:(l.isEmpty||b)=true)(hl:0<l.length):b=true:=by
 cases l with
 |nil=>simp only[List.length_nil] at hl;omega
 |cons _ _=>exact h
theorem abQ(hP:bC pg){k:Nat}(h':aV [jD k]){L:bV}(h:aV L):aV<|jD (k+1)::L:=by
 refine g9 hP h h' Tryz.func67 fun args v e=>?_;obtain⟨l,rfl,hd,hk,rfl⟩:=gf e;refine⟨aL.1 aZ,fun B mc=>?_⟩;rw[←gN];have hd:(decide (l.length<=1000000)&&l.all fun s=>((ct s).isEmpty||sg k (ct s))&&((cm s).isEmpty||sg k (cm s)))=true:=hd;rw[Bool.and_eq_true,decide_eq_true_eq,List.all_eq_true] at hd;obtain⟨hlen,hd⟩:=hd;have use:∀b:List St,(b.isEmpty||sg k b)=true->0<b.length->bp (aY<|ui k) [.ab (nm<|bD b) 0 b.length]=some (i6<|fw k b):=fun b h1 h2=>fu (ff ui.bS ⟨b,rfl,ahe h1 h2,by omega,rfl⟩) Ys rfl;have key:∀(r:List St) (i:Nat) (m:Int),l.drop i=r->0<=m/\m<=k->
  av pg B 270 (Fin pg (aA Tryz.f67) fun y _=>y= .int .i64 (r.foldl (fun m s=>jw (ct s).length (cm s).length m (fw k<|ct s)<|fw k<|cm s) m+1)) (yh (nm<|bD l) l.length m i) (aj aq 270):=by
  intro r;induction r with
  |nil=>intro i m hr h0;have hi:l.length<=i:=List.drop_eq_nil_iff.1 hr;exact ahc (k:=k) mc ah ah rfl
  |cons a r ih=>
   intro i m hr h0;have hl:i<l.length:=by
    by_cases q:i<l.length
    ·exact q
    ·rw[List.drop_of_length_le ah] at hr;cases hr
   have ha:l[i]? =some a:=by have:=congrArg (fun q=>q[0]?) hr;simp only[List.getElem?_drop,List.getElem?_cons_zero,Nat.add_zero] at this;exact this
   have hm:a∈l:=List.mem_of_getElem? ha;have lT:l.drop (i+1)=r:=by have:=congrArg (List.drop 1) hr;rw[List.drop_drop] at this;exact this
   have Dm:=hd a hm;rw[Bool.and_eq_true] at Dm;have hx:=GU ha (z:=(i:Int)) ah;have qc:=ih (i+1) _ lT<|WZ (ld:=(ct a).length) (le:=(cm a).length) h0 (JS k<|ct a)<|JS k<|cm a;have hb:=use _ Dm.1;have he:=use _ Dm.2;obtain⟨kd,to,⟨oa,na,la⟩,⟨ob,nb,lb⟩,bd,el⟩:=a;rw[ba,aM,aM] at hx;rw[List.foldl_cons];exact ahb (k:=k) mc (cV _) ah hlen hx hb he ah qc
 exact go_dep mc (cV _)<|key l 0 0 (List.drop_zero) ah
theorem Ur(hP:bC pg):∀(k:Nat) {L:bV},aV L->aV (jD k::L)
 |0,L,h=>by refine g9 hP h cN Tryz.func67 fun args v e=>?_;obtain⟨_,_,hd,_⟩:=gf e;cases hd
 |k+1,L,h=>abQ hP (Ur hP k cN) h
end AI
end
section
open Go Go.Rn Go.RowKit Go.Proofs
namespace jr
open cr cU dk dB dM fc CM gK AI
variable {k N L:Nat} {B:aI} {i:Int}
noncomputable section
def eS(x y:Int):Int:=match decide (y<x) with|true=>y|false=>x
def oz(kd m cd ce:Int):Int:=if kd=4 then eS (m+1+cS cd ce) 2001 else if kd=5 then eS (m+1+8*cd) 2001 else if kd=7 then eS (m+1+(cd+ce)) 2001 else eS (m+1+0) 2001
def iR:St->Int| .mk k _ _ _ _ _=>k
def si:Nat->List St->Int
 |0,_=>0
 |k+1,l=>l.foldl (fun m s=>oz (iR s) m (si k<|ct s)<|si k<|cm s) 0
def lq:Nat->List St->Bool
 |0,_=>false
 |k+1,l=>decide (l.length<=1000000)&&l.all fun s=>lq k (ct s)&&lq k (cm s)
def uB(k:Nat)(args:List AV)(v:AV):Prop:=∃l:List St,args=[.ab (nm<|bD l) 0 l.length]/\lq k l=true/\v= .int .i64 (si k l)
theorem uB.bS(args:List AV)(v v':AV)(h:uB k args v)(h':uB k args v'):v=v':=by obtain⟨l,rfl,_,rfl⟩:=h;obtain⟨l',h1,_,rfl⟩:=h';simp only[List.cons.injEq,AV.ab.injEq,_root_.and_true,true_and] at h1;rw[tL _ _<|ud (lW l) (lW l') h1.1]
def jF(k:Nat):FuncId×KE:=(68,.val<|aY<|uB k)
def vU(N L:Nat)(m i:Int):List<|Nat×AV:=[(3,(i6 m)),(7,(.ab N 0 L)),(8,(i6<|(L:Int))),(9,(i6 i))]
def yj(N L:Nat)(m i:Int):AF:=⟨68,aP<|vU N L m i,(max Tryz.f68.ntmps 1),[.code<|aW pg 68 [1,1,0,1,0,0],.inLoop<|aW pg 68 [1,1,0,1,0,0],.inBlock 0,.code<|aW pg 68 [1,1,1]],[],none⟩
theorem Hi(N L:Nat)(m i:Int)(hn:top<=N){M:Int}(e:m=M):((vU N L m i).map (fun q=>some q.2)=(vU N L m i).map (fun q=>some q.2))/\(aq.map (fun q=>q.2)=aq.map (fun q=>q.2))/\yI 270 (vU N L m i) aq/\(yj N L m i=yj N L M i/\aj aq 270=aj aq 270):=⟨rfl,rfl,PQ (fun r r2 p hp=>by simp only[vU,List.mem_cons,List.not_mem_nil,or_false] at hp;rcases hp with rfl|rfl|rfl|rfl<;>first|exact bA.int _ _|exact bA.ab (r2 _ hn) r2) rfl,by rw[e],rfl⟩
theorem ahf{m:Int}{v:AV}{Na La Nb Lb Nd ld Ne le:Nat}{kd to oa na ob nb cd ce:Int}(mc:Mt [jF k] B)(hn:top<=N)(hi:0<=i)(hL:L<=1000000)(hx:cx FU N (0+i.toNat*10+0) 10=some [(u8<|kd),(i6 to),(u8<|oa),(i6 na),(.ab Na 0 La),(u8<|ob),(i6 nb),(.ab Nb 0 Lb),(.ab Nd 0 ld),(.ab Ne 0 le)])(hm:0<=m/\m<=2001)(hd0:0<=cd/\cd<=2001)(he0:0<=ce/\ce<=2001)(hmx:0<=cS cd ce/\cS cd ce<=2001)(hd:bp (aY<|uB k) [(.ab Nd 0 ld)]=some (.int .i64 cd))(he:bp (aY<|uB k) [(.ab Ne 0 le)]=some (.int .i64 ce))(h1:i<(L:Int))(H:av pg B 270 (Fin pg (aA Tryz.f68) fun y _=>y=v) (yj N L (oz kd m cd ce)<|i+1)<|aj aq 270):av pg B 270 (Fin pg (aA Tryz.f68) fun y _=>y=v) (yj N L m i)<|aj aq 270:=wC mc (C:=(fun fr s1 _=>fr=yj N L (oz kd m cd ce) (i+1)/\s1=aj aq 270)) nN (.st 1<|.rg<|.fk (.en<|.st 6<|.rg<|.eG<|.eH [(u8<|kd),(i6 to),(u8<|oa),(i6 na),(.ab Na 0 La),(u8<|ob),(i6 nb),(.ab Nb 0 Lb),(.ab Nd 0 ld),(.ab Ne 0 le)]<|.go 2<|.en<|.st 7<|.rg<|.fk (.go 1<|.en<|.st 1<|.rg<|.go 2<|.kn (i6 cd)<|.go 2<|.kn (i6 ce)<|.vl (i6<|(cS cd ce))<|.go 1<|.en<|.st 1<|.rg<|.go 1<|.vl (i6<|m+1)<|.go 1<|.vl (i6<|(m+1)+(cS cd ce))<|.vl (i6<|(eS ((m+1)+(cS cd ce)) (2001:Int)))<|.go 1<|.en<|.st 1<|.rg<|.vl (i6<|i+1)<|.go 1<|.en<|.st 1<|.bk (vU N L (eS ((m+1)+(cS cd ce)) (2001:Int))<|i+1) aq 270 .no)<|.go 1<|.en<|.st 2<|.rg<|.fk (.go 1<|.en<|.st 1<|.rg<|.go 2<|.kn (i6 cd)<|.vl (i6<|8*cd)<|.go 1<|.en<|.st 1<|.rg<|.go 1<|.vl (i6<|m+1)<|.go 1<|.vl (i6<|(m+1)+(8*cd))<|.vl (i6<|(eS ((m+1)+(8*cd)) (2001:Int)))<|.go 1<|.en<|.st 1<|.rg<|.vl (i6<|i+1)<|.go 1<|.en<|.st 1<|.bk (vU N L (eS ((m+1)+(8*cd)) (2001:Int))<|i+1) aq 270 .no)<|.go 1<|.en<|.st 2<|.rg<|.fk (.go 1<|.en<|.st 1<|.rg<|.go 2<|.kn (i6 cd)<|.go 2<|.kn (i6 ce)<|.vl (i6<|cd+ce)<|.go 1<|.en<|.st 1<|.rg<|.go 1<|.vl (i6<|m+1)<|.go 1<|.vl (i6<|(m+1)+(cd+ce))<|.vl (i6<|(eS ((m+1)+(cd+ce)) (2001:Int)))<|.go 1<|.en<|.st 1<|.rg<|.vl (i6<|i+1)<|.go 1<|.en<|.st 1<|.bk (vU N L (eS ((m+1)+(cd+ce)) (2001:Int))<|i+1) aq 270 .no)<|.go 1<|.en<|.st 3<|.rg<|.go 1<|.vl (i6<|m+1)<|.go 1<|.vl (i6<|(m+1)+0)<|.vl (i6<|(eS ((m+1)+0) (2001:Int)))<|.go 1<|.en<|.st 1<|.rg<|.vl (i6<|i+1)<|.go 1<|.en<|.st 1<|.bk (vU N L (eS ((m+1)+0) (2001:Int))<|i+1) aq 270 .no)<|.no)<|ax (i<(L:Int)) (fun _=>(eZ i (L:Int)<|ai hn<|ai hx<|ax (kd=4) (fun _=>(ai hd<|ai he<|ai (congrArg (AV.int .i64) (show(match decide (ce>cd) with|true=>ce|false=>cd)=cS cd ce from rfl))<|ai (wI<|m+1)<|ai (wI<|(m+1)+(cS cd ce))<|ai (congrArg (AV.int .i64) (show(match decide ((2001:Int)<((m+1)+(cS cd ce))) with|true=>(2001:Int)|false=>((m+1)+(cS cd ce)))=eS ((m+1)+(cS cd ce)) (2001:Int) from rfl))<|ai (wI<|i+1)<|Hi N L (eS ((m+1)+(cS cd ce)) (2001:Int)) (i+1) hn (show(eS ((m+1)+(cS cd ce)) (2001:Int))=oz kd m cd ce from by(unfold oz;repeat' split)<;>first|rfl|(exfalso;omega)))) fun _=>(ax (kd=5) (fun _=>(ai hd<|ai (wI<|8*cd)<|ai (wI<|m+1)<|ai (wI<|(m+1)+(8*cd))<|ai (congrArg (AV.int .i64) (show(match decide ((2001:Int)<((m+1)+(8*cd))) with|true=>(2001:Int)|false=>((m+1)+(8*cd)))=eS ((m+1)+(8*cd)) (2001:Int) from rfl))<|ai (wI<|i+1)<|Hi N L (eS ((m+1)+(8*cd)) (2001:Int)) (i+1) hn (show(eS ((m+1)+(8*cd)) (2001:Int))=oz kd m cd ce from by(unfold oz;repeat' split)<;>first|rfl|(exfalso;omega)))) fun _=>(ax (kd=7) (fun _=>(ai hd<|ai he<|ai (wI<|cd+ce)<|ai (wI<|m+1)<|ai (wI<|(m+1)+(cd+ce))<|ai (congrArg (AV.int .i64) (show(match decide ((2001:Int)<((m+1)+(cd+ce))) with|true=>(2001:Int)|false=>((m+1)+(cd+ce)))=eS ((m+1)+(cd+ce)) (2001:Int) from rfl))<|ai (wI<|i+1)<|Hi N L (eS ((m+1)+(cd+ce)) (2001:Int)) (i+1) hn (show(eS ((m+1)+(cd+ce)) (2001:Int))=oz kd m cd ce from by(unfold oz;repeat' split)<;>first|rfl|(exfalso;omega)))) fun _=>(ai (wI<|m+1)<|ai (wI<|(m+1)+0)<|ai (congrArg (AV.int .i64) (show(match decide ((2001:Int)<((m+1)+0)) with|true=>(2001:Int)|false=>((m+1)+0))=eS ((m+1)+0) (2001:Int) from rfl))<|ai (wI<|i+1)<|Hi N L (eS ((m+1)+0) (2001:Int)) (i+1) hn (show(eS ((m+1)+0) (2001:Int))=oz kd m cd ce from by(unfold oz;repeat' split)<;>first|rfl|(exfalso;omega))))))) eN
theorem ahg{m:Int}{v:AV}(mc:Mt [jF k] B)(h1:(L:Int)<=i)(hv: .int .i64 m=v):av pg B 270 (Fin pg (aA Tryz.f68) fun y _=>y=v) (yj N L m i)<|aj aq 270:=wS mc (.st 1<|.rg<|.fk (.no)<|.en<|.rt 6 .no)<|ax (i<(L:Int)) eN fun _=>(show((i6 m):AV)=v from hv)
theorem go_cos{v:AV}(mc:Mt [jF k] B)(hn:top<=N)(H:av pg B 270 (Fin pg (aA Tryz.f68) fun y _=>y=v) (yj N L 0 0)<|aj aq 270):av pg B 270 (Fin pg (aA Tryz.f68) fun y _=>y=v) (sF 68 Tryz.f68 [(.ab N 0 L)])<|aj aq 270:=wC mc (C:=(fun fr s1 _=>fr=yj N L 0 0/\s1=aj aq 270)) nN (.st 9<|.bk (vU N L 0 0) aq 270 .no)<|Hi N L 0 0 hn rfl
end
end jr
end
section
open Go Go.Rn Go.RowKit Go.Proofs
namespace XI
open cr cU dk dB fc dM gK AI jr
theorem afq{x:Int}(h1:0<=x):0<=eS x 2001/\eS x 2001<=2001:=by
 unfold eS;split<;>rename_i q
 ·omega
 ·have:=of_decide_eq_false q;omega
theorem W0{kd m cd ce:Int}(h1:0<=m/\m<=2001)(h2:0<=cd/\cd<=2001)(h3:0<=ce/\ce<=2001):0<=oz kd m cd ce/\oz kd m cd ce<=2001:=by
 have h4:=G2 h2 h3;unfold oz
 repeat' split
 all_goals exact afq ah
theorem Kd:∀(k:Nat) (l:List St),0<=si k l/\si k l<=2001
 |0,_=>⟨Int.le_refl _,by show(0:Int)<=2001;omega⟩
 |k+1,l=>Pq (b:=2001) (f:=fun m s=>oz (iR s) m (si k<|ct s)<|si k<|cm s) (fun m s h=>W0 h (Kd k _)<|Kd k _) l 0 ah
theorem acL(hP:bC pg){k:Nat}(h':aV [jF k]){L:bV}(h:aV L):aV<|jF (k+1)::L:=by
 refine g9 hP h h' Tryz.func68 fun args v e=>?_;obtain⟨l,rfl,hd,rfl⟩:=gf e;refine⟨aL.1 aZ,fun B mc=>?_⟩;rw[←gN];have hd:(decide (l.length<=1000000)&&l.all fun s=>lq k (ct s)&&lq k (cm s))=true:=hd;rw[Bool.and_eq_true,decide_eq_true_eq,List.all_eq_true] at hd;obtain⟨hlen,hd⟩:=hd;have use:∀b:List St,lq k b=true->bp (aY<|uB k) [.ab (nm<|bD b) 0 b.length]=some (i6<|si k b):=fun b h1=>fu (ff uB.bS ⟨b,rfl,h1,rfl⟩) Ys rfl;have key:∀(r:List St) (i:Nat) (m:Int),l.drop i=r->0<=m/\m<=2001->
  av pg B 270 (Fin pg (aA Tryz.f68) fun y _=>y= .int .i64 (r.foldl (fun m s=>oz (iR s) m (si k<|ct s)<|si k<|cm s) m)) (yj (nm<|bD l) l.length m i) (aj aq 270):=by
  intro r;induction r with
  |nil=>intro i m hr h0;have hi:l.length<=i:=List.drop_eq_nil_iff.1 hr;exact ahg (k:=k) mc ah rfl
  |cons a r ih=>
   intro i m hr h0;have hl:i<l.length:=by
    by_cases q:i<l.length
    ·exact q
    ·rw[List.drop_of_length_le ah] at hr;cases hr
   have ha:l[i]? =some a:=by have:=congrArg (fun q=>q[0]?) hr;simp only[List.getElem?_drop,List.getElem?_cons_zero,Nat.add_zero] at this;exact this
   have hm:a∈l:=List.mem_of_getElem? ha;have lT:l.drop (i+1)=r:=by have:=congrArg (List.drop 1) hr;rw[List.drop_drop] at this;exact this
   have Dm:=hd a hm;rw[Bool.and_eq_true] at Dm;have hx:=GU ha (z:=(i:Int)) ah;have b1:=Kd k<|ct a;have b2:=Kd k<|cm a;have qc:=ih (i+1) _ lT<|W0 (kd:=iR a) h0 b1 b2;have hb:=use _ Dm.1;have he:=use _ Dm.2;obtain⟨kd,to,⟨oa,na,la⟩,⟨ob,nb,lb⟩,bd,el⟩:=a;rw[ba,aM,aM] at hx;rw[List.foldl_cons];exact ahf (k:=k) mc (cV _) ah hlen hx h0 b1 b2 (G2 b1 b2) hb he ah qc
 exact go_cos mc (cV _)<|key l 0 0 (List.drop_zero) ah
theorem Vc(hP:bC pg):∀(k:Nat) {L:bV},aV L->aV (jF k::L)
 |0,L,h=>by refine g9 hP h cN Tryz.func68 fun args v e=>?_;obtain⟨_,_,hd,_⟩:=gf e;cases hd
 |k+1,L,h=>acL hP (Vc hP k cN) h
end XI
end
section
open Go Go.Rn Go.RowKit Go.Proofs
namespace wD
open cr cU dk dB fT dM
variable {N k N1 N0 L1 L0:Nat} {B:aI} {x1 x0 bW n1 n0:Int}
def sb:Nat->Ex->Int->Bool
 |0,_,_=>true
 |k+1,.mk op n args,z=> !(decide<|op=3/\n>=z)&&args.all fun a=>sb k a z
def yk(k:Nat)(args:List AV)(v:AV):Prop:=∃(e:Ex) (z:Int),args=[.agg<|aM e,.int .i64 z]/\eQ k e=true/\v= .bool (sb k e z)
noncomputable def KK(k:Nat):FuncId×KE:=(107,.val<|aY<|yk k)
theorem adY{N0 L0 N1 L1:Nat}{op n z bW n0 cM n1 x0 x1:Int}(mc:Mt [KK k] B):av pg B 270 (Fin pg (aA Tryz.f107) fun y _=>y=(.bool<|decide<|¬(op=3/\n>=z))) (sF 107 Tryz.f107 [(.agg [(u8<|op),(i6 n),(.ab N 0 0)]),(i6 z)])<|aj aq 270:=wS mc (.st 4<|.rg<|.go 2<|.fk (.go 4<|.fk (.go 1<|.en<|.rt 4 .no)<|.go 1<|.en<|.st 3<|.rg<|.go 3<|.il<|.st 3<|.rg<|.go 2<|.il<|.rt 15<|.go 2<|.en<|.rt 1<|.go 2<|.en<|.rt 1 .no)<|.go 6<|.en<|.st 3<|.rg<|.go 3<|.il<|.st 3<|.rg<|.go 2<|.il<|.rt 15<|.go 2<|.en<|.rt 1<|.go 2<|.en<|.rt 1 .no)<|ax (op=3) (fun _=>(ax (n>=z) (fun _=>(show AV.bool false= .bool (decide<|¬(op=3/\n>=z)) from by rw[decide_eq_false ah])) fun _=>(show AV.bool true= .bool (decide<|¬(op=3/\n>=z)) from by rw[decide_eq_true ah]))) fun _=>(show AV.bool true= .bool (decide<|¬(op=3/\n>=z)) from by rw[decide_eq_true ah])
theorem adZ{op n z cM:Int}(mc:Mt [KK k] B)(hn:top<=N)(wY:cx FU N (0+(0:Int).toNat*3+0) 3=some [(u8<|bW),(i6 n0),(.ab N0 0 L0)])(jt:bp (aY<|yk k) [(.agg [(u8<|bW),(i6 n0),(.ab N0 0 L0)]),(i6 z)]=some (.bool<|decide<|x0=1))(ja:cx FU N (0+(1:Int).toNat*3+0) 3=some [(u8<|cM),(i6 n1),(.ab N1 0 L1)])(jL:bp (aY<|yk k) [(.agg [(u8<|cM),(i6 n1),(.ab N1 0 L1)]),(i6 z)]=some (.bool<|decide<|x1=1)):av pg B 270 (Fin pg (aA Tryz.f107) fun y _=>y=(.bool<|decide<|¬(op=3/\n>=z)/\x0=1/\x1=1)) (sF 107 Tryz.f107 [(.agg [(u8<|op),(i6 n),(.ab N 0 2)]),(i6 z)])<|aj aq 270:=wS mc (.st 4<|.rg<|.go 2<|.fk (.go 4<|.fk (.go 1<|.en<|.rt 4 .no)<|.go 1<|.en<|.st 3<|.rg<|.go 3<|.il<|.st 3<|.rg<|.go 2<|.il<|.st 17<|.rg<|.go 3<|.eG<|.eH [(u8<|bW),(i6 n0),(.ab N0 0 L0)]<|.il<|.st 3<|.rg<|.go 2<|.kp (x0=1) inferInstance (.go 2<|.en<|.rt 1<|.en<|.st 15<|.rg<|.go 3<|.eG<|.eH [(u8<|cM),(i6 n1),(.ab N1 0 L1)]<|.il<|.st 3<|.rg<|.go 2<|.kp (x1=1) inferInstance (.go 2<|.en<|.rt 1<|.en<|.rt 13<|.go 2<|.en<|.rt 1<|.go 2<|.en<|.rt 1 .no)<|.go 2<|.en<|.rt 1<|.en<|.rt 4<|.go 2<|.en<|.rt 1<|.go 2<|.en<|.rt 1 .no)<|.go 2<|.en<|.rt 1<|.en<|.rt 4<|.go 2<|.en<|.rt 1<|.go 2<|.en<|.rt 1 .no)<|.go 6<|.en<|.st 3<|.rg<|.go 3<|.il<|.st 3<|.rg<|.go 2<|.il<|.st 17<|.rg<|.go 3<|.eG<|.eH [(u8<|bW),(i6 n0),(.ab N0 0 L0)]<|.il<|.st 3<|.rg<|.go 2<|.kp (x0=1) inferInstance (.go 2<|.en<|.rt 1<|.en<|.st 15<|.rg<|.go 3<|.eG<|.eH [(u8<|cM),(i6 n1),(.ab N1 0 L1)]<|.il<|.st 3<|.rg<|.go 2<|.kp (x1=1) inferInstance (.go 2<|.en<|.rt 1<|.en<|.rt 13<|.go 2<|.en<|.rt 1<|.go 2<|.en<|.rt 1 .no)<|.go 2<|.en<|.rt 1<|.en<|.rt 4<|.go 2<|.en<|.rt 1<|.go 2<|.en<|.rt 1 .no)<|.go 2<|.en<|.rt 1<|.en<|.rt 4<|.go 2<|.en<|.rt 1<|.go 2<|.en<|.rt 1 .no)<|ax (op=3) (fun _=>(ax (n>=z) (fun _=>(show AV.bool false= .bool (decide<|¬(op=3/\n>=z)/\x0=1/\x1=1) from by rw[decide_eq_false ah])) Yh)) Yh
theorem ahi{L:Nat}{op n z x y1:Int}(mc:Mt [Q6,KK 6] B)(hc:bp (aY wB) [(.agg [(u8<|op),(i6 n),(.ab N 0 L)])]=some (.bool<|decide<|x=1))(hb:x=1->bp (aY<|yk 6) [(.agg [(u8<|op),(i6 n),(.ab N 0 L)]),(i6 z)]=some (.bool<|decide<|y1=1)):av pg B 270 (Fin pg (aA Tryz.f94) fun y _=>y=(.bool<|decide<|x=1/\y1=1)) (sF 94 Tryz.f94 [(.agg [(u8<|op),(i6 n),(.ab N 0 L)]),(i6 z)])<|aj aq 270:=wS mc (.st 3<|.rg<|.go 1<|.kp (x=1) inferInstance (.go 3<|.kp (y1=1) inferInstance (.go 2<|.en<|.rt 1 .no)<|.go 2<|.en<|.rt 1 .no)<|.go 6<|.en<|.rt 1 .no)<|ai hc<|ax (x=1) (fun _=>(ai (hb ah)<|ax (y1=1) (fun _=>(show AV.bool true= .bool (decide<|x=1/\y1=1) from by rw[decide_eq_true ah])) fun _=>(show AV.bool false= .bool (decide<|x=1/\y1=1) from by rw[decide_eq_false ah]))) fun _=>(show AV.bool false= .bool (decide<|x=1/\y1=1) from by rw[decide_eq_false ah])
end wD
end
section
open Go Go.Rn Go.RowKit Go.Proofs
namespace yv
open cr cU dk dB fT dM wD
variable {k:Nat} {e:Ex}
theorem Us{op n:Int}{l:List Ex}(h:eQ (k+1) (.mk op n l)=true):l=[]\/∃a b,l=[a,b]/\eQ k a=true/\eQ k b=true:=by
 rw[Nw] at h;split at h
 ·exact .inl<|List.isEmpty_iff.1 h
 split at h
 ·rw[Bool.and_eq_true,Bool.and_eq_true] at h;exact .inl<|List.isEmpty_iff.1 h.1.1
 split at h
 ·rw[Bool.and_eq_true,Bool.and_eq_true] at h;exact .inl<|List.isEmpty_iff.1 h.1.1
 split at h
 ·cases h
 rw[Bool.and_eq_true,Bool.and_eq_true,decide_eq_true_eq] at h
 match l,h with
 |[a,b],h=>exact .inr ⟨a,b,rfl,h.1.2,h.2⟩
theorem yk.bS(args:List AV)(v v':AV)(h:yk k args v)(h':yk k args v'):v=v':=by obtain⟨e,z,rfl,_,rfl⟩:=h;obtain⟨e',z',h1,_,rfl⟩:=h';simp only[List.cons.injEq,AV.agg.injEq,AV.int.injEq,true_and,_root_.and_true] at h1;rw[nU _ _ h1.1,h1.2]
theorem OP{z:Int}(hw:eQ k e=true):bp (aY<|yk k) [.agg<|aM e,.int .i64 z]=some (.bool<|decide<|bit (sb k e z)=1):=by rw[xS];exact fu (ff yk.bS ⟨e,z,rfl,hw,rfl⟩) sB rfl
theorem Fu(b:Bool):bit b=1↔b=true:=by cases b<;>decide
theorem Ut(hP:bC pg):∀(k:Nat) {L:bV},aV L->aV (KK k::L)
 |0,L,h=>by refine g9 hP h cN Tryz.func107 fun args v e=>?_;obtain⟨_,_,_,hw,_⟩:=gf e;cases hw
 |k+1,L,h=>by
  refine g9 hP h (Ut hP k cN) Tryz.func107 fun args v e=>?_;obtain⟨⟨op,n,l⟩,z,rfl,hw,rfl⟩:=gf e;refine⟨aL.1 aZ,fun B mc=>?_⟩;rw[←gN];rcases Us hw with rfl|⟨a,b,rfl,w0,w1⟩
  ·have key:=adY (L0:=0) (N1:=0) (L1:=0) (N0:=0) (bW:=0) (n0:=0) (cM:=0) (n1:=0) (x0:=0) (x1:=0) (N:=nm<|dz []) (op:=op) (n:=n) (z:=z) mc;rw[aM,show sb (k+1) (.mk op n []) z=decide (¬(op=3/\n>=z)) from by show(!(decide<|op=3/\n>=z)&&true)=_;rw[Bool.and_true,decide_not]];exact key
  ·obtain⟨bW,n0,l0⟩:=a;obtain⟨cM,n1,l1⟩:=b;have t0:=zQ (l:=[Ex.mk bW n0 l0,.mk cM n1 l1]) (i:=0) (a:=.mk bW n0 l0) rfl (z:=0) rfl;have t1:=zQ (l:=[Ex.mk bW n0 l0,.mk cM n1 l1]) (i:=1) (a:=.mk cM n1 l1) rfl (z:=1) rfl;have c0:=OP (z:=z) w0;have c1:=OP (z:=z) w1;rw[aM] at t0 t1 c0 c1;have key:=adZ (op:=op) (n:=n) (z:=z) mc (cV _) t0 c0 t1 c1;rw[aM,show sb (k+1) (.mk op n [.mk bW n0 l0,.mk cM n1 l1]) z=decide (¬(op=3/\n>=z)/\bit (sb k (.mk bW n0 l0) z)=1/\bit (sb k (.mk cM n1 l1) z)=1) from by show(!(decide<|op=3/\n>=z)&&(sb k (.mk bW n0 l0) z&&(sb k (.mk cM n1 l1) z&&true)))=_;rw[Bool.and_true,Bool.eq_iff_iff,decide_eq_true_eq,Fu,Fu,Bool.and_eq_true,Bool.and_eq_true, ←decide_not,decide_eq_true_eq]];exact key
def Mf(e:Ex)(z:Int):Bool:=eQ 6 e&&sb 6 e z
def ph(args:List AV)(v:AV):Prop:=∃(e:Ex) (z:Int),args=[.agg<|aM e,.int .i64 z]/\v= .bool (Mf e z)
theorem ph.bS(args:List AV)(v v':AV)(h:ph args v)(h':ph args v'):v=v':=by obtain⟨e,z,rfl,rfl⟩:=h;obtain⟨e',z',h1,rfl⟩:=h';simp only[List.cons.injEq,AV.agg.injEq,AV.int.injEq,true_and,_root_.and_true] at h1;rw[nU _ _ h1.1,h1.2]
noncomputable def wk:FuncId×KE:=(94,.val<|aY ph)
theorem PO:bp (aY wB) [.agg<|aM e]=some (.bool<|decide<|bit (eQ 6 e)=1):=by rw[xS];exact fu (ff wB.bS ⟨e,rfl,rfl⟩) sB rfl
theorem ad0(hP:bC pg){L:bV}(h:aV L):aV<|wk::L:=by refine g9 hP h (V5 hP<|Ut hP 6 cN) Tryz.func94 fun args v e=>?_;obtain⟨⟨op,n,l⟩,z,rfl,rfl⟩:=gf e;refine⟨aL.1 aZ,fun B mc=>?_⟩;rw[←gN];have c0:=PO (e:=.mk op n l);have c1:bit (eQ 6<|.mk op n l)=1->_:=fun hx=>OP (k:=6) (e:=.mk op n l) (z:=z)<|(Fu _).1 hx;rw[aM] at c0 c1;have key:=ahi mc c0 c1;rw[aM,show Mf (.mk op n l) z=decide (bit (eQ 6<|.mk op n l)=1/\bit (sb 6 (.mk op n l) z)=1) from by rw[Bool.eq_iff_iff,decide_eq_true_eq,Fu,Fu];exact Bool.and_eq_true _ _▸Iff.rfl];exact key
end yv
end
section
open Go Go.Rn Go.RowKit Go.Proofs
namespace oj
open cr cU dk dB fc gK dM
variable {K:Cb} {k N L ld Ne Nd Nb Na Lb La:Nat} {L0:bV} {B:aI} {pf p:fE} {i to ob oa na kd:Int} {g:Option ae} {x2 x1 w2 w1 u2 u1:AV} {bT:Option Code}
noncomputable section
abbrev mU:=St->AV->AV->Option fE
def kY(ek:List St->AV->AV->Option fE)(rd:mU):List St->AV->AV->Option fE
 |[],v1,v2=>some ⟨true,v1,v2,none⟩
 |s::r,v1,v2=>match rd s v1 v2 with
  |none=>none
  |some p=>match p.ret with
   |false=>some p
   |true=>match ek (ct s) p.v1 p.v2 with
    |none=>none
    |some q=>match q.ret with
     |false=>some q
     |true=>match ek (cm s) q.v1 q.v2 with
      |none=>none
      |some u=>match u.ret with
       |false=>some u
       |true=>kY ek rd r u.v1 u.v2
def fK(rd:mU):Nat->List St->AV->AV->Option fE
 |0,_,_,_=>none
 |k+1,l,v1,v2=>match decide (l.length<=1000000) with
  |true=>kY (fK rd k) rd l v1 v2
  |false=>none
open Classical in
def Hj(x:AV):Option<|List St:=if h:∃l:List St,x= .ab (nm<|bD l) 0 l.length then some h.choose else none
open Classical in
def Am(rd:mU)(k:Nat)(x v1 v2:AV):Option fE:=match Hj x with
 |none=>none
 |some l=>if okB v1/\okB v2 then fK rd k l v1 v2 else none
def dm(K:Cb)(rd:mU)(k:Nat):FuncId×KE:=(91,.raw<|rF K<|Am rd k)
def oE(K:Cb)(v1 v2:AV):List<|Nat×Option ae:=aq++[(270,some<|Cb.loop K none 272 273 271),(271,some .defs),(272,some<|eP v1),(273,some<|eP v2)]
def sE(K:Cb)(v1 v2:AV)(c:List AV):AS:=aj (oE K v1 v2++[(274,some<|.cells 10 (Tr.fill c 0 .nil) [])]) 275
def sA(K:Cb)(bT:Option Code)(v1 v2:AV)(c:List AV)(g:Option ae):AS:=aj (aq++[(270,some<|Cb.loop K bT 272 273 271),(271,some .defs),(272,some<|eP v1),(273,some<|eP v2),(274,some<|.cells 10 (Tr.fill c 0 .nil) []),(275,g)]) 276
def F9(L:bV):Env:=wA pg 270 eC dW L 274 true
def Yz(K:Cb)(p:fE)(s':AS)(y:AV):Prop:=y= .bool p.ret/\s'.h.get 270=some (Cb.loop K p.bT 272 273 271)/\s'.h.get 271=some .defs/\s'.h.get 272=some (eP p.v1)/\s'.h.get 273=some (eP p.v2)
end
theorem W1:fH<=274:=Nat.le_trans gL ah
theorem Q7{o4:Option ae}{nx:Nat}:Yz K p (aj (aq++[(270,some<|Cb.loop K p.bT 272 273 271),(271,some .defs),(272,some<|eP p.v1),(273,some<|eP p.v2),(274,o4),(275,g)]) nx)<|.bool p.ret:=⟨rfl,by kernel_rfl,by kernel_rfl,by kernel_rfl,by kernel_rfl⟩
theorem aio{nx:Nat}:Yz K p (aj (aq++[(270,some<|Cb.loop K p.bT 272 273 271),(271,some .defs),(272,some<|eP p.v1),(273,some<|eP p.v2)]) nx)<|.bool p.ret:=⟨rfl,by kernel_rfl,by kernel_rfl,by kernel_rfl,by kernel_rfl⟩
theorem ahj{v1 v2:AV}{l:List<|Nat×AV}(h:∀r:Nat->Nat,(∀k,k<274->r k=k)->(∀k,top<=k->r k=k)->∀p∈l,bA r p.2 p.2)(iZ:K.s1<top)(im:K.s2<top)(nd:K.s1≠K.s2)(ja:okB v1)(qC:okB v2):yI 274 l<|oE K v1 v2:=by
 intro r r1 r2;refine⟨h r r1 r2,fun p hp x hx=>?_⟩;rcases List.mem_append.1 hp with hp|hp
 ·exact GR (nx:=270) (fun k hk=>r1 k ah) cC p hp x hx
 ·simp only[List.mem_cons,List.not_mem_nil,or_false] at hp;rcases hp with rfl|rfl|rfl|rfl<;>cases hx
  ·exact adJ iZ im nd (r1 _ ah) (r1 _ ah)<|r1 _ ah
  ·exact adK
  ·exact VV ja r2
  ·exact VV qC r2
noncomputable def Cs(N L:Nat)(i:Int):List<|Nat×AV:=[(1,(.yield 270)),(7,(.ab N 0 L)),(8,(i6<|(L:Int))),(9,(i6 i))]
noncomputable def sj(N L:Nat)(i:Int):AF:=⟨91,aP<|Cs N L i,(max Tryz.f91.ntmps 2),[.code<|aW pg 91 [1,0,1,0,0],.inLoop<|aW pg 91 [1,0,1,0,0],.inBlock 0,.code<|aW pg 91 [1,1]],[],none⟩
theorem XJ{v1 v2:AV}(N L:Nat)(i:Int)(hn:top<=N)(iZ:K.s1<top)(im:K.s2<top)(nd:K.s1≠K.s2)(ja:okB v1)(qC:okB v2):((Cs N L i).map (fun q=>some q.2)=(Cs N L i).map (fun q=>some q.2))/\((oE K v1 v2).map (fun q=>q.2)=(oE K v1 v2).map (fun q=>q.2))/\yI 274 (Cs N L i) (oE K v1 v2)/\(sj N L i=sj N L i/\aj (oE K v1 v2) 274=aj (oE K v1 v2) 274):=⟨rfl,rfl,ahj (fun r r1 r2 p hp=>by simp only[Cs,List.mem_cons,List.not_mem_nil,or_false] at hp;rcases hp with rfl|rfl|rfl|rfl<;>first|exact bA.int _ _|exact bA.bool _|exact bA.ab (r2 _ hn) r2|exact bA.yield<|r1 270 ah) iZ im nd ja qC,rfl,rfl⟩
noncomputable abbrev fl(kd to oa na:Int)(Na La:Nat)(ob nb:Int)(Nb Lb Nd ld Ne le:Nat):List AV:=[(u8<|kd),(i6 to),(u8<|oa),(i6 na),(.ab Na 0 La),(u8<|ob),(i6 nb),(.ab Nb 0 Lb),(.ab Nd 0 ld),(.ab Ne 0 le)]
theorem akc{rd:mU}{v1 v2 u1 u2 x1 x2:AV}{pf:fE}{le:Nat}{nb:Int}(mc:Mt (dm K rd k::L0) B)(hn:top<=N)(hi:0<=i)(hL:L<=1000000)(hx:cx FU N (0+i.toNat*10+0) 10=some (fl kd to oa na Na La ob nb Nb Lb Nd ld Ne le))(hr:bh pg (sp<|dm K rd k::L0) FU 6 (.round 270) [.agg<|fl kd to oa na Na La ob nb Nb Lb Nd ld Ne le] (sE K v1 v2<|fl kd to oa na Na La ob nb Nb Lb Nd ld Ne le)= .ok (.bool false) (sA K bT w1 w2 (fl kd to oa na Na La ob nb Nb Lb Nd ld Ne le) g))(h1:i<(L:Int)):av pg B 274 (sD K 270 pg (aA Tryz.f91) ⟨false,w1,w2,bT⟩) (sj N L i)<|aj (oE K v1 v2) 274:=l9 (E:=F9<|dm K rd k::L0) eJ rfl bU mc.2.2.1 mc.2.2.2 900 (.st 1<|.rg<|.fk (.en<|.st 6<|.rg<|.eG<|.eH (fl kd to oa na Na La ob nb Nb Lb Nd ld Ne le)<|.go 2<|.en<|.st 1<|.rg<|.go 2<|.cy (.bool false) (sA K bT w1 w2 (fl kd to oa na Na La ob nb Nb Lb Nd ld Ne le) g)<|.go 15<|.en<|.rt 4 .no)<|.no)<|ax (i<(L:Int)) (fun _=>(eZ i (L:Int)<|ai hn<|ai hx<|ai hr<|Q7 (K:=K) (p:=⟨false,w1,w2,bT⟩) (o4:=some<|.cells 10 (Tr.fill (fl kd to oa na Na La ob nb Nb Lb Nd ld Ne le) 0 .nil) []) (g:=g) (nx:=276))) eN
theorem akd{rd:mU}{v1 v2 x1 x2:AV}{pf:fE}{le:Nat}{nb:Int}(mc:Mt (dm K rd k::L0) B)(hn:top<=N)(hi:0<=i)(hL:L<=1000000)(hx:cx FU N (0+i.toNat*10+0) 10=some (fl kd to oa na Na La ob nb Nb Lb Nd ld Ne le))(hr:bh pg (sp<|dm K rd k::L0) FU 6 (.round 270) [.agg<|fl kd to oa na Na La ob nb Nb Lb Nd ld Ne le] (sE K v1 v2<|fl kd to oa na Na La ob nb Nb Lb Nd ld Ne le)= .ok (.bool true) (sA K none w1 w2 (fl kd to oa na Na La ob nb Nb Lb Nd ld Ne le) g))(hb:bh pg (sp<|dm K rd k::L0) FU 6 (.fn 91) [.ab Nd 0 ld,.yield 270] (sA K none w1 w2 (fl kd to oa na Na La ob nb Nb Lb Nd ld Ne le) g)= .ok (.bool false) (sA K bT u1 u2 (fl kd to oa na Na La ob nb Nb Lb Nd ld Ne le) g))(h1:i<(L:Int)):av pg B 274 (sD K 270 pg (aA Tryz.f91) ⟨false,u1,u2,bT⟩) (sj N L i)<|aj (oE K v1 v2) 274:=l9 (E:=F9<|dm K rd k::L0) eJ rfl bU mc.2.2.1 mc.2.2.2 900 (.st 1<|.rg<|.fk (.en<|.st 6<|.rg<|.eG<|.eH (fl kd to oa na Na La ob nb Nb Lb Nd ld Ne le)<|.go 2<|.en<|.st 1<|.rg<|.go 2<|.cy (.bool true) (sA K none w1 w2 (fl kd to oa na Na La ob nb Nb Lb Nd ld Ne le) g)<|.go 5<|.cu (.bool false) (sA K bT u1 u2 (fl kd to oa na Na La ob nb Nb Lb Nd ld Ne le) g)<|.go 9<|.en<|.rt 4 .no)<|.no)<|ax (i<(L:Int)) (fun _=>(eZ i (L:Int)<|ai hn<|ai hx<|ai hr<|ai hb<|Q7 (K:=K) (p:=⟨false,u1,u2,bT⟩) (o4:=some<|.cells 10 (Tr.fill (fl kd to oa na Na La ob nb Nb Lb Nd ld Ne le) 0 .nil) []) (g:=g) (nx:=276))) eN
theorem ake{rd:mU}{v1 v2:AV}{pf:fE}{le:Nat}{nb:Int}(mc:Mt (dm K rd k::L0) B)(hn:top<=N)(hi:0<=i)(hL:L<=1000000)(hx:cx FU N (0+i.toNat*10+0) 10=some (fl kd to oa na Na La ob nb Nb Lb Nd ld Ne le))(hr:bh pg (sp<|dm K rd k::L0) FU 6 (.round 270) [.agg<|fl kd to oa na Na La ob nb Nb Lb Nd ld Ne le] (sE K v1 v2<|fl kd to oa na Na La ob nb Nb Lb Nd ld Ne le)= .ok (.bool true) (sA K none w1 w2 (fl kd to oa na Na La ob nb Nb Lb Nd ld Ne le) g))(hb:bh pg (sp<|dm K rd k::L0) FU 6 (.fn 91) [.ab Nd 0 ld,.yield 270] (sA K none w1 w2 (fl kd to oa na Na La ob nb Nb Lb Nd ld Ne le) g)= .ok (.bool true) (sA K none u1 u2 (fl kd to oa na Na La ob nb Nb Lb Nd ld Ne le) g))(ho:bh pg (sp<|dm K rd k::L0) FU 6 (.fn 91) [.ab Ne 0 le,.yield 270] (sA K none u1 u2 (fl kd to oa na Na La ob nb Nb Lb Nd ld Ne le) g)= .ok (.bool false) (sA K bT x1 x2 (fl kd to oa na Na La ob nb Nb Lb Nd ld Ne le) g))(h1:i<(L:Int)):av pg B 274 (sD K 270 pg (aA Tryz.f91) ⟨false,x1,x2,bT⟩) (sj N L i)<|aj (oE K v1 v2) 274:=l9 (E:=F9<|dm K rd k::L0) eJ rfl bU mc.2.2.1 mc.2.2.2 900 (.st 1<|.rg<|.fk (.en<|.st 6<|.rg<|.eG<|.eH (fl kd to oa na Na La ob nb Nb Lb Nd ld Ne le)<|.go 2<|.en<|.st 1<|.rg<|.go 2<|.cy (.bool true) (sA K none w1 w2 (fl kd to oa na Na La ob nb Nb Lb Nd ld Ne le) g)<|.go 5<|.cu (.bool true) (sA K none u1 u2 (fl kd to oa na Na La ob nb Nb Lb Nd ld Ne le) g)<|.go 6<|.cu (.bool false) (sA K bT x1 x2 (fl kd to oa na Na La ob nb Nb Lb Nd ld Ne le) g)<|.go 2<|.en<|.rt 4 .no)<|.no)<|ax (i<(L:Int)) (fun _=>(eZ i (L:Int)<|ai hn<|ai hx<|ai hr<|ai hb<|ai ho<|Q7 (K:=K) (p:=⟨false,x1,x2,bT⟩) (o4:=some<|.cells 10 (Tr.fill (fl kd to oa na Na La ob nb Nb Lb Nd ld Ne le) 0 .nil) []) (g:=g) (nx:=276))) eN
theorem akf{rd:mU}{v1 v2:AV}{bT:Option Code}{le:Nat}{nb:Int}(mc:Mt (dm K rd k::L0) B)(hn:top<=N)(hi:0<=i)(hL:L<=1000000)(hx:cx FU N (0+i.toNat*10+0) 10=some (fl kd to oa na Na La ob nb Nb Lb Nd ld Ne le))(hr:bh pg (sp<|dm K rd k::L0) FU 6 (.round 270) [.agg<|fl kd to oa na Na La ob nb Nb Lb Nd ld Ne le] (sE K v1 v2<|fl kd to oa na Na La ob nb Nb Lb Nd ld Ne le)= .ok (.bool true) (sA K none w1 w2 (fl kd to oa na Na La ob nb Nb Lb Nd ld Ne le) g))(hb:bh pg (sp<|dm K rd k::L0) FU 6 (.fn 91) [.ab Nd 0 ld,.yield 270] (sA K none w1 w2 (fl kd to oa na Na La ob nb Nb Lb Nd ld Ne le) g)= .ok (.bool true) (sA K none u1 u2 (fl kd to oa na Na La ob nb Nb Lb Nd ld Ne le) g))(ho:bh pg (sp<|dm K rd k::L0) FU 6 (.fn 91) [.ab Ne 0 le,.yield 270] (sA K none u1 u2 (fl kd to oa na Na La ob nb Nb Lb Nd ld Ne le) g)= .ok (.bool true) (sA K none x1 x2 (fl kd to oa na Na La ob nb Nb Lb Nd ld Ne le) g))(h1:i<(L:Int))(iZ:K.s1<top)(im:K.s2<top)(nd:K.s1≠K.s2)(ja:okB x1)(qC:okB x2)(H:av pg B 274 (sD K 270 pg (aA Tryz.f91) pf) (sj N L<|i+1)<|aj (oE K x1 x2) 274):av pg B 274 (sD K 270 pg (aA Tryz.f91) pf) (sj N L i)<|aj (oE K v1 v2) 274:=yb (E:=F9<|dm K rd k::L0) (C:=(fun fr s1 _=>fr=sj N L (i+1)/\s1=aj (oE K x1 x2) 274)) eJ rfl bU mc.2.2.1 mc.2.2.2 W1 rfl mc.1 nN 900 (.st 1<|.rg<|.fk (.en<|.st 6<|.rg<|.eG<|.eH (fl kd to oa na Na La ob nb Nb Lb Nd ld Ne le)<|.go 2<|.en<|.st 1<|.rg<|.go 2<|.cy (.bool true) (sA K none w1 w2 (fl kd to oa na Na La ob nb Nb Lb Nd ld Ne le) g)<|.go 5<|.cu (.bool true) (sA K none u1 u2 (fl kd to oa na Na La ob nb Nb Lb Nd ld Ne le) g)<|.go 6<|.cu (.bool true) (sA K none x1 x2 (fl kd to oa na Na La ob nb Nb Lb Nd ld Ne le) g)<|.go 2<|.en<|.st 3<|.rg<|.vl (i6<|i+1)<|.go 1<|.en<|.st 1<|.bk (Cs N L<|i+1) (oE K x1 x2) 274 .no)<|.no)<|ax (i<(L:Int)) (fun _=>(eZ i (L:Int)<|ai hn<|ai hx<|ai hr<|ai hb<|ai ho<|ai (wI<|i+1)<|XJ N L (i+1) hn iZ im nd ja qC)) eN
theorem ahk{rd:mU}{v1 v2:AV}(mc:Mt (dm K rd k::L0) B)(h1:(L:Int)<=i):av pg B 274 (sD K 270 pg (aA Tryz.f91) ⟨true,v1,v2,none⟩) (sj N L i)<|aj (oE K v1 v2) 274:=l9 (E:=F9<|dm K rd k::L0) eJ rfl bU mc.2.2.1 mc.2.2.2 900 (.st 1<|.rg<|.fk (.no)<|.en<|.rt 6 .no)<|ax (i<(L:Int)) eN fun _=>(aio (K:=K) (p:=⟨true,v1,v2,none⟩) (nx:=274))
theorem aip{rd:mU}{v1 v2:AV}(mc:Mt (dm K rd k::L0) B)(hn:top<=N)(iZ:K.s1<top)(im:K.s2<top)(nd:K.s1≠K.s2)(ja:okB v1)(qC:okB v2)(H:av pg B 274 (sD K 270 pg (aA Tryz.f91) pf) (sj N L 0)<|aj (oE K v1 v2) 274):av pg B 274 (sD K 270 pg (aA Tryz.f91) pf) (sF 91 Tryz.f91 [.ab N 0 L,.yield 270])<|aj (oE K v1 v2) 274:=yb (E:=F9<|dm K rd k::L0) (C:=(fun fr s1 _=>fr=sj N L 0/\s1=aj (oE K v1 v2) 274)) eJ rfl bU mc.2.2.1 mc.2.2.2 W1 rfl mc.1 nN 900 (.st 7<|.bk (Cs N L 0) (oE K v1 v2) 274 .no)<|XJ N L 0 hn iZ im nd ja qC
end oj
end
section
open Go Go.Rn Go.RowKit Go.Proofs
namespace n7
open cr cU dk dB fc gK AI dM oj
variable {rd:mU} {k:Nat} {K:Cb} {L0:bV}
theorem abR(l:List St):Hj (.ab (nm<|bD l) 0 l.length)=some l:=by
 unfold Hj;have h:∃l':List St,AV.ab (nm<|bD l) 0 l.length= .ab (nm<|bD l') 0 l'.length:=⟨l,rfl⟩;rw[dif_pos h];have e:=h.choose_spec;injection e with e1 e2 e3
 exact congrArg some (tL _ _<|ud (lW _) (lW _) e1).symm
theorem abS{x:AV}{l:List St}(h:Hj x=some l):x= .ab (nm<|bD l) 0 l.length:=by
 unfold Hj at h;split at h
 ·rename_i q;injection h with h
  rw[←h];exact q.choose_spec
 ·cases h
theorem V6(iZ:K.s1<top)(im:K.s2<top)(nd:K.s1≠K.s2)(c d:Nat):(aP [(K.s1,AV.ptr<|some (c,0)),(K.s2,.ptr<|some (d,0))]).get K.s1=some (.ptr<|some (c,0))/\(aP [(K.s1,AV.ptr<|some (c,0)),(K.s2,.ptr<|some (d,0))]).get K.s2=some (.ptr<|some (d,0)):=by
 constructor
 ·show(((Tr.nil:Tr AV).put K.s2 _).put K.s1 _).get K.s1=_;rw[Tr.lX _ _ _ _ iZ,if_pos rfl]
 ·show(((Tr.nil:Tr AV).put K.s2 _).put K.s1 _).get K.s2=_;rw[Tr.lX _ _ _ _ iZ,if_neg fun e=>nd e.symm,Tr.lX _ _ _ _ im,if_pos rfl]
structure zn (K:Cb) (L:bV) (rd:mU):Prop where
 s1:K.s1<top
 s2:K.s2<top
 Ga:K.s1≠K.s2
 run:∀s v1 v2 p,rd s v1 v2=some p->okB v1->okB v2->(okB p.v1/\okB p.v2/\(p.ret=true->p.bT=none))/\∃g,bh pg (sp L) FU 6 (.round 270) [.agg<|ba s] (sE K v1 v2<|ba s)= .ok (.bool p.ret) (sA K p.bT p.v1 p.v2 (ba s) g)
def Qv(rd:mU):Prop:=∀s v1 v2 p,rd s v1 v2=some p->okB v1->okB v2->okB p.v1/\okB p.v2/\(p.ret=true->p.bT=none)
theorem W2{ek:List St->AV->AV->Option fE}{rd:mU}(hr:Qv rd)(he:∀l v1 v2 p,ek l v1 v2=some p->okB v1->okB v2->okB p.v1/\okB p.v2/\(p.ret=true->p.bT=none)):∀l v1 v2 p,kY ek rd l v1 v2=some p->okB v1->okB v2->okB p.v1/\okB p.v2/\(p.ret=true->p.bT=none)
 |[],v1,v2,p,h,o1,o2=>by
  have h:some (⟨true,v1,v2,none⟩:fE)=some p:=h;injection h with h;subst h
  exact⟨o1,o2,fun _=>rfl⟩
 |s::r,v1,v2,p,h,o1,o2=>by
  unfold kY at h;split at h
  ·cases h
  rename_i q e;obtain⟨a1,a2,a3⟩:=hr _ _ _ _ e o1 o2;split at h
  ·injection h with h;subst h;exact⟨a1,a2,a3⟩
  split at h
  ·cases h
  rename_i q2 e2;obtain⟨b1,b2,b3⟩:=he _ _ _ _ e2 a1 a2;split at h
  ·injection h with h;subst h;exact⟨b1,b2,b3⟩
  split at h
  ·cases h
  rename_i q3 e3;obtain⟨c1,c2,c3⟩:=he _ _ _ _ e3 b1 b2;split at h
  ·injection h with h;subst h;exact⟨c1,c2,c3⟩
  exact W2 hr he r _ _ p h c1 c2
theorem OQ(hr:Qv rd):∀k l v1 v2 p,fK rd k l v1 v2=some p->okB v1->okB v2->okB p.v1/\okB p.v2/\(p.ret=true->p.bT=none)
 |0,l,v1,v2,p,h,_,_=>by cases h
 |k+1,l,v1,v2,p,h,o1,o2=>by
  unfold fK at h;split at h
  ·exact W2 hr (OQ hr k) l v1 v2 p h o1 o2
  ·cases h
theorem Ol{l:List St}{v1 v2:AV}(o1:okB v1)(o2:okB v2):Am rd k (.ab (nm<|bD l) 0 l.length) v1 v2=fK rd k l v1 v2:=by unfold Am;rw[abR];exact if_pos ⟨o1,o2⟩
theorem uj(l:List St):AV.hi (.ab (nm<|bD l) 0 l.length)=true:=aL.2<|cV _
theorem V7{l:List St}{v1 v2:AV}{p:fE}{c:List AV}{g:Option ae}(iZ:K.s1<top)(im:K.s2<top)(nd:K.s1≠K.s2)(o1:okB v1)(o2:okB v2)(h:fK rd k l v1 v2=some p)(o3:okB p.v1/\okB p.v2):
 bh pg (sp<|dm K rd k::L0) FU 6 (.fn 91) [.ab (nm<|bD l) 0 l.length,.yield 270] (sA K none v1 v2 c g)= .ok (.bool p.ret) (sA K p.bT p.v1 p.v2 c g):=by
 have u6:sp (dm K rd k::L0) 91=some (rF K (Am rd k) 270 eC dW):=by kernel_rfl
 have I:Mb K (sA K none v1 v2 c g) 270 271 272 273 v1 v2:=by
  refine⟨rfl,(aL.1 aZ:276<=top),⟨by show 270<276;omega,by show 271<276;omega,by show 272<276;omega,by show 273<276;omega⟩,⟨by omega,by omega,by omega,by omega,by omega,by omega⟩,⟨aP [(K.s1,.ptr<|some (272,0)),(K.s2,.ptr<|some (273,0))],?_,(V6 iZ im nd 272 273).1,(V6 iZ im nd 272 273).2⟩,?_,⟨eP v1,?_,xz _⟩,⟨eP v2,?_,xz _⟩⟩
  ·as_aux_lemma=>kernel_rfl
  ·as_aux_lemma=>kernel_rfl
  ·as_aux_lemma=>kernel_rfl
  ·as_aux_lemma=>kernel_rfl
 have key:=Pn (P:=pg) (F:=FU) (n:=5) u6 (uj l) cC I ((Ol o1 o2).trans h) o1 o2 o3.1 o3.2;rw[show MB K (sA K none v1 v2 c g) 270 271 272 273 p=sA K p.bT p.v1 p.v2 c g from by as_aux_lemma=>kernel_rfl] at key;exact key
theorem acM(hP:bC pg)(R:zn K (dm K rd k::L0) rd)(h':aV<|dm K rd k::L0){L:bV}(h:aV L):aV<|dm K rd (k+1)::L:=by
 refine WX hP gL (aL.1 aZ) R.s1 R.s2 R.Ga ir gZ kI kl h h' Tryz.func91 (body:=aW pg 91 []) aZ aZ fun x v1 v2 p e=>?_;unfold Am at e;split at e
 ·cases e
 rename_i l el;rw[abS el];split at e;rotate_left
 ·cases e
 rename_i ok;unfold fK at e;split at e;rotate_left
 ·cases e
 rename_i hlen;have hlen:=of_decide_eq_true hlen;have hg:Qv rd:=fun s a b p e x y=>(R.run s a b p e x y).1;refine⟨aL.1 aZ,fun B mc=>?_⟩;show av pg B 274 (sD K 270 pg (aA Tryz.f91) p) (sF 91 Tryz.f91 [.ab (nm<|bD l) 0 l.length,.yield 270])<|aj (oE K v1 v2) 274;have key:∀(r:List St) (i:Nat) (v1 v2:AV) (p:fE),l.drop i=r->okB v1->okB v2->kY (fK rd k) rd r v1 v2=some p->av pg B 274 (sD K 270 pg (aA Tryz.f91) p) (sj (nm<|bD l) l.length i) (aj (oE K v1 v2) 274):=by
  intro r;induction r with
  |nil=>
   intro i v1 v2 p hr _ _ e;have e:some (⟨true,v1,v2,none⟩:fE)=some p:=e;injection e with e;subst e
   exact ahk mc (by have:l.length<=i:=List.drop_eq_nil_iff.1 hr;omega)
  |cons a r ih=>
   intro i v1 v2 p hr o1 o2 e;have hl:i<l.length:=by
    by_cases q:i<l.length
    ·exact q
    ·rw[List.drop_of_length_le ah] at hr;cases hr
   have ha:l[i]? =some a:=by have:=congrArg (fun q=>q[0]?) hr;simp only[List.getElem?_drop,List.getElem?_cons_zero,Nat.add_zero] at this;exact this
   have lT:l.drop (i+1)=r:=by have:=congrArg (List.drop 1) hr;rw[List.drop_drop] at this;exact this
   have hx:=GU ha (z:=(i:Int)) ah;unfold kY at e;split at e
   ·cases e
   rename_i q eq1;obtain⟨⟨a1,a2,a3⟩,g,run⟩:=R.run _ _ _ _ eq1 o1 o2;obtain⟨kd,to,⟨oa,na,la⟩,⟨ob,nb,lb⟩,bd,el⟩:=a;rw[ba,aM,aM] at hx run;split at e
   ·rename_i qr;injection e with e;subst e
    rw[qr] at run;obtain⟨ret,w1,w2,bT⟩:=q;simp only at qr;subst qr;exact akc (u1:=v1) (u2:=v2) (x1:=v1) (x2:=v2) (pf:=⟨true,v1,v2,none⟩) mc (cV _) ah hlen hx run ah
   rename_i qr;rw[qr,a3 qr] at run;split at e
   ·cases e
   rename_i q2 ZB;obtain⟨b1,b2,b3⟩:=OQ hg _ _ _ _ _ ZB a1 a2;have hb:=V7 (K:=K) (L0:=L0) (c:=[(u8<|kd),(i6 to),(u8<|oa),(i6 na),(.ab (nm<|dz la) 0 la.length),(u8<|ob),(i6 nb),(.ab (nm<|dz lb) 0 lb.length),(.ab (nm<|bD bd) 0 bd.length),(.ab (nm<|bD el) 0 el.length)]) (g:=g) R.s1 R.s2 R.Ga a1 a2 ZB ⟨b1,b2⟩;split at e
   ·rename_i Gb;injection e with e;subst e
    rw[Gb] at hb;obtain⟨anZ,u1,u2,anP⟩:=q2;simp only at Gb;subst Gb;exact akd (x1:=v1) (x2:=v2) (pf:=⟨true,v1,v2,none⟩) mc (cV _) ah hlen hx run hb ah
   rename_i Gb;rw[Gb,b3 Gb] at hb;split at e
   ·cases e
   rename_i q3 ZC;obtain⟨c1,c2,c3⟩:=OQ hg _ _ _ _ _ ZC b1 b2;have ho:=V7 (K:=K) (L0:=L0) (c:=[(u8<|kd),(i6 to),(u8<|oa),(i6 na),(.ab (nm<|dz la) 0 la.length),(u8<|ob),(i6 nb),(.ab (nm<|dz lb) 0 lb.length),(.ab (nm<|bD bd) 0 bd.length),(.ab (nm<|bD el) 0 el.length)]) (g:=g) R.s1 R.s2 R.Ga b1 b2 ZC ⟨c1,c2⟩;split at e
   ·rename_i Gc;injection e with e;subst e
    rw[Gc] at ho;obtain⟨an0,x1,x2,anQ⟩:=q3;simp only at Gc;subst Gc;exact ake (pf:=⟨true,v1,v2,none⟩) mc (cV _) ah hlen hx run hb ho ah
   rename_i Gc;rw[Gc,c3 Gc] at ho;exact akf (bT:=none) mc (cV _) ah hlen hx run hb ho ah R.s1 R.s2 R.Ga c1 c2<|ih (i+1) _ _ _ lT c1 c2 e
 exact aip mc (cV _) R.s1 R.s2 R.Ga ok.1 ok.2<|key l 0 v1 v2 p List.drop_zero ok.1 ok.2 e
theorem BH(hP:bC pg){K:Cb}{rd:mU}{L0:bV}(R:∀k,zn K (dm K rd k::L0) rd)(h0:aV L0):∀(k:Nat) {L:bV},aV L->aV (dm K rd k::L)
 |0,L,h=>by
  refine WX hP gL (aL.1 aZ) (R 0).s1 (R 0).s2 (R 0).Ga ir gZ kI kl h cN Tryz.func91 (body:=aW pg 91 []) aZ aZ fun x v1 v2 p e=>?_;unfold Am at e;split at e
  ·cases e
  split at e
  ·cases e
  ·cases e
 |k+1,L,h=>acM hP (R k) (BH hP R h0 k h0) h
end n7
end
section
open Go Go.Rn Go.RowKit Go.Proofs
namespace uK
open cr cU dk dB fc gK dM vd oj n7
variable {rd:mU} {k N L kd:Nat} {p:fE} {B:aI} {n2 n1:Int}
noncomputable section
theorem IN(v:AV)(s:AS):(none:Option Nat)=none/\([]:List Nat)=[]/\(some (v,s):Option<|AV×AS)=some (v,s):=⟨rfl,rfl,rfl⟩
def fp(L:bV):Env:=wA pg 270 eC dW L 270 false
def Gd:Code:=aW pg 69 [1,0,1,0,0]
def Dn:Code:=aW pg 69 [1,0,1,0,1]
def KC:Cb:=⟨69,21,[7],Gd,Dn,2,3⟩
def sBC(v1 v2:AV)(c:List AV):AS:=⟨((sE KC v1 v2 c).h.put 275<|some<|.cells 10 (Tr.fill c 0 .nil) []).put 270<|some<|.loop .busy none 69 (aP [(2,.ptr<|some (272,0)),(3,.ptr<|some (273,0))]) 21 [7] Gd Dn 271,276,0,[],[]⟩
noncomputable abbrev sc(kk to oa na:Int)(Na La:Nat)(ob nb:Int)(Nb Lb Nd ld Ne le:Nat):List AV:=[(u8<|kk),(i6 to),(u8<|oa),(i6 na),(.ab Na 0 La),(u8<|ob),(i6 nb),(.ab Nb 0 Lb),(.ab Nd 0 ld),(.ab Ne 0 le)]
theorem aiq{Na La Nb Lb Nd ld Ne le:Nat}{kk to oa na ob nb:Int}{ca cb:Int}(h1:0<=n1/\n1<1000000000000)(h2:0<=n2/\n2<1000000000000)(h3:0<=ca/\ca<=1000000)(h4:0<=cb/\cb<=1000000)(hca:bp (aY<|z8 kd) [(.agg [(u8<|oa),(i6 na),(.ab Na 0 La)])]=some (.int .i64 ca))(hcb:bp (aY<|z8 kd) [(.agg [(u8<|ob),(i6 nb),(.ab Nb 0 Lb)])]=some (.int .i64 cb)):bh pg (sp<|dm KC rd k::[p8 kd]) FU 6 (.round 270) [.agg<|sc kk to oa na Na La ob nb Nb Lb Nd ld Ne le] (sE KC (i6 n1) (i6 n2)<|sc kk to oa na Na La ob nb Nb Lb Nd ld Ne le)= .ok (.bool true) (sA KC none (i6<|n1+1) (i6<|n2+(ca+cb)) (sc kk to oa na Na La ob nb Nb Lb Nd ld Ne le)<|some<|.cells 10 (Tr.fill (sc kk to oa na Na La ob nb Nb Lb Nd ld Ne le) 0 .nil) []):=DO (st:=.ready) (bT:=none) (fn:=69) (nt:=21) (d:=271) (t:=(aP [(2,.ptr<|some (272,0)),(3,.ptr<|some (273,0))])) (ps:=[7]) (a:=Gd) (b:=Dn) (s0:=sE KC (i6 n1) (i6 n2)<|sc kk to oa na Na La ob nb Nb Lb Nd ld Ne le) cC rfl<|Chunk.ev 2 ⟨69,je [7] [.agg<|sc kk to oa na Na La ob nb Nb Lb Nd ld Ne le]<|aP [(2,.ptr<|some (272,0)),(3,.ptr<|some (273,0))],21,[.code Gd,.beginRound,.code Dn],[],some 270⟩ ⟨69,((je [7] [.agg<|sc kk to oa na Na La ob nb Nb Lb Nd ld Ne le]<|aP [(2,.ptr<|some (272,0)),(3,.ptr<|some (273,0))]).put 4<|some<|.ptr<|some (275,0)),21,[.code Dn],[],some 270⟩ _ (sBC (i6 n1) (i6 n2)<|sc kk to oa na Na La ob nb Nb Lb Nd ld Ne le) cC<|zH (E:=fp<|dm KC rd k::[p8 kd]) (C:=(fun fr s1 _=>fr.round=none/\fr.defers=[]/\zO pg (bh pg (sp<|dm KC rd k::[p8 kd]) FU 5) 270 fr s1=some ((.bool true),(sA KC none (i6<|n1+1) (i6<|n2+(ca+cb)) (sc kk to oa na Na La ob nb Nb Lb Nd ld Ne le)<|some<|.cells 10 (Tr.fill (sc kk to oa na Na La ob nb Nb Lb Nd ld Ne le) 0 .nil) [])))) eJ rfl (fun fr s p h=>DN h.1 h.2.1 h.2.2) 900 (.st 2<|.rg<|.go 1<|.vl (i6<|n1+1)<|.go 1<|.en<|.rg<|.go 3<|.kn (i6 ca)<|.go 2<|.kn (i6 cb)<|.vl (i6<|ca+cb)<|.vl (i6<|n2+(ca+cb))<|.go 1<|.en<|.st 1<|.cut .no)<|ai (wI<|n1+1)<|ai hca<|ai hcb<|ai (wI<|ca+cb)<|ai (wI<|n2+(ca+cb))<|IN (.bool true)<|sA KC none (i6<|n1+1) (i6<|n2+(ca+cb)) (sc kk to oa na Na La ob nb Nb Lb Nd ld Ne le)<|some<|.cells 10 (Tr.fill (sc kk to oa na Na La ob nb Nb Lb Nd ld Ne le) 0 .nil) []
def zo(N L:Nat):List<|Nat×AV:=[(2,(.ptr<|some (270,0))),(3,(.ptr<|some (271,0))),(6,(.func (.func 90) [] [(.ptr<|some (272,0))]))]
def ti(v1 v2:AV)(N L:Nat):List<|Nat×Option ae:=aq++[(270,some<|eP v1),(271,some<|eP v2),(272,(some<|.cells 1 (Tr.fill [(.ab N 0 L)] 0 .nil) []))]
def zp(v1 v2:AV)(N L:Nat):AS:=aj (ti v1 v2 N L++[(273,some .defs),(274,some<|.loop .ready none 69 (aP<|zo N L) 21 KC.ps Gd Dn 273)]) 275
def tj(p:fE)(N L:Nat):AS:=aj (ti p.v1 p.v2 N L++[(273,some .defs),(274,some<|Cb.loop KC p.bT 270 271 273)]) 275
def MG(p:fE)(N L:Nat):AS:=aj (ti p.v1 p.v2 N L++[(273,some .defs),(274,some<|.loop .exhausted p.bT KC.fn (aP [(KC.s1,.ptr<|some (270,0)),(KC.s2,.ptr<|some (271,0))]) KC.nt KC.ps KC.a KC.b 273)]) 275
theorem air{L0:bV}{v1 v2:AV}{l:List St}(hN:N=nm (bD l))(hl:L=l.length)(o1:okB v1)(o2:okB v2)(h:fK rd k l v1 v2=some p)(o3:okB p.v1/\okB p.v2):
 bh pg (sp<|dm KC rd k::L0) FU 5 (.fn 91) [.ab N 0 L,.yield 274] (zp v1 v2 N L)= .ok (.bool p.ret) (tj p N L):=by
 subst hN;subst hl;have u6:sp (dm KC rd k::L0) 91=some (rF KC (Am rd k) 270 eC dW):=by kernel_rfl
 have I:Mb KC (zp v1 v2 (nm<|bD l) l.length) 274 273 270 271 v1 v2:=by
  refine⟨rfl,(aL.1 aZ:275<=top),⟨by show 274<275;omega,by show 273<275;omega,by show 270<275;omega,by show 271<275;omega⟩,⟨by omega,by omega,by omega,by omega,by omega,by omega⟩,⟨aP<|zo (nm<|bD l) l.length,?_,?_,?_⟩,?_,⟨eP v1,?_,xz _⟩,⟨eP v2,?_,xz _⟩⟩
  all_goals (as_aux_lemma=>kernel_rfl)
 have key:=Pn (P:=pg) (F:=FU) (n:=4) u6 (uj l) cC I ((Ol o1 o2).trans h) o1 o2 o3.1 o3.2;rw[show MB KC (zp v1 v2 (nm<|bD l) l.length) 274 273 270 271 p=tj p (nm<|bD l) l.length from by as_aux_lemma=>kernel_rfl] at key;exact key
theorem akg{v1 v2:AV}(hE:bh pg (sp<|dm KC rd k::[p8 kd]) FU 5 (.fn 91) [.ab N 0 L,.yield 274] (zp v1 v2 N L)= .ok (.bool p.ret) (tj p N L)):mT (fp<|dm KC rd k::[p8 kd]) 5 (aA Tryz.f90) (fun v s=>v= .tuple []/\s=(tj p N L)) (sF 90 Tryz.f90 [.yield 274,.ptr<|some (272,0)])<|zp v1 v2 N L:=wc (C:=fun _ _ _=>False) eJ rfl (fun _ _ _ h=>h.elim) 900 (.rg<|.go 2<|.cu (.bool p.ret) (tj p N L)<|.en<|.rt 1 .no)<|ai hE (show(AV.tuple []=AV.tuple []/\(tj p N L)=(tj p N L)) from⟨rfl,rfl⟩)
theorem alC{v1 v2:AV}(hE:bh pg (sp<|dm KC rd k::[p8 kd]) FU 5 (.fn 91) [.ab N 0 L,.yield 274] (zp v1 v2 N L)= .ok (.bool p.ret) (tj p N L)):bh pg (sp<|dm KC rd k::[p8 kd]) FU 6 (.fn 90) [.yield 274,.ptr<|some (272,0)] (zp v1 v2 N L)= .ok (.tuple []) (tj p N L):=by obtain⟨v,s2,h1,rfl,rfl⟩:=mT.call (E:=fp<|dm KC rd k::[p8 kd]) (n:=5) Tryz.func90 (xH Tryz.func90 cC)<|akg (v1:=v1) (v2:=v2) hE;exact h1
theorem yu:aW pg 69 [1,0,1,0]= .rangeFunc (.tmp 6) #[7] Gd Dn:=by kernel_rfl
def MH:List Item:=[.inBlock 0,.code<|aW pg 69 [1,1]]
def Fv(N L:Nat):AF:=⟨69,aP<|zo N L,21,.code (aW pg 69 [1,0,1,0])::MH,[],none⟩
theorem ais:lh 274 (tj p N L)= .ok p.bT (MG p N L):=by
 obtain⟨r,v1,v2,bT⟩:=p;cases bT with
 |none=>as_aux_lemma=>kernel_rfl
 |some c=>as_aux_lemma=>kernel_rfl
theorem rgC{v1 v2 v:AV}(mc:Mt (dm KC rd k::[p8 kd]) B)(hE:bh pg (sp<|dm KC rd k::[p8 kd]) FU 5 (.fn 91) [.ab N 0 L,.yield 274] (zp v1 v2 N L)= .ok (.bool p.ret) (tj p N L))(H:av pg B 270 (Fin pg (aA Tryz.f69) fun y _=>y=v) ⟨69,aP<|zo N L,21,andThen p.bT MH,[273],none⟩<|MG p N L):av pg B 270 (Fin pg (aA Tryz.f69) fun y _=>y=v) (Fv N L)<|aj (ti v1 v2 N L) 273:=by unfold Fv;rw[yu];exact av.chunk bU mc.2.2.1 mc.2.2.2 (GS (gv:=.func (.func 90) [] [.ptr<|some (272,0)]) (s1:=aj (ti v1 v2 N L++[(273,some .defs)]) 274) (s2:=zp v1 v2 N L) cC cC cC (alC (rd:=rd) (k:=k) (kd:=kd) hE) (show lh 274 (tj p N L)= .ok p.bT (MG p N L) from ais)) (by show 270<=273;omega) H
theorem akh(N L:Nat):((zo N L).map (fun q=>some q.2)=(zo N L).map (fun q=>some q.2))/\((ti (.int .i64 0) (.int .i64 0) N L).map (fun q=>q.2)=(ti (.int .i64 0) (.int .i64 0) N L).map (fun q=>q.2))/\(Fv N L=Fv N L/\aj (ti (.int .i64 0) (.int .i64 0) N L) 273=aj (ti (.int .i64 0) (.int .i64 0) N L) 273):=⟨rfl,rfl,rfl,rfl⟩
theorem goC{v:AV}(mc:Mt (dm KC rd k::[p8 kd]) B)(hn:top<=N)(H:av pg B 270 (Fin pg (aA Tryz.f69) fun y _=>y=v) (Fv N L)<|aj (ti (.int .i64 0) (.int .i64 0) N L) 273):av pg B 270 (Fin pg (aA Tryz.f69) fun y _=>y=v) (sF 69 Tryz.f69 [(.ab N 0 L)])<|aj aq 270:=wC mc (C:=(fun fr s1 _=>fr=Fv N L/\s1=aj (ti (.int .i64 0) (.int .i64 0) N L) 273)) nN (.st 4<|.rg<|.go 1<|.il<|.rt 5<|.en<|.st 1<|.ls (zo N L) (ti (.int .i64 0) (.int .i64 0) N L) 273 .no)<|akh N L
theorem enC{r:Bool}(mc:Mt (dm KC rd k::[p8 kd]) B):av pg B 270 (Fin pg (aA Tryz.f69) fun y _=>y= .tuple [.int .i64 n1,.int .i64 n2]) ⟨69,aP<|zo N L,21,andThen none MH,[273],none⟩<|MG ⟨r,.int .i64 n1,.int .i64 n2,none⟩ N L:=(Om (l:=273) (k:=8) (fr:=⟨69,aP<|zo N L,21,MH,[],none⟩) bU mc.2.2.1 mc.2.2.2 rfl rfl cC).2.2 (by show 270<=275;omega)
end
end uK
end
section
open Go Go.Rn Go.RowKit Go.Proofs
namespace qV
open cr cU dk dB fc CM gK AI dM vd oj n7 uK
variable {kd:Nat} {e:Ex}
noncomputable section
def iC:St->Ex
 | .mk _ _ a _ _ _=>a
def ib:St->Ex
 | .mk _ _ _ b _ _=>b
def Qx(kd:Nat)(s:St)(n1 n2:Int):Prop:=(0<=n1/\n1<1000000000000)/\(0<=n2/\n2<1000000000000)/\uA kd (iC s)=true/\uA kd (ib s)=true/\lI kd (iC s)<=1000000/\lI kd (ib s)<=1000000
open Classical in
def pF(kd:Nat):mU:=fun s v1 v2=>match v1,v2 with
 | .int .i64 n1,.int .i64 n2=>if Qx kd s n1 n2 then some ⟨true,.int .i64<|n1+1,.int .i64<|n2+(mG kd (iC s)+mG kd (ib s)),none⟩ else none
 |_,_=>none
theorem xd(n:Int):okB<|.int .i64 n:=⟨rfl,rfl⟩
theorem Vd(h:uA kd e=true)(h2:lI kd e<=1000000):0<=mG kd e/\mG kd e<=1000000:=by have:=GB kd e h;unfold mG;split<;>omega
theorem Ve(h:uA kd e=true)(h2:lI kd e<=1000000):bp (aY<|z8 kd) [.agg<|aM e]=some (i6<|mG kd e):=fu (ff z8.bS ⟨e,rfl,h,h2,rfl⟩) sB rfl
theorem V8{s:St}{v1 v2:AV}{p:fE}(h:pF kd s v1 v2=some p):∃n1 n2,v1= .int .i64 n1/\v2= .int .i64 n2/\Qx kd s n1 n2/\p=⟨true,.int .i64<|n1+1,.int .i64<|n2+(mG kd (iC s)+mG kd (ib s)),none⟩:=by
 unfold pF at h;split at h
 ·rename_i n1 n2;split at h
  ·rename_i q;injection h with h
   exact⟨n1,n2,rfl,rfl,q,h.symm⟩
  ·cases h
 ·cases h
theorem aki(kd k:Nat):zn KC (dm KC (pF kd) k::[p8 kd])<|pF kd:=by refine⟨aL.1 aZ,aL.1 aZ,(by show(2:Nat)≠3;omega),fun s v1 v2 p h _ _=>?_⟩;obtain⟨n1,n2,rfl,rfl,⟨h1,h2,h3,h4,h5,h6⟩,rfl⟩:=V8 h;refine⟨⟨xd _,xd _,fun _=>rfl⟩,some<|.cells 10 (Tr.fill (ba s) 0 .nil) [],?_⟩;have ca:=Ve h3 h5;have cb:=Ve h4 h6;have na:=Vd h3 h5;have nb:=Vd h4 h6;obtain⟨kk,to,⟨oa,xa,la⟩,⟨ob,xb,lb⟩,bd,el⟩:=s;simp only[iC,ib] at ca cb na nb ⊢;rw[ba,aM,aM];rw[aM] at ca cb;exact aiq h1 h2 na nb ca cb
def Q8(p:fE):Prop:=p.ret=true/\p.bT=none/\∃n1 n2,p.v1= .int .i64 n1/\p.v2= .int .i64 n2
theorem V9{kd:Nat}{ek:List St->AV->AV->Option fE}(he:∀l n1 n2 p,ek l (.int .i64 n1) (.int .i64 n2)=some p->Q8 p):∀l n1 n2 p,kY ek (pF kd) l (.int .i64 n1) (.int .i64 n2)=some p->Q8 p
 |[],n1,n2,p,h=>by
  have h:some (⟨true,.int .i64 n1,.int .i64 n2,none⟩:fE)=some p:=h;injection h with h;subst h
  exact⟨rfl,rfl,_,_,rfl,rfl⟩
 |s::r,n1,n2,p,h=>by
  unfold kY at h;split at h
  ·cases h
  rename_i q e;obtain⟨m1,m2,e1,e2,_,rfl⟩:=V8 e;cases e1;cases e2;simp only at h;split at h
  ·cases h
  rename_i q2 e2;obtain⟨b1,b2,x1,x2,y1,y2⟩:=he _ _ _ _ e2;rw[b1] at h;simp only at h;rw[y1,y2] at h;split at h
  ·cases h
  rename_i q3 e3;obtain⟨c1,c2,x3,x4,y3,y4⟩:=he _ _ _ _ e3;rw[c1] at h;simp only at h;rw[y3,y4] at h;exact V9 he r _ _ p h
theorem Uv:∀k l n1 n2 p,fK (pF kd) k l (.int .i64 n1) (.int .i64 n2)=some p->Q8 p
 |0,_,_,_,_,h=>by cases h
 |k+1,l,n1,n2,p,h=>by
  unfold fK at h;split at h
  ·exact V9 (Uv k) l n1 n2 p h
  ·cases h
def CN(kd k:Nat)(args:List AV)(v:AV):Prop:=∃(l:List St) (p:fE),args=[.ab (nm<|bD l) 0 l.length]/\fK (pF kd) k l (.int .i64 0) (.int .i64 0)=some p/\v= .tuple [p.v1,p.v2]
theorem afs{l l':List St}(h:[AV.ab (nm<|bD l) 0 l.length]=[.ab (nm<|bD l') 0 l'.length]):l=l':=by
 injection h with h _
 injection h with h1 _ _
 exact tL _ _<|ud (lW _) (lW _) h1
theorem CN.bS{k:Nat}(args:List AV)(v v':AV)(h:CN kd k args v)(h':CN kd k args v'):v=v':=by
 obtain⟨l,p,rfl,a,rfl⟩:=h;obtain⟨l',p',h1,a',rfl⟩:=h';rw[afs h1,a'] at a;injection a with a
 rw[a]
def lQ(kd k:Nat):FuncId×KE:=(69,.val<|aY<|CN kd k)
theorem aft(hP:bC pg)(kd k:Nat){L:bV}(h:aV L):aV<|lQ kd k::L:=by refine g9 hP h (BH hP (fun k=>aki kd k) (Uq hP kd cN) k<|Uq hP kd cN) Tryz.func69 fun args v e=>?_;obtain⟨l,p,rfl,he,rfl⟩:=gf e;refine⟨aL.1 aZ,fun B mc=>?_⟩;rw[←gN];obtain⟨r1,r2,n1,n2,v1,v2⟩:=Uv k l 0 0 p he;obtain⟨ret,w1,w2,bT⟩:=p;simp only at r1 r2 v1 v2;subst r1;subst r2;subst v1;subst v2;exact goC (rd:=pF kd) (k:=k) (kd:=kd) mc (cV _)<|rgC mc (air (rd:=pF kd) (k:=k) rfl rfl (xd _) (xd _) he ⟨xd _,xd _⟩)<|enC mc
end
end qV
end
section
open Go Go.Rn Go.RowKit Go.Proofs
namespace AJ
open cr cU dk dB fT fc gK dM vd F8 wD yv oj n7
variable {xb xa to ob oa na:Int} {ld Ne Nd Nb Na Lb La:Nat} {B:aI}
theorem ait{le:Nat}{kk z xa xb nb:Int}(mc:Mt [xc,wk,wj] B)(ho:bp (aY kv) [.int .u8 kk]=some (.agg [.bool false,.bool false,.bool false,.bool false,.bool false,.bool false])):av pg B 270 (Fin pg (aA Tryz.f71) fun y _=>y=(.bool<|decide<|False)) (sF 71 Tryz.f71 [(.agg [(u8<|kk),(i6 to),(u8<|oa),(i6 na),(.ab Na 0 La),(u8<|ob),(i6 nb),(.ab Nb 0 Lb),(.ab Nd 0 ld),(.ab Ne 0 le)]),(i6 z)])<|aj aq 270:=wS mc (.st 3<|.rg<|.go 2<|.kn (.agg [(.bool false),(.bool false),(.bool false),(.bool false),(.bool false),(.bool false)])<|.go 2<|.en<|.rt 10 .no)<|ai ho (show AV.bool false= .bool (decide<|False) from by rw[decide_eq_false fun h=>h])
theorem afu:bp (aY kv) [.int .u8 1]=some (.agg [(.bool true),(.bool true),(.bool true),(.bool false),(.bool false),(.bool false)]):=fu (ff kv.bS ⟨1,rfl,by omega,by omega,rfl⟩) (by rfl) rfl
theorem aiu{le:Nat}{z nb:Int}(mc:Mt [xc,wk,wj] B)(ha:bp (aY ph) [(.agg [(u8<|oa),(i6 na),(.ab Na 0 La)]),.int .i64 z]=some (.bool<|decide<|xa=1))(hb:bp (aY nA) [(.agg [(u8<|ob),(i6 nb),(.ab Nb 0 Lb)])]=some (.bool<|decide<|xb=1)):av pg B 270 (Fin pg (aA Tryz.f71) fun y _=>y=(.bool<|decide<|0<=to/\to<8/\xa=1/\xb=1/\ld=0/\le=0)) (sF 71 Tryz.f71 [(.agg [(u8<|.ofNat 1),(i6 to),(u8<|oa),(i6 na),(.ab Na 0 La),(u8<|ob),(i6 nb),(.ab Nb 0 Lb),(.ab Nd 0 ld),(.ab Ne 0 le)]),(i6 z)])<|aj aq 270:=wS mc (.st 3<|.rg<|.go 2<|.kn (.agg [(.bool true),(.bool true),(.bool true),(.bool false),(.bool false),(.bool false)])<|.go 2<|.en<|.st 8<|.rg<|.go 2<|.fk (.go 16<|.en<|.rt 4 .no)<|.go 3<|.fk (.go 12<|.en<|.rt 4 .no)<|.go 12<|.en<|.st 4<|.rg<|.go 5<|.il<|.st 7<|.rg<|.go 2<|.kp (xa=1) inferInstance (.go 1<|.en<|.rt 1<|.go 6<|.il<|.st 8<|.rg<|.go 1<|.kp (xb=1) inferInstance (.go 1<|.en<|.rt 1<|.go 8<|.fk (.go 9<|.fk (.go 3<|.en<|.rt 1 .no)<|.go 3<|.en<|.rt 1 .no)<|.go 13<|.en<|.rt 1 .no)<|.go 1<|.en<|.rt 1<|.go 22<|.en<|.rt 1 .no)<|.go 1<|.en<|.rt 1<|.go 29<|.en<|.rt 1 .no)<|ai (afu) Zq
theorem afv:bp (aY kv) [.int .u8 2]=some (.agg [(.bool true),(.bool true),(.bool true),(.bool false),(.bool false),(.bool false)]):=fu (ff kv.bS ⟨2,rfl,by omega,by omega,rfl⟩) (by rfl) rfl
theorem aiv{le:Nat}{z nb:Int}(mc:Mt [xc,wk,wj] B)(ha:bp (aY ph) [(.agg [(u8<|oa),(i6 na),(.ab Na 0 La)]),.int .i64 z]=some (.bool<|decide<|xa=1))(hb:bp (aY nA) [(.agg [(u8<|ob),(i6 nb),(.ab Nb 0 Lb)])]=some (.bool<|decide<|xb=1)):av pg B 270 (Fin pg (aA Tryz.f71) fun y _=>y=(.bool<|decide<|0<=to/\to<8/\xa=1/\xb=1/\ld=0/\le=0)) (sF 71 Tryz.f71 [(.agg [(u8<|.ofNat 2),(i6 to),(u8<|oa),(i6 na),(.ab Na 0 La),(u8<|ob),(i6 nb),(.ab Nb 0 Lb),(.ab Nd 0 ld),(.ab Ne 0 le)]),(i6 z)])<|aj aq 270:=wS mc (.st 3<|.rg<|.go 2<|.kn (.agg [(.bool true),(.bool true),(.bool true),(.bool false),(.bool false),(.bool false)])<|.go 2<|.en<|.st 8<|.rg<|.go 2<|.fk (.go 16<|.en<|.rt 4 .no)<|.go 3<|.fk (.go 12<|.en<|.rt 4 .no)<|.go 12<|.en<|.st 4<|.rg<|.go 5<|.il<|.st 7<|.rg<|.go 2<|.kp (xa=1) inferInstance (.go 1<|.en<|.rt 1<|.go 6<|.il<|.st 8<|.rg<|.go 1<|.kp (xb=1) inferInstance (.go 1<|.en<|.rt 1<|.go 8<|.fk (.go 9<|.fk (.go 3<|.en<|.rt 1 .no)<|.go 3<|.en<|.rt 1 .no)<|.go 13<|.en<|.rt 1 .no)<|.go 1<|.en<|.rt 1<|.go 22<|.en<|.rt 1 .no)<|.go 1<|.en<|.rt 1<|.go 29<|.en<|.rt 1 .no)<|ai (afv) Zq
theorem afw:bp (aY kv) [.int .u8 3]=some (.agg [(.bool true),(.bool false),(.bool true),(.bool true),(.bool false),(.bool false)]):=fu (ff kv.bS ⟨3,rfl,by omega,by omega,rfl⟩) (by rfl) rfl
theorem aiw{le:Nat}{z nb:Int}(mc:Mt [xc,wk,wj] B)(ha:bp (aY ph) [(.agg [(u8<|oa),(i6 na),(.ab Na 0 La)]),.int .i64 z]=some (.bool<|decide<|xa=1))(hb:bp (aY ph) [(.agg [(u8<|ob),(i6 nb),(.ab Nb 0 Lb)]),.int .i64 z]=some (.bool<|decide<|xb=1)):av pg B 270 (Fin pg (aA Tryz.f71) fun y _=>y=(.bool<|decide<|0<=to/\to<8/\to=0/\xa=1/\xb=1/\ld=0/\le=0)) (sF 71 Tryz.f71 [(.agg [(u8<|.ofNat 3),(i6 to),(u8<|oa),(i6 na),(.ab Na 0 La),(u8<|ob),(i6 nb),(.ab Nb 0 Lb),(.ab Nd 0 ld),(.ab Ne 0 le)]),(i6 z)])<|aj aq 270:=wS mc (.st 3<|.rg<|.go 2<|.kn (.agg [(.bool true),(.bool false),(.bool true),(.bool true),(.bool false),(.bool false)])<|.go 2<|.en<|.st 8<|.rg<|.go 2<|.fk (.go 16<|.en<|.rt 4 .no)<|.go 3<|.fk (.go 12<|.en<|.rt 4 .no)<|.go 8<|.fk (.go 3<|.en<|.rt 4 .no)<|.go 3<|.en<|.st 4<|.rg<|.go 5<|.il<|.st 7<|.rg<|.go 2<|.kp (xa=1) inferInstance (.go 1<|.en<|.rt 1<|.go 6<|.il<|.st 7<|.rg<|.go 2<|.kp (xb=1) inferInstance (.go 1<|.en<|.rt 1<|.go 8<|.fk (.go 9<|.fk (.go 3<|.en<|.rt 1 .no)<|.go 3<|.en<|.rt 1 .no)<|.go 13<|.en<|.rt 1 .no)<|.go 1<|.en<|.rt 1<|.go 22<|.en<|.rt 1 .no)<|.go 1<|.en<|.rt 1<|.go 29<|.en<|.rt 1 .no)<|ai (afw) RX
theorem afx:bp (aY kv) [.int .u8 4]=some (.agg [(.bool true),(.bool false),(.bool true),(.bool false),(.bool true),(.bool true)]):=fu (ff kv.bS ⟨4,rfl,by omega,by omega,rfl⟩) (by rfl) rfl
theorem aix{le:Nat}{z nb:Int}(mc:Mt [xc,wk,wj] B)(ha:bp (aY ph) [(.agg [(u8<|oa),(i6 na),(.ab Na 0 La)]),.int .i64 z]=some (.bool<|decide<|xa=1))(hb:bp (aY nA) [(.agg [(u8<|ob),(i6 nb),(.ab Nb 0 Lb)])]=some (.bool<|decide<|xb=1)):av pg B 270 (Fin pg (aA Tryz.f71) fun y _=>y=(.bool<|decide<|0<=to/\to<8/\to=0/\xa=1/\xb=1)) (sF 71 Tryz.f71 [(.agg [(u8<|.ofNat 4),(i6 to),(u8<|oa),(i6 na),(.ab Na 0 La),(u8<|ob),(i6 nb),(.ab Nb 0 Lb),(.ab Nd 0 ld),(.ab Ne 0 le)]),(i6 z)])<|aj aq 270:=wS mc (.st 3<|.rg<|.go 2<|.kn (.agg [(.bool true),(.bool false),(.bool true),(.bool false),(.bool true),(.bool true)])<|.go 2<|.en<|.st 8<|.rg<|.go 2<|.fk (.go 16<|.en<|.rt 4 .no)<|.go 3<|.fk (.go 12<|.en<|.rt 4 .no)<|.go 8<|.fk (.go 3<|.en<|.rt 4 .no)<|.go 3<|.en<|.st 4<|.rg<|.go 5<|.il<|.st 7<|.rg<|.go 2<|.kp (xa=1) inferInstance (.go 1<|.en<|.rt 1<|.go 6<|.il<|.st 8<|.rg<|.go 1<|.kp (xb=1) inferInstance (.go 1<|.en<|.rt 1<|.go 22<|.en<|.rt 1 .no)<|.go 1<|.en<|.rt 1<|.go 22<|.en<|.rt 1 .no)<|.go 1<|.en<|.rt 1<|.go 29<|.en<|.rt 1 .no)<|ai (afx) Zr
theorem afy:bp (aY kv) [.int .u8 5]=some (.agg [(.bool true),(.bool false),(.bool true),(.bool false),(.bool true),(.bool false)]):=fu (ff kv.bS ⟨5,rfl,by omega,by omega,rfl⟩) (by rfl) rfl
theorem aiy{le:Nat}{z nb:Int}(mc:Mt [xc,wk,wj] B)(ha:bp (aY ph) [(.agg [(u8<|oa),(i6 na),(.ab Na 0 La)]),.int .i64 z]=some (.bool<|decide<|xa=1))(hb:bp (aY nA) [(.agg [(u8<|ob),(i6 nb),(.ab Nb 0 Lb)])]=some (.bool<|decide<|xb=1)):av pg B 270 (Fin pg (aA Tryz.f71) fun y _=>y=(.bool<|decide<|0<=to/\to<8/\to=0/\xa=1/\xb=1/\le=0)) (sF 71 Tryz.f71 [(.agg [(u8<|.ofNat 5),(i6 to),(u8<|oa),(i6 na),(.ab Na 0 La),(u8<|ob),(i6 nb),(.ab Nb 0 Lb),(.ab Nd 0 ld),(.ab Ne 0 le)]),(i6 z)])<|aj aq 270:=wS mc (.st 3<|.rg<|.go 2<|.kn (.agg [(.bool true),(.bool false),(.bool true),(.bool false),(.bool true),(.bool false)])<|.go 2<|.en<|.st 8<|.rg<|.go 2<|.fk (.go 16<|.en<|.rt 4 .no)<|.go 3<|.fk (.go 12<|.en<|.rt 4 .no)<|.go 8<|.fk (.go 3<|.en<|.rt 4 .no)<|.go 3<|.en<|.st 4<|.rg<|.go 5<|.il<|.st 7<|.rg<|.go 2<|.kp (xa=1) inferInstance (.go 1<|.en<|.rt 1<|.go 6<|.il<|.st 8<|.rg<|.go 1<|.kp (xb=1) inferInstance (.go 1<|.en<|.rt 1<|.go 18<|.fk (.go 3<|.en<|.rt 1 .no)<|.go 3<|.en<|.rt 1 .no)<|.go 1<|.en<|.rt 1<|.go 22<|.en<|.rt 1 .no)<|.go 1<|.en<|.rt 1<|.go 29<|.en<|.rt 1 .no)<|ai (afy)<|ax (to<0) (fun _=>(show AV.bool false= .bool (decide<|0<=to/\to<8/\to=0/\xa=1/\xb=1/\le=0) from by rw[decide_eq_false ah])) fun _=>(ax (to>=8) (fun _=>(show AV.bool false= .bool (decide<|0<=to/\to<8/\to=0/\xa=1/\xb=1/\le=0) from by rw[decide_eq_false ah])) fun _=>(ax (to≠0) (fun _=>(show AV.bool false= .bool (decide<|0<=to/\to<8/\to=0/\xa=1/\xb=1/\le=0) from by rw[decide_eq_false ah])) fun _=>(ai ha<|ax (xa=1) (fun _=>(ai hb<|ax (xb=1) (fun _=>(ax ((le:Int)=0) (fun _=>(show AV.bool true= .bool (decide<|0<=to/\to<8/\to=0/\xa=1/\xb=1/\le=0) from by rw[decide_eq_true ah])) fun _=>(show AV.bool false= .bool (decide<|0<=to/\to<8/\to=0/\xa=1/\xb=1/\le=0) from by rw[decide_eq_false ah]))) fun _=>(show AV.bool false= .bool (decide<|0<=to/\to<8/\to=0/\xa=1/\xb=1/\le=0) from by rw[decide_eq_false ah]))) fun _=>(show AV.bool false= .bool (decide<|0<=to/\to<8/\to=0/\xa=1/\xb=1/\le=0) from by rw[decide_eq_false ah]))))
theorem afz:bp (aY kv) [.int .u8 6]=some (.agg [(.bool true),(.bool false),(.bool false),(.bool false),(.bool false),(.bool false)]):=fu (ff kv.bS ⟨6,rfl,by omega,by omega,rfl⟩) (by rfl) rfl
theorem aiz{le:Nat}{z nb:Int}(mc:Mt [xc,wk,wj] B)(ha:bp (aY nA) [(.agg [(u8<|oa),(i6 na),(.ab Na 0 La)])]=some (.bool<|decide<|xa=1))(hb:bp (aY nA) [(.agg [(u8<|ob),(i6 nb),(.ab Nb 0 Lb)])]=some (.bool<|decide<|xb=1)):av pg B 270 (Fin pg (aA Tryz.f71) fun y _=>y=(.bool<|decide<|0<=to/\to<8/\to=0/\xa=1/\xb=1/\ld=0/\le=0)) (sF 71 Tryz.f71 [(.agg [(u8<|.ofNat 6),(i6 to),(u8<|oa),(i6 na),(.ab Na 0 La),(u8<|ob),(i6 nb),(.ab Nb 0 Lb),(.ab Nd 0 ld),(.ab Ne 0 le)]),(i6 z)])<|aj aq 270:=wS mc (.st 3<|.rg<|.go 2<|.kn (.agg [(.bool true),(.bool false),(.bool false),(.bool false),(.bool false),(.bool false)])<|.go 2<|.en<|.st 8<|.rg<|.go 2<|.fk (.go 16<|.en<|.rt 4 .no)<|.go 3<|.fk (.go 12<|.en<|.rt 4 .no)<|.go 8<|.fk (.go 3<|.en<|.rt 4 .no)<|.go 3<|.en<|.st 4<|.rg<|.go 5<|.il<|.st 8<|.rg<|.go 1<|.kp (xa=1) inferInstance (.go 1<|.en<|.rt 1<|.go 6<|.il<|.st 8<|.rg<|.go 1<|.kp (xb=1) inferInstance (.go 1<|.en<|.rt 1<|.go 8<|.fk (.go 9<|.fk (.go 3<|.en<|.rt 1 .no)<|.go 3<|.en<|.rt 1 .no)<|.go 13<|.en<|.rt 1 .no)<|.go 1<|.en<|.rt 1<|.go 22<|.en<|.rt 1 .no)<|.go 1<|.en<|.rt 1<|.go 29<|.en<|.rt 1 .no)<|ai (afz) RX
theorem afA:bp (aY kv) [.int .u8 7]=some (.agg [(.bool true),(.bool false),(.bool false),(.bool false),(.bool true),(.bool true)]):=fu (ff kv.bS ⟨7,rfl,by omega,by omega,rfl⟩) (by rfl) rfl
theorem aiA{le:Nat}{z nb:Int}(mc:Mt [xc,wk,wj] B)(ha:bp (aY nA) [(.agg [(u8<|oa),(i6 na),(.ab Na 0 La)])]=some (.bool<|decide<|xa=1))(hb:bp (aY nA) [(.agg [(u8<|ob),(i6 nb),(.ab Nb 0 Lb)])]=some (.bool<|decide<|xb=1)):av pg B 270 (Fin pg (aA Tryz.f71) fun y _=>y=(.bool<|decide<|0<=to/\to<8/\to=0/\xa=1/\xb=1)) (sF 71 Tryz.f71 [(.agg [(u8<|.ofNat 7),(i6 to),(u8<|oa),(i6 na),(.ab Na 0 La),(u8<|ob),(i6 nb),(.ab Nb 0 Lb),(.ab Nd 0 ld),(.ab Ne 0 le)]),(i6 z)])<|aj aq 270:=wS mc (.st 3<|.rg<|.go 2<|.kn (.agg [(.bool true),(.bool false),(.bool false),(.bool false),(.bool true),(.bool true)])<|.go 2<|.en<|.st 8<|.rg<|.go 2<|.fk (.go 16<|.en<|.rt 4 .no)<|.go 3<|.fk (.go 12<|.en<|.rt 4 .no)<|.go 8<|.fk (.go 3<|.en<|.rt 4 .no)<|.go 3<|.en<|.st 4<|.rg<|.go 5<|.il<|.st 8<|.rg<|.go 1<|.kp (xa=1) inferInstance (.go 1<|.en<|.rt 1<|.go 6<|.il<|.st 8<|.rg<|.go 1<|.kp (xb=1) inferInstance (.go 1<|.en<|.rt 1<|.go 22<|.en<|.rt 1 .no)<|.go 1<|.en<|.rt 1<|.go 22<|.en<|.rt 1 .no)<|.go 1<|.en<|.rt 1<|.go 29<|.en<|.rt 1 .no)<|ai (afA) Zr
theorem afB:bp (aY kv) [.int .u8 8]=some (.agg [(.bool true),(.bool false),(.bool true),(.bool false),(.bool false),(.bool false)]):=fu (ff kv.bS ⟨8,rfl,by omega,by omega,rfl⟩) (by rfl) rfl
theorem aiB{le:Nat}{z nb:Int}(mc:Mt [xc,wk,wj] B)(ha:bp (aY ph) [(.agg [(u8<|oa),(i6 na),(.ab Na 0 La)]),.int .i64 z]=some (.bool<|decide<|xa=1))(hb:bp (aY nA) [(.agg [(u8<|ob),(i6 nb),(.ab Nb 0 Lb)])]=some (.bool<|decide<|xb=1)):av pg B 270 (Fin pg (aA Tryz.f71) fun y _=>y=(.bool<|decide<|0<=to/\to<8/\to=0/\xa=1/\xb=1/\ld=0/\le=0)) (sF 71 Tryz.f71 [(.agg [(u8<|.ofNat 8),(i6 to),(u8<|oa),(i6 na),(.ab Na 0 La),(u8<|ob),(i6 nb),(.ab Nb 0 Lb),(.ab Nd 0 ld),(.ab Ne 0 le)]),(i6 z)])<|aj aq 270:=wS mc (.st 3<|.rg<|.go 2<|.kn (.agg [(.bool true),(.bool false),(.bool true),(.bool false),(.bool false),(.bool false)])<|.go 2<|.en<|.st 8<|.rg<|.go 2<|.fk (.go 16<|.en<|.rt 4 .no)<|.go 3<|.fk (.go 12<|.en<|.rt 4 .no)<|.go 8<|.fk (.go 3<|.en<|.rt 4 .no)<|.go 3<|.en<|.st 4<|.rg<|.go 5<|.il<|.st 7<|.rg<|.go 2<|.kp (xa=1) inferInstance (.go 1<|.en<|.rt 1<|.go 6<|.il<|.st 8<|.rg<|.go 1<|.kp (xb=1) inferInstance (.go 1<|.en<|.rt 1<|.go 8<|.fk (.go 9<|.fk (.go 3<|.en<|.rt 1 .no)<|.go 3<|.en<|.rt 1 .no)<|.go 13<|.en<|.rt 1 .no)<|.go 1<|.en<|.rt 1<|.go 22<|.en<|.rt 1 .no)<|.go 1<|.en<|.rt 1<|.go 29<|.en<|.rt 1 .no)<|ai (afB) RX
end AJ
end
section
open Go Go.Rn Go.RowKit Go.Proofs
namespace Ct
open cr cU dk dB fT fc gK dM vd F8 wD yv jr oj n7 qV AJ
variable {e:Ex}
def uL(asked:Bool)(e:Ex)(z:Int):Bool:=match asked with
 |true=>Mf e z
 |false=>decide<|EW e
def Bb(l:List Bool)(to:Int)(a b:Ex)(body el:List St)(z:Int):Bool:=match l with
 |[is,t,fa,fb,bo,ot]=>is&&(decide (0<=to/\to<8)&&((t||decide (to=0))&&(uL fa a z&&(uL fb b z&&((bo||decide (body.length=0))&&(ot||decide (el.length=0)))))))
 |_=>false
def mW:St->Int->Bool
 | .mk kind to a b body el,z=>Bb (qD kind) to a b body el z
def Bc(args:List AV)(v:AV):Prop:=∃(s:St) (z:Int),args=[.agg<|ba s,.int .i64 z]/\(0<=iR s/\iR s<256)/\v= .bool (mW s z)
theorem Bc.bS(args:List AV)(v v':AV)(h:Bc args v)(h':Bc args v'):v=v':=by obtain⟨e,z,rfl,_,rfl⟩:=h;obtain⟨e',z',h1,_,rfl⟩:=h';simp only[List.cons.injEq,AV.agg.injEq,AV.int.injEq,true_and,_root_.and_true] at h1;rw[Od _ _ h1.1,h1.2]
noncomputable def lU:FuncId×KE:=(71,.val<|aY Bc)
theorem ahl{z:Int}:bp (aY ph) [.agg<|aM e,.int .i64 z]=some (.bool<|decide<|bit (Mf e z)=1):=by rw[xS];exact fu (ff ph.bS ⟨e,z,rfl,rfl⟩) sB rfl
theorem afC:bp (aY nA) [.agg<|aM e]=some (.bool<|decide<|bit (decide<|EW e)=1):=by rw[xS];exact fu (ff nA.bS ⟨e,rfl,rfl⟩) sB rfl
theorem ahm{fa:Bool}{z:Int}:match fa with
 |true=>bp (aY ph) [.agg<|aM e,.int .i64 z]=some (.bool<|decide<|bit (uL fa e z)=1)
 |false=>bp (aY nA) [.agg<|aM e]=some (.bool<|decide<|bit (uL fa e z)=1):=by
 cases fa
 ·exact afC
 ·exact ahl
theorem ahn(hP:bC pg){L:bV}(h:aV L):aV<|lU::L:=by
 refine g9 hP h (ag7 hP<|ad0 hP<|adX hP cN) Tryz.func71 fun args v e=>?_;obtain⟨⟨kind,to,⟨oa,na,la⟩,⟨ob,nb,lb⟩,bd,el⟩,z,rfl,hk,rfl⟩:=gf e;have hk:0<=kind/\kind<256:=hk;refine⟨aL.1 aZ,fun B mc=>?_⟩;rw[←gN];have fit:∀(fa:Bool) (op n:Int) (l:List Ex),match fa with
  |true=>bp (aY ph) [.agg [.int .u8 op,.int .i64 n,.ab (nm<|dz l) 0 l.length],.int .i64 z]=some (.bool<|decide<|bit (uL fa (.mk op n l) z)=1)
  |false=>bp (aY nA) [.agg [.int .u8 op,.int .i64 n,.ab (nm<|dz l) 0 l.length]]=some (.bool<|decide<|bit (uL fa (.mk op n l) z)=1):=fun fa op n l=>by
  have:=ahm (fa:=fa) (e:=.mk op n l) (z:=z);rw[aM] at this;exact this
 have bool:∀(t bo ot A B:Bool),(true&&(decide (0<=to/\to<8)&&((t||decide (to=0))&&(A&&(B&&((bo||decide (bd.length=0))&&(ot||decide (el.length=0))))))))=true↔(0<=to/\to<8)/\(t=true\/to=0)/\bit A=1/\bit B=1/\(bo=true\/bd.length=0)/\(ot=true\/el.length=0):=fun t bo ot A B=>by simp only[Bool.true_and,Bool.and_eq_true,Bool.or_eq_true,decide_eq_true_eq,Fu]
 rw[ba,aM,aM];by_cases hb:1<=kind/\kind<=8
 ·have hs:∀(t fa fb bo ot:Bool),qD kind=[true,t,fa,fb,bo,ot]->∀(Q:Prop) [Decidable Q],(Q↔(0<=to/\to<8)/\(t=true\/to=0)/\bit (uL fa (.mk oa na la) z)=1/\bit (uL fb (.mk ob nb lb) z)=1/\(bo=true\/bd.length=0)/\(ot=true\/el.length=0))->
   mW (.mk kind to (.mk oa na la) (.mk ob nb lb) bd el) z=decide Q:=fun t fa fb bo ot e Q _ hq=>by
   show Bb (qD kind) to _ _ bd el z=_;rw[e,Bool.eq_iff_iff,decide_eq_true_eq,hq];exact bool t bo ot _ _
  have done:∀(t fa fb bo ot:Bool),qD kind=[true,t,fa,fb,bo,ot]->∀(Q:Prop) [Decidable Q] {l:List AV} {K:List ResultVar} {nt:Nat} {ZD:List Item},(Q↔(0<=to/\to<8)/\(t=true\/to=0)/\bit (uL fa (.mk oa na la) z)=1/\bit (uL fb (.mk ob nb lb) z)=1/\(bo=true\/bd.length=0)/\(ot=true\/el.length=0))->
   av pg B 270 (Fin pg K fun y _=>y= .bool (decide Q)) ⟨71,eg l,nt,ZD,[],none⟩ (aj aq 270)->av pg B 270 (Fin pg K fun y _=>y= .bool (mW (.mk kind to (.mk oa na la) (.mk ob nb lb) bd el) z)) ⟨71,eg l,nt,ZD,[],none⟩ (aj aq 270):=fun t fa fb bo ot e Q _ _ _ _ _ hq key=>by
   rw[hs t fa fb bo ot e Q hq];exact key
  obtain rfl|rfl|rfl|rfl|rfl|rfl|rfl|rfl:kind=1\/kind=2\/kind=3\/kind=4\/kind=5\/kind=6\/kind=7\/kind=8:=by omega
  ·have key:=aiu (to:=to) (z:=z) (Nd:=nm<|bD bd) (Ne:=nm<|bD el) (ld:=bd.length) (le:=el.length) mc (fit true oa na la)<|fit false ob nb lb;exact done true true false false false rfl _ AG key
  ·have key:=aiv (to:=to) (z:=z) (Nd:=nm<|bD bd) (Ne:=nm<|bD el) (ld:=bd.length) (le:=el.length) mc (fit true oa na la)<|fit false ob nb lb;exact done true true false false false rfl _ AG key
  ·have key:=aiw (to:=to) (z:=z) (Nd:=nm<|bD bd) (Ne:=nm<|bD el) (ld:=bd.length) (le:=el.length) mc (fit true oa na la)<|fit true ob nb lb;exact done false true true false false rfl _ AG key
  ·have key:=aix (to:=to) (z:=z) (Nd:=nm<|bD bd) (Ne:=nm<|bD el) (ld:=bd.length) (le:=el.length) mc (fit true oa na la)<|fit false ob nb lb;exact done false true false true true rfl _ AG key
  ·have key:=aiy (to:=to) (z:=z) (Nd:=nm<|bD bd) (Ne:=nm<|bD el) (ld:=bd.length) (le:=el.length) mc (fit true oa na la)<|fit false ob nb lb;exact done false true false true false rfl _ AG key
  ·have key:=aiz (to:=to) (z:=z) (Nd:=nm<|bD bd) (Ne:=nm<|bD el) (ld:=bd.length) (le:=el.length) mc (fit false oa na la)<|fit false ob nb lb;exact done false false false false false rfl _ AG key
  ·have key:=aiA (to:=to) (z:=z) (Nd:=nm<|bD bd) (Ne:=nm<|bD el) (ld:=bd.length) (le:=el.length) mc (fit false oa na la)<|fit false ob nb lb;exact done false false false true true rfl _ AG key
  ·have key:=aiB (to:=to) (z:=z) (Nd:=nm<|bD bd) (Ne:=nm<|bD el) (ld:=bd.length) (le:=el.length) mc (fit true oa na la)<|fit false ob nb lb;exact done false true false false false rfl _ AG key
 ·have e0:qD kind=[false,false,false,false,false,false]:=by
   by_cases h9:9<=kind
   ·unfold qD;rw[List.getD_eq_getElem?_getD,List.getElem?_eq_none (show MF.length<=kind.toNat by show 9<=kind.toNat;omega)];rfl
   ·obtain rfl:kind=0:=by omega
    rfl
  have ho:bp (aY kv) [.int .u8 kind]=some (.agg [.bool false,.bool false,.bool false,.bool false,.bool false,.bool false]):=by have:=fu (ff kv.bS ⟨kind,rfl,hk.1,hk.2,rfl⟩:aY kv [.int .u8 kind]=_) rfl (by unfold w9;rw[e0];rfl);rw[this];unfold w9;rw[e0];rfl
  have key:=ait (to:=to) (z:=z) (xa:=0) (xb:=0) (Na:=nm<|dz la) (La:=la.length) (oa:=oa) (na:=na) (Nb:=nm<|dz lb) (Lb:=lb.length) (ob:=ob) (nb:=nb) (Nd:=nm<|bD bd) (Ne:=nm<|bD el) (ld:=bd.length) (le:=el.length) mc ho;rw[show mW (.mk kind to (.mk oa na la) (.mk ob nb lb) bd el) z=decide False from by show Bb (qD kind) to _ _ bd el z=_;rw[e0];rfl];exact key
end Ct
end
section
open Go Go.Rn Go.RowKit Go.Proofs
namespace yO
open cr cU dk dB fc gK jr dM vd oj n7 uK qV Ct
variable {rd:mU} {k N L ld Ne Nd Nb Na Lb La:Nat} {c2 c1 to ob oa na kd:Int} {p:fE} {B:aI} {P:Prop}
noncomputable section
def Bd:Code:=aW pg 41 [1,1,1,0,1,0,0]
def xe:Code:=aW pg 41 [1,1,1,0,1,0,1]
def KM:Cb:=⟨41,42,[31],Bd,xe,3,4⟩
def ZE(v1 v2:AV)(c:List AV):AS:=⟨((sE KM v1 v2 c).h.put 275<|some<|.cells 10 (Tr.fill c 0 .nil) []).put 270<|some<|.loop .busy none 41 (aP [(3,.ptr<|some (272,0)),(4,.ptr<|some (273,0))]) 42 [31] Bd xe 271,276,0,[],[]⟩
noncomputable abbrev jE(kd to oa na:Int)(Na La:Nat)(ob nb:Int)(Nb Lb Nd ld Ne le:Nat):List AV:=[(u8<|kd),(i6 to),(u8<|oa),(i6 na),(.ab Na 0 La),(u8<|ob),(i6 nb),(.ab Nb 0 Lb),(.ab Nd 0 ld),(.ab Ne 0 le)]
theorem acN{le:Nat}{nb:Int}{n:Int}(hs:bp (aY Bc) [.agg<|jE kd to oa na Na La ob nb Nb Lb Nd ld Ne le,.int .i64 n]=some (.bool true)):bh pg (sp<|dm KM rd k::[lU,jD 60,jF 60,lQ 60 60]) FU 6 (.round 270) [.agg<|jE kd to oa na Na La ob nb Nb Lb Nd ld Ne le] (sE KM (i6 n) (.bool false)<|jE kd to oa na Na La ob nb Nb Lb Nd ld Ne le)= .ok (.bool true) (sA KM none (.int .i64 n) (.bool false) (jE kd to oa na Na La ob nb Nb Lb Nd ld Ne le)<|some<|.cells 10 (Tr.fill (jE kd to oa na Na La ob nb Nb Lb Nd ld Ne le) 0 .nil) []):=DO (st:=.ready) (bT:=none) (fn:=41) (nt:=42) (d:=271) (t:=(aP [(3,.ptr<|some (272,0)),(4,.ptr<|some (273,0))])) (ps:=[31]) (a:=Bd) (b:=xe) (s0:=sE KM (i6 n) (.bool false)<|jE kd to oa na Na La ob nb Nb Lb Nd ld Ne le) cC rfl<|Chunk.ev 2 ⟨41,je [31] [.agg<|jE kd to oa na Na La ob nb Nb Lb Nd ld Ne le]<|aP [(3,.ptr<|some (272,0)),(4,.ptr<|some (273,0))],42,[.code Bd,.beginRound,.code xe],[],some 270⟩ ⟨41,((je [31] [.agg<|jE kd to oa na Na La ob nb Nb Lb Nd ld Ne le]<|aP [(3,.ptr<|some (272,0)),(4,.ptr<|some (273,0))]).put 7<|some<|.ptr<|some (275,0)),42,[.code xe],[],some 270⟩ _ (ZE (i6 n) (.bool false)<|jE kd to oa na Na La ob nb Nb Lb Nd ld Ne le) cC<|zH (E:=fp<|dm KM rd k::[lU,jD 60,jF 60,lQ 60 60]) (C:=(fun fr s1 _=>fr.round=none/\fr.defers=[]/\zO pg (bh pg (sp<|dm KM rd k::[lU,jD 60,jF 60,lQ 60 60]) FU 5) 270 fr s1=some ((.bool true),(sA KM none (.int .i64 n) (.bool false) (jE kd to oa na Na La ob nb Nb Lb Nd ld Ne le)<|some<|.cells 10 (Tr.fill (jE kd to oa na Na La ob nb Nb Lb Nd ld Ne le) 0 .nil) [])))) eJ rfl (fun fr s p h=>DN h.1 h.2.1 h.2.2) 900 (.st 2<|.rg<|.go 2<|.kn (.bool true)<|.go 1<|.en<|.st 3<|.cut .no)<|ai hs<|IN (.bool true)<|sA KM none (.int .i64 n) (.bool false) (jE kd to oa na Na La ob nb Nb Lb Nd ld Ne le)<|some<|.cells 10 (Tr.fill (jE kd to oa na Na La ob nb Nb Lb Nd ld Ne le) 0 .nil) []
theorem abU{le:Nat}{nb:Int}{n:Int}(hs:bp (aY Bc) [.agg<|jE kd to oa na Na La ob nb Nb Lb Nd ld Ne le,.int .i64 n]=some (.bool false)):bh pg (sp<|dm KM rd k::[lU,jD 60,jF 60,lQ 60 60]) FU 6 (.round 270) [.agg<|jE kd to oa na Na La ob nb Nb Lb Nd ld Ne le] (sE KM (i6 n) (.bool false)<|jE kd to oa na Na La ob nb Nb Lb Nd ld Ne le)= .ok (.bool false) (sA KM (some .ret) (.int .i64 n) (.bool false) (jE kd to oa na Na La ob nb Nb Lb Nd ld Ne le)<|some<|.cells 10 (Tr.fill (jE kd to oa na Na La ob nb Nb Lb Nd ld Ne le) 0 .nil) []):=DO (st:=.ready) (bT:=none) (fn:=41) (nt:=42) (d:=271) (t:=(aP [(3,.ptr<|some (272,0)),(4,.ptr<|some (273,0))])) (ps:=[31]) (a:=Bd) (b:=xe) (s0:=sE KM (i6 n) (.bool false)<|jE kd to oa na Na La ob nb Nb Lb Nd ld Ne le) cC rfl<|Chunk.ev 2 ⟨41,je [31] [.agg<|jE kd to oa na Na La ob nb Nb Lb Nd ld Ne le]<|aP [(3,.ptr<|some (272,0)),(4,.ptr<|some (273,0))],42,[.code Bd,.beginRound,.code xe],[],some 270⟩ ⟨41,((je [31] [.agg<|jE kd to oa na Na La ob nb Nb Lb Nd ld Ne le]<|aP [(3,.ptr<|some (272,0)),(4,.ptr<|some (273,0))]).put 7<|some<|.ptr<|some (275,0)),42,[.code xe],[],some 270⟩ _ (ZE (i6 n) (.bool false)<|jE kd to oa na Na La ob nb Nb Lb Nd ld Ne le) cC<|zH (E:=fp<|dm KM rd k::[lU,jD 60,jF 60,lQ 60 60]) (C:=(fun fr s1 _=>fr.round=none/\fr.defers=[]/\zO pg (bh pg (sp<|dm KM rd k::[lU,jD 60,jF 60,lQ 60 60]) FU 5) 270 fr s1=some ((.bool false),(sA KM (some .ret) (.int .i64 n) (.bool false) (jE kd to oa na Na La ob nb Nb Lb Nd ld Ne le)<|some<|.cells 10 (Tr.fill (jE kd to oa na Na La ob nb Nb Lb Nd ld Ne le) 0 .nil) [])))) eJ rfl (fun fr s p h=>DN h.1 h.2.1 h.2.2) 900 (.st 2<|.rg<|.go 2<|.kn (.bool false)<|.go 1<|.en<|.st 3<|.cut .no)<|ai hs<|IN (.bool false)<|sA KM (some .ret) (.int .i64 n) (.bool false) (jE kd to oa na Na La ob nb Nb Lb Nd ld Ne le)<|some<|.cells 10 (Tr.fill (jE kd to oa na Na La ob nb Nb Lb Nd ld Ne le) 0 .nil) []
def xf(N L:Nat)(c1 c2:Int):List<|Nat×AV:=[(3,(.ptr<|some (270,0))),(4,(.ptr<|some (271,0))),(5,(i6 c1)),(6,(i6 c2)),(30,(.func (.func 90) [] [(.ptr<|some (272,0))]))]
def tp(v1 v2:AV)(N L:Nat):List<|Nat×Option ae:=aq++[(270,some<|eP v1),(271,some<|eP v2),(272,(some<|.cells 1 (Tr.fill [(.ab N 0 L)] 0 .nil) []))]
def zq(v1 v2:AV)(N L:Nat)(c1 c2:Int):AS:=aj (tp v1 v2 N L++[(273,some .defs),(274,some<|.loop .ready none 41 (aP<|xf N L c1 c2) 42 KM.ps Bd xe 273)]) 275
def tq(p:fE)(N L:Nat):AS:=aj (tp p.v1 p.v2 N L++[(273,some .defs),(274,some<|Cb.loop KM p.bT 270 271 273)]) 275
def IP(p:fE)(N L:Nat):AS:=aj (tp p.v1 p.v2 N L++[(273,some .defs),(274,some<|.loop .exhausted p.bT KM.fn (aP [(KM.s1,.ptr<|some (270,0)),(KM.s2,.ptr<|some (271,0))]) KM.nt KM.ps KM.a KM.b 273)]) 275
theorem aiC{L0:bV}{v1 v2:AV}{l:List St}(hN:N=nm (bD l))(hl:L=l.length)(o1:okB v1)(o2:okB v2)(h:fK rd k l v1 v2=some p)(o3:okB p.v1/\okB p.v2):
 bh pg (sp<|dm KM rd k::L0) FU 5 (.fn 91) [.ab N 0 L,.yield 274] (zq v1 v2 N L c1 c2)= .ok (.bool p.ret) (tq p N L):=by
 subst hN;subst hl;have u6:sp (dm KM rd k::L0) 91=some (rF KM (Am rd k) 270 eC dW):=by kernel_rfl
 have I:Mb KM (zq v1 v2 (nm<|bD l) l.length c1 c2) 274 273 270 271 v1 v2:=by
  refine⟨rfl,(aL.1 aZ:275<=top),⟨by show 274<275;omega,by show 273<275;omega,by show 270<275;omega,by show 271<275;omega⟩,⟨by omega,by omega,by omega,by omega,by omega,by omega⟩,⟨aP<|xf (nm<|bD l) l.length c1 c2,?_,?_,?_⟩,?_,⟨eP v1,?_,xz _⟩,⟨eP v2,?_,xz _⟩⟩
  all_goals (as_aux_lemma=>kernel_rfl)
 have key:=Pn (P:=pg) (F:=FU) (n:=4) u6 (uj l) cC I ((Ol o1 o2).trans h) o1 o2 o3.1 o3.2;rw[show MB KM (zq v1 v2 (nm<|bD l) l.length c1 c2) 274 273 270 271 p=tq p (nm<|bD l) l.length from by as_aux_lemma=>kernel_rfl] at key;exact key
theorem akj{v1 v2:AV}(hE:bh pg (sp<|dm KM rd k::[lU,jD 60,jF 60,lQ 60 60]) FU 5 (.fn 91) [.ab N 0 L,.yield 274] (zq v1 v2 N L c1 c2)= .ok (.bool p.ret) (tq p N L)):mT (fp<|dm KM rd k::[lU,jD 60,jF 60,lQ 60 60]) 5 (aA Tryz.f90) (fun v s=>v= .tuple []/\s=(tq p N L)) (sF 90 Tryz.f90 [.yield 274,.ptr<|some (272,0)])<|zq v1 v2 N L c1 c2:=wc (C:=fun _ _ _=>False) eJ rfl (fun _ _ _ h=>h.elim) 900 (.rg<|.go 2<|.cu (.bool p.ret) (tq p N L)<|.en<|.rt 1 .no)<|ai hE (show(AV.tuple []=AV.tuple []/\(tq p N L)=(tq p N L)) from⟨rfl,rfl⟩)
theorem alM{v1 v2:AV}(hE:bh pg (sp<|dm KM rd k::[lU,jD 60,jF 60,lQ 60 60]) FU 5 (.fn 91) [.ab N 0 L,.yield 274] (zq v1 v2 N L c1 c2)= .ok (.bool p.ret) (tq p N L)):bh pg (sp<|dm KM rd k::[lU,jD 60,jF 60,lQ 60 60]) FU 6 (.fn 90) [.yield 274,.ptr<|some (272,0)] (zq v1 v2 N L c1 c2)= .ok (.tuple []) (tq p N L):=by obtain⟨v,s2,h1,rfl,rfl⟩:=mT.call (E:=fp<|dm KM rd k::[lU,jD 60,jF 60,lQ 60 60]) (n:=5) Tryz.func90 (xH Tryz.func90 cC)<|akj (v1:=v1) (v2:=v2) hE;exact h1
theorem aiD:aW pg 41 [1,1,1,0,1,0]= .rangeFunc (.tmp 30) #[31] Bd xe:=by kernel_rfl
def IQ:List Item:=[.inBlock 0,.code<|aW pg 41 [1,1,1,1]]
def Fw(N L:Nat)(c1 c2:Int):AF:=⟨41,aP<|xf N L c1 c2,42,.code (aW pg 41 [1,1,1,0,1,0])::IQ,[],none⟩
theorem aiE:lh 274 (tq p N L)= .ok p.bT (IP p N L):=by
 obtain⟨r,v1,v2,bT⟩:=p;cases bT with
 |none=>as_aux_lemma=>kernel_rfl
 |some c=>as_aux_lemma=>kernel_rfl
theorem rgM{v1 v2 v:AV}(mc:Mt (dm KM rd k::[lU,jD 60,jF 60,lQ 60 60]) B)(hE:bh pg (sp<|dm KM rd k::[lU,jD 60,jF 60,lQ 60 60]) FU 5 (.fn 91) [.ab N 0 L,.yield 274] (zq v1 v2 N L c1 c2)= .ok (.bool p.ret) (tq p N L))(H:av pg B 270 (Fin pg (aA Tryz.f41) fun y _=>y=v) ⟨41,aP<|xf N L c1 c2,42,andThen p.bT IQ,[273],none⟩<|IP p N L):av pg B 270 (Fin pg (aA Tryz.f41) fun y _=>y=v) (Fw N L c1 c2)<|aj (tp v1 v2 N L) 273:=by unfold Fw;rw[aiD];exact av.chunk bU mc.2.2.1 mc.2.2.2 (GS (gv:=.func (.func 90) [] [.ptr<|some (272,0)]) (s1:=aj (tp v1 v2 N L++[(273,some .defs)]) 274) (s2:=zq v1 v2 N L c1 c2) cC cC cC (alM (rd:=rd) (k:=k) hE) (show lh 274 (tq p N L)= .ok p.bT (IP p N L) from aiE)) (by show 270<=273;omega) H
theorem akk{n:Int}(N L:Nat)(c1 c2:Int)(h:P):((xf N L c1 c2).map (fun q=>some q.2)=(xf N L c1 c2).map (fun q=>some q.2))/\((tp (.int .i64 n) (.bool false) N L).map (fun q=>q.2)=(tp (.int .i64 n) (.bool false) N L).map (fun q=>q.2))/\((Fw N L c1 c2=Fw N L c1 c2/\aj (tp (.int .i64 n) (.bool false) N L) 273=aj (tp (.int .i64 n) (.bool false) N L) 273)/\P):=⟨rfl,rfl,⟨rfl,rfl⟩,h⟩
theorem goM{n dp cs:Int}{v:AV}(mc:Mt (dm KM rd k::[lU,jD 60,jF 60,lQ 60 60]) B)(hn:top<=N)(hD:bp (aY<|ui 60) [(.ab N 0 L)]=some (.int .i64 dp))(hC:bp (aY<|uB 60) [(.ab N 0 L)]=some (.int .i64 cs))(hN:bp (aY<|CN 60 60) [(.ab N 0 L)]=some (.tuple [.int .i64 c1,.int .i64 c2]))(hf:¬(0<=n/\n<6/\dp<=6/\cs<=2000)->AV.bool false=v)(H:(0<=n/\n<6/\dp<=6/\cs<=2000)->av pg B 270 (Fin pg (aA Tryz.f41) fun y _=>y=v) (Fw N L c1 c2) (aj (tp (.int .i64 n) (.bool false) N L) 273)):av pg B 270 (Fin pg (aA Tryz.f41) fun y _=>y=v) (sF 41 Tryz.f41 [(.ab N 0 L),(i6 n)])<|aj aq 270:=wC mc (C:=(fun fr s1 _=>(fr=Fw N L c1 c2/\s1=aj (tp (.int .i64 n) (.bool false) N L) 273)/\(0<=n/\n<6/\dp<=6/\cs<=2000))) (fun fr s1 p hC=>by obtain⟨⟨rfl,rfl⟩,hq⟩:=hC;exact H hq) (.st 4<|.rg<|.go 1<|.fk (.go 14<|.en<|.rt 4 .no)<|.go 2<|.fk (.go 11<|.en<|.rt 4 .no)<|.go 3<|.kn (i6 dp)<|.fk (.go 6<|.en<|.rt 4 .no)<|.go 3<|.kn (i6 cs)<|.fk (.go 1<|.en<|.rt 4 .no)<|.go 1<|.en<|.st 3<|.rg<|.go 1<|.kn (.tuple [(i6 c1),(i6 c2)])<|.go 5<|.en<|.st 2<|.rg<|.go 1<|.il<|.rt 5<|.en<|.st 1<|.ls (xf N L c1 c2) (tp (.int .i64 n) (.bool false) N L) 273 .no)<|ax (n<0) (fun _=>(show AV.bool false=v from hf ah)) fun _=>(ax (n>=6) (fun _=>(show AV.bool false=v from hf ah)) fun _=>(ai hD<|ax (dp>6) (fun _=>(show AV.bool false=v from hf ah)) fun _=>(ai hC<|ax (cs>2000) (fun _=>(show AV.bool false=v from hf ah)) fun _=>(ai hN<|akk (n:=n) N L c1 c2 (show(0<=n/\n<6/\dp<=6/\cs<=2000) from by omega)))))
theorem akl{n:Int}(mc:Mt (dm KM rd k::[lU,jD 60,jF 60,lQ 60 60]) B):av pg B 270 (Fin pg (aA Tryz.f41) fun y _=>y= .bool false) ⟨41,aP<|xf N L c1 c2,42,andThen (some .ret) IQ,[273],none⟩<|IP ⟨false,.int .i64 n,.bool false,some .ret⟩ N L:=(Om (l:=273) (k:=8) (fr:=⟨41,aP<|xf N L c1 c2,42,.code .ret::IQ,[],none⟩) bU mc.2.2.1 mc.2.2.2 rfl rfl cC).2.2 (by show 270<=275;omega)
theorem akm [Decidable P](h:P):(none:Option Nat)=none/\([]:List Nat)=[]/\(some (.bool true):Option AV)=some (.bool<|decide P):=⟨rfl,rfl,by rw[decide_eq_true h]⟩
theorem YA [Decidable P](h:¬P):(none:Option Nat)=none/\([]:List Nat)=[]/\(some (.bool false):Option AV)=some (.bool<|decide P):=⟨rfl,rfl,by rw[decide_eq_false h]⟩
theorem akn{n:Int}(mc:Mt (dm KM rd k::[lU,jD 60,jF 60,lQ 60 60]) B):av pg B 270 (Fin pg (aA Tryz.f41) fun y _=>y= .bool (decide<|c1<=40/\c2<=300)) ⟨41,aP<|xf N L c1 c2,42,andThen none IQ,[273],none⟩<|IP ⟨true,.int .i64 n,.bool false,none⟩ N L:=afr (E:=fp<|dm KM rd k::[lU,jD 60,jF 60,lQ 60 60]) (C:=(fun fr s1 _=>fr.round=none/\fr.defers=[]/\Qw pg (bh pg (sp<|dm KM rd k::[lU,jD 60,jF 60,lQ 60 60]) FU 6) (aA Tryz.f41) 8 273 fr s1=some (.bool<|decide<|c1<=40/\c2<=300))) eJ rfl bU mc.2.2.1 mc.2.2.2 (fun fr s p h=>Om bU mc.2.2.1 mc.2.2.2 h.1 h.2.1 h.2.2) (by show 270<=275;omega) 900 (.st 2<|.rg<|.go 1<|.fk (.go 2<|.fk (.go 2<|.en<|.cut .no)<|.go 2<|.en<|.cut .no)<|.go 5<|.en<|.cut .no)<|ax (c1<=40) (fun _=>(ax (c2<=300) (fun _=>(akm (show(c1<=40/\c2<=300) from by omega))) fun _=>(YA (show ¬(c1<=40/\c2<=300) from by omega)))) fun _=>(YA (show ¬(c1<=40/\c2<=300) from by omega))
end
end yO
end
section
open Go Go.Rn Go.RowKit Go.Proofs
namespace EX
open cr cU dk dB fc CM gK AI jr XI dM vd oj n7 uK qV Ct yO
noncomputable section
open Classical in
def gz:mU:=fun s v1 v2=>match v1,v2 with
 | .int .i64 n,.bool false=>if 0<=iR s/\iR s<256 then(match mW s n with
  |true=>some ⟨true,.int .i64 n,.bool false,none⟩
  |false=>some ⟨false,.int .i64 n,.bool false,some .ret⟩) else none
 |_,_=>none
abbrev pY(n:Int):fE:=⟨true,.int .i64 n,.bool false,none⟩
abbrev pN(n:Int):fE:=⟨false,.int .i64 n,.bool false,some .ret⟩
theorem Pr{s:St}{v1 v2:AV}{p:fE}(h:gz s v1 v2=some p):∃n,(v1= .int .i64 n/\v2= .bool false/\0<=iR s/\iR s<256)/\p=(if mW s n=true then pY n else pN n):=by
 unfold gz at h;split at h
 ·rename_i n;split at h
  ·rename_i q;refine⟨n,⟨rfl,rfl,q⟩,?_⟩;split at h<;>rename_i e<;>injection h with h<;>rw[e]
   ·rw[if_pos rfl];exact h.symm
   ·rw[if_neg (by intro q;cases q)];exact h.symm
  ·cases h
 ·cases h
theorem okF(b:Bool):okB<|.bool b:=⟨rfl,rfl⟩
theorem aiF{s:St}{n:Int}(h:0<=iR s/\iR s<256):bp (aY Bc) [.agg<|ba s,.int .i64 n]=some (.bool<|mW s n):=fu (ff Bc.bS ⟨s,n,rfl,h,rfl⟩) (by rw[List.all_cons,show AV.hi (.agg<|ba s)=true from List.all_eq_true.2 fun x hx=>D3<|List.all_eq_true.1 (lF.gi s) x hx];rfl) rfl
theorem ako(k:Nat):zn KM (dm KM gz k::[lU,jD 60,jF 60,lQ 60 60]) gz:=by
 refine⟨aL.1 aZ,aL.1 aZ,(by show(3:Nat)≠4;omega),fun s v1 v2 p h _ _=>?_⟩;obtain⟨n,⟨rfl,rfl,hk⟩,rfl⟩:=Pr h;have hs:=aiF (n:=n) hk;cases e:mW s n with
 |true=>rw[e] at hs;rw[if_pos rfl];refine⟨⟨xd _,okF _,fun _=>rfl⟩,some<|.cells 10 (Tr.fill (ba s) 0 .nil) [],?_⟩;obtain⟨kk,to,⟨oa,xa,la⟩,⟨ob,xb,lb⟩,bd,el⟩:=s;rw[ba,aM,aM] at hs ⊢;exact acN hs
 |false=>rw[e] at hs;rw[if_neg (by intro q;cases q)];refine⟨⟨xd _,okF _,fun q=>by cases q⟩,some<|.cells 10 (Tr.fill (ba s) 0 .nil) [],?_⟩;obtain⟨kk,to,⟨oa,xa,la⟩,⟨ob,xb,lb⟩,bd,el⟩:=s;rw[ba,aM,aM] at hs ⊢;exact abU hs
theorem Wa{n:Int}{ek:List St->AV->AV->Option fE}(he:∀l p,ek l (.int .i64 n) (.bool false)=some p->p=pY n\/p=pN n):∀l p,kY ek gz l (.int .i64 n) (.bool false)=some p->p=pY n\/p=pN n
 |[],p,h=>by
  have h:some (pY n)=some p:=h;injection h with h
  exact .inl h.symm
 |s::r,p,h=>by
  unfold kY at h;split at h
  ·cases h
  rename_i q e;obtain⟨n',⟨fC,_⟩,hq⟩:=Pr e;injection fC with _ fC
  subst fC;cases hs:mW s n with
  |false=>rw[hs,if_neg (by intro q;cases q)] at hq;subst hq;injection h with h;exact .inr h.symm
  |true=>
   rw[hs,if_pos rfl] at hq;subst hq;have h:(match ek (ct s) (.int .i64 n) (.bool false) with
    |none=>none
    |some q=>match q.ret with
     |false=>some q
     |true=>match ek (cm s) q.v1 q.v2 with
      |none=>none
      |some u=>match u.ret with
       |false=>some u
       |true=>kY ek gz r u.v1 u.v2)=some p:=h
   split at h
   ·cases h
   rename_i q2 e2;rcases he _ _ e2 with rfl|rfl
   ·have h:(match ek (cm s) (.int .i64 n) (.bool false) with
     |none=>none
     |some u=>match u.ret with
      |false=>some u
      |true=>kY ek gz r u.v1 u.v2)=some p:=h
    split at h
    ·cases h
    rename_i q3 e3;rcases he _ _ e3 with rfl|rfl
    ·exact Wa he r p h
    ·injection h with h;exact .inr h.symm
   ·injection h with h;exact .inr h.symm
theorem Bv{n:Int}:∀k l p,fK gz k l (.int .i64 n) (.bool false)=some p->p=pY n\/p=pN n
 |0,_,_,h=>by cases h
 |k+1,l,p,h=>by
  unfold fK at h;split at h
  ·exact Wa (Bv k) l p h
  ·cases h
def AK(l:List St)(n:Int)(b:Bool):Prop:=∃(c1 c2:Int) (p:fE),fK (pF 60) 60 l (.int .i64 0) (.int .i64 0)=some ⟨true,.int .i64 c1,.int .i64 c2,none⟩/\fK gz 60 l (.int .i64 n) (.bool false)=some p/\b=(decide (0<=n/\n<6/\fw 60 l<=6/\si 60 l<=2000)&&(p.ret&&decide (c1<=40/\c2<=300)))
def An(args:List AV)(v:AV):Prop:=∃(l:List St) (n:Int) (b:Bool),args=[.ab (nm<|bD l) 0 l.length,.int .i64 n]/\sg 60 l=true/\lq 60 l=true/\AK l n b/\v= .bool b
theorem An.bS(args:List AV)(v v':AV)(h:An args v)(h':An args v'):v=v':=by
 obtain⟨l,n,b,rfl,_,_,⟨c1,c2,p,a1,a2,a3⟩,rfl⟩:=h;obtain⟨l',n',b',h1,_,_,⟨c1',c2',p',b1,b2,b3⟩,rfl⟩:=h';simp only[List.cons.injEq,AV.ab.injEq,AV.int.injEq,true_and,_root_.and_true] at h1;have e:l=l':=tL _ _<|ud (lW _) (lW _) h1.1.1;obtain rfl:=e;obtain rfl:=h1.2;rw[a1] at b1;injection b1 with b1;injection b1 with _ q1 q2 _
 injection q1 with _ q1;injection q2 with _ q2
 rw[a2] at b2;injection b2 with b2
 rw[a3,b3,q1,q2,b2]
def Fx:FuncId×KE:=(41,.val<|aY An)
theorem afD(hP:bC pg){L:bV}(h:aV L):aV<|Fx::L:=by
 have h0:aV [lU,jD 60,jF 60,lQ 60 60]:=ahn hP<|Ur hP 60<|Vc hP 60<|aft hP 60 60 cN;refine g9 hP h (BH hP ako h0 60 h0) Tryz.func41 fun args v e=>?_;obtain⟨l,n,b,rfl,hd,hc,⟨c1,c2,p,e1,e2,hb⟩,rfl⟩:=gf e;refine⟨aL.1 aZ,fun B mc=>?_⟩;rw[←gN];have hi:[AV.ab (nm<|bD l) 0 l.length].all AV.hi=true:=by rw[List.all_cons,uj];rfl
 have hD:=fu (ff ui.bS ⟨l,rfl,hd,by omega,rfl⟩:aY (ui 60) [.ab (nm<|bD l) 0 l.length]=_) hi rfl;have hC:=fu (ff uB.bS ⟨l,rfl,hc,rfl⟩:aY (uB 60) [.ab (nm<|bD l) 0 l.length]=_) hi rfl;have hN:=fu (ff CN.bS ⟨l,_,rfl,e1,rfl⟩:aY (CN 60 60) [.ab (nm<|bD l) 0 l.length]=_) hi rfl;refine goM (rd:=gz) (k:=60) mc (cV _) hD hC hN (fun hq=>?_) fun hq=>?_
 ·rw[hb,decide_eq_false hq];rfl
 ·have ok:okB p.v1/\okB p.v2:=by rcases Bv 60 l p e2 with rfl|rfl<;>exact⟨xd _,okF _⟩
  refine rgM (rd:=gz) (k:=60) (p:=p) mc (aiC (c1:=c1) (c2:=c2) rfl rfl (xd _) (okF _) e2 ok) ?_;rw[hb,decide_eq_true hq];rcases Bv 60 l p e2 with rfl|rfl
  ·exact akn mc
  ·exact akl mc
end
end EX
end
section
open Go Go.Rn Go.RowKit Go.Proofs
namespace fQ
open cr
variable {α:Type} {bG j K:Nat} {enc:α->List AV} {cap:cR}
theorem Ge(enc:α->List AV)(l L:List α){j9 n o len:Nat}{X:Prop}(hf:top<=n/\cx FU n o (len*K)=some (L.map enc).flatten/\len=L.length)(h1:∀x,(enc x).length=K/\(enc x).all AV.cj=true)(h2:2*(l.length+L.length)*j9+4096*j9<=room)(h3:(l.length+L.length)*K<=Rn.top)(x:X):
 l.length=l.length/\some (aJ enc l)=some (aJ enc l)/\top<=n/\cx FU n o (len*K)=some (L.map enc).flatten/\len=L.length/\(∀x,(enc x).length=K/\(enc x).all AV.cj=true)/\2*(l.length+L.length)*j9+4096*j9<=room/\(l.length+L.length)*K<=Rn.top/\X:=
 ⟨rfl,rfl,hf.1,hf.2.1,hf.2.2,h1,h2,h3,x⟩
def CO(bG k:Nat):Nat:=if k<270\/top<=k then k else max k bG
theorem JT{k:Nat}(h:top<=k):CO bG k=k:=if_pos<|.inr h
theorem PR(he:mh K enc)(l:List α){n:Nat}(hc:(match cap with| .known c=>Nat.ble l.length c| .ar _ _=>true| .lost=>false)=true)(hl:l.length*K<=top)(hj:j<top)(hn:n<top)(hs:bG<top):gY FU 270 bG [(j,.slice (some (n,0)) l.length cap)] [(n,some<|aJ enc l)] [(j,aD enc l)] [] 270:=by
 refine⟨[(n,nm (l.map enc).flatten,(l.map enc).flatten)],CO bG,fun k hk=>if_pos<|.inl hk,fun k h1 h2=>?_,fun k hk=>JT hk,by unfold top;decide,fun p hp=>?_,fun p hp=>oh,fun p hp=>oh,fun p hp=>?_,fun p _ q hq=>(by cases hq)⟩
 ·unfold CO;rw[if_neg ah];omega
 ·rw[List.mem_singleton] at hp;subst hp;exact⟨hj,_,List.mem_singleton.2 rfl,GZ (List.mem_singleton.2 rfl) (fun k hk=>JT hk) hc⟩
 ·rw[List.mem_singleton] at hp;subst hp;exact G0 he hl n hn<|List.mem_singleton.2 rfl
theorem PS(hj:j<top)(hs:bG<top):gY FU 270 bG [(j,.slice none 0<|.known 0)] [] [(j,aD enc [])] [] 270:=by
 refine⟨[],CO bG,fun k hk=>if_pos<|.inl hk,fun k h1 h2=>?_,fun k hk=>JT hk,by unfold top;decide,fun p hp=>?_,fun p hp=>oh,fun p hp=>oh,fun p hp=>oh,fun p hp=>oh⟩
 ·unfold CO;rw[if_neg ah];omega
 ·rw[List.mem_singleton] at hp;subst hp;exact⟨hj,_,List.mem_singleton.2 rfl,Ka⟩
theorem Vf{n:Nat}(hj:j<top)(hs:bG<top):gY FU 270 bG [(j,.slice (some (n,0)) 0 cap)] [] [(j,aD enc [])] [] 270:=by
 refine⟨[],CO bG,fun k hk=>if_pos<|.inl hk,fun k h1 h2=>?_,fun k hk=>JT hk,by unfold top;decide,fun p hp=>?_,fun p hp=>oh,fun p hp=>oh,fun p hp=>oh,fun p hp=>oh⟩
 ·unfold CO;rw[if_neg ah];omega
 ·rw[List.mem_singleton] at hp;subst hp;exact⟨hj,_,List.mem_singleton.2 rfl,acA⟩
end fQ
end
