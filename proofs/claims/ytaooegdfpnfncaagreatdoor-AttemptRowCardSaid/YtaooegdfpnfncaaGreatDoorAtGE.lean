import Derived.Test.YtaooegdfpnfncaaGreatDoorProg
import Derived.Test.YtaooegdfpnfncaaGreatDoorRnGC
import Derived.KernelRfl
import Derived.Test.YtaooegdfpnfncaaGreatDoorRnGD
set_option maxRecDepth 100000
set_option maxHeartbeats 8000000
set_option linter.unusedSimpArgs false
set_option linter.unusedVariables false
section
open Go Go.Rn Go.RowKit Go.Proofs
namespace cS
inductive Ex where
 |mk (op n:Int) (args:List Ex)
instance:Inhabited Ex:=⟨.mk 0 0 []⟩
mutual
noncomputable def aM:Ex->List AV
 | .mk op n args=>[.int .u8 op,.int .i64 n,.ab (nm<|dy args) 0 args.length]
noncomputable def dy:List Ex->List AV
 |[]=>[]
 |e::l=>aM e++dy l
end
theorem DQ:∀l:List Ex,dy l=(l.map aM).flatten
 |[]=>by rw[dy];rfl
 |e::l=>by rw[dy,DQ l];rfl
theorem OO{op n:Int}{args:List Ex}:aM (.mk op n args)=[.int .u8 op,.int .i64 n,aD aM args]:=by rw[aM,DQ];rfl
theorem kU:me 3 aM:=⟨fun⟨_,_,_⟩=>by rw[aM];rfl,fun⟨_,_,_⟩=>by rw[aM];show(true&&(true&&(Nat.ble top (nm _)&&true)))=true;rw[aL.2<|cU _];rfl⟩
theorem TG(l:List Ex):(dy l).all AV.gi=true:=by rw[DQ];exact kU.all l
theorem tZ{l m:List AV}(h1:l.all AV.gi=true)(h2:m.all AV.gi=true)(h:nm l=nm m):l=m:=by have e:=Cl h1;rw[h,Cl h2] at e;injection e with e;exact e.symm
mutual
theorem nP:∀x y:Ex,aM x=aM y->x=y
 | .mk a b l,.mk c d m,h=>by rw[aM,aM] at h;simp only[List.cons.injEq,AV.int.injEq,AV.ab.injEq,true_and,_root_.and_true] at h;obtain⟨h1,h2,h3,_⟩:=h;rw[h1,h2,TH l m<|tZ (TG l) (TG m) h3]
theorem TH:∀l m:List Ex,dy l=dy m->l=m
 |[],[],_=>rfl
 |[],⟨_,_,_⟩::m,h=>by rw[dy,dy,aM] at h;cases h
 |⟨_,_,_⟩::l,[],h=>by rw[dy,dy,aM] at h;cases h
 |x::l,y::m,h=>by rw[dy,dy] at h;obtain⟨h1,h2⟩:=List.append_inj h (by rw[kU.len x,kU.len y]);rw[nP x y h1,TH l m h2]
end
def Ex.op:Ex->Int| .mk o _ _=>o
def Ex.n:Ex->Int| .mk _ n _=>n
def Ex.args:Ex->List Ex| .mk _ _ l=>l
def eP:Nat->Ex->Bool
 |0,_=>false
 |k+1,.mk op n args=>
  if op=1 then args.isEmpty else if op=2 then args.isEmpty&&decide (0<=n)&&decide (n<8) else if op=3 then args.isEmpty&&decide (0<=n)&&decide (n<6)
  else if op<4\/op>8\/n≠0 then false else decide (args.length=2)&&eP k (args.getD 0 default)&&eP k (args.getD 1 default)
theorem Nz{k:Nat}{op n:Int}{args:List Ex}:eP (k+1) (.mk op n args)=if op=1 then args.isEmpty else if op=2 then args.isEmpty&&decide (0<=n)&&decide (n<8) else if op=3 then args.isEmpty&&decide (0<=n)&&decide (n<6) else if op<4\/op>8\/n≠0 then false else decide (args.length=2)&&eP k (args.getD 0 default)&&eP k (args.getD 1 default):=rfl
end cS
end
section
open Go Go.Rn Go.RowKit Go.Proofs
namespace dL
open cS
inductive St where
 |mk (kind to:Int) (a b:Ex) (body other:List St)
instance:Inhabited St:=⟨.mk 0 0 default default [] []⟩
mutual
noncomputable def a9:St->List AV
 | .mk kind to a b body other=>[.int .u8 kind,.int .i64 to]++(aM a++(aM b++[.ab (nm<|bC body) 0 body.length,.ab (nm<|bC other) 0 other.length]))
noncomputable def bC:List St->List AV
 |[]=>[]
 |e::l=>a9 e++bC l
end
theorem vu:∀l:List St,bC l=(l.map a9).flatten
 |[]=>by rw[bC];rfl
 |e::l=>by rw[bC,vu l];rfl
theorem U6{kind to:Int}{a b:Ex}{body other:List St}:a9 (.mk kind to a b body other)=[.int .u8 kind,.int .i64 to]++(aM a++(aM b++[aD a9 body,aD a9 other])):=by rw[a9,vu,vu];rfl
theorem lD:me 10 a9:=⟨fun⟨_,_,a,b,_,_⟩=>by
 rw[a9,List.length_append,List.length_append,List.length_append,kU.len a,kU.len b];rfl,fun⟨_,_,a,b,_,_⟩=>by
 rw[a9,List.all_append,List.all_append,List.all_append,kU.gi a,kU.gi b];show(true&&(true&&true)&&(true&&(true&&(Nat.ble top (nm _)&&(Nat.ble top (nm _)&&true)))))=true;rw[aL.2<|cU _,aL.2<|cU _];rfl⟩
theorem lU(l:List St):(bC l).all AV.gi=true:=by rw[vu];exact lD.all l
mutual
theorem Of:∀x y:St,a9 x=a9 y->x=y
 | .mk k t a b l m,.mk k' t' a' b' l' m',h=>by rw[a9,a9] at h;obtain⟨h1,h⟩:=List.append_inj h rfl;obtain⟨h2,h⟩:=List.append_inj h (by rw[kU.len,kU.len]);obtain⟨h3,h⟩:=List.append_inj h (by rw[kU.len,kU.len]);simp only[List.cons.injEq,AV.int.injEq,AV.ab.injEq,true_and,_root_.and_true] at h1 h;rw[h1.1,h1.2,nP _ _ h2,nP _ _ h3,tH l l'<|tZ (lU l) (lU l') h.1.1,tH m m'<|tZ (lU m) (lU m') h.2.1]
theorem tH:∀l m:List St,bC l=bC m->l=m
 |[],[],_=>rfl
 |[],y::m,h=>by have:=congrArg List.length h;rw[bC,bC,List.length_append,lD.len y] at this;simp only[List.length_nil] at this;omega
 |x::l,[],h=>by have:=congrArg List.length h;rw[bC,bC,List.length_append,lD.len x] at this;simp only[List.length_nil] at this;omega
 |x::l,y::m,h=>by rw[bC,bC] at h;obtain⟨h1,h2⟩:=List.append_inj h (by rw[lD.len x,lD.len y]);rw[Of x y h1,tH l m h2]
end
theorem XA(e:St):AV.hi (.agg<|a9 e)=true:=by show(a9 e).all AV.cq=true;exact List.all_eq_true.2 fun x hx=>D2<|List.all_eq_true.1 (lD.gi e) x hx
def lG:Nat->Ex->Int
 |0,_=>0
 |k+1,.mk _ _ args=>args.foldl (fun n a=>n+lG k a) 1
end dL
end
section
namespace Go.Rn
variable {P:Prop}
theorem cn(h:P:=by as_aux_lemma=>kernel_rfl):P:=h
theorem R2(h:P:=by exact ax (to<0) (fun _=>(show AV.bool false= .bool (decide<|0<=to/\to<8/\to=0/\xa=1/\xb=1/\ld=0/\le=0) from by rw[decide_eq_false ah])) fun _=>(ax (to>=8) (fun _=>(show AV.bool false= .bool (decide<|0<=to/\to<8/\to=0/\xa=1/\xb=1/\ld=0/\le=0) from by rw[decide_eq_false ah])) fun _=>(ax (to≠0) (fun _=>(show AV.bool false= .bool (decide<|0<=to/\to<8/\to=0/\xa=1/\xb=1/\ld=0/\le=0) from by rw[decide_eq_false ah])) fun _=>(ai ha<|ax (xa=1) (fun _=>(ai hb<|ax (xb=1) (fun _=>(ax ((ld:Int)=0) (fun _=>(ax ((le:Int)=0) (fun _=>(show AV.bool true= .bool (decide<|0<=to/\to<8/\to=0/\xa=1/\xb=1/\ld=0/\le=0) from by rw[decide_eq_true ah])) fun _=>(show AV.bool false= .bool (decide<|0<=to/\to<8/\to=0/\xa=1/\xb=1/\ld=0/\le=0) from by rw[decide_eq_false ah]))) fun _=>(show AV.bool false= .bool (decide<|0<=to/\to<8/\to=0/\xa=1/\xb=1/\ld=0/\le=0) from by rw[decide_eq_false ah]))) fun _=>(show AV.bool false= .bool (decide<|0<=to/\to<8/\to=0/\xa=1/\xb=1/\ld=0/\le=0) from by rw[decide_eq_false ah]))) fun _=>(show AV.bool false= .bool (decide<|0<=to/\to<8/\to=0/\xa=1/\xb=1/\ld=0/\le=0) from by rw[decide_eq_false ah]))))):P:=h
theorem nH(h:P:=by first|omega|(simp only[List.length_set,List.length_take,List.length_append,List.length_cons,List.length_nil];omega)):P:=h
theorem px(h:P:=by exact fun _=>(wq0 (m:=m) (op:=op) (n:=n) (L:=L) (x0:=x0) (x1:=x1) ah)):P:=h
theorem Zt(h:P:=by exact ax (to<0) (fun _=>(show AV.bool false= .bool (decide<|0<=to/\to<8/\xa=1/\xb=1/\ld=0/\le=0) from by rw[decide_eq_false ah])) fun _=>(ax (to>=8) (fun _=>(show AV.bool false= .bool (decide<|0<=to/\to<8/\xa=1/\xb=1/\ld=0/\le=0) from by rw[decide_eq_false ah])) fun _=>(ai ha<|ax (xa=1) (fun _=>(ai hb<|ax (xb=1) (fun _=>(ax ((ld:Int)=0) (fun _=>(ax ((le:Int)=0) (fun _=>(show AV.bool true= .bool (decide<|0<=to/\to<8/\xa=1/\xb=1/\ld=0/\le=0) from by rw[decide_eq_true ah])) fun _=>(show AV.bool false= .bool (decide<|0<=to/\to<8/\xa=1/\xb=1/\ld=0/\le=0) from by rw[decide_eq_false ah]))) fun _=>(show AV.bool false= .bool (decide<|0<=to/\to<8/\xa=1/\xb=1/\ld=0/\le=0) from by rw[decide_eq_false ah]))) fun _=>(show AV.bool false= .bool (decide<|0<=to/\to<8/\xa=1/\xb=1/\ld=0/\le=0) from by rw[decide_eq_false ah]))) fun _=>(show AV.bool false= .bool (decide<|0<=to/\to<8/\xa=1/\xb=1/\ld=0/\le=0) from by rw[decide_eq_false ah])))):P:=h
theorem eM(h:P:=by exact fun _=>(oF ah)):P:=h
theorem Zu(h:P:=by exact ax (to<0) (fun _=>(show AV.bool false= .bool (decide<|0<=to/\to<8/\to=0/\xa=1/\xb=1) from by rw[decide_eq_false ah])) fun _=>(ax (to>=8) (fun _=>(show AV.bool false= .bool (decide<|0<=to/\to<8/\to=0/\xa=1/\xb=1) from by rw[decide_eq_false ah])) fun _=>(ax (to≠0) (fun _=>(show AV.bool false= .bool (decide<|0<=to/\to<8/\to=0/\xa=1/\xb=1) from by rw[decide_eq_false ah])) fun _=>(ai ha<|ax (xa=1) (fun _=>(ai hb<|ax (xb=1) (fun _=>(show AV.bool true= .bool (decide<|0<=to/\to<8/\to=0/\xa=1/\xb=1) from by rw[decide_eq_true ah])) fun _=>(show AV.bool false= .bool (decide<|0<=to/\to<8/\to=0/\xa=1/\xb=1) from by rw[decide_eq_false ah]))) fun _=>(show AV.bool false= .bool (decide<|0<=to/\to<8/\to=0/\xa=1/\xb=1) from by rw[decide_eq_false ah]))))):P:=h
theorem nJ(h:P:=by exact fun fr s1 p hC=>by obtain⟨rfl,rfl⟩:=hC;exact H):P:=h
theorem MC(h:P:=by exact nX (st:=(fj a n c u fs)) (s:=aj (agU a n c u fs kind to op nn N L aZ n2 N2 L2 N3 L3 N4 L4) 275) (show(.agg [(u8<|.ofNat 1),i0,i0])=Y from(EI ah ah ah)) cn cn cn):P:=h
theorem Zv(h:P:=by exact eZ to (Int.ofNat 8)<|ai (OP (c':=(i6 z)) (show((a.row (.ptr<|some (271,0)) (.slice (some (272,0)) (len) cap)<|i6 a.steps):List AV).length<=top from aL.1 uC) (VV (a.row (.ptr<|some (271,0)) (.slice (some (272,0)) (len) cap)<|i6 a.steps) (k:=2+to.toNat) ah) rfl)<|nX (st:=(⟨⟨(a.pre:List AV).set (2+to.toNat)<|.int .i64 z,len,cap,[.int .i64 a.steps]⟩,u,row⟩:VS)) (s:=aj (WZ a len cap to z u row kind op n N L aZ n2 N2 L2 N3 L3 N4 L4) 274) (show((.tuple []):AV)= .tuple [] from rfl) ((show(aj (WZ a len cap to z u row kind op n N L aZ n2 N2 L2 N3 L3 N4 L4) 274).h.get 270=(some<|aI kD<|((a.row (.ptr<|some (271,0)) (.slice (some (272,0)) (len) cap)<|i6 a.steps):List AV).set (2+to.toNat)<|i6 z) from cn).trans<|congrArg some<|VW (pre:=a.pre) (post:=[.int .i64 a.steps]) (len:=len) (i:=2+to.toNat) (r1:=271) (r2:=272) (cap:=cap) (c:=.int .i64 z) (by show 2+to.toNat<10;omega)) cn cn):P:=h
theorem Yi(h:P:=by exact fun _=>(ko [mF,iN,jF,lk,mz] 63 272 (vR nY) (yb op nn N L) (fj a n c u fs) (i6 v) hO hv hA cn<|ai hg<|nX (st:=(fj a n c u fs)) (s:=aj (aq++[(270,some<|.cells 13 (Tr.fill (a.row (.ptr<|some (271,0)) (Kz n c)<|i6 a.steps) 0 .nil) []),(271,(some<|.tok 3 u)),(272,(some<|aI aS fs)),(273,some<|.cells 3 (Tr.fill [(u8<|.ofNat 2),(i6 v),i0] 0 .nil) []),(274,some<|.cells 10 (Tr.fill (ua kind to op nn N L aZ n2 N2 L2 N3 L3 N4 L4) 0 .nil) [])]) 275) (show(.agg [(u8<|.ofNat 2),(i6 v),i0])=Y from(E2 ah)) cn cn cn)):P:=h
theorem Yj(h:P:=by exact fun _=>(ko [mF,iN,jF,lk,mz] 61 272 (vR jG) (yb op nn N L) (fj a n c u fs) (i6 z) hO hz hA cn<|nX (st:=(fj a n c u fs)) (s:=aj (aq++[(270,some<|.cells 13 (Tr.fill (a.row (.ptr<|some (271,0)) (Kz n c)<|i6 a.steps) 0 .nil) []),(271,(some<|.tok 3 u)),(272,(some<|aI aS fs)),(273,some<|.cells 3 (Tr.fill [(u8<|.ofNat 3),i0,(i6 z)] 0 .nil) []),(274,some<|.cells 10 (Tr.fill (ua kind to op nn N L aZ n2 N2 L2 N3 L3 N4 L4) 0 .nil) [])]) 275) (show(.agg [(u8<|.ofNat 3),i0,(i6 z)])=Y from(E8 ah)) cn cn cn)):P:=h
theorem Yk(h:P:=by exact fun _=>(eZ (0:Int) 2<|ai hn<|ai wW<|ai jr<|ax (x0=1) (fun _=>(eZ (1:Int) 2<|ai hn<|ai ja<|ai jK<|ax (x1=1) (fun _=>(show AV.bool true= .bool (decide<|¬(op=3/\n>=z)/\x0=1/\x1=1) from by rw[decide_eq_true ah])) fun _=>(show AV.bool false= .bool (decide<|¬(op=3/\n>=z)/\x0=1/\x1=1) from by rw[decide_eq_false ah]))) fun _=>(show AV.bool false= .bool (decide<|¬(op=3/\n>=z)/\x0=1/\x1=1) from by rw[decide_eq_false ah]))):P:=h
theorem Yl(h:P:=by exact fun _=>(ax (op<4) px fun _=>(ax (op>8) px fun _=>(ax (n≠0) px fun _=>(ax ((L:Int)≠2) px fun _=>(eZ (0:Int) (L:Int)<|ai hn<|ai (wW ah)<|ai (wI<|m - 1)<|ai (jr ah ah)<|ax (x0=1) (fun _=>(eZ (1:Int) (L:Int)<|ai hn<|ai (ja ah)<|ai (wI<|m - 1)<|ai (jK ah ah)<|ax (x1=1) L6 px)) px)))))):P:=h
theorem Ym(h:P:=by exact fun _=>(nX (st:=(fj a n c u fs)) (s:=aj (aq++[(270,some<|.cells 13 (Tr.fill (a.row (.ptr<|some (271,0)) (Kz n c)<|i6 a.steps) 0 .nil) []),(271,(some<|.tok 3 u)),(272,(some<|aI aS fs)),(273,some<|.cells 3 (Tr.fill [(u8<|.ofNat 4),i0,i0] 0 .nil) []),(274,some<|.cells 10 (Tr.fill (ua kind to op nn N L aZ n2 N2 L2 N3 L3 N4 L4) 0 .nil) [])]) 275) (show(.agg [(u8<|.ofNat 4),i0,i0])=Y from(E6 ah ah)) cn cn cn)):P:=h
theorem Q2(h:P:=by rw[List.length_append];show L.length+1<=100000;omega):P:=h
theorem Yn(h:P:=by exact tP (show((a.row (.ptr<|some (271,0)) (.slice (some (272,0)) (len) cap)<|i6 a.steps):List AV).length<=top from aL.1 uC) (show((a.row (.ptr<|some (271,0)) (.slice (some (272,0)) (len) cap)<|i6 a.steps):List AV)[10]? =some (.ptr<|some (271,0)) from rfl)):P:=h
theorem L7(h:P:=by exact fun _=>(rfl:AV.tuple [.ptr none,.int .i64<|.ofNat 1]= .tuple [.ptr none,.int .i64 1])):P:=h
theorem Yo(h:P:=by exact ai (wI i h0 hl)<|ze KH ns (i+1) uh um us 7 seen nv 272 278 275 279 hG hN (F2 278 274 (List.append_ne_nil_of_right_ne_nil L<|List.cons_ne_nil (⟨10,2,0,s,0,0,gy⟩:bZ) []) Q2) hq):P:=h
theorem Yp(h:P:=by exact ai (wI i h0 hl)<|ze KH ns (i+1) uh um us w seen nv 272 278 275 279 hG hN (F2 278 274 (List.append_ne_nil_of_right_ne_nil L<|List.cons_ne_nil (⟨2,2,0,s,ve,0,0⟩:bZ) []) Q2) hq):P:=h
theorem Yq(h:P:=by exact fun _=>(ax (kind=2) (fun _=>(ko [mF,iN,jF,lk,mz] 63 272 (vR nY) (yb op nn N L) (fj a n c u fs) (i6 v) hO hv hA cn<|ai hg MC)) fun _=>MC)):P:=h
theorem L6(h:P:=by exact fun _=>(wq1 (m:=m) (op:=op) (n:=n) (L:=L) (x0:=x0) (x1:=x1) ah)):P:=h
theorem CE(h:P:=by unfold room;omega):P:=h
theorem CF(h:P:=by unfold top;omega):P:=h
theorem Yr(h:P:=by exact F2 280 274 (List.append_ne_nil_of_right_ne_nil L<|List.cons_ne_nil (⟨3,2,0,au,0,x,0⟩:bZ) []) Q2):P:=h
theorem Ys(h:P:=by exact fun _=>(Dh KQ ns i uh um us 7 seen nv 272 282 283 true 0 ⟨10,2,0,s,0,0,3⟩ hG hN hm hq)):P:=h
theorem Q3(h:P:=by simp only[List.length_nil];unfold room;omega):P:=h
theorem Q4(h:P:=by simp only[List.length_nil];unfold top;omega):P:=h
theorem uC(h:P:=by kernel_rfl):P:=h
theorem Yt(h:P:=by exact F3 49 2 38 (dq 49 [1,1,1,1,1,1,1,1,1]) A2 m2 (.ar c2 13) u2 bD 280 281 hlen pj):P:=h
theorem Yu(h:P:=by exact ax (i<(L:Int)) eM fun _=>(show(.tuple [(i6 m),(.bool false)])=v from hv)):P:=h
theorem ah(h:P:=by omega):P:=h
theorem kr(h:P:=by first|exact m0.bQ|exact mp.bQ|exact m1.bQ|exact hK|exact hN|exact hB|exact sW|exact rz|exact hv|exact hA|exact ng.bQ|exact hE|exact mE.bQ):P:=h
theorem rA(h:P:=by first|exact m0.bQ|exact mp.bQ|exact m1.bQ|exact hK|exact hN|exact hB|exact sW|exact rz|exact hv|exact hA|exact ng.bQ|exact hE|exact mE.bQ|exact hW|exact bG|exact hD):P:=h
theorem cC(h:P:=by as_aux_lemma=>kernel_rfl):P:=h
theorem aY(h:P:=by kernel_rfl):P:=h
theorem wX(h:P:=by first|exact m0.bQ|exact mp.bQ|exact m1.bQ|exact hK|exact hN|exact hB|exact sW|exact rz|exact hv|exact hA|exact ng.bQ|exact hE|exact mE.bQ|exact hD):P:=h
theorem wY(h:P:=by first|exact m0.bQ|exact mp.bQ|exact m1.bQ|exact hK|exact hN|exact hB|exact sW|exact rz|exact hv|exact hA|exact ng.bQ|exact hX):P:=h
theorem wZ(h:P:=by first|omega|(simp only[List.length_set,List.length_take,List.length_append,List.length_cons,List.length_nil];omega)):P:=h
theorem zf(h:P:=by first|exact m0.bQ|exact mp.bQ|exact m1.bQ|exact hK|exact hN|exact hB|exact sW|exact rz|exact hv|exact hA):P:=h
theorem Di(h:P:=by first|exact m0.bQ|exact mp.bQ|exact m1.bQ|exact hK|exact hN|exact hB|exact sW|exact rz|exact hv|exact hA|exact Zw):P:=h
theorem eX(h:P:=by unfold top;omega):P:=h
theorem AB(h:P:=by simp only[reduceCtorEq,true_or,false_or,true_and,_root_.and_true];omega):P:=h
theorem sr(h:P:=by rw[List.all_cons,Cm];rfl):P:=h
theorem CG(h:P:=by have:=m0.len;have:top=549755813888:=rfl;omega):P:=h
theorem Yv(h:P:=by rw[List.all_cons,show AV.hi (.ab (nm<|bC b) 0 b.length)=true from aL.2<|cU _];rfl):P:=h
theorem H8(h:P:=by rw[List.reverse_reverse];exact d.eq):P:=h
theorem nZ(h:P:=by cases hp):P:=h
theorem Yw(h:P:=by show(true&&(true&&(Nat.ble top (nI L)&&true)))=true;rw[aL.2<|cU _];rfl):P:=h
theorem Yx(h:P:=by simp only[List.mem_cons,List.not_mem_nil,or_false] at hp;subst hp;show 270<271;omega):P:=h
theorem H9(h:P:=by show 3<=top;unfold top;omega):P:=h
theorem L8(h:P:=by rw[List.reverse_reverse];exact d2.eq):P:=h
theorem Q5(h:P:=by first|exact m0.bQ|exact d.run|exact d.fO.bQ):P:=h
theorem yL(h:P:=by rw[p1];omega):P:=h
theorem Ia(h:P:=by rw[List.length_cons];omega):P:=h
theorem Q6(h:P:=by rw[List.length_cons,List.length_cons];omega):P:=h
theorem L9(h:P:=by rw[blt_eq];unfold top;omega):P:=h
end Go.Rn
end
section
open Go Go.Rn Go.RowKit Go.Proofs
namespace fF
open cS dL
def Ag(n:Int):List AV:=[.int .i64 n]
theorem MF:me 1 Ag:=⟨fun _=>rfl,fun _=>rfl⟩
theorem acI(x y:Int)(h:Ag x=Ag y):x=y:=by simp only[Ag,List.cons.injEq,AV.int.injEq,true_and,_root_.and_true] at h;exact h
def kf(c:AV):List AV:=[c]
abbrev bA:=List<|List<|Int×Int
def Lz(p:Int×Int):AV:=.agg [.int .i64 p.1,.int .i64 p.2]
def cv(ms:bA):AV:=.agg<|ms.map fun m=>.agg<|m.map Lz
theorem acJ(p q:Int×Int)(h:Lz p=Lz q):p=q:=by obtain⟨a,b⟩:=p;obtain⟨c,d⟩:=q;simp only[Lz,AV.agg.injEq,List.cons.injEq,AV.int.injEq,true_and,_root_.and_true] at h;rw[h.1,h.2]
theorem xH:∀a b,cv a=cv b->a=b:=by
 intro a b h;injection h with h
 refine(List.map_inj_right fun x y e=>?_).1 h;injection e with e
 exact(List.map_inj_right acJ).1 e
def mG(n:Nat):List AV:=(List.range n).map fun i=>.map<|some<|272+i
noncomputable def qO:Nat->bA->List (Nat×ae)
 |_,[]=>[]
 |k,m::ms=>(k,bL m)::qO (k+1) ms
noncomputable def Yz(n:Nat)(cap:cM):ae:=aI kf [.slice (some (271,0)) n cap]
noncomputable def gE(ms:bA)(cap:cM):List<|Nat×ae:=(270,Yz ms.length cap)::(271,aI kf<|mG ms.length)::qO 272 ms
def fy(ms:bA):Prop:=(1<=ms.length/\ms.length<=7)/\∀m∈ms,fZ m
def uF(n:Nat)(cap:cM):Prop:=cap= .ar n 1\/(n=1/\cap= .known 1)
theorem Oi:∀{k:Nat} {ms:bA} {p:Nat×ae},p∈qO k ms->k<=p.1/\p.1<k+ms.length/\∃m,p.2=bL m
 |k,[],p,h=>by cases h
 |k,m::ms,p,h=>by
  rcases List.mem_cons.1 h with rfl|h
  ·exact⟨Nat.le_refl _,by rw[List.length_cons];omega,m,rfl⟩
  ·obtain⟨h1,h2,h3⟩:=Oi h;exact⟨by omega,by rw[List.length_cons];omega,h3⟩
theorem Up:∀{k:Nat} {ms:bA} {i:Nat},i<ms.length->k+i∈(qO k ms).map (·.1)
 |k,[],i,h=>by cases h
 |k,m::ms,0,h=>List.mem_cons_self
 |k,m::ms,i+1,h=>by have:=Up (k:=k+1) (ms:=ms) (i:=i) (by rw[List.length_cons] at h;omega);rw[show k+(i+1)=k+1+i by omega];exact List.mem_cons_of_mem _ this
structure Fr where
 block:List St
 au:Int
 turns:Int
 aU:Bool
 kept:List Int
 other:Option<|List St
instance:Inhabited Fr:=⟨⟨[],0,0,false,[],none⟩⟩
noncomputable def A5:Option (List St)->AV
 |none=>.slice none 0<|.known 0
 |some l=>aD a9 l
theorem ae8(o:Option<|List St):(A5 o).cj=true:=by cases o<;>rfl
theorem agY(o:Option<|List St):(A5 o).cq=true:=by
 cases o with
 |none=>rfl
 |some l=>exact aL.2<|cU _
def eight(l:List Int):List AV:=[.int .i64<|l.getD 0 0,.int .i64<|l.getD 1 0,.int .i64<|l.getD 2 0,.int .i64<|l.getD 3 0,.int .i64<|l.getD 4 0,.int .i64<|l.getD 5 0,.int .i64<|l.getD 6 0,.int .i64<|l.getD 7 0]
noncomputable def aS(f:Fr):List AV:=[aD a9 f.block,.int .i64 f.au,.int .i64 f.turns,.bool f.aU]++(eight f.kept++[A5 f.other])
theorem jx(f:Fr):(aS f).length=13:=rfl
theorem Oj(f:Fr):(aS f).all AV.cj=true:=by show(true&&(true&&(true&&(true&&(true&&(true&&(true&&(true&&(true&&(true&&(true&&(true&&((A5 f.other).cj&&true)))))))))))))=true;rw[ae8];rfl
theorem U8(f:Fr):∀c∈aS f,c.cq=true:=fun c hc=>by
 have h:(aS f).all AV.cq=true:=by show((aD a9 f.block).cq&&(true&&(true&&(true&&(true&&(true&&(true&&(true&&(true&&(true&&(true&&(true&&((A5 f.other).cq&&true)))))))))))))=true;rw[show(aD a9 f.block).cq=true from aL.2<|cU _,agY];rfl
 exact List.all_eq_true.1 h c hc
noncomputable def MG(f:Fr):AV:=.agg [aD a9 f.block,.int .i64 f.au,.int .i64 f.turns,.bool f.aU,.agg<|f.kept.map fun x=>.int .i64 x,A5 f.other]
theorem Ol{l m:List St}(h:aD a9 l=aD a9 m):l=m:=by
 injection h with h _ _
 have h:nm (bC l)=nm (bC m):=by rw[vu,vu];exact h
 exact tH _ _<|tZ (lU _) (lU _) h
theorem VZ{a b:Option<|List St}(h:A5 a=A5 b):a=b:=by
 cases a with
 |none=>cases b with
  |none=>rfl
  |some m=>cases h
 |some l=>cases b with
  |none=>cases h
  |some m=>exact congrArg some<|Ol h
theorem U9{l m:List Int}(h:(l.map fun x=>AV.int .i64 x)=m.map fun x=>.int .i64 x):l=m:=(List.map_inj_right fun x y e=>by injection e).1 h
theorem ae9(f g:Fr)(h:MG f=MG g):f=g:=by obtain⟨a1,a2,a3,a4,a5,a6⟩:=f;obtain⟨b1,b2,b3,b4,b5,b6⟩:=g;simp only[MG,AV.agg.injEq,List.cons.injEq,AV.int.injEq,AV.bool.injEq,true_and,_root_.and_true] at h;obtain⟨h1,rfl,rfl,rfl,h5,h6⟩:=h;rw[Ol h1,U9 h5,VZ h6]
structure dQ where
 vars:Int
 aH:List Int
 l:List Int
 b:bA
 fs:List Fr
 steps:Int
noncomputable def XD(a:dQ)(c:Nat):List AV:=[.int .i64 a.vars,aD Ag a.aH]++(eight a.l++[.ptr<|some (271,0),.slice (some (272,0)) a.fs.length<|.ar c 13,.int .i64 a.steps])
noncomputable def eJ(a:dQ):AV:=.agg [.int .i64 a.vars,aD Ag a.aH,.agg<|a.l.map fun x=>.int .i64 x,cv a.b,.agg<|a.fs.map MG,.int .i64 a.steps]
theorem DS:∀a b,eJ a=eJ b->a=b:=by
 intro a b h;obtain⟨a1,a2,a3,a4,a5,a6⟩:=a;obtain⟨b1,b2,b3,b4,b5,b6⟩:=b;simp only[eJ,AV.agg.injEq,List.cons.injEq,AV.int.injEq,true_and,_root_.and_true] at h;obtain⟨rfl,h2,h3,h4,h5,rfl⟩:=h;have e2:a2=b2:=by refine(di.aD MF a2).inj acI ?_;rw[h2];exact di.aD MF b2
 rw[e2,U9 h3,xH _ _ h4,(List.map_inj_right ae9).1 h5]
def B3(a:dQ):Prop:=a.l.length=8/\fy a.b/\a.fs.length<=1000/\a.aH.length<=1000/\(1<=a.vars/\a.vars<=32)
noncomputable def o8(a:dQ)(cf:List Fr)(c:Nat):List<|Nat×ae:=[(270,aI kf<|XD a c),(271,.tok 3<|cv a.b),(272,aI aS<|a.fs++cf)]
def yc(a:dQ)(cf:List Fr)(c:Nat):Prop:=a.fs.length<=c/\(a.fs++cf).length<=1000000/\∀f∈cf,(0<=f.turns/\f.turns<=1000000)/\f.kept.length=8
theorem xP{n:Nat}(h:n<100000):n<top:=by have:top=549755813888:=rfl;omega
theorem En(l:List AV):(l.map kf).flatten=l:=by
 induction l with
 |nil=>rfl
 |cons x l ih=>rw[List.map_cons,List.flatten_cons,ih];rfl
theorem abO{ns:List Nat}{m:List<|Int×Int}:lI ns<|bL m:=fun _ _ _ h=>xG h
theorem agZ{ms:bA}{cap:cM}(h:fy ms):∀p∈gE ms cap,270<=p.1/\p.1<top/\(p.2.own=true\/p.2.lh=true)/\lI ((gE ms cap).map (·.1)) p.2:=by
 intro p hp;have h8:=h.1.2;rcases List.mem_cons.1 hp with rfl|hp
 ·refine⟨Nat.le_refl _,xP (by show 270<100000;omega),.inl rfl,lI.row ?_ fun c hc=>?_⟩
  ·rw[En];exact Nat.le_of_lt<|xP (by show 1<100000;omega)
  ·rw[En] at hc;rw[List.mem_singleton] at hc;subst hc;exact gA.slice (by simp[gE])
 rcases List.mem_cons.1 hp with rfl|hp
 ·refine⟨by show 270<=271;omega,xP (by show 271<100000;omega),.inl rfl,lI.row ?_ fun c hc=>?_⟩
  ·rw[En,mG,List.length_map,List.length_range];exact Nat.le_of_lt<|xP ah
  ·rw[En] at hc;obtain⟨i,hi,rfl⟩:=List.mem_map.1 hc;refine gA.map ?_;show 272+i∈270::271::(qO 272 ms).map (·.1);exact List.mem_cons_of_mem _<|List.mem_cons_of_mem _<|Up<|List.mem_range.1 hi
 ·obtain⟨h1,h2,m,h3⟩:=Oi hp;refine⟨by omega,xP ah,.inl (by rw[h3];rfl),by rw[h3];exact abO⟩
theorem afa{a:dQ}{cf:List Fr}{c:Nat}(h:B3 a)(hj:yc a cf c):∀p∈o8 a cf c,270<=p.1/\p.1<top/\(p.2.own=true\/p.2.lh=true)/\lI ((o8 a cf c).map (·.1)) p.2:=by
 intro p hp;simp only[o8,List.mem_cons,List.not_mem_nil,or_false] at hp;rcases hp with rfl|rfl|rfl
 ·refine⟨Nat.le_refl _,xP (by show 270<100000;omega),.inl rfl,lI.row ?_ fun c hc=>?_⟩
  ·rw[En];exact Nat.le_of_lt<|xP (by show 13<100000;omega)
  ·rw[En] at hc;simp only[XD,eight,List.cons_append,List.nil_append,List.mem_cons,List.not_mem_nil,or_false] at hc;rcases hc with rfl|rfl|rfl|rfl|rfl|rfl|rfl|rfl|rfl|rfl|rfl|rfl|rfl
   ·exact gA.hi rfl
   ·exact gA.hi<|aL.2<|cU _
   ·exact gA.hi rfl
   ·exact gA.hi rfl
   ·exact gA.hi rfl
   ·exact gA.hi rfl
   ·exact gA.hi rfl
   ·exact gA.hi rfl
   ·exact gA.hi rfl
   ·exact gA.hi rfl
   ·exact gA.ptr (by simp[o8])
   ·exact gA.slice (by simp[o8])
   ·exact gA.hi rfl
 ·exact⟨by show 270<=271;omega,xP (by show 271<100000;omega),.inr rfl,lI.tok⟩
 ·have h3:=hj.2.1;have ht:top=549755813888:=rfl;refine⟨by show 270<=272;omega,xP (by show 272<100000;omega),.inl rfl,lI.row ?_ fun c hc=>?_⟩
  ·rw[zF (K:=13) jx];omega
  ·obtain⟨x,hx,hc⟩:=List.mem_flatten.1 hc;obtain⟨f,_,rfl⟩:=List.mem_map.1 hx;exact gA.hi<|U8 f c hc
end fF
end
section
open Go Go.Rn Go.RowKit Go.Proofs
namespace cr
open fF
variable {T A:Prop} {i nv nl:Nat} {c y c' Y:AV} {ns:List Nat} {C:Ay}
noncomputable abbrev pg:Program:=Tryz.prog
abbrev aA(f:Func):List ResultVar:=f.results.toList
noncomputable abbrev dq(g:Nat)(p:List Nat):List Item:=[.code<|aW Tryz.prog g p]
noncomputable abbrev sF(g:Nat)(f:Func)(args:List AV):AF:=⟨g,dZ args,max f.ntmps args.length,[.code<|aW Tryz.prog g []],[],none⟩
def ag0:List<|Option FuncId:=[none,none,none,none,some 134,some 135,some 136,some 137,some 139]
noncomputable section
def TL:List AV:=ag0.map J6
def dV:Tr ae:=(Tr.nil).put 0<|some<|.ro TL.length<|Tr.fill TL 0 .nil
end
def eB:List Nat:=[0]
theorem bT:Tryz.prog.follows .mixedOrders=true:=by kernel_rfl
theorem gL:fH<=270:=aL.1 aY
theorem acK:fH<=271:=aL.1 aY
theorem pW:270<=top:=aL.1 aY
noncomputable def aq:List<|Nat×Option ae:=eB.map fun n=>(n,dV.get n)
theorem Va:fL aq=dV:=by kernel_rfl
theorem gN:aj aq 270=⟨dV,270,0,[],[]⟩:=by show(⟨fL aq,270,0,[],[]⟩:AS)=_;rw[Va]
theorem ki:∀p∈aq,p.1<top:=fun p hp=>by obtain⟨k,hk,rfl⟩:=List.mem_map.1 hp;exact NF (m:=top) (l:=eB) aY k hk
theorem kG:∀n o,(n,some o)∈aq->dV.get n=some o:=fun n o hm=>by
 obtain⟨k,hk,e⟩:=List.mem_map.1 hm;injection e with e1 e2
 rw[←e1];exact e2
theorem ir(n:Nat)(o:ae)(_:n<top)(h:dV.get n=some o):n∈eB:=by
 rw[←Va] at h;obtain⟨k,hk,e⟩:=List.mem_map.1<|xD (l:=aq) ki h;injection e with e1 _
 rw[←e1];exact hk
theorem gZ:∀n∈eB,n<270:=fun n hn=>NF (m:=270) (l:=eB) aY n hn
def aG(n:Int):List AV:=[.int .i64 n]
theorem eI:me 1 aG:=⟨fun _=>rfl,fun _=>rfl⟩
theorem rR(x y:Int)(h:aG x=aG y):x=y:=by simp only[aG,List.cons.injEq,AV.int.injEq,true_and,_root_.and_true] at h;exact h
def kD(c:AV):List AV:=[c]
noncomputable abbrev en(L:bU):Env:=wx pg 270 eB dV L 270 true
noncomputable abbrev rC(L:bU):Env:=wx pg 270 eB dV L 271 true
noncomputable abbrev sp(L:bU):Sp:=dv 270 eB dV L
structure dM where
 rv:Int
 fG:Int
 has:List Bool
def lp(a:dM):List AV:=[AV.int .i64 a.rv,AV.int .i64 a.fG]++a.has.map AV.bool
def gR(a:dM):AV:=.agg<|lp a
def iS(a:dM):Prop:=Ck a.rv/\(1<=a.fG/\a.fG<=32)/\a.has.length=32
theorem zH:∀a b,gR a=gR b->a=b:=by
 intro a b h;obtain⟨r,s,l⟩:=a;obtain⟨r',s',l'⟩:=b;injection h with h
 simp only[lp,List.cons_append,List.nil_append,List.cons.injEq,AV.int.injEq,true_and] at h;obtain⟨rfl,rfl,h⟩:=h;have:l=l':=by
  have inj:∀x y:Bool,AV.bool x=AV.bool y->x=y:=fun x y h=>by injection h
  clear r s;induction l generalizing l' with
  |nil=>cases l' with
   |nil=>rfl
   |cons _ _=>cases h
  |cons x l ih=>cases l' with
   |nil=>cases h
   |cons y l'=>simp only[List.map_cons,List.cons.injEq] at h;rw[inj x y h.1,ih l' h.2]
 rw[this]
noncomputable def kI(a:dM):ae:=aI kD<|lp a
structure Lk where
 owner:Int
 version:Int
deriving Inhabited
def nw(k:Lk):List AV:=[.int .i64 k.owner,.int .i64 k.version]
structure cK where
 bY:List Lk
 bj:Int
 qP:Int
 eS:List Int
def aX(a:cK):AV:=.agg [.int .i64 a.bj,.int .i64 a.qP,.agg<|a.bY.map fun k=>.agg<|nw k,.agg<|a.eS.map fun x=>.int .i64 x]
def ky(a:cK):Prop:=(1<=a.bY.length/\a.bY.length<=32)/\(1<=a.eS.length/\a.eS.length<=32)/\0<=a.bj/\a.qP<=1099511627776
theorem Gz:∀a b,aX a=aX b->a=b:=by
 intro a b h;obtain⟨l,c,m,v⟩:=a;obtain⟨l',c',m',v'⟩:=b;injection h with h
 simp only[List.cons.injEq,AV.int.injEq,AV.agg.injEq,true_and,_root_.and_true] at h;obtain⟨rfl,rfl,h1,h2⟩:=h;have e1:l=l':=(List.map_inj_right (fun x y e=>by obtain⟨o,w⟩:=x;obtain⟨o',w'⟩:=y;simp only[nw,AV.agg.injEq,List.cons.injEq,AV.int.injEq,true_and,_root_.and_true] at e;obtain⟨rfl,rfl⟩:=e;rfl)).1 h1;have e2:v=v':=(List.map_inj_right fun x y e=>by injection e).1 h2;rw[e1,e2]
def Qw(nl nv:Nat)(c1 c2:cM)(bj qP:Int):List AV:=[.slice (some (271,0)) nl c1,.int .i64 bj,.int .i64 qP,.slice (some (272,0)) nv c2]
noncomputable def Cn(nl nv:Nat)(c1 c2:cM)(bj qP:Int):ae:=aI kD<|Qw nl nv c1 c2 bj qP
noncomputable def Co(a:cK)(c1 c2:cM):List<|Nat×ae:=[(270,Cn a.bY.length a.eS.length c1 c2 a.bj a.qP),(271,aI nw a.bY),(272,aI aG a.eS)]
inductive XT:TX
 |set (a:dM) (h:iS a):XT 1 (gR a) [(270,kI a)]
 |heap (a:cK) (h:ky a) (c1 c2:cM):XT 2 (aX a)<|Co a c1 c2
 |buf (ms:bA) (h:fy ms) (cap:cM) (hc:uF ms.length cap):XT 3 (cv ms)<|gE ms cap
 |CI (a:dQ) (h:B3 a) (cf:List Fr) (c:Nat) (hj:yc a cf c):XT 4 (eJ a)<|o8 a cf c
theorem Cp(l:List AV):(l.map kD).flatten=l:=by
 induction l with
 |nil=>rfl
 |cons x l ih=>rw[List.map_cons,List.flatten_cons,ih];rfl
theorem V4(a:dM):∀c∈lp a,c.cq=true:=fun c hc=>by
 rcases List.mem_append.1 hc with h|h
 ·simp only[List.mem_cons,List.not_mem_nil,or_false] at h;rcases h with rfl|rfl<;>rfl
 ·obtain⟨b,_,rfl⟩:=List.mem_map.1 h;rfl
theorem Vb(a:dM)(h:a.has.length=32):(lp a).length=34:=by unfold lp;rw[List.length_append,List.length_map,h];rfl
theorem ZD(x:AV):(kD x).length=1:=rfl
theorem tP{l:List AV}(hl:l.length<=top)(hc:l[i]? =some c):cellsOf (some<|aI kD l) i 1=some [c]:=by have:=nk ZD (l:=l) (i:=i) ah hc 0 1 rfl;rwa[Nat.mul_one,Nat.add_zero] at this
theorem afb{l:List AV}(hl:l.length<=top)(hc:l[i]? =some c)(h1:c'.cj=true):v7 (some<|aI kD l) i [c']=some (aI kD<|l.set i c'):=by have:=El ZD (l:=l) (i:=i) (c':=c') (r:=[c']) ah hc 0 rfl rfl (by rw[List.all_cons,h1];rfl);rwa[Nat.mul_one,Nat.add_zero] at this
theorem OP{l:List AV}{z:Nat}(hl:l.length<=top)(hc:l[i+z]? =some c)(h1:c'.cj=true):v7 (some<|aI kD l) (i+z*1) [c']=some (aI kD<|l.set (i+z) c'):=by rw[Nat.mul_one];exact afb hl hc h1
theorem xI{a:dM}(h:iS a):(lp a).length<=top:=by rw[Vb a h.2.2];exact aL.1 aY
abbrev m7(k:Nat)(y:AV)(v:AV)(s:AS)(Y:AV):Prop:=Y=y/\∃L',XT k v L'/\∀m o,(m,o)∈L'->s.h.get m=some o
theorem CJ{k:Nat}{v:AV}{o:ae}(hx:XT k v [(270,o)])(e:Y=y)(nx:Nat):m7 k y v (aj (aq++[(270,some o)]) nx) Y:=by
 refine⟨e,_,hx,fun m p hm=>?_⟩;simp only[List.mem_cons,List.not_mem_nil,or_false] at hm;injection hm with h1 h2
 subst h1;subst h2;kernel_rfl
abbrev XE(B:aJ)(g nt:Nat)(rs:List ResultVar)(k:Nat)(o:ae)(rest:List AV)(y v':AV):Prop:=av pg B 271 (mf XT pg rs k y v') ⟨g,dZ<|.ptr (some (270,0))::rest,nt,[.code<|aW pg g []],[],none⟩<|aj (aq++[(270,some o)]) 271
theorem afc{l:List Lk}:∀c∈(l.map nw).flatten,gA ns c:=fun c hc=>by obtain⟨x,hx,hc⟩:=List.mem_flatten.1 hc;obtain⟨k,_,rfl⟩:=List.mem_map.1 hx;simp only[nw,List.mem_cons,List.not_mem_nil,or_false] at hc;rcases hc with rfl|rfl<;>exact gA.hi rfl
theorem ag1{l:List Int}:∀c∈(l.map aG).flatten,gA ns c:=fun c hc=>by obtain⟨x,hx,hc⟩:=List.mem_flatten.1 hc;obtain⟨k,_,rfl⟩:=List.mem_map.1 hx;simp only[aG,List.mem_cons,List.not_mem_nil,or_false] at hc;subst hc;exact gA.hi rfl
theorem zY{n:Nat}(h:n<1024):n<top:=by have:top=549755813888:=rfl;omega
theorem rD:zb XT 270:=by
 refine⟨fun k v L hx p hp=>?_,fun k v L hx=>?_⟩
 ·cases hx with
  |set a h=>
   simp only[List.mem_cons,List.not_mem_nil,or_false] at hp;subst hp;refine⟨Nat.le_refl _,aL.1 aY,.inl rfl,lI.row ?_ fun c hc=>?_⟩
   ·rw[Cp,Vb a h.2.2];exact aL.1 aY
   ·rw[Cp] at hc;exact gA.hi<|V4 a c hc
  |heap a h c1 c2=>
   simp only[Co,List.mem_cons,List.not_mem_nil,or_false] at hp;have h1:=h.1.2;have h2:=h.2.1.2;rcases hp with rfl|rfl|rfl
   ·refine⟨Nat.le_refl _,aL.1 aY,.inl rfl,lI.row ?_ fun c hc=>?_⟩
    ·rw[Cp];exact Nat.le_of_lt<|zY (by show 4<1024;omega)
    ·rw[Cp] at hc;simp only[Qw,List.mem_cons,List.not_mem_nil,or_false] at hc;rcases hc with rfl|rfl|rfl|rfl
     ·exact gA.slice (by simp[Co])
     ·exact gA.hi rfl
     ·exact gA.hi rfl
     ·exact gA.slice (by simp[Co])
   ·refine⟨by show 270<=271;omega,zY (by show 271<1024;omega),.inl rfl,lI.row ?_ afc⟩;rw[zF (K:=2) fun _=>rfl];exact Nat.le_of_lt<|zY ah
   ·refine⟨by show 270<=272;omega,zY (by show 272<1024;omega),.inl rfl,lI.row ?_ ag1⟩;rw[zF (K:=1) fun _=>rfl];exact Nat.le_of_lt<|zY ah
  |buf ms h cap hc=>exact agZ h p hp
  |CI a h cf c hj=>exact afa h hj p hp
 ·cases hx with
  |set a h=>exact⟨_,List.mem_cons_self⟩
  |heap a h c1 c2=>exact⟨_,List.mem_cons_self⟩
  |buf ms h cap hc=>exact⟨_,List.mem_cons_self⟩
  |CI a h cf c hj=>exact⟨_,List.mem_cons_self⟩
theorem Mc{a:cK}{v:AV}(c1 c2:cM)(h:ky a)(hn:nl=a.bY.length)(hv:nv=a.eS.length)(e:Y=y)(ev:v=aX a)(nx:Nat):
 m7 2 y v (aj (aq++[(270,some<|Cn nl nv c1 c2 a.bj a.qP),(271,some<|aI nw a.bY),(272,some<|aI aG a.eS)]) nx) Y:=by
 subst hn;subst hv;subst ev;refine⟨e,_,.heap a h c1 c2,fun m p hm=>?_⟩;simp only[Co,List.mem_cons,List.not_mem_nil,or_false] at hm;rcases hm with hm|hm|hm<;>(injection hm with h1 h2;subst h1;subst h2;kernel_rfl)
abbrev uu(B:aJ)(g nt:Nat)(rs:List ResultVar)(a:cK)(c1 c2:cM)(rest:List AV)(y v':AV):Prop:=av pg B 271 (mf XT pg rs 2 y v') ⟨g,dZ<|.ptr (some (270,0))::rest,nt,[.code<|aW pg g []],[],none⟩<|aj (aq++[(270,some<|Cn a.bY.length a.eS.length c1 c2 a.bj a.qP),(271,some<|aI nw a.bY),(272,some<|aI aG a.eS)]) 273
def fS(l:List Lk)(z:Int):Lk:=l.getD z.toNat default
theorem EU{l:List Lk}{z:Int}(h1:0<=z)(h2:z<((l.length:Nat):Int)):l[z.toNat]? =some (fS l z):=by
 have:z.toNat<l.length:=by omega
 unfold fS;rw[List.getD_eq_getElem?_getD,List.getElem?_eq_getElem this];rfl
def pk(l:List Int)(z:Int):Int:=l.getD z.toNat 0
theorem XF{l:List Int}{z:Int}(h1:0<=z)(h2:z<((l.length:Nat):Int)):l[z.toNat]? =some (pk l z):=by
 have:z.toNat<l.length:=by omega
 unfold pk;rw[List.getD_eq_getElem?_getD,List.getElem?_eq_getElem this];rfl
theorem DT(x:Lk):(nw x).length=2:=rfl
theorem Eo{a:cK}(h:ky a):a.bY.length*2<=top:=by have:=h.1.2;exact Nat.le_of_lt<|zY ah
theorem ag2{a:cK}(h:ky a):a.eS.length*1<=top:=by have:=h.2.1.2;exact Nat.le_of_lt<|zY ah
theorem Om{c1 c2:cM}{x y:Int}:(Qw nl nv c1 c2 x y).length<=top:=Nat.le_of_lt<|zY (by show 4<1024;omega)
abbrev aV(L:bU):Prop:=dX XT 270 pg<|sp L
abbrev Mt(L:bU)(B:aJ):Prop:=qh XT pg 270 eB dV L B
theorem ai{B:Prop}(a:A)(b:B):A/\B:=⟨a,b⟩
theorem oF(h:False):False:=h
theorem rX{α:Type}(x:α):x=x:=rfl
theorem mS(l:List<|Nat×AV):l.map (fun q=>some q.2)=l.map (fun q=>some q.2):=rfl
theorem mO(l:List<|Nat×Option ae):l.map (fun q=>q.2)=l.map (fun q=>q.2):=rfl
theorem wI(z:Int)(h: -9223372036854775808<=z/\z<=9223372036854775807:=by omega):AV.int .i64 (IntKind.wrap .i64 z)=AV.int .i64 z:=congrArg (AV.int .i64)<|Bl h
theorem ix2(z n:Int)(h1:0<=z)(h2:z<n)(x:A):0<=z/\z<n/\A:=⟨h1,h2,x⟩
theorem eZ(z n:Int)(x:A)(h1:0<=z:=by omega)(h2:z<n:=by omega):0<=z/\z<n/\A:=⟨h1,h2,x⟩
abbrev i6(n:Int):AV:=.int .i64 n
abbrev u8(n:Int):AV:=.int .u8 n
abbrev i0:AV:=.int .i64<|.ofNat 0
section
variable {L:bU} {B:aJ} (mc:Mt L B) {f nt:Nat} {t:Tr AV} {K:List Item} {s:AS} {rs:List ResultVar} {R:AV->AS->Prop}
include mc
theorem wS(p:Pl)(x:T)(h:T=wp (en L) 900 6 (.fr f nt K t s) p rs (fun v s _=>R v s) (fun _ _ _=>False):=by as_aux_lemma=>kernel_rfl)(h0:Nat.ble 270 s.nx=true:=by as_aux_lemma=>kernel_rfl):av pg B 270 (Fin pg rs R) ⟨f,t,nt,K,[],none⟩ s:=l6 (E:=en L) eH rfl bT mc.2.2.1 mc.2.2.2 900 p x h h0
theorem oj(p:Pl)(x:T)(h:T=wp (rC L) 900 6 (.fr f nt K t s) p rs (fun v s _=>R v s) (fun _ _ _=>False):=by as_aux_lemma=>kernel_rfl)(h0:Nat.ble 271 s.nx=true:=by as_aux_lemma=>kernel_rfl):av pg B 271 (Fin pg rs R) ⟨f,t,nt,K,[],none⟩ s:=l6 (E:=rC L) eH rfl bT mc.2.2.1 mc.2.2.2 900 p x h h0
theorem wC(hC:∀fr s p,C fr s p->av pg B 270 (Fin pg rs R) fr s)(p:Pl)(x:T)(h:T=wp (en L) 900 6 (.fr f nt K t s) p rs (fun v s _=>R v s) C:=by as_aux_lemma=>kernel_rfl)(h0:Nat.ble 270 s.nx=true:=by as_aux_lemma=>kernel_rfl):av pg B 270 (Fin pg rs R) ⟨f,t,nt,K,[],none⟩ s:=x8 (E:=en L) eH rfl bT mc.2.2.1 mc.2.2.2 gL rfl mc.1 hC 900 p x h h0
theorem IL(hC:∀fr s p,C fr s p->av pg B 271 (Fin pg rs R) fr s)(p:Pl)(x:T)(h:T=wp (rC L) 900 6 (.fr f nt K t s) p rs (fun v s _=>R v s) C:=by as_aux_lemma=>kernel_rfl)(h0:Nat.ble 271 s.nx=true:=by as_aux_lemma=>kernel_rfl):av pg B 271 (Fin pg rs R) ⟨f,t,nt,K,[],none⟩ s:=x8 (E:=rC L) eH rfl bT mc.2.2.1 mc.2.2.2 acK rfl mc.1 hC 900 p x h h0
end
theorem g9{L L':bU}{g:Nat}{fn:Func}{val:List AV->Option AV}(hP:bB pg)(h:aV L)(h':aV L')(ch:Tryz.prog.funcs[g]? =some fn)(eK:∀args v,val args=some v->max fn.ntmps args.length<=top/\∀B:aJ,Mt L' B->av pg B 270 (Fin pg fn.results.toList fun y _=>y=v) ⟨g,dZ args,max fn.ntmps args.length,[.code<|aW pg g []],[],none⟩ ⟨dV,270,0,[],[]⟩)(cw:fn.body=some (aW pg g []):=by kernel_rfl)(hn:(fn.name == "runtime.NumGoroutine")=false:=by kernel_rfl):aV<|(g,.val val)::L:=ae0 hP gL pW ir gZ h h' ch cw hn eK
end cr
end
section
open Go Go.Rn Go.RowKit Go.Proofs
namespace A6
open cr
variable {a:dM} {ve ow st rv:Int} {B:aJ} {L:bU}
noncomputable section
def p7(a:dM)(ow ve:Int):AV:=.int .u8 (if ow≠ -1 then 1 else if ve>a.rv then 2 else 0)
theorem aif(h1:ow≠ -1):AV.int .u8 (.ofNat 1)=p7 a ow ve:=by unfold p7;rw[if_pos h1];rfl
theorem aih(h1:¬(ow≠ -1))(h2:ve>a.rv):AV.int .u8 (.ofNat 2)=p7 a ow ve:=by unfold p7;rw[if_neg h1,if_pos h2];rfl
theorem aii(h1:¬(ow≠ -1))(h2:¬(ve>a.rv)):AV.int .u8 (.ofNat 0)=p7 a ow ve:=by unfold p7;rw[if_neg h1,if_neg h2];rfl
def Cq:dM->List AV->Option (AV×dM)
 |a,[.int .i64 ow,.int .i64 ve]=>some (p7 a ow ve,a)
 |_,_=>none
def hasB(a:dM)(n:Int):Bool:=a.has.getD n.toNat false
theorem OQ{n:Int}(h:iS a)(h1:0<=n)(h2:n<32):(lp a)[2+n.toNat]? =some (AV.bool<|hasB a n):=by
 have hl:=h.2.2;have cF:n.toNat<a.has.length:=by omega
 unfold lp hasB;rw[List.getElem?_append_right (by show 2<=2+n.toNat;omega)];show(a.has.map AV.bool)[2+n.toNat - 2]? =_;rw[show 2+n.toNat - 2=n.toNat by omega,List.getElem?_map,List.getElem?_eq_getElem cF,List.getD_eq_getElem?_getD,List.getElem?_eq_getElem cF];rfl
def Fq(a:dM)(n:Int):dM:={a with has:=a.has.set n.toNat true}
theorem adU{n:Int}:lp (Fq a n)=(lp a).set (2+n.toNat) (AV.bool true):=by unfold lp Fq;rw[List.set_append_right _ _ (by show 2<=2+n.toNat;omega)];show _++(a.has.set n.toNat true).map AV.bool=_++(a.has.map AV.bool).set (2+n.toNat - 2) (AV.bool true);rw[show 2+n.toNat - 2=n.toNat by omega,List.map_set]
theorem V5{n:Int}(h:iS a):iS<|Fq a n:=⟨h.1,h.2.1,by show(a.has.set n.toNat true).length=32;rw[List.length_set];exact h.2.2⟩
def AD(a:dM)(n:Int):AV:=.int .i64 (if n<0\/n>=a.fG then 1 else 0)
def m8(a:dM)(n:Int):dM:=if n<0\/n>=a.fG then a else Fq a n
theorem XG{n:Int}(h:iS a)(q:n<0\/n>=a.fG):m7 1 (AD a n) (gR<|m8 a n) (aj (aq++[(270,some<|kI a)]) 271)<|AV.int .i64<|.ofNat 1:=by unfold AD m8;rw[if_pos q,if_pos q];exact CJ (.set a h) rfl 271
theorem ag3{n:Int}(h:iS a)(h1:n<0):m7 1 (AD a n) (gR<|m8 a n) (aj (aq++[(270,some<|kI a)]) 271)<|AV.int .i64<|.ofNat 1:=XG h<|.inl h1
theorem ag4{n:Int}(h:iS a)(_:¬(n<0))(h2:n>=a.fG):m7 1 (AD a n) (gR<|m8 a n) (aj (aq++[(270,some<|kI a)]) 271)<|AV.int .i64<|.ofNat 1:=XG h<|.inr h2
theorem aij{n:Int}(h:iS a)(h1:¬(n<0))(h2:¬(n>=a.fG)):m7 1 (AD a n) (gR<|m8 a n) (aj (aq++[(270,some<|aI kD<|(lp a).set (2+n.toNat)<|.bool true)]) 271)<|AV.int .i64<|.ofNat 0:=by unfold AD m8;rw[if_neg ah,if_neg ah, ←adU];exact CJ (.set (Fq a n)<|V5 h) rfl 271
def Ic:dM->List AV->Option (AV×dM)
 |a,[.int .i64 n]=>some (AD a n,m8 a n)
 |_,_=>none
def ph(rv st:Int):dM:=⟨rv,st,List.replicate 32 false⟩
theorem aik(hi:Ck rv)(dm:¬(rv<0\/rv>1099511627776\/st<1\/st>32)):m7 1 (.tuple [.ptr<|some (270,0),.int .i64 0]) (gR<|ph rv st) (aj (aq++[(270,some<|kI<|ph rv st)]) 271)<|.tuple [.ptr<|some (270,0),.int .i64<|.ofNat 0]:=CJ (.set (ph rv st) ⟨hi,by show 1<=st/\st<=32;omega,rfl⟩) rfl 271
def Ec:List AV->Option (Option AV×(AV->AV))
 |[.int .i64 rv,.int .i64 st]=>if rv<0\/rv>1099511627776\/st<1\/st>32 then some (none,fun p=>.tuple [p,.int .i64 1]) else some (some<|gR<|ph rv st,fun p=>.tuple [p,.int .i64 0])
 |_=>none
theorem ag5(mc:Mt [] B)(h:iS a):XE B 50 (max Tryz.f50.ntmps 3) (aA Tryz.f50) 1 (kI a) [.int .i64 ow,.int .i64 ve] (p7 a ow ve)<|gR a:=
 oj mc (.st 8<|.rg<|.go 1<|.fk (.go 1<|.en<|.rt 4 .no)<|.go 1<|.en<|.st 2<|.rg<|.go 4<|.ld [(i6 a.rv)]<|.fk (.go 1<|.en<|.rt 4 .no)<|.go 1<|.en<|.rt 6 .no)
  (ax (ow≠(-1)) (fun h1=>(CJ (.set a h) (aif (a:=a) (ow:=ow) (ve:=ve) h1) 271))
  (fun h1=>(ai (tP (xI h) (show(lp a)[0]? =some (AV.int .i64 a.rv) from rfl))
  (ax (ve>a.rv) (fun h2=>(CJ (.set a h) (aih (a:=a) (ow:=ow) (ve:=ve) h1 h2) 271))
  (fun h2=>(CJ (.set a h) (aii (a:=a) (ow:=ow) (ve:=ve) h1 h2) 271))))))
theorem ail(mc:Mt [] B){n:Int}(h:iS a):XE B 56 (max Tryz.f56.ntmps 2) (aA Tryz.f56) 1 (kI a) [.int .i64 n] (AD a n)<|gR<|m8 a n:=
 oj mc (.st 8<|.rg<|.go 1<|.fk (.go 9<|.en<|.rt 4 .no)<|.go 5<|.ld [(i6 a.fG)]<|.fk (.go 2<|.en<|.rt 4 .no)<|.go 2<|.en<|.st 4<|.rg<|.go 4<|.Dd<|.sQ (aI kD<|(lp a).set (2+n.toNat)<|.bool true)<|.en<|.rt 3 .no)
  (ax (n<0) (fun h1=>(ag3 h h1))
  (fun h1=>(ai (tP (xI h) (show(lp a)[1]? =some (AV.int .i64 a.fG) from rfl))
  (ax (n>=a.fG) (fun h2=>(ag4 h h1 h2))
  (fun h2=>(ix2 n (Int.ofNat 32) ah (by have:=h.2.1;have q:n<32:=ah;exact q)
  (ai (OP (c':=(.bool true)) (xI h) (OQ (n:=n) h ah (by have:=h.2.1;omega)) rfl)
  (aij h h1 h2))))))))
theorem afd(mc:Mt [] B)(dm:rv<0\/rv>1099511627776\/st<1\/st>32):av pg B 270 (Fin pg (aA Tryz.f24) fun y _=>y= .tuple [.ptr none,.int .i64 1]) (sF 24 Tryz.f24 [.int .i64 rv,.int .i64 st])<|aj aq 270:=wS mc (.st 4<|.rg<|.go 1<|.fk (.go 12<|.en<|.rt 4 .no)<|.go 2<|.fk (.go 9<|.en<|.rt 4 .no)<|.go 3<|.fk (.go 5<|.en<|.rt 4 .no)<|.go 3<|.fk (.go 1<|.en<|.rt 4 .no)<|.no)<|ax (rv<0) L7 fun _=>(ax (rv>1099511627776) L7 fun _=>(ax (st<1) L7 fun _=>(ax (st>32) L7 eM)))
theorem aim(mc:Mt [] B)(hi:Ck rv)(dm:¬(rv<0\/rv>1099511627776\/st<1\/st>32)):av pg B 270 (mf XT pg (aA Tryz.f24) 1 (.tuple [.ptr<|some (270,0),.int .i64 0])<|gR<|ph rv st) (sF 24 Tryz.f24 [.int .i64 rv,.int .i64 st])<|aj aq 270:=wS mc (.st 4<|.rg<|.go 1<|.fk (.no)<|.go 2<|.fk (.no)<|.go 3<|.fk (.no)<|.go 3<|.fk (.no)<|.go 1<|.en<|.rt 5 .no)<|ax (rv<0) eM fun _=>(ax (rv>1099511627776) eM fun _=>(ax (st<1) eM fun _=>(ax (st>32) eM fun _=>(aik hi dm))))
def XH:FuncId×KE:=(50,.tok 1<|eW gR Cq)
theorem adV(hP:bB pg)(h:aV L):aV<|XH::L:=by
 refine Ea rD hP gL pW ir gZ kG ki h cO Tryz.func50 (body:=aW pg 50 []) aY aY fun v rest y v' e=>?_;obtain⟨a,a',rfl,e1,rfl⟩:=BC e;unfold Cq at e1;split at e1
 ·injection e1 with e1
  injection e1 with e2 e3
  subst e2;subst e3;refine⟨aL.1 aY,fun L hx=>?_⟩;generalize hv:gR a=v at hx;cases hx with
  |set b hb=>have:=zH _ _ hv;subst this;exact⟨271,by omega,aL.1 aY,fun p hp=>Yx,fun B mc=>ag5 mc hb⟩
 ·cases e1
def YA:FuncId×KE:=(56,.tok 1<|eW gR Ic)
theorem afe(hP:bB pg)(h:aV L):aV<|YA::L:=by
 refine Ea rD hP gL pW ir gZ kG ki h cO Tryz.func56 (body:=aW pg 56 []) aY aY fun v rest y v' e=>?_;obtain⟨a,a',rfl,e1,rfl⟩:=BC e;unfold Ic at e1;split at e1
 ·injection e1 with e1
  injection e1 with e2 e3
  subst e2;subst e3;refine⟨aL.1 aY,fun L hx=>?_⟩;generalize hv:gR a=v at hx;cases hx with
  |set b hb=>have:=zH _ _ hv;subst this;exact⟨271,by omega,aL.1 aY,fun p hp=>Yx,fun B mc=>ail mc hb⟩
 ·cases e1
def V6:FuncId×KE:=(24,.new 1 Ec)
theorem abP(hP:bB pg)(h:aV L):aV<|V6::L:=by
 refine J7 rD hP gL (aL.1 aY) ir gZ h cO Tryz.func24 (body:=aW pg 24 []) aY aY fun args p e=>?_;unfold Ec at e;split at e
 ·rename_i rv st;refine⟨aL.1 aY,fun e0 B mc=>?_,fun v e0=>?_⟩
  ·split at e
   ·rename_i dm;injection e with e;subst e
    rw[←gN];exact afd mc dm
   ·injection e with e;subst e;cases e0
  ·split at e
   ·injection e with e;subst e;cases e0
   ·rename_i dm;injection e with e;subst e
    injection e0 with e0
    subst e0;refine⟨v9.RZ rfl,fun B mc=>?_⟩;rw[←gN];exact aim mc (by unfold Ck;omega) dm
 ·cases e
end
end A6
end
section
open Go Go.Rn Go.RowKit Go.Proofs
namespace zk
open cr
variable {a:cK} {c2 c1:cM} {B:aJ} {s dB:Int} {L:bU} {k:Lk}
noncomputable section
def yd(a:cK)(s:Int):AV:=.int .i64 (if 0<=s/\s<a.bY.length then(fS a.bY s).owner else -1)
def zZ(a:cK)(_:Int):cK:=a
def zI(a:cK)(s:Int):AV:=.int .i64 (if 0<=s/\s<a.bY.length then(fS a.bY s).version else 0)
def BD(a:cK)(_:Int):cK:=a
def z6(a:cK)(s:Int):AV:=.int .i64 (if 0<=s/\s<a.eS.length then pk a.eS s else 0)
def B4(a:cK)(_:Int):cK:=a
def KG(a:cK):AV:=.int .i64 a.bj
def PQ(a:cK):cK:=a
def LA(a:cK):AV:=.int .i64 (a.eS.length:Nat)
def Qx(a:cK):cK:=a
def JQ(a:cK):AV:=.int .i64 (a.bY.length:Nat)
def OS(a:cK):cK:=a
def zO(a:cK)(s:Int):AV:=.int .i64 (if 0<=s/\s<a.eS.length then Int.tmod s (a.bY.length:Nat) else -1)
def BP(a:cK)(_:Int):cK:=a
def uv(a:cK)(s:Int)(k:Lk):cK:={a with bY:=a.bY.set s.toNat k}
def qi(a:cK)(s dB:Int):AV:=.int .i64 (if 0<=s/\s<a.bY.length then(if 0<=dB/\dB<6 then(if(fS a.bY s).owner= -1 then 0 else 6) else 1) else 5)
def n7(a:cK)(s dB:Int):cK:=if(0<=s/\s<a.bY.length)/\(0<=dB/\dB<6)/\(fS a.bY s).owner= -1 then uv a s {fS a.bY s with owner:=dB} else a
def sw(a:cK)(s dB:Int):AV:=.int .i64 (if 0<=s/\s<a.bY.length then(if 0<=dB/\(fS a.bY s).owner=dB then 0 else 7) else 5)
def qj(a:cK)(s dB:Int):cK:=if(0<=s/\s<a.bY.length)/\0<=dB/\(fS a.bY s).owner=dB then uv a s {fS a.bY s with owner:= -1} else a
theorem PR(h:ky a):ky<|uv a s k:=by unfold ky uv at*;rw[List.length_set];exact h
theorem On:a.bY.length=(uv a s k).bY.length:=by unfold uv;exact List.length_set.symm
noncomputable abbrev uw(a:cK)(c1:cM):List AV:=[(.slice (some (271,0)) (a.bY.length) c1)]
theorem wy(a:cK)(c1 c2:cM):cellsOf (some<|Cn a.bY.length a.eS.length c1 c2 a.bj a.qP) 0 1=some (uw a c1):=tP Om rfl
theorem Md(a:cK)(c1 c2:cM):cellsOf (some<|Cn a.bY.length a.eS.length c1 c2 a.bj a.qP) 3 1=some [(.slice (some (272,0)) (a.eS.length) c2)]:=tP Om rfl
theorem aka(a:cK)(c1 c2:cM):cellsOf (some<|Cn a.bY.length a.eS.length c1 c2 a.bj a.qP) 1 1=some [(i6 a.bj)]:=tP Om rfl
theorem ks{y Y v:AV}(c1 c2:cM)(h:ky a)(e:Y=y)(ev:v=aX a)(nx:Nat):m7 2 y v (aj (aq++[(270,some<|Cn a.bY.length a.eS.length c1 c2 a.bj a.qP),(271,some<|aI nw a.bY),(272,some<|aI aG a.eS)]) nx) Y:=Mc c1 c2 h rfl rfl e ev nx
theorem aff(mc:Mt [] B)(h:ky a):uu B 51 (max Tryz.f51.ntmps 2) (aA Tryz.f51) a c1 c2 [.int .i64 s] (yd a s)<|aX<|zZ a s:=
 oj mc (.st 4<|.rg<|.go 2<|.il<|.st 8<|.rg<|.go 4<|.il<|.st 4<|.rg<|.go 1<|.fk (.go 9<|.en<|.rt 4<|.go 1<|.en<|.rt 1<|.go 1<|.en<|.rt 7 .no)<|.go 5<|.ld (uw a c1)<|.go 1<|.fk (.go 1<|.en<|.rt 4<|.go 1<|.en<|.rt 1<|.go 1<|.en<|.rt 7 .no)<|.go 1<|.en<|.st 3<|.rg<|.go 3<|.ld (uw a c1)<|.go 1<|.ix<|.go 1<|.en<|.rt 1<|.go 1<|.en<|.rt 1<|.go 1<|.en<|.st 4<|.rg<|.go 3<|.ld [(i6<|(fS a.bY s).owner)]<|.go 1<|.en<|.rt 1 .no)
  (ax (s<0) (fun _=>(ks c1 c2 h (show(i6<|.negSucc 0)=yd a s from by(unfold yd;repeat' split)<;>first|rfl|omega|(exfalso;omega)) (show aX (zZ a s)=aX a from by(unfold zZ;repeat' split)<;>first|rfl|omega|(exfalso;omega)) 273))
  (fun _=>(ai (wy a c1 c2)
  (ax (s>=(a.bY.length:Int)) (fun _=>(ks c1 c2 h (show(i6<|.negSucc 0)=yd a s from by(unfold yd;repeat' split)<;>first|rfl|omega|(exfalso;omega)) (show aX (zZ a s)=aX a from by(unfold zZ;repeat' split)<;>first|rfl|omega|(exfalso;omega)) 273))
  (fun _=>(ai (wy a c1 c2)
  (eZ s (a.bY.length:Int)
  (ai (nk DT (Eo h) (EU (l:=a.bY) (z:=s) ah ah) 0 1 rfl)
  (ks c1 c2 h (show(i6<|(fS a.bY s).owner)=yd a s from by(unfold yd;repeat' split)<;>first|rfl|omega|(exfalso;omega)) (show aX (zZ a s)=aX a from by(unfold zZ;repeat' split)<;>first|rfl|omega|(exfalso;omega)) 273)))))))))
theorem acL(mc:Mt [] B)(h:ky a):uu B 52 (max Tryz.f52.ntmps 2) (aA Tryz.f52) a c1 c2 [.int .i64 s] (zI a s)<|aX<|BD a s:=
 oj mc (.st 4<|.rg<|.go 2<|.il<|.st 8<|.rg<|.go 4<|.il<|.st 4<|.rg<|.go 1<|.fk (.go 9<|.en<|.rt 4<|.go 1<|.en<|.rt 1<|.go 1<|.en<|.rt 7 .no)<|.go 5<|.ld (uw a c1)<|.go 1<|.fk (.go 1<|.en<|.rt 4<|.go 1<|.en<|.rt 1<|.go 1<|.en<|.rt 7 .no)<|.go 1<|.en<|.st 3<|.rg<|.go 3<|.ld (uw a c1)<|.go 1<|.ix<|.go 1<|.en<|.rt 1<|.go 1<|.en<|.rt 1<|.go 1<|.en<|.st 4<|.rg<|.go 3<|.ld [(i6<|(fS a.bY s).version)]<|.go 1<|.en<|.rt 1 .no)
  (ax (s<0) (fun _=>(ks c1 c2 h (show i0=zI a s from by(unfold zI;repeat' split)<;>first|rfl|omega|(exfalso;omega)) (show aX (BD a s)=aX a from by(unfold BD;repeat' split)<;>first|rfl|omega|(exfalso;omega)) 273))
  (fun _=>(ai (wy a c1 c2)
  (ax (s>=(a.bY.length:Int)) (fun _=>(ks c1 c2 h (show i0=zI a s from by(unfold zI;repeat' split)<;>first|rfl|omega|(exfalso;omega)) (show aX (BD a s)=aX a from by(unfold BD;repeat' split)<;>first|rfl|omega|(exfalso;omega)) 273))
  (fun _=>(ai (wy a c1 c2)
  (eZ s (a.bY.length:Int)
  (ai (nk DT (Eo h) (EU (l:=a.bY) (z:=s) ah ah) 1 1 rfl)
  (ks c1 c2 h (show(i6<|(fS a.bY s).version)=zI a s from by(unfold zI;repeat' split)<;>first|rfl|omega|(exfalso;omega)) (show aX (BD a s)=aX a from by(unfold BD;repeat' split)<;>first|rfl|omega|(exfalso;omega)) 273)))))))))
theorem afg(mc:Mt [] B)(h:ky a):uu B 54 (max Tryz.f54.ntmps 2) (aA Tryz.f54) a c1 c2 [.int .i64 s] (z6 a s)<|aX<|B4 a s:=
 oj mc (.st 4<|.rg<|.go 1<|.fk (.go 6<|.en<|.rt 4 .no)<|.go 3<|.il<|.st 8<|.rg<|.go 3<|.ld [(.slice (some (272,0)) (a.eS.length) c2)]<|.go 2<|.en<|.rt 1<|.fk (.go 1<|.en<|.rt 4 .no)<|.go 1<|.en<|.st 3<|.rg<|.go 3<|.ld [(.slice (some (272,0)) (a.eS.length) c2)]<|.go 1<|.ix<|.ld [(i6<|(pk a.eS s))]<|.go 1<|.en<|.rt 1 .no)
  (ax (s<0) (fun _=>(ks c1 c2 h (show i0=z6 a s from by(unfold z6;repeat' split)<;>first|rfl|omega|(exfalso;omega)) (show aX (B4 a s)=aX a from by(unfold B4;repeat' split)<;>first|rfl|omega|(exfalso;omega)) 273))
  (fun _=>(ai (Md a c1 c2)
  (ax (s>=(a.eS.length:Int)) (fun _=>(ks c1 c2 h (show i0=z6 a s from by(unfold z6;repeat' split)<;>first|rfl|omega|(exfalso;omega)) (show aX (B4 a s)=aX a from by(unfold B4;repeat' split)<;>first|rfl|omega|(exfalso;omega)) 273))
  (fun _=>(ai (Md a c1 c2)
  (eZ s (a.eS.length:Int)
  (ai (nk eI.1 (ag2 h) (XF (l:=a.eS) (z:=s) ah ah) 0 1 rfl)
  (ks c1 c2 h (show(i6<|(pk a.eS s))=z6 a s from by(unfold z6;repeat' split)<;>first|rfl|omega|(exfalso;omega)) (show aX (B4 a s)=aX a from by(unfold B4;repeat' split)<;>first|rfl|omega|(exfalso;omega)) 273)))))))))
theorem afh(mc:Mt [] B)(h:ky a):uu B 46 (max Tryz.f46.ntmps 1) (aA Tryz.f46) a c1 c2 [] (KG a)<|aX<|PQ a:=
 oj mc (.st 8<|.rg<|.go 4<|.ld [(i6 a.bj)]<|.go 1<|.en<|.rt 1 .no)
  (ai (aka a c1 c2)
  (ks c1 c2 h (show(i6 a.bj)=KG a from by(unfold KG;repeat' split)<;>first|rfl|omega|(exfalso;omega)) (show aX (PQ a)=aX a from by(unfold PQ;repeat' split)<;>first|rfl|omega|(exfalso;omega)) 273))
theorem ag6(mc:Mt [] B)(h:ky a):uu B 28 (max Tryz.f28.ntmps 1) (aA Tryz.f28) a c1 c2 [] (LA a)<|aX<|Qx a:=
 oj mc (.st 8<|.rg<|.go 3<|.ld [(.slice (some (272,0)) (a.eS.length) c2)]<|.go 2<|.en<|.rt 1 .no)
  (ai (Md a c1 c2)
  (ks c1 c2 h (show(i6<|(a.eS.length:Int))=LA a from by(unfold LA;repeat' split)<;>first|rfl|omega|(exfalso;omega)) (show aX (Qx a)=aX a from by(unfold Qx;repeat' split)<;>first|rfl|omega|(exfalso;omega)) 273))
theorem acM(mc:Mt [] B)(h:ky a):uu B 29 (max Tryz.f29.ntmps 1) (aA Tryz.f29) a c1 c2 [] (JQ a)<|aX<|OS a:=
 oj mc (.st 8<|.rg<|.go 4<|.ld (uw a c1)<|.go 2<|.en<|.rt 1 .no)
  (ai (wy a c1 c2)
  (ks c1 c2 h (show(i6<|(a.bY.length:Int))=JQ a from by(unfold JQ;repeat' split)<;>first|rfl|omega|(exfalso;omega)) (show aX (OS a)=aX a from by(unfold OS;repeat' split)<;>first|rfl|omega|(exfalso;omega)) 273))
theorem adW(mc:Mt [] B)(h:ky a)(h0:1<=a.bY.length):uu B 11 (max Tryz.f11.ntmps 2) (aA Tryz.f11) a c1 c2 [.int .i64 s] (zO a s)<|aX<|BP a s:=
 oj mc (.st 4<|.rg<|.go 1<|.fk (.go 6<|.en<|.rt 4 .no)<|.go 3<|.il<|.st 8<|.rg<|.go 3<|.ld [(.slice (some (272,0)) (a.eS.length) c2)]<|.go 2<|.en<|.rt 1<|.fk (.go 1<|.en<|.rt 4 .no)<|.go 1<|.en<|.st 3<|.rg<|.go 5<|.ld (uw a c1)<|.go 1<|.rm<|.go 1<|.en<|.rt 1 .no)
  (ax (s<0) (fun _=>(ks c1 c2 h (show(i6<|.negSucc 0)=zO a s from by(unfold zO;repeat' split)<;>first|rfl|omega|(exfalso;omega)) (show aX (BP a s)=aX a from by(unfold BP;repeat' split)<;>first|rfl|omega|(exfalso;omega)) 273))
  (fun _=>(ai (Md a c1 c2)
  (ax (s>=(a.eS.length:Int)) (fun _=>(ks c1 c2 h (show(i6<|.negSucc 0)=zO a s from by(unfold zO;repeat' split)<;>first|rfl|omega|(exfalso;omega)) (show aX (BP a s)=aX a from by(unfold BP;repeat' split)<;>first|rfl|omega|(exfalso;omega)) 273))
  (fun _=>(ai (wy a c1 c2)
  (ai (show(a.bY.length:Int)≠0 from by omega)
  (ks c1 c2 h (show(i6<|(Int.tmod s (a.bY.length:Int)))=zO a s from by(unfold zO;repeat' split)<;>first|rfl|omega|(exfalso;omega)) (show aX (BP a s)=aX a from by(unfold BP;repeat' split)<;>first|rfl|omega|(exfalso;omega)) 273))))))))
theorem gV:∀p∈Co a c1 c2,p.1<273:=fun p hp=>by
 simp only[Co,List.mem_cons,List.not_mem_nil,or_false] at hp;rcases hp with rfl|rfl|rfl
 ·show 270<273;omega
 ·show 271<273;omega
 ·show 272<273;omega
theorem Vc{L0:bU}{g:Nat}{fn:Func}{F:cK->List AV->Option (AV×cK)}(hP:bB pg)(h:aV L)(h0:aV L0)(ch:Tryz.prog.funcs[g]? =some fn)(H:∀a rest y a',F a rest=some (y,a')->max fn.ntmps (rest.length+1)<=top/\∀B c1 c2,Mt L0 B->ky a->uu B g (max fn.ntmps<|rest.length+1) fn.results.toList a c1 c2 rest y (aX a'))(cw:fn.body=some (aW pg g []):=by kernel_rfl)(hn:(fn.name == "runtime.NumGoroutine")=false:=by kernel_rfl):aV<|(g,.tok 2<|eW aX F)::L:=by
 refine Ea rD hP gL pW ir gZ kG ki h h0 ch cw hn fun v rest y v' e=>?_;obtain⟨a,a',rfl,e1,rfl⟩:=BC e;obtain⟨q1,q2⟩:=H a rest y a' e1;refine⟨q1,fun L hx=>?_⟩;generalize hv:aX a=v at hx;cases hx with
 |heap b hb c1 c2=>have:=Gz _ _ hv;subst this;exact⟨273,by omega,aL.1 aY,gV,fun B mc=>q2 B c1 c2 mc hb⟩
theorem ain(mc:Mt [] B)(h:ky a):uu B 8 (max Tryz.f8.ntmps 3) (aA Tryz.f8) a c1 c2 [.int .i64 s,.int .i64 dB] (qi a s dB)<|aX<|n7 a s dB:=
 oj mc (.st 3<|.rg<|.go 2<|.il<|.st 8<|.rg<|.go 4<|.il<|.st 4<|.rg<|.go 1<|.fk (.go 9<|.en<|.rt 4<|.go 1<|.en<|.rt 1<|.go 1<|.en<|.st 6<|.rg<|.go 1<|.il<|.rt 10<|.go 1<|.en<|.rt 1 .no)<|.go 5<|.ld (uw a c1)<|.go 1<|.fk (.go 1<|.en<|.rt 4<|.go 1<|.en<|.rt 1<|.go 1<|.en<|.st 6<|.rg<|.go 1<|.il<|.rt 10<|.go 1<|.en<|.rt 1 .no)<|.go 1<|.en<|.st 3<|.rg<|.go 3<|.ld (uw a c1)<|.go 1<|.ix<|.go 1<|.en<|.rt 1<|.go 1<|.en<|.rt 1<|.go 1<|.en<|.st 6<|.rg<|.go 1<|.fk (.go 5<|.en<|.rt 4 .no)<|.go 2<|.fk (.go 2<|.en<|.rt 4 .no)<|.go 2<|.en<|.st 2<|.rg<|.go 3<|.ld [(i6<|(fS a.bY s).owner)]<|.fk (.go 1<|.en<|.rt 4 .no)<|.go 1<|.en<|.st 4<|.rg<|.go 4<|.sQ (aI nw<|a.bY.set s.toNat {(fS a.bY s) with owner:=dB})<|.en<|.rt 3 .no)
  (ax (s<0) (fun _=>(ks c1 c2 h (show(i6<|.ofNat 5)=qi a s dB from by(unfold qi;repeat' split)<;>first|rfl|omega|(exfalso;omega)) (show aX (n7 a s dB)=aX a from by(unfold n7;repeat' split)<;>first|rfl|omega|(exfalso;omega)) 273))
  (fun _=>(ai (wy a c1 c2)
  (ax (s>=(a.bY.length:Int)) (fun _=>(ks c1 c2 h (show(i6<|.ofNat 5)=qi a s dB from by(unfold qi;repeat' split)<;>first|rfl|omega|(exfalso;omega)) (show aX (n7 a s dB)=aX a from by(unfold n7;repeat' split)<;>first|rfl|omega|(exfalso;omega)) 273))
  (fun _=>(ai (wy a c1 c2)
  (eZ s (a.bY.length:Int)
  (ax (dB<0) (fun _=>(ks c1 c2 h (show(i6<|.ofNat 1)=qi a s dB from by(unfold qi;repeat' split)<;>first|rfl|omega|(exfalso;omega)) (show aX (n7 a s dB)=aX a from by(unfold n7;repeat' split)<;>first|rfl|omega|(exfalso;omega)) 273))
  (fun _=>(ax (dB>=6) (fun _=>(ks c1 c2 h (show(i6<|.ofNat 1)=qi a s dB from by(unfold qi;repeat' split)<;>first|rfl|omega|(exfalso;omega)) (show aX (n7 a s dB)=aX a from by(unfold n7;repeat' split)<;>first|rfl|omega|(exfalso;omega)) 273))
  (fun _=>(ai (nk DT (Eo h) (EU (l:=a.bY) (z:=s) ah ah) 0 1 rfl)
  (ax ((fS a.bY s).owner≠(-1)) (fun _=>(ks c1 c2 h (show(i6<|.ofNat 6)=qi a s dB from by(unfold qi;repeat' split)<;>first|rfl|omega|(exfalso;omega)) (show aX (n7 a s dB)=aX a from by(unfold n7;repeat' split)<;>first|rfl|omega|(exfalso;omega)) 273))
  (fun _=>(ai (El DT (Eo h) (EU (l:=a.bY) (z:=s) ah ah) (c':={(fS a.bY s) with owner:=dB}) (r:=[(i6 dB)]) 0 rfl rfl rfl)
  (Mc (a:=(uv a s {(fS a.bY s) with owner:=dB})) (nl:=a.bY.length) (nv:=a.eS.length) c1 c2 (PR h) On rfl (show i0=qi a s dB from by(unfold qi;repeat' split)<;>first|rfl|omega|(exfalso;omega)) (show aX (n7 a s dB)=aX (uv a s {(fS a.bY s) with owner:=dB}) from by(unfold n7;repeat' split)<;>first|rfl|omega|(exfalso;omega)) 273))))))))))))))))
theorem aio(mc:Mt [] B)(h:ky a):uu B 9 (max Tryz.f9.ntmps 3) (aA Tryz.f9) a c1 c2 [.int .i64 s,.int .i64 dB] (sw a s dB)<|aX<|qj a s dB:=
 oj mc (.st 3<|.rg<|.go 3<|.il<|.st 3<|.rg<|.go 2<|.il<|.st 8<|.rg<|.go 4<|.il<|.st 4<|.rg<|.go 1<|.fk (.go 9<|.en<|.rt 4<|.go 1<|.en<|.rt 1<|.go 1<|.en<|.st 6<|.rg<|.go 1<|.il<|.rt 10<|.go 2<|.en<|.rt 1<|.go 5<|.en<|.rt 8 .no)<|.go 5<|.ld (uw a c1)<|.go 1<|.fk (.go 1<|.en<|.rt 4<|.go 1<|.en<|.rt 1<|.go 1<|.en<|.st 6<|.rg<|.go 1<|.il<|.rt 10<|.go 2<|.en<|.rt 1<|.go 5<|.en<|.rt 8 .no)<|.go 1<|.en<|.st 3<|.rg<|.go 3<|.ld (uw a c1)<|.go 1<|.ix<|.go 1<|.en<|.rt 1<|.go 1<|.en<|.rt 1<|.go 1<|.en<|.st 6<|.rg<|.go 1<|.fk (.go 9<|.en<|.rt 4<|.go 5<|.en<|.rt 8 .no)<|.go 4<|.ld [(i6<|(fS a.bY s).owner)]<|.go 1<|.fk (.go 2<|.en<|.rt 4<|.go 5<|.en<|.rt 8 .no)<|.go 2<|.en<|.rt 6<|.go 5<|.en<|.st 4<|.rg<|.go 3<|.sQ (aI nw<|a.bY.set s.toNat {(fS a.bY s) with owner:=(-1)})<|.en<|.rt 3 .no)
  (ax (s<0) (fun _=>(ks c1 c2 h (show(i6<|.ofNat 5)=sw a s dB from by(unfold sw;repeat' split)<;>first|rfl|omega|(exfalso;omega)) (show aX (qj a s dB)=aX a from by(unfold qj;repeat' split)<;>first|rfl|omega|(exfalso;omega)) 273))
  (fun _=>(ai (wy a c1 c2)
  (ax (s>=(a.bY.length:Int)) (fun _=>(ks c1 c2 h (show(i6<|.ofNat 5)=sw a s dB from by(unfold sw;repeat' split)<;>first|rfl|omega|(exfalso;omega)) (show aX (qj a s dB)=aX a from by(unfold qj;repeat' split)<;>first|rfl|omega|(exfalso;omega)) 273))
  (fun _=>(ai (wy a c1 c2)
  (eZ s (a.bY.length:Int)
  (ax (dB<0) (fun _=>(ks c1 c2 h (show(i6<|.ofNat 7)=sw a s dB from by(unfold sw;repeat' split)<;>first|rfl|omega|(exfalso;omega)) (show aX (qj a s dB)=aX a from by(unfold qj;repeat' split)<;>first|rfl|omega|(exfalso;omega)) 273))
  (fun _=>(ai (nk DT (Eo h) (EU (l:=a.bY) (z:=s) ah ah) 0 1 rfl)
  (ax ((fS a.bY s).owner≠dB) (fun _=>(ks c1 c2 h (show(i6<|.ofNat 7)=sw a s dB from by(unfold sw;repeat' split)<;>first|rfl|omega|(exfalso;omega)) (show aX (qj a s dB)=aX a from by(unfold qj;repeat' split)<;>first|rfl|omega|(exfalso;omega)) 273))
  (fun _=>(ai (El DT (Eo h) (EU (l:=a.bY) (z:=s) ah ah) (c':={(fS a.bY s) with owner:=(-1)}) (r:=[(i6<|.negSucc 0)]) 0 rfl rfl rfl)
  (Mc (a:=(uv a s {(fS a.bY s) with owner:=(-1)})) (nl:=a.bY.length) (nv:=a.eS.length) c1 c2 (PR h) On rfl (show i0=sw a s dB from by(unfold sw;repeat' split)<;>first|rfl|omega|(exfalso;omega)) (show aX (qj a s dB)=aX (uv a s {(fS a.bY s) with owner:=(-1)}) from by(unfold qj;repeat' split)<;>first|rfl|omega|(exfalso;omega)) 273))))))))))))))
def anI:cK->List AV->Option (AV×cK)
 |a,[.int .i64 x0]=>some (yd a x0,zZ a x0)
 |_,_=>none
def Me:cK->List AV->Option (AV×cK)
 |a,[.int .i64 x0,.int .i64 x1]=>some (qi a x0 x1,n7 a x0 x1)
 |_,_=>none
def XI:FuncId×KE:=(8,.tok 2<|eW aX Me)
theorem adX(hP:bB pg)(h:aV L):aV<|XI::L:=Vc hP h cO Tryz.func8 fun a rest y a' e=>by unfold Me at e;split at e<;>cases e;exact⟨aL.1 aY,fun B c1 c2 mc hb=>ain mc hb⟩
def Mf:cK->List AV->Option (AV×cK)
 |a,[.int .i64 x0,.int .i64 x1]=>some (sw a x0 x1,qj a x0 x1)
 |_,_=>none
def XJ:FuncId×KE:=(9,.tok 2<|eW aX Mf)
theorem adY(hP:bB pg)(h:aV L):aV<|XJ::L:=Vc hP h cO Tryz.func9 fun a rest y a' e=>by unfold Mf at e;split at e<;>cases e;exact⟨aL.1 aY,fun B c1 c2 mc hb=>aio mc hb⟩
end
end zk
end
section
open Go Go.Rn Go.RowKit Go.Proofs
namespace dj
open cr cS
variable {x1 x0:Int} {L k:Nat}
def uc(m op n:Int)(L:Nat)(x0 x1:Int):Prop:=1<=m/\((op=1/\L=0)\/(op=2/\L=0/\0<=n/\n<8)\/(op=3/\L=0/\0<=n/\n<6)\/(4<=op/\op<=8/\n=0/\L=2/\x0=1/\x1=1))
instance {m op n:Int} {L:Nat} {x0 x1:Int}:Decidable<|uc m op n L x0 x1:=by unfold uc;exact inferInstance
theorem wq1{m op n:Int}(h:1<=m/\((op=1/\L=0)\/(op=2/\L=0/\0<=n/\n<8)\/(op=3/\L=0/\0<=n/\n<6)\/(4<=op/\op<=8/\n=0/\L=2/\x0=1/\x1=1))):AV.bool true= .bool (decide<|uc m op n L x0 x1):=by rw[decide_eq_true (show uc m op n L x0 x1 from h)]
theorem wq0{m op n:Int}(h:¬(1<=m/\((op=1/\L=0)\/(op=2/\L=0/\0<=n/\n<8)\/(op=3/\L=0/\0<=n/\n<6)\/(4<=op/\op<=8/\n=0/\L=2/\x0=1/\x1=1)))):AV.bool false= .bool (decide<|uc m op n L x0 x1):=by rw[decide_eq_false (show ¬uc m op n L x0 x1 from h)]
def ud(k:Nat)(args:List AV)(v:AV):Prop:=∃(e:Ex) (m:Int),args=[.agg<|aM e,.int .i64 m]/\(0<=m/\m<k)/\k<=50/\v= .bool (eP m.toNat e)
theorem ud.bR(args:List AV)(v v':AV)(h:ud k args v)(h':ud k args v'):v=v':=by obtain⟨e,m,rfl,_,_,rfl⟩:=h;obtain⟨e',m',h1,_,_,rfl⟩:=h';simp only[List.cons.injEq,AV.agg.injEq,AV.int.injEq,true_and,_root_.and_true] at h1;rw[nP _ _ h1.1,h1.2]
noncomputable def kW(k:Nat):FuncId×KE:=(110,.val<|ba<|ud k)
theorem afi{B:aJ}{N N0 L0 N1 L1:Nat}{op n m bV n0 cN n1:Int}(mc:Mt [kW k] B)(hn:top<=N)(hm:0<=m/\m<100)(wW:L=2->cx FU N (0+(0:Int).toNat*3+0) 3=some [(u8<|bV),(i6 n0),(.ab N0 0 L0)])(jr:L=2->1<=m->bp (ba<|ud k) [(.agg [(u8<|bV),(i6 n0),(.ab N0 0 L0)]),(i6<|(m - 1))]=some (.bool<|decide<|x0=1))(ja:L=2->cx FU N (0+(1:Int).toNat*3+0) 3=some [(u8<|cN),(i6 n1),(.ab N1 0 L1)])(jK:L=2->1<=m->bp (ba<|ud k) [(.agg [(u8<|cN),(i6 n1),(.ab N1 0 L1)]),(i6<|(m - 1))]=some (.bool<|decide<|x1=1)):av pg B 270 (Fin pg (aA Tryz.f110) fun y _=>y=(.bool<|decide<|uc m op n L x0 x1)) (sF 110 Tryz.f110 [(.agg [(u8<|op),(i6 n),(.ab N 0 L)]),(i6 m)])<|aj aq 270:=wS mc (.st 3<|.rg<|.go 3<|.fk (.go 1<|.en<|.st 3<|.rg<|.go 1<|.fk (.go 1<|.en<|.rt 4 .no)<|.go 1<|.en<|.st 2<|.rg<|.go 2<|.fk (.go 1<|.en<|.rt 4 .no)<|.go 1<|.en<|.st 2<|.rg<|.go 2<|.fk (.go 1<|.en<|.st 2<|.rg<|.go 4<|.fk (.go 4<|.fk (.go 2<|.en<|.rt 1 .no)<|.go 2<|.en<|.rt 1 .no)<|.go 7<|.en<|.rt 1 .no)<|.go 1<|.en<|.st 2<|.rg<|.go 2<|.fk (.go 1<|.en<|.st 2<|.rg<|.go 4<|.fk (.go 4<|.fk (.go 2<|.en<|.rt 1 .no)<|.go 2<|.en<|.rt 1 .no)<|.go 7<|.en<|.rt 1 .no)<|.go 1<|.en<|.st 2<|.rg<|.go 2<|.fk (.go 17<|.en<|.rt 4 .no)<|.go 3<|.fk (.go 13<|.en<|.rt 4 .no)<|.go 4<|.fk (.go 8<|.en<|.rt 4 .no)<|.go 5<|.fk (.go 2<|.en<|.rt 4 .no)<|.go 2<|.en<|.st 4<|.rg<|.go 2<|.eF<|.eG [(u8<|bV),(i6 n0),(.ab N0 0 L0)]<|.go 1<|.vl (i6<|m - 1)<|.kp (x0=1) inferInstance (.go 3<|.eF<|.eG [(u8<|cN),(i6 n1),(.ab N1 0 L1)]<|.go 1<|.vl (i6<|m - 1)<|.kp (x1=1) inferInstance (.go 2<|.en<|.rt 1 .no)<|.go 2<|.en<|.rt 1 .no)<|.go 10<|.en<|.rt 1 .no)<|.go 1<|.en<|.st 3<|.rg<|.go 1<|.fk (.go 1<|.en<|.rt 4 .no)<|.go 1<|.en<|.st 2<|.rg<|.go 2<|.fk (.go 1<|.en<|.rt 4 .no)<|.go 1<|.en<|.st 2<|.rg<|.go 2<|.fk (.go 1<|.en<|.rt 4 .no)<|.go 1<|.en<|.st 2<|.rg<|.go 2<|.fk (.go 1<|.en<|.rt 4 .no)<|.go 1<|.en<|.st 2<|.rg<|.go 2<|.fk (.go 17<|.en<|.rt 4 .no)<|.go 3<|.fk (.go 13<|.en<|.rt 4 .no)<|.go 4<|.fk (.go 8<|.en<|.rt 4 .no)<|.go 5<|.fk (.go 2<|.en<|.rt 4 .no)<|.go 2<|.en<|.st 4<|.rg<|.go 2<|.eF<|.eG [(u8<|bV),(i6 n0),(.ab N0 0 L0)]<|.go 1<|.vl (i6<|m - 1)<|.kp (x0=1) inferInstance (.go 3<|.eF<|.eG [(u8<|cN),(i6 n1),(.ab N1 0 L1)]<|.go 1<|.vl (i6<|m - 1)<|.kp (x1=1) inferInstance (.go 2<|.en<|.rt 1 .no)<|.go 2<|.en<|.rt 1 .no)<|.go 10<|.en<|.rt 1 .no)<|ax ((L:Int)=0) (fun _=>(ax (m<1) px fun _=>(ax (op=1) L6 fun _=>(ax (op=2) (fun _=>(ax (n>=0) (fun _=>(ax (n<8) L6 px)) px)) fun _=>(ax (op=3) (fun _=>(ax (n>=0) (fun _=>(ax (n<6) L6 px)) px)) Yl))))) fun _=>(ax (m<1) px fun _=>(ax (op=1) px fun _=>(ax (op=2) px fun _=>(ax (op=3) px Yl))))
end dj
end
section
open Go Go.Rn Go.RowKit Go.Proofs
namespace dA
open cr cS dj
theorem zP{l:List Ex}{i:Nat}{a:Ex}(h:l[i]? =some a){z:Int}(hz:z.toNat=i):cx FU (nm<|dy l) (0+z.toNat*3+0) 3=some (aM a):=by rw[DQ,hz,Nat.zero_add,ya kU h 0 3 ah];rw[List.drop_zero,List.take_of_length_le (by rw[kU.len];omega)]
def bit(b:Bool):Int:=if b then 1 else 0
theorem xQ(b:Bool):decide (bit b=1)=b:=by cases b<;>rfl
theorem adZ{m op n:Int}{l:List Ex}(h0:0<=m):uc m op n l.length (bit<|eP (m - 1).toNat<|l.getD 0 default) (bit<|eP (m - 1).toNat<|l.getD 1 default)↔eP m.toNat (.mk op n l)=true:=by
 by_cases hm:m=0
 ·subst hm;unfold uc;show _↔false=true;constructor
  ·intro h;omega
  ·intro h;cases h
 ·obtain⟨k,hk⟩:∃k,m.toNat=k+1:=⟨m.toNat - 1,by omega⟩;rw[hk,show(m - 1).toNat=k by omega,Nz];unfold uc;have b1:∀b:Bool,(bit b=1)↔b=true:=fun b=>by cases b<;>decide
  rw[b1,b1];have e1:l.isEmpty=true↔l.length=0:=by cases l<;>simp
  generalize eP k (l.getD 0 default)=x;generalize eP k (l.getD 1 default)=y;generalize l.isEmpty=q at e1;generalize l.length=L at e1;have x2:(x=true)\/(x=false):=by cases x<;>simp
  have y2:(y=true)\/(y=false):=by cases y<;>simp
  split
  ·rw[e1];omega
  split
  ·rw[Bool.and_eq_true,Bool.and_eq_true,e1,decide_eq_true_eq,decide_eq_true_eq];omega
  split
  ·rw[Bool.and_eq_true,Bool.and_eq_true,e1,decide_eq_true_eq,decide_eq_true_eq];omega
  split
  ·exact⟨fun h=>by omega,fun h=>by cases h⟩
  rw[Bool.and_eq_true,Bool.and_eq_true,decide_eq_true_eq];constructor
  ·intro h;rcases h.2 with h|h|h|h
   ·omega
   ·omega
   ·omega
   ·exact⟨⟨h.2.2.2.1,h.2.2.2.2.1⟩,h.2.2.2.2.2⟩
  ·intro h;exact⟨by omega,.inr<|.inr<|.inr ⟨by omega,by omega,by omega,h.1.1,h.1.2,h.2⟩⟩
theorem Cm(e:Ex):AV.hi (.agg<|aM e)=true:=by show(aM e).all AV.cq=true;exact List.all_eq_true.2 fun x hx=>D2<|List.all_eq_true.1 (kU.gi e) x hx
theorem abQ(hP:bB pg){k:Nat}(h':aV [kW k]){L:bU}(h:aV L):aV<|kW (k+1)::L:=by
 refine g9 hP h h' Tryz.func110 fun args v e=>?_;obtain⟨⟨op,n,l⟩,m,rfl,hm,hk,rfl⟩:=gf e;refine⟨aL.1 aY,fun B mc=>?_⟩;rw[←gN];obtain⟨bV,n0,l0,e0⟩:∃a b c,l.getD 0 default=Ex.mk a b c:=by cases l.getD 0 default;exact⟨_,_,_,rfl⟩
 obtain⟨cN,n1,l1,e1⟩:∃a b c,l.getD 1 default=Ex.mk a b c:=by cases l.getD 1 default;exact⟨_,_,_,rfl⟩
 have c:∀x:Ex,1<=m->bp (ba<|ud k) [.agg<|aM x,.int .i64<|m - 1]=some (.bool<|decide<|bit (eP (m - 1).toNat x)=1):=fun x h1=>by rw[xQ];refine fu (ff ud.bR ⟨x,m - 1,rfl,by omega,by omega,rfl⟩) ?_ rfl;rw[List.all_cons,Cm];rfl
 have key:=afi (L:=l.length) (N:=nm<|dy l) (op:=op) (n:=n) (m:=m) (k:=k) mc (cU _) ah
  (x0:=bit<|eP (m - 1).toNat<|l.getD 0 default) (x1:=bit<|eP (m - 1).toNat<|l.getD 1 default)
  (N0:=nm<|dy l0) (L0:=l0.length) (bV:=bV) (n0:=n0) (N1:=nm<|dy l1) (L1:=l1.length) (cN:=cN) (n1:=n1)
  (fun _=>by have:=zP (l:=l) (i:=0) (a:=l.getD 0 default) (by rw[List.getD_eq_getElem?_getD,List.getElem?_eq_getElem (show 0<l.length by omega)];rfl) (z:=0) rfl;rw[e0,aM] at this;exact this)
  (fun h2 h1=>by have:=c (l.getD 0 default) h1;rw[e0,aM, ←e0] at this;exact this)
  (fun _=>by have:=zP (l:=l) (i:=1) (a:=l.getD 1 default) (by rw[List.getD_eq_getElem?_getD,List.getElem?_eq_getElem (show 1<l.length by omega)];rfl) (z:=1) rfl;rw[e1,aM] at this;exact this)
  (fun h2 h1=>by have:=c (l.getD 1 default) h1;rw[e1,aM, ←e1] at this;exact this)
 rw[show decide (uc m op n l.length _ _)=eP m.toNat (.mk op n l) from by rw[Bool.eq_iff_iff,decide_eq_true_eq];exact adZ hm.1] at key;rw[aM];exact key
theorem Uq(hP:bB pg):∀k,aV [kW k]
 |0=>by refine g9 hP cO cO Tryz.func110 fun args v e=>?_;obtain⟨_,m,_,hm,_⟩:=gf e;omega
 |k+1=>abQ hP (Uq hP k) cO
end dA
end
section
open Go Go.Rn Go.RowKit Go.Proofs
namespace gF
open cr cS dj dA
variable {x:Int} {B:aJ} {N L:Nat}
def uG(x m:Int):AV:=if m<1 then .tuple [.int .i64 0,.int .i64 1] else if Int.tmod x m<0 then .tuple [.int .i64<|Int.tmod x m+m,.int .i64 0] else .tuple [.int .i64<|Int.tmod x m,.int .i64 0]
theorem afj{m:Int}(h:1<=m): - m<Int.tmod x m/\Int.tmod x m<m:=by have h1:=Int.tmod_lt_of_pos x (show 0<m by omega);have h2:=Int.lt_tmod_of_pos x (show 0<m by omega);exact⟨h2,h1⟩
theorem afk{op n:Int}(mc:Mt [kW 7] B)(hc:bp (ba<|ud 7) [(.agg [(u8<|op),(i6 n),(.ab N 0 L)]),.int .i64 6]=some (.bool<|decide<|x=1)):av pg B 270 (Fin pg (aA Tryz.f102) fun y _=>y=(.bool<|decide<|x=1)) (sF 102 Tryz.f102 [(.agg [(u8<|op),(i6 n),(.ab N 0 L)])])<|aj aq 270:=wS mc (.st 3<|.rg<|.go 1<|.kp (x=1) inferInstance (.go 1<|.en<|.rt 1 .no)<|.go 1<|.en<|.rt 1 .no)<|ai hc<|ax (x=1) (fun _=>(show AV.bool true= .bool (decide<|x=1) from by rw[decide_eq_true ah])) fun _=>(show AV.bool false= .bool (decide<|x=1) from by rw[decide_eq_false ah])
theorem akb{o:Nat}{z u:Int}(mc:Mt [] B)(hn:top<=N)(hz:0<=z)(hy:z<(L:Int)->cx FU N (o+z.toNat*1+0) 1=some [.int .i64 u]):av pg B 270 (Fin pg (aA Tryz.f111) fun y _=>y=(if z>=(L:Int) then .tuple [.int .i64 0,.int .i64 5] else .tuple [.int .i64 u,.int .i64 0])) (sF 111 Tryz.f111 [(.ab N o L),(i6 z)])<|aj aq 270:=wS mc (.st 4<|.rg<|.go 3<|.fk (.en<|.rt 4 .no)<|.en<|.st 3<|.rg<|.go 2<|.eF<|.eG [(i6 u)]<|.go 2<|.en<|.rt 1 .no)<|ax (z>=(L:Int)) (fun _=>(show AV.tuple [i0,(i6<|.ofNat 5)]=(if z>=(L:Int) then .tuple [.int .i64 0,.int .i64 5] else .tuple [.int .i64 u,.int .i64 0]) from by rw[if_pos ah];rfl)) fun _=>(eZ z (L:Int)<|ai hn<|ai (hy ah) (show AV.tuple [(i6 u),i0]=(if z>=(L:Int) then .tuple [.int .i64 0,.int .i64 5] else .tuple [.int .i64 u,.int .i64 0]) from by rw[if_neg ah];rfl))
theorem aip{m:Int}(mc:Mt [] B)(hm:m<=1099511627776)(ht:1<=m-> - m<Int.tmod x m):av pg B 270 (Fin pg (aA Tryz.f87) fun y _=>y=(uG x m)) (sF 87 Tryz.f87 [(i6 x),(i6 m)])<|aj aq 270:=wS mc (.st 4<|.rg<|.go 1<|.fk (.en<|.rt 4 .no)<|.en<|.st 3<|.rg<|.go 2<|.rm<|.go 1<|.en<|.st 2<|.rg<|.go 1<|.fk (.en<|.st 1<|.rg<|.go 2<|.vl (i6<|(Int.tmod x m)+m)<|.go 1<|.en<|.rt 3 .no)<|.en<|.rt 5 .no)<|ax (m<1) (fun _=>(show AV.tuple [i0,(i6<|.ofNat 1)]=uG x m from by unfold uG;repeat' split<;>first|rfl|omega|(exfalso;omega))) fun _=>(ai (show m≠0 from by omega)<|ax ((Int.tmod x m)<0) (fun _=>(ai (wI<|(Int.tmod x m)+m) (show AV.tuple [(i6<|((Int.tmod x m)+m)),i0]=uG x m from by unfold uG;repeat' split<;>first|rfl|omega|(exfalso;omega)))) fun _=>(show AV.tuple [(i6<|(Int.tmod x m)),i0]=uG x m from by unfold uG;repeat' split<;>first|rfl|omega|(exfalso;omega)))
end gF
end
section
open Go Go.Rn Go.RowKit Go.Proofs
namespace fT
open cr cS dj dA gF
variable {L:bU}
noncomputable section
def wz(args:List AV)(v:AV):Prop:=∃e:Ex,args=[.agg<|aM e]/\v= .bool (eP 6 e)
theorem wz.bR(args:List AV)(v v':AV)(h:wz args v)(h':wz args v'):v=v':=by obtain⟨e,rfl,rfl⟩:=h;obtain⟨e',h1,rfl⟩:=h';simp only[List.cons.injEq,AV.agg.injEq,_root_.and_true] at h1;rw[nP _ _ h1]
def Q9:FuncId×KE:=(102,.val<|ba wz)
theorem V7(hP:bB pg)(h:aV L):aV<|Q9::L:=by refine g9 hP h (Uq hP 7) Tryz.func102 fun args v e=>?_;obtain⟨⟨op,n,l⟩,rfl,rfl⟩:=gf e;refine⟨aL.1 aY,fun B mc=>?_⟩;rw[←gN];have key:=afk (L:=l.length) (N:=nm<|dy l) (op:=op) (n:=n) (x:=bit<|eP 6<|.mk op n l) mc (by rw[xQ];have:=fu (ff ud.bR ⟨.mk op n l,6,rfl,by omega,by omega,rfl⟩:ba (ud 7) [.agg<|aM<|.mk op n l,.int .i64 6]=_) sr rfl;rw[aM] at this;exact this);rw[xQ] at key;rw[aM];exact key
def s8(l:List Int)(z:Int):Int×Int:=if z>=(l.length:Int) then(0,5) else(pk l z,0)
def Fs(p:Int×Int):AV:=.tuple [.int .i64 p.1,.int .i64 p.2]
def AtR(args:List AV)(v:AV):Prop:=∃(N o L:Nat) (l:List Int) (z:Int),args=[.ab N o L,.int .i64 z]/\di aG 1 (.ab N o L) l/\0<=z/\v=Fs (s8 l z)
theorem AtR.bR(args:List AV)(v v':AV)(h:AtR args v)(h':AtR args v'):v=v':=by obtain⟨N,o,L,l,z,rfl,hl,_,rfl⟩:=h;obtain⟨N',o',L',l',z',h1,nf,_,rfl⟩:=h';simp only[List.cons.injEq,AV.ab.injEq,AV.int.injEq,true_and,_root_.and_true] at h1;obtain⟨⟨rfl,rfl,rfl⟩,rfl⟩:=h1;rw[di.inj rR hl nf]
def A7:FuncId×KE:=(111,.val<|ba AtR)
theorem ag7(hP:bB pg)(h:aV L):aV<|A7::L:=by
 refine g9 hP h cO Tryz.func111 fun args v e=>?_;obtain⟨N,o,len,l,z,rfl,hl,hz,rfl⟩:=gf e;refine⟨aL.1 aY,fun B mc=>?_⟩;rw[←gN];obtain⟨h1,h2,h3⟩:=hl.len;subst h1;have key:=akb (u:=pk l z) mc h2 hz (fun cF=>by have:=h3 z.toNat (pk l z)<|XF hz ah;exact this);unfold Fs s8;split at key<;>rename_i q
 ·rw[if_pos q];exact key
 ·rw[if_neg q];exact key
def CK(args:List AV)(v:AV):Prop:=∃(x m:Int),args=[.int .i64 x,.int .i64 m]/\m<=1099511627776/\v=uG x m
theorem CK.bR(args:List AV)(v v':AV)(h:CK args v)(h':CK args v'):v=v':=by obtain⟨x,m,rfl,_,rfl⟩:=h;obtain⟨x',m',h1,_,rfl⟩:=h';simp only[List.cons.injEq,AV.int.injEq,true_and,_root_.and_true] at h1;rw[h1.1,h1.2]
def Mg:FuncId×KE:=(87,.val<|ba CK)
theorem afl(hP:bB pg)(h:aV L):aV<|Mg::L:=by refine g9 hP h cO Tryz.func87 fun args v e=>?_;obtain⟨x,m,rfl,hm,rfl⟩:=gf e;refine⟨aL.1 aY,fun B mc=>?_⟩;rw[←gN];exact aip mc hm fun h=>(afj h).1
end
end fT
end
section
open Go Go.Rn Go.RowKit Go.Proofs
namespace ia
open cr cS dj dA gF fT
variable {k q p lm lg N1 N0 N L1 L0 L G:Nat} {x1 x0 bV n1 n0 f1 f0:Int} {B:aJ}
def oo(op a b:Int):Int:=if op=4 then IntKind.wrap .i64 (a+b) else if op=5 then IntKind.wrap .i64 (a - b) else if op=6 then IntKind.wrap .i64 (a*b) else if op=7 then(if a<b then 1 else 0) else if a=b then 1 else 0
def lJ(op n x0 f0 x1 f1:Int):Int×Int:=if op=1 then(n,0) else if op=2 then(x0,f0) else if op=3 then(x0,f0) else if f0≠0 then(0,f0) else if f1≠0 then(0,f1) else(oo op x0 x1,0)
def gO(op n x0 f0 x1 f1:Int):AV:=Fs<|lJ op n x0 f0 x1 f1
def lK:Nat->Ex->List Int->List Int->Int×Int
 |0,_,_,_=>(0,0)
 |k+1,.mk op n args,lo,aH=>
  if op=2 then lJ op n (s8 lo n).1 (s8 lo n).2 0 0 else if op=3 then lJ op n (s8 aH n).1 (s8 aH n).2 0 0
  else lJ op n (lK k (args.getD 0 default) lo aH).1 (lK k (args.getD 0 default) lo aH).2 (lK k (args.getD 1 default) lo aH).1 (lK k (args.getD 1 default) lo aH).2
theorem abR{op n:Int}{args:List Ex}{lo aH:List Int}:lK (k+1) (.mk op n args) lo aH=if op=2 then lJ op n (s8 lo n).1 (s8 lo n).2 0 0 else if op=3 then lJ op n (s8 aH n).1 (s8 aH n).2 0 0 else lJ op n (lK k (args.getD 0 default) lo aH).1 (lK k (args.getD 0 default) lo aH).2 (lK k (args.getD 1 default) lo aH).1 (lK k (args.getD 1 default) lo aH).2:=rfl
def qQ(k:Nat)(args:List AV)(v:AV):Prop:=∃(e:Ex) (M p lm G q lg:Nat) (lo aH:List Int),args=[.agg<|aM e,.ab M p lm,.ab G q lg]/\di aG 1 (.ab M p lm) lo/\di aG 1 (.ab G q lg) aH/\eP k e=true/\v=Fs (lK k e lo aH)
theorem qQ.bR(args:List AV)(v v':AV)(h:qQ k args v)(h':qQ k args v'):v=v':=by obtain⟨e,M,p,lm,G,q,lg,lo,aH,rfl,a1,a2,_,rfl⟩:=h;obtain⟨e',M',p',lm',G',q',lg',mL,YB,h1,b1,b2,_,rfl⟩:=h';simp only[List.cons.injEq,AV.agg.injEq,AV.ab.injEq,_root_.and_true] at h1;obtain⟨h0,⟨rfl,rfl,rfl⟩,rfl,rfl,rfl⟩:=h1;rw[nP _ _ h0,di.inj rR a1 b1,di.inj rR a2 b2]
noncomputable def kC(k:Nat):FuncId×KE:=(103,.val<|ba<|qQ k)
theorem afm{M N0 L0 N1 L1:Nat}{n bV n0 cN n1:Int}(mc:Mt [kC k,A7] B):av pg B 270 (Fin pg (aA Tryz.f103) fun y _=>y=(gO 1 n x0 f0 x1 f1)) (sF 103 Tryz.f103 [(.agg [(u8<|.ofNat 1),(i6 n),(.ab N 0 L)]),(.ab M p lm),(.ab G q lg)])<|aj aq 270:=wS mc (.rt 12 .no) (show AV.tuple [(i6 n),i0]=gO 1 n x0 f0 x1 f1 from by(unfold gO lJ oo;repeat' split)<;>first|rfl|(exfalso;omega))
theorem afn{M N0 L0 N1 L1:Nat}{n bV n0 cN n1:Int}(mc:Mt [kC k,A7] B)(hc:bp (ba AtR) [(.ab M p lm),.int .i64 n]=some (.tuple [.int .i64 x0,.int .i64 f0])):av pg B 270 (Fin pg (aA Tryz.f103) fun y _=>y=(gO 2 n x0 f0 x1 f1)) (sF 103 Tryz.f103 [(.agg [(u8<|.ofNat 2),(i6 n),(.ab N 0 L)]),(.ab M p lm),(.ab G q lg)])<|aj aq 270:=wS mc (.st 13<|.rg<|.go 3<|.kn (.tuple [(i6 x0),(i6 f0)])<|.go 4<|.en<|.rt 1 .no)<|ai hc (show AV.tuple [(i6 x0),(i6 f0)]=gO 2 n x0 f0 x1 f1 from by(unfold gO lJ oo;repeat' split)<;>first|rfl|(exfalso;omega))
theorem afo{M N0 L0 N1 L1:Nat}{n bV n0 cN n1:Int}(mc:Mt [kC k,A7] B)(hc:bp (ba AtR) [(.ab G q lg),.int .i64 n]=some (.tuple [.int .i64 x0,.int .i64 f0])):av pg B 270 (Fin pg (aA Tryz.f103) fun y _=>y=(gO 3 n x0 f0 x1 f1)) (sF 103 Tryz.f103 [(.agg [(u8<|.ofNat 3),(i6 n),(.ab N 0 L)]),(.ab M p lm),(.ab G q lg)])<|aj aq 270:=wS mc (.st 16<|.rg<|.go 3<|.kn (.tuple [(i6 x0),(i6 f0)])<|.go 4<|.en<|.rt 1 .no)<|ai hc (show AV.tuple [(i6 x0),(i6 f0)]=gO 3 n x0 f0 x1 f1 from by(unfold gO lJ oo;repeat' split)<;>first|rfl|(exfalso;omega))
theorem Pr{ka:Int}(hk:ka=4\/ka=5\/ka=6){L M:Nat}{n cN:Int}(mc:Mt [kC k,A7] B)(hn:top<=N)(wW:cx FU N (0+(0:Int).toNat*3+0) 3=some [(u8<|bV),(i6 n0),(.ab N0 0 L0)])(jr:bp (ba<|qQ k) [(.agg [(u8<|bV),(i6 n0),(.ab N0 0 L0)]),(.ab M p lm),(.ab G q lg)]=some (.tuple [.int .i64 x0,.int .i64 f0]))(ja:cx FU N (0+(1:Int).toNat*3+0) 3=some [(u8<|cN),(i6 n1),(.ab N1 0 L1)])(jK:bp (ba<|qQ k) [(.agg [(u8<|cN),(i6 n1),(.ab N1 0 L1)]),(.ab M p lm),(.ab G q lg)]=some (.tuple [.int .i64 x1,.int .i64 f1])):av pg B 270 (Fin pg (aA Tryz.f103) fun y _=>y=(gO ka n x0 f0 x1 f1)) (sF 103 Tryz.f103 [(.agg [(.int .u8 ka),(i6 n),(.ab N 0 2)]),(.ab M p lm),(.ab G q lg)])<|aj aq 270:=by
 have TT:=(eZ (0:Int) 2<|ai hn<|ai wW<|ai jr<|ax (f0≠0) (fun _=>(show AV.tuple [i0,(i6 f0)]=gO ka n x0 f0 x1 f1 from by rcases hk with rfl|rfl|rfl<;>(unfold gO lJ oo;repeat' split)<;>first|rfl|(exfalso;omega))) fun _=>(eZ (1:Int) 2<|ai hn<|ai ja<|ai jK<|ax (f1≠0) (fun _=>(show AV.tuple [i0,(i6 f1)]=gO ka n x0 f0 x1 f1 from by rcases hk with rfl|rfl|rfl<;>(unfold gO lJ oo;repeat' split)<;>first|rfl|(exfalso;omega))) fun _=>(show AV.tuple [(i6<|oo ka x0 x1),i0]=gO ka n x0 f0 x1 f1 from by rcases hk with rfl|rfl|rfl<;>(unfold gO lJ oo;repeat' split)<;>first|rfl|(exfalso;omega))));rcases hk with rfl|rfl|rfl
 all_goals exact wS mc (.st 32<|.rg<|.go 1<|.eF<|.eG [(u8<|bV),(i6 n0),(.ab N0 0 L0)]<|.go 3<|.en<|.st 1<|.rg<|.go 3<|.kn (.tuple [(i6 x0),(i6 f0)])<|.go 5<|.en<|.st 2<|.rg<|.go 1<|.fk (.en<|.rt 4 .no)<|.en<|.st 14<|.rg<|.go 1<|.eF<|.eG [(u8<|cN),(i6 n1),(.ab N1 0 L1)]<|.go 3<|.en<|.st 1<|.rg<|.go 3<|.kn (.tuple [(i6 x1),(i6 f1)])<|.go 5<|.en<|.st 2<|.rg<|.go 1<|.fk (.en<|.rt 4 .no)<|.en<|.st 12<|.rg<|.go 8<|.il<|.st 3<|.rg<|.go 2<|.go 1<|.go 1<|.en<|.rt 1<|.go 2<|.en<|.rt 1 .no) TT
theorem afp{L M:Nat}{n cN:Int}(mc:Mt [kC k,A7] B)(hn:top<=N)(wW:cx FU N (0+(0:Int).toNat*3+0) 3=some [(u8<|bV),(i6 n0),(.ab N0 0 L0)])(jr:bp (ba<|qQ k) [(.agg [(u8<|bV),(i6 n0),(.ab N0 0 L0)]),(.ab M p lm),(.ab G q lg)]=some (.tuple [.int .i64 x0,.int .i64 f0]))(ja:cx FU N (0+(1:Int).toNat*3+0) 3=some [(u8<|cN),(i6 n1),(.ab N1 0 L1)])(jK:bp (ba<|qQ k) [(.agg [(u8<|cN),(i6 n1),(.ab N1 0 L1)]),(.ab M p lm),(.ab G q lg)]=some (.tuple [.int .i64 x1,.int .i64 f1])):av pg B 270 (Fin pg (aA Tryz.f103) fun y _=>y=(gO 7 n x0 f0 x1 f1)) (sF 103 Tryz.f103 [(.agg [(u8<|.ofNat 7),(i6 n),(.ab N 0 2)]),(.ab M p lm),(.ab G q lg)])<|aj aq 270:=wS mc (.st 32<|.rg<|.go 1<|.eF<|.eG [(u8<|bV),(i6 n0),(.ab N0 0 L0)]<|.go 3<|.en<|.st 1<|.rg<|.go 3<|.kn (.tuple [(i6 x0),(i6 f0)])<|.go 5<|.en<|.st 2<|.rg<|.go 1<|.fk (.en<|.rt 4 .no)<|.en<|.st 14<|.rg<|.go 1<|.eF<|.eG [(u8<|cN),(i6 n1),(.ab N1 0 L1)]<|.go 3<|.en<|.st 1<|.rg<|.go 3<|.kn (.tuple [(i6 x1),(i6 f1)])<|.go 5<|.en<|.st 2<|.rg<|.go 1<|.fk (.en<|.rt 4 .no)<|.en<|.st 12<|.rg<|.go 8<|.il<|.st 3<|.rg<|.go 2<|.fk (.il<|.rt 9<|.go 1<|.en<|.rt 1<|.go 2<|.en<|.rt 1 .no)<|.il<|.rt 10<|.go 1<|.en<|.rt 1<|.go 2<|.en<|.rt 1 .no)<|eZ (0:Int) 2<|ai hn<|ai wW<|ai jr<|ax (f0≠0) (fun _=>(show AV.tuple [i0,(i6 f0)]=gO 7 n x0 f0 x1 f1 from by(unfold gO lJ oo;repeat' split)<;>first|rfl|(exfalso;omega))) fun _=>(eZ (1:Int) 2<|ai hn<|ai ja<|ai jK<|ax (f1≠0) (fun _=>(show AV.tuple [i0,(i6 f1)]=gO 7 n x0 f0 x1 f1 from by(unfold gO lJ oo;repeat' split)<;>first|rfl|(exfalso;omega))) fun _=>(ax (x0<x1) (fun _=>(show AV.tuple [(i6<|.ofNat 1),i0]=gO 7 n x0 f0 x1 f1 from by(unfold gO lJ oo;repeat' split)<;>first|rfl|(exfalso;omega))) fun _=>(show AV.tuple [i0,i0]=gO 7 n x0 f0 x1 f1 from by(unfold gO lJ oo;repeat' split)<;>first|rfl|(exfalso;omega))))
theorem afq{L M:Nat}{n cN:Int}(mc:Mt [kC k,A7] B)(hn:top<=N)(wW:cx FU N (0+(0:Int).toNat*3+0) 3=some [(u8<|bV),(i6 n0),(.ab N0 0 L0)])(jr:bp (ba<|qQ k) [(.agg [(u8<|bV),(i6 n0),(.ab N0 0 L0)]),(.ab M p lm),(.ab G q lg)]=some (.tuple [.int .i64 x0,.int .i64 f0]))(ja:cx FU N (0+(1:Int).toNat*3+0) 3=some [(u8<|cN),(i6 n1),(.ab N1 0 L1)])(jK:bp (ba<|qQ k) [(.agg [(u8<|cN),(i6 n1),(.ab N1 0 L1)]),(.ab M p lm),(.ab G q lg)]=some (.tuple [.int .i64 x1,.int .i64 f1])):av pg B 270 (Fin pg (aA Tryz.f103) fun y _=>y=(gO 8 n x0 f0 x1 f1)) (sF 103 Tryz.f103 [(.agg [(u8<|.ofNat 8),(i6 n),(.ab N 0 2)]),(.ab M p lm),(.ab G q lg)])<|aj aq 270:=wS mc (.st 32<|.rg<|.go 1<|.eF<|.eG [(u8<|bV),(i6 n0),(.ab N0 0 L0)]<|.go 3<|.en<|.st 1<|.rg<|.go 3<|.kn (.tuple [(i6 x0),(i6 f0)])<|.go 5<|.en<|.st 2<|.rg<|.go 1<|.fk (.en<|.rt 4 .no)<|.en<|.st 14<|.rg<|.go 1<|.eF<|.eG [(u8<|cN),(i6 n1),(.ab N1 0 L1)]<|.go 3<|.en<|.st 1<|.rg<|.go 3<|.kn (.tuple [(i6 x1),(i6 f1)])<|.go 5<|.en<|.st 2<|.rg<|.go 1<|.fk (.en<|.rt 4 .no)<|.en<|.st 12<|.rg<|.go 8<|.il<|.st 3<|.rg<|.go 2<|.fk (.il<|.rt 9<|.go 1<|.en<|.rt 1<|.go 2<|.en<|.rt 1 .no)<|.il<|.rt 10<|.go 1<|.en<|.rt 1<|.go 2<|.en<|.rt 1 .no)<|eZ (0:Int) 2<|ai hn<|ai wW<|ai jr<|ax (f0≠0) (fun _=>(show AV.tuple [i0,(i6 f0)]=gO 8 n x0 f0 x1 f1 from by(unfold gO lJ oo;repeat' split)<;>first|rfl|(exfalso;omega))) fun _=>(eZ (1:Int) 2<|ai hn<|ai ja<|ai jK<|ax (f1≠0) (fun _=>(show AV.tuple [i0,(i6 f1)]=gO 8 n x0 f0 x1 f1 from by(unfold gO lJ oo;repeat' split)<;>first|rfl|(exfalso;omega))) fun _=>(ax (x0=x1) (fun _=>(show AV.tuple [(i6<|.ofNat 1),i0]=gO 8 n x0 f0 x1 f1 from by(unfold gO lJ oo;repeat' split)<;>first|rfl|(exfalso;omega))) fun _=>(show AV.tuple [i0,i0]=gO 8 n x0 f0 x1 f1 from by(unfold gO lJ oo;repeat' split)<;>first|rfl|(exfalso;omega))))
end ia
end
section
open Go Go.Rn Go.RowKit Go.Proofs
namespace ig
open cr cS dj dA gF fT ia
variable {k:Nat}
theorem abd{op n:Int}{l:List Ex}(h:eP (k+1) (.mk op n l)=true):(op=1\/(op=2/\0<=n)\/(op=3/\0<=n))\/((op=4\/op=5\/op=6\/op=7\/op=8)/\l.length=2/\eP k (l.getD 0 default)=true/\eP k (l.getD 1 default)=true):=by
 rw[Nz] at h;split at h
 ·omega
 split at h
 ·rw[Bool.and_eq_true,Bool.and_eq_true,decide_eq_true_eq] at h;omega
 split at h
 ·rw[Bool.and_eq_true,Bool.and_eq_true,decide_eq_true_eq] at h;omega
 split at h
 ·cases h
 rw[Bool.and_eq_true,Bool.and_eq_true,decide_eq_true_eq] at h;exact .inr ⟨by omega,h.1.1,h.1.2,h.2⟩
theorem XK{N o L:Nat}{l:List Int}{z:Int}(h:di aG 1 (.ab N o L) l)(hz:0<=z):bp (ba AtR) [.ab N o L,.int .i64 z]=some (.tuple [.int .i64 (s8 l z).1,.int .i64 (s8 l z).2]):=fu (ff AtR.bR ⟨N,o,L,l,z,rfl,h,hz,rfl⟩) (by rw[List.all_cons,h.hi];rfl) rfl
theorem Ps{e:Ex}{M p lm G q lg:Nat}{lo aH:List Int}(h1:di aG 1 (.ab M p lm) lo)(h2:di aG 1 (.ab G q lg) aH)(hw:eP k e=true):
 bp (ba<|qQ k) [.agg<|aM e,.ab M p lm,.ab G q lg]=some (.tuple [.int .i64 (lK k e lo aH).1,.int .i64 (lK k e lo aH).2]):=
 fu (ff qQ.bR ⟨e,M,p,lm,G,q,lg,lo,aH,rfl,h1,h2,hw,rfl⟩) (by rw[List.all_cons,List.all_cons,List.all_cons,Cm,h1.hi,h2.hi];rfl) rfl
theorem acN(hP:bB pg)(h':aV [kC k,A7]){L:bU}(h:aV L):aV<|kC (k+1)::L:=by
 refine g9 hP h h' Tryz.func103 fun args v e=>?_;obtain⟨⟨op,n,l⟩,M,p,lm,G,q,lg,lo,aH,rfl,i1,i2,hw,rfl⟩:=gf e;refine⟨aL.1 aY,fun B mc=>?_⟩;rw[←gN,abR,aM];rcases abd hw with(rfl|⟨rfl,hn⟩|⟨rfl,hn⟩)|⟨ho,h2,w0,w1⟩
 ·exact afm (N0:=0) (L0:=0) (N1:=0) (L1:=0) (bV:=0) (n0:=0) (cN:=0) (n1:=0) (x0:=(lK k (l.getD 0 default) lo aH).1) (f0:=(lK k (l.getD 0 default) lo aH).2) (x1:=(lK k (l.getD 1 default) lo aH).1) (f1:=(lK k (l.getD 1 default) lo aH).2) mc
 ·exact afn (N0:=0) (L0:=0) (N1:=0) (L1:=0) (bV:=0) (n0:=0) (cN:=0) (n1:=0) (x1:=0) (f1:=0) mc<|XK i1 hn
 ·exact afo (N0:=0) (L0:=0) (N1:=0) (L1:=0) (bV:=0) (n0:=0) (cN:=0) (n1:=0) (x1:=0) (f1:=0) mc<|XK i2 hn
 obtain⟨bV,n0,l0,e0⟩:∃a b c,l.getD 0 default=Ex.mk a b c:=by cases l.getD 0 default;exact⟨_,_,_,rfl⟩
 obtain⟨cN,n1,l1,e1⟩:∃a b c,l.getD 1 default=Ex.mk a b c:=by cases l.getD 1 default;exact⟨_,_,_,rfl⟩
 have t0:=zP (l:=l) (i:=0) (a:=l.getD 0 default) (by rw[List.getD_eq_getElem?_getD,List.getElem?_eq_getElem (show 0<l.length by omega)];rfl) (z:=0) rfl;have t1:=zP (l:=l) (i:=1) (a:=l.getD 1 default) (by rw[List.getD_eq_getElem?_getD,List.getElem?_eq_getElem (show 1<l.length by omega)];rfl) (z:=1) rfl;have c0:=Ps i1 i2 w0;have c1:=Ps i1 i2 w1;rw[if_neg ah,if_neg ah,h2];generalize wW:lK k (l.getD 0 default) lo aH=y0 at c0;generalize ja:lK k (l.getD 1 default) lo aH=y1 at c1;rw[e0,aM] at t0 c0;rw[e1,aM] at t1 c1;rcases ho with rfl|rfl|rfl|rfl|rfl
 ·exact Pr (.inl rfl) (L:=0) mc (cU _) t0 c0 t1 c1
 ·exact Pr (.inr<|.inl rfl) (L:=0) mc (cU _) t0 c0 t1 c1
 ·exact Pr (.inr<|.inr rfl) (L:=0) mc (cU _) t0 c0 t1 c1
 ·exact afp (L:=0) mc (cU _) t0 c0 t1 c1
 ·exact afq (L:=0) mc (cU _) t0 c0 t1 c1
theorem Vd(hP:bB pg):∀(k:Nat) {L:bU},aV L->aV (kC k::L)
 |0,L,h=>by refine g9 hP h cO Tryz.func103 fun args v e=>?_;obtain⟨_,_,_,_,_,_,_,_,_,_,_,_,hw,_⟩:=gf e;cases hw
 |k+1,L,h=>acN hP (Vd hP k<|ag7 hP cO) h
end ig
end
section
open Go Go.Rn Go.RowKit Go.Proofs
namespace iv
open cr cS dj dA gF fT ia ig
theorem PS{e:Ex}:bp (ba wz) [.agg<|aM e]=some (.bool<|eP 6 e):=fu (ff wz.bR ⟨e,rfl,rfl⟩) sr rfl
def Ah(e:Ex)(lo aH:List Int):Int×Int:=if eP 6 e=true then lK 6 e lo aH else(0,4)
def Ai(args:List AV)(v:AV):Prop:=∃(e:Ex) (M p lm G q lg:Nat) (lo aH:List Int),args=[.agg<|aM e,.ab M p lm,.ab G q lg]/\di aG 1 (.ab M p lm) lo/\di aG 1 (.ab G q lg) aH/\v=Fs (Ah e lo aH)
theorem Ai.bR(args:List AV)(v v':AV)(h:Ai args v)(h':Ai args v'):v=v':=by obtain⟨e,M,p,lm,G,q,lg,lo,aH,rfl,a1,a2,rfl⟩:=h;obtain⟨e',M',p',lm',G',q',lg',mL,YB,h1,b1,b2,rfl⟩:=h';simp only[List.cons.injEq,AV.agg.injEq,AV.ab.injEq,_root_.and_true] at h1;obtain⟨h0,⟨rfl,rfl,rfl⟩,rfl,rfl,rfl⟩:=h1;rw[nP _ _ h0,di.inj rR a1 b1,di.inj rR a2 b2]
theorem ag8{B:aJ}{N L M p lm G q lg:Nat}{op n x u f:Int}(mc:Mt [Q9,kC 6] B)(hc:bp (ba wz) [(.agg [(u8<|op),(i6 n),(.ab N 0 L)])]=some (.bool<|decide<|x=1))(hd:x=1->bp (ba<|qQ 6) [(.agg [(u8<|op),(i6 n),(.ab N 0 L)]),(.ab M p lm),(.ab G q lg)]=some (.tuple [.int .i64 u,.int .i64 f])):av pg B 270 (Fin pg (aA Tryz.f85) fun y _=>y=(if x=1 then .tuple [.int .i64 u,.int .i64 f] else .tuple [.int .i64 0,.int .i64 4])) (sF 85 Tryz.f85 [(.agg [(u8<|op),(i6 n),(.ab N 0 L)]),(.ab M p lm),(.ab G q lg)])<|aj aq 270:=wS mc (.st 4<|.rg<|.go 1<|.kp (x=1) inferInstance (.go 1<|.en<|.st 3<|.rg<|.go 3<|.kn (.tuple [(i6 u),(i6 f)])<|.go 4<|.en<|.rt 1 .no)<|.go 1<|.en<|.rt 4 .no)<|ai hc<|ax (x=1) (fun _=>(ai (hd ah) (show AV.tuple [(i6 u),(i6 f)]=(if x=1 then .tuple [.int .i64 u,.int .i64 f] else .tuple [.int .i64 0,.int .i64 4]) from by split<;>first|rfl|(exfalso;omega)))) fun _=>(show AV.tuple [i0,(i6<|.ofNat 4)]=(if x=1 then .tuple [.int .i64 u,.int .i64 f] else .tuple [.int .i64 0,.int .i64 4]) from by split<;>first|rfl|(exfalso;omega))
end iv
end
section
open Go Go.Rn Go.RowKit Go.Proofs
namespace F7
open cr cS dj dA dL
variable {B:aJ} {kind:Int} {L:bU}
noncomputable section
def MH:List<|List Bool:=[[false,false,false,false,false,false],[true,true,true,false,false,false],[true,true,true,false,false,false],[true,false,true,true,false,false],[true,false,true,false,true,true],[true,false,true,false,true,false],[true,false,false,false,false,false],[true,false,false,false,true,true],[true,false,true,false,false,false]]
def qy(kind:Int):List Bool:=MH.getD kind.toNat [false,false,false,false,false,false]
def w7(kind:Int):AV:=.agg<|(qy kind).map AV.bool
theorem afr(h:9<=kind):w7 kind= .agg [.bool false,.bool false,.bool false,.bool false,.bool false,.bool false]:=by unfold w7 qy;rw[List.getD_eq_getElem?_getD,List.getElem?_eq_none (show MH.length<=kind.toNat by show 9<=kind.toNat;omega)];rfl
theorem akc{k:Int}(mc:Mt [] B)(h:0<=k/\k<9):av pg B 270 (Fin pg (aA Tryz.f92) fun y _=>y=(w7 k)) (sF 92 Tryz.f92 [.int .u8 k])<|aj aq 270:=by
 have TT:(AV.int .i64 (IntKind.wrap .i64 k)= .int .i64 k)/\w7 k=w7 k:=⟨wI k,rfl⟩;let P:Pl:=.st 6<|.rg<|.go 1<|.vl (.int .i64 k)<|.go 1<|.en<|.rt 5 .no;obtain rfl|rfl|rfl|rfl|rfl|rfl|rfl|rfl|rfl:k=0\/k=1\/k=2\/k=3\/k=4\/k=5\/k=6\/k=7\/k=8:=by omega
 all_goals exact wS mc P TT uC
theorem akd(mc:Mt [] B)(h0:9<=kind)(h9:kind<256):av pg B 270 (Fin pg (aA Tryz.f92) fun y _=>y=(w7 kind)) (sF 92 Tryz.f92 [(u8<|kind)])<|aj aq 270:=wS mc (.st 6<|.rg<|.go 1<|.vl (.int .i64 kind)<|.fk (.en<|.rt 4 .no)<|.no)<|ai (wI kind)<|ax (kind>=9) (fun _=>(show(.agg [(.bool false),(.bool false),(.bool false),(.bool false),(.bool false),(.bool false)])=w7 kind from(afr h0).symm)) eM
theorem ag9{N L:Nat}{op n:Int}(mc:Mt [] B):av pg B 270 (Fin pg (aA Tryz.f95) fun y _=>y=(.bool<|decide<|op=0/\n=0/\L=0)) (sF 95 Tryz.f95 [(.agg [(u8<|op),(i6 n),(.ab N 0 L)])])<|aj aq 270:=wS mc (.st 3<|.rg<|.go 2<|.fk (.go 3<|.fk (.go 5<|.fk (.go 2<|.en<|.rt 1 .no)<|.go 2<|.en<|.rt 1 .no)<|.go 8<|.en<|.rt 1 .no)<|.go 12<|.en<|.rt 1 .no)<|ax (op=0) (fun _=>(ax (n=0) (fun _=>(ax ((L:Int)=0) (fun _=>(show AV.bool true= .bool (decide<|op=0/\n=0/\L=0) from by rw[decide_eq_true ah])) fun _=>(show AV.bool false= .bool (decide<|op=0/\n=0/\L=0) from by rw[decide_eq_false ah]))) fun _=>(show AV.bool false= .bool (decide<|op=0/\n=0/\L=0) from by rw[decide_eq_false ah]))) fun _=>(show AV.bool false= .bool (decide<|op=0/\n=0/\L=0) from by rw[decide_eq_false ah])
def ku(args:List AV)(v:AV):Prop:=∃kind:Int,args=[.int .u8 kind]/\0<=kind/\kind<256/\v=w7 kind
theorem ku.bR(args:List AV)(v v':AV)(h:ku args v)(h':ku args v'):v=v':=by obtain⟨x,rfl,_,_,rfl⟩:=h;obtain⟨x',h1,_,_,rfl⟩:=h';simp only[List.cons.injEq,AV.int.injEq,true_and,_root_.and_true] at h1;rw[h1]
def w8:FuncId×KE:=(92,.val<|ba ku)
theorem aha(hP:bB pg)(h:aV L):aV<|w8::L:=by
 refine g9 hP h cO Tryz.func92 fun args v e=>?_;obtain⟨kind,rfl,h0,h1,rfl⟩:=gf e;refine⟨aL.1 aY,fun B mc=>?_⟩;rw[←gN];by_cases h9:9<=kind
 ·exact akd mc h9 h1
 exact akc mc ⟨h0,by omega⟩
def EV(e:Ex):Prop:=e.op=0/\e.n=0/\e.args.length=0
instance {e:Ex}:Decidable<|EV e:=by unfold EV;exact inferInstance
def ny(args:List AV)(v:AV):Prop:=∃e:Ex,args=[.agg<|aM e]/\v= .bool (decide<|EV e)
theorem ny.bR(args:List AV)(v v':AV)(h:ny args v)(h':ny args v'):v=v':=by obtain⟨e,rfl,rfl⟩:=h;obtain⟨e',h1,rfl⟩:=h';simp only[List.cons.injEq,AV.agg.injEq,_root_.and_true] at h1;rw[nP _ _ h1]
def wc:FuncId×KE:=(95,.val<|ba ny)
theorem ad0(hP:bB pg)(h:aV L):aV<|wc::L:=by refine g9 hP h cO Tryz.func95 fun args v e=>?_;obtain⟨⟨op,n,l⟩,rfl,rfl⟩:=gf e;refine⟨aL.1 aY,fun B mc=>?_⟩;rw[←gN,aM];exact ag9 mc
end
end F7
end
section
open Go Go.Rn Go.RowKit Go.Proofs
namespace fc
open cr cS dj dA dL
variable {k N L N0 L0:Nat} {B:aJ} {bV n0 i c:Int}
noncomputable section
theorem PT{nx:Nat}{l:List<|Nat×AV}(h:∀r:Nat->Nat,(∀k,top<=k->r k=k)->∀p∈l,bz r p.2 p.2)(hn:Nat.ble 270 nx=true):yH nx l aq:=by intro r r1 r2;exact⟨h r r2,fun p hp x hx=>GQ (nx:=270) (fun k hk=>r1 k<|Nat.lt_of_lt_of_le hk<|aL.1 hn) cC p hp x hx⟩
def ux:Nat->Ex->Bool
 |0,_=>false
 |k+1,.mk _ _ args=>args.all<|ux k
def vM(k:Nat)(args:List AV)(v:AV):Prop:=∃e:Ex,args=[.agg<|aM e]/\ux k e=true/\lG k e<=1000000/\v= .int .i64 (lG k e)
theorem vM.bR(args:List AV)(v v':AV)(h:vM k args v)(h':vM k args v'):v=v':=by obtain⟨e,rfl,_,_,rfl⟩:=h;obtain⟨e',h1,_,_,rfl⟩:=h';simp only[List.cons.injEq,AV.agg.injEq,_root_.and_true] at h1;rw[nP _ _ h1]
def B5(k:Nat):FuncId×KE:=(106,.val<|ba<|vM k)
def B6(N:Nat)(L:Nat)(m:Int)(i:Int):List<|Nat×AV:=[(3,(i6 m)),(7,(.ab N 0 L)),(8,(i6<|(L:Int))),(9,(i6 i))]
def ye(N:Nat)(L:Nat)(m:Int)(i:Int):AF:=⟨106,aP<|B6 N L m i,(max Tryz.f106.ntmps 1),[.code<|aW pg 106 [1,1,0,1,0,0],.inLoop<|aW pg 106 [1,1,0,1,0,0],.inBlock 0,.code<|aW pg 106 [1,1,1]],[],none⟩
theorem W1(N:Nat)(L:Nat)(m:Int)(i:Int)(hn:top<=N):((B6 N L m i).map (fun q=>some q.2)=(B6 N L m i).map (fun q=>some q.2))/\(aq.map (fun q=>q.2)=aq.map (fun q=>q.2))/\yH 270 (B6 N L m i) aq/\(ye N L m i=ye N L m i/\aj aq 270=aj aq 270):=⟨rfl,rfl,PT (fun r r2 p hp=>by simp only[B6,List.mem_cons,List.not_mem_nil,or_false] at hp;rcases hp with rfl|rfl|rfl|rfl<;>first|exact bz.int _ _|exact bz.ab (r2 _ hn) r2) rfl,rfl,rfl⟩
theorem ahb{m:Int}{v:AV}(mc:Mt [B5 k] B)(hn:top<=N)(hi:0<=i)(hL:L<=1000000)(hm:0<=m/\m<=1000000)(jr:0<=c/\c<=1000000)(hx:cx FU N (0+i.toNat*3+0) 3=some [(u8<|bV),(i6 n0),(.ab N0 0 L0)])(hc:bp (ba<|vM k) [(.agg [(u8<|bV),(i6 n0),(.ab N0 0 L0)])]=some (.int .i64 c))(h1:i<(L:Int))(H:av pg B 270 (Fin pg (aA Tryz.f106) fun y _=>y=v) (ye N L (m+c)<|i+1)<|aj aq 270):av pg B 270 (Fin pg (aA Tryz.f106) fun y _=>y=v) (ye N L m i)<|aj aq 270:=wC mc (C:=(fun fr s1 _=>fr=ye N L (m+c) (i+1)/\s1=aj aq 270)) nJ (.st 1<|.rg<|.fk (.en<|.st 6<|.rg<|.eF<|.eG [(u8<|bV),(i6 n0),(.ab N0 0 L0)]<|.go 2<|.en<|.rg<|.go 2<|.kn (i6 c)<|.vl (i6<|m+c)<|.go 1<|.en<|.st 1<|.rg<|.vl (i6<|i+1)<|.go 1<|.en<|.st 1<|.bk (B6 N L (m+c)<|i+1) aq 270 .no)<|.no)<|ax (i<(L:Int)) (fun _=>(eZ i (L:Int)<|ai hn<|ai hx<|ai hc<|ai (wI<|m+c)<|ai (wI<|i+1)<|W1 N L (m+c) (i+1) hn)) eM
theorem ahc{m:Int}{v:AV}{N0 L0:Nat}{bV n0 c:Int}(mc:Mt [B5 k] B)(h1:(L:Int)<=i)(hv: .int .i64 m=v):av pg B 270 (Fin pg (aA Tryz.f106) fun y _=>y=v) (ye N L m i)<|aj aq 270:=wS mc (.st 1<|.rg<|.fk (.no)<|.en<|.rt 6 .no)<|ax (i<(L:Int)) eM fun _=>(show(i6 m)=v from hv)
theorem go_cnt{op n:Int}{v:AV}(mc:Mt [B5 k] B)(hn:top<=N)(H:av pg B 270 (Fin pg (aA Tryz.f106) fun y _=>y=v) (ye N L 1 0)<|aj aq 270):av pg B 270 (Fin pg (aA Tryz.f106) fun y _=>y=v) (sF 106 Tryz.f106 [(.agg [(u8<|op),(i6 n),(.ab N 0 L)])])<|aj aq 270:=wC mc (C:=(fun fr s1 _=>fr=ye N L 1 0/\s1=aj aq 270)) nJ (.st 9<|.bk (B6 N L 1 0) aq 270 .no)<|W1 N L 1 0 hn
end
end fc
end
section
open Go Go.Rn Go.RowKit Go.Proofs
namespace CL
open cr cS dj dA fc dL
theorem Kb{g:Ex->Int}:∀(l:List Ex) (m:Int),(∀a∈l,1<=g a)->m+(l.length:Nat)<=l.foldl (fun n a=>n+g a) m
 |[],m,_=>by simp only[List.length_nil,List.foldl_nil];omega
 |a::l,m,h=>by have h1:=Kb l (m+g a) fun b hb=>h b<|List.mem_cons_of_mem _ hb;have h2:=h a List.mem_cons_self;rw[List.foldl_cons,List.length_cons];omega
theorem GA:∀(k:Nat) (e:Ex),ux k e=true->1<=lG k e
 |0,_,h=>by cases h
 |k+1,.mk op n l,h=>by have h1:l.all (ux k)=true:=h;have:=Kb (g:=lG k) l 1 fun a ha=>GA k a<|List.all_eq_true.1 h1 a ha;show 1<=l.foldl (fun n a=>n+lG k a) 1;omega
theorem abS(hP:bB pg){k:Nat}(h':aV [B5 k]){L:bU}(h:aV L):aV<|B5 (k+1)::L:=by
 refine g9 hP h h' Tryz.func106 fun args v e=>?_;obtain⟨⟨op,n,l⟩,rfl,hd,hc,rfl⟩:=gf e;refine⟨aL.1 aY,fun B mc=>?_⟩;rw[←gN,aM];have hd:l.all (ux k)=true:=hd;have hc:l.foldl (fun n a=>n+lG k a) 1<=1000000:=hc;have pos:∀a∈l,1<=lG k a:=fun a ha=>GA k a<|List.all_eq_true.1 hd a ha;have key:∀(r:List Ex) (i:Nat) (m:Int),l.drop i=r->0<=m->r.foldl (fun n a=>n+lG k a) m<=1000000->
  av pg B 270 (Fin pg (aA Tryz.f106) fun y _=>y= .int .i64 (r.foldl (fun n a=>n+lG k a) m)) (ye (nm<|dy l) l.length m i) (aj aq 270):=by
  intro r;induction r with
  |nil=>intro i m hr _ _;have hi:l.length<=i:=List.drop_eq_nil_iff.1 hr;exact ahc (k:=k) (N0:=0) (L0:=0) (bV:=0) (n0:=0) (c:=0) mc ah rfl
  |cons a r ih=>
   intro i m hr h0 h1;have hl:i<l.length:=by
    by_cases q:i<l.length
    ·exact q
    ·rw[List.drop_of_length_le ah] at hr;cases hr
   have ha:l[i]? =some a:=by have:=congrArg (fun q=>q[0]?) hr;simp only[List.getElem?_drop,List.getElem?_cons_zero,Nat.add_zero] at this;exact this
   have hm:a∈l:=List.mem_of_getElem? ha;have lR:l.drop (i+1)=r:=by have:=congrArg (List.drop 1) hr;rw[List.drop_drop] at this;exact this
   have ake:∀b∈r,b∈l:=fun b hb=>List.mem_of_mem_drop (i:=i) (by rw[hr];exact List.mem_cons_of_mem _ hb);have h2:=Kb (g:=lG k) r (m+lG k a) fun b hb=>pos b<|ake b hb;have h3:=pos a hm;have h4:=Kb (g:=lG k) l 1 pos;rw[List.foldl_cons] at h1 ⊢;obtain⟨bV,n0,l0⟩:=a;have hx:=zP ha (z:=(i:Int)) ah;have bI:=fu (ff vM.bR ⟨.mk bV n0 l0,rfl,List.all_eq_true.1 hd _ hm,by omega,rfl⟩:ba (vM k) [.agg<|aM<|.mk bV n0 l0]=_) sr rfl;rw[aM] at hx bI;exact ahb (k:=k) mc (cU _) ah ah ah ah hx bI ah<|ih (i+1) (m+lG k (.mk bV n0 l0)) lR ah h1
 exact go_cnt mc (cU _)<|key l 0 1 (List.drop_zero) ah hc
theorem Ur(hP:bB pg):∀(k:Nat) {L:bU},aV L->aV (B5 k::L)
 |0,L,h=>by refine g9 hP h cO Tryz.func106 fun args v e=>?_;obtain⟨_,_,hd,_⟩:=gf e;cases hd
 |k+1,L,h=>abS hP (Ur hP k cO) h
end CL
end
section
open Go Go.Rn Go.RowKit Go.Proofs
namespace u6
open cr cS dj dA dL fc CL
def mC(k:Nat)(e:Ex):Int:=if e.op=0 then 0 else lG k e
def z7(k:Nat)(args:List AV)(v:AV):Prop:=∃e:Ex,args=[.agg<|aM e]/\ux k e=true/\lG k e<=1000000/\v= .int .i64 (mC k e)
theorem z7.bR{k:Nat}(args:List AV)(v v':AV)(h:z7 k args v)(h':z7 k args v'):v=v':=by obtain⟨e,rfl,_,_,rfl⟩:=h;obtain⟨e',h1,_,_,rfl⟩:=h';simp only[List.cons.injEq,AV.agg.injEq,_root_.and_true] at h1;rw[nP _ _ h1]
noncomputable def pX(k:Nat):FuncId×KE:=(89,.val<|ba<|z7 k)
theorem afs{B:aJ}{k N L:Nat}{op n c:Int}(mc:Mt [B5 k] B)(hc:bp (ba<|vM k) [(.agg [(u8<|op),(i6 n),(.ab N 0 L)])]=some (.int .i64 c)):av pg B 270 (Fin pg (aA Tryz.f89) fun y _=>y=(i6 (if op=0 then 0 else c))) (sF 89 Tryz.f89 [(.agg [(u8<|op),(i6 n),(.ab N 0 L)])])<|aj aq 270:=wS mc (.st 4<|.rg<|.go 2<|.fk (.en<|.rt 4 .no)<|.en<|.st 3<|.rg<|.go 1<|.kn (i6 c)<|.go 1<|.en<|.rt 1 .no)<|ax (op=0) (fun _=>(show(i0:AV)= .int .i64 (if op=0 then 0 else c) from by split<;>first|rfl|(exfalso;omega))) fun _=>(ai hc (show((i6 c):AV)= .int .i64 (if op=0 then 0 else c) from by split<;>first|rfl|(exfalso;omega)))
theorem Us(hP:bB pg)(k:Nat){L:bU}(h:aV L):aV<|pX k::L:=by refine g9 hP h (Ur hP k cO) Tryz.func89 fun args v e=>?_;obtain⟨⟨op,n,l⟩,rfl,hd,hc,rfl⟩:=gf e;refine⟨aL.1 aY,fun B mc=>?_⟩;rw[←gN];have bI:=fu (ff vM.bR ⟨.mk op n l,rfl,hd,hc,rfl⟩:ba (vM k) [.agg<|aM<|.mk op n l]=_) sr rfl;rw[aM] at bI ⊢;exact afs mc bI
end u6
end
section
open Go Go.Rn Go.RowKit Go.Proofs
namespace gK
open cr cS dj dA dL fc CL
variable {k N L:Nat} {B:aJ} {i:Int}
noncomputable section
def cR(x y:Int):Int:=match decide (y>x) with|true=>y|false=>x
def jv(ld le:Nat)(m cd ce:Int):Int:=if 0<le then cR (if 0<ld then cR m cd else m) ce else if 0<ld then cR m cd else m
def ct:St->List St| .mk _ _ _ _ b _=>b
def cm:St->List St| .mk _ _ _ _ _ b=>b
def fw:Nat->List St->Int
 |0,_=>0
 |k+1,l=>l.foldl (fun m s=>jv (ct s).length (cm s).length m (fw k<|ct s)<|fw k<|cm s) 0+1
def sb:Nat->List St->Bool
 |0,_=>false
 |k+1,l=>decide (l.length<=1000000)&&l.all fun s=>((ct s).isEmpty||sb k (ct s))&&((cm s).isEmpty||sb k (cm s))
def ue(k:Nat)(args:List AV)(v:AV):Prop:=∃l:List St,args=[.ab (nm<|bC l) 0 l.length]/\sb k l=true/\k<=100/\v= .int .i64 (fw k l)
theorem ue.bR(args:List AV)(v v':AV)(h:ue k args v)(h':ue k args v'):v=v':=by obtain⟨l,rfl,_,_,rfl⟩:=h;obtain⟨l',h1,_,_,rfl⟩:=h';simp only[List.cons.injEq,AV.ab.injEq,_root_.and_true,true_and] at h1;rw[tH _ _<|tZ (lU l) (lU l') h1.1]
def jC(k:Nat):FuncId×KE:=(67,.val<|ba<|ue k)
def vN(N L:Nat)(m i:Int):List<|Nat×AV:=[(3,(i6 m)),(6,(.ab N 0 L)),(7,(i6<|(L:Int))),(8,(i6 i))]
def yf(N L:Nat)(m i:Int):AF:=⟨67,aP<|vN N L m i,(max Tryz.f67.ntmps 1),[.code<|aW pg 67 [1,1,0,1,0,0],.inLoop<|aW pg 67 [1,1,0,1,0,0],.inBlock 0,.code<|aW pg 67 [1,1,1]],[],none⟩
theorem Hg(N L:Nat)(m i:Int)(hn:top<=N){M:Int}(e:m=M):((vN N L m i).map (fun q=>some q.2)=(vN N L m i).map (fun q=>some q.2))/\(aq.map (fun q=>q.2)=aq.map (fun q=>q.2))/\yH 270 (vN N L m i) aq/\(yf N L m i=yf N L M i/\aj aq 270=aj aq 270):=⟨rfl,rfl,PT (fun r r2 p hp=>by simp only[vN,List.mem_cons,List.not_mem_nil,or_false] at hp;rcases hp with rfl|rfl|rfl|rfl<;>first|exact bz.int _ _|exact bz.ab (r2 _ hn) r2) rfl,by rw[e],rfl⟩
theorem ahe{m:Int}{v:AV}{Na La Nb Lb Nd ld Ne le:Nat}{kd to oa na ob nb cd ce:Int}(mc:Mt [jC k] B)(hn:top<=N)(hi:0<=i)(hL:L<=1000000)(hx:cx FU N (0+i.toNat*10+0) 10=some [(u8<|kd),(i6 to),(u8<|oa),(i6 na),(.ab Na 0 La),(u8<|ob),(i6 nb),(.ab Nb 0 Lb),(.ab Nd 0 ld),(.ab Ne 0 le)])(hd:0<ld->bp (ba<|ue k) [(.ab Nd 0 ld)]=some (.int .i64 cd))(he:0<le->bp (ba<|ue k) [(.ab Ne 0 le)]=some (.int .i64 ce))(h1:i<(L:Int))(H:av pg B 270 (Fin pg (aA Tryz.f67) fun y _=>y=v) (yf N L (jv ld le m cd ce)<|i+1)<|aj aq 270):av pg B 270 (Fin pg (aA Tryz.f67) fun y _=>y=v) (yf N L m i)<|aj aq 270:=wC mc (C:=(fun fr s1 _=>fr=yf N L (jv ld le m cd ce) (i+1)/\s1=aj aq 270)) nJ (.st 1<|.rg<|.fk (.en<|.st 6<|.rg<|.eF<|.eG [(u8<|kd),(i6 to),(u8<|oa),(i6 na),(.ab Na 0 La),(u8<|ob),(i6 nb),(.ab Nb 0 Lb),(.ab Nd 0 ld),(.ab Ne 0 le)]<|.go 2<|.en<|.st 2<|.rg<|.go 3<|.fk (.en<|.st 1<|.rg<|.go 3<|.kn (i6 cd)<|.vl (i6<|(cR m cd))<|.go 1<|.en<|.st 1<|.rg<|.go 3<|.fk (.en<|.st 1<|.rg<|.go 3<|.kn (i6 ce)<|.vl (i6<|(cR (cR m cd) ce))<|.go 1<|.en<|.st 1<|.rg<|.vl (i6<|i+1)<|.go 1<|.en<|.st 1<|.bk (vN N L (cR (cR m cd) ce)<|i+1) aq 270 .no)<|.en<|.st 3<|.rg<|.vl (i6<|i+1)<|.go 1<|.en<|.st 1<|.bk (vN N L (cR m cd)<|i+1) aq 270 .no)<|.en<|.st 3<|.rg<|.go 3<|.fk (.en<|.st 1<|.rg<|.go 3<|.kn (i6 ce)<|.vl (i6<|(cR m ce))<|.go 1<|.en<|.st 1<|.rg<|.vl (i6<|i+1)<|.go 1<|.en<|.st 1<|.bk (vN N L (cR m ce)<|i+1) aq 270 .no)<|.en<|.st 3<|.rg<|.vl (i6<|i+1)<|.go 1<|.en<|.st 1<|.bk (vN N L m<|i+1) aq 270 .no)<|.no)<|ax (i<(L:Int)) (fun _=>(eZ i (L:Int)<|ai hn<|ai hx<|ax ((ld:Int)>0) (fun _=>(ai (hd ah)<|ai (congrArg (AV.int .i64) (show(match decide (cd>m) with|true=>cd|false=>m)=cR m cd from rfl))<|ax ((le:Int)>0) (fun _=>(ai (he ah)<|ai (congrArg (AV.int .i64) (show(match decide (ce>(cR m cd)) with|true=>ce|false=>(cR m cd))=cR (cR m cd) ce from rfl))<|ai (wI<|i+1)<|Hg N L (cR (cR m cd) ce) (i+1) hn (show(cR (cR m cd) ce)=jv ld le m cd ce from by(unfold jv;repeat' split)<;>first|rfl|(exfalso;omega)))) fun _=>(ai (wI<|i+1)<|Hg N L (cR m cd) (i+1) hn (show(cR m cd)=jv ld le m cd ce from by(unfold jv;repeat' split)<;>first|rfl|(exfalso;omega))))) fun _=>(ax ((le:Int)>0) (fun _=>(ai (he ah)<|ai (congrArg (AV.int .i64) (show(match decide (ce>m) with|true=>ce|false=>m)=cR m ce from rfl))<|ai (wI<|i+1)<|Hg N L (cR m ce) (i+1) hn (show(cR m ce)=jv ld le m cd ce from by(unfold jv;repeat' split)<;>first|rfl|(exfalso;omega)))) fun _=>(ai (wI<|i+1)<|Hg N L m (i+1) hn (show m=jv ld le m cd ce from by(unfold jv;repeat' split)<;>first|rfl|(exfalso;omega)))))) eM
theorem ahf{m:Int}{v:AV}(mc:Mt [jC k] B)(hm:0<=m/\m<=1000000)(h1:(L:Int)<=i)(hv: .int .i64 (m+1)=v):av pg B 270 (Fin pg (aA Tryz.f67) fun y _=>y=v) (yf N L m i)<|aj aq 270:=wS mc (.st 1<|.rg<|.fk (.no)<|.en<|.st 4<|.rg<|.go 1<|.vl (i6<|m+1)<|.go 1<|.en<|.rt 1 .no)<|ax (i<(L:Int)) eM fun _=>(ai (wI<|m+1) (show((i6<|(m+1)):AV)=v from hv))
theorem go_dep{v:AV}(mc:Mt [jC k] B)(hn:top<=N)(H:av pg B 270 (Fin pg (aA Tryz.f67) fun y _=>y=v) (yf N L 0 0)<|aj aq 270):av pg B 270 (Fin pg (aA Tryz.f67) fun y _=>y=v) (sF 67 Tryz.f67 [(.ab N 0 L)])<|aj aq 270:=wC mc (C:=(fun fr s1 _=>fr=yf N L 0 0/\s1=aj aq 270)) nJ (.st 9<|.bk (vN N L 0 0) aq 270 .no)<|Hg N L 0 0 hn rfl
end
end gK
end
section
open Go Go.Rn Go.RowKit Go.Proofs
namespace AE
open cr cS dj dA fc dL gK
theorem GS{l:List St}{i:Nat}{a:St}(h:l[i]? =some a){z:Int}(hz:z.toNat=i):cx FU (nm<|bC l) (0+z.toNat*10+0) 10=some (a9 a):=by rw[vu,hz,Nat.zero_add,ya lD h 0 10 ah];rw[List.drop_zero,List.take_of_length_le (by rw[lD.len];omega)]
theorem G1{x y b:Int}(h1:0<=x/\x<=b)(h2:0<=y/\y<=b):0<=cR x y/\cR x y<=b:=by unfold cR;split<;>assumption
theorem W2{ld le:Nat}{m cd ce b:Int}(h1:0<=m/\m<=b)(h2:0<=cd/\cd<=b)(h3:0<=ce/\ce<=b):0<=jv ld le m cd ce/\jv ld le m cd ce<=b:=by
 have h4:=G1 h1 h2;unfold jv;split
 ·split
  ·exact G1 h4 h3
  ·exact G1 h1 h3
 ·split
  ·exact h4
  ·exact h1
theorem Pt{b:Int}{f:Int->St->Int}(hf:∀m s,0<=m/\m<=b->0<=f m s/\f m s<=b):∀(l:List St) (m:Int),0<=m/\m<=b->0<=l.foldl f m/\l.foldl f m<=b
 |[],_,h=>h
 |s::l,m,h=>by rw[List.foldl_cons];exact Pt hf l _<|hf m s h
theorem JR:∀(k:Nat) (l:List St),0<=fw k l/\fw k l<=k
 |0,_=>⟨Int.le_refl _,Int.le_refl _⟩
 |k+1,l=>by have:=Pt (b:=k) (f:=fun m s=>jv (ct s).length (cm s).length m (fw k<|ct s)<|fw k<|cm s) (fun m s h=>W2 h (JR k _)<|JR k _) l 0 ah;show 0<=l.foldl (fun m s=>jv (ct s).length (cm s).length m (fw k<|ct s)<|fw k<|cm s) 0+1/\l.foldl (fun m s=>jv (ct s).length (cm s).length m (fw k<|ct s)<|fw k<|cm s) 0+1<=_;omega
theorem ahh{l:List St}{b:Bool}(h:(l.isEmpty||b)=true)(hl:0<l.length):b=true:=by
 cases l with
 |nil=>simp only[List.length_nil] at hl;omega
 |cons _ _=>exact h
theorem abT(hP:bB pg){k:Nat}(h':aV [jC k]){L:bU}(h:aV L):aV<|jC (k+1)::L:=by
 refine g9 hP h h' Tryz.func67 fun args v e=>?_;obtain⟨l,rfl,hd,hk,rfl⟩:=gf e;refine⟨aL.1 aY,fun B mc=>?_⟩;rw[←gN];have hd:(decide (l.length<=1000000)&&l.all fun s=>((ct s).isEmpty||sb k (ct s))&&((cm s).isEmpty||sb k (cm s)))=true:=hd;rw[Bool.and_eq_true,decide_eq_true_eq,List.all_eq_true] at hd;obtain⟨hlen,hd⟩:=hd;have use:∀b:List St,(b.isEmpty||sb k b)=true->0<b.length->bp (ba<|ue k) [.ab (nm<|bC b) 0 b.length]=some (i6<|fw k b):=fun b h1 h2=>fu (ff ue.bR ⟨b,rfl,ahh h1 h2,by omega,rfl⟩) Yv rfl;have key:∀(r:List St) (i:Nat) (m:Int),l.drop i=r->0<=m/\m<=k->
  av pg B 270 (Fin pg (aA Tryz.f67) fun y _=>y= .int .i64 (r.foldl (fun m s=>jv (ct s).length (cm s).length m (fw k<|ct s)<|fw k<|cm s) m+1)) (yf (nm<|bC l) l.length m i) (aj aq 270):=by
  intro r;induction r with
  |nil=>intro i m hr h0;have hi:l.length<=i:=List.drop_eq_nil_iff.1 hr;exact ahf (k:=k) mc ah ah rfl
  |cons a r ih=>
   intro i m hr h0;have hl:i<l.length:=by
    by_cases q:i<l.length
    ·exact q
    ·rw[List.drop_of_length_le ah] at hr;cases hr
   have ha:l[i]? =some a:=by have:=congrArg (fun q=>q[0]?) hr;simp only[List.getElem?_drop,List.getElem?_cons_zero,Nat.add_zero] at this;exact this
   have hm:a∈l:=List.mem_of_getElem? ha;have lR:l.drop (i+1)=r:=by have:=congrArg (List.drop 1) hr;rw[List.drop_drop] at this;exact this
   have Dl:=hd a hm;rw[Bool.and_eq_true] at Dl;have hx:=GS ha (z:=(i:Int)) ah;have p6:=ih (i+1) _ lR<|W2 (ld:=(ct a).length) (le:=(cm a).length) h0 (JR k<|ct a)<|JR k<|cm a;have hb:=use _ Dl.1;have he:=use _ Dl.2;obtain⟨kd,to,⟨oa,na,la⟩,⟨ob,nb,lb⟩,bd,el⟩:=a;rw[a9,aM,aM] at hx;rw[List.foldl_cons];exact ahe (k:=k) mc (cU _) ah hlen hx hb he ah p6
 exact go_dep mc (cU _)<|key l 0 0 (List.drop_zero) ah
theorem Ut(hP:bB pg):∀(k:Nat) {L:bU},aV L->aV (jC k::L)
 |0,L,h=>by refine g9 hP h cO Tryz.func67 fun args v e=>?_;obtain⟨_,_,hd,_⟩:=gf e;cases hd
 |k+1,L,h=>abT hP (Ut hP k cO) h
end AE
end
section
open Go Go.Rn Go.RowKit Go.Proofs
namespace jq
open cr cS dj dA dL fc CL gK AE
variable {k N L:Nat} {B:aJ} {i:Int}
noncomputable section
def eR(x y:Int):Int:=match decide (y<x) with|true=>y|false=>x
def oq(kd m cd ce:Int):Int:=if kd=4 then eR (m+1+cR cd ce) 2001 else if kd=5 then eR (m+1+8*cd) 2001 else if kd=7 then eR (m+1+(cd+ce)) 2001 else eR (m+1+0) 2001
def iR:St->Int| .mk k _ _ _ _ _=>k
def sc:Nat->List St->Int
 |0,_=>0
 |k+1,l=>l.foldl (fun m s=>oq (iR s) m (sc k<|ct s)<|sc k<|cm s) 0
def ll:Nat->List St->Bool
 |0,_=>false
 |k+1,l=>decide (l.length<=1000000)&&l.all fun s=>ll k (ct s)&&ll k (cm s)
def uy(k:Nat)(args:List AV)(v:AV):Prop:=∃l:List St,args=[.ab (nm<|bC l) 0 l.length]/\ll k l=true/\v= .int .i64 (sc k l)
theorem uy.bR(args:List AV)(v v':AV)(h:uy k args v)(h':uy k args v'):v=v':=by obtain⟨l,rfl,_,rfl⟩:=h;obtain⟨l',h1,_,rfl⟩:=h';simp only[List.cons.injEq,AV.ab.injEq,_root_.and_true,true_and] at h1;rw[tH _ _<|tZ (lU l) (lU l') h1.1]
def jE(k:Nat):FuncId×KE:=(68,.val<|ba<|uy k)
def vP(N L:Nat)(m i:Int):List<|Nat×AV:=[(3,(i6 m)),(7,(.ab N 0 L)),(8,(i6<|(L:Int))),(9,(i6 i))]
def yg(N L:Nat)(m i:Int):AF:=⟨68,aP<|vP N L m i,(max Tryz.f68.ntmps 1),[.code<|aW pg 68 [1,1,0,1,0,0],.inLoop<|aW pg 68 [1,1,0,1,0,0],.inBlock 0,.code<|aW pg 68 [1,1,1]],[],none⟩
theorem Hh(N L:Nat)(m i:Int)(hn:top<=N){M:Int}(e:m=M):((vP N L m i).map (fun q=>some q.2)=(vP N L m i).map (fun q=>some q.2))/\(aq.map (fun q=>q.2)=aq.map (fun q=>q.2))/\yH 270 (vP N L m i) aq/\(yg N L m i=yg N L M i/\aj aq 270=aj aq 270):=⟨rfl,rfl,PT (fun r r2 p hp=>by simp only[vP,List.mem_cons,List.not_mem_nil,or_false] at hp;rcases hp with rfl|rfl|rfl|rfl<;>first|exact bz.int _ _|exact bz.ab (r2 _ hn) r2) rfl,by rw[e],rfl⟩
theorem ahi{m:Int}{v:AV}{Na La Nb Lb Nd ld Ne le:Nat}{kd to oa na ob nb cd ce:Int}(mc:Mt [jE k] B)(hn:top<=N)(hi:0<=i)(hL:L<=1000000)(hx:cx FU N (0+i.toNat*10+0) 10=some [(u8<|kd),(i6 to),(u8<|oa),(i6 na),(.ab Na 0 La),(u8<|ob),(i6 nb),(.ab Nb 0 Lb),(.ab Nd 0 ld),(.ab Ne 0 le)])(hm:0<=m/\m<=2001)(hd0:0<=cd/\cd<=2001)(he0:0<=ce/\ce<=2001)(hmx:0<=cR cd ce/\cR cd ce<=2001)(hd:bp (ba<|uy k) [(.ab Nd 0 ld)]=some (.int .i64 cd))(he:bp (ba<|uy k) [(.ab Ne 0 le)]=some (.int .i64 ce))(h1:i<(L:Int))(H:av pg B 270 (Fin pg (aA Tryz.f68) fun y _=>y=v) (yg N L (oq kd m cd ce)<|i+1)<|aj aq 270):av pg B 270 (Fin pg (aA Tryz.f68) fun y _=>y=v) (yg N L m i)<|aj aq 270:=wC mc (C:=(fun fr s1 _=>fr=yg N L (oq kd m cd ce) (i+1)/\s1=aj aq 270)) nJ (.st 1<|.rg<|.fk (.en<|.st 6<|.rg<|.eF<|.eG [(u8<|kd),(i6 to),(u8<|oa),(i6 na),(.ab Na 0 La),(u8<|ob),(i6 nb),(.ab Nb 0 Lb),(.ab Nd 0 ld),(.ab Ne 0 le)]<|.go 2<|.en<|.st 7<|.rg<|.fk (.go 1<|.en<|.st 1<|.rg<|.go 2<|.kn (i6 cd)<|.go 2<|.kn (i6 ce)<|.vl (i6<|(cR cd ce))<|.go 1<|.en<|.st 1<|.rg<|.go 1<|.vl (i6<|m+1)<|.go 1<|.vl (i6<|(m+1)+(cR cd ce))<|.vl (i6<|(eR ((m+1)+(cR cd ce)) (2001:Int)))<|.go 1<|.en<|.st 1<|.rg<|.vl (i6<|i+1)<|.go 1<|.en<|.st 1<|.bk (vP N L (eR ((m+1)+(cR cd ce)) (2001:Int))<|i+1) aq 270 .no)<|.go 1<|.en<|.st 2<|.rg<|.fk (.go 1<|.en<|.st 1<|.rg<|.go 2<|.kn (i6 cd)<|.vl (i6<|8*cd)<|.go 1<|.en<|.st 1<|.rg<|.go 1<|.vl (i6<|m+1)<|.go 1<|.vl (i6<|(m+1)+(8*cd))<|.vl (i6<|(eR ((m+1)+(8*cd)) (2001:Int)))<|.go 1<|.en<|.st 1<|.rg<|.vl (i6<|i+1)<|.go 1<|.en<|.st 1<|.bk (vP N L (eR ((m+1)+(8*cd)) (2001:Int))<|i+1) aq 270 .no)<|.go 1<|.en<|.st 2<|.rg<|.fk (.go 1<|.en<|.st 1<|.rg<|.go 2<|.kn (i6 cd)<|.go 2<|.kn (i6 ce)<|.vl (i6<|cd+ce)<|.go 1<|.en<|.st 1<|.rg<|.go 1<|.vl (i6<|m+1)<|.go 1<|.vl (i6<|(m+1)+(cd+ce))<|.vl (i6<|(eR ((m+1)+(cd+ce)) (2001:Int)))<|.go 1<|.en<|.st 1<|.rg<|.vl (i6<|i+1)<|.go 1<|.en<|.st 1<|.bk (vP N L (eR ((m+1)+(cd+ce)) (2001:Int))<|i+1) aq 270 .no)<|.go 1<|.en<|.st 3<|.rg<|.go 1<|.vl (i6<|m+1)<|.go 1<|.vl (i6<|(m+1)+0)<|.vl (i6<|(eR ((m+1)+0) (2001:Int)))<|.go 1<|.en<|.st 1<|.rg<|.vl (i6<|i+1)<|.go 1<|.en<|.st 1<|.bk (vP N L (eR ((m+1)+0) (2001:Int))<|i+1) aq 270 .no)<|.no)<|ax (i<(L:Int)) (fun _=>(eZ i (L:Int)<|ai hn<|ai hx<|ax (kd=4) (fun _=>(ai hd<|ai he<|ai (congrArg (AV.int .i64) (show(match decide (ce>cd) with|true=>ce|false=>cd)=cR cd ce from rfl))<|ai (wI<|m+1)<|ai (wI<|(m+1)+(cR cd ce))<|ai (congrArg (AV.int .i64) (show(match decide ((2001:Int)<((m+1)+(cR cd ce))) with|true=>(2001:Int)|false=>((m+1)+(cR cd ce)))=eR ((m+1)+(cR cd ce)) (2001:Int) from rfl))<|ai (wI<|i+1)<|Hh N L (eR ((m+1)+(cR cd ce)) (2001:Int)) (i+1) hn (show(eR ((m+1)+(cR cd ce)) (2001:Int))=oq kd m cd ce from by(unfold oq;repeat' split)<;>first|rfl|(exfalso;omega)))) fun _=>(ax (kd=5) (fun _=>(ai hd<|ai (wI<|8*cd)<|ai (wI<|m+1)<|ai (wI<|(m+1)+(8*cd))<|ai (congrArg (AV.int .i64) (show(match decide ((2001:Int)<((m+1)+(8*cd))) with|true=>(2001:Int)|false=>((m+1)+(8*cd)))=eR ((m+1)+(8*cd)) (2001:Int) from rfl))<|ai (wI<|i+1)<|Hh N L (eR ((m+1)+(8*cd)) (2001:Int)) (i+1) hn (show(eR ((m+1)+(8*cd)) (2001:Int))=oq kd m cd ce from by(unfold oq;repeat' split)<;>first|rfl|(exfalso;omega)))) fun _=>(ax (kd=7) (fun _=>(ai hd<|ai he<|ai (wI<|cd+ce)<|ai (wI<|m+1)<|ai (wI<|(m+1)+(cd+ce))<|ai (congrArg (AV.int .i64) (show(match decide ((2001:Int)<((m+1)+(cd+ce))) with|true=>(2001:Int)|false=>((m+1)+(cd+ce)))=eR ((m+1)+(cd+ce)) (2001:Int) from rfl))<|ai (wI<|i+1)<|Hh N L (eR ((m+1)+(cd+ce)) (2001:Int)) (i+1) hn (show(eR ((m+1)+(cd+ce)) (2001:Int))=oq kd m cd ce from by(unfold oq;repeat' split)<;>first|rfl|(exfalso;omega)))) fun _=>(ai (wI<|m+1)<|ai (wI<|(m+1)+0)<|ai (congrArg (AV.int .i64) (show(match decide ((2001:Int)<((m+1)+0)) with|true=>(2001:Int)|false=>((m+1)+0))=eR ((m+1)+0) (2001:Int) from rfl))<|ai (wI<|i+1)<|Hh N L (eR ((m+1)+0) (2001:Int)) (i+1) hn (show(eR ((m+1)+0) (2001:Int))=oq kd m cd ce from by(unfold oq;repeat' split)<;>first|rfl|(exfalso;omega))))))) eM
theorem ahj{m:Int}{v:AV}(mc:Mt [jE k] B)(h1:(L:Int)<=i)(hv: .int .i64 m=v):av pg B 270 (Fin pg (aA Tryz.f68) fun y _=>y=v) (yg N L m i)<|aj aq 270:=wS mc (.st 1<|.rg<|.fk (.no)<|.en<|.rt 6 .no)<|ax (i<(L:Int)) eM fun _=>(show((i6 m):AV)=v from hv)
theorem go_cos{v:AV}(mc:Mt [jE k] B)(hn:top<=N)(H:av pg B 270 (Fin pg (aA Tryz.f68) fun y _=>y=v) (yg N L 0 0)<|aj aq 270):av pg B 270 (Fin pg (aA Tryz.f68) fun y _=>y=v) (sF 68 Tryz.f68 [(.ab N 0 L)])<|aj aq 270:=wC mc (C:=(fun fr s1 _=>fr=yg N L 0 0/\s1=aj aq 270)) nJ (.st 9<|.bk (vP N L 0 0) aq 270 .no)<|Hh N L 0 0 hn rfl
end
end jq
end
section
open Go Go.Rn Go.RowKit Go.Proofs
namespace XL
open cr cS dj dA fc dL gK AE jq
theorem aft{x:Int}(h1:0<=x):0<=eR x 2001/\eR x 2001<=2001:=by
 unfold eR;split<;>rename_i q
 ·omega
 ·have:=of_decide_eq_false q;omega
theorem W3{kd m cd ce:Int}(h1:0<=m/\m<=2001)(h2:0<=cd/\cd<=2001)(h3:0<=ce/\ce<=2001):0<=oq kd m cd ce/\oq kd m cd ce<=2001:=by
 have h4:=G1 h2 h3;unfold oq
 repeat' split
 all_goals exact aft ah
theorem Kc:∀(k:Nat) (l:List St),0<=sc k l/\sc k l<=2001
 |0,_=>⟨Int.le_refl _,by show(0:Int)<=2001;omega⟩
 |k+1,l=>Pt (b:=2001) (f:=fun m s=>oq (iR s) m (sc k<|ct s)<|sc k<|cm s) (fun m s h=>W3 h (Kc k _)<|Kc k _) l 0 ah
theorem acO(hP:bB pg){k:Nat}(h':aV [jE k]){L:bU}(h:aV L):aV<|jE (k+1)::L:=by
 refine g9 hP h h' Tryz.func68 fun args v e=>?_;obtain⟨l,rfl,hd,rfl⟩:=gf e;refine⟨aL.1 aY,fun B mc=>?_⟩;rw[←gN];have hd:(decide (l.length<=1000000)&&l.all fun s=>ll k (ct s)&&ll k (cm s))=true:=hd;rw[Bool.and_eq_true,decide_eq_true_eq,List.all_eq_true] at hd;obtain⟨hlen,hd⟩:=hd;have use:∀b:List St,ll k b=true->bp (ba<|uy k) [.ab (nm<|bC b) 0 b.length]=some (i6<|sc k b):=fun b h1=>fu (ff uy.bR ⟨b,rfl,h1,rfl⟩) Yv rfl;have key:∀(r:List St) (i:Nat) (m:Int),l.drop i=r->0<=m/\m<=2001->
  av pg B 270 (Fin pg (aA Tryz.f68) fun y _=>y= .int .i64 (r.foldl (fun m s=>oq (iR s) m (sc k<|ct s)<|sc k<|cm s) m)) (yg (nm<|bC l) l.length m i) (aj aq 270):=by
  intro r;induction r with
  |nil=>intro i m hr h0;have hi:l.length<=i:=List.drop_eq_nil_iff.1 hr;exact ahj (k:=k) mc ah rfl
  |cons a r ih=>
   intro i m hr h0;have hl:i<l.length:=by
    by_cases q:i<l.length
    ·exact q
    ·rw[List.drop_of_length_le ah] at hr;cases hr
   have ha:l[i]? =some a:=by have:=congrArg (fun q=>q[0]?) hr;simp only[List.getElem?_drop,List.getElem?_cons_zero,Nat.add_zero] at this;exact this
   have hm:a∈l:=List.mem_of_getElem? ha;have lR:l.drop (i+1)=r:=by have:=congrArg (List.drop 1) hr;rw[List.drop_drop] at this;exact this
   have Dl:=hd a hm;rw[Bool.and_eq_true] at Dl;have hx:=GS ha (z:=(i:Int)) ah;have b1:=Kc k<|ct a;have b2:=Kc k<|cm a;have p6:=ih (i+1) _ lR<|W3 (kd:=iR a) h0 b1 b2;have hb:=use _ Dl.1;have he:=use _ Dl.2;obtain⟨kd,to,⟨oa,na,la⟩,⟨ob,nb,lb⟩,bd,el⟩:=a;rw[a9,aM,aM] at hx;rw[List.foldl_cons];exact ahi (k:=k) mc (cU _) ah hlen hx h0 b1 b2 (G1 b1 b2) hb he ah p6
 exact go_cos mc (cU _)<|key l 0 0 (List.drop_zero) ah
theorem Ve(hP:bB pg):∀(k:Nat) {L:bU},aV L->aV (jE k::L)
 |0,L,h=>by refine g9 hP h cO Tryz.func68 fun args v e=>?_;obtain⟨_,_,hd,_⟩:=gf e;cases hd
 |k+1,L,h=>acO hP (Ve hP k cO) h
end XL
end
section
open Go Go.Rn Go.RowKit Go.Proofs
namespace wA
open cr cS dj dA fT dL
variable {N k N1 N0 L1 L0:Nat} {B:aJ} {x1 x0 bV n1 n0:Int}
def rW:Nat->Ex->Int->Bool
 |0,_,_=>true
 |k+1,.mk op n args,z=> !(decide<|op=3/\n>=z)&&args.all fun a=>rW k a z
def yh(k:Nat)(args:List AV)(v:AV):Prop:=∃(e:Ex) (z:Int),args=[.agg<|aM e,.int .i64 z]/\eP k e=true/\v= .bool (rW k e z)
noncomputable def KJ(k:Nat):FuncId×KE:=(107,.val<|ba<|yh k)
theorem ad1{N0 L0 N1 L1:Nat}{op n z bV n0 cN n1 x0 x1:Int}(mc:Mt [KJ k] B):av pg B 270 (Fin pg (aA Tryz.f107) fun y _=>y=(.bool<|decide<|¬(op=3/\n>=z))) (sF 107 Tryz.f107 [(.agg [(u8<|op),(i6 n),(.ab N 0 0)]),(i6 z)])<|aj aq 270:=wS mc (.st 4<|.rg<|.go 2<|.fk (.go 4<|.fk (.go 1<|.en<|.rt 4 .no)<|.go 1<|.en<|.st 3<|.rg<|.go 3<|.il<|.st 3<|.rg<|.go 2<|.il<|.rt 15<|.go 2<|.en<|.rt 1<|.go 2<|.en<|.rt 1 .no)<|.go 6<|.en<|.st 3<|.rg<|.go 3<|.il<|.st 3<|.rg<|.go 2<|.il<|.rt 15<|.go 2<|.en<|.rt 1<|.go 2<|.en<|.rt 1 .no)<|ax (op=3) (fun _=>(ax (n>=z) (fun _=>(show AV.bool false= .bool (decide<|¬(op=3/\n>=z)) from by rw[decide_eq_false ah])) fun _=>(show AV.bool true= .bool (decide<|¬(op=3/\n>=z)) from by rw[decide_eq_true ah]))) fun _=>(show AV.bool true= .bool (decide<|¬(op=3/\n>=z)) from by rw[decide_eq_true ah])
theorem ad2{op n z cN:Int}(mc:Mt [KJ k] B)(hn:top<=N)(wW:cx FU N (0+(0:Int).toNat*3+0) 3=some [(u8<|bV),(i6 n0),(.ab N0 0 L0)])(jr:bp (ba<|yh k) [(.agg [(u8<|bV),(i6 n0),(.ab N0 0 L0)]),(i6 z)]=some (.bool<|decide<|x0=1))(ja:cx FU N (0+(1:Int).toNat*3+0) 3=some [(u8<|cN),(i6 n1),(.ab N1 0 L1)])(jK:bp (ba<|yh k) [(.agg [(u8<|cN),(i6 n1),(.ab N1 0 L1)]),(i6 z)]=some (.bool<|decide<|x1=1)):av pg B 270 (Fin pg (aA Tryz.f107) fun y _=>y=(.bool<|decide<|¬(op=3/\n>=z)/\x0=1/\x1=1)) (sF 107 Tryz.f107 [(.agg [(u8<|op),(i6 n),(.ab N 0 2)]),(i6 z)])<|aj aq 270:=wS mc (.st 4<|.rg<|.go 2<|.fk (.go 4<|.fk (.go 1<|.en<|.rt 4 .no)<|.go 1<|.en<|.st 3<|.rg<|.go 3<|.il<|.st 3<|.rg<|.go 2<|.il<|.st 17<|.rg<|.go 3<|.eF<|.eG [(u8<|bV),(i6 n0),(.ab N0 0 L0)]<|.il<|.st 3<|.rg<|.go 2<|.kp (x0=1) inferInstance (.go 2<|.en<|.rt 1<|.en<|.st 15<|.rg<|.go 3<|.eF<|.eG [(u8<|cN),(i6 n1),(.ab N1 0 L1)]<|.il<|.st 3<|.rg<|.go 2<|.kp (x1=1) inferInstance (.go 2<|.en<|.rt 1<|.en<|.rt 13<|.go 2<|.en<|.rt 1<|.go 2<|.en<|.rt 1 .no)<|.go 2<|.en<|.rt 1<|.en<|.rt 4<|.go 2<|.en<|.rt 1<|.go 2<|.en<|.rt 1 .no)<|.go 2<|.en<|.rt 1<|.en<|.rt 4<|.go 2<|.en<|.rt 1<|.go 2<|.en<|.rt 1 .no)<|.go 6<|.en<|.st 3<|.rg<|.go 3<|.il<|.st 3<|.rg<|.go 2<|.il<|.st 17<|.rg<|.go 3<|.eF<|.eG [(u8<|bV),(i6 n0),(.ab N0 0 L0)]<|.il<|.st 3<|.rg<|.go 2<|.kp (x0=1) inferInstance (.go 2<|.en<|.rt 1<|.en<|.st 15<|.rg<|.go 3<|.eF<|.eG [(u8<|cN),(i6 n1),(.ab N1 0 L1)]<|.il<|.st 3<|.rg<|.go 2<|.kp (x1=1) inferInstance (.go 2<|.en<|.rt 1<|.en<|.rt 13<|.go 2<|.en<|.rt 1<|.go 2<|.en<|.rt 1 .no)<|.go 2<|.en<|.rt 1<|.en<|.rt 4<|.go 2<|.en<|.rt 1<|.go 2<|.en<|.rt 1 .no)<|.go 2<|.en<|.rt 1<|.en<|.rt 4<|.go 2<|.en<|.rt 1<|.go 2<|.en<|.rt 1 .no)<|ax (op=3) (fun _=>(ax (n>=z) (fun _=>(show AV.bool false= .bool (decide<|¬(op=3/\n>=z)/\x0=1/\x1=1) from by rw[decide_eq_false ah])) Yk)) Yk
theorem ahl{L:Nat}{op n z x y1:Int}(mc:Mt [Q9,KJ 6] B)(hc:bp (ba wz) [(.agg [(u8<|op),(i6 n),(.ab N 0 L)])]=some (.bool<|decide<|x=1))(hb:x=1->bp (ba<|yh 6) [(.agg [(u8<|op),(i6 n),(.ab N 0 L)]),(i6 z)]=some (.bool<|decide<|y1=1)):av pg B 270 (Fin pg (aA Tryz.f94) fun y _=>y=(.bool<|decide<|x=1/\y1=1)) (sF 94 Tryz.f94 [(.agg [(u8<|op),(i6 n),(.ab N 0 L)]),(i6 z)])<|aj aq 270:=wS mc (.st 3<|.rg<|.go 1<|.kp (x=1) inferInstance (.go 3<|.kp (y1=1) inferInstance (.go 2<|.en<|.rt 1 .no)<|.go 2<|.en<|.rt 1 .no)<|.go 6<|.en<|.rt 1 .no)<|ai hc<|ax (x=1) (fun _=>(ai (hb ah)<|ax (y1=1) (fun _=>(show AV.bool true= .bool (decide<|x=1/\y1=1) from by rw[decide_eq_true ah])) fun _=>(show AV.bool false= .bool (decide<|x=1/\y1=1) from by rw[decide_eq_false ah]))) fun _=>(show AV.bool false= .bool (decide<|x=1/\y1=1) from by rw[decide_eq_false ah])
end wA
end
section
open Go Go.Rn Go.RowKit Go.Proofs
namespace yu
open cr cS dj dA fT dL wA
variable {k:Nat} {e:Ex}
theorem Uu{op n:Int}{l:List Ex}(h:eP (k+1) (.mk op n l)=true):l=[]\/∃a b,l=[a,b]/\eP k a=true/\eP k b=true:=by
 rw[Nz] at h;split at h
 ·exact .inl<|List.isEmpty_iff.1 h
 split at h
 ·rw[Bool.and_eq_true,Bool.and_eq_true] at h;exact .inl<|List.isEmpty_iff.1 h.1.1
 split at h
 ·rw[Bool.and_eq_true,Bool.and_eq_true] at h;exact .inl<|List.isEmpty_iff.1 h.1.1
 split at h
 ·cases h
 rw[Bool.and_eq_true,Bool.and_eq_true,decide_eq_true_eq] at h
 match l,h with
 |[a,b],h=>exact .inr ⟨a,b,rfl,h.1.2,h.2⟩
theorem yh.bR(args:List AV)(v v':AV)(h:yh k args v)(h':yh k args v'):v=v':=by obtain⟨e,z,rfl,_,rfl⟩:=h;obtain⟨e',z',h1,_,rfl⟩:=h';simp only[List.cons.injEq,AV.agg.injEq,AV.int.injEq,true_and,_root_.and_true] at h1;rw[nP _ _ h1.1,h1.2]
theorem OT{z:Int}(hw:eP k e=true):bp (ba<|yh k) [.agg<|aM e,.int .i64 z]=some (.bool<|decide<|bit (rW k e z)=1):=by rw[xQ];exact fu (ff yh.bR ⟨e,z,rfl,hw,rfl⟩) sr rfl
theorem Ft(b:Bool):bit b=1↔b=true:=by cases b<;>decide
theorem Uv(hP:bB pg):∀(k:Nat) {L:bU},aV L->aV (KJ k::L)
 |0,L,h=>by refine g9 hP h cO Tryz.func107 fun args v e=>?_;obtain⟨_,_,_,hw,_⟩:=gf e;cases hw
 |k+1,L,h=>by
  refine g9 hP h (Uv hP k cO) Tryz.func107 fun args v e=>?_;obtain⟨⟨op,n,l⟩,z,rfl,hw,rfl⟩:=gf e;refine⟨aL.1 aY,fun B mc=>?_⟩;rw[←gN];rcases Uu hw with rfl|⟨a,b,rfl,w0,w1⟩
  ·have key:=ad1 (L0:=0) (N1:=0) (L1:=0) (N0:=0) (bV:=0) (n0:=0) (cN:=0) (n1:=0) (x0:=0) (x1:=0) (N:=nm<|dy []) (op:=op) (n:=n) (z:=z) mc;rw[aM,show rW (k+1) (.mk op n []) z=decide (¬(op=3/\n>=z)) from by show(!(decide<|op=3/\n>=z)&&true)=_;rw[Bool.and_true,decide_not]];exact key
  ·obtain⟨bV,n0,l0⟩:=a;obtain⟨cN,n1,l1⟩:=b;have t0:=zP (l:=[Ex.mk bV n0 l0,.mk cN n1 l1]) (i:=0) (a:=.mk bV n0 l0) rfl (z:=0) rfl;have t1:=zP (l:=[Ex.mk bV n0 l0,.mk cN n1 l1]) (i:=1) (a:=.mk cN n1 l1) rfl (z:=1) rfl;have c0:=OT (z:=z) w0;have c1:=OT (z:=z) w1;rw[aM] at t0 t1 c0 c1;have key:=ad2 (op:=op) (n:=n) (z:=z) mc (cU _) t0 c0 t1 c1;rw[aM,show rW (k+1) (.mk op n [.mk bV n0 l0,.mk cN n1 l1]) z=decide (¬(op=3/\n>=z)/\bit (rW k (.mk bV n0 l0) z)=1/\bit (rW k (.mk cN n1 l1) z)=1) from by show(!(decide<|op=3/\n>=z)&&(rW k (.mk bV n0 l0) z&&(rW k (.mk cN n1 l1) z&&true)))=_;rw[Bool.and_true,Bool.eq_iff_iff,decide_eq_true_eq,Ft,Ft,Bool.and_eq_true,Bool.and_eq_true, ←decide_not,decide_eq_true_eq]];exact key
def Mh(e:Ex)(z:Int):Bool:=eP 6 e&&rW 6 e z
def o9(args:List AV)(v:AV):Prop:=∃(e:Ex) (z:Int),args=[.agg<|aM e,.int .i64 z]/\v= .bool (Mh e z)
theorem o9.bR(args:List AV)(v v':AV)(h:o9 args v)(h':o9 args v'):v=v':=by obtain⟨e,z,rfl,rfl⟩:=h;obtain⟨e',z',h1,rfl⟩:=h';simp only[List.cons.injEq,AV.agg.injEq,AV.int.injEq,true_and,_root_.and_true] at h1;rw[nP _ _ h1.1,h1.2]
noncomputable def we:FuncId×KE:=(94,.val<|ba o9)
theorem PS:bp (ba wz) [.agg<|aM e]=some (.bool<|decide<|bit (eP 6 e)=1):=by rw[xQ];exact fu (ff wz.bR ⟨e,rfl,rfl⟩) sr rfl
theorem ad3(hP:bB pg){L:bU}(h:aV L):aV<|we::L:=by refine g9 hP h (V7 hP<|Uv hP 6 cO) Tryz.func94 fun args v e=>?_;obtain⟨⟨op,n,l⟩,z,rfl,rfl⟩:=gf e;refine⟨aL.1 aY,fun B mc=>?_⟩;rw[←gN];have c0:=PS (e:=.mk op n l);have c1:bit (eP 6<|.mk op n l)=1->_:=fun hx=>OT (k:=6) (e:=.mk op n l) (z:=z)<|(Ft _).1 hx;rw[aM] at c0 c1;have key:=ahl mc c0 c1;rw[aM,show Mh (.mk op n l) z=decide (bit (eP 6<|.mk op n l)=1/\bit (rW 6 (.mk op n l) z)=1) from by rw[Bool.eq_iff_iff,decide_eq_true_eq,Ft,Ft];exact Bool.and_eq_true _ _▸Iff.rfl];exact key
end yu
end
section
open Go Go.Rn Go.RowKit Go.Proofs
namespace n9
open cr cS dj dA fc gK dL
variable {K:Cb} {k N L ld Ne Nd Nb Na Lb La:Nat} {L0:bU} {B:aJ} {pf p:fE} {i to ob oa na kd:Int} {g:Option ae} {x2 x1 w2 w1 u2 u1:AV} {bS:Option Code}
noncomputable section
abbrev mQ:=St->AV->AV->Option fE
def kV(ek:List St->AV->AV->Option fE)(rd:mQ):List St->AV->AV->Option fE
 |[],v1,v2=>some ⟨true,v1,v2,none⟩
 |s::r,v1,v2=>match rd s v1 v2 with
  |none=>none
  |some p=>match p.ret with
   |false=>some p
   |true=>match ek (ct s) p.v1 p.v2 with
    |none=>none
    |some q=>match q.ret with
     |false=>some q
     |true=>match ek (cm s) q.v1 q.v2 with
      |none=>none
      |some u=>match u.ret with
       |false=>some u
       |true=>kV ek rd r u.v1 u.v2
def fK(rd:mQ):Nat->List St->AV->AV->Option fE
 |0,_,_,_=>none
 |k+1,l,v1,v2=>match decide (l.length<=1000000) with
  |true=>kV (fK rd k) rd l v1 v2
  |false=>none
open Classical in
def Hi(x:AV):Option<|List St:=if h:∃l:List St,x= .ab (nm<|bC l) 0 l.length then some h.choose else none
open Classical in
def Aj(rd:mQ)(k:Nat)(x v1 v2:AV):Option fE:=match Hi x with
 |none=>none
 |some l=>if okB v1/\okB v2 then fK rd k l v1 v2 else none
def dk(K:Cb)(rd:mQ)(k:Nat):FuncId×KE:=(91,.raw<|rB K<|Aj rd k)
def oE(K:Cb)(v1 v2:AV):List<|Nat×Option ae:=aq++[(270,some<|Cb.loop K none 272 273 271),(271,some .defs),(272,some<|eO v1),(273,some<|eO v2)]
def sE(K:Cb)(v1 v2:AV)(c:List AV):AS:=aj (oE K v1 v2++[(274,some<|.cells 10 (Tr.fill c 0 .nil) [])]) 275
def sA(K:Cb)(bS:Option Code)(v1 v2:AV)(c:List AV)(g:Option ae):AS:=aj (aq++[(270,some<|Cb.loop K bS 272 273 271),(271,some .defs),(272,some<|eO v1),(273,some<|eO v2),(274,some<|.cells 10 (Tr.fill c 0 .nil) []),(275,g)]) 276
def F8(L:bU):Env:=wx pg 270 eB dV L 274 true
def YC(K:Cb)(p:fE)(s':AS)(y:AV):Prop:=y= .bool p.ret/\s'.h.get 270=some (Cb.loop K p.bS 272 273 271)/\s'.h.get 271=some .defs/\s'.h.get 272=some (eO p.v1)/\s'.h.get 273=some (eO p.v2)
end
theorem W4:fH<=274:=Nat.le_trans gL ah
theorem Ra{o4:Option ae}{nx:Nat}:YC K p (aj (aq++[(270,some<|Cb.loop K p.bS 272 273 271),(271,some .defs),(272,some<|eO p.v1),(273,some<|eO p.v2),(274,o4),(275,g)]) nx)<|.bool p.ret:=⟨rfl,by kernel_rfl,by kernel_rfl,by kernel_rfl,by kernel_rfl⟩
theorem aiq{nx:Nat}:YC K p (aj (aq++[(270,some<|Cb.loop K p.bS 272 273 271),(271,some .defs),(272,some<|eO p.v1),(273,some<|eO p.v2)]) nx)<|.bool p.ret:=⟨rfl,by kernel_rfl,by kernel_rfl,by kernel_rfl,by kernel_rfl⟩
theorem ahm{v1 v2:AV}{l:List<|Nat×AV}(h:∀r:Nat->Nat,(∀k,k<274->r k=k)->(∀k,top<=k->r k=k)->∀p∈l,bz r p.2 p.2)(iZ:K.s1<top)(im:K.s2<top)(mZ:K.s1≠K.s2)(ja:okB v1)(qx:okB v2):yH 274 l<|oE K v1 v2:=by
 intro r r1 r2;refine⟨h r r1 r2,fun p hp x hx=>?_⟩;rcases List.mem_append.1 hp with hp|hp
 ·exact GQ (nx:=270) (fun k hk=>r1 k ah) cC p hp x hx
 ·simp only[List.mem_cons,List.not_mem_nil,or_false] at hp;rcases hp with rfl|rfl|rfl|rfl<;>cases hx
  ·exact adM iZ im mZ (r1 _ ah) (r1 _ ah)<|r1 _ ah
  ·exact adN
  ·exact VX ja r2
  ·exact VX qx r2
noncomputable def Cr(N L:Nat)(i:Int):List<|Nat×AV:=[(1,(.yield 270)),(7,(.ab N 0 L)),(8,(i6<|(L:Int))),(9,(i6 i))]
noncomputable def sd(N L:Nat)(i:Int):AF:=⟨91,aP<|Cr N L i,(max Tryz.f91.ntmps 2),[.code<|aW pg 91 [1,0,1,0,0],.inLoop<|aW pg 91 [1,0,1,0,0],.inBlock 0,.code<|aW pg 91 [1,1]],[],none⟩
theorem XM{v1 v2:AV}(N L:Nat)(i:Int)(hn:top<=N)(iZ:K.s1<top)(im:K.s2<top)(mZ:K.s1≠K.s2)(ja:okB v1)(qx:okB v2):((Cr N L i).map (fun q=>some q.2)=(Cr N L i).map (fun q=>some q.2))/\((oE K v1 v2).map (fun q=>q.2)=(oE K v1 v2).map (fun q=>q.2))/\yH 274 (Cr N L i) (oE K v1 v2)/\(sd N L i=sd N L i/\aj (oE K v1 v2) 274=aj (oE K v1 v2) 274):=⟨rfl,rfl,ahm (fun r r1 r2 p hp=>by simp only[Cr,List.mem_cons,List.not_mem_nil,or_false] at hp;rcases hp with rfl|rfl|rfl|rfl<;>first|exact bz.int _ _|exact bz.bool _|exact bz.ab (r2 _ hn) r2|exact bz.yield<|r1 270 ah) iZ im mZ ja qx,rfl,rfl⟩
noncomputable abbrev fl(kd to oa na:Int)(Na La:Nat)(ob nb:Int)(Nb Lb Nd ld Ne le:Nat):List AV:=[(u8<|kd),(i6 to),(u8<|oa),(i6 na),(.ab Na 0 La),(u8<|ob),(i6 nb),(.ab Nb 0 Lb),(.ab Nd 0 ld),(.ab Ne 0 le)]
theorem akf{rd:mQ}{v1 v2 u1 u2 x1 x2:AV}{pf:fE}{le:Nat}{nb:Int}(mc:Mt (dk K rd k::L0) B)(hn:top<=N)(hi:0<=i)(hL:L<=1000000)(hx:cx FU N (0+i.toNat*10+0) 10=some (fl kd to oa na Na La ob nb Nb Lb Nd ld Ne le))(hr:bg pg (sp<|dk K rd k::L0) FU 6 (.round 270) [.agg<|fl kd to oa na Na La ob nb Nb Lb Nd ld Ne le] (sE K v1 v2<|fl kd to oa na Na La ob nb Nb Lb Nd ld Ne le)= .ok (.bool false) (sA K bS w1 w2 (fl kd to oa na Na La ob nb Nb Lb Nd ld Ne le) g))(h1:i<(L:Int)):av pg B 274 (su K 270 pg (aA Tryz.f91) ⟨false,w1,w2,bS⟩) (sd N L i)<|aj (oE K v1 v2) 274:=l6 (E:=F8<|dk K rd k::L0) eH rfl bT mc.2.2.1 mc.2.2.2 900 (.st 1<|.rg<|.fk (.en<|.st 6<|.rg<|.eF<|.eG (fl kd to oa na Na La ob nb Nb Lb Nd ld Ne le)<|.go 2<|.en<|.st 1<|.rg<|.go 2<|.cy (.bool false) (sA K bS w1 w2 (fl kd to oa na Na La ob nb Nb Lb Nd ld Ne le) g)<|.go 15<|.en<|.rt 4 .no)<|.no)<|ax (i<(L:Int)) (fun _=>(eZ i (L:Int)<|ai hn<|ai hx<|ai hr<|Ra (K:=K) (p:=⟨false,w1,w2,bS⟩) (o4:=some<|.cells 10 (Tr.fill (fl kd to oa na Na La ob nb Nb Lb Nd ld Ne le) 0 .nil) []) (g:=g) (nx:=276))) eM
theorem akg{rd:mQ}{v1 v2 x1 x2:AV}{pf:fE}{le:Nat}{nb:Int}(mc:Mt (dk K rd k::L0) B)(hn:top<=N)(hi:0<=i)(hL:L<=1000000)(hx:cx FU N (0+i.toNat*10+0) 10=some (fl kd to oa na Na La ob nb Nb Lb Nd ld Ne le))(hr:bg pg (sp<|dk K rd k::L0) FU 6 (.round 270) [.agg<|fl kd to oa na Na La ob nb Nb Lb Nd ld Ne le] (sE K v1 v2<|fl kd to oa na Na La ob nb Nb Lb Nd ld Ne le)= .ok (.bool true) (sA K none w1 w2 (fl kd to oa na Na La ob nb Nb Lb Nd ld Ne le) g))(hb:bg pg (sp<|dk K rd k::L0) FU 6 (.fn 91) [.ab Nd 0 ld,.yield 270] (sA K none w1 w2 (fl kd to oa na Na La ob nb Nb Lb Nd ld Ne le) g)= .ok (.bool false) (sA K bS u1 u2 (fl kd to oa na Na La ob nb Nb Lb Nd ld Ne le) g))(h1:i<(L:Int)):av pg B 274 (su K 270 pg (aA Tryz.f91) ⟨false,u1,u2,bS⟩) (sd N L i)<|aj (oE K v1 v2) 274:=l6 (E:=F8<|dk K rd k::L0) eH rfl bT mc.2.2.1 mc.2.2.2 900 (.st 1<|.rg<|.fk (.en<|.st 6<|.rg<|.eF<|.eG (fl kd to oa na Na La ob nb Nb Lb Nd ld Ne le)<|.go 2<|.en<|.st 1<|.rg<|.go 2<|.cy (.bool true) (sA K none w1 w2 (fl kd to oa na Na La ob nb Nb Lb Nd ld Ne le) g)<|.go 5<|.cu (.bool false) (sA K bS u1 u2 (fl kd to oa na Na La ob nb Nb Lb Nd ld Ne le) g)<|.go 9<|.en<|.rt 4 .no)<|.no)<|ax (i<(L:Int)) (fun _=>(eZ i (L:Int)<|ai hn<|ai hx<|ai hr<|ai hb<|Ra (K:=K) (p:=⟨false,u1,u2,bS⟩) (o4:=some<|.cells 10 (Tr.fill (fl kd to oa na Na La ob nb Nb Lb Nd ld Ne le) 0 .nil) []) (g:=g) (nx:=276))) eM
theorem akh{rd:mQ}{v1 v2:AV}{pf:fE}{le:Nat}{nb:Int}(mc:Mt (dk K rd k::L0) B)(hn:top<=N)(hi:0<=i)(hL:L<=1000000)(hx:cx FU N (0+i.toNat*10+0) 10=some (fl kd to oa na Na La ob nb Nb Lb Nd ld Ne le))(hr:bg pg (sp<|dk K rd k::L0) FU 6 (.round 270) [.agg<|fl kd to oa na Na La ob nb Nb Lb Nd ld Ne le] (sE K v1 v2<|fl kd to oa na Na La ob nb Nb Lb Nd ld Ne le)= .ok (.bool true) (sA K none w1 w2 (fl kd to oa na Na La ob nb Nb Lb Nd ld Ne le) g))(hb:bg pg (sp<|dk K rd k::L0) FU 6 (.fn 91) [.ab Nd 0 ld,.yield 270] (sA K none w1 w2 (fl kd to oa na Na La ob nb Nb Lb Nd ld Ne le) g)= .ok (.bool true) (sA K none u1 u2 (fl kd to oa na Na La ob nb Nb Lb Nd ld Ne le) g))(ho:bg pg (sp<|dk K rd k::L0) FU 6 (.fn 91) [.ab Ne 0 le,.yield 270] (sA K none u1 u2 (fl kd to oa na Na La ob nb Nb Lb Nd ld Ne le) g)= .ok (.bool false) (sA K bS x1 x2 (fl kd to oa na Na La ob nb Nb Lb Nd ld Ne le) g))(h1:i<(L:Int)):av pg B 274 (su K 270 pg (aA Tryz.f91) ⟨false,x1,x2,bS⟩) (sd N L i)<|aj (oE K v1 v2) 274:=l6 (E:=F8<|dk K rd k::L0) eH rfl bT mc.2.2.1 mc.2.2.2 900 (.st 1<|.rg<|.fk (.en<|.st 6<|.rg<|.eF<|.eG (fl kd to oa na Na La ob nb Nb Lb Nd ld Ne le)<|.go 2<|.en<|.st 1<|.rg<|.go 2<|.cy (.bool true) (sA K none w1 w2 (fl kd to oa na Na La ob nb Nb Lb Nd ld Ne le) g)<|.go 5<|.cu (.bool true) (sA K none u1 u2 (fl kd to oa na Na La ob nb Nb Lb Nd ld Ne le) g)<|.go 6<|.cu (.bool false) (sA K bS x1 x2 (fl kd to oa na Na La ob nb Nb Lb Nd ld Ne le) g)<|.go 2<|.en<|.rt 4 .no)<|.no)<|ax (i<(L:Int)) (fun _=>(eZ i (L:Int)<|ai hn<|ai hx<|ai hr<|ai hb<|ai ho<|Ra (K:=K) (p:=⟨false,x1,x2,bS⟩) (o4:=some<|.cells 10 (Tr.fill (fl kd to oa na Na La ob nb Nb Lb Nd ld Ne le) 0 .nil) []) (g:=g) (nx:=276))) eM
theorem aki{rd:mQ}{v1 v2:AV}{bS:Option Code}{le:Nat}{nb:Int}(mc:Mt (dk K rd k::L0) B)(hn:top<=N)(hi:0<=i)(hL:L<=1000000)(hx:cx FU N (0+i.toNat*10+0) 10=some (fl kd to oa na Na La ob nb Nb Lb Nd ld Ne le))(hr:bg pg (sp<|dk K rd k::L0) FU 6 (.round 270) [.agg<|fl kd to oa na Na La ob nb Nb Lb Nd ld Ne le] (sE K v1 v2<|fl kd to oa na Na La ob nb Nb Lb Nd ld Ne le)= .ok (.bool true) (sA K none w1 w2 (fl kd to oa na Na La ob nb Nb Lb Nd ld Ne le) g))(hb:bg pg (sp<|dk K rd k::L0) FU 6 (.fn 91) [.ab Nd 0 ld,.yield 270] (sA K none w1 w2 (fl kd to oa na Na La ob nb Nb Lb Nd ld Ne le) g)= .ok (.bool true) (sA K none u1 u2 (fl kd to oa na Na La ob nb Nb Lb Nd ld Ne le) g))(ho:bg pg (sp<|dk K rd k::L0) FU 6 (.fn 91) [.ab Ne 0 le,.yield 270] (sA K none u1 u2 (fl kd to oa na Na La ob nb Nb Lb Nd ld Ne le) g)= .ok (.bool true) (sA K none x1 x2 (fl kd to oa na Na La ob nb Nb Lb Nd ld Ne le) g))(h1:i<(L:Int))(iZ:K.s1<top)(im:K.s2<top)(mZ:K.s1≠K.s2)(ja:okB x1)(qx:okB x2)(H:av pg B 274 (su K 270 pg (aA Tryz.f91) pf) (sd N L<|i+1)<|aj (oE K x1 x2) 274):av pg B 274 (su K 270 pg (aA Tryz.f91) pf) (sd N L i)<|aj (oE K v1 v2) 274:=x8 (E:=F8<|dk K rd k::L0) (C:=(fun fr s1 _=>fr=sd N L (i+1)/\s1=aj (oE K x1 x2) 274)) eH rfl bT mc.2.2.1 mc.2.2.2 W4 rfl mc.1 nJ 900 (.st 1<|.rg<|.fk (.en<|.st 6<|.rg<|.eF<|.eG (fl kd to oa na Na La ob nb Nb Lb Nd ld Ne le)<|.go 2<|.en<|.st 1<|.rg<|.go 2<|.cy (.bool true) (sA K none w1 w2 (fl kd to oa na Na La ob nb Nb Lb Nd ld Ne le) g)<|.go 5<|.cu (.bool true) (sA K none u1 u2 (fl kd to oa na Na La ob nb Nb Lb Nd ld Ne le) g)<|.go 6<|.cu (.bool true) (sA K none x1 x2 (fl kd to oa na Na La ob nb Nb Lb Nd ld Ne le) g)<|.go 2<|.en<|.st 3<|.rg<|.vl (i6<|i+1)<|.go 1<|.en<|.st 1<|.bk (Cr N L<|i+1) (oE K x1 x2) 274 .no)<|.no)<|ax (i<(L:Int)) (fun _=>(eZ i (L:Int)<|ai hn<|ai hx<|ai hr<|ai hb<|ai ho<|ai (wI<|i+1)<|XM N L (i+1) hn iZ im mZ ja qx)) eM
theorem ahn{rd:mQ}{v1 v2:AV}(mc:Mt (dk K rd k::L0) B)(h1:(L:Int)<=i):av pg B 274 (su K 270 pg (aA Tryz.f91) ⟨true,v1,v2,none⟩) (sd N L i)<|aj (oE K v1 v2) 274:=l6 (E:=F8<|dk K rd k::L0) eH rfl bT mc.2.2.1 mc.2.2.2 900 (.st 1<|.rg<|.fk (.no)<|.en<|.rt 6 .no)<|ax (i<(L:Int)) eM fun _=>(aiq (K:=K) (p:=⟨true,v1,v2,none⟩) (nx:=274))
theorem air{rd:mQ}{v1 v2:AV}(mc:Mt (dk K rd k::L0) B)(hn:top<=N)(iZ:K.s1<top)(im:K.s2<top)(mZ:K.s1≠K.s2)(ja:okB v1)(qx:okB v2)(H:av pg B 274 (su K 270 pg (aA Tryz.f91) pf) (sd N L 0)<|aj (oE K v1 v2) 274):av pg B 274 (su K 270 pg (aA Tryz.f91) pf) (sF 91 Tryz.f91 [.ab N 0 L,.yield 270])<|aj (oE K v1 v2) 274:=x8 (E:=F8<|dk K rd k::L0) (C:=(fun fr s1 _=>fr=sd N L 0/\s1=aj (oE K v1 v2) 274)) eH rfl bT mc.2.2.1 mc.2.2.2 W4 rfl mc.1 nJ 900 (.st 7<|.bk (Cr N L 0) (oE K v1 v2) 274 .no)<|XM N L 0 hn iZ im mZ ja qx
end n9
end
section
open Go Go.Rn Go.RowKit Go.Proofs
namespace nV
open cr cS dj dA fc gK AE dL n9
variable {rd:mQ} {k:Nat} {K:Cb} {L0:bU}
theorem abU(l:List St):Hi (.ab (nm<|bC l) 0 l.length)=some l:=by
 unfold Hi;have h:∃l':List St,AV.ab (nm<|bC l) 0 l.length= .ab (nm<|bC l') 0 l'.length:=⟨l,rfl⟩;rw[dif_pos h];have e:=h.choose_spec;injection e with e1 e2 e3
 exact congrArg some (tH _ _<|tZ (lU _) (lU _) e1).symm
theorem abV{x:AV}{l:List St}(h:Hi x=some l):x= .ab (nm<|bC l) 0 l.length:=by
 unfold Hi at h;split at h
 ·rename_i q;injection h with h
  rw[←h];exact q.choose_spec
 ·cases h
theorem V8(iZ:K.s1<top)(im:K.s2<top)(mZ:K.s1≠K.s2)(c d:Nat):(aP [(K.s1,AV.ptr<|some (c,0)),(K.s2,.ptr<|some (d,0))]).get K.s1=some (.ptr<|some (c,0))/\(aP [(K.s1,AV.ptr<|some (c,0)),(K.s2,.ptr<|some (d,0))]).get K.s2=some (.ptr<|some (d,0)):=by
 constructor
 ·show(((Tr.nil:Tr AV).put K.s2 _).put K.s1 _).get K.s1=_;rw[Tr.lV _ _ _ _ iZ,if_pos rfl]
 ·show(((Tr.nil:Tr AV).put K.s2 _).put K.s1 _).get K.s2=_;rw[Tr.lV _ _ _ _ iZ,if_neg fun e=>mZ e.symm,Tr.lV _ _ _ _ im,if_pos rfl]
structure zm (K:Cb) (L:bU) (rd:mQ):Prop where
 s1:K.s1<top
 s2:K.s2<top
 F9:K.s1≠K.s2
 run:∀s v1 v2 p,rd s v1 v2=some p->okB v1->okB v2->(okB p.v1/\okB p.v2/\(p.ret=true->p.bS=none))/\∃g,bg pg (sp L) FU 6 (.round 270) [.agg<|a9 s] (sE K v1 v2<|a9 s)= .ok (.bool p.ret) (sA K p.bS p.v1 p.v2 (a9 s) g)
def Qy(rd:mQ):Prop:=∀s v1 v2 p,rd s v1 v2=some p->okB v1->okB v2->okB p.v1/\okB p.v2/\(p.ret=true->p.bS=none)
theorem W5{ek:List St->AV->AV->Option fE}{rd:mQ}(hr:Qy rd)(he:∀l v1 v2 p,ek l v1 v2=some p->okB v1->okB v2->okB p.v1/\okB p.v2/\(p.ret=true->p.bS=none)):∀l v1 v2 p,kV ek rd l v1 v2=some p->okB v1->okB v2->okB p.v1/\okB p.v2/\(p.ret=true->p.bS=none)
 |[],v1,v2,p,h,o1,o2=>by
  have h:some (⟨true,v1,v2,none⟩:fE)=some p:=h;injection h with h;subst h
  exact⟨o1,o2,fun _=>rfl⟩
 |s::r,v1,v2,p,h,o1,o2=>by
  unfold kV at h;split at h
  ·cases h
  rename_i q e;obtain⟨a1,a2,a3⟩:=hr _ _ _ _ e o1 o2;split at h
  ·injection h with h;subst h;exact⟨a1,a2,a3⟩
  split at h
  ·cases h
  rename_i q2 e2;obtain⟨b1,b2,b3⟩:=he _ _ _ _ e2 a1 a2;split at h
  ·injection h with h;subst h;exact⟨b1,b2,b3⟩
  split at h
  ·cases h
  rename_i q3 e3;obtain⟨c1,c2,c3⟩:=he _ _ _ _ e3 b1 b2;split at h
  ·injection h with h;subst h;exact⟨c1,c2,c3⟩
  exact W5 hr he r _ _ p h c1 c2
theorem OU(hr:Qy rd):∀k l v1 v2 p,fK rd k l v1 v2=some p->okB v1->okB v2->okB p.v1/\okB p.v2/\(p.ret=true->p.bS=none)
 |0,l,v1,v2,p,h,_,_=>by cases h
 |k+1,l,v1,v2,p,h,o1,o2=>by
  unfold fK at h;split at h
  ·exact W5 hr (OU hr k) l v1 v2 p h o1 o2
  ·cases h
theorem Oo{l:List St}{v1 v2:AV}(o1:okB v1)(o2:okB v2):Aj rd k (.ab (nm<|bC l) 0 l.length) v1 v2=fK rd k l v1 v2:=by unfold Aj;rw[abU];exact if_pos ⟨o1,o2⟩
theorem uf(l:List St):AV.hi (.ab (nm<|bC l) 0 l.length)=true:=aL.2<|cU _
theorem V9{l:List St}{v1 v2:AV}{p:fE}{c:List AV}{g:Option ae}(iZ:K.s1<top)(im:K.s2<top)(mZ:K.s1≠K.s2)(o1:okB v1)(o2:okB v2)(h:fK rd k l v1 v2=some p)(o3:okB p.v1/\okB p.v2):
 bg pg (sp<|dk K rd k::L0) FU 6 (.fn 91) [.ab (nm<|bC l) 0 l.length,.yield 270] (sA K none v1 v2 c g)= .ok (.bool p.ret) (sA K p.bS p.v1 p.v2 c g):=by
 have uY:sp (dk K rd k::L0) 91=some (rB K (Aj rd k) 270 eB dV):=by kernel_rfl
 have I:Mb K (sA K none v1 v2 c g) 270 271 272 273 v1 v2:=by
  refine⟨rfl,(aL.1 aY:276<=top),⟨by show 270<276;omega,by show 271<276;omega,by show 272<276;omega,by show 273<276;omega⟩,⟨by omega,by omega,by omega,by omega,by omega,by omega⟩,⟨aP [(K.s1,.ptr<|some (272,0)),(K.s2,.ptr<|some (273,0))],?_,(V8 iZ im mZ 272 273).1,(V8 iZ im mZ 272 273).2⟩,?_,⟨eO v1,?_,xw _⟩,⟨eO v2,?_,xw _⟩⟩
  ·as_aux_lemma=>kernel_rfl
  ·as_aux_lemma=>kernel_rfl
  ·as_aux_lemma=>kernel_rfl
  ·as_aux_lemma=>kernel_rfl
 have key:=Pq (P:=pg) (F:=FU) (n:=5) uY (uf l) cC I ((Oo o1 o2).trans h) o1 o2 o3.1 o3.2;rw[show MD K (sA K none v1 v2 c g) 270 271 272 273 p=sA K p.bS p.v1 p.v2 c g from by as_aux_lemma=>kernel_rfl] at key;exact key
theorem acP(hP:bB pg)(R:zm K (dk K rd k::L0) rd)(h':aV<|dk K rd k::L0){L:bU}(h:aV L):aV<|dk K rd (k+1)::L:=by
 refine W0 hP gL (aL.1 aY) R.s1 R.s2 R.F9 ir gZ kG ki h h' Tryz.func91 (body:=aW pg 91 []) aY aY fun x v1 v2 p e=>?_;unfold Aj at e;split at e
 ·cases e
 rename_i l el;rw[abV el];split at e;rotate_left
 ·cases e
 rename_i ok;unfold fK at e;split at e;rotate_left
 ·cases e
 rename_i hlen;have hlen:=of_decide_eq_true hlen;have hg:Qy rd:=fun s a b p e x y=>(R.run s a b p e x y).1;refine⟨aL.1 aY,fun B mc=>?_⟩;show av pg B 274 (su K 270 pg (aA Tryz.f91) p) (sF 91 Tryz.f91 [.ab (nm<|bC l) 0 l.length,.yield 270])<|aj (oE K v1 v2) 274;have key:∀(r:List St) (i:Nat) (v1 v2:AV) (p:fE),l.drop i=r->okB v1->okB v2->kV (fK rd k) rd r v1 v2=some p->av pg B 274 (su K 270 pg (aA Tryz.f91) p) (sd (nm<|bC l) l.length i) (aj (oE K v1 v2) 274):=by
  intro r;induction r with
  |nil=>
   intro i v1 v2 p hr _ _ e;have e:some (⟨true,v1,v2,none⟩:fE)=some p:=e;injection e with e;subst e
   exact ahn mc (by have:l.length<=i:=List.drop_eq_nil_iff.1 hr;omega)
  |cons a r ih=>
   intro i v1 v2 p hr o1 o2 e;have hl:i<l.length:=by
    by_cases q:i<l.length
    ·exact q
    ·rw[List.drop_of_length_le ah] at hr;cases hr
   have ha:l[i]? =some a:=by have:=congrArg (fun q=>q[0]?) hr;simp only[List.getElem?_drop,List.getElem?_cons_zero,Nat.add_zero] at this;exact this
   have lR:l.drop (i+1)=r:=by have:=congrArg (List.drop 1) hr;rw[List.drop_drop] at this;exact this
   have hx:=GS ha (z:=(i:Int)) ah;unfold kV at e;split at e
   ·cases e
   rename_i q eq1;obtain⟨⟨a1,a2,a3⟩,g,run⟩:=R.run _ _ _ _ eq1 o1 o2;obtain⟨kd,to,⟨oa,na,la⟩,⟨ob,nb,lb⟩,bd,el⟩:=a;rw[a9,aM,aM] at hx run;split at e
   ·rename_i qr;injection e with e;subst e
    rw[qr] at run;obtain⟨ret,w1,w2,bS⟩:=q;simp only at qr;subst qr;exact akf (u1:=v1) (u2:=v2) (x1:=v1) (x2:=v2) (pf:=⟨true,v1,v2,none⟩) mc (cU _) ah hlen hx run ah
   rename_i qr;rw[qr,a3 qr] at run;split at e
   ·cases e
   rename_i q2 ZE;obtain⟨b1,b2,b3⟩:=OU hg _ _ _ _ _ ZE a1 a2;have hb:=V9 (K:=K) (L0:=L0) (c:=[(u8<|kd),(i6 to),(u8<|oa),(i6 na),(.ab (nm<|dy la) 0 la.length),(u8<|ob),(i6 nb),(.ab (nm<|dy lb) 0 lb.length),(.ab (nm<|bC bd) 0 bd.length),(.ab (nm<|bC el) 0 el.length)]) (g:=g) R.s1 R.s2 R.F9 a1 a2 ZE ⟨b1,b2⟩;split at e
   ·rename_i Ga;injection e with e;subst e
    rw[Ga] at hb;obtain⟨an1,u1,u2,anR⟩:=q2;simp only at Ga;subst Ga;exact akg (x1:=v1) (x2:=v2) (pf:=⟨true,v1,v2,none⟩) mc (cU _) ah hlen hx run hb ah
   rename_i Ga;rw[Ga,b3 Ga] at hb;split at e
   ·cases e
   rename_i q3 ZF;obtain⟨c1,c2,c3⟩:=OU hg _ _ _ _ _ ZF b1 b2;have ho:=V9 (K:=K) (L0:=L0) (c:=[(u8<|kd),(i6 to),(u8<|oa),(i6 na),(.ab (nm<|dy la) 0 la.length),(u8<|ob),(i6 nb),(.ab (nm<|dy lb) 0 lb.length),(.ab (nm<|bC bd) 0 bd.length),(.ab (nm<|bC el) 0 el.length)]) (g:=g) R.s1 R.s2 R.F9 b1 b2 ZF ⟨c1,c2⟩;split at e
   ·rename_i Gb;injection e with e;subst e
    rw[Gb] at ho;obtain⟨an2,x1,x2,anS⟩:=q3;simp only at Gb;subst Gb;exact akh (pf:=⟨true,v1,v2,none⟩) mc (cU _) ah hlen hx run hb ho ah
   rename_i Gb;rw[Gb,c3 Gb] at ho;exact aki (bS:=none) mc (cU _) ah hlen hx run hb ho ah R.s1 R.s2 R.F9 c1 c2<|ih (i+1) _ _ _ lR c1 c2 e
 exact air mc (cU _) R.s1 R.s2 R.F9 ok.1 ok.2<|key l 0 v1 v2 p List.drop_zero ok.1 ok.2 e
theorem BE(hP:bB pg){K:Cb}{rd:mQ}{L0:bU}(R:∀k,zm K (dk K rd k::L0) rd)(h0:aV L0):∀(k:Nat) {L:bU},aV L->aV (dk K rd k::L)
 |0,L,h=>by
  refine W0 hP gL (aL.1 aY) (R 0).s1 (R 0).s2 (R 0).F9 ir gZ kG ki h cO Tryz.func91 (body:=aW pg 91 []) aY aY fun x v1 v2 p e=>?_;unfold Aj at e;split at e
  ·cases e
  split at e
  ·cases e
  ·cases e
 |k+1,L,h=>acP hP (R k) (BE hP R h0 k h0) h
end nV
end
section
open Go Go.Rn Go.RowKit Go.Proofs
namespace uH
open cr cS dj dA fc gK dL u6 n9 nV
variable {rd:mQ} {k N L kd:Nat} {p:fE} {B:aJ} {n2 n1:Int}
noncomputable section
theorem IM(v:AV)(s:AS):(none:Option Nat)=none/\([]:List Nat)=[]/\(some (v,s):Option<|AV×AS)=some (v,s):=⟨rfl,rfl,rfl⟩
def fp(L:bU):Env:=wx pg 270 eB dV L 270 false
def Gc:Code:=aW pg 69 [1,0,1,0,0]
def Dm:Code:=aW pg 69 [1,0,1,0,1]
def KC:Cb:=⟨69,21,[7],Gc,Dm,2,3⟩
def sBC(v1 v2:AV)(c:List AV):AS:=⟨((sE KC v1 v2 c).h.put 275<|some<|.cells 10 (Tr.fill c 0 .nil) []).put 270<|some<|.loop .busy none 69 (aP [(2,.ptr<|some (272,0)),(3,.ptr<|some (273,0))]) 21 [7] Gc Dm 271,276,0,[],[]⟩
noncomputable abbrev rY(kk to oa na:Int)(Na La:Nat)(ob nb:Int)(Nb Lb Nd ld Ne le:Nat):List AV:=[(u8<|kk),(i6 to),(u8<|oa),(i6 na),(.ab Na 0 La),(u8<|ob),(i6 nb),(.ab Nb 0 Lb),(.ab Nd 0 ld),(.ab Ne 0 le)]
theorem ais{Na La Nb Lb Nd ld Ne le:Nat}{kk to oa na ob nb:Int}{ca cb:Int}(h1:0<=n1/\n1<1000000000000)(h2:0<=n2/\n2<1000000000000)(h3:0<=ca/\ca<=1000000)(h4:0<=cb/\cb<=1000000)(hca:bp (ba<|z7 kd) [(.agg [(u8<|oa),(i6 na),(.ab Na 0 La)])]=some (.int .i64 ca))(hcb:bp (ba<|z7 kd) [(.agg [(u8<|ob),(i6 nb),(.ab Nb 0 Lb)])]=some (.int .i64 cb)):bg pg (sp<|dk KC rd k::[pX kd]) FU 6 (.round 270) [.agg<|rY kk to oa na Na La ob nb Nb Lb Nd ld Ne le] (sE KC (i6 n1) (i6 n2)<|rY kk to oa na Na La ob nb Nb Lb Nd ld Ne le)= .ok (.bool true) (sA KC none (i6<|n1+1) (i6<|n2+(ca+cb)) (rY kk to oa na Na La ob nb Nb Lb Nd ld Ne le)<|some<|.cells 10 (Tr.fill (rY kk to oa na Na La ob nb Nb Lb Nd ld Ne le) 0 .nil) []):=DN (st:=.ready) (bS:=none) (fn:=69) (nt:=21) (d:=271) (t:=(aP [(2,.ptr<|some (272,0)),(3,.ptr<|some (273,0))])) (ps:=[7]) (a:=Gc) (b:=Dm) (s0:=sE KC (i6 n1) (i6 n2)<|rY kk to oa na Na La ob nb Nb Lb Nd ld Ne le) cC rfl<|Chunk.ev 2 ⟨69,je [7] [.agg<|rY kk to oa na Na La ob nb Nb Lb Nd ld Ne le]<|aP [(2,.ptr<|some (272,0)),(3,.ptr<|some (273,0))],21,[.code Gc,.beginRound,.code Dm],[],some 270⟩ ⟨69,((je [7] [.agg<|rY kk to oa na Na La ob nb Nb Lb Nd ld Ne le]<|aP [(2,.ptr<|some (272,0)),(3,.ptr<|some (273,0))]).put 4<|some<|.ptr<|some (275,0)),21,[.code Dm],[],some 270⟩ _ (sBC (i6 n1) (i6 n2)<|rY kk to oa na Na La ob nb Nb Lb Nd ld Ne le) cC<|zG (E:=fp<|dk KC rd k::[pX kd]) (C:=(fun fr s1 _=>fr.round=none/\fr.defers=[]/\zN pg (bg pg (sp<|dk KC rd k::[pX kd]) FU 5) 270 fr s1=some ((.bool true),(sA KC none (i6<|n1+1) (i6<|n2+(ca+cb)) (rY kk to oa na Na La ob nb Nb Lb Nd ld Ne le)<|some<|.cells 10 (Tr.fill (rY kk to oa na Na La ob nb Nb Lb Nd ld Ne le) 0 .nil) [])))) eH rfl (fun fr s p h=>DM h.1 h.2.1 h.2.2) 900 (.st 2<|.rg<|.go 1<|.vl (i6<|n1+1)<|.go 1<|.en<|.rg<|.go 3<|.kn (i6 ca)<|.go 2<|.kn (i6 cb)<|.vl (i6<|ca+cb)<|.vl (i6<|n2+(ca+cb))<|.go 1<|.en<|.st 1<|.cut .no)<|ai (wI<|n1+1)<|ai hca<|ai hcb<|ai (wI<|ca+cb)<|ai (wI<|n2+(ca+cb))<|IM (.bool true)<|sA KC none (i6<|n1+1) (i6<|n2+(ca+cb)) (rY kk to oa na Na La ob nb Nb Lb Nd ld Ne le)<|some<|.cells 10 (Tr.fill (rY kk to oa na Na La ob nb Nb Lb Nd ld Ne le) 0 .nil) []
def zn(N L:Nat):List<|Nat×AV:=[(2,(.ptr<|some (270,0))),(3,(.ptr<|some (271,0))),(6,(.func (.func 90) [] [(.ptr<|some (272,0))]))]
def td(v1 v2:AV)(N L:Nat):List<|Nat×Option ae:=aq++[(270,some<|eO v1),(271,some<|eO v2),(272,(some<|.cells 1 (Tr.fill [(.ab N 0 L)] 0 .nil) []))]
def zo(v1 v2:AV)(N L:Nat):AS:=aj (td v1 v2 N L++[(273,some .defs),(274,some<|.loop .ready none 69 (aP<|zn N L) 21 KC.ps Gc Dm 273)]) 275
def te(p:fE)(N L:Nat):AS:=aj (td p.v1 p.v2 N L++[(273,some .defs),(274,some<|Cb.loop KC p.bS 270 271 273)]) 275
def MI(p:fE)(N L:Nat):AS:=aj (td p.v1 p.v2 N L++[(273,some .defs),(274,some<|.loop .exhausted p.bS KC.fn (aP [(KC.s1,.ptr<|some (270,0)),(KC.s2,.ptr<|some (271,0))]) KC.nt KC.ps KC.a KC.b 273)]) 275
theorem ait{L0:bU}{v1 v2:AV}{l:List St}(hN:N=nm (bC l))(hl:L=l.length)(o1:okB v1)(o2:okB v2)(h:fK rd k l v1 v2=some p)(o3:okB p.v1/\okB p.v2):
 bg pg (sp<|dk KC rd k::L0) FU 5 (.fn 91) [.ab N 0 L,.yield 274] (zo v1 v2 N L)= .ok (.bool p.ret) (te p N L):=by
 subst hN;subst hl;have uY:sp (dk KC rd k::L0) 91=some (rB KC (Aj rd k) 270 eB dV):=by kernel_rfl
 have I:Mb KC (zo v1 v2 (nm<|bC l) l.length) 274 273 270 271 v1 v2:=by
  refine⟨rfl,(aL.1 aY:275<=top),⟨by show 274<275;omega,by show 273<275;omega,by show 270<275;omega,by show 271<275;omega⟩,⟨by omega,by omega,by omega,by omega,by omega,by omega⟩,⟨aP<|zn (nm<|bC l) l.length,?_,?_,?_⟩,?_,⟨eO v1,?_,xw _⟩,⟨eO v2,?_,xw _⟩⟩
  all_goals (as_aux_lemma=>kernel_rfl)
 have key:=Pq (P:=pg) (F:=FU) (n:=4) uY (uf l) cC I ((Oo o1 o2).trans h) o1 o2 o3.1 o3.2;rw[show MD KC (zo v1 v2 (nm<|bC l) l.length) 274 273 270 271 p=te p (nm<|bC l) l.length from by as_aux_lemma=>kernel_rfl] at key;exact key
theorem akj{v1 v2:AV}(hE:bg pg (sp<|dk KC rd k::[pX kd]) FU 5 (.fn 91) [.ab N 0 L,.yield 274] (zo v1 v2 N L)= .ok (.bool p.ret) (te p N L)):mP (fp<|dk KC rd k::[pX kd]) 5 (aA Tryz.f90) (fun v s=>v= .tuple []/\s=(te p N L)) (sF 90 Tryz.f90 [.yield 274,.ptr<|some (272,0)])<|zo v1 v2 N L:=v8 (C:=fun _ _ _=>False) eH rfl (fun _ _ _ h=>h.elim) 900 (.rg<|.go 2<|.cu (.bool p.ret) (te p N L)<|.en<|.rt 1 .no)<|ai hE (show(AV.tuple []=AV.tuple []/\(te p N L)=(te p N L)) from⟨rfl,rfl⟩)
theorem alC{v1 v2:AV}(hE:bg pg (sp<|dk KC rd k::[pX kd]) FU 5 (.fn 91) [.ab N 0 L,.yield 274] (zo v1 v2 N L)= .ok (.bool p.ret) (te p N L)):bg pg (sp<|dk KC rd k::[pX kd]) FU 6 (.fn 90) [.yield 274,.ptr<|some (272,0)] (zo v1 v2 N L)= .ok (.tuple []) (te p N L):=by obtain⟨v,s2,h1,rfl,rfl⟩:=mP.call (E:=fp<|dk KC rd k::[pX kd]) (n:=5) Tryz.func90 (xF Tryz.func90 cC)<|akj (v1:=v1) (v2:=v2) hE;exact h1
theorem yr:aW pg 69 [1,0,1,0]= .rangeFunc (.tmp 6) #[7] Gc Dm:=by kernel_rfl
def MJ:List Item:=[.inBlock 0,.code<|aW pg 69 [1,1]]
def Fu(N L:Nat):AF:=⟨69,aP<|zn N L,21,.code (aW pg 69 [1,0,1,0])::MJ,[],none⟩
theorem aiu:lf 274 (te p N L)= .ok p.bS (MI p N L):=by
 obtain⟨r,v1,v2,bS⟩:=p;cases bS with
 |none=>as_aux_lemma=>kernel_rfl
 |some c=>as_aux_lemma=>kernel_rfl
theorem rgC{v1 v2 v:AV}(mc:Mt (dk KC rd k::[pX kd]) B)(hE:bg pg (sp<|dk KC rd k::[pX kd]) FU 5 (.fn 91) [.ab N 0 L,.yield 274] (zo v1 v2 N L)= .ok (.bool p.ret) (te p N L))(H:av pg B 270 (Fin pg (aA Tryz.f69) fun y _=>y=v) ⟨69,aP<|zn N L,21,andThen p.bS MJ,[273],none⟩<|MI p N L):av pg B 270 (Fin pg (aA Tryz.f69) fun y _=>y=v) (Fu N L)<|aj (td v1 v2 N L) 273:=by unfold Fu;rw[yr];exact av.chunk bT mc.2.2.1 mc.2.2.2 (GR (gv:=.func (.func 90) [] [.ptr<|some (272,0)]) (s1:=aj (td v1 v2 N L++[(273,some .defs)]) 274) (s2:=zo v1 v2 N L) cC cC cC (alC (rd:=rd) (k:=k) (kd:=kd) hE) (show lf 274 (te p N L)= .ok p.bS (MI p N L) from aiu)) (by show 270<=273;omega) H
theorem akk(N L:Nat):((zn N L).map (fun q=>some q.2)=(zn N L).map (fun q=>some q.2))/\((td (.int .i64 0) (.int .i64 0) N L).map (fun q=>q.2)=(td (.int .i64 0) (.int .i64 0) N L).map (fun q=>q.2))/\(Fu N L=Fu N L/\aj (td (.int .i64 0) (.int .i64 0) N L) 273=aj (td (.int .i64 0) (.int .i64 0) N L) 273):=⟨rfl,rfl,rfl,rfl⟩
theorem goC{v:AV}(mc:Mt (dk KC rd k::[pX kd]) B)(hn:top<=N)(H:av pg B 270 (Fin pg (aA Tryz.f69) fun y _=>y=v) (Fu N L)<|aj (td (.int .i64 0) (.int .i64 0) N L) 273):av pg B 270 (Fin pg (aA Tryz.f69) fun y _=>y=v) (sF 69 Tryz.f69 [(.ab N 0 L)])<|aj aq 270:=wC mc (C:=(fun fr s1 _=>fr=Fu N L/\s1=aj (td (.int .i64 0) (.int .i64 0) N L) 273)) nJ (.st 4<|.rg<|.go 1<|.il<|.rt 5<|.en<|.st 1<|.ls (zn N L) (td (.int .i64 0) (.int .i64 0) N L) 273 .no)<|akk N L
theorem enC{r:Bool}(mc:Mt (dk KC rd k::[pX kd]) B):av pg B 270 (Fin pg (aA Tryz.f69) fun y _=>y= .tuple [.int .i64 n1,.int .i64 n2]) ⟨69,aP<|zn N L,21,andThen none MJ,[273],none⟩<|MI ⟨r,.int .i64 n1,.int .i64 n2,none⟩ N L:=(Oq (l:=273) (k:=8) (fr:=⟨69,aP<|zn N L,21,MJ,[],none⟩) bT mc.2.2.1 mc.2.2.2 rfl rfl cC).2.2 (by show 270<=275;omega)
end
end uH
end
section
open Go Go.Rn Go.RowKit Go.Proofs
namespace qR
open cr cS dj dA fc CL gK AE dL u6 n9 nV uH
variable {kd:Nat} {e:Ex}
noncomputable section
def iC:St->Ex
 | .mk _ _ a _ _ _=>a
def ib:St->Ex
 | .mk _ _ _ b _ _=>b
def QA(kd:Nat)(s:St)(n1 n2:Int):Prop:=(0<=n1/\n1<1000000000000)/\(0<=n2/\n2<1000000000000)/\ux kd (iC s)=true/\ux kd (ib s)=true/\lG kd (iC s)<=1000000/\lG kd (ib s)<=1000000
open Classical in
def py(kd:Nat):mQ:=fun s v1 v2=>match v1,v2 with
 | .int .i64 n1,.int .i64 n2=>if QA kd s n1 n2 then some ⟨true,.int .i64<|n1+1,.int .i64<|n2+(mC kd (iC s)+mC kd (ib s)),none⟩ else none
 |_,_=>none
theorem w9(n:Int):okB<|.int .i64 n:=⟨rfl,rfl⟩
theorem Vf(h:ux kd e=true)(h2:lG kd e<=1000000):0<=mC kd e/\mC kd e<=1000000:=by have:=GA kd e h;unfold mC;split<;>omega
theorem Vg(h:ux kd e=true)(h2:lG kd e<=1000000):bp (ba<|z7 kd) [.agg<|aM e]=some (i6<|mC kd e):=fu (ff z7.bR ⟨e,rfl,h,h2,rfl⟩) sr rfl
theorem Wa{s:St}{v1 v2:AV}{p:fE}(h:py kd s v1 v2=some p):∃n1 n2,v1= .int .i64 n1/\v2= .int .i64 n2/\QA kd s n1 n2/\p=⟨true,.int .i64<|n1+1,.int .i64<|n2+(mC kd (iC s)+mC kd (ib s)),none⟩:=by
 unfold py at h;split at h
 ·rename_i n1 n2;split at h
  ·rename_i q;injection h with h
   exact⟨n1,n2,rfl,rfl,q,h.symm⟩
  ·cases h
 ·cases h
theorem akl(kd k:Nat):zm KC (dk KC (py kd) k::[pX kd])<|py kd:=by refine⟨aL.1 aY,aL.1 aY,(by show(2:Nat)≠3;omega),fun s v1 v2 p h _ _=>?_⟩;obtain⟨n1,n2,rfl,rfl,⟨h1,h2,h3,h4,h5,h6⟩,rfl⟩:=Wa h;refine⟨⟨w9 _,w9 _,fun _=>rfl⟩,some<|.cells 10 (Tr.fill (a9 s) 0 .nil) [],?_⟩;have ca:=Vg h3 h5;have cb:=Vg h4 h6;have na:=Vf h3 h5;have nb:=Vf h4 h6;obtain⟨kk,to,⟨oa,xa,la⟩,⟨ob,xb,lb⟩,bd,el⟩:=s;simp only[iC,ib] at ca cb na nb ⊢;rw[a9,aM,aM];rw[aM] at ca cb;exact ais h1 h2 na nb ca cb
def Rb(p:fE):Prop:=p.ret=true/\p.bS=none/\∃n1 n2,p.v1= .int .i64 n1/\p.v2= .int .i64 n2
theorem Wb{kd:Nat}{ek:List St->AV->AV->Option fE}(he:∀l n1 n2 p,ek l (.int .i64 n1) (.int .i64 n2)=some p->Rb p):∀l n1 n2 p,kV ek (py kd) l (.int .i64 n1) (.int .i64 n2)=some p->Rb p
 |[],n1,n2,p,h=>by
  have h:some (⟨true,.int .i64 n1,.int .i64 n2,none⟩:fE)=some p:=h;injection h with h;subst h
  exact⟨rfl,rfl,_,_,rfl,rfl⟩
 |s::r,n1,n2,p,h=>by
  unfold kV at h;split at h
  ·cases h
  rename_i q e;obtain⟨m1,m2,e1,e2,_,rfl⟩:=Wa e;cases e1;cases e2;simp only at h;split at h
  ·cases h
  rename_i q2 e2;obtain⟨b1,b2,x1,x2,y1,y2⟩:=he _ _ _ _ e2;rw[b1] at h;simp only at h;rw[y1,y2] at h;split at h
  ·cases h
  rename_i q3 e3;obtain⟨c1,c2,x3,x4,y3,y4⟩:=he _ _ _ _ e3;rw[c1] at h;simp only at h;rw[y3,y4] at h;exact Wb he r _ _ p h
theorem Ux:∀k l n1 n2 p,fK (py kd) k l (.int .i64 n1) (.int .i64 n2)=some p->Rb p
 |0,_,_,_,_,h=>by cases h
 |k+1,l,n1,n2,p,h=>by
  unfold fK at h;split at h
  ·exact Wb (Ux k) l n1 n2 p h
  ·cases h
def CM(kd k:Nat)(args:List AV)(v:AV):Prop:=∃(l:List St) (p:fE),args=[.ab (nm<|bC l) 0 l.length]/\fK (py kd) k l (.int .i64 0) (.int .i64 0)=some p/\v= .tuple [p.v1,p.v2]
theorem afv{l l':List St}(h:[AV.ab (nm<|bC l) 0 l.length]=[.ab (nm<|bC l') 0 l'.length]):l=l':=by
 injection h with h _
 injection h with h1 _ _
 exact tH _ _<|tZ (lU _) (lU _) h1
theorem CM.bR{k:Nat}(args:List AV)(v v':AV)(h:CM kd k args v)(h':CM kd k args v'):v=v':=by
 obtain⟨l,p,rfl,a,rfl⟩:=h;obtain⟨l',p',h1,a',rfl⟩:=h';rw[afv h1,a'] at a;injection a with a
 rw[a]
def lO(kd k:Nat):FuncId×KE:=(69,.val<|ba<|CM kd k)
theorem afw(hP:bB pg)(kd k:Nat){L:bU}(h:aV L):aV<|lO kd k::L:=by refine g9 hP h (BE hP (fun k=>akl kd k) (Us hP kd cO) k<|Us hP kd cO) Tryz.func69 fun args v e=>?_;obtain⟨l,p,rfl,he,rfl⟩:=gf e;refine⟨aL.1 aY,fun B mc=>?_⟩;rw[←gN];obtain⟨r1,r2,n1,n2,v1,v2⟩:=Ux k l 0 0 p he;obtain⟨ret,w1,w2,bS⟩:=p;simp only at r1 r2 v1 v2;subst r1;subst r2;subst v1;subst v2;exact goC (rd:=py kd) (k:=k) (kd:=kd) mc (cU _)<|rgC mc (ait (rd:=py kd) (k:=k) rfl rfl (w9 _) (w9 _) he ⟨w9 _,w9 _⟩)<|enC mc
end
end qR
end
section
open Go Go.Rn Go.RowKit Go.Proofs
namespace AG
open cr cS dj dA fT fc gK dL u6 F7 wA yu n9 nV
variable {xb xa to ob oa na:Int} {ld Ne Nd Nb Na Lb La:Nat} {B:aJ}
theorem aiv{le:Nat}{kk z xa xb nb:Int}(mc:Mt [w8,we,wc] B)(ho:bp (ba ku) [.int .u8 kk]=some (.agg [.bool false,.bool false,.bool false,.bool false,.bool false,.bool false])):av pg B 270 (Fin pg (aA Tryz.f71) fun y _=>y=(.bool<|decide<|False)) (sF 71 Tryz.f71 [(.agg [(u8<|kk),(i6 to),(u8<|oa),(i6 na),(.ab Na 0 La),(u8<|ob),(i6 nb),(.ab Nb 0 Lb),(.ab Nd 0 ld),(.ab Ne 0 le)]),(i6 z)])<|aj aq 270:=wS mc (.st 3<|.rg<|.go 2<|.kn (.agg [(.bool false),(.bool false),(.bool false),(.bool false),(.bool false),(.bool false)])<|.go 2<|.en<|.rt 10 .no)<|ai ho (show AV.bool false= .bool (decide<|False) from by rw[decide_eq_false fun h=>h])
theorem afx:bp (ba ku) [.int .u8 1]=some (.agg [(.bool true),(.bool true),(.bool true),(.bool false),(.bool false),(.bool false)]):=fu (ff ku.bR ⟨1,rfl,by omega,by omega,rfl⟩) (by rfl) rfl
theorem aiw{le:Nat}{z nb:Int}(mc:Mt [w8,we,wc] B)(ha:bp (ba o9) [(.agg [(u8<|oa),(i6 na),(.ab Na 0 La)]),.int .i64 z]=some (.bool<|decide<|xa=1))(hb:bp (ba ny) [(.agg [(u8<|ob),(i6 nb),(.ab Nb 0 Lb)])]=some (.bool<|decide<|xb=1)):av pg B 270 (Fin pg (aA Tryz.f71) fun y _=>y=(.bool<|decide<|0<=to/\to<8/\xa=1/\xb=1/\ld=0/\le=0)) (sF 71 Tryz.f71 [(.agg [(u8<|.ofNat 1),(i6 to),(u8<|oa),(i6 na),(.ab Na 0 La),(u8<|ob),(i6 nb),(.ab Nb 0 Lb),(.ab Nd 0 ld),(.ab Ne 0 le)]),(i6 z)])<|aj aq 270:=wS mc (.st 3<|.rg<|.go 2<|.kn (.agg [(.bool true),(.bool true),(.bool true),(.bool false),(.bool false),(.bool false)])<|.go 2<|.en<|.st 8<|.rg<|.go 2<|.fk (.go 16<|.en<|.rt 4 .no)<|.go 3<|.fk (.go 12<|.en<|.rt 4 .no)<|.go 12<|.en<|.st 4<|.rg<|.go 5<|.il<|.st 7<|.rg<|.go 2<|.kp (xa=1) inferInstance (.go 1<|.en<|.rt 1<|.go 6<|.il<|.st 8<|.rg<|.go 1<|.kp (xb=1) inferInstance (.go 1<|.en<|.rt 1<|.go 8<|.fk (.go 9<|.fk (.go 3<|.en<|.rt 1 .no)<|.go 3<|.en<|.rt 1 .no)<|.go 13<|.en<|.rt 1 .no)<|.go 1<|.en<|.rt 1<|.go 22<|.en<|.rt 1 .no)<|.go 1<|.en<|.rt 1<|.go 29<|.en<|.rt 1 .no)<|ai (afx) Zt
theorem afy:bp (ba ku) [.int .u8 2]=some (.agg [(.bool true),(.bool true),(.bool true),(.bool false),(.bool false),(.bool false)]):=fu (ff ku.bR ⟨2,rfl,by omega,by omega,rfl⟩) (by rfl) rfl
theorem aix{le:Nat}{z nb:Int}(mc:Mt [w8,we,wc] B)(ha:bp (ba o9) [(.agg [(u8<|oa),(i6 na),(.ab Na 0 La)]),.int .i64 z]=some (.bool<|decide<|xa=1))(hb:bp (ba ny) [(.agg [(u8<|ob),(i6 nb),(.ab Nb 0 Lb)])]=some (.bool<|decide<|xb=1)):av pg B 270 (Fin pg (aA Tryz.f71) fun y _=>y=(.bool<|decide<|0<=to/\to<8/\xa=1/\xb=1/\ld=0/\le=0)) (sF 71 Tryz.f71 [(.agg [(u8<|.ofNat 2),(i6 to),(u8<|oa),(i6 na),(.ab Na 0 La),(u8<|ob),(i6 nb),(.ab Nb 0 Lb),(.ab Nd 0 ld),(.ab Ne 0 le)]),(i6 z)])<|aj aq 270:=wS mc (.st 3<|.rg<|.go 2<|.kn (.agg [(.bool true),(.bool true),(.bool true),(.bool false),(.bool false),(.bool false)])<|.go 2<|.en<|.st 8<|.rg<|.go 2<|.fk (.go 16<|.en<|.rt 4 .no)<|.go 3<|.fk (.go 12<|.en<|.rt 4 .no)<|.go 12<|.en<|.st 4<|.rg<|.go 5<|.il<|.st 7<|.rg<|.go 2<|.kp (xa=1) inferInstance (.go 1<|.en<|.rt 1<|.go 6<|.il<|.st 8<|.rg<|.go 1<|.kp (xb=1) inferInstance (.go 1<|.en<|.rt 1<|.go 8<|.fk (.go 9<|.fk (.go 3<|.en<|.rt 1 .no)<|.go 3<|.en<|.rt 1 .no)<|.go 13<|.en<|.rt 1 .no)<|.go 1<|.en<|.rt 1<|.go 22<|.en<|.rt 1 .no)<|.go 1<|.en<|.rt 1<|.go 29<|.en<|.rt 1 .no)<|ai (afy) Zt
theorem afz:bp (ba ku) [.int .u8 3]=some (.agg [(.bool true),(.bool false),(.bool true),(.bool true),(.bool false),(.bool false)]):=fu (ff ku.bR ⟨3,rfl,by omega,by omega,rfl⟩) (by rfl) rfl
theorem aiy{le:Nat}{z nb:Int}(mc:Mt [w8,we,wc] B)(ha:bp (ba o9) [(.agg [(u8<|oa),(i6 na),(.ab Na 0 La)]),.int .i64 z]=some (.bool<|decide<|xa=1))(hb:bp (ba o9) [(.agg [(u8<|ob),(i6 nb),(.ab Nb 0 Lb)]),.int .i64 z]=some (.bool<|decide<|xb=1)):av pg B 270 (Fin pg (aA Tryz.f71) fun y _=>y=(.bool<|decide<|0<=to/\to<8/\to=0/\xa=1/\xb=1/\ld=0/\le=0)) (sF 71 Tryz.f71 [(.agg [(u8<|.ofNat 3),(i6 to),(u8<|oa),(i6 na),(.ab Na 0 La),(u8<|ob),(i6 nb),(.ab Nb 0 Lb),(.ab Nd 0 ld),(.ab Ne 0 le)]),(i6 z)])<|aj aq 270:=wS mc (.st 3<|.rg<|.go 2<|.kn (.agg [(.bool true),(.bool false),(.bool true),(.bool true),(.bool false),(.bool false)])<|.go 2<|.en<|.st 8<|.rg<|.go 2<|.fk (.go 16<|.en<|.rt 4 .no)<|.go 3<|.fk (.go 12<|.en<|.rt 4 .no)<|.go 8<|.fk (.go 3<|.en<|.rt 4 .no)<|.go 3<|.en<|.st 4<|.rg<|.go 5<|.il<|.st 7<|.rg<|.go 2<|.kp (xa=1) inferInstance (.go 1<|.en<|.rt 1<|.go 6<|.il<|.st 7<|.rg<|.go 2<|.kp (xb=1) inferInstance (.go 1<|.en<|.rt 1<|.go 8<|.fk (.go 9<|.fk (.go 3<|.en<|.rt 1 .no)<|.go 3<|.en<|.rt 1 .no)<|.go 13<|.en<|.rt 1 .no)<|.go 1<|.en<|.rt 1<|.go 22<|.en<|.rt 1 .no)<|.go 1<|.en<|.rt 1<|.go 29<|.en<|.rt 1 .no)<|ai (afz) R2
theorem afA:bp (ba ku) [.int .u8 4]=some (.agg [(.bool true),(.bool false),(.bool true),(.bool false),(.bool true),(.bool true)]):=fu (ff ku.bR ⟨4,rfl,by omega,by omega,rfl⟩) (by rfl) rfl
theorem aiz{le:Nat}{z nb:Int}(mc:Mt [w8,we,wc] B)(ha:bp (ba o9) [(.agg [(u8<|oa),(i6 na),(.ab Na 0 La)]),.int .i64 z]=some (.bool<|decide<|xa=1))(hb:bp (ba ny) [(.agg [(u8<|ob),(i6 nb),(.ab Nb 0 Lb)])]=some (.bool<|decide<|xb=1)):av pg B 270 (Fin pg (aA Tryz.f71) fun y _=>y=(.bool<|decide<|0<=to/\to<8/\to=0/\xa=1/\xb=1)) (sF 71 Tryz.f71 [(.agg [(u8<|.ofNat 4),(i6 to),(u8<|oa),(i6 na),(.ab Na 0 La),(u8<|ob),(i6 nb),(.ab Nb 0 Lb),(.ab Nd 0 ld),(.ab Ne 0 le)]),(i6 z)])<|aj aq 270:=wS mc (.st 3<|.rg<|.go 2<|.kn (.agg [(.bool true),(.bool false),(.bool true),(.bool false),(.bool true),(.bool true)])<|.go 2<|.en<|.st 8<|.rg<|.go 2<|.fk (.go 16<|.en<|.rt 4 .no)<|.go 3<|.fk (.go 12<|.en<|.rt 4 .no)<|.go 8<|.fk (.go 3<|.en<|.rt 4 .no)<|.go 3<|.en<|.st 4<|.rg<|.go 5<|.il<|.st 7<|.rg<|.go 2<|.kp (xa=1) inferInstance (.go 1<|.en<|.rt 1<|.go 6<|.il<|.st 8<|.rg<|.go 1<|.kp (xb=1) inferInstance (.go 1<|.en<|.rt 1<|.go 22<|.en<|.rt 1 .no)<|.go 1<|.en<|.rt 1<|.go 22<|.en<|.rt 1 .no)<|.go 1<|.en<|.rt 1<|.go 29<|.en<|.rt 1 .no)<|ai (afA) Zu
theorem afB:bp (ba ku) [.int .u8 5]=some (.agg [(.bool true),(.bool false),(.bool true),(.bool false),(.bool true),(.bool false)]):=fu (ff ku.bR ⟨5,rfl,by omega,by omega,rfl⟩) (by rfl) rfl
theorem aiA{le:Nat}{z nb:Int}(mc:Mt [w8,we,wc] B)(ha:bp (ba o9) [(.agg [(u8<|oa),(i6 na),(.ab Na 0 La)]),.int .i64 z]=some (.bool<|decide<|xa=1))(hb:bp (ba ny) [(.agg [(u8<|ob),(i6 nb),(.ab Nb 0 Lb)])]=some (.bool<|decide<|xb=1)):av pg B 270 (Fin pg (aA Tryz.f71) fun y _=>y=(.bool<|decide<|0<=to/\to<8/\to=0/\xa=1/\xb=1/\le=0)) (sF 71 Tryz.f71 [(.agg [(u8<|.ofNat 5),(i6 to),(u8<|oa),(i6 na),(.ab Na 0 La),(u8<|ob),(i6 nb),(.ab Nb 0 Lb),(.ab Nd 0 ld),(.ab Ne 0 le)]),(i6 z)])<|aj aq 270:=wS mc (.st 3<|.rg<|.go 2<|.kn (.agg [(.bool true),(.bool false),(.bool true),(.bool false),(.bool true),(.bool false)])<|.go 2<|.en<|.st 8<|.rg<|.go 2<|.fk (.go 16<|.en<|.rt 4 .no)<|.go 3<|.fk (.go 12<|.en<|.rt 4 .no)<|.go 8<|.fk (.go 3<|.en<|.rt 4 .no)<|.go 3<|.en<|.st 4<|.rg<|.go 5<|.il<|.st 7<|.rg<|.go 2<|.kp (xa=1) inferInstance (.go 1<|.en<|.rt 1<|.go 6<|.il<|.st 8<|.rg<|.go 1<|.kp (xb=1) inferInstance (.go 1<|.en<|.rt 1<|.go 18<|.fk (.go 3<|.en<|.rt 1 .no)<|.go 3<|.en<|.rt 1 .no)<|.go 1<|.en<|.rt 1<|.go 22<|.en<|.rt 1 .no)<|.go 1<|.en<|.rt 1<|.go 29<|.en<|.rt 1 .no)<|ai (afB)<|ax (to<0) (fun _=>(show AV.bool false= .bool (decide<|0<=to/\to<8/\to=0/\xa=1/\xb=1/\le=0) from by rw[decide_eq_false ah])) fun _=>(ax (to>=8) (fun _=>(show AV.bool false= .bool (decide<|0<=to/\to<8/\to=0/\xa=1/\xb=1/\le=0) from by rw[decide_eq_false ah])) fun _=>(ax (to≠0) (fun _=>(show AV.bool false= .bool (decide<|0<=to/\to<8/\to=0/\xa=1/\xb=1/\le=0) from by rw[decide_eq_false ah])) fun _=>(ai ha<|ax (xa=1) (fun _=>(ai hb<|ax (xb=1) (fun _=>(ax ((le:Int)=0) (fun _=>(show AV.bool true= .bool (decide<|0<=to/\to<8/\to=0/\xa=1/\xb=1/\le=0) from by rw[decide_eq_true ah])) fun _=>(show AV.bool false= .bool (decide<|0<=to/\to<8/\to=0/\xa=1/\xb=1/\le=0) from by rw[decide_eq_false ah]))) fun _=>(show AV.bool false= .bool (decide<|0<=to/\to<8/\to=0/\xa=1/\xb=1/\le=0) from by rw[decide_eq_false ah]))) fun _=>(show AV.bool false= .bool (decide<|0<=to/\to<8/\to=0/\xa=1/\xb=1/\le=0) from by rw[decide_eq_false ah]))))
theorem afC:bp (ba ku) [.int .u8 6]=some (.agg [(.bool true),(.bool false),(.bool false),(.bool false),(.bool false),(.bool false)]):=fu (ff ku.bR ⟨6,rfl,by omega,by omega,rfl⟩) (by rfl) rfl
theorem aiB{le:Nat}{z nb:Int}(mc:Mt [w8,we,wc] B)(ha:bp (ba ny) [(.agg [(u8<|oa),(i6 na),(.ab Na 0 La)])]=some (.bool<|decide<|xa=1))(hb:bp (ba ny) [(.agg [(u8<|ob),(i6 nb),(.ab Nb 0 Lb)])]=some (.bool<|decide<|xb=1)):av pg B 270 (Fin pg (aA Tryz.f71) fun y _=>y=(.bool<|decide<|0<=to/\to<8/\to=0/\xa=1/\xb=1/\ld=0/\le=0)) (sF 71 Tryz.f71 [(.agg [(u8<|.ofNat 6),(i6 to),(u8<|oa),(i6 na),(.ab Na 0 La),(u8<|ob),(i6 nb),(.ab Nb 0 Lb),(.ab Nd 0 ld),(.ab Ne 0 le)]),(i6 z)])<|aj aq 270:=wS mc (.st 3<|.rg<|.go 2<|.kn (.agg [(.bool true),(.bool false),(.bool false),(.bool false),(.bool false),(.bool false)])<|.go 2<|.en<|.st 8<|.rg<|.go 2<|.fk (.go 16<|.en<|.rt 4 .no)<|.go 3<|.fk (.go 12<|.en<|.rt 4 .no)<|.go 8<|.fk (.go 3<|.en<|.rt 4 .no)<|.go 3<|.en<|.st 4<|.rg<|.go 5<|.il<|.st 8<|.rg<|.go 1<|.kp (xa=1) inferInstance (.go 1<|.en<|.rt 1<|.go 6<|.il<|.st 8<|.rg<|.go 1<|.kp (xb=1) inferInstance (.go 1<|.en<|.rt 1<|.go 8<|.fk (.go 9<|.fk (.go 3<|.en<|.rt 1 .no)<|.go 3<|.en<|.rt 1 .no)<|.go 13<|.en<|.rt 1 .no)<|.go 1<|.en<|.rt 1<|.go 22<|.en<|.rt 1 .no)<|.go 1<|.en<|.rt 1<|.go 29<|.en<|.rt 1 .no)<|ai (afC) R2
theorem afD:bp (ba ku) [.int .u8 7]=some (.agg [(.bool true),(.bool false),(.bool false),(.bool false),(.bool true),(.bool true)]):=fu (ff ku.bR ⟨7,rfl,by omega,by omega,rfl⟩) (by rfl) rfl
theorem aiC{le:Nat}{z nb:Int}(mc:Mt [w8,we,wc] B)(ha:bp (ba ny) [(.agg [(u8<|oa),(i6 na),(.ab Na 0 La)])]=some (.bool<|decide<|xa=1))(hb:bp (ba ny) [(.agg [(u8<|ob),(i6 nb),(.ab Nb 0 Lb)])]=some (.bool<|decide<|xb=1)):av pg B 270 (Fin pg (aA Tryz.f71) fun y _=>y=(.bool<|decide<|0<=to/\to<8/\to=0/\xa=1/\xb=1)) (sF 71 Tryz.f71 [(.agg [(u8<|.ofNat 7),(i6 to),(u8<|oa),(i6 na),(.ab Na 0 La),(u8<|ob),(i6 nb),(.ab Nb 0 Lb),(.ab Nd 0 ld),(.ab Ne 0 le)]),(i6 z)])<|aj aq 270:=wS mc (.st 3<|.rg<|.go 2<|.kn (.agg [(.bool true),(.bool false),(.bool false),(.bool false),(.bool true),(.bool true)])<|.go 2<|.en<|.st 8<|.rg<|.go 2<|.fk (.go 16<|.en<|.rt 4 .no)<|.go 3<|.fk (.go 12<|.en<|.rt 4 .no)<|.go 8<|.fk (.go 3<|.en<|.rt 4 .no)<|.go 3<|.en<|.st 4<|.rg<|.go 5<|.il<|.st 8<|.rg<|.go 1<|.kp (xa=1) inferInstance (.go 1<|.en<|.rt 1<|.go 6<|.il<|.st 8<|.rg<|.go 1<|.kp (xb=1) inferInstance (.go 1<|.en<|.rt 1<|.go 22<|.en<|.rt 1 .no)<|.go 1<|.en<|.rt 1<|.go 22<|.en<|.rt 1 .no)<|.go 1<|.en<|.rt 1<|.go 29<|.en<|.rt 1 .no)<|ai (afD) Zu
theorem afE:bp (ba ku) [.int .u8 8]=some (.agg [(.bool true),(.bool false),(.bool true),(.bool false),(.bool false),(.bool false)]):=fu (ff ku.bR ⟨8,rfl,by omega,by omega,rfl⟩) (by rfl) rfl
theorem aiD{le:Nat}{z nb:Int}(mc:Mt [w8,we,wc] B)(ha:bp (ba o9) [(.agg [(u8<|oa),(i6 na),(.ab Na 0 La)]),.int .i64 z]=some (.bool<|decide<|xa=1))(hb:bp (ba ny) [(.agg [(u8<|ob),(i6 nb),(.ab Nb 0 Lb)])]=some (.bool<|decide<|xb=1)):av pg B 270 (Fin pg (aA Tryz.f71) fun y _=>y=(.bool<|decide<|0<=to/\to<8/\to=0/\xa=1/\xb=1/\ld=0/\le=0)) (sF 71 Tryz.f71 [(.agg [(u8<|.ofNat 8),(i6 to),(u8<|oa),(i6 na),(.ab Na 0 La),(u8<|ob),(i6 nb),(.ab Nb 0 Lb),(.ab Nd 0 ld),(.ab Ne 0 le)]),(i6 z)])<|aj aq 270:=wS mc (.st 3<|.rg<|.go 2<|.kn (.agg [(.bool true),(.bool false),(.bool true),(.bool false),(.bool false),(.bool false)])<|.go 2<|.en<|.st 8<|.rg<|.go 2<|.fk (.go 16<|.en<|.rt 4 .no)<|.go 3<|.fk (.go 12<|.en<|.rt 4 .no)<|.go 8<|.fk (.go 3<|.en<|.rt 4 .no)<|.go 3<|.en<|.st 4<|.rg<|.go 5<|.il<|.st 7<|.rg<|.go 2<|.kp (xa=1) inferInstance (.go 1<|.en<|.rt 1<|.go 6<|.il<|.st 8<|.rg<|.go 1<|.kp (xb=1) inferInstance (.go 1<|.en<|.rt 1<|.go 8<|.fk (.go 9<|.fk (.go 3<|.en<|.rt 1 .no)<|.go 3<|.en<|.rt 1 .no)<|.go 13<|.en<|.rt 1 .no)<|.go 1<|.en<|.rt 1<|.go 22<|.en<|.rt 1 .no)<|.go 1<|.en<|.rt 1<|.go 29<|.en<|.rt 1 .no)<|ai (afE) R2
end AG
end
section
open Go Go.Rn Go.RowKit Go.Proofs
namespace Cs
open cr cS dj dA fT fc gK dL u6 F7 wA yu jq n9 nV qR AG
variable {e:Ex}
def uI(asked:Bool)(e:Ex)(z:Int):Bool:=match asked with
 |true=>Mh e z
 |false=>decide<|EV e
def A8(l:List Bool)(to:Int)(a b:Ex)(body el:List St)(z:Int):Bool:=match l with
 |[is,t,fa,fb,bo,ot]=>is&&(decide (0<=to/\to<8)&&((t||decide (to=0))&&(uI fa a z&&(uI fb b z&&((bo||decide (body.length=0))&&(ot||decide (el.length=0)))))))
 |_=>false
def mT:St->Int->Bool
 | .mk kind to a b body el,z=>A8 (qy kind) to a b body el z
def A9(args:List AV)(v:AV):Prop:=∃(s:St) (z:Int),args=[.agg<|a9 s,.int .i64 z]/\(0<=iR s/\iR s<256)/\v= .bool (mT s z)
theorem A9.bR(args:List AV)(v v':AV)(h:A9 args v)(h':A9 args v'):v=v':=by obtain⟨e,z,rfl,_,rfl⟩:=h;obtain⟨e',z',h1,_,rfl⟩:=h';simp only[List.cons.injEq,AV.agg.injEq,AV.int.injEq,true_and,_root_.and_true] at h1;rw[Of _ _ h1.1,h1.2]
noncomputable def lS:FuncId×KE:=(71,.val<|ba A9)
theorem aho{z:Int}:bp (ba o9) [.agg<|aM e,.int .i64 z]=some (.bool<|decide<|bit (Mh e z)=1):=by rw[xQ];exact fu (ff o9.bR ⟨e,z,rfl,rfl⟩) sr rfl
theorem afF:bp (ba ny) [.agg<|aM e]=some (.bool<|decide<|bit (decide<|EV e)=1):=by rw[xQ];exact fu (ff ny.bR ⟨e,rfl,rfl⟩) sr rfl
theorem ahp{fa:Bool}{z:Int}:match fa with
 |true=>bp (ba o9) [.agg<|aM e,.int .i64 z]=some (.bool<|decide<|bit (uI fa e z)=1)
 |false=>bp (ba ny) [.agg<|aM e]=some (.bool<|decide<|bit (uI fa e z)=1):=by
 cases fa
 ·exact afF
 ·exact aho
theorem ahq(hP:bB pg){L:bU}(h:aV L):aV<|lS::L:=by
 refine g9 hP h (aha hP<|ad3 hP<|ad0 hP cO) Tryz.func71 fun args v e=>?_;obtain⟨⟨kind,to,⟨oa,na,la⟩,⟨ob,nb,lb⟩,bd,el⟩,z,rfl,hk,rfl⟩:=gf e;have hk:0<=kind/\kind<256:=hk;refine⟨aL.1 aY,fun B mc=>?_⟩;rw[←gN];have fit:∀(fa:Bool) (op n:Int) (l:List Ex),match fa with
  |true=>bp (ba o9) [.agg [.int .u8 op,.int .i64 n,.ab (nm<|dy l) 0 l.length],.int .i64 z]=some (.bool<|decide<|bit (uI fa (.mk op n l) z)=1)
  |false=>bp (ba ny) [.agg [.int .u8 op,.int .i64 n,.ab (nm<|dy l) 0 l.length]]=some (.bool<|decide<|bit (uI fa (.mk op n l) z)=1):=fun fa op n l=>by
  have:=ahp (fa:=fa) (e:=.mk op n l) (z:=z);rw[aM] at this;exact this
 have bool:∀(t bo ot A B:Bool),(true&&(decide (0<=to/\to<8)&&((t||decide (to=0))&&(A&&(B&&((bo||decide (bd.length=0))&&(ot||decide (el.length=0))))))))=true↔(0<=to/\to<8)/\(t=true\/to=0)/\bit A=1/\bit B=1/\(bo=true\/bd.length=0)/\(ot=true\/el.length=0):=fun t bo ot A B=>by simp only[Bool.true_and,Bool.and_eq_true,Bool.or_eq_true,decide_eq_true_eq,Ft]
 rw[a9,aM,aM];by_cases hb:1<=kind/\kind<=8
 ·have hs:∀(t fa fb bo ot:Bool),qy kind=[true,t,fa,fb,bo,ot]->∀(Q:Prop) [Decidable Q],(Q↔(0<=to/\to<8)/\(t=true\/to=0)/\bit (uI fa (.mk oa na la) z)=1/\bit (uI fb (.mk ob nb lb) z)=1/\(bo=true\/bd.length=0)/\(ot=true\/el.length=0))->
   mT (.mk kind to (.mk oa na la) (.mk ob nb lb) bd el) z=decide Q:=fun t fa fb bo ot e Q _ hq=>by
   show A8 (qy kind) to _ _ bd el z=_;rw[e,Bool.eq_iff_iff,decide_eq_true_eq,hq];exact bool t bo ot _ _
  have done:∀(t fa fb bo ot:Bool),qy kind=[true,t,fa,fb,bo,ot]->∀(Q:Prop) [Decidable Q] {l:List AV} {K:List ResultVar} {nt:Nat} {ZG:List Item},(Q↔(0<=to/\to<8)/\(t=true\/to=0)/\bit (uI fa (.mk oa na la) z)=1/\bit (uI fb (.mk ob nb lb) z)=1/\(bo=true\/bd.length=0)/\(ot=true\/el.length=0))->
   av pg B 270 (Fin pg K fun y _=>y= .bool (decide Q)) ⟨71,dZ l,nt,ZG,[],none⟩ (aj aq 270)->av pg B 270 (Fin pg K fun y _=>y= .bool (mT (.mk kind to (.mk oa na la) (.mk ob nb lb) bd el) z)) ⟨71,dZ l,nt,ZG,[],none⟩ (aj aq 270):=fun t fa fb bo ot e Q _ _ _ _ _ hq key=>by
   rw[hs t fa fb bo ot e Q hq];exact key
  obtain rfl|rfl|rfl|rfl|rfl|rfl|rfl|rfl:kind=1\/kind=2\/kind=3\/kind=4\/kind=5\/kind=6\/kind=7\/kind=8:=by omega
  ·have key:=aiw (to:=to) (z:=z) (Nd:=nm<|bC bd) (Ne:=nm<|bC el) (ld:=bd.length) (le:=el.length) mc (fit true oa na la)<|fit false ob nb lb;exact done true true false false false rfl _ AB key
  ·have key:=aix (to:=to) (z:=z) (Nd:=nm<|bC bd) (Ne:=nm<|bC el) (ld:=bd.length) (le:=el.length) mc (fit true oa na la)<|fit false ob nb lb;exact done true true false false false rfl _ AB key
  ·have key:=aiy (to:=to) (z:=z) (Nd:=nm<|bC bd) (Ne:=nm<|bC el) (ld:=bd.length) (le:=el.length) mc (fit true oa na la)<|fit true ob nb lb;exact done false true true false false rfl _ AB key
  ·have key:=aiz (to:=to) (z:=z) (Nd:=nm<|bC bd) (Ne:=nm<|bC el) (ld:=bd.length) (le:=el.length) mc (fit true oa na la)<|fit false ob nb lb;exact done false true false true true rfl _ AB key
  ·have key:=aiA (to:=to) (z:=z) (Nd:=nm<|bC bd) (Ne:=nm<|bC el) (ld:=bd.length) (le:=el.length) mc (fit true oa na la)<|fit false ob nb lb;exact done false true false true false rfl _ AB key
  ·have key:=aiB (to:=to) (z:=z) (Nd:=nm<|bC bd) (Ne:=nm<|bC el) (ld:=bd.length) (le:=el.length) mc (fit false oa na la)<|fit false ob nb lb;exact done false false false false false rfl _ AB key
  ·have key:=aiC (to:=to) (z:=z) (Nd:=nm<|bC bd) (Ne:=nm<|bC el) (ld:=bd.length) (le:=el.length) mc (fit false oa na la)<|fit false ob nb lb;exact done false false false true true rfl _ AB key
  ·have key:=aiD (to:=to) (z:=z) (Nd:=nm<|bC bd) (Ne:=nm<|bC el) (ld:=bd.length) (le:=el.length) mc (fit true oa na la)<|fit false ob nb lb;exact done false true false false false rfl _ AB key
 ·have e0:qy kind=[false,false,false,false,false,false]:=by
   by_cases h9:9<=kind
   ·unfold qy;rw[List.getD_eq_getElem?_getD,List.getElem?_eq_none (show MH.length<=kind.toNat by show 9<=kind.toNat;omega)];rfl
   ·obtain rfl:kind=0:=by omega
    rfl
  have ho:bp (ba ku) [.int .u8 kind]=some (.agg [.bool false,.bool false,.bool false,.bool false,.bool false,.bool false]):=by have:=fu (ff ku.bR ⟨kind,rfl,hk.1,hk.2,rfl⟩:ba ku [.int .u8 kind]=_) rfl (by unfold w7;rw[e0];rfl);rw[this];unfold w7;rw[e0];rfl
  have key:=aiv (to:=to) (z:=z) (xa:=0) (xb:=0) (Na:=nm<|dy la) (La:=la.length) (oa:=oa) (na:=na) (Nb:=nm<|dy lb) (Lb:=lb.length) (ob:=ob) (nb:=nb) (Nd:=nm<|bC bd) (Ne:=nm<|bC el) (ld:=bd.length) (le:=el.length) mc ho;rw[show mT (.mk kind to (.mk oa na la) (.mk ob nb lb) bd el) z=decide False from by show A8 (qy kind) to _ _ bd el z=_;rw[e0];rfl];exact key
end Cs
end
section
open Go Go.Rn Go.RowKit Go.Proofs
namespace yN
open cr cS dj dA fc gK jq dL u6 n9 nV uH qR Cs
variable {rd:mQ} {k N L ld Ne Nd Nb Na Lb La:Nat} {c2 c1 to ob oa na kd:Int} {p:fE} {B:aJ} {P:Prop}
noncomputable section
def Ba:Code:=aW pg 41 [1,1,1,0,1,0,0]
def xc:Code:=aW pg 41 [1,1,1,0,1,0,1]
def KM:Cb:=⟨41,42,[31],Ba,xc,3,4⟩
def ZH(v1 v2:AV)(c:List AV):AS:=⟨((sE KM v1 v2 c).h.put 275<|some<|.cells 10 (Tr.fill c 0 .nil) []).put 270<|some<|.loop .busy none 41 (aP [(3,.ptr<|some (272,0)),(4,.ptr<|some (273,0))]) 42 [31] Ba xc 271,276,0,[],[]⟩
noncomputable abbrev jD(kd to oa na:Int)(Na La:Nat)(ob nb:Int)(Nb Lb Nd ld Ne le:Nat):List AV:=[(u8<|kd),(i6 to),(u8<|oa),(i6 na),(.ab Na 0 La),(u8<|ob),(i6 nb),(.ab Nb 0 Lb),(.ab Nd 0 ld),(.ab Ne 0 le)]
theorem acQ{le:Nat}{nb:Int}{n:Int}(hs:bp (ba A9) [.agg<|jD kd to oa na Na La ob nb Nb Lb Nd ld Ne le,.int .i64 n]=some (.bool true)):bg pg (sp<|dk KM rd k::[lS,jC 60,jE 60,lO 60 60]) FU 6 (.round 270) [.agg<|jD kd to oa na Na La ob nb Nb Lb Nd ld Ne le] (sE KM (i6 n) (.bool false)<|jD kd to oa na Na La ob nb Nb Lb Nd ld Ne le)= .ok (.bool true) (sA KM none (.int .i64 n) (.bool false) (jD kd to oa na Na La ob nb Nb Lb Nd ld Ne le)<|some<|.cells 10 (Tr.fill (jD kd to oa na Na La ob nb Nb Lb Nd ld Ne le) 0 .nil) []):=DN (st:=.ready) (bS:=none) (fn:=41) (nt:=42) (d:=271) (t:=(aP [(3,.ptr<|some (272,0)),(4,.ptr<|some (273,0))])) (ps:=[31]) (a:=Ba) (b:=xc) (s0:=sE KM (i6 n) (.bool false)<|jD kd to oa na Na La ob nb Nb Lb Nd ld Ne le) cC rfl<|Chunk.ev 2 ⟨41,je [31] [.agg<|jD kd to oa na Na La ob nb Nb Lb Nd ld Ne le]<|aP [(3,.ptr<|some (272,0)),(4,.ptr<|some (273,0))],42,[.code Ba,.beginRound,.code xc],[],some 270⟩ ⟨41,((je [31] [.agg<|jD kd to oa na Na La ob nb Nb Lb Nd ld Ne le]<|aP [(3,.ptr<|some (272,0)),(4,.ptr<|some (273,0))]).put 7<|some<|.ptr<|some (275,0)),42,[.code xc],[],some 270⟩ _ (ZH (i6 n) (.bool false)<|jD kd to oa na Na La ob nb Nb Lb Nd ld Ne le) cC<|zG (E:=fp<|dk KM rd k::[lS,jC 60,jE 60,lO 60 60]) (C:=(fun fr s1 _=>fr.round=none/\fr.defers=[]/\zN pg (bg pg (sp<|dk KM rd k::[lS,jC 60,jE 60,lO 60 60]) FU 5) 270 fr s1=some ((.bool true),(sA KM none (.int .i64 n) (.bool false) (jD kd to oa na Na La ob nb Nb Lb Nd ld Ne le)<|some<|.cells 10 (Tr.fill (jD kd to oa na Na La ob nb Nb Lb Nd ld Ne le) 0 .nil) [])))) eH rfl (fun fr s p h=>DM h.1 h.2.1 h.2.2) 900 (.st 2<|.rg<|.go 2<|.kn (.bool true)<|.go 1<|.en<|.st 3<|.cut .no)<|ai hs<|IM (.bool true)<|sA KM none (.int .i64 n) (.bool false) (jD kd to oa na Na La ob nb Nb Lb Nd ld Ne le)<|some<|.cells 10 (Tr.fill (jD kd to oa na Na La ob nb Nb Lb Nd ld Ne le) 0 .nil) []
theorem abX{le:Nat}{nb:Int}{n:Int}(hs:bp (ba A9) [.agg<|jD kd to oa na Na La ob nb Nb Lb Nd ld Ne le,.int .i64 n]=some (.bool false)):bg pg (sp<|dk KM rd k::[lS,jC 60,jE 60,lO 60 60]) FU 6 (.round 270) [.agg<|jD kd to oa na Na La ob nb Nb Lb Nd ld Ne le] (sE KM (i6 n) (.bool false)<|jD kd to oa na Na La ob nb Nb Lb Nd ld Ne le)= .ok (.bool false) (sA KM (some .ret) (.int .i64 n) (.bool false) (jD kd to oa na Na La ob nb Nb Lb Nd ld Ne le)<|some<|.cells 10 (Tr.fill (jD kd to oa na Na La ob nb Nb Lb Nd ld Ne le) 0 .nil) []):=DN (st:=.ready) (bS:=none) (fn:=41) (nt:=42) (d:=271) (t:=(aP [(3,.ptr<|some (272,0)),(4,.ptr<|some (273,0))])) (ps:=[31]) (a:=Ba) (b:=xc) (s0:=sE KM (i6 n) (.bool false)<|jD kd to oa na Na La ob nb Nb Lb Nd ld Ne le) cC rfl<|Chunk.ev 2 ⟨41,je [31] [.agg<|jD kd to oa na Na La ob nb Nb Lb Nd ld Ne le]<|aP [(3,.ptr<|some (272,0)),(4,.ptr<|some (273,0))],42,[.code Ba,.beginRound,.code xc],[],some 270⟩ ⟨41,((je [31] [.agg<|jD kd to oa na Na La ob nb Nb Lb Nd ld Ne le]<|aP [(3,.ptr<|some (272,0)),(4,.ptr<|some (273,0))]).put 7<|some<|.ptr<|some (275,0)),42,[.code xc],[],some 270⟩ _ (ZH (i6 n) (.bool false)<|jD kd to oa na Na La ob nb Nb Lb Nd ld Ne le) cC<|zG (E:=fp<|dk KM rd k::[lS,jC 60,jE 60,lO 60 60]) (C:=(fun fr s1 _=>fr.round=none/\fr.defers=[]/\zN pg (bg pg (sp<|dk KM rd k::[lS,jC 60,jE 60,lO 60 60]) FU 5) 270 fr s1=some ((.bool false),(sA KM (some .ret) (.int .i64 n) (.bool false) (jD kd to oa na Na La ob nb Nb Lb Nd ld Ne le)<|some<|.cells 10 (Tr.fill (jD kd to oa na Na La ob nb Nb Lb Nd ld Ne le) 0 .nil) [])))) eH rfl (fun fr s p h=>DM h.1 h.2.1 h.2.2) 900 (.st 2<|.rg<|.go 2<|.kn (.bool false)<|.go 1<|.en<|.st 3<|.cut .no)<|ai hs<|IM (.bool false)<|sA KM (some .ret) (.int .i64 n) (.bool false) (jD kd to oa na Na La ob nb Nb Lb Nd ld Ne le)<|some<|.cells 10 (Tr.fill (jD kd to oa na Na La ob nb Nb Lb Nd ld Ne le) 0 .nil) []
def xd(N L:Nat)(c1 c2:Int):List<|Nat×AV:=[(3,(.ptr<|some (270,0))),(4,(.ptr<|some (271,0))),(5,(i6 c1)),(6,(i6 c2)),(30,(.func (.func 90) [] [(.ptr<|some (272,0))]))]
def tf(v1 v2:AV)(N L:Nat):List<|Nat×Option ae:=aq++[(270,some<|eO v1),(271,some<|eO v2),(272,(some<|.cells 1 (Tr.fill [(.ab N 0 L)] 0 .nil) []))]
def zp(v1 v2:AV)(N L:Nat)(c1 c2:Int):AS:=aj (tf v1 v2 N L++[(273,some .defs),(274,some<|.loop .ready none 41 (aP<|xd N L c1 c2) 42 KM.ps Ba xc 273)]) 275
def tg(p:fE)(N L:Nat):AS:=aj (tf p.v1 p.v2 N L++[(273,some .defs),(274,some<|Cb.loop KM p.bS 270 271 273)]) 275
def IN(p:fE)(N L:Nat):AS:=aj (tf p.v1 p.v2 N L++[(273,some .defs),(274,some<|.loop .exhausted p.bS KM.fn (aP [(KM.s1,.ptr<|some (270,0)),(KM.s2,.ptr<|some (271,0))]) KM.nt KM.ps KM.a KM.b 273)]) 275
theorem aiE{L0:bU}{v1 v2:AV}{l:List St}(hN:N=nm (bC l))(hl:L=l.length)(o1:okB v1)(o2:okB v2)(h:fK rd k l v1 v2=some p)(o3:okB p.v1/\okB p.v2):
 bg pg (sp<|dk KM rd k::L0) FU 5 (.fn 91) [.ab N 0 L,.yield 274] (zp v1 v2 N L c1 c2)= .ok (.bool p.ret) (tg p N L):=by
 subst hN;subst hl;have uY:sp (dk KM rd k::L0) 91=some (rB KM (Aj rd k) 270 eB dV):=by kernel_rfl
 have I:Mb KM (zp v1 v2 (nm<|bC l) l.length c1 c2) 274 273 270 271 v1 v2:=by
  refine⟨rfl,(aL.1 aY:275<=top),⟨by show 274<275;omega,by show 273<275;omega,by show 270<275;omega,by show 271<275;omega⟩,⟨by omega,by omega,by omega,by omega,by omega,by omega⟩,⟨aP<|xd (nm<|bC l) l.length c1 c2,?_,?_,?_⟩,?_,⟨eO v1,?_,xw _⟩,⟨eO v2,?_,xw _⟩⟩
  all_goals (as_aux_lemma=>kernel_rfl)
 have key:=Pq (P:=pg) (F:=FU) (n:=4) uY (uf l) cC I ((Oo o1 o2).trans h) o1 o2 o3.1 o3.2;rw[show MD KM (zp v1 v2 (nm<|bC l) l.length c1 c2) 274 273 270 271 p=tg p (nm<|bC l) l.length from by as_aux_lemma=>kernel_rfl] at key;exact key
theorem akm{v1 v2:AV}(hE:bg pg (sp<|dk KM rd k::[lS,jC 60,jE 60,lO 60 60]) FU 5 (.fn 91) [.ab N 0 L,.yield 274] (zp v1 v2 N L c1 c2)= .ok (.bool p.ret) (tg p N L)):mP (fp<|dk KM rd k::[lS,jC 60,jE 60,lO 60 60]) 5 (aA Tryz.f90) (fun v s=>v= .tuple []/\s=(tg p N L)) (sF 90 Tryz.f90 [.yield 274,.ptr<|some (272,0)])<|zp v1 v2 N L c1 c2:=v8 (C:=fun _ _ _=>False) eH rfl (fun _ _ _ h=>h.elim) 900 (.rg<|.go 2<|.cu (.bool p.ret) (tg p N L)<|.en<|.rt 1 .no)<|ai hE (show(AV.tuple []=AV.tuple []/\(tg p N L)=(tg p N L)) from⟨rfl,rfl⟩)
theorem alM{v1 v2:AV}(hE:bg pg (sp<|dk KM rd k::[lS,jC 60,jE 60,lO 60 60]) FU 5 (.fn 91) [.ab N 0 L,.yield 274] (zp v1 v2 N L c1 c2)= .ok (.bool p.ret) (tg p N L)):bg pg (sp<|dk KM rd k::[lS,jC 60,jE 60,lO 60 60]) FU 6 (.fn 90) [.yield 274,.ptr<|some (272,0)] (zp v1 v2 N L c1 c2)= .ok (.tuple []) (tg p N L):=by obtain⟨v,s2,h1,rfl,rfl⟩:=mP.call (E:=fp<|dk KM rd k::[lS,jC 60,jE 60,lO 60 60]) (n:=5) Tryz.func90 (xF Tryz.func90 cC)<|akm (v1:=v1) (v2:=v2) hE;exact h1
theorem aiF:aW pg 41 [1,1,1,0,1,0]= .rangeFunc (.tmp 30) #[31] Ba xc:=by kernel_rfl
def IP:List Item:=[.inBlock 0,.code<|aW pg 41 [1,1,1,1]]
def Fv(N L:Nat)(c1 c2:Int):AF:=⟨41,aP<|xd N L c1 c2,42,.code (aW pg 41 [1,1,1,0,1,0])::IP,[],none⟩
theorem aiG:lf 274 (tg p N L)= .ok p.bS (IN p N L):=by
 obtain⟨r,v1,v2,bS⟩:=p;cases bS with
 |none=>as_aux_lemma=>kernel_rfl
 |some c=>as_aux_lemma=>kernel_rfl
theorem rgM{v1 v2 v:AV}(mc:Mt (dk KM rd k::[lS,jC 60,jE 60,lO 60 60]) B)(hE:bg pg (sp<|dk KM rd k::[lS,jC 60,jE 60,lO 60 60]) FU 5 (.fn 91) [.ab N 0 L,.yield 274] (zp v1 v2 N L c1 c2)= .ok (.bool p.ret) (tg p N L))(H:av pg B 270 (Fin pg (aA Tryz.f41) fun y _=>y=v) ⟨41,aP<|xd N L c1 c2,42,andThen p.bS IP,[273],none⟩<|IN p N L):av pg B 270 (Fin pg (aA Tryz.f41) fun y _=>y=v) (Fv N L c1 c2)<|aj (tf v1 v2 N L) 273:=by unfold Fv;rw[aiF];exact av.chunk bT mc.2.2.1 mc.2.2.2 (GR (gv:=.func (.func 90) [] [.ptr<|some (272,0)]) (s1:=aj (tf v1 v2 N L++[(273,some .defs)]) 274) (s2:=zp v1 v2 N L c1 c2) cC cC cC (alM (rd:=rd) (k:=k) hE) (show lf 274 (tg p N L)= .ok p.bS (IN p N L) from aiG)) (by show 270<=273;omega) H
theorem akn{n:Int}(N L:Nat)(c1 c2:Int)(h:P):((xd N L c1 c2).map (fun q=>some q.2)=(xd N L c1 c2).map (fun q=>some q.2))/\((tf (.int .i64 n) (.bool false) N L).map (fun q=>q.2)=(tf (.int .i64 n) (.bool false) N L).map (fun q=>q.2))/\((Fv N L c1 c2=Fv N L c1 c2/\aj (tf (.int .i64 n) (.bool false) N L) 273=aj (tf (.int .i64 n) (.bool false) N L) 273)/\P):=⟨rfl,rfl,⟨rfl,rfl⟩,h⟩
theorem goM{n dp cs:Int}{v:AV}(mc:Mt (dk KM rd k::[lS,jC 60,jE 60,lO 60 60]) B)(hn:top<=N)(hD:bp (ba<|ue 60) [(.ab N 0 L)]=some (.int .i64 dp))(hC:bp (ba<|uy 60) [(.ab N 0 L)]=some (.int .i64 cs))(hN:bp (ba<|CM 60 60) [(.ab N 0 L)]=some (.tuple [.int .i64 c1,.int .i64 c2]))(hf:¬(0<=n/\n<6/\dp<=6/\cs<=2000)->AV.bool false=v)(H:(0<=n/\n<6/\dp<=6/\cs<=2000)->av pg B 270 (Fin pg (aA Tryz.f41) fun y _=>y=v) (Fv N L c1 c2) (aj (tf (.int .i64 n) (.bool false) N L) 273)):av pg B 270 (Fin pg (aA Tryz.f41) fun y _=>y=v) (sF 41 Tryz.f41 [(.ab N 0 L),(i6 n)])<|aj aq 270:=wC mc (C:=(fun fr s1 _=>(fr=Fv N L c1 c2/\s1=aj (tf (.int .i64 n) (.bool false) N L) 273)/\(0<=n/\n<6/\dp<=6/\cs<=2000))) (fun fr s1 p hC=>by obtain⟨⟨rfl,rfl⟩,hq⟩:=hC;exact H hq) (.st 4<|.rg<|.go 1<|.fk (.go 14<|.en<|.rt 4 .no)<|.go 2<|.fk (.go 11<|.en<|.rt 4 .no)<|.go 3<|.kn (i6 dp)<|.fk (.go 6<|.en<|.rt 4 .no)<|.go 3<|.kn (i6 cs)<|.fk (.go 1<|.en<|.rt 4 .no)<|.go 1<|.en<|.st 3<|.rg<|.go 1<|.kn (.tuple [(i6 c1),(i6 c2)])<|.go 5<|.en<|.st 2<|.rg<|.go 1<|.il<|.rt 5<|.en<|.st 1<|.ls (xd N L c1 c2) (tf (.int .i64 n) (.bool false) N L) 273 .no)<|ax (n<0) (fun _=>(show AV.bool false=v from hf ah)) fun _=>(ax (n>=6) (fun _=>(show AV.bool false=v from hf ah)) fun _=>(ai hD<|ax (dp>6) (fun _=>(show AV.bool false=v from hf ah)) fun _=>(ai hC<|ax (cs>2000) (fun _=>(show AV.bool false=v from hf ah)) fun _=>(ai hN<|akn (n:=n) N L c1 c2 (show(0<=n/\n<6/\dp<=6/\cs<=2000) from by omega)))))
theorem ako{n:Int}(mc:Mt (dk KM rd k::[lS,jC 60,jE 60,lO 60 60]) B):av pg B 270 (Fin pg (aA Tryz.f41) fun y _=>y= .bool false) ⟨41,aP<|xd N L c1 c2,42,andThen (some .ret) IP,[273],none⟩<|IN ⟨false,.int .i64 n,.bool false,some .ret⟩ N L:=(Oq (l:=273) (k:=8) (fr:=⟨41,aP<|xd N L c1 c2,42,.code .ret::IP,[],none⟩) bT mc.2.2.1 mc.2.2.2 rfl rfl cC).2.2 (by show 270<=275;omega)
theorem akp [Decidable P](h:P):(none:Option Nat)=none/\([]:List Nat)=[]/\(some (.bool true):Option AV)=some (.bool<|decide P):=⟨rfl,rfl,by rw[decide_eq_true h]⟩
theorem YD [Decidable P](h:¬P):(none:Option Nat)=none/\([]:List Nat)=[]/\(some (.bool false):Option AV)=some (.bool<|decide P):=⟨rfl,rfl,by rw[decide_eq_false h]⟩
theorem akq{n:Int}(mc:Mt (dk KM rd k::[lS,jC 60,jE 60,lO 60 60]) B):av pg B 270 (Fin pg (aA Tryz.f41) fun y _=>y= .bool (decide<|c1<=40/\c2<=300)) ⟨41,aP<|xd N L c1 c2,42,andThen none IP,[273],none⟩<|IN ⟨true,.int .i64 n,.bool false,none⟩ N L:=afu (E:=fp<|dk KM rd k::[lS,jC 60,jE 60,lO 60 60]) (C:=(fun fr s1 _=>fr.round=none/\fr.defers=[]/\Qz pg (bg pg (sp<|dk KM rd k::[lS,jC 60,jE 60,lO 60 60]) FU 6) (aA Tryz.f41) 8 273 fr s1=some (.bool<|decide<|c1<=40/\c2<=300))) eH rfl bT mc.2.2.1 mc.2.2.2 (fun fr s p h=>Oq bT mc.2.2.1 mc.2.2.2 h.1 h.2.1 h.2.2) (by show 270<=275;omega) 900 (.st 2<|.rg<|.go 1<|.fk (.go 2<|.fk (.go 2<|.en<|.cut .no)<|.go 2<|.en<|.cut .no)<|.go 5<|.en<|.cut .no)<|ax (c1<=40) (fun _=>(ax (c2<=300) (fun _=>(akp (show(c1<=40/\c2<=300) from by omega))) fun _=>(YD (show ¬(c1<=40/\c2<=300) from by omega)))) fun _=>(YD (show ¬(c1<=40/\c2<=300) from by omega))
end
end yN
end
section
open Go Go.Rn Go.RowKit Go.Proofs
namespace EW
open cr cS dj dA fc CL gK AE jq XL dL u6 n9 nV uH qR Cs yN
noncomputable section
open Classical in
def gz:mQ:=fun s v1 v2=>match v1,v2 with
 | .int .i64 n,.bool false=>if 0<=iR s/\iR s<256 then(match mT s n with
  |true=>some ⟨true,.int .i64 n,.bool false,none⟩
  |false=>some ⟨false,.int .i64 n,.bool false,some .ret⟩) else none
 |_,_=>none
abbrev pY(n:Int):fE:=⟨true,.int .i64 n,.bool false,none⟩
abbrev pN(n:Int):fE:=⟨false,.int .i64 n,.bool false,some .ret⟩
theorem Pu{s:St}{v1 v2:AV}{p:fE}(h:gz s v1 v2=some p):∃n,(v1= .int .i64 n/\v2= .bool false/\0<=iR s/\iR s<256)/\p=(if mT s n=true then pY n else pN n):=by
 unfold gz at h;split at h
 ·rename_i n;split at h
  ·rename_i q;refine⟨n,⟨rfl,rfl,q⟩,?_⟩;split at h<;>rename_i e<;>injection h with h<;>rw[e]
   ·rw[if_pos rfl];exact h.symm
   ·rw[if_neg (by intro q;cases q)];exact h.symm
  ·cases h
 ·cases h
theorem okF(b:Bool):okB<|.bool b:=⟨rfl,rfl⟩
theorem aiH{s:St}{n:Int}(h:0<=iR s/\iR s<256):bp (ba A9) [.agg<|a9 s,.int .i64 n]=some (.bool<|mT s n):=fu (ff A9.bR ⟨s,n,rfl,h,rfl⟩) (by rw[List.all_cons,show AV.hi (.agg<|a9 s)=true from List.all_eq_true.2 fun x hx=>D2<|List.all_eq_true.1 (lD.gi s) x hx];rfl) rfl
theorem akr(k:Nat):zm KM (dk KM gz k::[lS,jC 60,jE 60,lO 60 60]) gz:=by
 refine⟨aL.1 aY,aL.1 aY,(by show(3:Nat)≠4;omega),fun s v1 v2 p h _ _=>?_⟩;obtain⟨n,⟨rfl,rfl,hk⟩,rfl⟩:=Pu h;have hs:=aiH (n:=n) hk;cases e:mT s n with
 |true=>rw[e] at hs;rw[if_pos rfl];refine⟨⟨w9 _,okF _,fun _=>rfl⟩,some<|.cells 10 (Tr.fill (a9 s) 0 .nil) [],?_⟩;obtain⟨kk,to,⟨oa,xa,la⟩,⟨ob,xb,lb⟩,bd,el⟩:=s;rw[a9,aM,aM] at hs ⊢;exact acQ hs
 |false=>rw[e] at hs;rw[if_neg (by intro q;cases q)];refine⟨⟨w9 _,okF _,fun q=>by cases q⟩,some<|.cells 10 (Tr.fill (a9 s) 0 .nil) [],?_⟩;obtain⟨kk,to,⟨oa,xa,la⟩,⟨ob,xb,lb⟩,bd,el⟩:=s;rw[a9,aM,aM] at hs ⊢;exact abX hs
theorem Wc{n:Int}{ek:List St->AV->AV->Option fE}(he:∀l p,ek l (.int .i64 n) (.bool false)=some p->p=pY n\/p=pN n):∀l p,kV ek gz l (.int .i64 n) (.bool false)=some p->p=pY n\/p=pN n
 |[],p,h=>by
  have h:some (pY n)=some p:=h;injection h with h
  exact .inl h.symm
 |s::r,p,h=>by
  unfold kV at h;split at h
  ·cases h
  rename_i q e;obtain⟨n',⟨fC,_⟩,hq⟩:=Pu e;injection fC with _ fC
  subst fC;cases hs:mT s n with
  |false=>rw[hs,if_neg (by intro q;cases q)] at hq;subst hq;injection h with h;exact .inr h.symm
  |true=>
   rw[hs,if_pos rfl] at hq;subst hq;have h:(match ek (ct s) (.int .i64 n) (.bool false) with
    |none=>none
    |some q=>match q.ret with
     |false=>some q
     |true=>match ek (cm s) q.v1 q.v2 with
      |none=>none
      |some u=>match u.ret with
       |false=>some u
       |true=>kV ek gz r u.v1 u.v2)=some p:=h
   split at h
   ·cases h
   rename_i q2 e2;rcases he _ _ e2 with rfl|rfl
   ·have h:(match ek (cm s) (.int .i64 n) (.bool false) with
     |none=>none
     |some u=>match u.ret with
      |false=>some u
      |true=>kV ek gz r u.v1 u.v2)=some p:=h
    split at h
    ·cases h
    rename_i q3 e3;rcases he _ _ e3 with rfl|rfl
    ·exact Wc he r p h
    ·injection h with h;exact .inr h.symm
   ·injection h with h;exact .inr h.symm
theorem Bs{n:Int}:∀k l p,fK gz k l (.int .i64 n) (.bool false)=some p->p=pY n\/p=pN n
 |0,_,_,h=>by cases h
 |k+1,l,p,h=>by
  unfold fK at h;split at h
  ·exact Wc (Bs k) l p h
  ·cases h
def AH(l:List St)(n:Int)(b:Bool):Prop:=∃(c1 c2:Int) (p:fE),fK (py 60) 60 l (.int .i64 0) (.int .i64 0)=some ⟨true,.int .i64 c1,.int .i64 c2,none⟩/\fK gz 60 l (.int .i64 n) (.bool false)=some p/\b=(decide (0<=n/\n<6/\fw 60 l<=6/\sc 60 l<=2000)&&(p.ret&&decide (c1<=40/\c2<=300)))
def Ak(args:List AV)(v:AV):Prop:=∃(l:List St) (n:Int) (b:Bool),args=[.ab (nm<|bC l) 0 l.length,.int .i64 n]/\sb 60 l=true/\ll 60 l=true/\AH l n b/\v= .bool b
theorem Ak.bR(args:List AV)(v v':AV)(h:Ak args v)(h':Ak args v'):v=v':=by
 obtain⟨l,n,b,rfl,_,_,⟨c1,c2,p,a1,a2,a3⟩,rfl⟩:=h;obtain⟨l',n',b',h1,_,_,⟨c1',c2',p',b1,b2,b3⟩,rfl⟩:=h';simp only[List.cons.injEq,AV.ab.injEq,AV.int.injEq,true_and,_root_.and_true] at h1;have e:l=l':=tH _ _<|tZ (lU _) (lU _) h1.1.1;obtain rfl:=e;obtain rfl:=h1.2;rw[a1] at b1;injection b1 with b1;injection b1 with _ q1 q2 _
 injection q1 with _ q1;injection q2 with _ q2
 rw[a2] at b2;injection b2 with b2
 rw[a3,b3,q1,q2,b2]
def Fw:FuncId×KE:=(41,.val<|ba Ak)
theorem afG(hP:bB pg){L:bU}(h:aV L):aV<|Fw::L:=by
 have h0:aV [lS,jC 60,jE 60,lO 60 60]:=ahq hP<|Ut hP 60<|Ve hP 60<|afw hP 60 60 cO;refine g9 hP h (BE hP akr h0 60 h0) Tryz.func41 fun args v e=>?_;obtain⟨l,n,b,rfl,hd,hc,⟨c1,c2,p,e1,e2,hb⟩,rfl⟩:=gf e;refine⟨aL.1 aY,fun B mc=>?_⟩;rw[←gN];have hi:[AV.ab (nm<|bC l) 0 l.length].all AV.hi=true:=by rw[List.all_cons,uf];rfl
 have hD:=fu (ff ue.bR ⟨l,rfl,hd,by omega,rfl⟩:ba (ue 60) [.ab (nm<|bC l) 0 l.length]=_) hi rfl;have hC:=fu (ff uy.bR ⟨l,rfl,hc,rfl⟩:ba (uy 60) [.ab (nm<|bC l) 0 l.length]=_) hi rfl;have hN:=fu (ff CM.bR ⟨l,_,rfl,e1,rfl⟩:ba (CM 60 60) [.ab (nm<|bC l) 0 l.length]=_) hi rfl;refine goM (rd:=gz) (k:=60) mc (cU _) hD hC hN (fun hq=>?_) fun hq=>?_
 ·rw[hb,decide_eq_false hq];rfl
 ·have ok:okB p.v1/\okB p.v2:=by rcases Bs 60 l p e2 with rfl|rfl<;>exact⟨w9 _,okF _⟩
  refine rgM (rd:=gz) (k:=60) (p:=p) mc (aiE (c1:=c1) (c2:=c2) rfl rfl (w9 _) (okF _) e2 ok) ?_;rw[hb,decide_eq_true hq];rcases Bs 60 l p e2 with rfl|rfl
  ·exact akq mc
  ·exact ako mc
end
end EW
end
section
open Go Go.Rn Go.RowKit Go.Proofs
namespace fQ
open cr
variable {α:Type} {bF j K:Nat} {enc:α->List AV} {cap:cM}
theorem Gd(enc:α->List AV)(l L:List α){j8 n o len:Nat}{X:Prop}(hf:top<=n/\cx FU n o (len*K)=some (L.map enc).flatten/\len=L.length)(h1:∀x,(enc x).length=K/\(enc x).all AV.cj=true)(h2:2*(l.length+L.length)*j8+4096*j8<=room)(h3:(l.length+L.length)*K<=Rn.top)(x:X):
 l.length=l.length/\some (aI enc l)=some (aI enc l)/\top<=n/\cx FU n o (len*K)=some (L.map enc).flatten/\len=L.length/\(∀x,(enc x).length=K/\(enc x).all AV.cj=true)/\2*(l.length+L.length)*j8+4096*j8<=room/\(l.length+L.length)*K<=Rn.top/\X:=
 ⟨rfl,rfl,hf.1,hf.2.1,hf.2.2,h1,h2,h3,x⟩
def CN(bF k:Nat):Nat:=if k<270\/top<=k then k else max k bF
theorem JS{k:Nat}(h:top<=k):CN bF k=k:=if_pos<|.inr h
theorem PU(he:me K enc)(l:List α){n:Nat}(hc:(match cap with| .known c=>Nat.ble l.length c| .ar _ _=>true| .lost=>false)=true)(hl:l.length*K<=top)(hj:j<top)(hn:n<top)(hs:bF<top):gY FU 270 bF [(j,.slice (some (n,0)) l.length cap)] [(n,some<|aI enc l)] [(j,aD enc l)] [] 270:=by
 refine⟨[(n,nm (l.map enc).flatten,(l.map enc).flatten)],CN bF,fun k hk=>if_pos<|.inl hk,fun k h1 h2=>?_,fun k hk=>JS hk,by unfold top;decide,fun p hp=>?_,fun p hp=>nZ,fun p hp=>nZ,fun p hp=>?_,fun p _ q hq=>(by cases hq)⟩
 ·unfold CN;rw[if_neg ah];omega
 ·rw[List.mem_singleton] at hp;subst hp;exact⟨hj,_,List.mem_singleton.2 rfl,GY (List.mem_singleton.2 rfl) (fun k hk=>JS hk) hc⟩
 ·rw[List.mem_singleton] at hp;subst hp;exact GZ he hl n hn<|List.mem_singleton.2 rfl
theorem PV(hj:j<top)(hs:bF<top):gY FU 270 bF [(j,.slice none 0<|.known 0)] [] [(j,aD enc [])] [] 270:=by
 refine⟨[],CN bF,fun k hk=>if_pos<|.inl hk,fun k h1 h2=>?_,fun k hk=>JS hk,by unfold top;decide,fun p hp=>?_,fun p hp=>nZ,fun p hp=>nZ,fun p hp=>nZ,fun p hp=>nZ⟩
 ·unfold CN;rw[if_neg ah];omega
 ·rw[List.mem_singleton] at hp;subst hp;exact⟨hj,_,List.mem_singleton.2 rfl,J9⟩
theorem Vh{n:Nat}(hj:j<top)(hs:bF<top):gY FU 270 bF [(j,.slice (some (n,0)) 0 cap)] [] [(j,aD enc [])] [] 270:=by
 refine⟨[],CN bF,fun k hk=>if_pos<|.inl hk,fun k h1 h2=>?_,fun k hk=>JS hk,by unfold top;decide,fun p hp=>?_,fun p hp=>nZ,fun p hp=>nZ,fun p hp=>nZ,fun p hp=>nZ⟩
 ·unfold CN;rw[if_neg ah];omega
 ·rw[List.mem_singleton] at hp;subst hp;exact⟨hj,_,List.mem_singleton.2 rfl,acD⟩
end fQ
end
section
open Go Go.Rn Go.RowKit Go.Proofs
namespace yO
open cr cS dj dA dL fQ
variable {B:aJ} {N:Nat} {L:bU}
noncomputable section
theorem xe(v:AV):v=v:=rfl
theorem Uy(x:Ex):(aM x).all AV.cj=true:=by cases x;rw[aM];rfl
theorem aiI:(([(2,(.slice none 0<|.known 0))]:List<|Nat×AV).map (fun q=>some q.2)=([(2,(.slice none 0<|.known 0))]:List<|Nat×AV).map (fun q=>some q.2))/\(([]:List<|Nat×Option ae).map (fun q=>q.2)=([]:List<|Nat×Option ae).map (fun q=>q.2))/\gY FU 270 270 [(2,(.slice none 0<|.known 0))] [] [(2,aD aG ([]:List Int))] [] 270/\((⟨22,aP [(2,aD aG ([]:List Int))],max Tryz.f22.ntmps 1,[.code<|aW pg 22 [1,0,1,0,1],.code<|aW pg 22 [1,1]],[],none⟩:AF)=⟨22,aP [(2,aD aG ([]:List Int))],max Tryz.f22.ntmps 1,[.code<|aW pg 22 [1,0,1,0,1],.code<|aW pg 22 [1,1]],[],none⟩/\aj [] 270=aj [] 270):=⟨rfl,rfl,(PV (enc:=aG) (j:=2) (bF:=270) eX eX),rfl,rfl⟩
theorem aiJ(mc:Mt [] B):av pg B 270 (Fin pg (aA Tryz.f22) fun y _=>y=(aD aG ([]:List Int))) ⟨22,aP [(2,aD aG ([]:List Int))],max Tryz.f22.ntmps 1,[.code<|aW pg 22 [1,0,1,0,1],.code<|aW pg 22 [1,1]],[],none⟩<|aj [] 270:=wS mc (.rt 1 .no)<|xe<|aD aG ([]:List Int)
theorem go_In(mc:Mt [] B):av pg B 270 (Fin pg (aA Tryz.f22) fun y _=>y=(aD aG ([]:List Int))) (sF 22 Tryz.f22 [(.ab top 0 0)])<|aj aq 270:=wC mc (C:=(fun fr s1 _=>fr=⟨22,aP [(2,aD aG ([]:List Int))],max Tryz.f22.ntmps 1,[.code<|aW pg 22 [1,0,1,0,1],.code<|aW pg 22 [1,1]],[],none⟩/\s1=aj [] 270)) (fun fr s1 p hC=>by obtain⟨rfl,rfl⟩:=hC;exact aiJ mc) (.st 8<|.rn [(2,(.slice none 0<|.known 0))] [] [(2,aD aG ([]:List Int))] [] 270 270 .no)<|aiI
theorem aiL:(([(2,(.slice (some (271,0)) (0)<|.ar 0 1))]:List<|Nat×AV).map (fun q=>some q.2)=([(2,(.slice (some (271,0)) (0)<|.ar 0 1))]:List<|Nat×AV).map (fun q=>some q.2))/\(([]:List<|Nat×Option ae).map (fun q=>q.2)=([]:List<|Nat×Option ae).map (fun q=>q.2))/\gY FU 270 272 [(2,(.slice (some (271,0)) (0)<|.ar 0 1))] [] [(2,aD aG ([]:List Int))] [] 270/\((⟨22,aP [(2,aD aG ([]:List Int))],max Tryz.f22.ntmps 1,(dq 22 [1,1,1]),[],none⟩:AF)=⟨22,aP [(2,aD aG ([]:List Int))],max Tryz.f22.ntmps 1,(dq 22 [1,1,1]),[],none⟩/\aj [] 270=aj [] 270):=⟨rfl,rfl,(Vh (enc:=aG) (j:=2) (bF:=272) eX eX),rfl,rfl⟩
theorem aiM(mc:Mt [] B):av pg B 270 (Fin pg (aA Tryz.f22) fun y _=>y=(aD aG ([]:List Int))) ⟨22,aP [(2,aD aG ([]:List Int))],max Tryz.f22.ntmps 1,(dq 22 [1,1,1]),[],none⟩<|aj [] 270:=wS mc (.rt 1 .no)<|xe<|aD aG ([]:List Int)
theorem go_Ie(mc:Mt [] B):av pg B 270 (Fin pg (aA Tryz.f22) fun y _=>y=(aD aG ([]:List Int))) (sF 22 Tryz.f22 [(.ab (top+1) 0 0)])<|aj aq 270:=wC mc (C:=(fun fr s1 _=>fr=⟨22,aP [(2,aD aG ([]:List Int))],max Tryz.f22.ntmps 1,(dq 22 [1,1,1]),[],none⟩/\s1=aj [] 270)) (fun fr s1 p hC=>by obtain⟨rfl,rfl⟩:=hC;exact aiM mc) (.st 9<|.rn [(2,(.slice (some (271,0)) (0)<|.ar 0 1))] [] [(2,aD aG ([]:List Int))] [] 272 270 .no)<|aiL
noncomputable abbrev KK(l:List Int):List<|Nat×AV:=[(2,(.slice (some (271,0)) (([]++l).length)<|.ar ([]++l).length 1))]
theorem aiO(l:List Int)(hlen:l.length<=100000):(((KK l):List<|Nat×AV).map (fun q=>some q.2)=((KK l):List<|Nat×AV).map (fun q=>some q.2))/\(([(271,some<|aI aG<|[]++l)]:List<|Nat×Option ae).map (fun q=>q.2)=([(271,some<|aI aG<|[]++l)]:List<|Nat×Option ae).map (fun q=>q.2))/\gY FU 270 272 (KK l) [(271,some<|aI aG<|[]++l)] [(2,aD aG<|[]++l)] [] 270/\((⟨22,aP [(2,aD aG<|[]++l)],max Tryz.f22.ntmps 1,(dq 22 [1,1,1]),[],none⟩:AF)=⟨22,aP [(2,aD aG<|[]++l)],max Tryz.f22.ntmps 1,(dq 22 [1,1,1]),[],none⟩/\aj [] 270=aj [] 270):=⟨rfl,rfl,(PU (j:=2) (bF:=272) eI ([]++l) rfl (by rw[List.nil_append];unfold top;omega) eX eX eX),rfl,rfl⟩
theorem aiP(mc:Mt [] B)(l:List Int):av pg B 270 (Fin pg (aA Tryz.f22) fun y _=>y=(aD aG<|[]++l)) ⟨22,aP [(2,aD aG<|[]++l)],max Tryz.f22.ntmps 1,(dq 22 [1,1,1]),[],none⟩<|aj [] 270:=wS mc (.rt 1 .no)<|xe<|aD aG<|[]++l
theorem go_Im(mc:Mt [] B){l:List Int}{o m:Nat}(hlen:l.length<=100000)(hf:top<=N/\cx FU N o ((m+1)*1)=some (l.map aG).flatten/\m+1=l.length):av pg B 270 (Fin pg (aA Tryz.f22) fun y _=>y=(aD aG<|[]++l)) (sF 22 Tryz.f22 [(.ab N o<|m+1)])<|aj aq 270:=wC mc (C:=(fun fr s1 _=>fr=⟨22,aP [(2,aD aG<|[]++l)],max Tryz.f22.ntmps 1,(dq 22 [1,1,1]),[],none⟩/\s1=aj [] 270)) (fun fr s1 p hC=>by obtain⟨rfl,rfl⟩:=hC;exact aiP mc l) (.st 8<|.rg<|.go 2<|.al Int aG [] l<|.go 1<|.en<|.rn (KK l) [(271,some<|aI aG<|[]++l)] [(2,aD aG<|[]++l)] [] 272 270 .no)<|Gd aG [] l (K:=1) (j8:=8) hf (fun x=>⟨rfl,rfl⟩) Q3 Q4<|aiO l hlen
def B7(args:List AV)(v:AV):Prop:=∃(N o:Nat) (l:List Int),args=[.ab N o l.length]/\di aG 1 (.ab N o l.length) l/\l.length<=100000/\v=aD aG l
theorem B7.bR(args:List AV)(v v':AV)(h:B7 args v)(h':B7 args v'):v=v':=by
 obtain⟨N,o,l,rfl,hl,_,rfl⟩:=h;obtain⟨N',o',l',h1,nf,_,rfl⟩:=h';injection h1 with h1 _
 rw[h1] at hl;rw[hl.inj rR nf]
def Ed:FuncId×KE:=(22,.val<|ba B7)
theorem abY(hP:bB pg)(h:aV L):aV<|Ed::L:=by
 refine g9 hP h cO Tryz.func22 fun args v e=>?_;obtain⟨N,o,l,rfl,hl,hlen,rfl⟩:=gf e;refine⟨aL.1 aY,fun B mc=>?_⟩;rw[←gN];cases l with
 |nil=>
  refine av.Kd (i:=0) (n:=N) (o:=o) cC hl.len.2.1 (aL.1 aY) ?_ ?_
  ·exact go_In mc
  ·exact go_Ie mc
 |cons a l=>
  have hf:cx FU N o ((l.length+1)*1)=some ((a::l).map aG).flatten:=by
   rcases J8 eI.len hl with q|q
   ·exact q
   ·cases q
  have key:=go_Im (l:=a::l) (N:=N) (o:=o) (m:=l.length) mc hlen ⟨hl.len.2.1,hf,rfl⟩;exact key
theorem aiR:(([(2,(.slice none 0<|.known 0))]:List<|Nat×AV).map (fun q=>some q.2)=([(2,(.slice none 0<|.known 0))]:List<|Nat×AV).map (fun q=>some q.2))/\(([]:List<|Nat×Option ae).map (fun q=>q.2)=([]:List<|Nat×Option ae).map (fun q=>q.2))/\gY FU 270 270 [(2,(.slice none 0<|.known 0))] [] [(2,aD aM ([]:List Ex))] [] 270/\((⟨97,aP [(2,aD aM ([]:List Ex))],max Tryz.f97.ntmps 1,[.code<|aW pg 97 [1,0,1,0,1],.code<|aW pg 97 [1,1]],[],none⟩:AF)=⟨97,aP [(2,aD aM ([]:List Ex))],max Tryz.f97.ntmps 1,[.code<|aW pg 97 [1,0,1,0,1],.code<|aW pg 97 [1,1]],[],none⟩/\aj [] 270=aj [] 270):=⟨rfl,rfl,(PV (enc:=aM) (j:=2) (bF:=270) eX eX),rfl,rfl⟩
theorem aiS(mc:Mt [] B):av pg B 270 (Fin pg (aA Tryz.f97) fun y _=>y=(aD aM ([]:List Ex))) ⟨97,aP [(2,aD aM ([]:List Ex))],max Tryz.f97.ntmps 1,[.code<|aW pg 97 [1,0,1,0,1],.code<|aW pg 97 [1,1]],[],none⟩<|aj [] 270:=wS mc (.rt 1 .no)<|xe<|aD aM ([]:List Ex)
theorem go_En(mc:Mt [] B):av pg B 270 (Fin pg (aA Tryz.f97) fun y _=>y=(aD aM ([]:List Ex))) (sF 97 Tryz.f97 [(.ab top 0 0)])<|aj aq 270:=wC mc (C:=(fun fr s1 _=>fr=⟨97,aP [(2,aD aM ([]:List Ex))],max Tryz.f97.ntmps 1,[.code<|aW pg 97 [1,0,1,0,1],.code<|aW pg 97 [1,1]],[],none⟩/\s1=aj [] 270)) (fun fr s1 p hC=>by obtain⟨rfl,rfl⟩:=hC;exact aiS mc) (.st 8<|.rn [(2,(.slice none 0<|.known 0))] [] [(2,aD aM ([]:List Ex))] [] 270 270 .no)<|aiR
theorem aiU:(([(2,(.slice (some (271,0)) (0)<|.ar 0 3))]:List<|Nat×AV).map (fun q=>some q.2)=([(2,(.slice (some (271,0)) (0)<|.ar 0 3))]:List<|Nat×AV).map (fun q=>some q.2))/\(([]:List<|Nat×Option ae).map (fun q=>q.2)=([]:List<|Nat×Option ae).map (fun q=>q.2))/\gY FU 270 272 [(2,(.slice (some (271,0)) (0)<|.ar 0 3))] [] [(2,aD aM ([]:List Ex))] [] 270/\((⟨97,aP [(2,aD aM ([]:List Ex))],max Tryz.f97.ntmps 1,(dq 97 [1,1,1]),[],none⟩:AF)=⟨97,aP [(2,aD aM ([]:List Ex))],max Tryz.f97.ntmps 1,(dq 97 [1,1,1]),[],none⟩/\aj [] 270=aj [] 270):=⟨rfl,rfl,(Vh (enc:=aM) (j:=2) (bF:=272) eX eX),rfl,rfl⟩
theorem aiV(mc:Mt [] B):av pg B 270 (Fin pg (aA Tryz.f97) fun y _=>y=(aD aM ([]:List Ex))) ⟨97,aP [(2,aD aM ([]:List Ex))],max Tryz.f97.ntmps 1,(dq 97 [1,1,1]),[],none⟩<|aj [] 270:=wS mc (.rt 1 .no)<|xe<|aD aM ([]:List Ex)
theorem go_Ee(mc:Mt [] B):av pg B 270 (Fin pg (aA Tryz.f97) fun y _=>y=(aD aM ([]:List Ex))) (sF 97 Tryz.f97 [(.ab (top+1) 0 0)])<|aj aq 270:=wC mc (C:=(fun fr s1 _=>fr=⟨97,aP [(2,aD aM ([]:List Ex))],max Tryz.f97.ntmps 1,(dq 97 [1,1,1]),[],none⟩/\s1=aj [] 270)) (fun fr s1 p hC=>by obtain⟨rfl,rfl⟩:=hC;exact aiV mc) (.st 9<|.rn [(2,(.slice (some (271,0)) (0)<|.ar 0 3))] [] [(2,aD aM ([]:List Ex))] [] 272 270 .no)<|aiU
noncomputable abbrev KL(l:List Ex):List<|Nat×AV:=[(2,(.slice (some (271,0)) (([]++l).length)<|.ar ([]++l).length 3))]
theorem aiX(l:List Ex)(hlen:l.length<=100000):(((KL l):List<|Nat×AV).map (fun q=>some q.2)=((KL l):List<|Nat×AV).map (fun q=>some q.2))/\(([(271,some<|aI aM<|[]++l)]:List<|Nat×Option ae).map (fun q=>q.2)=([(271,some<|aI aM<|[]++l)]:List<|Nat×Option ae).map (fun q=>q.2))/\gY FU 270 272 (KL l) [(271,some<|aI aM<|[]++l)] [(2,aD aM<|[]++l)] [] 270/\((⟨97,aP [(2,aD aM<|[]++l)],max Tryz.f97.ntmps 1,(dq 97 [1,1,1]),[],none⟩:AF)=⟨97,aP [(2,aD aM<|[]++l)],max Tryz.f97.ntmps 1,(dq 97 [1,1,1]),[],none⟩/\aj [] 270=aj [] 270):=⟨rfl,rfl,(PU (j:=2) (bF:=272) kU ([]++l) rfl (by rw[List.nil_append];unfold top;omega) eX eX eX),rfl,rfl⟩
theorem aiY(mc:Mt [] B)(l:List Ex):av pg B 270 (Fin pg (aA Tryz.f97) fun y _=>y=(aD aM<|[]++l)) ⟨97,aP [(2,aD aM<|[]++l)],max Tryz.f97.ntmps 1,(dq 97 [1,1,1]),[],none⟩<|aj [] 270:=wS mc (.rt 1 .no)<|xe<|aD aM<|[]++l
theorem go_Em(mc:Mt [] B){l:List Ex}{o m:Nat}(hlen:l.length<=100000)(hf:top<=N/\cx FU N o ((m+1)*3)=some (l.map aM).flatten/\m+1=l.length):av pg B 270 (Fin pg (aA Tryz.f97) fun y _=>y=(aD aM<|[]++l)) (sF 97 Tryz.f97 [(.ab N o<|m+1)])<|aj aq 270:=wC mc (C:=(fun fr s1 _=>fr=⟨97,aP [(2,aD aM<|[]++l)],max Tryz.f97.ntmps 1,(dq 97 [1,1,1]),[],none⟩/\s1=aj [] 270)) (fun fr s1 p hC=>by obtain⟨rfl,rfl⟩:=hC;exact aiY mc l) (.st 8<|.rg<|.go 2<|.al Ex aM [] l<|.go 1<|.en<|.rn (KL l) [(271,some<|aI aM<|[]++l)] [(2,aD aM<|[]++l)] [] 272 270 .no)<|Gd aM [] l (K:=3) (j8:=40) hf (fun x=>⟨kU.len x,Uy x⟩) Q3 Q4<|aiX l hlen
def B8(args:List AV)(v:AV):Prop:=∃(N o:Nat) (l:List Ex),args=[.ab N o l.length]/\di aM 3 (.ab N o l.length) l/\l.length<=100000/\v=aD aM l
theorem B8.bR(args:List AV)(v v':AV)(h:B8 args v)(h':B8 args v'):v=v':=by
 obtain⟨N,o,l,rfl,hl,_,rfl⟩:=h;obtain⟨N',o',l',h1,nf,_,rfl⟩:=h';injection h1 with h1 _
 rw[h1] at hl;rw[hl.inj nP nf]
def Wd:FuncId×KE:=(97,.val<|ba B8)
theorem abZ(hP:bB pg)(h:aV L):aV<|Wd::L:=by
 refine g9 hP h cO Tryz.func97 fun args v e=>?_;obtain⟨N,o,l,rfl,hl,hlen,rfl⟩:=gf e;refine⟨aL.1 aY,fun B mc=>?_⟩;rw[←gN];cases l with
 |nil=>
  refine av.Kd (i:=0) (n:=N) (o:=o) cC hl.len.2.1 (aL.1 aY) ?_ ?_
  ·exact go_En mc
  ·exact go_Ee mc
 |cons a l=>
  have hf:cx FU N o ((l.length+1)*3)=some ((a::l).map aM).flatten:=by
   rcases J8 kU.len hl with q|q
   ·exact q
   ·cases q
  have key:=go_Em (l:=a::l) (N:=N) (o:=o) (m:=l.length) mc hlen ⟨hl.len.2.1,hf,rfl⟩;exact key
end
end yO
end
section
open Go Go.Rn Go.RowKit Go.Proofs
namespace Ie
open cr cS dj dA dL fQ yO wA yu
variable {k N:Nat} {bV n1 n0:Int} {l1:List Ex} {B:aJ}
theorem ahr{α:Type}{K:Nat}{enc:α->List AV}(he:me K enc)(l:List α){b n j bF:Nat}(pre post:List AV){cap:cM}(hl:l.length*K<=top)(hb:270<=b)(II:b+1<=n)(hj:j<top)(hn:n<top)(hs:bF<top)(e1:∀r:Nat->Nat,(∀k,top<=k->r k=k)->Lp r pre pre)(e2:∀r:Nat->Nat,(∀k,top<=k->r k=k)->Lp r post post)(h1:(pre++aD enc l::post).all AV.cj=true)(h2:(pre++aD enc l::post).length<=top)(hc:(match cap with| .known c=>Nat.ble l.length c| .ar _ _=>true| .lost=>false)=true):
 gY FU 270 bF [(j,.ptr<|some (b,0))] [(b,some<|.cells (pre++ .slice (some (n,0)) l.length cap::post).length (Tr.fill (pre++ .slice (some (n,0)) l.length cap::post) 0 .nil) []),(n,some<|aI enc l)] [(j,.ptr<|some (b,0))] [(b,some<|.cells (pre++aD enc l::post).length (Tr.fill (pre++aD enc l::post) 0 .nil) [])] (b+1):=by
 let r:Nat->Nat:=fun k=>if k<b+1\/top<=k then k else max k bF
 have rt:∀k,top<=k->r k=k:=fun k hk=>if_pos<|.inr hk;have rb:r b=b:=if_pos<|.inl ah;have app:∀(fz:lL) (p q p' q':List AV),mB fz r p p'->mB fz r q q'->mB fz r (p++q) (p'++q'):=by
  intro fz p;induction p with
  |nil=>intro q p' q' h1 h2;cases p' with
   |nil=>exact h2
   |cons _ _=>cases h1
  |cons a p ih=>intro q p' q' h1 h2;cases p' with
   |nil=>cases h1
   |cons a' p'=>exact⟨h1.1,ih q p' q' h1.2 h2⟩
 have ZI:∀(fz:lL) (p:List AV),Lp r p p->mB fz r p p:=by
  intro fz p;induction p with
  |nil=>intro _;trivial
  |cons a p ih=>intro h;exact⟨h.1.z,ih h.2⟩
 refine⟨[(n,nm (l.map enc).flatten,(l.map enc).flatten)],r,fun k hk=>if_pos<|.inl ah,fun k h1 h2=>?_,rt,by omega,fun p hp=>?_,fun p hp=>?_,fun p hp q hq _ _ _=>?_,fun p hp=>?_,fun p hp q hq _=>?_⟩
 ·show bF<=(if _ then _ else _)/\(if _ then _ else _)<top;rw[if_neg ah];omega
 ·rw[List.mem_singleton] at hp;subst hp;exact⟨hj,_,List.mem_singleton.2 rfl,(bz.ptr rb).z⟩
 ·rw[List.mem_singleton] at hp;subst hp;refine⟨by show b<top;omega,fun y hy=>?_⟩;cases hy;refine⟨by rw[rb];omega,rfl,_,by rw[rb];exact List.mem_cons_self,⟨fun _=>rfl,(fun e=>by cases e),fun e=>by cases e⟩,?_⟩;refine fI.cells (by simp only[List.length_append,List.length_cons] at h2 ⊢;exact h2) (app _ _ _ _ _ (ZI _ _<|e1 r rt) ⟨GY (List.mem_singleton.2 rfl) rt hc,ZI _ _<|e2 r rt⟩) h1
 ·rw[List.mem_singleton] at hp hq;subst hp;subst hq;rfl
 ·rw[List.mem_singleton] at hp;subst hp;exact GZ he hl n hn<|List.mem_cons_of_mem _ List.mem_cons_self
 ·rw[List.mem_singleton] at hp hq;subst hp;subst hq;show r b≠n;rw[rb];omega
def pz:Nat->Ex->Bool
 |0,_=>false
 |k+1,.mk op n args=>eP (k+1) (.mk op n args)||args.isEmpty
def se(k:Nat)(args:List AV)(v:AV):Prop:=∃e:Ex,args=[.agg<|aM e]/\pz k e=true/\v= .agg (aM e)
theorem se.bR(args:List AV)(v v':AV)(h:se k args v)(h':se k args v'):v=v':=by obtain⟨e,rfl,_,rfl⟩:=h;obtain⟨e',h1,_,rfl⟩:=h';injection h1 with h1 _
noncomputable def sg(k:Nat):FuncId×KE:=(73,.val<|ba<|se k)
theorem ai0{op n:Int}(mc:Mt [Wd,sg k] B)(nC:bp (ba B8) [.ab N 0 0]=some (.ab N 0 0)):av pg B 270 (Fin pg (aA Tryz.f73) fun y _=>y=(.agg [(u8<|op),(i6 n),(.ab N 0 0)])) (sF 73 Tryz.f73 [(.agg [(u8<|op),(i6 n),(.ab N 0 0)])])<|aj aq 270:=wS mc (.st 3<|.rg<|.go 2<|.kn (.ab N 0 0)<|.go 2<|.en<|.rt 13 .no)<|ai nC<|xe<|.agg [(u8<|op),(i6 n),(.ab N 0 0)]
noncomputable abbrev Ep(op n bV n0:Int)(l0:List Ex)(cN n1:Int)(l1:List Ex):List<|Nat×Option ae:=[(271,some<|.cells 3 (Tr.fill [.int .u8 op,.int .i64 n,aD aM [Ex.mk bV n0 l0,Ex.mk cN n1 l1]] 0 .nil) [])]
noncomputable abbrev KO(op n bV n0:Int)(l0:List Ex)(cN n1:Int)(l1:List Ex):List<|Nat×Option ae:=[(271,some<|.cells 3 (Tr.fill [(u8<|op),(i6 n),(.slice (some (273,0)) (2)<|.ar 2 3)] 0 .nil) []),(273,some<|aI aM [Ex.mk bV n0 l0,Ex.mk cN n1 l1])]
theorem ai1{op n cN:Int}{l0:List Ex}:(([(2,(.ptr<|some (271,0)))]:List<|Nat×AV).map (fun q=>some q.2)=([(2,(.ptr<|some (271,0)))]:List<|Nat×AV).map (fun q=>some q.2))/\(((KO op n bV n0 l0 cN n1 l1):List<|Nat×Option ae).map (fun q=>q.2)=((KO op n bV n0 l0 cN n1 l1):List<|Nat×Option ae).map (fun q=>q.2))/\gY FU 270 276 [(2,(.ptr<|some (271,0)))] (KO op n bV n0 l0 cN n1 l1) [(2,(.ptr<|some (271,0)))] (Ep op n bV n0 l0 cN n1 l1) 272/\((⟨73,aP [(2,(.ptr<|some (271,0)))],max Tryz.f73.ntmps 1,(dq 73 [1,1,1,1]),[],none⟩:AF)=⟨73,aP [(2,(.ptr<|some (271,0)))],max Tryz.f73.ntmps 1,(dq 73 [1,1,1,1]),[],none⟩/\aj (Ep op n bV n0 l0 cN n1 l1) 272=aj (Ep op n bV n0 l0 cN n1 l1) 272):=⟨rfl,rfl,ahr kU (b:=271) (n:=273) (j:=2) (bF:=276) [Ex.mk bV n0 l0,Ex.mk cN n1 l1] [.int .u8 op,.int .i64 n] [] (by simp only[List.length_cons,List.length_nil];unfold top;omega) ah ah eX eX eX (fun r _=>⟨bz.int _ _,bz.int _ _,trivial⟩) (fun r _=>trivial) rfl H9 rfl,rfl,rfl⟩
theorem ai2(mc:Mt [sg k] B){op n cN:Int}{l0:List Ex}:av pg B 270 (Fin pg (aA Tryz.f73) fun y _=>y=(.agg [.int .u8 op,.int .i64 n,aD aM [Ex.mk bV n0 l0,Ex.mk cN n1 l1]])) ⟨73,aP [(2,(.ptr<|some (271,0)))],max Tryz.f73.ntmps 1,(dq 73 [1,1,1,1]),[],none⟩<|aj (Ep op n bV n0 l0 cN n1 l1) 272:=wS mc (.rt 1 .no)<|xe<|.agg [.int .u8 op,.int .i64 n,aD aM [Ex.mk bV n0 l0,Ex.mk cN n1 l1]]
theorem go_cp(mc:Mt [sg k] B){op n cN:Int}{l0:List Ex}(hn:top<=N)(hf:cx FU N 0 (2*3)=some ([Ex.mk bV n0 l0,Ex.mk cN n1 l1].map aM).flatten)(jr:bp (ba<|se k) [(.agg [(u8<|bV),(i6 n0),(.ab (nm<|dy l0) 0 l0.length)])]=some (.agg [(u8<|bV),(i6 n0),(.ab (nm<|dy l0) 0 l0.length)]))(jK:bp (ba<|se k) [(.agg [(u8<|cN),(i6 n1),(.ab (nm<|dy l1) 0 l1.length)])]=some (.agg [(u8<|cN),(i6 n1),(.ab (nm<|dy l1) 0 l1.length)])):av pg B 270 (Fin pg (aA Tryz.f73) fun y _=>y=(.agg [.int .u8 op,.int .i64 n,aD aM [Ex.mk bV n0 l0,Ex.mk cN n1 l1]])) (sF 73 Tryz.f73 [(.agg [(u8<|op),(i6 n),(.ab N 0 2)])])<|aj aq 270:=wC mc (C:=(fun fr s1 _=>fr=⟨73,aP [(2,(.ptr<|some (271,0)))],max Tryz.f73.ntmps 1,(dq 73 [1,1,1,1]),[],none⟩/\s1=aj (Ep op n bV n0 l0 cN n1 l1) 272)) (fun fr s1 p hC=>by obtain⟨rfl,rfl⟩:=hC;exact ai2 mc) (.st 3<|.rg<|.go 2<|.il<|.st 8<|.rg<|.go 2<|.al Ex aM [] [Ex.mk bV n0 l0,Ex.mk cN n1 l1]<|.go 1<|.en<|.rt 1<|.go 2<|.en<|.st 14<|.rg<|.go 4<|.kn (.agg [(u8<|bV),(i6 n0),(.ab (nm<|dy l0) 0 l0.length)])<|.go 2<|.en<|.st 12<|.rg<|.go 4<|.kn (.agg [(u8<|cN),(i6 n1),(.ab (nm<|dy l1) 0 l1.length)])<|.go 2<|.en<|.st 10<|.rn [(2,(.ptr<|some (271,0)))] (KO op n bV n0 l0 cN n1 l1) [(2,(.ptr<|some (271,0)))] (Ep op n bV n0 l0 cN n1 l1) 276 272 .no)<|Gd aM [] [Ex.mk bV n0 l0,Ex.mk cN n1 l1] (K:=3) (j8:=40) ⟨hn,hf,rfl⟩ (fun x=>⟨kU.len x,Uy x⟩) (by show 2*(0+2)*40+4096*40<=room;unfold room;omega) (by show(0+2)*3<=top;unfold top;omega)<|ai jr<|ai jK<|ai1 (op:=op) (n:=n) (bV:=bV) (n0:=n0) (cN:=cN) (n1:=n1) (l0:=l0) (l1:=l1)
end Ie
end
section
open Go Go.Rn Go.RowKit Go.Proofs
namespace LB
open cr cS dj dA dL fQ yO wA yu Ie
variable {k:Nat} {e:Ex}
theorem PW(h:eP k e=true):pz k e=true:=by
 cases k with
 |zero=>cases h
 |succ k=>obtain⟨op,n,l⟩:=e;show(eP (k+1) (.mk op n l)||l.isEmpty)=true;rw[h];rfl
theorem afH{op n:Int}{l:List Ex}(h:pz (k+1) (.mk op n l)=true):l=[]\/∃a b,l=[a,b]/\eP k a=true/\eP k b=true:=by
 have h:(eP (k+1) (.mk op n l)||l.isEmpty)=true:=h;rw[Bool.or_eq_true] at h;rcases h with h|h
 ·exact Uu h
 ·exact .inl<|List.isEmpty_iff.1 h
theorem Ee(hw:pz k e=true):bp (ba<|se k) [.agg<|aM e]=some (.agg<|aM e):=fu (ff se.bR ⟨e,rfl,hw,rfl⟩) sr<|Cm e
theorem Pv(l:List Ex):AV.ab (nm<|dy l) 0 l.length=aD aM l:=by rw[DQ];rfl
theorem acR{l:List Ex}(h:l.length<=100000):bp (ba B8) [.ab (nm<|dy l) 0 l.length]=some (aD aM l):=by rw[Pv];exact fu (ff B8.bR ⟨_,0,l,rfl,di.aD kU l,h,rfl⟩) (by rw[List.all_cons,show AV.hi (aD aM l)=true from aL.2<|cU _];rfl)<|aL.2<|cU _
theorem OW(hP:bB pg):∀(k:Nat) {L:bU},aV L->aV (sg k::L)
 |0,L,h=>by refine g9 hP h cO Tryz.func73 fun args v e=>?_;obtain⟨_,_,hw,_⟩:=gf e;cases hw
 |k+1,L,h=>by
  refine ad4 hP gL pW ir gZ h Tryz.func73 (body:=aW pg 73 []) aY aY fun args v e=>?_;obtain⟨⟨op,n,l⟩,rfl,hw,rfl⟩:=gf e;refine⟨aL.1 aY,?_⟩;rcases afH hw with rfl|⟨a,b,rfl,w0,w1⟩
  ·refine⟨_,abZ hP<|OW hP k cO,fun B mc=>?_⟩;rw[←gN,aM];exact ai0 mc (by have:=acR (l:=[]) (by show(0:Nat)<=100000;omega);rw[←Pv] at this;exact this)
  ·refine⟨_,OW hP k cO,fun B mc=>?_⟩;obtain⟨bV,n0,l0⟩:=a;obtain⟨cN,n1,l1⟩:=b;rw[←gN,aM];have c0:=Ee<|PW w0;have c1:=Ee<|PW w1;rw[aM] at c0 c1;have hf:cx FU (nm<|dy [Ex.mk bV n0 l0,.mk cN n1 l1]) 0 (2*3)=some ([Ex.mk bV n0 l0,.mk cN n1 l1].map aM).flatten:=by
    rcases J8 (K:=3) kU.len (di.aD kU [Ex.mk bV n0 l0,.mk cN n1 l1]) with q|q
    ·rw[DQ];exact q
    ·cases q
   have key:=go_cp (op:=op) (n:=n) mc (cU _) hf c0 c1;rw[←Pv] at key;exact key
end LB
end
section
open Go Go.Rn Go.RowKit Go.Proofs
namespace hI
open cr cS dj dA fc gK dL fQ yO wA yu qR Ie LB
variable {k N L K:Nat} {B:aJ} {to ob oa na kd i:Int} {lb la:List Ex} {el bd W:List St} {α:Type} {x:AV} {r:Nat->Nat} {enc:α->List AV}
noncomputable section
theorem Vi:∀p∈aq,∀y,p.2=some y->y.lZ=true:=by
 have h:(aq.all fun p=>Kw p.2)=true:=by kernel_rfl
 intro p hp y hy;have:=List.all_eq_true.1 h p hp;rw[hy] at this;exact this
def qS:Nat->List St->Bool
 |0,_=>false
 |k+1,l=>decide (l.length<=10000)&&l.all fun s=>pz 6 (iC s)&&(pz 6 (ib s)&&(qS k (ct s)&&qS k (cm s)))
theorem acS(x:St):(a9 x).all AV.cj=true:=List.all_eq_true.2 fun y hy=>JD<|List.all_eq_true.1 (lD.gi x) y hy
theorem Hj(hr:∀k,top<=k->r k=k)(h:x.hi=true):bz r x x:=fun ρ v hv=>AV.oY (fun k y hk e=>by rw[hr k hk];exact e) h hv
theorem acT(h:x.gi=true):x.hi=true:=by have:=D2 h;cases x<;>first|exact this|cases h
theorem G2(he:me K enc)(l:List α)(hl:l.length*K<=top){fz:lL}(hr:∀k,top<=k->r k=k):fI fz r (aI enc l)<|aI enc l:=by
 have hz:∀(m:List AV),m.all AV.gi=true->mB fz r m m:=by
  intro m;induction m with
  |nil=>intro _;trivial
  |cons a m ih=>intro h;rw[List.all_cons,Bool.and_eq_true] at h;exact⟨(Hj hr<|acT h.1).z,ih h.2⟩
 exact fI.cells (by rw[he.length];exact hl) (hz _<|he.all l)<|List.all_eq_true.2 fun y hy=>JD<|List.all_eq_true.1 (he.all l) y hy
theorem XN(he:me K enc)(W:List α){n bF:Nat}{l0 l:List<|Nat×AV}(hl:W.length*K<=top)(hn:270<=n)(iX:n<top)(hs:bF<top)(h:∀r:Nat->Nat,r 270=n->(∀k,top<=k->r k=k)->∀p∈l,p.1<top/\∃x,(p.1,x)∈l0/\lH [] r x p.2):
 gY FU 270 bF l0 (aq++[(n,some<|aI enc W)]) l (aq++[(270,some<|aI enc W)]) 271:=by
 let r:Nat->Nat:=fun k=>if k=270 then n else if k<270\/top<=k then k else max k bF
 have r0:r 270=n:=if_pos rfl;have rl:∀k,k<270->r k=k:=fun k hk=>by show(if _ then _ else _)=_;rw[if_neg ah,if_pos<|.inl hk]
 have t0:270<top:=by unfold top;omega
 have rt:∀k,top<=k->r k=k:=fun k hk=>by show(if _ then _ else _)=_;rw[if_neg ah,if_pos<|.inr hk]
 have Ge:∀p∈aq,p.1<270:=fun p hp=>by obtain⟨k,hk,e⟩:=List.mem_map.1 hp;rw[←e];exact gZ k hk
 refine⟨[],r,rl,fun k h1 h2=>?_,rt,by unfold top;omega,h r r0 rt,fun p hp=>?_,fun p hp q hq _ _ e=>?_,fun p hp=>nZ,fun p hp=>nZ⟩
 ·show bF<=(if _ then _ else _)/\(if _ then _ else _)<top;rw[if_neg ah,if_neg ah];omega
 ·rcases List.mem_append.1 hp with hp|hp
  ·have cF:=Ge p hp;refine⟨by omega,fun y hy=>?_⟩;rw[rl _ cF];refine⟨by omega,?_,y,?_,fm.refl _,(GQ (nx:=270) rl cC p hp y hy).z⟩
   ·exact Vi p hp y hy
   ·refine List.mem_append_left _ ?_;rw[←hy];exact hp
  ·rw[List.mem_singleton] at hp;subst hp;refine⟨t0,fun y hy=>?_⟩;cases hy;refine⟨by rw[r0];exact iX,rfl,_,by rw[r0];exact List.mem_append_right _<|List.mem_singleton.2 rfl,fm.refl _,G2 he W hl rt⟩
 ·have nm:∀p∈aq++[(270,some<|aI enc W)],p.1<270\/p.1=270:=fun p hp=>by
   rcases List.mem_append.1 hp with hp|hp
   ·exact .inl<|Ge p hp
   ·rw[List.mem_singleton] at hp;subst hp;exact .inr rfl
  rcases nm p hp with a|a<;>rcases nm q hq with b|b
  ·rw[rl _ a,rl _ b] at e;exact e
  ·rw[b,r0,rl _ a] at e;omega
  ·rw[a,r0,rl _ b] at e;omega
  ·rw[a,b]
def qJ(k:Nat)(args:List AV)(v:AV):Prop:=∃l:List St,args=[.ab (nm<|bC l) 0 l.length]/\qS k l=true/\v= .ab (nm<|bC l) 0 l.length
theorem qJ.bR(args:List AV)(v v':AV)(h:qJ k args v)(h':qJ k args v'):v=v':=by obtain⟨l,rfl,_,rfl⟩:=h;obtain⟨l',h1,_,rfl⟩:=h';injection h1 with h1 _
def oO(k:Nat):FuncId×KE:=(44,.val<|ba<|qJ k)
def Mi(N L:Nat):List<|Nat×AV:=[(3,(.slice none 0<|.known 0)),(6,(.ab N 0 L)),(7,(i6<|(L:Int))),(8,i0)]
def Fx(N L:Nat):AF:=⟨44,aP<|Mi N L,max Tryz.f44.ntmps 1,[.code<|aW pg 44 [1,1,0,1,0,0],.inLoop<|aW pg 44 [1,1,0,1,0,0],.inBlock 0,.code<|aW pg 44 [1,1,1]],[],none⟩
def CO(N L:Nat)(W:List St)(i:Int):List<|Nat×AV:=[(3,(.slice (some (270,0)) (W.length)<|.ar W.length 10)),(6,(.ab N 0 L)),(7,(i6<|(L:Int))),(8,(i6 i))]
def uJ(N L:Nat)(W:List St)(i:Int):AF:=⟨44,aP<|CO N L W i,max Tryz.f44.ntmps 1,[.code<|aW pg 44 [1,1,0,1,0,0],.inLoop<|aW pg 44 [1,1,0,1,0,0],.inBlock 0,.code<|aW pg 44 [1,1,1]],[],none⟩
theorem aks(N L:Nat):((Mi N L).map (fun q=>some q.2)=(Mi N L).map (fun q=>some q.2))/\(aq.map (fun q=>q.2)=aq.map (fun q=>q.2))/\(Fx N L=Fx N L/\aj aq 270=aj aq 270):=⟨rfl,rfl,rfl,rfl⟩
theorem go_c{v:AV}(mc:Mt [sg 6,oO k] B)(H:av pg B 270 (Fin pg (aA Tryz.f44) fun y _=>y=v) (Fx N L)<|aj aq 270):av pg B 270 (Fin pg (aA Tryz.f44) fun y _=>y=v) (sF 44 Tryz.f44 [(.ab N 0 L)])<|aj aq 270:=wC mc (C:=(fun fr s1 _=>fr=Fx N L/\s1=aj aq 270)) nJ (.st 9<|.ls (Mi N L) aq 270 .no)<|aks N L
noncomputable abbrev KR(N L:Nat):List<|Nat×AV:=[(3,(.slice (some (272,0)) (1)<|.ar 1 10)),(6,(.ab N 0 L)),(7,(i6<|(L:Int))),(8,(i6<|.ofNat 1))]
noncomputable abbrev Er(kd to oa na:Int)(la:List Ex)(ob nb:Int)(lb:List Ex)(bd el:List St):List<|Nat×Option ae:=aq++[(270,some<|aI a9<|[(St.mk kd to (Ex.mk oa na la) (Ex.mk ob nb lb) bd el)])]
theorem aku{nb:Int}(hn:top<=N)(hW:[(St.mk kd to (Ex.mk oa na la) (Ex.mk ob nb lb) bd el)].length<=20000):(((KR N L):List<|Nat×AV).map (fun q=>some q.2)=((KR N L):List<|Nat×AV).map (fun q=>some q.2))/\((aq++[(272,some<|aI a9 [(St.mk kd to (Ex.mk oa na la) (Ex.mk ob nb lb) bd el)])]:List<|Nat×Option ae).map (fun q=>q.2)=(aq++[(272,some<|aI a9 [(St.mk kd to (Ex.mk oa na la) (Ex.mk ob nb lb) bd el)])]:List<|Nat×Option ae).map (fun q=>q.2))/\gY FU 270 273 (KR N L) (aq++[(272,some<|aI a9 [(St.mk kd to (Ex.mk oa na la) (Ex.mk ob nb lb) bd el)])]) (CO N L ([(St.mk kd to (Ex.mk oa na la) (Ex.mk ob nb lb) bd el)]) 1) (Er kd to oa na la ob nb lb bd el) 271/\(uJ N L ([(St.mk kd to (Ex.mk oa na la) (Ex.mk ob nb lb) bd el)]) 1=uJ N L ([(St.mk kd to (Ex.mk oa na la) (Ex.mk ob nb lb) bd el)]) 1/\aj (Er kd to oa na la ob nb lb bd el) 271=aj (Er kd to oa na la ob nb lb bd el) 271):=
 ⟨rfl,rfl,XN lD [(St.mk kd to (Ex.mk oa na la) (Ex.mk ob nb lb) bd el)] (n:=272) (bF:=273) eX ah eX eX (fun r r0 r2 p hp=>by
  simp only[CO,List.mem_cons,List.not_mem_nil,or_false] at hp;rcases hp with rfl|rfl|rfl|rfl
  ·exact⟨by unfold top;omega,_,List.mem_cons_self,(bz.slice r0).z⟩
  ·exact⟨by unfold top;omega,_,(List.mem_cons_of_mem _ List.mem_cons_self),(bz.ab (r2 _ hn) r2).z⟩
  ·exact⟨by unfold top;omega,_,(List.mem_cons_of_mem _<|List.mem_cons_of_mem _ List.mem_cons_self),(bz.int _ _).z⟩
  ·exact⟨by unfold top;omega,_,(List.mem_cons_of_mem _<|List.mem_cons_of_mem _<|List.mem_cons_of_mem _ List.mem_cons_self),(bz.int _ _).z⟩),rfl,rfl⟩
noncomputable abbrev KS(kd to oa na:Int)(la:List Ex)(ob nb:Int)(lb:List Ex)(bd el:List St):List AV:=[(u8<|kd),(i6 to),(u8<|oa),(i6 na),(.ab (nm<|dy la) 0 la.length),(u8<|ob),(i6 nb),(.ab (nm<|dy lb) 0 lb.length),(.ab (nm<|bC bd) 0 bd.length),(.ab (nm<|bC el) 0 el.length)]
noncomputable abbrev Es(oa na:Int)(la:List Ex):AV:=.agg [(u8<|oa),(i6 na),(.ab (nm<|dy la) 0 la.length)]
noncomputable abbrev Et(ob nb:Int)(lb:List Ex):AV:=.agg [(u8<|ob),(i6 nb),(.ab (nm<|dy lb) 0 lb.length)]
theorem akv{nb:Int}{v:AV}(mc:Mt [sg 6,oO k] B)(hn:top<=N)(hL:L<=10000)(hx:cx FU N (0+(0:Int).toNat*10+0) 10=some (KS kd to oa na la ob nb lb bd el))(hA:bp (ba<|se 6) [(Es oa na la)]=some (Es oa na la))(hB:bp (ba<|se 6) [(Et ob nb lb)]=some (Et ob nb lb))(hD:bp (ba<|qJ k) [(.ab (nm<|bC bd) 0 bd.length)]=some (.ab (nm<|bC bd) 0 bd.length))(hE:bp (ba<|qJ k) [(.ab (nm<|bC el) 0 el.length)]=some (.ab (nm<|bC el) 0 el.length))(hW:[(St.mk kd to (Ex.mk oa na la) (Ex.mk ob nb lb) bd el)].length<=20000)(h1:(0:Int)<(L:Int))(H:av pg B 270 (Fin pg (aA Tryz.f44) fun y _=>y=v) (uJ N L ([(St.mk kd to (Ex.mk oa na la) (Ex.mk ob nb lb) bd el)]) 1)<|aj (Er kd to oa na la ob nb lb bd el) 271):av pg B 270 (Fin pg (aA Tryz.f44) fun y _=>y=v) (Fx N L)<|aj aq 270:=wC mc (C:=(fun fr s1 _=>fr=uJ N L ([(St.mk kd to (Ex.mk oa na la) (Ex.mk ob nb lb) bd el)]) 1/\s1=aj (Er kd to oa na la ob nb lb bd el) 271)) nJ (.st 1<|.rg<|.fk (.en<|.st 6<|.rg<|.eF<|.eG (KS kd to oa na la ob nb lb bd el)<|.go 2<|.en<|.st 1<|.rg<|.go 2<|.kn (Es oa na la)<|.go 2<|.kn (Et ob nb lb)<|.go 2<|.kn (.ab (nm<|bC bd) 0 bd.length)<|.go 2<|.kn (.ab (nm<|bC el) 0 el.length)<|.go 8<|.en<|.st 4<|.rn (KR N L) (aq++[(272,(some<|aI a9 [(St.mk kd to (Ex.mk oa na la) (Ex.mk ob nb lb) bd el)]))]) (CO N L ([(St.mk kd to (Ex.mk oa na la) (Ex.mk ob nb lb) bd el)]) 1) (Er kd to oa na la ob nb lb bd el) 273 271 .no)<|.no)<|ax ((0:Int)<(L:Int)) (fun _=>(eZ (0:Int) (L:Int)<|ai hn<|ai hx<|ai hA<|ai hB<|ai hD<|ai hE<|aku (N:=N) (L:=L) (kd:=kd) (to:=to) (oa:=oa) (na:=na) (la:=la) (ob:=ob) (nb:=nb) (lb:=lb) (bd:=bd) (el:=el) hn hW)) eM
noncomputable abbrev KU(W:List St)(kd to oa na:Int)(la:List Ex)(ob nb:Int)(lb:List Ex)(bd el:List St)(N L:Nat)(i:Int):List<|Nat×AV:=[(3,(.slice (some (273,0)) ((W++[(St.mk kd to (Ex.mk oa na la) (Ex.mk ob nb lb) bd el)]).length)<|.ar (W++[(St.mk kd to (Ex.mk oa na la) (Ex.mk ob nb lb) bd el)]).length 10)),(6,(.ab N 0 L)),(7,(i6<|(L:Int))),(8,(i6<|(i+1)))]
noncomputable abbrev Eu(W:List St)(kd to oa na:Int)(la:List Ex)(ob nb:Int)(lb:List Ex)(bd el:List St):List<|Nat×Option ae:=aq++[(270,some<|aI a9<|W++[(St.mk kd to (Ex.mk oa na la) (Ex.mk ob nb lb) bd el)])]
theorem akw{nb:Int}(hn:top<=N)(hW:(W++[(St.mk kd to (Ex.mk oa na la) (Ex.mk ob nb lb) bd el)]).length<=20000):(((KU W kd to oa na la ob nb lb bd el N L i):List<|Nat×AV).map (fun q=>some q.2)=((KU W kd to oa na la ob nb lb bd el N L i):List<|Nat×AV).map (fun q=>some q.2))/\((aq++[(273,some<|aI a9<|W++[(St.mk kd to (Ex.mk oa na la) (Ex.mk ob nb lb) bd el)])]:List<|Nat×Option ae).map (fun q=>q.2)=(aq++[(273,some<|aI a9<|W++[(St.mk kd to (Ex.mk oa na la) (Ex.mk ob nb lb) bd el)])]:List<|Nat×Option ae).map (fun q=>q.2))/\gY FU 270 274 (KU W kd to oa na la ob nb lb bd el N L i) (aq++[(273,some<|aI a9<|W++[(St.mk kd to (Ex.mk oa na la) (Ex.mk ob nb lb) bd el)])]) (CO N L (W++[(St.mk kd to (Ex.mk oa na la) (Ex.mk ob nb lb) bd el)])<|i+1) (Eu W kd to oa na la ob nb lb bd el) 271/\(uJ N L (W++[(St.mk kd to (Ex.mk oa na la) (Ex.mk ob nb lb) bd el)]) (i+1)=uJ N L (W++[(St.mk kd to (Ex.mk oa na la) (Ex.mk ob nb lb) bd el)]) (i+1)/\aj (Eu W kd to oa na la ob nb lb bd el) 271=aj (Eu W kd to oa na la ob nb lb bd el) 271):=
 ⟨rfl,rfl,XN lD (W++[(St.mk kd to (Ex.mk oa na la) (Ex.mk ob nb lb) bd el)]) (n:=273) (bF:=274) eX ah eX eX (fun r r0 r2 p hp=>by
  simp only[CO,List.mem_cons,List.not_mem_nil,or_false] at hp;rcases hp with rfl|rfl|rfl|rfl
  ·exact⟨by unfold top;omega,_,List.mem_cons_self,(bz.slice r0).z⟩
  ·exact⟨by unfold top;omega,_,(List.mem_cons_of_mem _ List.mem_cons_self),(bz.ab (r2 _ hn) r2).z⟩
  ·exact⟨by unfold top;omega,_,(List.mem_cons_of_mem _<|List.mem_cons_of_mem _ List.mem_cons_self),(bz.int _ _).z⟩
  ·exact⟨by unfold top;omega,_,(List.mem_cons_of_mem _<|List.mem_cons_of_mem _<|List.mem_cons_of_mem _ List.mem_cons_self),(bz.int _ _).z⟩),rfl,rfl⟩
theorem akx{nb:Int}{v:AV}(mc:Mt [sg 6,oO k] B)(hn:top<=N)(hi:0<=i)(hL:L<=10000)(hx:cx FU N (0+i.toNat*10+0) 10=some (KS kd to oa na la ob nb lb bd el))(hA:bp (ba<|se 6) [(Es oa na la)]=some (Es oa na la))(hB:bp (ba<|se 6) [(Et ob nb lb)]=some (Et ob nb lb))(hD:bp (ba<|qJ k) [(.ab (nm<|bC bd) 0 bd.length)]=some (.ab (nm<|bC bd) 0 bd.length))(hE:bp (ba<|qJ k) [(.ab (nm<|bC el) 0 el.length)]=some (.ab (nm<|bC el) 0 el.length))(hW:(W++[(St.mk kd to (Ex.mk oa na la) (Ex.mk ob nb lb) bd el)]).length<=20000)(h1:i<(L:Int))(H:av pg B 270 (Fin pg (aA Tryz.f44) fun y _=>y=v) (uJ N L (W++[(St.mk kd to (Ex.mk oa na la) (Ex.mk ob nb lb) bd el)])<|i+1)<|aj (Eu W kd to oa na la ob nb lb bd el) 271):av pg B 270 (Fin pg (aA Tryz.f44) fun y _=>y=v) (uJ N L W i)<|aj (aq++[(270,some<|aI a9 W)]) 271:=wC mc (C:=(fun fr s1 _=>fr=uJ N L (W++[(St.mk kd to (Ex.mk oa na la) (Ex.mk ob nb lb) bd el)]) (i+1)/\s1=aj (Eu W kd to oa na la ob nb lb bd el) 271)) nJ (.st 1<|.rg<|.fk (.en<|.st 6<|.rg<|.eF<|.eG (KS kd to oa na la ob nb lb bd el)<|.go 2<|.en<|.st 1<|.rg<|.go 2<|.kn (Es oa na la)<|.go 2<|.kn (Et ob nb lb)<|.go 2<|.kn (.ab (nm<|bC bd) 0 bd.length)<|.go 2<|.kn (.ab (nm<|bC el) 0 el.length)<|.go 8<|.en<|.rg<|.go 3<|.ap St a9 W (St.mk kd to (Ex.mk oa na la) (Ex.mk ob nb lb) bd el)<|.go 1<|.en<|.st 1<|.rg<|.vl (i6<|i+1)<|.go 1<|.en<|.st 1<|.rn (KU W kd to oa na la ob nb lb bd el N L i) (aq++[(273,(some<|aI a9<|W++[(St.mk kd to (Ex.mk oa na la) (Ex.mk ob nb lb) bd el)]))]) (CO N L (W++[(St.mk kd to (Ex.mk oa na la) (Ex.mk ob nb lb) bd el)])<|i+1) (Eu W kd to oa na la ob nb lb bd el) 274 271 .no)<|.no)<|ax (i<(L:Int)) (fun _=>(eZ i (L:Int)<|ai hn<|ai hx<|ai hA<|ai hB<|ai hD<|ai hE<|wU a9 W (St.mk kd to (Ex.mk oa na la) (Ex.mk ob nb lb) bd el) (K:=10) (j8:=144) (fun x=>⟨lD.len x,acS x⟩) (by rw[List.length_append] at hW;unfold room;omega) (by rw[List.length_append] at hW;unfold top;omega)<|ai (wI<|i+1)<|akw (N:=N) (L:=L) (W:=W) (i:=i) (kd:=kd) (to:=to) (oa:=oa) (na:=na) (la:=la) (ob:=ob) (nb:=nb) (lb:=lb) (bd:=bd) (el:=el) hn hW)) eM
theorem aky:(([(2,(.slice none 0<|.known 0))]:List<|Nat×AV).map (fun q=>some q.2)=([(2,(.slice none 0<|.known 0))]:List<|Nat×AV).map (fun q=>some q.2))/\(([]:List<|Nat×Option ae).map (fun q=>q.2)=([]:List<|Nat×Option ae).map (fun q=>q.2))/\gY FU 270 270 [(2,(.slice none 0<|.known 0))] [] [(2,aD a9 ([]:List St))] [] 270/\((⟨44,aP [(2,aD a9 ([]:List St))],max Tryz.f44.ntmps 1,(dq 44 [1,1,1,1]),[],none⟩:AF)=⟨44,aP [(2,aD a9 ([]:List St))],max Tryz.f44.ntmps 1,(dq 44 [1,1,1,1]),[],none⟩/\aj [] 270=aj [] 270):=⟨rfl,rfl,(PV (enc:=a9) (j:=2) (bF:=270) eX eX),rfl,rfl⟩
theorem akz(mc:Mt [sg 6,oO k] B):av pg B 270 (Fin pg (aA Tryz.f44) fun y _=>y=(aD a9 ([]:List St))) ⟨44,aP [(2,aD a9 ([]:List St))],max Tryz.f44.ntmps 1,(dq 44 [1,1,1,1]),[],none⟩<|aj [] 270:=wS mc (.rt 1 .no)<|xe<|aD a9 ([]:List St)
theorem akA(mc:Mt [sg 6,oO k] B)(h1:(L:Int)<=0):av pg B 270 (Fin pg (aA Tryz.f44) fun y _=>y=(aD a9 ([]:List St))) (Fx N L)<|aj aq 270:=wC mc (C:=(fun fr s1 _=>fr=⟨44,aP [(2,aD a9 ([]:List St))],max Tryz.f44.ntmps 1,(dq 44 [1,1,1,1]),[],none⟩/\s1=aj [] 270)) (fun fr s1 p hC=>by obtain⟨rfl,rfl⟩:=hC;exact akz mc) (.st 1<|.rg<|.fk (.no)<|.en<|.st 5<|.rn [(2,(.slice none 0<|.known 0))] [] [(2,aD a9 ([]:List St))] [] 270 270 .no)<|ax ((0:Int)<(L:Int)) eM fun _=>(aky)
theorem akB(W:List St)(hW:W.length<=20000):(([(2,(.slice (some (270,0)) (W.length)<|.ar W.length 10))]:List<|Nat×AV).map (fun q=>some q.2)=([(2,(.slice (some (270,0)) (W.length)<|.ar W.length 10))]:List<|Nat×AV).map (fun q=>some q.2))/\(([(270,some<|aI a9 W)]:List<|Nat×Option ae).map (fun q=>q.2)=([(270,some<|aI a9 W)]:List<|Nat×Option ae).map (fun q=>q.2))/\gY FU 270 271 [(2,(.slice (some (270,0)) (W.length)<|.ar W.length 10))] [(270,some<|aI a9 W)] [(2,aD a9 W)] [] 270/\((⟨44,aP [(2,aD a9 W)],max Tryz.f44.ntmps 1,(dq 44 [1,1,1,1]),[],none⟩:AF)=⟨44,aP [(2,aD a9 W)],max Tryz.f44.ntmps 1,(dq 44 [1,1,1,1]),[],none⟩/\aj [] 270=aj [] 270):=⟨rfl,rfl,(PU (j:=2) (n:=270) (bF:=271) lD W rfl eX eX eX eX),rfl,rfl⟩
theorem akC(mc:Mt [sg 6,oO k] B)(W:List St):av pg B 270 (Fin pg (aA Tryz.f44) fun y _=>y=(aD a9 W)) ⟨44,aP [(2,aD a9 W)],max Tryz.f44.ntmps 1,(dq 44 [1,1,1,1]),[],none⟩<|aj [] 270:=wS mc (.rt 1 .no)<|xe<|aD a9 W
theorem akD(mc:Mt [sg 6,oO k] B)(h1:(L:Int)<=i)(hW:W.length<=20000):av pg B 270 (Fin pg (aA Tryz.f44) fun y _=>y=(aD a9 W)) (uJ N L W i)<|aj (aq++[(270,some<|aI a9 W)]) 271:=wC mc (C:=(fun fr s1 _=>fr=⟨44,aP [(2,aD a9 W)],max Tryz.f44.ntmps 1,(dq 44 [1,1,1,1]),[],none⟩/\s1=aj [] 270)) (fun fr s1 p hC=>by obtain⟨rfl,rfl⟩:=hC;exact akC mc W) (.st 1<|.rg<|.fk (.no)<|.en<|.st 5<|.rn [(2,(.slice (some (270,0)) (W.length)<|.ar W.length 10))] [(270,some<|aI a9 W)] [(2,aD a9 W)] [] 271 270 .no)<|ax (i<(L:Int)) eM fun _=>(akB W hW)
end
end hI
end
