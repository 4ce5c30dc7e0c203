import Derived.Test.YtphenfaomchomaaGreatDoorAtGL
set_option maxRecDepth 100000
set_option maxHeartbeats 8000000
set_option linter.unusedSimpArgs false
set_option linter.unusedVariables false
section
open Go Go.Rn Go.RowKit Go.Proofs
namespace kY
open cj eR cH dq cU dm fY fF gJ gQ gW gm hZ iB iC iV jh jY ko gk
variable {wi v to aE nn n2 kind gx:Int} {u Y:AV} {fs:List Fr} {c N4 N3 N2 N L4 L3 L2 L:Nat} {a:MN} {B:aI}
noncomputable abbrev fh(a:MN)(n c:Nat)(u:AV)(fs:List Fr):VS:=(⟨⟨a.pre,n,(.aq c 13),[.int .i64 a.steps]⟩,u,(fs.map aH).flatten⟩:VS)
noncomputable abbrev Jz:List AV:=[(u8<|.ofNat 0),i0,(u8<|.ofNat 0),i0,(.slice none 0<|.known 0),(u8<|.ofNat 0),i0,(.slice none 0<|.known 0),(.slice none 0<|.known 0),(.slice none 0<|.known 0)]
noncomputable abbrev Jh(n c:Nat):AV:=.slice (some (272,0)) (n)<|.aq c 13
theorem ahj{n:Nat}{N L N2 L2 N3 L3 N4 L4:Nat}{kind to op nn aE n2:Int}{z v wi gx:Int}(mc:Mt [mg,iL,jH,kX,l9] B)(hO:bE 10 (fh a n c u fs)=true)(hs:vR iR (fh a n c u fs) []=some (.tuple [(.agg Jz),(.bool false)]))(E0:(.agg [.int .u8 3,.int .i64 0,.int .i64 0]:AV)=Y):au pg B 273 (gX 270 3 pg (az Tryz.f14) Y<|fh a n c u fs) (sF 14 Tryz.f14 [.ptr<|some (270,0)])<|ah (ak++aY (dD 270 3<|fh a n c u fs)) 273:=by exact me (E:=qT [mg,iL,jH,kX,l9]) eT rfl bI mc.2.2.1 mc.2.2.2 900 (.st 8<|.rg<|.go 1<|.cg (.tuple [(.agg Jz),(.bool false)]) (vG 272) (vQ 272<|fh a n c u fs)<|.go 6<|.en<|.rt 8 .no)<|jN [mg,iL,jH,kX,l9] 27 272 (vR iR) [] (fh a n c u fs) (.tuple [(.agg Jz),(.bool false)]) hO hs rfl bU<|mN (st:=(fh a n c u fs)) (s:=ah (ak++[(270,some<|.cells 13 (Tr.fill (a.row (.ptr<|some (271,0)) (Jh n c)<|i6 a.steps) 0 .nil) []),(271,(some<|.tok 3 u)),(272,(some<|aD aH fs)),(273,some<|.cells 3 (Tr.fill [(u8<|.ofNat 3),i0,i0] 0 .nil) []),(274,some<|.cells 10 (Tr.fill Jz 0 .nil) [])]) 275) (show(.agg [(u8<|.ofNat 3),i0,i0])=Y from E0) bU bU bU
noncomputable abbrev ae6(a:MN)(n c:Nat)(u:AV)(fs:List Fr)(kind to op nn:Int)(N L:Nat)(aE n2:Int)(N2 L2 N3 L3 N4 L4:Nat):List<|Nat×Option ae:=ak++[(270,some<|.cells 13 (Tr.fill (a.row (.ptr<|some (271,0)) (.slice (some (272,0)) (n)<|.aq c 13)<|i6 a.steps) 0 .nil) []),(271,(some<|.tok 3 u)),(272,(some<|aD aH fs)),(273,some<|.cells 3 (Tr.fill [(u8<|.ofNat 1),i0,i0] 0 .nil) []),(274,some<|.cells 10 (Tr.fill [(u8<|kind),(i6 to),(u8<|op),(i6 nn),(.U N 0 L),(u8<|aE),(i6 n2),(.U N2 0 L2),(.U N3 0 L3),(.U N4 0 L4)] 0 .nil) [])]
noncomputable abbrev tf(kind to op nn:Int)(N L:Nat)(aE n2:Int)(N2 L2 N3 L3 N4 L4:Nat):List AV:=[(u8<|kind),(i6 to),(u8<|op),(i6 nn),(.U N 0 L),(u8<|aE),(i6 n2),(.U N2 0 L2),(.U N3 0 L3),(.U N4 0 L4)]
noncomputable abbrev xr(op nn:Int)(N L:Nat):List AV:=[(.agg [(u8<|op),(i6 nn),(.U N 0 L)])]
theorem ahk{n:Nat}{op:Int}{z:Int}(mc:Mt [mg,iL,jH,kX,l9] B)(hO:bE 10 (fh a n c u fs)=true)(hs:vR iR (fh a n c u fs) []=some (.tuple [(.agg<|tf kind to op nn N L aE n2 N2 L2 N3 L3 N4 L4),(.bool true)]))(hY:((.tuple [(.agg<|tf kind to op nn N L aE n2 N2 L2 N3 L3 N4 L4),(.bool true)]):AV).hi=true)(hA:((xr op nn N L):List AV).all AV.hi=true)(hz:vR jo (fh a n c u fs) (xr op nn N L)=some (.int .i64 z))(hv:vR nL (fh a n c u fs) (xr op nn N L)=some (.int .i64 v))(hw:vR rj (fh a n c u fs) []=some (.int .i64 wi))(hg:iK (gV bJ Bp) u [.int .i64 v]=some (.tuple [.int .i64 gx,.bool true],u))(E8:kind=8->(.agg [.int .u8 3,.int .i64 0,.int .i64 z]:AV)=Y)(E6:kind=6->wi<0->(.agg [.int .u8 4,.int .i64 0,.int .i64 0]:AV)=Y)(EI:kind≠8->(kind=6->0<=wi)->(kind=kind)->(.agg [.int .u8 1,.int .i64 0,.int .i64 0]:AV)=Y):au pg B 273 (gX 270 3 pg (az Tryz.f14) Y<|fh a n c u fs) (sF 14 Tryz.f14 [.ptr<|some (270,0)])<|ah (ak++aY (dD 270 3<|fh a n c u fs)) 273:=by exact me (E:=qT [mg,iL,jH,kX,l9]) eT rfl bI mc.2.2.1 mc.2.2.2 900 (.st 8<|.rg<|.go 1<|.cg (.tuple [(.agg<|tf kind to op nn N L aE n2 N2 L2 N3 L3 N4 L4),(.bool true)]) (vG 272) (vQ 272<|fh a n c u fs)<|.go 6<|.en<|.st 6<|.rg<|.go 2<|.fk (.go 1<|.en<|.st 2<|.rg<|.go 3<|.cg (i6 z) (vG 272) (vQ 272<|fh a n c u fs)<|.go 2<|.en<|.rt 1 .no)<|.go 1<|.en<|.st 2<|.rg<|.go 2<|.fk (.go 2<|.cg (i6 wi) (vG 272) (vQ 272<|fh a n c u fs)<|.fk (.go 2<|.en<|.rt 4 .no)<|.go 2<|.en<|.st 2<|.rg<|.go 2<|.fk (.go 1<|.en<|.st 2<|.rg<|.go 3<|.cg (i6 v) (vG 272) (vQ 272<|fh a n c u fs)<|.go 1<|.en<|.st 1<|.rg<|.go 5<|.kt (.tuple [(i6 gx),(.bool true)]) u<|.go 5<|.en<|.rt 8 .no)<|.go 1<|.en<|.rt 6 .no)<|.go 6<|.en<|.st 2<|.rg<|.go 2<|.fk (.go 1<|.en<|.st 2<|.rg<|.go 3<|.cg (i6 v) (vG 272) (vQ 272<|fh a n c u fs)<|.go 1<|.en<|.st 1<|.rg<|.go 5<|.kt (.tuple [(i6 gx),(.bool true)]) u<|.go 5<|.en<|.rt 8 .no)<|.go 1<|.en<|.rt 6 .no)<|jN [mg,iL,jH,kX,l9] 27 272 (vR iR) [] (fh a n c u fs) (.tuple [(.agg<|tf kind to op nn N L aE n2 N2 L2 N3 L3 N4 L4),(.bool true)]) hO hs rfl hY<|aT (kind=8) WV fun _=>(aT (kind=6) (fun _=>(jN [mg,iL,jH,kX,l9] 29 272 (vR rj) [] (fh a n c u fs) (i6 wi) hO hw rfl bU<|aT (wi<0) WY W0)) W0)
theorem ahl{n:Nat}{op:Int}{z:Int}(mc:Mt [mg,iL,jH,kX,l9] B)(hO:bE 10 (fh a n c u fs)=true)(hs:vR iR (fh a n c u fs) []=some (.tuple [(.agg<|tf kind to op nn N L aE n2 N2 L2 N3 L3 N4 L4),(.bool true)]))(hY:((.tuple [(.agg<|tf kind to op nn N L aE n2 N2 L2 N3 L3 N4 L4),(.bool true)]):AV).hi=true)(hA:((xr op nn N L):List AV).all AV.hi=true)(hz:vR jo (fh a n c u fs) (xr op nn N L)=some (.int .i64 z))(hv:vR nL (fh a n c u fs) (xr op nn N L)=some (.int .i64 v))(hw:vR rj (fh a n c u fs) []=some (.int .i64 wi))(hg:iK (gV bJ Bp) u [.int .i64 v]=some (.tuple [.int .i64 gx,.bool false],u))(E8:kind=8->(.agg [.int .u8 3,.int .i64 0,.int .i64 z]:AV)=Y)(E6:kind=6->wi<0->(.agg [.int .u8 4,.int .i64 0,.int .i64 0]:AV)=Y)(E2:kind=2->(.agg [.int .u8 2,.int .i64 v,.int .i64 0]:AV)=Y)(EI:kind≠8->(kind=6->0<=wi)->(kind≠2)->(.agg [.int .u8 1,.int .i64 0,.int .i64 0]:AV)=Y):au pg B 273 (gX 270 3 pg (az Tryz.f14) Y<|fh a n c u fs) (sF 14 Tryz.f14 [.ptr<|some (270,0)])<|ah (ak++aY (dD 270 3<|fh a n c u fs)) 273:=by exact me (E:=qT [mg,iL,jH,kX,l9]) eT rfl bI mc.2.2.1 mc.2.2.2 900 (.st 8<|.rg<|.go 1<|.cg (.tuple [(.agg<|tf kind to op nn N L aE n2 N2 L2 N3 L3 N4 L4),(.bool true)]) (vG 272) (vQ 272<|fh a n c u fs)<|.go 6<|.en<|.st 6<|.rg<|.go 2<|.fk (.go 1<|.en<|.st 2<|.rg<|.go 3<|.cg (i6 z) (vG 272) (vQ 272<|fh a n c u fs)<|.go 2<|.en<|.rt 1 .no)<|.go 1<|.en<|.st 2<|.rg<|.go 2<|.fk (.go 2<|.cg (i6 wi) (vG 272) (vQ 272<|fh a n c u fs)<|.fk (.go 2<|.en<|.rt 4 .no)<|.go 2<|.en<|.st 2<|.rg<|.go 2<|.fk (.go 1<|.en<|.st 2<|.rg<|.go 3<|.cg (i6 v) (vG 272) (vQ 272<|fh a n c u fs)<|.go 1<|.en<|.st 1<|.rg<|.go 5<|.kt (.tuple [(i6 gx),(.bool false)]) u<|.go 5<|.en<|.rt 6 .no)<|.go 1<|.en<|.rt 6 .no)<|.go 6<|.en<|.st 2<|.rg<|.go 2<|.fk (.go 1<|.en<|.st 2<|.rg<|.go 3<|.cg (i6 v) (vG 272) (vQ 272<|fh a n c u fs)<|.go 1<|.en<|.st 1<|.rg<|.go 5<|.kt (.tuple [(i6 gx),(.bool false)]) u<|.go 5<|.en<|.rt 6 .no)<|.go 1<|.en<|.rt 6 .no)<|jN [mg,iL,jH,kX,l9] 27 272 (vR iR) [] (fh a n c u fs) (.tuple [(.agg<|tf kind to op nn N L aE n2 N2 L2 N3 L3 N4 L4),(.bool true)]) hO hs rfl hY<|aT (kind=8) WV fun _=>(aT (kind=6) (fun _=>(jN [mg,iL,jH,kX,l9] 29 272 (vR rj) [] (fh a n c u fs) (i6 wi) hO hw rfl bU<|aT (wi<0) WY fun _=>(aT (kind=2) WU fun _=>Lc))) fun _=>(aT (kind=2) WU fun _=>Lc))
end kY
end
section
open Go Go.Rn Go.RowKit Go.Proofs
namespace jZ
open cj eR cH dq cU dm fY fF gJ gQ gW gm hZ iB iC iV jh jY ko kY gk
variable {to kind i:Int} {el bd:List St} {eb ea:Ex} {o:Option St} {n':Nat} {cY:List Fr} {b':bf}
noncomputable section
abbrev cZ(a:MN)(n c:Nat)(fs:List Fr)(b:bf):VS:=⟨⟨a.pre,n,.aq c 13,[.int .i64 a.steps]⟩,bJ b,(fs.map aH).flatten⟩
structure da (a:MN) (n c:Nat) (fs:List Fr) (b:bf):Prop where
 aM:du encI 1 (.U a.G a.q a.lg) a.aM
 buf:dj b
 n9:iq fs
 mU:n<=fs.length
 p0:n<=c
 len:fs.length<=1000000
 vars:1<=a.vars/\a.vars<=32
section
variable {a:MN} {n c:Nat} {fs:List Fr} {b:bf}
theorem da.wD(h:da a n c fs b):sw (cZ a n c fs b) a:=⟨rfl,rfl,h.aM⟩
theorem VN(fs:List Fr):(fs.map aH).flatten.length=fs.length*13:=by
 have:=uK (K:=13) (l:=fs.map aH) fun c hc=>by obtain⟨a,_,rfl⟩:=List.mem_map.1 hc;exact fB a
 rw[this,List.length_map]
theorem U3(fs:List Fr):(fs.map aH).flatten.all AV.cP=true:=by rw[List.all_eq_true];intro c hc;obtain⟨y,hy,hc⟩:=List.mem_flatten.1 hc;obtain⟨g,_,rfl⟩:=List.mem_map.1 hy;exact TZ g c hc
theorem da.bE(h:da a n c fs b):bE 10 (cZ a n c fs b)=true:=by
 have ht:top=549755813888:=rfl;have e1:su (cZ a n c fs b).R=true:=by have g:=h.aM.cP;unfold su;show((a.pre).all AV.cP&&([AV.int .i64 a.steps]).all AV.cP)=true;unfold MN.pre;simp only[List.all_cons,List.all_nil,g];rfl
 refine and_true.2 ⟨e1,and_true.2 ⟨U3 fs,and_true.2 ⟨aK.2 (by show 13<=top;omega),aK.2 ?_⟩⟩⟩;show(fs.map aH).flatten.length<=top;rw[VN];have:=h.len;omega
theorem ad7{a':MN}{c':Nat}(h:da a n c fs b)(h':da a' n' c' cY b')(e:cZ a n c fs b=cZ a' n' c' cY b'):a=a'/\n=n'/\c=c'/\fs=cY/\b=b':=by
 have e1:=h.wD;rw[e] at e1;have ea:=e1.inj h'.wD;injection e with e2 e3 e4
 injection e2 with e5 e6 e7 e8
 injection e7 with e7
 exact⟨ea,e6,e7,Fp _ _ h.n9 h'.n9 e4,sM _ _ e3⟩
def dE(a:MN)(e:Ex):Int:=(zp e a.l a.aM).1
def iM(x m:Int):Int:=if m<1 then 0 else if Int.tmod x m<0 then Int.tmod x m+m else Int.tmod x m
theorem afI(x m:Int):tU x m= .tuple [.int .i64<|iM x m,.int .i64 (if m<1 then 1 else 0)]:=by
 unfold tU iM
 repeat' split
 all_goals first|rfl|omega
theorem U4{x m:Int}(h:1<=m):0<=iM x m/\iM x m<m:=by
 unfold iM;rw[if_neg ab];have h1:=Int.tmod_lt_of_pos x (show 0<m by omega);have h2: - m<Int.tmod x m:=by have:=Int.lt_tmod_of_pos x (show 0<m by omega);omega
 split<;>omega
theorem tq(h:da a n c fs b)(e:Ex):vR jo (cZ a n c fs b) [.agg<|aB e]=some (i6<|dE a e):=DE jo.bM ⟨a,e,h.wD,rfl,rfl⟩
theorem OG(h:da a n c fs b)(e:Ex):vR nL (cZ a n c fs b) [.agg<|aB e]=some (i6<|iM (dE a e) a.vars):=DE nL.bM ⟨a,e,_,_,h.wD,rfl,by have:=h.vars;omega,afI _ _,rfl⟩
theorem Ts(h:da a n c fs b)(h6:n<=6):vR rj (cZ a n c fs b) []=some (i6<|iG fs n):=DE rj.bM ⟨a,n,c,fs,h.wD,rfl,rfl,rfl,rfl,h.n9,h6,h.mU,h.len,rfl⟩
theorem xd(h:da a n c fs b)(hs:mJ fs n o):vR iR (cZ a n c fs b) []=some (qu o):=DE iR.bM ⟨a,n,c,fs,o,h.wD,rfl,rfl,rfl,rfl,h.n9,h.mU,h.len,hs,rfl⟩
theorem U5{b:bf}(b6:b.length<=6)(v:Int):iK (gV bJ Bp) (bJ b) [.int .i64 v]=some (.tuple [.int .i64 (kG b v).1,.bool (kG b v).2],bJ b):=by
 unfold iK;rw[AP sM];show(match ([.int .i64 v]:List AV).all AV.hi with
  |true=>((if b.length<=6 then some (AV.tuple [.int .i64 (kG b v).1,.bool (kG b v).2],b) else none).map (fun p:AV×bf=>((p.1,bJ p.2):AV×AV))).bind fun p:AV×AV=>match p.1.hi with
   |true=>some p
   |false=>none
  |false=>none)=_
 rw[if_pos b6];rfl
theorem ad8{b:bf}(b6:b.length<=6)(v x:Int):iK (gV bJ Gb) (bJ b) [.int .i64 v,.int .i64 x]=some ((.int .i64 0:AV),bJ<|kU b v x):=by
 unfold iK;rw[AP sM];show(match ([.int .i64 v,.int .i64 x]:List AV).all AV.hi with
  |true=>((if b.length<=6 then some ((AV.int .i64 0:AV),kU b v x) else none).map (fun p:AV×bf=>((p.1,bJ p.2):AV×AV))).bind fun p:AV×AV=>match p.1.hi with
   |true=>some p
   |false=>none
  |false=>none)=_
 rw[if_pos b6];rfl
theorem abo(h:da a n c fs b){k:Nat}(hs:oo k n fs b=some (n',cY,b')):dJ eL (cZ a n c fs b) []=some (.tuple [],cZ a n' c cY b'):=Jx eL.bM ⟨a,n,c,k,n',fs,cY,b,b',h.wD,rfl,rfl,rfl,rfl,rfl,h.buf,h.n9,h.mU,h.p0,h.len,hs,rfl⟩
end
def MN.ij(a:MN)(i z:Int):MN:=match i.toNat with
 |0=>{a with x0:=z}
 |1=>{a with x1:=z}
 |2=>{a with x2:=z}
 |3=>{a with x3:=z}
 |4=>{a with x4:=z}
 |5=>{a with x5:=z}
 |6=>{a with x6:=z}
 |7=>{a with x7:=z}
 |_=>a
section
variable {a:MN} {n c:Nat} {fs:List Fr} {b:bf}
theorem U6(h0:0<=i)(h8:i<8):i=0\/i=1\/i=2\/i=3\/i=4\/i=5\/i=6\/i=7:=by omega
theorem OH{i z:Int}(h0:0<=i)(h8:i<8):vJ (cZ a n c fs b) i z=cZ (MN.ij a i z) n c fs b:=by rcases U6 h0 h8 with rfl|rfl|rfl|rfl|rfl|rfl|rfl|rfl<;>rfl
theorem abp{z:Int}:(MN.ij a i z).vars=a.vars/\(MN.ij a i z).G=a.G/\(MN.ij a i z).q=a.q/\(MN.ij a i z).lg=a.lg/\(MN.ij a i z).aM=a.aM/\(MN.ij a i z).steps=a.steps:=by unfold MN.ij;split<;>exact⟨rfl,rfl,rfl,rfl,rfl,rfl⟩
theorem da.ij{z:Int}(h:da a n c fs b):da (MN.ij a i z) n c fs b:=by
 obtain⟨e1,e2,e3,e4,e5,_⟩:=abp (a:=a) (i:=i) (z:=z);refine⟨?_,h.buf,h.n9,h.mU,h.p0,h.len,?_⟩
 ·rw[e2,e3,e4,e5];exact h.aM
 ·rw[e1];exact h.vars
theorem afJ(h:da a n c fs b)(h0:0<=to)(h8:to<8):dJ zI (cZ a n c fs b) [.agg<|aL<|.mk kind to ea eb bd el]=some (.tuple [],cZ (MN.ij a to<|dE a ea) n c fs b):=Jx zI.bM ⟨a,kind,to,ea,eb,bd,el,dE a ea,h.bE,h.wD,rfl,h0,h8,tq h ea,by rw[OH h0 h8]⟩
theorem ad9(h:da a n c fs b)(b6:b.length<=6)(h0:0<=to)(h8:to<8):dJ zu (cZ a n c fs b) [.agg<|aL<|.mk kind to ea eb bd el]=some (.tuple [],cZ (MN.ij a to (kG b<|iM (dE a ea) a.vars).1) n c fs b):=Jx zu.bM ⟨a,kind,to,ea,eb,bd,el,iM (dE a ea) a.vars,(kG b<|iM (dE a ea) a.vars).1,(kG b<|iM (dE a ea) a.vars).2,h.bE,h.wD,rfl,h0,h8,OG h ea,U5 b6 _,by rw[OH h0 h8]⟩
theorem acz(h:da a n c fs b)(b6:b.length<=6):dJ zc (cZ a n c fs b) [.agg<|aL<|.mk kind to ea eb bd el]=some (.tuple [],cZ a n c fs<|kU b (iM (dE a ea) a.vars)<|dE a eb):=Jx zc.bM ⟨a,kind,to,ea,eb,bd,el,iM (dE a ea) a.vars,dE a eb,bJ<|kU b (iM (dE a ea) a.vars)<|dE a eb,h.bE,h.wD,rfl,OG h ea,tq h eb,ad8 b6 _ _,rfl⟩
def nT(a:MN)(w:Int)(b:bf):Option St->Int×Int×Int
 |none=>(3,0,0)
 |some (.mk kind _ ea _ _ _)=>if kind=8 then(3,0,dE a ea) else if kind=6/\w<0 then(4,0,0) else if kind=2/\(kG b<|iM (dE a ea) a.vars).2=false then(2,iM (dE a ea) a.vars,0) else(1,0,0)
def BM(q:Int×Int×Int):AV:=.agg [.int .u8 q.1,.int .i64 q.2.1,.int .i64 q.2.2]
theorem Fb{w:Int}:nT a w b (some<|.mk kind to ea eb bd el)=if kind=8 then(3,0,dE a ea) else if kind=6/\w<0 then(4,0,0) else if kind=2/\(kG b<|iM (dE a ea) a.vars).2=false then(2,iM (dE a ea) a.vars,0) else(1,0,0):=rfl
theorem U7{B:aI}(mc:Mt [mg,iL,jH,kX,l9] B)(h:da a n c fs b)(h6:n<=6)(b6:b.length<=6)(hs:mJ fs n o):
 au pg B 273 (gX 270 3 pg (az Tryz.f14) (BM<|nT a (iG fs n) b o)<|cZ a n c fs b) (sF 14 Tryz.f14 [.ptr<|some (270,0)]) (ah (ak++aY (dD 270 3<|cZ a n c fs b)) 273):=by
 have hn:=xd h hs;cases o with
 |none=>exact ahj (N:=0) (L:=0) (N2:=0) (L2:=0) (N3:=0) (L3:=0) (N4:=0) (L4:=0) (kind:=0) (to:=0) (op:=0) (nn:=0) (aE:=0) (n2:=0) (z:=0) (v:=0) (wi:=0) (gx:=0) mc h.bE hn rfl
 |some s=>
  obtain⟨kind,to,ea,eb,bd,el⟩:=s;have hz:=tq h ea;have hv:=OG h ea;have hw:=Ts h h6;have hg:=U5 b6<|iM (dE a ea) a.vars;have hA:=qh ea;have hY:(qu (some<|.mk kind to ea eb bd el):AV).hi=true:=by show([AV.agg<|aL<|.mk kind to ea eb bd el,.bool true].all AV.jL)=true;have e:(AV.agg<|aL<|.mk kind to ea eb bd el).jL=true:=xL _;rw[List.all_cons,e];rfl
  have k8:kind=8->nT a (iG fs n) b (some<|.mk kind to ea eb bd el)=(3,0,dE a ea):=fun q=>if_pos q;have k6:kind=6->iG fs n<0->nT a (iG fs n) b (some<|.mk kind to ea eb bd el)=(4,0,0):=fun q r=>by rw[Fb,if_neg ab,if_pos ⟨q,r⟩]
  obtain⟨op,nn,la⟩:=ea;obtain⟨aE,n2,lb⟩:=eb;unfold qu at hn hY;rw[aB] at hz hv hA;simp only[aL,aB] at hn hY;cases hb:(kG b<|iM (dE a<|.mk op nn la) a.vars).2 with
  |true=>
   rw[hb] at hg;refine ahk mc h.bE hn hY hA hz hv hw hg (fun q=>?_) (fun q r=>?_) fun q r _=>?_
   ·rw[k8 q];rfl
   ·rw[k6 q r];rfl
   ·rw[Fb,if_neg q,if_neg (fun z=>by have:=r z.1;omega),if_neg (fun z=>by rw[hb] at z;cases z.2)];rfl
  |false=>
   rw[hb] at hg;refine ahl mc h.bE hn hY hA hz hv hw hg (fun q=>?_) (fun q r=>?_) (fun q=>?_) fun q r z=>?_
   ·rw[k8 q];rfl
   ·rw[k6 q r];rfl
   ·rw[Fb,if_neg ab,if_neg (fun z=>by omega),if_pos ⟨q,hb⟩];rfl
   ·rw[Fb,if_neg q,if_neg (fun z=>by have:=r z.1;omega),if_neg fun y=>z y.1];rfl
def kZ(st:VS)(rest:List AV)(v:AV):Prop:=∃(a:MN) (n c:Nat) (fs:List Fr) (b:bf) (o:Option St),st=cZ a n c fs b/\da a n c fs b/\rest=[]/\n<=6/\b.length<=6/\mJ fs n o/\v=BM (nT a (iG fs n) b o)
theorem kZ.bM(st:VS)(rest:List AV)(v v':AV)(h:kZ st rest v)(h':kZ st rest v'):v=v':=by obtain⟨a,n,c,fs,b,o,rfl,m1,_,_,_,s1,rfl⟩:=h;obtain⟨a',n',c',cY,b',o',e,m2,_,_,_,s2,rfl⟩:=h';obtain⟨rfl,rfl,rfl,rfl,rfl⟩:=ad7 m1 m2 e;rw[s1.bM s2]
def Qb:FuncId×KE:=(14,.raw<|ng 10 3<|vR kZ)
theorem aea(hP:bS pg){L:bO}(h:aX L):aX<|Qb::L:=by refine Fa hP gT ye jT jq mr lY h (Nt hP<|C0 hP<|FA hP<|It hP<|Mk hP de) Tryz.func14 (body:=aQ pg 14 []) aU aU fun st rest y e _=>?_;obtain⟨a,n,c,fs,b,o,rfl,m1,rfl,h6,b6,s1,rfl⟩:=FQ e;exact⟨aK.1 aU,fun B mc=>U7 mc m1 h6 b6 s1⟩
theorem zd(h:da a n c fs b)(h6:n<=6)(b6:b.length<=6)(hs:mJ fs n o):vR kZ (cZ a n c fs b) []=some (BM<|nT a (iG fs n) b o):=DE kZ.bM ⟨a,n,c,fs,b,o,rfl,h,rfl,h6,b6,hs,rfl⟩
end
end
end jZ
end
section
open Go Go.Rn Go.RowKit Go.Proofs
namespace nj
open cj eR cH dq cU dm fY fF gJ gQ gW gm hZ iB iC iV jh gk
theorem aoE{fs:List Fr}{n:Nat}{f:Fr}{cs:List AV}{X:Prop}(hc:aH f=cs)(hn:n<=fs.length)(hl:fs.length<=1000000)(x:X):
 ((.known n:bZ)= .known n/\1<=1/\some (aD aH fs)=some (.cells (fs.map aH).flatten.length (Tr.fill (fs.map aH).flatten 0 .nil) [])/\some (ae.cells cs.length (Tr.fill cs 0 .nil) [])=some (.cells cs.length (Tr.fill cs 0 .nil) [])/\(fs.map aH).flatten.length<=top/\cs.length<=top/\n*13<=(fs.map aH).flatten.length/\1*13<=cs.length/\(fs.map aH).flatten.take (n*13)++cs.take (1*13)=((fs.take n++[f]).map aH).flatten/\((fs.take n++[f]).map aH).flatten.all AV.bR=true/\2*(n+1)*136+4096*136<=room/\((fs.take n++[f]).map aH).flatten.length<=top/\X):=by
 have ht:top=549755813888:=rfl;have e1:∀l:List Fr,(l.map aH).flatten.length=l.length*13:=fun l=>by
  have:=uK (K:=13) (l:=l.map aH) fun c hc=>by obtain⟨a,_,rfl⟩:=List.mem_map.1 hc;exact fB a
  rw[this,List.length_map]
 have e2:cs.length=13:=by rw[←hc];exact fB f
 have e3:∀(l:List Fr) (k:Nat),(l.map aH).flatten.take (k*13)=((l.take k).map aH).flatten:=by
  intro l;induction l with
  |nil=>intro k;simp
  |cons x l ih=>
   intro k;cases k with
   |zero=>simp
   |succ k=>rw[List.map_cons,List.flatten_cons,List.take_succ_cons,List.map_cons,List.flatten_cons, ←ih k,List.take_append,fB,List.take_of_length_le (by rw[fB];omega),show(k+1)*13 - 13=k*13 by omega]
 refine⟨rfl,Nat.le_refl 1,rfl,rfl,by rw[e1];omega,by omega,by rw[e1];omega,by omega,?_,?_,?_,?_,x⟩
 ·rw[e3,List.map_append,List.flatten_append];congr 1;rw[List.take_of_length_le (l:=cs) ab, ←hc];simp
 ·rw[List.all_eq_true];intro c hc;obtain⟨y,hy,hc⟩:=List.mem_flatten.1 hc;obtain⟨g,_,rfl⟩:=List.mem_map.1 hy;exact List.all_eq_true.1 (MM g) c hc
 ·unfold room;omega
 ·rw[e1,List.length_append,List.length_take];show(min n fs.length+1)*13<=top;omega
end nj
end
section
open Go Go.Rn Go.RowKit Go.Proofs
namespace nU
open cj eR cH dq cU dm fY fF gJ gQ gW gm hZ iB iC iV jh nj gk
theorem Ah{fs:List Fr}{n:Nat}{X:Prop}(h1:1<=n)(hn:n<=fs.length)(hl:fs.length<=1000000)(x:X):
 ((.known 0:bZ)= .known 0/\1<=n/\some (ae.cells 0 (Tr.fill [] 0 .nil) [])=some (.cells ([]:List AV).length (Tr.fill [] 0 .nil) [])/\some (aD aH fs)=some (.cells (fs.map aH).flatten.length (Tr.fill (fs.map aH).flatten 0 .nil) [])/\([]:List AV).length<=top/\(fs.map aH).flatten.length<=top/\0*13<=([]:List AV).length/\n*13<=(fs.map aH).flatten.length/\([]:List AV).take (0*13)++(fs.map aH).flatten.take (n*13)=((fs.take n).map aH).flatten/\((fs.take n).map aH).flatten.all AV.bR=true/\2*(0+n)*136+4096*136<=room/\((fs.take n).map aH).flatten.length<=top/\X):=by
 have ht:top=549755813888:=rfl;have e1:∀l:List Fr,(l.map aH).flatten.length=l.length*13:=fun l=>by
  have:=uK (K:=13) (l:=l.map aH) fun c hc=>by obtain⟨a,_,rfl⟩:=List.mem_map.1 hc;exact fB a
  rw[this,List.length_map]
 have e3:∀(l:List Fr) (k:Nat),(l.map aH).flatten.take (k*13)=((l.take k).map aH).flatten:=by
  intro l;induction l with
  |nil=>intro k;simp
  |cons x l ih=>
   intro k;cases k with
   |zero=>simp
   |succ k=>rw[List.map_cons,List.flatten_cons,List.take_succ_cons,List.map_cons,List.flatten_cons, ←ih k,List.take_append,fB,List.take_of_length_le (by rw[fB];omega),show(k+1)*13 - 13=k*13 by omega]
 refine⟨rfl,h1,rfl,rfl,Nat.zero_le _,by rw[e1];omega,by show 0*13<=0;omega,by rw[e1];omega,?_,?_,?_,?_,x⟩
 ·rw[e3];rfl
 ·rw[List.all_eq_true];intro c hc;obtain⟨y,hy,hc⟩:=List.mem_flatten.1 hc;obtain⟨g,_,rfl⟩:=List.mem_map.1 hy;exact List.all_eq_true.1 (MM g) c hc
 ·unfold room;omega
 ·rw[e1,List.length_take];omega
end nU
end
section
open Go Go.Rn Go.RowKit Go.Proofs
namespace oU
open cj fW eZ im fQ iA eR cH dq cU dm fY fF gJ gQ gW gk gm hZ iB iC iV jh jY ko kY jZ nj nU kF
variable {fs:List Fr} {B:aI} {u:AV} {r:Nat->Nat} {c:Nat} {a:MN}
noncomputable section
theorem Hk{n:Nat}{f:Fr}{cs:List AV}{X:Prop}(hc:aH f=cs)(h1:1<=n)(hn:n<=fs.length)(hl:fs.length<=1000000)(x:X):
 ((.known n:bZ)= .known n/\1<=n/\1<=1/\some (aD aH fs)=some (.cells (fs.map aH).flatten.length (Tr.fill (fs.map aH).flatten 0 .nil) [])/\some (ae.cells cs.length (Tr.fill cs 0 .nil) [])=some (.cells cs.length (Tr.fill cs 0 .nil) [])/\(fs.map aH).flatten.length<=top/\cs.length<=top/\n*13<=(fs.map aH).flatten.length/\1*13<=cs.length/\(fs.map aH).flatten.take (n*13)++cs.take (1*13)=((fs.take n++[f]).map aH).flatten/\((fs.take n++[f]).map aH).flatten.all AV.bR=true/\2*(n+1)*136+4096*136<=room/\((fs.take n++[f]).map aH).flatten.length<=top/\X):=
 have h:=aoE hc hn hl x
 ⟨h.1,h1,h.2⟩
theorem U8{k:Nat}{v:AV}:fD [] r (.tok k v)<|.tok k v:=fun _ _ _ _ _ _=>trivial
theorem IQ(hr:∀k,top<=k->r k=k)(hl:fs.length<=1000000):fD [] r (aD aH fs)<|aD aH fs:=fun ρ fG N o m h=>by have ht:top=549755813888:=rfl;refine Ge (ρ:=ρ) (fun k x hk e=>?_) (by rw[VN];omega) (U3 fs) h;show fG (r k)=some x;rw[hr k hk];exact m.1 _ _ e
abbrev LM:bO:=[Qb,mg,iL,jH,kX,l9,yV,P8,Pw,OE,OA,OB]
abbrev aP(p:List AV)(n:Nat)(cap:bZ)(st:Int)(u:AV)(fs:List Fr):VS:=⟨⟨p,n,cap,[.int .i64 st]⟩,u,(fs.map aH).flatten⟩
abbrev l7(B:aI)(rs:List ResultVar)(st:VS)(fr:AF)(s:AS):Prop:=au pg B 271 (gX 270 3 pg rs (.int .i64 0) st) fr s
abbrev ln(f j nt:Nat)(K:List Item):AF:=⟨f,aC [(j,.int .i64 0)],nt,K,[],none⟩
def oE(A:MN)(n:Nat)(cap:bZ)(u:AV)(fs:List Fr)(r:Nat):List<|Nat×Option ae:=[(270,some<|.cells 13 (Tr.fill (A.row (.ptr<|some (271,0)) (.slice (some (r,0)) n cap)<|.int .i64 A.steps) 0 .nil) []),(271,some<|.tok 3 u),(r,some<|aD aH fs)]
abbrev oe(A:MN)(n:Nat)(cap:bZ)(u:AV)(fs:List Fr):AS:=ah (ak++oE A n cap u fs 272) 273
abbrev Ai(j:Nat)(A:MN)(n:Nat)(cap:bZ)(u:AV)(fs:List Fr)(r bx:Nat):Pl:=.rn [(j,.int .i64 0)] (ak++oE A n cap u fs r) [(j,.int .i64 0)] (ak++oE A n cap u fs 272) bx 273 .no
theorem Ep(f j nt:Nat)(K:List Item)(A:MN)(n:Nat)(cap:bZ)(u:AV)(fs:List Fr)(r bx:Nat)(hlen:fs.length<=1000000)(nM:(AV.U A.G A.q A.lg).cP=true)(hb:Ae [(271,271),(272,r)] 271 bx 273 [270,271,272]=true:=by as_aux_lemma=>kernel_rfl)(hi:Kv [(271,271),(272,r)]=true:=by as_aux_lemma=>kernel_rfl)(hj:j<1000:=by omega):
 ([(j,AV.int .i64 0)].map (fun q=>some q.2)=[(j,AV.int .i64 0)].map (fun q=>some q.2))/\((ak++oE A n cap u fs r).map (fun q=>q.2)=(ak++oE A n cap u fs r).map (fun q=>q.2))/\hU FU 271 bx [(j,.int .i64 0)] (ak++oE A n cap u fs r) [(j,.int .i64 0)] (ak++oE A n cap u fs 272) 273/\(ln f j nt K=ln f j nt K/\oe A n cap u fs=oe A n cap u fs):=by
 have ht:top=549755813888:=rfl;refine⟨rfl,rfl,J3 (ps:=[(271,271),(272,r)]) (lo:=271) (bx:=bx) ab hb hi (fun q hr ht=>⟨⟨by show j<top;omega,.int .i64 0,List.mem_cons_self,(bp.int _ _).z⟩,trivial⟩) fun q hr ht=>?_,rfl,rfl⟩;have e0:q 270=270:=by rw[hr];rfl
 have e1:q 271=271:=by rw[hr];rfl
 have e2:q 272=r:=by rw[hr];rfl
 refine⟨fun y hy=>?_,fun y hy=>?_,fun y hy=>?_,trivial⟩
 ·cases hy;refine⟨rfl,.cells 13 (Tr.fill (A.row (.ptr<|some (271,0)) (.slice (some (r,0)) n cap)<|.int .i64 A.steps) 0 .nil) [],?_,xc,?_⟩
  ·show(q 270,_)∈_;rw[e0];exact List.mem_cons_self
  ·exact Tq (l:=[.int .i64 A.vars,.U A.G A.q A.lg,.int .i64 A.x0,.int .i64 A.x1,.int .i64 A.x2,.int .i64 A.x3,.int .i64 A.x4,.int .i64 A.x5,.int .i64 A.x6,.int .i64 A.x7,.ptr<|some (271,0),.slice (some (r,0)) n cap,.int .i64 A.steps]) (m:=[.int .i64 A.vars,.U A.G A.q A.lg,.int .i64 A.x0,.int .i64 A.x1,.int .i64 A.x2,.int .i64 A.x3,.int .i64 A.x4,.int .i64 A.x5,.int .i64 A.x6,.int .i64 A.x7,.ptr<|some (271,0),.slice (some (272,0)) n cap,.int .i64 A.steps]) (rest:=[]) (by show 13<=top;omega) ⟨(bp.int _ _).z,(Ox ht (show(AV.U A.G A.q A.lg).hi=true from nM)).z,(bp.int _ _).z,(bp.int _ _).z,(bp.int _ _).z,(bp.int _ _).z,(bp.int _ _).z,(bp.int _ _).z,(bp.int _ _).z,(bp.int _ _).z,(bp.ptr e1).z,(bp.slice e2).z,(bp.int _ _).z,trivial⟩ rfl
 ·cases hy;refine⟨rfl,.tok 3 u,?_,fM.refl _,U8⟩;show(q 271,_)∈_;rw[e1];exact List.mem_cons_of_mem _ List.mem_cons_self
 ·cases hy;refine⟨rfl,aD aH fs,?_,fM.refl _,IQ ht hlen⟩;show(q 272,_)∈_;rw[e2];exact List.mem_cons_of_mem _<|List.mem_cons_of_mem _ List.mem_cons_self
theorem Aj(mc:Mt LM B){f nt:Nat}{t:Tr AV}{K:List Item}{s:AS}{rs:List ResultVar}{st:VS}{FR:AF}{S1:AS}(H:l7 B rs st FR S1)(p:Pl){T:Prop}(x:T)(h:T=wp (o8 LM) 900 6 (.fr f nt K t s) p rs (fun v s _=>v= .int .i64 0/\∀m o,(m,o)∈dD 270 3 st->s.h.get m=some o) (fun fr s1 _=>fr=FR/\s1=S1):=by as_aux_lemma=>kernel_rfl)(h0:Nat.ble 271 s.nx=true:=by as_aux_lemma=>kernel_rfl):l7 B rs st ⟨f,t,nt,K,[],none⟩ s:=Cg mc (C:=fun fr s1 _=>fr=FR/\s1=S1) (fun fr s1 p hC=>by obtain⟨rfl,rfl⟩:=hC;exact H) p x h h0
theorem Bq{n:Nat}(mc:Mt LM B):l7 B (az Tryz.f15) (aP a.pre n (.aq c 13) a.steps u fs) (ln 15 2 38<|cv 15 [1,1,1,1,1,1,1,1,1])<|oe a n (.aq c 13) u fs:=by exact Eu mc (.rt 1 .no)<|mN (st:=(aP a.pre n (.aq c 13) a.steps u fs)) (s:=oe a n (.aq c 13) u fs) (show(i0:AV)= .int .i64 0 from rfl) bW bW bW
theorem ahm{n:Nat}(mc:Mt LM B):l7 B (az Tryz.f41) (aP a.pre n (.aq c 13) a.steps u fs) (ln 41 4 38<|cv 41 [1,1,1,1,1,1,1,1])<|oe a n (.aq c 13) u fs:=by exact Eu mc (.rt 1 .no)<|mN (st:=(aP a.pre n (.aq c 13) a.steps u fs)) (s:=oe a n (.aq c 13) u fs) (show(i0:AV)= .int .i64 0 from rfl) bW bW bW
end
end oU
end
section
open Go Go.Rn Go.RowKit Go.Proofs
namespace Xf
open cj fW eZ im fQ iA eR cH dq cU dm fY fF gJ gQ gW gk gm hZ iB iC iV jh jY ko kY jZ nj nU kF oU
noncomputable abbrev Bh(ka to op nn:Int)(N L:Nat)(aE n2:Int)(N2 L2:Nat)(bd el:List St):AV:=.agg [(.int .u8 ka),(i6 to),(u8<|op),(i6 nn),(.U N 0 L),(u8<|aE),(i6 n2),(.U N2 0 L2),(.U (nm (bd.map aL).flatten) 0 bd.length),(.U (nm (el.map aL).flatten) 0 el.length)]
noncomputable abbrev OI(fs:List Fr)(n:Nat):Fr:=({(av (fs.take n)<|(((0+n):Nat):Int) - 1) with ar:=((av (fs.take n)<|(((0+n):Nat):Int) - 1).ar+1),turns:=(av (fs.take n)<|(((0+n):Nat):Int) - 1).turns}:Fr)
noncomputable abbrev JA(a:MN)(n:Nat)(u:AV)(fs:List Fr):VS:=aP a.pre (0+n) (.aq (0+n) 13) (a.steps+1) u<|(fs.take n).set ((((0+n):Nat):Int) - 1).toNat<|OI fs n
theorem step1{ka:Int}{kb:VS->List AV->AV×VS->Prop}{kc:Nat}(hk:(ka=1/\kb=zI/\kc=32)\/(ka=2/\kb=zu/\kc=33)\/(ka=3/\kb=zc/\kc=34)){B:aI}{a:MN}{n c:Nat}{u:AV}{fs:List Fr}{A1:MN}{m1 c1:Nat}{u1:AV}{bt:List Fr}{A2:MN}{m2 c2:Nat}{u2:AV}{bh:List Fr}{N L N2 L2:Nat}{to op nn aE n2 z wi t:Int}{bd el ol fb:List St}{fa ft y0 y1 y2 y3 y4 y5 y6 y7:Int}{fo:Bool}{ub:AV}(mc:Mt LM B)(h1:1<=n)(hn:n<=fs.length)(hc:n<=c)(hf:fs.length<=1000000)(hR:fs.length*13<=top)(ax:0<=(av (fs.take n)<|((0+n:Nat):Int) - 1).ar/\(av (fs.take n)<|((0+n:Nat):Int) - 1).ar<=1000000)(cC:0<=a.steps/\a.steps<=1000000000000)(hlen:bh.length<=1000000)(nM:(AV.U A2.G A2.q A2.lg).cP=true)(k0:bE 10 (aP a.pre n (.aq c 13) a.steps u fs)=true)(k1:vR kZ (aP a.pre n (.aq c 13) a.steps u fs) []=some (.agg [(u8<|.ofNat 1),i0,i0]))(k2:((.tuple [(Bh ka to op nn N L aE n2 N2 L2 bd el),(.bool true)]):AV).hi=true)(k3:vR iR (aP a.pre n (.aq c 13) a.steps u fs) []=some (.tuple [(Bh ka to op nn N L aE n2 N2 L2 bd el),(.bool true)]))(k4:([(Bh ka to op nn N L aE n2 N2 L2 bd el)]:List AV).all AV.hi=true)(k5:bE 10 (JA a n u fs)=true)(k6:dJ kb (JA a n u fs) [(Bh ka to op nn N L aE n2 N2 L2 bd el)]=some (.tuple [],(aP A1.pre m1 (.aq c1 13) A1.steps u1 bt)))(k7:bE 10 (aP A1.pre m1 (.aq c1 13) A1.steps u1 bt)=true)(k8:dJ eL (aP A1.pre m1 (.aq c1 13) A1.steps u1 bt) []=some (.tuple [],(aP A2.pre m2 (.aq c2 13) A2.steps u2 bh)))(k9:bE 10 (aP A2.pre m2 (.aq c2 13) A2.steps u2 bh)=true)(H:l7 B (az Tryz.f15) (aP A2.pre m2 (.aq c2 13) A2.steps u2 bh) (ln 15 2 38<|cv 15 [1,1,1,1,1,1,1,1,1])<|oe A2 m2 (.aq c2 13) u2 bh):l7 B (az Tryz.f15) (aP A2.pre m2 (.aq c2 13) A2.steps u2 bh) (sF 15 Tryz.f15 [(.ptr<|some (270,0))])<|ah (ak++aY (dD 270 3<|aP a.pre n (.aq c 13) a.steps u fs)) 273:=by
 have ht:top=549755813888:=rfl;have ur:sp LM kc=some (nf 10 3 (dJ kb) 270 dV dH):=by rcases hk with⟨_,rfl,rfl⟩|⟨_,rfl,rfl⟩|⟨_,rfl,rfl⟩<;>kernel_rfl
 have TT:=(yF LM 14 272 (vR kZ) [] (aP a.pre n (.aq c 13) a.steps u fs) (.agg [(u8<|.ofNat 1),i0,i0]) k0 k1<|jN LM 27 272 (vR iR) [] (aP a.pre n (.aq c 13) a.steps u fs) (.tuple [(Bh ka to op nn N L aE n2 N2 L2 bd el),(.bool true)]) k0 k3 bW k2<|ai (wI<|a.steps+1)<|Ah (fs:=fs) (n:=n) ab DU DU<|ai (wI<|(((0+n):Nat):Int) - 1)<|dU ((((0+n):Nat):Int) - 1) (((0+n):Nat):Int)<|ai (mD fB DU (jg (l:=(fs.take n)) (z:=((((0+n):Nat):Int) - 1)) ab DU) 1 1 rfl)<|ai (wI<|(av (fs.take n)<|(((0+n):Nat):Int) - 1).ar+1)<|dU ((((0+n):Nat):Int) - 1) (((0+n):Nat):Int)<|ai (ru fB DU (jg (l:=(fs.take n)) (z:=((((0+n):Nat):Int) - 1)) ab DU) (c':=(OI fs n)) (r:=[(i6<|((av (fs.take n)<|(((0+n):Nat):Int) - 1).ar+1))]) 1 rfl rfl rfl)<|Yo (h1:=ur) LM kc 276 (dJ kb) [(Bh ka to op nn N L aE n2 N2 L2 bd el)] (JA a n u fs) (aP A1.pre m1 (.aq c1 13) A1.steps u1 bt) k5 k6 k7 k4<|wh LM 40 276 (dJ eL) [] (aP A1.pre m1 (.aq c1 13) A1.steps u1 bt) (aP A2.pre m2 (.aq c2 13) A2.steps u2 bh) k7 k8 k9<|Ep 15 2 38 (cv 15 [1,1,1,1,1,1,1,1,1]) A2 m2 (.aq c2 13) u2 bh 276 277 hlen nM);let P:Pl:=(.st 8<|.rg<|.go 1<|.cg (.agg [(u8<|.ofNat 1),i0,i0]) (vG 272) (vQ 272<|aP a.pre n (.aq c 13) a.steps u fs)<|.go 3<|.en<|.st 6<|.rg<|.go 1<|.cg (.tuple [(Bh ka to op nn N L aE n2 N2 L2 bd el),(.bool true)]) (vG 272) (vQ 272<|aP a.pre n (.aq c 13) a.steps u fs)<|.go 6<|.en<|.st 1<|.rg<|.go 4<|.vl (i6<|a.steps+1)<|.go 3<|.en<|.st 1<|.rg<|.go 1<|.il<|.st 1<|.rg<|.go 4<|.il<|.st 8<|.rg<|.go 2<|.ao [] (((fs).map aH).flatten) ((((fs.take n)).map aH).flatten)<|.go 1<|.en<|.rt 1<|.go 1<|.en<|.st 1<|.rg<|.go 3<|.vl (i6<|(((0+n):Nat):Int) - 1)<|.ix<|.go 1<|.ld [(i6<|(av (fs.take n)<|(((0+n):Nat):Int) - 1).ar)]<|.vl (i6<|(av (fs.take n)<|(((0+n):Nat):Int) - 1).ar+1)<|.ix<|.go 1<|.np (aD aH<|(fs.take n).set ((((0+n):Nat):Int) - 1).toNat<|OI fs n)<|.en<|.rt 2<|.en<|.st 1<|.rg<|.go 6<|.cg (.tuple []) (vF 276<|aP A1.pre m1 (.aq c1 13) A1.steps u1 bt) (vQ 276<|JA a n u fs)<|.en<|.st 1<|.rg<|.go 1<|.cg (.tuple []) (vF 276<|aP A2.pre m2 (.aq c2 13) A2.steps u2 bh) (vQ 276<|aP A1.pre m1 (.aq c1 13) A1.steps u1 bt)<|.en<|.st 2<|(Ai 2 A2 m2 (.aq c2 13) u2 bh 276 277));rcases hk with⟨rfl,rfl,rfl⟩|⟨rfl,rfl,rfl⟩|⟨rfl,rfl,rfl⟩
 all_goals exact Aj mc H P TT aU
end Xf
end
section
open Go Go.Rn Go.RowKit Go.Proofs
namespace Wv
open cj fW eZ im fQ iA eR cH dq cU dm fY fF gJ gQ gW gk gm hZ iB iC iV jh jY ko kY jZ nj nU kF oU
noncomputable abbrev AT(fs:List Fr)(n:Nat):Fr:=({(av (fs.take n)<|(((0+n):Nat):Int) - 1) with ar:=((av (fs.take n)<|(((0+n):Nat):Int) - 1).ar+1),turns:=(av (fs.take n)<|(((0+n):Nat):Int) - 1).turns}:Fr)
noncomputable abbrev IV(a:MN)(n:Nat)(u:AV)(fs:List Fr)(bd:List St):VS:=aP a.pre ((((0+n):Nat):Int).toNat+1) (.aq ((((0+n):Nat):Int).toNat+1) 13) (a.steps+1) u<|((fs.take n).set ((((0+n):Nat):Int) - 1).toNat<|AT fs n).take (((0+n):Nat):Int).toNat++[(⟨bd,0,0,false,[0,0,0,0,0,0,0,0],none⟩:Fr)]
noncomputable abbrev IW(to op nn:Int)(N L:Nat)(aE n2:Int)(N2 L2:Nat)(bd el:List St):AV:=.tuple [(.agg [(u8<|.ofNat 4),(i6 to),(u8<|op),(i6 nn),(.U N 0 L),(u8<|aE),(i6 n2),(.U N2 0 L2),(.U (nm (bd.map aL).flatten) 0 bd.length),(.U (nm (el.map aL).flatten) 0 el.length)]),(.bool true)]
noncomputable abbrev IX(a:MN)(n:Nat)(u:AV)(fs:List Fr):VS:=aP a.pre (0+n) (.aq (0+n) 13) (a.steps+1) u<|(fs.take n).set ((((0+n):Nat):Int) - 1).toNat<|AT fs n
noncomputable abbrev Oc(bd:List St):List AV:=[(.U (nm (bd.map aL).flatten) 0 bd.length),i0,i0,(.bool false),i0,i0,i0,i0,i0,i0,i0,i0,(.slice none 0<|.known 0)]
theorem afK{B:aI}{a:MN}{n c:Nat}{u:AV}{fs:List Fr}{A1:MN}{m1 c1:Nat}{u1:AV}{bt:List Fr}{A2:MN}{m2 c2:Nat}{u2:AV}{bh:List Fr}{N L N2 L2:Nat}{to op nn aE n2 z wi t:Int}{bd el ol fb:List St}{fa ft y0 y1 y2 y3 y4 y5 y6 y7:Int}{fo:Bool}{ub:AV}(mc:Mt LM B)(h1:1<=n)(hn:n<=fs.length)(hc:n<=c)(hf:fs.length<=1000000)(hR:fs.length*13<=top)(ax:0<=(av (fs.take n)<|((0+n:Nat):Int) - 1).ar/\(av (fs.take n)<|((0+n:Nat):Int) - 1).ar<=1000000)(cC:0<=a.steps/\a.steps<=1000000000000)(hlen:bh.length<=1000000)(nM:(AV.U A2.G A2.q A2.lg).cP=true)(hz:z≠0)(k0:bE 10 (aP a.pre n (.aq c 13) a.steps u fs)=true)(k1:vR kZ (aP a.pre n (.aq c 13) a.steps u fs) []=some (.agg [(u8<|.ofNat 1),i0,i0]))(k2:((IW to op nn N L aE n2 N2 L2 bd el):AV).hi=true)(k3:vR iR (aP a.pre n (.aq c 13) a.steps u fs) []=some (IW to op nn N L aE n2 N2 L2 bd el))(k4:([.agg [.int .u8 op,.int .i64 nn,.U N 0 L]]:List AV).all AV.hi=true)(k5:bE 10 (IX a n u fs)=true)(k6:vR jo (IX a n u fs) [(.agg [(u8<|op),(i6 nn),(.U N 0 L)])]=some (i6 z))(k7:bE 10 (IV a n u fs bd)=true)(k8:dJ eL (IV a n u fs bd) []=some (.tuple [],(aP A1.pre m1 (.aq c1 13) A1.steps u1 bt)))(k9:bE 10 (aP A1.pre m1 (.aq c1 13) A1.steps u1 bt)=true)(sc:dJ eL (aP A1.pre m1 (.aq c1 13) A1.steps u1 bt) []=some (.tuple [],(aP A2.pre m2 (.aq c2 13) A2.steps u2 bh)))(yr:bE 10 (aP A2.pre m2 (.aq c2 13) A2.steps u2 bh)=true)(H:l7 B (az Tryz.f15) (aP A2.pre m2 (.aq c2 13) A2.steps u2 bh) (ln 15 2 38<|cv 15 [1,1,1,1,1,1,1,1,1])<|oe A2 m2 (.aq c2 13) u2 bh):l7 B (az Tryz.f15) (aP A2.pre m2 (.aq c2 13) A2.steps u2 bh) (sF 15 Tryz.f15 [(.ptr<|some (270,0))])<|ah (ak++aY (dD 270 3<|aP a.pre n (.aq c 13) a.steps u fs)) 273:=by have ht:top=549755813888:=rfl;exact Aj mc H (.st 8<|.rg<|.go 1<|.cg (.agg [(u8<|.ofNat 1),i0,i0]) (vG 272) (vQ 272<|aP a.pre n (.aq c 13) a.steps u fs)<|.go 3<|.en<|.st 6<|.rg<|.go 1<|.cg (IW to op nn N L aE n2 N2 L2 bd el) (vG 272) (vQ 272<|aP a.pre n (.aq c 13) a.steps u fs)<|.go 6<|.en<|.st 1<|.rg<|.go 4<|.vl (i6<|a.steps+1)<|.go 3<|.en<|.st 1<|.rg<|.go 1<|.il<|.st 1<|.rg<|.go 4<|.il<|.st 8<|.rg<|.go 2<|.ao [] (((fs).map aH).flatten) ((((fs.take n)).map aH).flatten)<|.go 1<|.en<|.rt 1<|.go 1<|.en<|.st 1<|.rg<|.go 3<|.vl (i6<|(((0+n):Nat):Int) - 1)<|.ix<|.go 1<|.ld [(i6<|(av (fs.take n)<|(((0+n):Nat):Int) - 1).ar)]<|.vl (i6<|(av (fs.take n)<|(((0+n):Nat):Int) - 1).ar+1)<|.ix<|.go 1<|.np (aD aH<|(fs.take n).set ((((0+n):Nat):Int) - 1).toNat<|AT fs n)<|.en<|.rt 2<|.en<|.st 1<|.rg<|.go 6<|.il<|.st 4<|.rg<|.go 3<|.cg (i6 z) (vG 276) (vQ 276<|IX a n u fs)<|.fk (.en<|.st 2<|.rg<|.go 4<|.il<|.st 3<|.rg<|.go 15<|.s3<|.go 2<|.an (((((fs.take n).set ((((0+n):Nat):Int) - 1).toNat<|AT fs n)).map aH).flatten) (Oc bd) ((((((fs.take n).set ((((0+n):Nat):Int) - 1).toNat<|AT fs n).take (((0+n):Nat):Int).toNat++[(⟨bd,0,0,false,[0,0,0,0,0,0,0,0],none⟩:Fr)])).map aH).flatten)<|.go 3<|.en<|.rg<|.go 1<|.cg (.tuple []) (vF 280<|aP A1.pre m1 (.aq c1 13) A1.steps u1 bt) (vQ 280<|IV a n u fs bd)<|.en<|.rt 1<|.en<|.rt 1<|.en<|.st 1<|.rg<|.go 1<|.cg (.tuple []) (vF 280<|aP A2.pre m2 (.aq c2 13) A2.steps u2 bh) (vQ 280<|aP A1.pre m1 (.aq c1 13) A1.steps u1 bt)<|.en<|.st 2<|(Ai 2 A2 m2 (.aq c2 13) u2 bh 280 281))<|.no)<|yF LM 14 272 (vR kZ) [] (aP a.pre n (.aq c 13) a.steps u fs) (.agg [(u8<|.ofNat 1),i0,i0]) k0 k1<|jN LM 27 272 (vR iR) [] (aP a.pre n (.aq c 13) a.steps u fs) (IW to op nn N L aE n2 N2 L2 bd el) k0 k3 bU k2<|ai BE<|Ah (fs:=fs) (n:=n) ab dS dS<|ai BD<|dU ((((0+n):Nat):Int) - 1) (((0+n):Nat):Int)<|ai (mD fB dS (jg (l:=(fs.take n)) (z:=((((0+n):Nat):Int) - 1)) ab dS) 1 1 rfl)<|ai BB<|dU ((((0+n):Nat):Int) - 1) (((0+n):Nat):Int)<|ai (ru fB dS (jg (l:=(fs.take n)) (z:=((((0+n):Nat):Int) - 1)) ab dS) (c':=(AT fs n)) (r:=[(i6<|((av (fs.take n)<|(((0+n):Nat):Int) - 1).ar+1))]) 1 rfl rfl rfl)<|jN LM 28 276 (vR jo) [(.agg [(u8<|op),(i6 nn),(.U N 0 L)])] (IX a n u fs) (i6 z) k5 k6 k4 bU<|aT (z≠0) (fun _=>(ai (show 0<=(((0+n):Nat):Int) from ab)<|ai (show(((0+n):Nat):Int)<=(((0+n):Nat):Int) from ab)<|ai (show(((0+n):Nat):Int)<=Int.ofNat (jd (0+n)<|.aq (0+n) 13) from(show(((0+n):Nat):Int)<=(((0+n):Nat):Int) from by omega))<|Hk (fs:=((fs.take n).set ((((0+n):Nat):Int) - 1).toNat<|AT fs n)) (n:=(((0+n):Nat):Int).toNat) (f:=(⟨bd,0,0,false,[0,0,0,0,0,0,0,0],none⟩:Fr)) (cs:=(Oc bd)) (show aH (⟨bd,0,0,false,[0,0,0,0,0,0,0,0],none⟩:Fr)=(Oc bd) from rfl) ab dS dS<|wh LM 40 280 (dJ eL) [] (IV a n u fs bd) (aP A1.pre m1 (.aq c1 13) A1.steps u1 bt) k7 k8 k9 PW)) gb
end Wv
end
section
open Go Go.Rn Go.RowKit Go.Proofs
namespace Ww
open cj fW eZ im fQ iA eR cH dq cU dm fY fF gJ gQ gW gk gm hZ iB iC iV jh jY ko kY jZ nj nU kF oU
noncomputable abbrev AU(fs:List Fr)(n:Nat):Fr:=({(av (fs.take n)<|(((0+n):Nat):Int) - 1) with ar:=((av (fs.take n)<|(((0+n):Nat):Int) - 1).ar+1),turns:=(av (fs.take n)<|(((0+n):Nat):Int) - 1).turns}:Fr)
noncomputable abbrev IY(a:MN)(n:Nat)(u:AV)(fs:List Fr)(el:List St):VS:=aP a.pre ((((0+n):Nat):Int).toNat+1) (.aq ((((0+n):Nat):Int).toNat+1) 13) (a.steps+1) u<|((fs.take n).set ((((0+n):Nat):Int) - 1).toNat<|AU fs n).take (((0+n):Nat):Int).toNat++[(⟨el,0,0,false,[0,0,0,0,0,0,0,0],none⟩:Fr)]
noncomputable abbrev IZ(to op nn:Int)(N L:Nat)(aE n2:Int)(N2 L2:Nat)(bd el:List St):AV:=.tuple [(.agg [(u8<|.ofNat 4),(i6 to),(u8<|op),(i6 nn),(.U N 0 L),(u8<|aE),(i6 n2),(.U N2 0 L2),(.U (nm (bd.map aL).flatten) 0 bd.length),(.U (nm (el.map aL).flatten) 0 el.length)]),(.bool true)]
noncomputable abbrev I0(a:MN)(n:Nat)(u:AV)(fs:List Fr):VS:=aP a.pre (0+n) (.aq (0+n) 13) (a.steps+1) u<|(fs.take n).set ((((0+n):Nat):Int) - 1).toNat<|AU fs n
noncomputable abbrev Od(el:List St):List AV:=[(.U (nm (el.map aL).flatten) 0 el.length),i0,i0,(.bool false),i0,i0,i0,i0,i0,i0,i0,i0,(.slice none 0<|.known 0)]
theorem afL{B:aI}{a:MN}{n c:Nat}{u:AV}{fs:List Fr}{A1:MN}{m1 c1:Nat}{u1:AV}{bt:List Fr}{A2:MN}{m2 c2:Nat}{u2:AV}{bh:List Fr}{N L N2 L2:Nat}{to op nn aE n2 z wi t:Int}{bd el ol fb:List St}{fa ft y0 y1 y2 y3 y4 y5 y6 y7:Int}{fo:Bool}{ub:AV}(mc:Mt LM B)(h1:1<=n)(hn:n<=fs.length)(hc:n<=c)(hf:fs.length<=1000000)(hR:fs.length*13<=top)(ax:0<=(av (fs.take n)<|((0+n:Nat):Int) - 1).ar/\(av (fs.take n)<|((0+n:Nat):Int) - 1).ar<=1000000)(cC:0<=a.steps/\a.steps<=1000000000000)(hlen:bh.length<=1000000)(nM:(AV.U A2.G A2.q A2.lg).cP=true)(hz:z=0)(k0:bE 10 (aP a.pre n (.aq c 13) a.steps u fs)=true)(k1:vR kZ (aP a.pre n (.aq c 13) a.steps u fs) []=some (.agg [(u8<|.ofNat 1),i0,i0]))(k2:((IZ to op nn N L aE n2 N2 L2 bd el):AV).hi=true)(k3:vR iR (aP a.pre n (.aq c 13) a.steps u fs) []=some (IZ to op nn N L aE n2 N2 L2 bd el))(k4:([.agg [.int .u8 op,.int .i64 nn,.U N 0 L]]:List AV).all AV.hi=true)(k5:bE 10 (I0 a n u fs)=true)(k6:vR jo (I0 a n u fs) [(.agg [(u8<|op),(i6 nn),(.U N 0 L)])]=some (i6 z))(k7:bE 10 (IY a n u fs el)=true)(k8:dJ eL (IY a n u fs el) []=some (.tuple [],(aP A1.pre m1 (.aq c1 13) A1.steps u1 bt)))(k9:bE 10 (aP A1.pre m1 (.aq c1 13) A1.steps u1 bt)=true)(sc:dJ eL (aP A1.pre m1 (.aq c1 13) A1.steps u1 bt) []=some (.tuple [],(aP A2.pre m2 (.aq c2 13) A2.steps u2 bh)))(yr:bE 10 (aP A2.pre m2 (.aq c2 13) A2.steps u2 bh)=true)(H:l7 B (az Tryz.f15) (aP A2.pre m2 (.aq c2 13) A2.steps u2 bh) (ln 15 2 38<|cv 15 [1,1,1,1,1,1,1,1,1])<|oe A2 m2 (.aq c2 13) u2 bh):l7 B (az Tryz.f15) (aP A2.pre m2 (.aq c2 13) A2.steps u2 bh) (sF 15 Tryz.f15 [(.ptr<|some (270,0))])<|ah (ak++aY (dD 270 3<|aP a.pre n (.aq c 13) a.steps u fs)) 273:=by have ht:top=549755813888:=rfl;exact Aj mc H (.st 8<|.rg<|.go 1<|.cg (.agg [(u8<|.ofNat 1),i0,i0]) (vG 272) (vQ 272<|aP a.pre n (.aq c 13) a.steps u fs)<|.go 3<|.en<|.st 6<|.rg<|.go 1<|.cg (IZ to op nn N L aE n2 N2 L2 bd el) (vG 272) (vQ 272<|aP a.pre n (.aq c 13) a.steps u fs)<|.go 6<|.en<|.st 1<|.rg<|.go 4<|.vl (i6<|a.steps+1)<|.go 3<|.en<|.st 1<|.rg<|.go 1<|.il<|.st 1<|.rg<|.go 4<|.il<|.st 8<|.rg<|.go 2<|.ao [] (((fs).map aH).flatten) ((((fs.take n)).map aH).flatten)<|.go 1<|.en<|.rt 1<|.go 1<|.en<|.st 1<|.rg<|.go 3<|.vl (i6<|(((0+n):Nat):Int) - 1)<|.ix<|.go 1<|.ld [(i6<|(av (fs.take n)<|(((0+n):Nat):Int) - 1).ar)]<|.vl (i6<|(av (fs.take n)<|(((0+n):Nat):Int) - 1).ar+1)<|.ix<|.go 1<|.np (aD aH<|(fs.take n).set ((((0+n):Nat):Int) - 1).toNat<|AU fs n)<|.en<|.rt 2<|.en<|.st 1<|.rg<|.go 6<|.il<|.st 4<|.rg<|.go 3<|.cg (i6 z) (vG 276) (vQ 276<|I0 a n u fs)<|.fk (.no)<|.en<|.st 2<|.rg<|.go 4<|.il<|.st 3<|.rg<|.go 15<|.s3<|.go 2<|.an (((((fs.take n).set ((((0+n):Nat):Int) - 1).toNat<|AU fs n)).map aH).flatten) (Od el) ((((((fs.take n).set ((((0+n):Nat):Int) - 1).toNat<|AU fs n).take (((0+n):Nat):Int).toNat++[(⟨el,0,0,false,[0,0,0,0,0,0,0,0],none⟩:Fr)])).map aH).flatten)<|.go 3<|.en<|.rg<|.go 1<|.cg (.tuple []) (vF 280<|aP A1.pre m1 (.aq c1 13) A1.steps u1 bt) (vQ 280<|IY a n u fs el)<|.en<|.rt 1<|.en<|.rt 1<|.en<|.st 1<|.rg<|.go 1<|.cg (.tuple []) (vF 280<|aP A2.pre m2 (.aq c2 13) A2.steps u2 bh) (vQ 280<|aP A1.pre m1 (.aq c1 13) A1.steps u1 bt)<|.en<|.st 2<|(Ai 2 A2 m2 (.aq c2 13) u2 bh 280 281))<|yF LM 14 272 (vR kZ) [] (aP a.pre n (.aq c 13) a.steps u fs) (.agg [(u8<|.ofNat 1),i0,i0]) k0 k1<|jN LM 27 272 (vR iR) [] (aP a.pre n (.aq c 13) a.steps u fs) (IZ to op nn N L aE n2 N2 L2 bd el) k0 k3 bU k2<|ai BE<|Ah (fs:=fs) (n:=n) ab dS dS<|ai BD<|dU ((((0+n):Nat):Int) - 1) (((0+n):Nat):Int)<|ai (mD fB dS (jg (l:=(fs.take n)) (z:=((((0+n):Nat):Int) - 1)) ab dS) 1 1 rfl)<|ai BB<|dU ((((0+n):Nat):Int) - 1) (((0+n):Nat):Int)<|ai (ru fB dS (jg (l:=(fs.take n)) (z:=((((0+n):Nat):Int) - 1)) ab dS) (c':=(AU fs n)) (r:=[(i6<|((av (fs.take n)<|(((0+n):Nat):Int) - 1).ar+1))]) 1 rfl rfl rfl)<|jN LM 28 276 (vR jo) [(.agg [(u8<|op),(i6 nn),(.U N 0 L)])] (I0 a n u fs) (i6 z) k5 k6 k4 bU<|aT (z≠0) gb fun _=>(ai (show 0<=(((0+n):Nat):Int) from ab)<|ai (show(((0+n):Nat):Int)<=(((0+n):Nat):Int) from ab)<|ai (show(((0+n):Nat):Int)<=Int.ofNat (jd (0+n)<|.aq (0+n) 13) from(show(((0+n):Nat):Int)<=(((0+n):Nat):Int) from by omega))<|Hk (fs:=((fs.take n).set ((((0+n):Nat):Int) - 1).toNat<|AU fs n)) (n:=(((0+n):Nat):Int).toNat) (f:=(⟨el,0,0,false,[0,0,0,0,0,0,0,0],none⟩:Fr)) (cs:=(Od el)) (show aH (⟨el,0,0,false,[0,0,0,0,0,0,0,0],none⟩:Fr)=(Od el) from rfl) ab dS dS<|wh LM 40 280 (dJ eL) [] (IY a n u fs el) (aP A1.pre m1 (.aq c1 13) A1.steps u1 bt) k7 k8 k9 PW)
end Ww
end
section
open Go Go.Rn Go.RowKit Go.Proofs
namespace Wx
open cj fW eZ im fQ iA eR cH dq cU dm fY fF gJ gQ gW gk gm hZ iB iC iV jh jY ko kY jZ nj nU kF oU
noncomputable abbrev AW(fs:List Fr)(n:Nat):Fr:=({(av (fs.take n)<|(((0+n):Nat):Int) - 1) with ar:=((av (fs.take n)<|(((0+n):Nat):Int) - 1).ar+1),turns:=(av (fs.take n)<|(((0+n):Nat):Int) - 1).turns}:Fr)
noncomputable abbrev I1(a:MN)(n:Nat)(u:AV)(fs:List Fr)(bd:List St)(z:Int):VS:=aP a.pre ((((0+n):Nat):Int).toNat+1) (.aq ((((0+n):Nat):Int).toNat+1) 13) (a.steps+1) u<|((fs.take n).set ((((0+n):Nat):Int) - 1).toNat<|AW fs n).take (((0+n):Nat):Int).toNat++[(⟨bd,0,((dY (cL z<|0)<|8) - 1),false,[0,0,0,0,0,0,0,0],none⟩:Fr)]
noncomputable abbrev I2(to op nn:Int)(N L:Nat)(aE n2:Int)(N2 L2:Nat)(bd el:List St):AV:=.tuple [(.agg [(u8<|.ofNat 5),(i6 to),(u8<|op),(i6 nn),(.U N 0 L),(u8<|aE),(i6 n2),(.U N2 0 L2),(.U (nm (bd.map aL).flatten) 0 bd.length),(.U (nm (el.map aL).flatten) 0 el.length)]),(.bool true)]
noncomputable abbrev Oe(bd:List St)(z:Int):List AV:=[(.U (nm (bd.map aL).flatten) 0 bd.length),i0,(i6<|((dY (cL z (0:Int)) (8:Int)) - 1)),(.bool false),i0,i0,i0,i0,i0,i0,i0,i0,(.slice none 0<|.known 0)]
noncomputable abbrev I3(a:MN)(n:Nat)(u:AV)(fs:List Fr):VS:=aP a.pre (0+n) (.aq (0+n) 13) (a.steps+1) u<|(fs.take n).set ((((0+n):Nat):Int) - 1).toNat<|AW fs n
theorem afM{B:aI}{a:MN}{n c:Nat}{u:AV}{fs:List Fr}{A1:MN}{m1 c1:Nat}{u1:AV}{bt:List Fr}{A2:MN}{m2 c2:Nat}{u2:AV}{bh:List Fr}{N L N2 L2:Nat}{to op nn aE n2 z wi t:Int}{bd el ol fb:List St}{fa ft y0 y1 y2 y3 y4 y5 y6 y7:Int}{fo:Bool}{ub:AV}(mc:Mt LM B)(h1:1<=n)(hn:n<=fs.length)(hc:n<=c)(hf:fs.length<=1000000)(hR:fs.length*13<=top)(ax:0<=(av (fs.take n)<|((0+n:Nat):Int) - 1).ar/\(av (fs.take n)<|((0+n:Nat):Int) - 1).ar<=1000000)(cC:0<=a.steps/\a.steps<=1000000000000)(hlen:bh.length<=1000000)(nM:(AV.U A2.G A2.q A2.lg).cP=true)(hz:0<(dY (cL z<|0)<|8)/\(dY (cL z<|0)<|8)<=8)(k0:bE 10 (aP a.pre n (.aq c 13) a.steps u fs)=true)(k1:vR kZ (aP a.pre n (.aq c 13) a.steps u fs) []=some (.agg [(u8<|.ofNat 1),i0,i0]))(k2:((I2 to op nn N L aE n2 N2 L2 bd el):AV).hi=true)(k3:vR iR (aP a.pre n (.aq c 13) a.steps u fs) []=some (I2 to op nn N L aE n2 N2 L2 bd el))(k4:([.agg [.int .u8 op,.int .i64 nn,.U N 0 L]]:List AV).all AV.hi=true)(k5:bE 10 (I3 a n u fs)=true)(k6:vR jo (I3 a n u fs) [(.agg [(u8<|op),(i6 nn),(.U N 0 L)])]=some (i6 z))(k7:bE 10 (I1 a n u fs bd z)=true)(k8:dJ eL (I1 a n u fs bd z) []=some (.tuple [],(aP A1.pre m1 (.aq c1 13) A1.steps u1 bt)))(k9:bE 10 (aP A1.pre m1 (.aq c1 13) A1.steps u1 bt)=true)(sc:dJ eL (aP A1.pre m1 (.aq c1 13) A1.steps u1 bt) []=some (.tuple [],(aP A2.pre m2 (.aq c2 13) A2.steps u2 bh)))(yr:bE 10 (aP A2.pre m2 (.aq c2 13) A2.steps u2 bh)=true)(H:l7 B (az Tryz.f15) (aP A2.pre m2 (.aq c2 13) A2.steps u2 bh) (ln 15 2 38<|cv 15 [1,1,1,1,1,1,1,1,1])<|oe A2 m2 (.aq c2 13) u2 bh):l7 B (az Tryz.f15) (aP A2.pre m2 (.aq c2 13) A2.steps u2 bh) (sF 15 Tryz.f15 [(.ptr<|some (270,0))])<|ah (ak++aY (dD 270 3<|aP a.pre n (.aq c 13) a.steps u fs)) 273:=by have ht:top=549755813888:=rfl;exact Aj mc H (.st 8<|.rg<|.go 1<|.cg (.agg [(u8<|.ofNat 1),i0,i0]) (vG 272) (vQ 272<|aP a.pre n (.aq c 13) a.steps u fs)<|.go 3<|.en<|.st 6<|.rg<|.go 1<|.cg (I2 to op nn N L aE n2 N2 L2 bd el) (vG 272) (vQ 272<|aP a.pre n (.aq c 13) a.steps u fs)<|.go 6<|.en<|.st 1<|.rg<|.go 4<|.vl (i6<|a.steps+1)<|.go 3<|.en<|.st 1<|.rg<|.go 1<|.il<|.st 1<|.rg<|.go 4<|.il<|.st 8<|.rg<|.go 2<|.ao [] (((fs).map aH).flatten) ((((fs.take n)).map aH).flatten)<|.go 1<|.en<|.rt 1<|.go 1<|.en<|.st 1<|.rg<|.go 3<|.vl (i6<|(((0+n):Nat):Int) - 1)<|.ix<|.go 1<|.ld [(i6<|(av (fs.take n)<|(((0+n):Nat):Int) - 1).ar)]<|.vl (i6<|(av (fs.take n)<|(((0+n):Nat):Int) - 1).ar+1)<|.ix<|.go 1<|.np (aD aH<|(fs.take n).set ((((0+n):Nat):Int) - 1).toNat<|AW fs n)<|.en<|.rt 2<|.en<|.st 1<|.rg<|.go 6<|.il<|.st 3<|.rg<|.go 3<|.cg (i6 z) (vG 276) (vQ 276<|I3 a n u fs)<|.vl (i6<|(cL z (0:Int)))<|.vl (i6<|(dY (cL z (0:Int)) (8:Int)))<|.go 1<|.en<|.st 1<|.rg<|.go 1<|.fk (.en<|.st 1<|.rg<|.go 4<|.vl (i6<|(dY (cL z (0:Int)) (8:Int)) - 1)<|.go 1<|.il<|.st 3<|.rg<|.go 15<|.s3<|.go 2<|.an (((((fs.take n).set ((((0+n):Nat):Int) - 1).toNat<|AW fs n)).map aH).flatten) (Oe bd z) ((((((fs.take n).set ((((0+n):Nat):Int) - 1).toNat<|AW fs n).take (((0+n):Nat):Int).toNat++[(⟨bd,0,((dY (cL z<|0)<|8) - 1),false,[0,0,0,0,0,0,0,0],none⟩:Fr)])).map aH).flatten)<|.go 3<|.en<|.rg<|.go 1<|.cg (.tuple []) (vF 280<|aP A1.pre m1 (.aq c1 13) A1.steps u1 bt) (vQ 280<|I1 a n u fs bd z)<|.en<|.rt 1<|.en<|.rt 1<|.en<|.st 1<|.rg<|.go 1<|.cg (.tuple []) (vF 280<|aP A2.pre m2 (.aq c2 13) A2.steps u2 bh) (vQ 280<|aP A1.pre m1 (.aq c1 13) A1.steps u1 bt)<|.en<|.st 2<|(Ai 2 A2 m2 (.aq c2 13) u2 bh 280 281))<|.no)<|yF LM 14 272 (vR kZ) [] (aP a.pre n (.aq c 13) a.steps u fs) (.agg [(u8<|.ofNat 1),i0,i0]) k0 k1<|jN LM 27 272 (vR iR) [] (aP a.pre n (.aq c 13) a.steps u fs) (I2 to op nn N L aE n2 N2 L2 bd el) k0 k3 bU k2<|ai BE<|Ah (fs:=fs) (n:=n) ab dS dS<|ai BD<|dU ((((0+n):Nat):Int) - 1) (((0+n):Nat):Int)<|ai (mD fB dS (jg (l:=(fs.take n)) (z:=((((0+n):Nat):Int) - 1)) ab dS) 1 1 rfl)<|ai BB<|dU ((((0+n):Nat):Int) - 1) (((0+n):Nat):Int)<|ai (ru fB dS (jg (l:=(fs.take n)) (z:=((((0+n):Nat):Int) - 1)) ab dS) (c':=(AW fs n)) (r:=[(i6<|((av (fs.take n)<|(((0+n):Nat):Int) - 1).ar+1))]) 1 rfl rfl rfl)<|jN LM 28 276 (vR jo) [(.agg [(u8<|op),(i6 nn),(.U N 0 L)])] (I3 a n u fs) (i6 z) k5 k6 k4 bU<|ai (congrArg (AV.int .i64) (show(match decide ((0:Int)>z) with|true=>(0:Int)|false=>z)=cL z (0:Int) from rfl))<|ai (congrArg (AV.int .i64) (show(match decide ((8:Int)<(cL z (0:Int))) with|true=>(8:Int)|false=>(cL z (0:Int)))=dY (cL z (0:Int)) (8:Int) from rfl))<|aT ((dY (cL z (0:Int)) (8:Int))>0) (fun _=>(ai (wI<|(dY (cL z (0:Int)) (8:Int)) - 1)<|ai (show 0<=(((0+n):Nat):Int) from ab)<|ai (show(((0+n):Nat):Int)<=(((0+n):Nat):Int) from ab)<|ai (show(((0+n):Nat):Int)<=Int.ofNat (jd (0+n)<|.aq (0+n) 13) from(show(((0+n):Nat):Int)<=(((0+n):Nat):Int) from by omega))<|Hk (fs:=((fs.take n).set ((((0+n):Nat):Int) - 1).toNat<|AW fs n)) (n:=(((0+n):Nat):Int).toNat) (f:=(⟨bd,0,((dY (cL z<|0)<|8) - 1),false,[0,0,0,0,0,0,0,0],none⟩:Fr)) (cs:=(Oe bd z)) (show aH (⟨bd,0,((dY (cL z<|0)<|8) - 1),false,[0,0,0,0,0,0,0,0],none⟩:Fr)=(Oe bd z) from rfl) ab dS dS<|wh LM 40 280 (dJ eL) [] (I1 a n u fs bd z) (aP A1.pre m1 (.aq c1 13) A1.steps u1 bt) k7 k8 k9 PW)) gb
end Wx
end
section
open Go Go.Rn Go.RowKit Go.Proofs
namespace Wy
open cj fW eZ im fQ iA eR cH dq cU dm fY fF gJ gQ gW gk gm hZ iB iC iV jh jY ko kY jZ nj nU kF oU
noncomputable abbrev AY(a:MN)(n:Nat)(u:AV)(fs:List Fr):VS:=aP a.pre (0+n) (.aq (0+n) 13) (a.steps+1) u<|(fs.take n).set ((((0+n):Nat):Int) - 1).toNat ({(av (fs.take n)<|(((0+n):Nat):Int) - 1) with ar:=((av (fs.take n)<|(((0+n):Nat):Int) - 1).ar+1),turns:=(av (fs.take n)<|(((0+n):Nat):Int) - 1).turns}:Fr)
noncomputable abbrev I4(to op nn:Int)(N L:Nat)(aE n2:Int)(N2 L2:Nat)(bd el:List St):AV:=.tuple [(.agg [(u8<|.ofNat 5),(i6 to),(u8<|op),(i6 nn),(.U N 0 L),(u8<|aE),(i6 n2),(.U N2 0 L2),(.U (nm (bd.map aL).flatten) 0 bd.length),(.U (nm (el.map aL).flatten) 0 el.length)]),(.bool true)]
theorem afN{B:aI}{a:MN}{n c:Nat}{u:AV}{fs:List Fr}{A1:MN}{m1 c1:Nat}{u1:AV}{bt:List Fr}{A2:MN}{m2 c2:Nat}{u2:AV}{bh:List Fr}{N L N2 L2:Nat}{to op nn aE n2 z wi t:Int}{bd el ol fb:List St}{fa ft y0 y1 y2 y3 y4 y5 y6 y7:Int}{fo:Bool}{ub:AV}(mc:Mt LM B)(h1:1<=n)(hn:n<=fs.length)(hc:n<=c)(hf:fs.length<=1000000)(hR:fs.length*13<=top)(ax:0<=(av (fs.take n)<|((0+n:Nat):Int) - 1).ar/\(av (fs.take n)<|((0+n:Nat):Int) - 1).ar<=1000000)(cC:0<=a.steps/\a.steps<=1000000000000)(hlen:bt.length<=1000000)(nM:(AV.U A1.G A1.q A1.lg).cP=true)(hz:(dY (cL z<|0)<|8)<=0)(k0:bE 10 (aP a.pre n (.aq c 13) a.steps u fs)=true)(k1:vR kZ (aP a.pre n (.aq c 13) a.steps u fs) []=some (.agg [(u8<|.ofNat 1),i0,i0]))(k2:((I4 to op nn N L aE n2 N2 L2 bd el):AV).hi=true)(k3:vR iR (aP a.pre n (.aq c 13) a.steps u fs) []=some (I4 to op nn N L aE n2 N2 L2 bd el))(k4:([.agg [.int .u8 op,.int .i64 nn,.U N 0 L]]:List AV).all AV.hi=true)(k5:bE 10 (AY a n u fs)=true)(k6:vR jo (AY a n u fs) [(.agg [(u8<|op),(i6 nn),(.U N 0 L)])]=some (i6 z))(k7:dJ eL (AY a n u fs) []=some (.tuple [],(aP A1.pre m1 (.aq c1 13) A1.steps u1 bt)))(k8:bE 10 (aP A1.pre m1 (.aq c1 13) A1.steps u1 bt)=true)(H:l7 B (az Tryz.f15) (aP A1.pre m1 (.aq c1 13) A1.steps u1 bt) (ln 15 2 38<|cv 15 [1,1,1,1,1,1,1,1,1])<|oe A1 m1 (.aq c1 13) u1 bt):l7 B (az Tryz.f15) (aP A1.pre m1 (.aq c1 13) A1.steps u1 bt) (sF 15 Tryz.f15 [(.ptr<|some (270,0))])<|ah (ak++aY (dD 270 3<|aP a.pre n (.aq c 13) a.steps u fs)) 273:=by have ht:top=549755813888:=rfl;exact Aj mc H (.st 8<|.rg<|.go 1<|.cg (.agg [(u8<|.ofNat 1),i0,i0]) (vG 272) (vQ 272<|aP a.pre n (.aq c 13) a.steps u fs)<|.go 3<|.en<|.st 6<|.rg<|.go 1<|.cg (I4 to op nn N L aE n2 N2 L2 bd el) (vG 272) (vQ 272<|aP a.pre n (.aq c 13) a.steps u fs)<|.go 6<|.en<|.st 1<|.rg<|.go 4<|.vl (i6<|a.steps+1)<|.go 3<|.en<|.st 1<|.rg<|.go 1<|.il<|.st 1<|.rg<|.go 4<|.il<|.st 8<|.rg<|.go 2<|.ao [] (((fs).map aH).flatten) ((((fs.take n)).map aH).flatten)<|.go 1<|.en<|.rt 1<|.go 1<|.en<|.st 1<|.rg<|.go 3<|.vl (i6<|(((0+n):Nat):Int) - 1)<|.ix<|.go 1<|.ld [(i6<|(av (fs.take n)<|(((0+n):Nat):Int) - 1).ar)]<|.vl (i6<|(av (fs.take n)<|(((0+n):Nat):Int) - 1).ar+1)<|.ix<|.go 1<|.np (aD aH<|(fs.take n).set ((((0+n):Nat):Int) - 1).toNat ({(av (fs.take n)<|(((0+n):Nat):Int) - 1) with ar:=((av (fs.take n)<|(((0+n):Nat):Int) - 1).ar+1),turns:=(av (fs.take n)<|(((0+n):Nat):Int) - 1).turns}:Fr))<|.en<|.rt 2<|.en<|.st 1<|.rg<|.go 6<|.il<|.st 3<|.rg<|.go 3<|.cg (i6 z) (vG 276) (vQ 276<|AY a n u fs)<|.vl (i6<|(cL z (0:Int)))<|.vl (i6<|(dY (cL z (0:Int)) (8:Int)))<|.go 1<|.en<|.st 1<|.rg<|.go 1<|.fk (.no)<|.en<|.rt 3<|.en<|.st 1<|.rg<|.go 1<|.cg (.tuple []) (vF 276<|aP A1.pre m1 (.aq c1 13) A1.steps u1 bt) (vQ 276<|AY a n u fs)<|.en<|.st 2<|(Ai 2 A1 m1 (.aq c1 13) u1 bt 276 278))<|yF LM 14 272 (vR kZ) [] (aP a.pre n (.aq c 13) a.steps u fs) (.agg [(u8<|.ofNat 1),i0,i0]) k0 k1<|jN LM 27 272 (vR iR) [] (aP a.pre n (.aq c 13) a.steps u fs) (I4 to op nn N L aE n2 N2 L2 bd el) k0 k3 bU k2<|ai BE<|Ah (fs:=fs) (n:=n) ab dS dS<|ai BD<|dU ((((0+n):Nat):Int) - 1) (((0+n):Nat):Int)<|ai (mD fB dS (jg (l:=(fs.take n)) (z:=((((0+n):Nat):Int) - 1)) ab dS) 1 1 rfl)<|ai BB<|dU ((((0+n):Nat):Int) - 1) (((0+n):Nat):Int)<|ai (ru fB dS (jg (l:=(fs.take n)) (z:=((((0+n):Nat):Int) - 1)) ab dS) (c':=({(av (fs.take n)<|(((0+n):Nat):Int) - 1) with ar:=((av (fs.take n)<|(((0+n):Nat):Int) - 1).ar+1),turns:=(av (fs.take n)<|(((0+n):Nat):Int) - 1).turns}:Fr)) (r:=[(i6<|((av (fs.take n)<|(((0+n):Nat):Int) - 1).ar+1))]) 1 rfl rfl rfl)<|jN LM 28 276 (vR jo) [(.agg [(u8<|op),(i6 nn),(.U N 0 L)])] (AY a n u fs) (i6 z) k5 k6 k4 bU<|ai (congrArg (AV.int .i64) (show(match decide ((0:Int)>z) with|true=>(0:Int)|false=>z)=cL z (0:Int) from rfl))<|ai (congrArg (AV.int .i64) (show(match decide ((8:Int)<(cL z (0:Int))) with|true=>(8:Int)|false=>(cL z (0:Int)))=dY (cL z (0:Int)) (8:Int) from rfl))<|aT ((dY (cL z (0:Int)) (8:Int))>0) gb fun _=>(wh LM 40 276 (dJ eL) [] (AY a n u fs) (aP A1.pre m1 (.aq c1 13) A1.steps u1 bt) k5 k7 k8<|Ep 15 2 38 (cv 15 [1,1,1,1,1,1,1,1,1]) A1 m1 (.aq c1 13) u1 bt 276 278 hlen nM)
end Wy
end
section
open Go Go.Rn Go.RowKit Go.Proofs
namespace Xg
open cj fW eZ im fQ iA eR cH dq cU dm fY fF gJ gQ gW gk gm hZ iB iC iV jh jY ko kY jZ nj nU kF oU
noncomputable abbrev Df(fs:List Fr)(n:Nat):Fr:=({(av (fs.take n)<|(((0+n):Nat):Int) - 1) with ar:=((av (fs.take n)<|(((0+n):Nat):Int) - 1).ar+1),turns:=(av (fs.take n)<|(((0+n):Nat):Int) - 1).turns}:Fr)
noncomputable abbrev JB(a:MN)(n:Nat)(ub:AV)(fs:List Fr)(bd el:List St):VS:=aP a.pre ((((0+n):Nat):Int).toNat+1) (.aq ((((0+n):Nat):Int).toNat+1) 13) (a.steps+1) ub<|((fs.take n).set ((((0+n):Nat):Int) - 1).toNat<|Df fs n).take (((0+n):Nat):Int).toNat++[(⟨bd,0,0,true,[a.x0,a.x1,a.x2,a.x3,a.x4,a.x5,a.x6,a.x7],(some el)⟩:Fr)]
noncomputable abbrev JC(to op nn:Int)(N L:Nat)(aE n2:Int)(N2 L2:Nat)(bd el:List St):AV:=.tuple [(.agg [(u8<|.ofNat 7),(i6 to),(u8<|op),(i6 nn),(.U N 0 L),(u8<|aE),(i6 n2),(.U N2 0 L2),(.U (nm (bd.map aL).flatten) 0 bd.length),(.U (nm (el.map aL).flatten) 0 el.length)]),(.bool true)]
noncomputable abbrev OJ(bd:List St)(a:MN)(el:List St):List AV:=[(.U (nm (bd.map aL).flatten) 0 bd.length),i0,i0,(.bool true),(i6 a.x0),(i6 a.x1),(i6 a.x2),(i6 a.x3),(i6 a.x4),(i6 a.x5),(i6 a.x6),(i6 a.x7),(.U (nm (el.map aL).flatten) 0 el.length)]
theorem ahn{B:aI}{a:MN}{n c:Nat}{u:AV}{fs:List Fr}{A1:MN}{m1 c1:Nat}{u1:AV}{bt:List Fr}{A2:MN}{m2 c2:Nat}{u2:AV}{bh:List Fr}{N L N2 L2:Nat}{to op nn aE n2 z wi t:Int}{bd el ol fb:List St}{fa ft y0 y1 y2 y3 y4 y5 y6 y7:Int}{fo:Bool}{ub:AV}(mc:Mt LM B)(h1:1<=n)(hn:n<=fs.length)(hc:n<=c)(hf:fs.length<=1000000)(hR:fs.length*13<=top)(ax:0<=(av (fs.take n)<|((0+n:Nat):Int) - 1).ar/\(av (fs.take n)<|((0+n:Nat):Int) - 1).ar<=1000000)(cC:0<=a.steps/\a.steps<=1000000000000)(hlen:bh.length<=1000000)(nM:(AV.U A2.G A2.q A2.lg).cP=true)(k0:bE 10 (aP a.pre n (.aq c 13) a.steps u fs)=true)(k1:vR kZ (aP a.pre n (.aq c 13) a.steps u fs) []=some (.agg [(u8<|.ofNat 1),i0,i0]))(k2:((JC to op nn N L aE n2 N2 L2 bd el):AV).hi=true)(k3:vR iR (aP a.pre n (.aq c 13) a.steps u fs) []=some (JC to op nn N L aE n2 N2 L2 bd el))(k4:iK (gV bJ Jv) u []=some ((.int .i64 0:AV),ub))(k5:bE 10 (JB a n ub fs bd el)=true)(k6:dJ eL (JB a n ub fs bd el) []=some (.tuple [],(aP A1.pre m1 (.aq c1 13) A1.steps u1 bt)))(k7:bE 10 (aP A1.pre m1 (.aq c1 13) A1.steps u1 bt)=true)(k8:dJ eL (aP A1.pre m1 (.aq c1 13) A1.steps u1 bt) []=some (.tuple [],(aP A2.pre m2 (.aq c2 13) A2.steps u2 bh)))(k9:bE 10 (aP A2.pre m2 (.aq c2 13) A2.steps u2 bh)=true)(H:l7 B (az Tryz.f15) (aP A2.pre m2 (.aq c2 13) A2.steps u2 bh) (ln 15 2 38<|cv 15 [1,1,1,1,1,1,1,1,1])<|oe A2 m2 (.aq c2 13) u2 bh):l7 B (az Tryz.f15) (aP A2.pre m2 (.aq c2 13) A2.steps u2 bh) (sF 15 Tryz.f15 [(.ptr<|some (270,0))])<|ah (ak++aY (dD 270 3<|aP a.pre n (.aq c 13) a.steps u fs)) 273:=by have ht:top=549755813888:=rfl;exact Aj mc H (.st 8<|.rg<|.go 1<|.cg (.agg [(u8<|.ofNat 1),i0,i0]) (vG 272) (vQ 272<|aP a.pre n (.aq c 13) a.steps u fs)<|.go 3<|.en<|.st 6<|.rg<|.go 1<|.cg (JC to op nn N L aE n2 N2 L2 bd el) (vG 272) (vQ 272<|aP a.pre n (.aq c 13) a.steps u fs)<|.go 6<|.en<|.st 1<|.rg<|.go 4<|.vl (i6<|a.steps+1)<|.go 3<|.en<|.st 1<|.rg<|.go 1<|.il<|.st 1<|.rg<|.go 4<|.il<|.st 8<|.rg<|.go 2<|.ao [] (((fs).map aH).flatten) ((((fs.take n)).map aH).flatten)<|.go 1<|.en<|.rt 1<|.go 1<|.en<|.st 1<|.rg<|.go 3<|.vl (i6<|(((0+n):Nat):Int) - 1)<|.ix<|.go 1<|.ld [(i6<|(av (fs.take n)<|(((0+n):Nat):Int) - 1).ar)]<|.vl (i6<|(av (fs.take n)<|(((0+n):Nat):Int) - 1).ar+1)<|.ix<|.go 1<|.np (aD aH<|(fs.take n).set ((((0+n):Nat):Int) - 1).toNat<|Df fs n)<|.en<|.rt 2<|.en<|.st 1<|.rg<|.go 6<|.il<|.st 3<|.rg<|.go 4<|.kt i0 ub<|.en<|.rg<|.go 10<|.il<|.st 3<|.rg<|.go 15<|.s3<|.go 2<|.an (((((fs.take n).set ((((0+n):Nat):Int) - 1).toNat<|Df fs n)).map aH).flatten) (OJ bd a el) ((((((fs.take n).set ((((0+n):Nat):Int) - 1).toNat<|Df fs n).take (((0+n):Nat):Int).toNat++[(⟨bd,0,0,true,[a.x0,a.x1,a.x2,a.x3,a.x4,a.x5,a.x6,a.x7],(some el)⟩:Fr)])).map aH).flatten)<|.go 3<|.en<|.rg<|.go 1<|.cg (.tuple []) (vF 280<|aP A1.pre m1 (.aq c1 13) A1.steps u1 bt) (vQ 280<|JB a n ub fs bd el)<|.en<|.rt 1<|.en<|.rt 1<|.en<|.st 1<|.rg<|.go 1<|.cg (.tuple []) (vF 280<|aP A2.pre m2 (.aq c2 13) A2.steps u2 bh) (vQ 280<|aP A1.pre m1 (.aq c1 13) A1.steps u1 bt)<|.en<|.st 2<|(Ai 2 A2 m2 (.aq c2 13) u2 bh 280 281))<|yF LM 14 272 (vR kZ) [] (aP a.pre n (.aq c 13) a.steps u fs) (.agg [(u8<|.ofNat 1),i0,i0]) k0 k1<|jN LM 27 272 (vR iR) [] (aP a.pre n (.aq c 13) a.steps u fs) (JC to op nn N L aE n2 N2 L2 bd el) k0 k3 bU k2<|ai BE<|Ah (fs:=fs) (n:=n) ab dS dS<|ai BD<|dU ((((0+n):Nat):Int) - 1) (((0+n):Nat):Int)<|ai (mD fB dS (jg (l:=(fs.take n)) (z:=((((0+n):Nat):Int) - 1)) ab dS) 1 1 rfl)<|ai BB<|dU ((((0+n):Nat):Int) - 1) (((0+n):Nat):Int)<|ai (ru fB dS (jg (l:=(fs.take n)) (z:=((((0+n):Nat):Int) - 1)) ab dS) (c':=(Df fs n)) (r:=[(i6<|((av (fs.take n)<|(((0+n):Nat):Int) - 1).ar+1))]) 1 rfl rfl rfl)<|ai k4<|ai (show 0<=(((0+n):Nat):Int) from ab)<|ai (show(((0+n):Nat):Int)<=(((0+n):Nat):Int) from ab)<|ai (show(((0+n):Nat):Int)<=Int.ofNat (jd (0+n)<|.aq (0+n) 13) from(show(((0+n):Nat):Int)<=(((0+n):Nat):Int) from by omega))<|Hk (fs:=((fs.take n).set ((((0+n):Nat):Int) - 1).toNat<|Df fs n)) (n:=(((0+n):Nat):Int).toNat) (f:=(⟨bd,0,0,true,[a.x0,a.x1,a.x2,a.x3,a.x4,a.x5,a.x6,a.x7],(some el)⟩:Fr)) (cs:=(OJ bd a el)) (show aH (⟨bd,0,0,true,[a.x0,a.x1,a.x2,a.x3,a.x4,a.x5,a.x6,a.x7],(some el)⟩:Fr)=(OJ bd a el) from rfl) ab dS dS<|wh LM 40 280 (dJ eL) [] (JB a n ub fs bd el) (aP A1.pre m1 (.aq c1 13) A1.steps u1 bt) k5 k6 k7<|wh LM 40 280 (dJ eL) [] (aP A1.pre m1 (.aq c1 13) A1.steps u1 bt) (aP A2.pre m2 (.aq c2 13) A2.steps u2 bh) k7 k8 k9<|Ep 15 2 38 (cv 15 [1,1,1,1,1,1,1,1,1]) A2 m2 (.aq c2 13) u2 bh 280 281 hlen nM
end Xg
end
section
open Go Go.Rn Go.RowKit Go.Proofs
namespace Xh
open cj fW eZ im fQ iA eR cH dq cU dm fY fF gJ gQ gW gk gm hZ iB iC iV jh jY ko kY jZ nj nU kF oU
noncomputable abbrev ze(fs:List Fr)(n:Nat):Fr:=({(av (fs.take n)<|(((0+n):Nat):Int) - 1) with ar:=((av (fs.take n)<|(((0+n):Nat):Int) - 1).ar+1),turns:=(av (fs.take n)<|(((0+n):Nat):Int) - 1).turns}:Fr)
noncomputable abbrev JD(a:MN)(y0 y1 y2 y3 y4 y5 y6 y7 wi:Int)(ub:AV)(fs:List Fr)(n:Nat)(ol:List St):VS:=aP [(i6 a.vars),(.U a.G a.q a.lg),(i6 y0),(i6 y1),(i6 y2),(i6 y3),(i6 y4),(i6 y5),(i6 y6),(i6 y7)] ((((wi).toNat:Nat):Int).toNat+1) (.aq ((((wi).toNat:Nat):Int).toNat+1) 13) (a.steps+1) ub<|((fs.take n).set ((((0+n):Nat):Int) - 1).toNat<|ze fs n).take (((wi).toNat:Nat):Int).toNat++[(⟨ol,0,0,false,[0,0,0,0,0,0,0,0],none⟩:Fr)]
noncomputable abbrev JE(to op nn:Int)(N L:Nat)(aE n2:Int)(N2 L2:Nat)(bd el:List St):AV:=.tuple [(.agg [(u8<|.ofNat 6),(i6 to),(u8<|op),(i6 nn),(.U N 0 L),(u8<|aE),(i6 n2),(.U N2 0 L2),(.U (nm (bd.map aL).flatten) 0 bd.length),(.U (nm (el.map aL).flatten) 0 el.length)]),(.bool true)]
noncomputable abbrev JF(a:MN)(n:Nat)(u:AV)(fs:List Fr):VS:=aP a.pre (0+n) (.aq (0+n) 13) (a.steps+1) u<|(fs.take n).set ((((0+n):Nat):Int) - 1).toNat<|ze fs n
noncomputable abbrev OK(ol:List St):List AV:=[(.U (nm (ol.map aL).flatten) 0 ol.length),i0,i0,(.bool false),i0,i0,i0,i0,i0,i0,i0,i0,(.slice none 0<|.known 0)]
theorem aho{B:aI}{a:MN}{n c:Nat}{u:AV}{fs:List Fr}{A1:MN}{m1 c1:Nat}{u1:AV}{bt:List Fr}{A2:MN}{m2 c2:Nat}{u2:AV}{bh:List Fr}{N L N2 L2:Nat}{to op nn aE n2 z wi t:Int}{bd el ol fb:List St}{fa ft y0 y1 y2 y3 y4 y5 y6 y7:Int}{fo:Bool}{ub:AV}(mc:Mt LM B)(h1:1<=n)(hn:n<=fs.length)(hc:n<=c)(hf:fs.length<=1000000)(hR:fs.length*13<=top)(ax:0<=(av (fs.take n)<|((0+n:Nat):Int) - 1).ar/\(av (fs.take n)<|((0+n:Nat):Int) - 1).ar<=1000000)(cC:0<=a.steps/\a.steps<=1000000000000)(hlen:bh.length<=1000000)(nM:(AV.U A2.G A2.q A2.lg).cP=true)(hz:1<=wi/\wi<(n:Int))(k0:bE 10 (aP a.pre n (.aq c 13) a.steps u fs)=true)(k1:vR kZ (aP a.pre n (.aq c 13) a.steps u fs) []=some (.agg [(u8<|.ofNat 1),i0,i0]))(k2:((JE to op nn N L aE n2 N2 L2 bd el):AV).hi=true)(k3:vR iR (aP a.pre n (.aq c 13) a.steps u fs) []=some (JE to op nn N L aE n2 N2 L2 bd el))(k4:bE 10 (JF a n u fs)=true)(k5:vR rj (JF a n u fs) []=some (i6 wi))(k6:((fs.take n).set ((((0+n):Nat):Int) - 1).toNat<|ze fs n)[wi.toNat]? =some (⟨fb,fa,ft,fo,[y0,y1,y2,y3,y4,y5,y6,y7],some ol⟩:Fr))(k7:iK (gV bJ Jw) u []=some ((.int .i64 0:AV),ub))(k8:bE 10 (JD a y0 y1 y2 y3 y4 y5 y6 y7 wi ub fs n ol)=true)(k9:dJ eL (JD a y0 y1 y2 y3 y4 y5 y6 y7 wi ub fs n ol) []=some (.tuple [],(aP A1.pre m1 (.aq c1 13) A1.steps u1 bt)))(sc:bE 10 (aP A1.pre m1 (.aq c1 13) A1.steps u1 bt)=true)(yr:dJ eL (aP A1.pre m1 (.aq c1 13) A1.steps u1 bt) []=some (.tuple [],(aP A2.pre m2 (.aq c2 13) A2.steps u2 bh)))(k12:bE 10 (aP A2.pre m2 (.aq c2 13) A2.steps u2 bh)=true)(H:l7 B (az Tryz.f15) (aP A2.pre m2 (.aq c2 13) A2.steps u2 bh) (ln 15 2 38<|cv 15 [1,1,1,1,1,1,1,1,1])<|oe A2 m2 (.aq c2 13) u2 bh):l7 B (az Tryz.f15) (aP A2.pre m2 (.aq c2 13) A2.steps u2 bh) (sF 15 Tryz.f15 [(.ptr<|some (270,0))])<|ah (ak++aY (dD 270 3<|aP a.pre n (.aq c 13) a.steps u fs)) 273:=by have ht:top=549755813888:=rfl;exact Aj mc H (.st 8<|.rg<|.go 1<|.cg (.agg [(u8<|.ofNat 1),i0,i0]) (vG 272) (vQ 272<|aP a.pre n (.aq c 13) a.steps u fs)<|.go 3<|.en<|.st 6<|.rg<|.go 1<|.cg (JE to op nn N L aE n2 N2 L2 bd el) (vG 272) (vQ 272<|aP a.pre n (.aq c 13) a.steps u fs)<|.go 6<|.en<|.st 1<|.rg<|.go 4<|.vl (i6<|a.steps+1)<|.go 3<|.en<|.st 1<|.rg<|.go 1<|.il<|.st 1<|.rg<|.go 4<|.il<|.st 8<|.rg<|.go 2<|.ao [] (((fs).map aH).flatten) ((((fs.take n)).map aH).flatten)<|.go 1<|.en<|.rt 1<|.go 1<|.en<|.st 1<|.rg<|.go 3<|.vl (i6<|(((0+n):Nat):Int) - 1)<|.ix<|.go 1<|.ld [(i6<|(av (fs.take n)<|(((0+n):Nat):Int) - 1).ar)]<|.vl (i6<|(av (fs.take n)<|(((0+n):Nat):Int) - 1).ar+1)<|.ix<|.go 1<|.np (aD aH<|(fs.take n).set ((((0+n):Nat):Int) - 1).toNat<|ze fs n)<|.en<|.rt 2<|.en<|.st 1<|.rg<|.go 6<|.il<|.st 3<|.rg<|.go 1<|.cg (i6 wi) (vG 276) (vQ 276<|JF a n u fs)<|.go 1<|.en<|.st 1<|.rg<|.go 5<|.ix<|.ld [(.U (nm (fb.map aL).flatten) 0 fb.length),(i6 fa),(i6 ft),(.bool fo),(i6 y0),(i6 y1),(i6 y2),(i6 y3),(i6 y4),(i6 y5),(i6 y6),(i6 y7),(.U (nm (ol.map aL).flatten) 0 ol.length)]<|.go 2<|.en<|.st 1<|.rg<|.go 6<|.so<|.go 3<|.en<|.st 1<|.rg<|.go 4<|.kt i0 ub<|.en<|.st 2<|.rg<|.go 4<|.il<|.st 3<|.rg<|.go 15<|.s3<|.go 2<|.an (((((fs.take n).set ((((0+n):Nat):Int) - 1).toNat<|ze fs n)).map aH).flatten) (OK ol) ((((((fs.take n).set ((((0+n):Nat):Int) - 1).toNat<|ze fs n).take (((wi).toNat:Nat):Int).toNat++[(⟨ol,0,0,false,[0,0,0,0,0,0,0,0],none⟩:Fr)])).map aH).flatten)<|.go 3<|.en<|.rg<|.go 1<|.cg (.tuple []) (vF 281<|aP A1.pre m1 (.aq c1 13) A1.steps u1 bt) (vQ 281<|JD a y0 y1 y2 y3 y4 y5 y6 y7 wi ub fs n ol)<|.en<|.rt 1<|.en<|.rt 1<|.en<|.st 1<|.rg<|.go 1<|.cg (.tuple []) (vF 281<|aP A2.pre m2 (.aq c2 13) A2.steps u2 bh) (vQ 281<|aP A1.pre m1 (.aq c1 13) A1.steps u1 bt)<|.en<|.st 2<|(Ai 2 A2 m2 (.aq c2 13) u2 bh 281 282))<|yF LM 14 272 (vR kZ) [] (aP a.pre n (.aq c 13) a.steps u fs) (.agg [(u8<|.ofNat 1),i0,i0]) k0 k1<|jN LM 27 272 (vR iR) [] (aP a.pre n (.aq c 13) a.steps u fs) (JE to op nn N L aE n2 N2 L2 bd el) k0 k3 bU k2<|ai BE<|Ah (fs:=fs) (n:=n) ab dS dS<|ai BD<|dU ((((0+n):Nat):Int) - 1) (((0+n):Nat):Int)<|ai (mD fB dS (jg (l:=(fs.take n)) (z:=((((0+n):Nat):Int) - 1)) ab dS) 1 1 rfl)<|ai BB<|dU ((((0+n):Nat):Int) - 1) (((0+n):Nat):Int)<|ai (ru fB dS (jg (l:=(fs.take n)) (z:=((((0+n):Nat):Int) - 1)) ab dS) (c':=(ze fs n)) (r:=[(i6<|((av (fs.take n)<|(((0+n):Nat):Int) - 1).ar+1))]) 1 rfl rfl rfl)<|yF LM 29 276 (vR rj) [] (JF a n u fs) (i6 wi) k4 k5<|dU wi (((0+n):Nat):Int)<|ai (mD fB dS k6 0 13 rfl)<|ai (show(0:Int)=0 from rfl)<|ai (show 0<=wi from ab)<|ai (show wi<=Int.ofNat (jd (0+n)<|.aq (0+n) 13) from(show wi<=(((0+n):Nat):Int) from by omega))<|ai k7<|ai (show 0<=(((wi).toNat:Nat):Int) from ab)<|ai (show(((wi).toNat:Nat):Int)<=(((wi).toNat:Nat):Int) from ab)<|ai (show(((wi).toNat:Nat):Int)<=Int.ofNat (jd ((wi).toNat)<|.aq (0+n) 13) from(show(((wi).toNat:Nat):Int)<=(((0+n):Nat):Int) from by omega))<|Hk (fs:=((fs.take n).set ((((0+n):Nat):Int) - 1).toNat<|ze fs n)) (n:=(((wi).toNat:Nat):Int).toNat) (f:=(⟨ol,0,0,false,[0,0,0,0,0,0,0,0],none⟩:Fr)) (cs:=(OK ol)) (show aH (⟨ol,0,0,false,[0,0,0,0,0,0,0,0],none⟩:Fr)=(OK ol) from rfl) ab dS dS<|wh LM 40 281 (dJ eL) [] (JD a y0 y1 y2 y3 y4 y5 y6 y7 wi ub fs n ol) (aP A1.pre m1 (.aq c1 13) A1.steps u1 bt) k8 k9 sc<|wh LM 40 281 (dJ eL) [] (aP A1.pre m1 (.aq c1 13) A1.steps u1 bt) (aP A2.pre m2 (.aq c2 13) A2.steps u2 bh) sc yr k12<|Ep 15 2 38 (cv 15 [1,1,1,1,1,1,1,1,1]) A2 m2 (.aq c2 13) u2 bh 281 282 hlen nM
end Xh
end
section
open Go Go.Rn Go.RowKit Go.Proofs
namespace Xi
open cj fW eZ im fQ iA eR cH dq cU dm fY fF gJ gQ gW gk gm hZ iB iC iV jh jY ko kY jZ nj nU kF oU
noncomputable abbrev xD(a:MN)(to xx:Int)(n:Nat)(u:AV)(fs:List Fr):VS:=aP ((a.pre:List AV).set (2+to.toNat)<|i6 xx) (0+n) (.aq (0+n) 13) (a.steps+1) u<|(fs.take n).set ((((0+n):Nat):Int) - 1).toNat ({(av (fs.take n)<|(((0+n):Nat):Int) - 1) with ar:=((av (fs.take n)<|(((0+n):Nat):Int) - 1).ar+1),turns:=(av (fs.take n)<|(((0+n):Nat):Int) - 1).turns}:Fr)
noncomputable abbrev JG(to op nn:Int)(N L:Nat)(aE n2:Int)(N2 L2:Nat)(bd el:List St):AV:=.tuple [(.agg [(u8<|.ofNat 2),(i6 to),(u8<|op),(i6 nn),(.U N 0 L),(u8<|aE),(i6 n2),(.U N2 0 L2),(.U (nm (bd.map aL).flatten) 0 bd.length),(.U (nm (el.map aL).flatten) 0 el.length)]),(.bool true)]
theorem ahp{B:aI}{a:MN}{n c:Nat}{u:AV}{fs:List Fr}{A1:MN}{m1 c1:Nat}{u1:AV}{bt:List Fr}{A2:MN}{m2 c2:Nat}{u2:AV}{bh:List Fr}{N L N2 L2:Nat}{to op nn aE n2 z wi t:Int}{bd el ol fb:List St}{fa ft y0 y1 y2 y3 y4 y5 y6 y7:Int}{fo:Bool}{ub:AV}{xx:Int}(mc:Mt LM B)(h1:1<=n)(hn:n<=fs.length)(hc:n<=c)(hf:fs.length<=1000000)(hR:fs.length*13<=top)(ax:0<=(av (fs.take n)<|((0+n:Nat):Int) - 1).ar/\(av (fs.take n)<|((0+n:Nat):Int) - 1).ar<=1000000)(cC:0<=a.steps/\a.steps<=1000000000000)(hlen:bt.length<=1000000)(nM:(AV.U A1.G A1.q A1.lg).cP=true)(h0:0<=to)(h8:to<8)(k0:bE 10 (aP a.pre n (.aq c 13) a.steps u fs)=true)(k1:vR kZ (aP a.pre n (.aq c 13) a.steps u fs) []=some (.agg [(u8<|.ofNat 2),(i6 wi),i0]))(k2:((JG to op nn N L aE n2 N2 L2 bd el):AV).hi=true)(k3:vR iR (aP a.pre n (.aq c 13) a.steps u fs) []=some (JG to op nn N L aE n2 N2 L2 bd el))(k4:bE 10 (xD a to xx n u fs)=true)(k5:dJ eL (xD a to xx n u fs) []=some (.tuple [],(aP A1.pre m1 (.aq c1 13) A1.steps u1 bt)))(k6:bE 10 (aP A1.pre m1 (.aq c1 13) A1.steps u1 bt)=true)(H:l7 B (az Tryz.f41) (aP A1.pre m1 (.aq c1 13) A1.steps u1 bt) (ln 41 4 38<|cv 41 [1,1,1,1,1,1,1,1])<|oe A1 m1 (.aq c1 13) u1 bt):l7 B (az Tryz.f41) (aP A1.pre m1 (.aq c1 13) A1.steps u1 bt) (sF 41 Tryz.f41 [(.ptr<|some (270,0)),(i6 xx)])<|ah (ak++aY (dD 270 3<|aP a.pre n (.aq c 13) a.steps u fs)) 273:=by have ht:top=549755813888:=rfl;exact Aj mc H (.st 8<|.rg<|.go 1<|.cg (.agg [(u8<|.ofNat 2),(i6 wi),i0]) (vG 272) (vQ 272<|aP a.pre n (.aq c 13) a.steps u fs)<|.go 3<|.en<|.st 4<|.rg<|.go 1<|.cg (JG to op nn N L aE n2 N2 L2 bd el) (vG 272) (vQ 272<|aP a.pre n (.aq c 13) a.steps u fs)<|.go 6<|.en<|.st 1<|.rg<|.go 4<|.vl (i6<|a.steps+1)<|.go 3<|.en<|.st 1<|.rg<|.go 1<|.il<|.st 1<|.rg<|.go 4<|.il<|.st 8<|.rg<|.go 2<|.ao [] (((fs).map aH).flatten) ((((fs.take n)).map aH).flatten)<|.go 1<|.en<|.rt 1<|.go 1<|.en<|.st 1<|.rg<|.go 3<|.vl (i6<|(((0+n):Nat):Int) - 1)<|.ix<|.go 1<|.ld [(i6<|(av (fs.take n)<|(((0+n):Nat):Int) - 1).ar)]<|.vl (i6<|(av (fs.take n)<|(((0+n):Nat):Int) - 1).ar+1)<|.ix<|.go 1<|.np (aD aH<|(fs.take n).set ((((0+n):Nat):Int) - 1).toNat ({(av (fs.take n)<|(((0+n):Nat):Int) - 1) with ar:=((av (fs.take n)<|(((0+n):Nat):Int) - 1).ar+1),turns:=(av (fs.take n)<|(((0+n):Nat):Int) - 1).turns}:Fr))<|.en<|.rt 2<|.en<|.st 1<|.rg<|.go 6<|.K5<|.np (aD ni<|((a.row (.ptr<|some (271,0)) (.slice (some (275,0)) ((0+n))<|.aq (0+n) 13)<|i6<|(a.steps+1)):List AV).set (2+to.toNat)<|i6 xx)<|.en<|.st 1<|.rg<|.go 1<|.cg (.tuple []) (J4 270 dH dV 3 270 271 275<|aP A1.pre m1 (.aq c1 13) A1.steps u1 bt) (Gh 270 dH dV 3 270 271 275<|xD a to xx n u fs)<|.en<|.st 2<|(Ai 4 A1 m1 (.aq c1 13) u1 bt 275 276))<|yF LM 14 272 (vR kZ) [] (aP a.pre n (.aq c 13) a.steps u fs) (.agg [(u8<|.ofNat 2),(i6 wi),i0]) k0 k1<|jN LM 27 272 (vR iR) [] (aP a.pre n (.aq c 13) a.steps u fs) (JG to op nn N L aE n2 N2 L2 bd el) k0 k3 bU k2<|ai BE<|Ah (fs:=fs) (n:=n) ab dS dS<|ai BD<|dU ((((0+n):Nat):Int) - 1) (((0+n):Nat):Int)<|ai (mD fB dS (jg (l:=(fs.take n)) (z:=((((0+n):Nat):Int) - 1)) ab dS) 1 1 rfl)<|ai BB<|dU ((((0+n):Nat):Int) - 1) (((0+n):Nat):Int)<|ai (ru fB dS (jg (l:=(fs.take n)) (z:=((((0+n):Nat):Int) - 1)) ab dS) (c':=({(av (fs.take n)<|(((0+n):Nat):Int) - 1) with ar:=((av (fs.take n)<|(((0+n):Nat):Int) - 1).ar+1),turns:=(av (fs.take n)<|(((0+n):Nat):Int) - 1).turns}:Fr)) (r:=[(i6<|((av (fs.take n)<|(((0+n):Nat):Int) - 1).ar+1))]) 1 rfl rfl rfl)<|dU to (Int.ofNat 8)<|ai (TW (c':=(i6 xx)) (show((a.row (.ptr<|some (271,0)) (.slice (some (275,0)) ((0+n))<|.aq (0+n) 13)<|i6<|(a.steps+1)):List AV).length<=top from aK.1 aU) (UI (a.row (.ptr<|some (271,0)) (.slice (some (275,0)) ((0+n))<|.aq (0+n) 13)<|i6<|(a.steps+1)) (k:=2+to.toNat) ab) rfl)<|ai (Oa (P:=pg) (F:=FU) (sp:=sp LM) (g:=40) (J:=270) (h0:=dH) (ns:=dV) (rest:=[]) (n:=5) (kp:=10) (k:=3) (val:=dJ eL) (a:=270) (r1:=271) (r2:=275) (st:=(xD a to xx n u fs)) (aW:=(aP A1.pre m1 (.aq c1 13) A1.steps u1 bt)) (y:=.tuple []) bU bU bU bU (by simp only[List.length_set];rfl) k4 k5 bU k6)<|ai (show true=true/\true=true/\(some (aD ni<|((a.row (.ptr<|some (271,0)) (.slice (some (275,0)) ((0+n))<|.aq (0+n) 13)<|i6<|(a.steps+1)):List AV).set (2+to.toNat)<|i6 xx):Option ae)=some (bT<|dQ ((xD a to xx n u fs)).R 271 275)/\(some (.tok 3 ((xD a to xx n u fs)).u):Option ae)=some (.tok 3 ((xD a to xx n u fs)).u)/\some (bT ((xD a to xx n u fs)).row)=some (bT ((xD a to xx n u fs)).row) from⟨rfl,rfl,congrArg some<|UJ (pre:=a.pre) (post:=[(i6<|(a.steps+1))]) (len:=(0+n)) (i:=(2+to.toNat)) (r1:=271) (r2:=275) (cap:=(.aq (0+n) 13)) (c:=(i6 xx)) (by show(2+to.toNat)<10;omega),rfl,rfl⟩)<|Ep 41 4 38 (cv 41 [1,1,1,1,1,1,1,1]) A1 m1 (.aq c1 13) u1 bt 275 276 hlen nM
end Xi
end
section
open Go Go.Rn Go.RowKit Go.Proofs
namespace mu
open cj fW eZ im eR cH dq cU dm fY fF gJ gQ gW gk gm hZ iB iC iV jh jY ko kY jZ fQ iA
variable {fs:List Fr} {f:Fr}
def ig:Nat->List Fr->bf->Option (List Fr×bf)
 |0,_,_=>none
 |_+1,[],b=>some ([],b)
 |k+1,f::r,b=>
  if f.ar<(f.block.length:Int) then some (f::r,b)
  else if 0<f.turns then if 0<(f.block.length:Int) then some ({f with ar:=0,turns:=f.turns - 1}::r,b) else ig k ({f with ar:=0,turns:=f.turns - 1}::r) b
  else if f.bY=true then(if 2<=b.length then ig k r (gd b) else none)
  else ig k r b
def below:List Fr->Option (Fr×List Fr)
 |[]=>none
 |f::r=>if f.bY=true then some (f,r) else below r
theorem Nu{n:Nat}{r:List Fr}(hn:n<=fs.length)(h:(fs.take n).reverse=f::r):∃m,n=m+1/\m<fs.length/\fs[m]? =some f/\(fs.take m).reverse=r:=by
 cases n with
 |zero=>simp at h
 |succ m=>
  have hm:m<fs.length:=by omega
  rw[List.take_add_one,List.getElem?_eq_getElem hm] at h;simp only[Option.toList,List.reverse_append,List.reverse_cons,List.reverse_nil,List.nil_append,List.cons_append,List.cons.injEq] at h;exact⟨m,rfl,hm,by rw[List.getElem?_eq_getElem hm,h.1],h.2⟩
theorem acA{m:Nat}(h:fs[m]? =some f):(fs.take<|m+1).reverse=f::(fs.take m).reverse:=by rw[List.take_add_one,h];simp only[Option.toList,List.reverse_append,List.reverse_cons,List.reverse_nil,List.nil_append,List.cons_append]
theorem Nv{m:Nat}(h:fs[m]? =some f):av fs (m:Int)=f:=by unfold av;rw[List.getD_eq_getElem?_getD,show((m:Int)).toNat=m by omega,h];rfl
theorem Ub{m:Nat}(h:fs[m]? =some f):av fs (((m+1:Nat):Int) - 1)=f:=by rw[show(((m+1:Nat):Int) - 1)=(m:Int) by omega];exact Nv h
theorem take_set{m:Nat}(g:Fr)(hm:m<fs.length):((fs.set m g).take<|m+1).reverse=g::(fs.take m).reverse:=by rw[acA (f:=g)<|by rw[List.getElem?_set_self hm]];congr 2;rw[List.take_set_of_le<|Nat.le_refl m]
theorem H7:∀(k n:Nat) (fs:List Fr) (b:bf) (st aW:List Fr) (b':bf),ig k st b=some (aW,b')->n<=fs.length->(fs.take n).reverse=st->∃n' cY,oo k n fs b=some (n',cY,b')/\n'<=n/\cY.length=fs.length/\(cY.take n').reverse=aW
 |0,_,_,_,_,_,_,h,_,_=>by cases h
 |k+1,n,fs,b,st,aW,b',h,hn,e=>by
  cases st with
  |nil=>
   have n0:n=0:=by have:=congrArg List.length e;rw[List.length_reverse,List.length_take] at this;simp only[List.length_nil] at this;omega
   unfold ig at h;injection h with h;injection h with h1 h2
   subst h1;subst h2;exact⟨n,fs,by unfold oo;rw[if_pos n0],Nat.le_refl _,rfl,e⟩
  |cons f r=>
   obtain⟨m,rfl,hm,hf,hr⟩:=Nu hn e;have ef:=Ub hf;have em:(((m+1:Nat):Int) - 1).toNat=m:=by omega
   unfold ig at h;unfold oo;rw[if_neg ab];simp only[ef,em];by_cases c1:f.ar<(f.block.length:Int)
   ·rw[if_pos c1] at h ⊢;injection h with h;injection h with h1 h2
    subst h1;subst h2;exact⟨m+1,fs,rfl,Nat.le_refl _,rfl,e⟩
   ·rw[if_neg c1] at h ⊢;by_cases c2:0<f.turns
    ·rw[if_pos c2] at h ⊢;have e2:=take_set {f with ar:=0,turns:=f.turns - 1} hm;rw[hr] at e2;by_cases c3:0<(f.block.length:Int)
     ·rw[if_pos c3] at h ⊢;injection h with h;injection h with h1 h2
      subst h1;subst h2;exact⟨m+1,_,rfl,Nat.le_refl _,List.length_set,e2⟩
     ·rw[if_neg c3] at h ⊢;obtain⟨n',cY,a1,a2,a3,a4⟩:=H7 k (m+1) _ b _ _ _ h (by rw[List.length_set];exact hn) e2;exact⟨n',cY,a1,a2,a3.trans List.length_set,a4⟩
    ·rw[if_neg c2] at h ⊢;by_cases c4:f.bY=true
     ·rw[if_pos c4] at h ⊢;by_cases c5:2<=b.length
      ·rw[if_pos c5] at h ⊢;obtain⟨n',cY,a1,a2,a3,a4⟩:=H7 k m fs _ _ _ _ h ab hr;exact⟨n',cY,a1,by omega,a3,a4⟩
      ·rw[if_neg c5] at h;cases h
     ·rw[if_neg c4] at h ⊢;obtain⟨n',cY,a1,a2,a3,a4⟩:=H7 k m fs _ _ _ _ h ab hr;exact⟨n',cY,a1,by omega,a3,a4⟩
theorem Nw:∀(n:Nat) (fs:List Fr) (st:List Fr),n<=fs.length->(fs.take n).reverse=st->(below st=none->iG fs n= -1)/\(∀g r,below st=some (g,r)->∃i:Nat,iG fs n=(i:Int)/\i<n/\fs[i]? =some g/\(fs.take i).reverse=r)
 |0,fs,st,hn,e=>by rw[List.take_zero] at e;subst e;exact⟨fun _=>rfl,fun g r h=>by cases h⟩
 |n+1,fs,st,hn,e=>by
  cases st with
  |nil=>have:=congrArg List.length e;rw[List.length_reverse,List.length_take] at this;simp only[List.length_nil] at this;omega
  |cons f r=>
   obtain⟨m,Lg,hm,hf,hr⟩:=Nu hn e;have Lg:n=m:=by omega
   subst Lg;have ef:=Nv hf;obtain⟨h1,h2⟩:=Nw n fs r ab hr;unfold below iG;rw[ef];by_cases c:f.bY=true
   ·rw[if_pos c,if_pos c];refine⟨fun h=>(by cases h),fun g r' h=>?_⟩;injection h with h;injection h with e1 e2
    subst e1;subst e2;exact⟨n,rfl,by omega,hf,hr⟩
   ·rw[if_neg c,if_neg c];refine⟨h1,fun g r' h=>?_⟩;obtain⟨i,a1,a2,a3,a4⟩:=h2 g r' h;exact⟨i,a1,by omega,a3,a4⟩
theorem Cy:∀(k:Nat) (st:List Fr) (b:bf) (aW:List Fr) (b':bf),ig k st b=some (aW,b')->aW=[]\/∃f r,aW=f::r/\f.ar<(f.block.length:Int)
 |0,_,_,_,_,h=>by cases h
 |k+1,[],b,aW,b',h=>by
  unfold ig at h;injection h with h;injection h with h1 h2
  exact .inl h1.symm
 |k+1,f::r,b,aW,b',h=>by
  unfold ig at h;by_cases c1:f.ar<(f.block.length:Int)
  ·rw[if_pos c1] at h;injection h with h;injection h with h1 h2
   exact .inr ⟨f,r,h1.symm,c1⟩
  ·rw[if_neg c1] at h;by_cases c2:0<f.turns
   ·rw[if_pos c2] at h;by_cases c3:0<(f.block.length:Int)
    ·rw[if_pos c3] at h;injection h with h;injection h with h1 h2
     exact .inr ⟨_,r,h1.symm,c3⟩
    ·rw[if_neg c3] at h;exact Cy k _ b _ _ h
   ·rw[if_neg c2] at h;by_cases c4:f.bY=true
    ·rw[if_pos c4] at h;by_cases c5:2<=b.length
     ·rw[if_pos c5] at h;exact Cy k _ _ _ _ h
     ·rw[if_neg c5] at h;cases h
    ·rw[if_neg c4] at h;exact Cy k _ _ _ _ h
theorem Zn{k:Nat}{st:List Fr}{b:bf}{aW:List Fr}{b':bf}(h:ig k st b=some (aW,b')):ig 1 aW b'=some (aW,b'):=by
 rcases Cy k st b aW b' h with rfl|⟨f,r,rfl,hf⟩
 ·rfl
 ·unfold ig;rw[if_pos hf]
def dx(a:dG)(e:Ex):Int:=(zp e a.l a.aM).1
def Z8:List Int:=[0,0,0,0,0,0,0,0]
def kS(z:Int):Int:=dY (cL z 0) 8
def fin(a:dG)(st:List Fr)(b:bf):Option dG:=match ig 1000 st b with
 |some p=>some {a with fs:=p.1.reverse,b:=p.2}
 |none=>none
def qv(a:dG):Option dG:=match a.fs.reverse with
 |[]=>none
 |f::r=>match f.block[f.ar.toNat]? with
  |none=>none
  |some (.mk kind to ea eb bd el)=>
   if kind=1 then fin {a with l:=a.l.set to.toNat<|dx a ea,steps:=a.steps+1} ({f with ar:=f.ar+1}::r) a.b
   else if kind=2 then fin {a with l:=a.l.set to.toNat (kG a.b<|iM (dx a ea) a.vars).1,steps:=a.steps+1} ({f with ar:=f.ar+1}::r) a.b
   else if kind=3 then fin {a with steps:=a.steps+1} ({f with ar:=f.ar+1}::r) (kU a.b (iM (dx a ea) a.vars)<|dx a eb)
   else if kind=4 then fin {a with steps:=a.steps+1} (⟨if dx a ea≠0 then bd else el,0,0,false,Z8,none⟩::{f with ar:=f.ar+1}::r) a.b
   else if kind=5 then(if 0<kS (dx a ea) then fin {a with steps:=a.steps+1} (⟨bd,0,kS (dx a ea) - 1,false,Z8,none⟩::{f with ar:=f.ar+1}::r) a.b else fin {a with steps:=a.steps+1} ({f with ar:=f.ar+1}::r) a.b)
   else if kind=6 then(match below (f::r) with
    |some (⟨_,_,_,_,kept,some ol⟩,r')=>fin {a with l:=kept,steps:=a.steps+1} (⟨ol,0,0,false,Z8,none⟩::r') a.b.dropLast
    |_=>none)
   else if kind=7 then fin {a with steps:=a.steps+1} (⟨bd,0,0,true,a.l,some el⟩::{f with ar:=f.ar+1}::r) (a.b++[[]])
   else none
def nA(a:dG)(x:Int):Option dG:=match a.fs.reverse with
 |[]=>none
 |f::r=>match f.block[f.ar.toNat]? with
  |none=>none
  |some (.mk _ to _ _ _ _)=>fin {a with l:=a.l.set to.toNat x,steps:=a.steps+1} ({f with ar:=f.ar+1}::r) a.b
def dZ(a:dG):Int×Int×Int:=match a.fs.reverse with
 |[]=>(3,0,0)
 |f::r=>match f.block[f.ar.toNat]? with
  |none=>(0,0,0)
  |some (.mk kind _ ea _ _ _)=>if kind=8 then(3,0,dx a ea) else if kind=6/\below (f::r)=none then(4,0,0) else if kind=2/\(kG a.b<|iM (dx a ea) a.vars).2=false then(2,iM (dx a ea) a.vars,0) else(1,0,0)
end mu
end
section
open Go Go.Rn Go.RowKit Go.Proofs
namespace vV
open cj fW eZ im eR cH dq cU dm fY fF gJ gQ gW gk gm hZ iB iC iV jh jY ko kY jZ fQ iA nj nU kF oU mu Xf Wv Ww Wx Wy Xg Xh Xi
variable {to aE nn n2 wi:Int} {n1 c1 c m2 c2:Nat} {lb la:List Ex} {bt fs bh:List Fr} {el bd:List St} {b1 b b2:bf} {a A1 A2:MN} {B:aI}
noncomputable section
def gN(fs:List Fr)(n:Nat):List Fr:=(fs.take n).set ((((0+n):Nat):Int) - 1).toNat ({(av (fs.take n)<|(((0+n):Nat):Int) - 1) with ar:=((av (fs.take n)<|(((0+n):Nat):Int) - 1).ar+1),turns:=(av (fs.take n)<|(((0+n):Nat):Int) - 1).turns}:Fr)
abbrev qi(fs:List Fr)(k:Nat)(f:Fr):List Fr:=fs.take k++[f]
noncomputable abbrev OL(ka to op nn:Int)(la:List Ex)(aE n2:Int)(lb:List Ex)(bd el:List St):List AV:=[.int .u8 ka,.int .i64 to,.int .u8 op,.int .i64 nn,.U (nm<|cK la) 0 la.length,.int .u8 aE,.int .i64 n2,.U (nm<|cK lb) 0 lb.length,.U (nm (bd.map aL).flatten) 0 bd.length,.U (nm (el.map aL).flatten) 0 el.length]
noncomputable abbrev zf(a:MN)(n c:Nat)(fs:List Fr)(b:bf):AS:=ah (ak++aY (dD 270 3<|cZ a n c fs b)) 273
theorem j1{ka:Int}{kb:VS->List AV->AV×VS->Prop}{kc:Nat}(hk:(ka=1/\kb=zI/\kc=32)\/(ka=2/\kb=zu/\kc=33)\/(ka=3/\kb=zc/\kc=34)){n:Nat}{op:Int}(mc:Mt LM B)(m0:da a n c fs b)(h1:1<=n)(h6:n<=6)(b6:b.length<=6)(hs:mJ fs n<|some<|St.mk ka to (.mk op nn la) (.mk aE n2 lb) bd el)(kq:nT a (iG fs n) b (some<|St.mk ka to (.mk op nn la) (.mk aE n2 lb) bd el)=(1,0,0))(ax:0<=(av (fs.take n)<|((0+n:Nat):Int) - 1).ar/\(av (fs.take n)<|((0+n:Nat):Int) - 1).ar<=1000000)(cC:0<=a.steps/\a.steps<=1000000000000)(mp:da {a with steps:=a.steps+1} (0+n) (0+n) (gN fs n) b)(m1:da A1 n1 c1 bt b1)(lL:da A2 m2 c2 bh b2)(hX:dJ kb (cZ {a with steps:=a.steps+1} (0+n) (0+n) (gN fs n) b) [.agg<|aL<|St.mk ka to (.mk op nn la) (.mk aE n2 lb) bd el]=some (.tuple [],(cZ A1 n1 c1 bt b1)))(pX:dJ eL (cZ A1 n1 c1 bt b1) []=some (.tuple [],(cZ A2 m2 c2 bh b2))):au pg B 271 (gX 270 3 pg (az Tryz.f15) (.int .i64 0)<|cZ A2 m2 c2 bh b2) (sF 15 Tryz.f15 [(.ptr<|some (270,0))])<|zf a n c fs b:=by
 have hN:=xd m0 hs;have hK:=zd m0 h6 b6 hs;rw[kq] at hK;have hv:=tq mp<|.mk op nn la;have hA:=qh<|.mk op nn la;have eS:aL (St.mk ka to (.mk op nn la) (.mk aE n2 lb) bd el)=(OL ka to op nn la aE n2 lb bd el):=by rw[wP,aB,aB];rfl
 have hH:=xL<|St.mk ka to (.mk op nn la) (.mk aE n2 lb) bd el;unfold qu at hN;simp only[eS] at hN hH hX;simp only[aB] at hv hA;have hB:(AV.tuple [.agg<|OL ka to op nn la aE n2 lb bd el,.bool true]:AV).hi=true:=by show([_,AV.bool true].all AV.jL)=true;rw[List.all_cons,show(AV.agg _).jL=true from hH];rfl
 have qO:([.agg<|OL ka to op nn la aE n2 lb bd el]:List AV).all AV.hi=true:=by rw[List.all_cons,hH];rfl
 exact step1 hk (a:=a) (n:=n) (c:=c) (u:=bJ b) (fs:=fs) (A1:=A1) (m1:=n1) (c1:=c1) (u1:=bJ b1) (bt:=bt) (A2:=A2) (m2:=m2) (c2:=c2) (u2:=bJ b2) (bh:=bh) (N:=nm<|cK la) (L:=la.length) (N2:=nm<|cK lb) (L2:=lb.length) (to:=to) (op:=op) (nn:=nn) (aE:=aE) (n2:=n2) (bd:=bd) (el:=el) (z:=(dE a<|.mk op nn la)) (wi:=0) (t:=0) (ol:=[]) (fb:=[]) (fa:=0) (ft:=0) (fo:=false) (ub:=.tuple []) (y0:=0) (y1:=0) (y2:=0) (y3:=0) (y4:=0) (y5:=0) (y6:=0) (y7:=0) mc h1 m0.mU m0.p0 m0.len zG ax cC lL.len lL.aM.cP
  wk
  wk
  wk
  wk
  wk
  wk
  wk
  wk
  wk
  wk
  (Bq mc)
noncomputable abbrev Dg(to op nn:Int)(la:List Ex)(aE n2:Int)(lb:List Ex)(bd el:List St):List AV:=[.int .u8 4,.int .i64 to,.int .u8 op,.int .i64 nn,.U (nm<|cK la) 0 la.length,.int .u8 aE,.int .i64 n2,.U (nm<|cK lb) 0 lb.length,.U (nm (bd.map aL).flatten) 0 bd.length,.U (nm (el.map aL).flatten) 0 el.length]
theorem j4y{n:Nat}{op:Int}(mc:Mt LM B)(m0:da a n c fs b)(h1:1<=n)(h6:n<=6)(b6:b.length<=6)(hs:mJ fs n<|some<|St.mk 4 to (.mk op nn la) (.mk aE n2 lb) bd el)(kq:nT a (iG fs n) b (some<|St.mk 4 to (.mk op nn la) (.mk aE n2 lb) bd el)=(1,0,0))(ax:0<=(av (fs.take n)<|((0+n:Nat):Int) - 1).ar/\(av (fs.take n)<|((0+n:Nat):Int) - 1).ar<=1000000)(cC:0<=a.steps/\a.steps<=1000000000000)(mp:da {a with steps:=a.steps+1} (0+n) (0+n) (gN fs n) b)(m1:da A1 n1 c1 bt b1)(lL:da A2 m2 c2 bh b2)(mE:da {a with steps:=a.steps+1} (0+n+1) (0+n+1) (qi (gN fs n) (0+n) ⟨bd,0,0,false,Z8,none⟩) b)(hE:dJ eL (cZ {a with steps:=a.steps+1} (0+n+1) (0+n+1) (qi (gN fs n) (0+n) ⟨bd,0,0,false,Z8,none⟩) b) []=some (.tuple [],(cZ A1 n1 c1 bt b1)))(pX:dJ eL (cZ A1 n1 c1 bt b1) []=some (.tuple [],(cZ A2 m2 c2 bh b2)))(hz:(dE a<|.mk op nn la)≠0):au pg B 271 (gX 270 3 pg (az Tryz.f15) (.int .i64 0)<|cZ A2 m2 c2 bh b2) (sF 15 Tryz.f15 [(.ptr<|some (270,0))])<|zf a n c fs b:=by
 have hN:=xd m0 hs;have hK:=zd m0 h6 b6 hs;rw[kq] at hK;have hv:=tq mp<|.mk op nn la;have hA:=qh<|.mk op nn la;have eS:aL (St.mk 4 to (.mk op nn la) (.mk aE n2 lb) bd el)=(Dg to op nn la aE n2 lb bd el):=by rw[wP,aB,aB];rfl
 have hH:=xL<|St.mk 4 to (.mk op nn la) (.mk aE n2 lb) bd el;unfold qu at hN;simp only[eS] at hN hH;simp only[aB] at hv hA;have hB:(AV.tuple [.agg<|Dg to op nn la aE n2 lb bd el,.bool true]:AV).hi=true:=by show([_,AV.bool true].all AV.jL)=true;rw[List.all_cons,show(AV.agg _).jL=true from hH];rfl
 have qO:([.agg<|Dg to op nn la aE n2 lb bd el]:List AV).all AV.hi=true:=by rw[List.all_cons,hH];rfl
 exact afK (a:=a) (n:=n) (c:=c) (u:=bJ b) (fs:=fs) (A1:=A1) (m1:=n1) (c1:=c1) (u1:=bJ b1) (bt:=bt) (A2:=A2) (m2:=m2) (c2:=c2) (u2:=bJ b2) (bh:=bh) (N:=nm<|cK la) (L:=la.length) (N2:=nm<|cK lb) (L2:=lb.length) (to:=to) (op:=op) (nn:=nn) (aE:=aE) (n2:=n2) (bd:=bd) (el:=el) (z:=(dE a<|.mk op nn la)) (wi:=0) (t:=0) (ol:=[]) (fb:=[]) (fa:=0) (ft:=0) (fo:=false) (ub:=.tuple []) (y0:=0) (y1:=0) (y2:=0) (y3:=0) (y4:=0) (y5:=0) (y6:=0) (y7:=0) mc h1 m0.mU m0.p0 m0.len zG ax cC lL.len lL.aM.cP hz
  gw
  gw
  gw
  gw
  gw
  gw
  gw
  gw
  gw
  gw
  gw
  gw
  (Bq mc)
theorem j4n{n:Nat}{op:Int}(mc:Mt LM B)(m0:da a n c fs b)(h1:1<=n)(h6:n<=6)(b6:b.length<=6)(hs:mJ fs n<|some<|St.mk 4 to (.mk op nn la) (.mk aE n2 lb) bd el)(kq:nT a (iG fs n) b (some<|St.mk 4 to (.mk op nn la) (.mk aE n2 lb) bd el)=(1,0,0))(ax:0<=(av (fs.take n)<|((0+n:Nat):Int) - 1).ar/\(av (fs.take n)<|((0+n:Nat):Int) - 1).ar<=1000000)(cC:0<=a.steps/\a.steps<=1000000000000)(mp:da {a with steps:=a.steps+1} (0+n) (0+n) (gN fs n) b)(m1:da A1 n1 c1 bt b1)(lL:da A2 m2 c2 bh b2)(mE:da {a with steps:=a.steps+1} (0+n+1) (0+n+1) (qi (gN fs n) (0+n) ⟨el,0,0,false,Z8,none⟩) b)(hE:dJ eL (cZ {a with steps:=a.steps+1} (0+n+1) (0+n+1) (qi (gN fs n) (0+n) ⟨el,0,0,false,Z8,none⟩) b) []=some (.tuple [],(cZ A1 n1 c1 bt b1)))(pX:dJ eL (cZ A1 n1 c1 bt b1) []=some (.tuple [],(cZ A2 m2 c2 bh b2)))(hz:(dE a<|.mk op nn la)=0):au pg B 271 (gX 270 3 pg (az Tryz.f15) (.int .i64 0)<|cZ A2 m2 c2 bh b2) (sF 15 Tryz.f15 [(.ptr<|some (270,0))])<|zf a n c fs b:=by
 have hN:=xd m0 hs;have hK:=zd m0 h6 b6 hs;rw[kq] at hK;have hv:=tq mp<|.mk op nn la;have hA:=qh<|.mk op nn la;have eS:aL (St.mk 4 to (.mk op nn la) (.mk aE n2 lb) bd el)=(Dg to op nn la aE n2 lb bd el):=by rw[wP,aB,aB];rfl
 have hH:=xL<|St.mk 4 to (.mk op nn la) (.mk aE n2 lb) bd el;unfold qu at hN;simp only[eS] at hN hH;simp only[aB] at hv hA;have hB:(AV.tuple [.agg<|Dg to op nn la aE n2 lb bd el,.bool true]:AV).hi=true:=by show([_,AV.bool true].all AV.jL)=true;rw[List.all_cons,show(AV.agg _).jL=true from hH];rfl
 have qO:([.agg<|Dg to op nn la aE n2 lb bd el]:List AV).all AV.hi=true:=by rw[List.all_cons,hH];rfl
 exact afL (a:=a) (n:=n) (c:=c) (u:=bJ b) (fs:=fs) (A1:=A1) (m1:=n1) (c1:=c1) (u1:=bJ b1) (bt:=bt) (A2:=A2) (m2:=m2) (c2:=c2) (u2:=bJ b2) (bh:=bh) (N:=nm<|cK la) (L:=la.length) (N2:=nm<|cK lb) (L2:=lb.length) (to:=to) (op:=op) (nn:=nn) (aE:=aE) (n2:=n2) (bd:=bd) (el:=el) (z:=(dE a<|.mk op nn la)) (wi:=0) (t:=0) (ol:=[]) (fb:=[]) (fa:=0) (ft:=0) (fo:=false) (ub:=.tuple []) (y0:=0) (y1:=0) (y2:=0) (y3:=0) (y4:=0) (y5:=0) (y6:=0) (y7:=0) mc h1 m0.mU m0.p0 m0.len zG ax cC lL.len lL.aM.cP hz
  gw
  gw
  gw
  gw
  gw
  gw
  gw
  gw
  gw
  gw
  gw
  gw
  (Bq mc)
noncomputable abbrev Dh(to op nn:Int)(la:List Ex)(aE n2:Int)(lb:List Ex)(bd el:List St):List AV:=[.int .u8 5,.int .i64 to,.int .u8 op,.int .i64 nn,.U (nm<|cK la) 0 la.length,.int .u8 aE,.int .i64 n2,.U (nm<|cK lb) 0 lb.length,.U (nm (bd.map aL).flatten) 0 bd.length,.U (nm (el.map aL).flatten) 0 el.length]
theorem j5t{n:Nat}{op:Int}(mc:Mt LM B)(m0:da a n c fs b)(h1:1<=n)(h6:n<=6)(b6:b.length<=6)(hs:mJ fs n<|some<|St.mk 5 to (.mk op nn la) (.mk aE n2 lb) bd el)(kq:nT a (iG fs n) b (some<|St.mk 5 to (.mk op nn la) (.mk aE n2 lb) bd el)=(1,0,0))(ax:0<=(av (fs.take n)<|((0+n:Nat):Int) - 1).ar/\(av (fs.take n)<|((0+n:Nat):Int) - 1).ar<=1000000)(cC:0<=a.steps/\a.steps<=1000000000000)(mp:da {a with steps:=a.steps+1} (0+n) (0+n) (gN fs n) b)(m1:da A1 n1 c1 bt b1)(lL:da A2 m2 c2 bh b2)(mE:da {a with steps:=a.steps+1} (0+n+1) (0+n+1) (qi (gN fs n) (0+n) ⟨bd,0,(kS<|dE a<|.mk op nn la) - 1,false,Z8,none⟩) b)(hE:dJ eL (cZ {a with steps:=a.steps+1} (0+n+1) (0+n+1) (qi (gN fs n) (0+n) ⟨bd,0,(kS<|dE a<|.mk op nn la) - 1,false,Z8,none⟩) b) []=some (.tuple [],(cZ A1 n1 c1 bt b1)))(pX:dJ eL (cZ A1 n1 c1 bt b1) []=some (.tuple [],(cZ A2 m2 c2 bh b2)))(hz:0<kS (dE a<|.mk op nn la)/\kS (dE a<|.mk op nn la)<=8):au pg B 271 (gX 270 3 pg (az Tryz.f15) (.int .i64 0)<|cZ A2 m2 c2 bh b2) (sF 15 Tryz.f15 [(.ptr<|some (270,0))])<|zf a n c fs b:=by
 have hN:=xd m0 hs;have hK:=zd m0 h6 b6 hs;rw[kq] at hK;have hv:=tq mp<|.mk op nn la;have hA:=qh<|.mk op nn la;have eS:aL (St.mk 5 to (.mk op nn la) (.mk aE n2 lb) bd el)=(Dh to op nn la aE n2 lb bd el):=by rw[wP,aB,aB];rfl
 have hH:=xL<|St.mk 5 to (.mk op nn la) (.mk aE n2 lb) bd el;unfold qu at hN;simp only[eS] at hN hH;simp only[aB] at hv hA;have hB:(AV.tuple [.agg<|Dh to op nn la aE n2 lb bd el,.bool true]:AV).hi=true:=by show([_,AV.bool true].all AV.jL)=true;rw[List.all_cons,show(AV.agg _).jL=true from hH];rfl
 have qO:([.agg<|Dh to op nn la aE n2 lb bd el]:List AV).all AV.hi=true:=by rw[List.all_cons,hH];rfl
 exact afM (a:=a) (n:=n) (c:=c) (u:=bJ b) (fs:=fs) (A1:=A1) (m1:=n1) (c1:=c1) (u1:=bJ b1) (bt:=bt) (A2:=A2) (m2:=m2) (c2:=c2) (u2:=bJ b2) (bh:=bh) (N:=nm<|cK la) (L:=la.length) (N2:=nm<|cK lb) (L2:=lb.length) (to:=to) (op:=op) (nn:=nn) (aE:=aE) (n2:=n2) (bd:=bd) (el:=el) (z:=(dE a<|.mk op nn la)) (wi:=0) (t:=0) (ol:=[]) (fb:=[]) (fa:=0) (ft:=0) (fo:=false) (ub:=.tuple []) (y0:=0) (y1:=0) (y2:=0) (y3:=0) (y4:=0) (y5:=0) (y6:=0) (y7:=0) mc h1 m0.mU m0.p0 m0.len zG ax cC lL.len lL.aM.cP hz
  gw
  gw
  gw
  gw
  gw
  gw
  gw
  gw
  gw
  gw
  gw
  gw
  (Bq mc)
theorem j5o{n:Nat}{op:Int}(mc:Mt LM B)(m0:da a n c fs b)(h1:1<=n)(h6:n<=6)(b6:b.length<=6)(hs:mJ fs n<|some<|St.mk 5 to (.mk op nn la) (.mk aE n2 lb) bd el)(kq:nT a (iG fs n) b (some<|St.mk 5 to (.mk op nn la) (.mk aE n2 lb) bd el)=(1,0,0))(ax:0<=(av (fs.take n)<|((0+n:Nat):Int) - 1).ar/\(av (fs.take n)<|((0+n:Nat):Int) - 1).ar<=1000000)(cC:0<=a.steps/\a.steps<=1000000000000)(mp:da {a with steps:=a.steps+1} (0+n) (0+n) (gN fs n) b)(m1:da A1 n1 c1 bt b1)(jr:kS (dE a<|.mk op nn la)<=0)(pX:dJ eL (cZ {a with steps:=a.steps+1} (0+n) (0+n) (gN fs n) b) []=some (.tuple [],(cZ A1 n1 c1 bt b1))):au pg B 271 (gX 270 3 pg (az Tryz.f15) (.int .i64 0)<|cZ A1 n1 c1 bt b1) (sF 15 Tryz.f15 [(.ptr<|some (270,0))])<|zf a n c fs b:=by
 have hN:=xd m0 hs;have hK:=zd m0 h6 b6 hs;rw[kq] at hK;have hv:=tq mp<|.mk op nn la;have hA:=qh<|.mk op nn la;have eS:aL (St.mk 5 to (.mk op nn la) (.mk aE n2 lb) bd el)=(Dh to op nn la aE n2 lb bd el):=by rw[wP,aB,aB];rfl
 have hH:=xL<|St.mk 5 to (.mk op nn la) (.mk aE n2 lb) bd el;unfold qu at hN;simp only[eS] at hN hH;simp only[aB] at hv hA;have hB:(AV.tuple [.agg<|Dh to op nn la aE n2 lb bd el,.bool true]:AV).hi=true:=by show([_,AV.bool true].all AV.jL)=true;rw[List.all_cons,show(AV.agg _).jL=true from hH];rfl
 have qO:([.agg<|Dh to op nn la aE n2 lb bd el]:List AV).all AV.hi=true:=by rw[List.all_cons,hH];rfl
 exact afN (a:=a) (n:=n) (c:=c) (u:=bJ b) (fs:=fs) (A1:=A1) (m1:=n1) (c1:=c1) (u1:=bJ b1) (bt:=bt) (A2:=A1) (m2:=n1) (c2:=c1) (u2:=bJ b1) (bh:=bt) (N:=nm<|cK la) (L:=la.length) (N2:=nm<|cK lb) (L2:=lb.length) (to:=to) (op:=op) (nn:=nn) (aE:=aE) (n2:=n2) (bd:=bd) (el:=el) (z:=(dE a<|.mk op nn la)) (wi:=0) (t:=0) (ol:=[]) (fb:=[]) (fa:=0) (ft:=0) (fo:=false) (ub:=.tuple []) (y0:=0) (y1:=0) (y2:=0) (y3:=0) (y4:=0) (y5:=0) (y6:=0) (y7:=0) mc h1 m0.mU m0.p0 m0.len zG ax cC m1.len m1.aM.cP jr
  yy
  yy
  yy
  yy
  yy
  yy
  yy
  yy
  yy
  (Bq mc)
noncomputable abbrev OM(to op nn:Int)(la:List Ex)(aE n2:Int)(lb:List Ex)(bd el:List St):List AV:=[.int .u8 7,.int .i64 to,.int .u8 op,.int .i64 nn,.U (nm<|cK la) 0 la.length,.int .u8 aE,.int .i64 n2,.U (nm<|cK lb) 0 lb.length,.U (nm (bd.map aL).flatten) 0 bd.length,.U (nm (el.map aL).flatten) 0 el.length]
theorem j7{n:Nat}{op:Int}(mc:Mt LM B)(m0:da a n c fs b)(h1:1<=n)(h6:n<=6)(b6:b.length<=6)(hs:mJ fs n<|some<|St.mk 7 to (.mk op nn la) (.mk aE n2 lb) bd el)(kq:nT a (iG fs n) b (some<|St.mk 7 to (.mk op nn la) (.mk aE n2 lb) bd el)=(1,0,0))(ax:0<=(av (fs.take n)<|((0+n:Nat):Int) - 1).ar/\(av (fs.take n)<|((0+n:Nat):Int) - 1).ar<=1000000)(cC:0<=a.steps/\a.steps<=1000000000000)(mp:da {a with steps:=a.steps+1} (0+n) (0+n) (gN fs n) b)(m1:da A1 n1 c1 bt b1)(lL:da A2 m2 c2 bh b2)(mE:da {a with steps:=a.steps+1} (0+n+1) (0+n+1) (qi (gN fs n) (0+n) ⟨bd,0,0,true,a.l,some el⟩)<|b++[[]])(hE:dJ eL (cZ {a with steps:=a.steps+1} (0+n+1) (0+n+1) (qi (gN fs n) (0+n) ⟨bd,0,0,true,a.l,some el⟩)<|b++[[]]) []=some (.tuple [],(cZ A1 n1 c1 bt b1)))(pX:dJ eL (cZ A1 n1 c1 bt b1) []=some (.tuple [],(cZ A2 m2 c2 bh b2)))(Yy:b.length<7):au pg B 271 (gX 270 3 pg (az Tryz.f15) (.int .i64 0)<|cZ A2 m2 c2 bh b2) (sF 15 Tryz.f15 [(.ptr<|some (270,0))])<|zf a n c fs b:=by
 have hN:=xd m0 hs;have hK:=zd m0 h6 b6 hs;rw[kq] at hK;have hv:=tq mp<|.mk op nn la;have hA:=qh<|.mk op nn la;have eS:aL (St.mk 7 to (.mk op nn la) (.mk aE n2 lb) bd el)=(OM to op nn la aE n2 lb bd el):=by rw[wP,aB,aB];rfl
 have hH:=xL<|St.mk 7 to (.mk op nn la) (.mk aE n2 lb) bd el;unfold qu at hN;simp only[eS] at hN hH;simp only[aB] at hv hA;have hB:(AV.tuple [.agg<|OM to op nn la aE n2 lb bd el,.bool true]:AV).hi=true:=by show([_,AV.bool true].all AV.jL)=true;rw[List.all_cons,show(AV.agg _).jL=true from hH];rfl
 have qO:([.agg<|OM to op nn la aE n2 lb bd el]:List AV).all AV.hi=true:=by rw[List.all_cons,hH];rfl
 have hD:iK (gV bJ Jv) (bJ b) []=some ((.int .i64 0:AV),bJ<|b++[[]]):=by
  unfold iK;rw[AP sM];show(match ([]:List AV).all AV.hi with
   |true=>((if List.length b<7 then some ((AV.int .i64 0:AV),b++[[]]) else none).map (fun p:AV×bf=>((p.1,bJ p.2):AV×AV))).bind fun p:AV×AV=>match p.1.hi with
    |true=>some p
    |false=>none
   |false=>none)=_
  rw[if_pos Yy];rfl
 exact ahn (a:=a) (n:=n) (c:=c) (u:=bJ b) (fs:=fs) (A1:=A1) (m1:=n1) (c1:=c1) (u1:=bJ b1) (bt:=bt) (A2:=A2) (m2:=m2) (c2:=c2) (u2:=bJ b2) (bh:=bh) (N:=nm<|cK la) (L:=la.length) (N2:=nm<|cK lb) (L2:=lb.length) (to:=to) (op:=op) (nn:=nn) (aE:=aE) (n2:=n2) (bd:=bd) (el:=el) (z:=(dE a<|.mk op nn la)) (wi:=0) (t:=0) (ol:=[]) (fb:=[]) (fa:=0) (ft:=0) (fo:=false) (ub:=bJ<|b++[[]]) (y0:=0) (y1:=0) (y2:=0) (y3:=0) (y4:=0) (y5:=0) (y6:=0) (y7:=0) mc h1 m0.mU m0.p0 m0.len zG ax cC lL.len lL.aM.cP
  wj
  wj
  wj
  wj
  wj
  wj
  wj
  wj
  wj
  wj
  (Bq mc)
noncomputable abbrev ON(to op nn:Int)(la:List Ex)(aE n2:Int)(lb:List Ex)(bd el:List St):List AV:=[.int .u8 6,.int .i64 to,.int .u8 op,.int .i64 nn,.U (nm<|cK la) 0 la.length,.int .u8 aE,.int .i64 n2,.U (nm<|cK lb) 0 lb.length,.U (nm (bd.map aL).flatten) 0 bd.length,.U (nm (el.map aL).flatten) 0 el.length]
theorem j6{n:Nat}{op y0 y1 y2 y3 y4 y5 y6 y7 fa ft:Int}{ol fb:List St}{fo:Bool}(mc:Mt LM B)(m0:da a n c fs b)(h1:1<=n)(h6:n<=6)(b6:b.length<=6)(hs:mJ fs n<|some<|St.mk 6 to (.mk op nn la) (.mk aE n2 lb) bd el)(kq:nT a (iG fs n) b (some<|St.mk 6 to (.mk op nn la) (.mk aE n2 lb) bd el)=(1,0,0))(ax:0<=(av (fs.take n)<|((0+n:Nat):Int) - 1).ar/\(av (fs.take n)<|((0+n:Nat):Int) - 1).ar<=1000000)(cC:0<=a.steps/\a.steps<=1000000000000)(mp:da {a with steps:=a.steps+1} (0+n) (0+n) (gN fs n) b)(m1:da A1 n1 c1 bt b1)(lL:da A2 m2 c2 bh b2)(mE:da {a with steps:=a.steps+1,x0:=y0,x1:=y1,x2:=y2,x3:=y3,x4:=y4,x5:=y5,x6:=y6,x7:=y7} (wi.toNat+1) (wi.toNat+1) (qi (gN fs n) wi.toNat ⟨ol,0,0,false,Z8,none⟩) b.dropLast)(hE:dJ eL (cZ {a with steps:=a.steps+1,x0:=y0,x1:=y1,x2:=y2,x3:=y3,x4:=y4,x5:=y5,x6:=y6,x7:=y7} (wi.toNat+1) (wi.toNat+1) (qi (gN fs n) wi.toNat ⟨ol,0,0,false,Z8,none⟩) b.dropLast) []=some (.tuple [],(cZ A1 n1 c1 bt b1)))(pX:dJ eL (cZ A1 n1 c1 bt b1) []=some (.tuple [],(cZ A2 m2 c2 bh b2)))(hwi:iG (gN fs n) (0+n)=wi)(hz:1<=wi/\wi<(n:Int))(bD:(gN fs n)[wi.toNat]? =some (⟨fb,fa,ft,fo,[y0,y1,y2,y3,y4,y5,y6,y7],some ol⟩:Fr))(yo:2<=b.length):au pg B 271 (gX 270 3 pg (az Tryz.f15) (.int .i64 0)<|cZ A2 m2 c2 bh b2) (sF 15 Tryz.f15 [(.ptr<|some (270,0))])<|zf a n c fs b:=by
 have hN:=xd m0 hs;have hK:=zd m0 h6 b6 hs;rw[kq] at hK;have hv:=tq mp<|.mk op nn la;have hA:=qh<|.mk op nn la;have eS:aL (St.mk 6 to (.mk op nn la) (.mk aE n2 lb) bd el)=(ON to op nn la aE n2 lb bd el):=by rw[wP,aB,aB];rfl
 have hH:=xL<|St.mk 6 to (.mk op nn la) (.mk aE n2 lb) bd el;unfold qu at hN;simp only[eS] at hN hH;simp only[aB] at hv hA;have hB:(AV.tuple [.agg<|ON to op nn la aE n2 lb bd el,.bool true]:AV).hi=true:=by show([_,AV.bool true].all AV.jL)=true;rw[List.all_cons,show(AV.agg _).jL=true from hH];rfl
 have qO:([.agg<|ON to op nn la aE n2 lb bd el]:List AV).all AV.hi=true:=by rw[List.all_cons,hH];rfl
 have hW:=Ts mp ab;rw[hwi] at hW;have hD:iK (gV bJ Jw) (bJ b) []=some ((.int .i64 0:AV),bJ b.dropLast):=by
  unfold iK;rw[AP sM];show(match ([]:List AV).all AV.hi with
   |true=>((if 2<=List.length b/\List.length b<=6 then some ((AV.int .i64 0:AV),b.dropLast) else none).map (fun p:AV×bf=>((p.1,bJ p.2):AV×AV))).bind fun p:AV×AV=>match p.1.hi with
    |true=>some p
    |false=>none
   |false=>none)=_
  rw[if_pos ⟨yo,b6⟩];rfl
 exact aho (a:=a) (n:=n) (c:=c) (u:=bJ b) (fs:=fs) (A1:=A1) (m1:=n1) (c1:=c1) (u1:=bJ b1) (bt:=bt) (A2:=A2) (m2:=m2) (c2:=c2) (u2:=bJ b2) (bh:=bh) (N:=nm<|cK la) (L:=la.length) (N2:=nm<|cK lb) (L2:=lb.length) (to:=to) (op:=op) (nn:=nn) (aE:=aE) (n2:=n2) (bd:=bd) (el:=el) (z:=(dE a<|.mk op nn la)) (wi:=wi) (t:=0) (ol:=ol) (fb:=fb) (fa:=fa) (ft:=ft) (fo:=fo) (ub:=bJ b.dropLast) (y0:=y0) (y1:=y1) (y2:=y2) (y3:=y3) (y4:=y4) (y5:=y5) (y6:=y6) (y7:=y7) mc h1 m0.mU m0.p0 m0.len zG ax cC lL.len lL.aM.cP hz
  qP
  qP
  qP
  qP
  qP
  qP
  qP
  qP
  qP
  qP
  qP
  qP
  qP
  (Bq mc)
noncomputable abbrev OO(to op nn:Int)(la:List Ex)(aE n2:Int)(lb:List Ex)(bd el:List St):List AV:=[.int .u8 2,.int .i64 to,.int .u8 op,.int .i64 nn,.U (nm<|cK la) 0 la.length,.int .u8 aE,.int .i64 n2,.U (nm<|cK lb) 0 lb.length,.U (nm (bd.map aL).flatten) 0 bd.length,.U (nm (el.map aL).flatten) 0 el.length]
theorem jA{n:Nat}{op xx:Int}(mc:Mt LM B)(m0:da a n c fs b)(h1:1<=n)(h6:n<=6)(b6:b.length<=6)(hs:mJ fs n<|some<|St.mk 2 to (.mk op nn la) (.mk aE n2 lb) bd el)(kq:nT a (iG fs n) b (some<|St.mk 2 to (.mk op nn la) (.mk aE n2 lb) bd el)=(2,wi,0))(ax:0<=(av (fs.take n)<|((0+n:Nat):Int) - 1).ar/\(av (fs.take n)<|((0+n:Nat):Int) - 1).ar<=1000000)(cC:0<=a.steps/\a.steps<=1000000000000)(mp:da {a with steps:=a.steps+1} (0+n) (0+n) (gN fs n) b)(m1:da A1 n1 c1 bt b1)(h0:0<=to)(h8:to<8)(mx:da (MN.ij {a with steps:=a.steps+1} to xx) (0+n) (0+n) (gN fs n) b)(pX:dJ eL (cZ (MN.ij {a with steps:=a.steps+1} to xx) (0+n) (0+n) (gN fs n) b) []=some (.tuple [],(cZ A1 n1 c1 bt b1))):au pg B 271 (gX 270 3 pg (az Tryz.f41) (.int .i64 0)<|cZ A1 n1 c1 bt b1) (sF 41 Tryz.f41 [(.ptr<|some (270,0)),(i6 xx)])<|zf a n c fs b:=by
 have hN:=xd m0 hs;have hK:=zd m0 h6 b6 hs;rw[kq] at hK;have hv:=tq mp<|.mk op nn la;have hA:=qh<|.mk op nn la;have eS:aL (St.mk 2 to (.mk op nn la) (.mk aE n2 lb) bd el)=(OO to op nn la aE n2 lb bd el):=by rw[wP,aB,aB];rfl
 have hH:=xL<|St.mk 2 to (.mk op nn la) (.mk aE n2 lb) bd el;unfold qu at hN;simp only[eS] at hN hH;simp only[aB] at hv hA;have hB:(AV.tuple [.agg<|OO to op nn la aE n2 lb bd el,.bool true]:AV).hi=true:=by show([_,AV.bool true].all AV.jL)=true;rw[List.all_cons,show(AV.agg _).jL=true from hH];rfl
 have qO:([.agg<|OO to op nn la aE n2 lb bd el]:List AV).all AV.hi=true:=by rw[List.all_cons,hH];rfl
 have hx:= @OH {a with steps:=a.steps+1} (0+n) (0+n) (gN fs n) b to xx h0 h8;unfold iC.vJ at hx;rw[←hx] at pX;have X0:=mx.bE;rw[←hx] at X0;exact ahp (a:=a) (n:=n) (c:=c) (u:=bJ b) (fs:=fs) (A1:=A1) (m1:=n1) (c1:=c1) (u1:=bJ b1) (bt:=bt) (A2:=A1) (m2:=n1) (c2:=c1) (u2:=bJ b1) (bh:=bt) (N:=nm<|cK la) (L:=la.length) (N2:=nm<|cK lb) (L2:=lb.length) (to:=to) (op:=op) (nn:=nn) (aE:=aE) (n2:=n2) (bd:=bd) (el:=el) (z:=(dE a<|.mk op nn la)) (wi:=wi) (t:=0) (ol:=[]) (fb:=[]) (fa:=0) (ft:=0) (fo:=false) (ub:=.tuple []) (y0:=0) (y1:=0) (y2:=0) (y3:=0) (y4:=0) (y5:=0) (y6:=0) (y7:=0) (xx:=xx) mc h1 m0.mU m0.p0 m0.len zG ax cC m1.len m1.aM.cP h0 h8
  Ca
  Ca
  Ca
  Ca
  Ca
  Ca
  Ca
  (ahm mc)
end
end vV
end
section
open Go Go.Rn Go.RowKit Go.Proofs
namespace nV
open cj fW eZ im eR cH dq cU dm fY fF gJ gQ gW gk gm hZ iB iC iV jh jY ko kY jZ fQ iA nj nU kF oU mu vV
variable {fs aW st:List Fr} {b b':bf} {A:MN} {s:AS} {rs:List ResultVar} {k:Nat} {P:Program} {B:aI}
theorem Kx{n m:Nat}{Q Q':Tr AV->List Nat->Option Code->AS->Prop}{fr:AF}(hm:m<=n)(h:∀t d j s,Q t d j s->Q' t d j s)(H:au P B n Q fr s):au P B m Q' fr s:=by intro ρ w b a cs q1 q2 q3;obtain⟨aO,j,s1,σ,a',w',e1,e2,e3,e4⟩:=H ρ w b a cs q1 q2 q3;exact⟨aO,j,s1,σ,a',w',h _ _ _ _ e1,by omega,fun k hk ht=>e3 k ab ht,e4⟩
theorem Xj{R R':AV->AS->Prop}(h:∀y s,R y s->R' y s):∀t d j s,Rn.Fin P rs R t d j s->Rn.Fin P rs R' t d j s:=by intro t d j s q;obtain⟨v,s2,a,b⟩:=q;exact⟨v,s2,a,h _ _ b⟩
noncomputable def mn(a:dG):MN:=⟨a.vars,nm (a.aM.map zm).flatten,0,a.aM.length,a.aM,a.l.getD 0 0,a.l.getD 1 0,a.l.getD 2 0,a.l.getD 3 0,a.l.getD 4 0,a.l.getD 5 0,a.l.getD 6 0,a.l.getD 7 0,a.steps⟩
theorem Xk{a:dG}(h:a.l.length=8):(mn a).l=a.l:=(Jy a.l h).symm
theorem mh{a:dG}(h:a.l.length=8)(e:Ex):dE (mn a) e=dx a e:=by unfold dE dx;rw[Xk h];rfl
theorem Uc(a:dG)(bg:List Fr)(c:Nat):dD 270 3 (cZ (mn a) a.fs.length c (a.fs++bg) a.b)=gA a bg c:=rfl
structure Good (a:dG):Prop where
 ok:xu a
 n9:iq a.fs
 fR:a.fs.length<=6
 b6:a.b.length<=6
 steps:0<=a.steps/\a.steps<=1000000000000
 ar:∀f∈a.fs,0<=f.ar/\f.ar<=1000000
theorem iq.app{l m:List Fr}(h:iq l)(k:iq m):iq<|l++m:=fun f hf=>by
 rcases List.mem_append.1 hf with q|q
 ·exact h f q
 ·exact k f q
theorem iq.take{l:List Fr}(h:iq l)(n:Nat):iq<|l.take n:=fun f hf=>h f<|List.mem_of_mem_take hf
section
variable {a:dG} {bg:List Fr} {c:Nat} {f:Fr} {r:List Fr} {m:Nat}
theorem Good.ey(h:Good a)(hj:mF a bg c):da (mn a) a.fs.length c (a.fs++bg) a.b:=⟨du.aw Lh a.aM,h.ok.2.1,iq.app h.n9 hj.2.2,by rw[List.length_append];omega,hj.1,hj.2.1,h.ok.2.2.2.2⟩
theorem HN:∀{k n:Nat} {fs:List Fr} {b:bf} {n':Nat} {cY:List Fr} {b':bf},oo k n fs b=some (n',cY,b')->n<=fs.length->iq fs->dj b->iq cY/\dj b'
 |0,_,_,_,_,_,_,h,_,_,_=>by cases h
 |k+1,n,fs,b,n',cY,b',h,hn,hf,hb=>by
  unfold oo at h;by_cases n0:n=0
  ·rw[if_pos n0] at h;injection h with h;injection h with e1 h;injection h with e2 e3
   subst e2;subst e3;exact⟨hf,hb⟩
  ·rw[if_neg n0] at h;simp only at h;have ax:=hf.at<|(n:Int) - 1;have hk:=hf.kept (z:=(n:Int) - 1) ab ab;by_cases c1:(av fs<|(n:Int) - 1).ar<(((av fs<|(n:Int) - 1).block.length:Nat):Int)
   ·rw[if_pos c1] at h;injection h with h;injection h with e1 h;injection h with e2 e3
    subst e2;subst e3;exact⟨hf,hb⟩
   ·rw[if_neg c1] at h;by_cases c2:0<(av fs<|(n:Int) - 1).turns
    ·rw[if_pos c2] at h;have hs:iq<|fs.set ((n:Int) - 1).toNat {av fs ((n:Int) - 1) with ar:=0,turns:=(av fs<|(n:Int) - 1).turns - 1}:=hf.set ⟨⟨by show 0<=_ - 1;omega,by show _ - 1<=1000000;omega⟩,hk⟩;by_cases c3:0<(((av fs<|(n:Int) - 1).block.length:Nat):Int)
     ·rw[if_pos c3] at h;injection h with h;injection h with e1 h;injection h with e2 e3
      subst e2;subst e3;exact⟨hs,hb⟩
     ·rw[if_neg c3] at h;exact HN h (by rw[List.length_set];exact hn) hs hb
    ·rw[if_neg c2] at h;by_cases c4:(av fs<|(n:Int) - 1).bY=true
     ·rw[if_pos c4] at h;by_cases c5:2<=b.length
      ·rw[if_pos c5] at h;exact HN h ab hf<|Ir hb c5
      ·rw[if_neg c5] at h;cases h
     ·rw[if_neg c4] at h;exact HN h ab hf hb
structure jW (A:MN) (n c:Nat) (fs:List Fr) (b:bf) (aW:List Fr) (b':bf) (n':Nat) (cY:List Fr):Prop where
 ey:da A n' c cY b'
 run:dJ eL (cZ A n c fs b) []=some (.tuple [],cZ A n' c cY b')
 eq:(cY.take n').reverse=aW
 len:cY.length=fs.length
 le:n'<=n
theorem rk{n c:Nat}(m:da A n c fs b)(e:(fs.take n).reverse=st)(h:ig k st b=some (aW,b')):∃n' cY,jW A n c fs b aW b' n' cY:=by
 obtain⟨n',cY,a1,a2,a3,a4⟩:=H7 k n fs b st aW b' h m.mU e;obtain⟨q1,q2⟩:=HN a1 m.mU m.n9 m.buf;have fw:n'<=cY.length:=by rw[a3];have:=m.mU;omega
 exact⟨n',cY,⟨m.aM,q2,q1,fw,by have:=m.p0;omega,by rw[a3];exact m.len,m.vars⟩,abo m a1,a4,a3,a2⟩
theorem jW.again{n c:Nat}{n':Nat}{cY:List Fr}(h:ig k st b=some (aW,b'))(d:jW A n c fs b aW b' n' cY):∃n2 bh,jW A n' c cY b' aW b' n2 bh:=rk d.ey d.eq<|Zn h
theorem tu{fr:AF}{n c:Nat}{y:AV}{a':dG}(hA:A=mn a')(hb:b=a'.b)(ok:xu a')(m:da A n c fs b)(e:(fs.take n).reverse=a'.fs.reverse)(H:au pg B 271 (gX 270 3 pg rs y<|cZ A n c fs b) fr s):au pg B 271 (iU XT pg rs 4 y<|ep a') fr s:=by
 subst hA;subst hb;have e:fs.take n=a'.fs:=List.reverse_inj.1 e;have hl:a'.fs.length=n:=by rw[←e,List.length_take];have:=m.mU;omega
 have e2:fs=a'.fs++fs.drop n:=by rw[←e,List.take_append_drop]
 refine Kx (Nat.le_refl _) (Xj fun y1 s' q=>⟨q.1,gA a' (fs.drop n) c,XT.tT a' ok _ c ⟨by rw[hl];exact m.p0,by rw[←e2];exact m.len,fun f hf=>m.n9 f<|List.mem_of_mem_drop hf⟩,?_⟩) H;have hx:=q.2;rw[←Uc,hl, ←e2];exact hx
structure nH (a:dG) (bg:List Fr) (f:Fr) (r:List Fr) (m:Nat):Prop where
 n:a.fs.length=m+1
 get:(a.fs++bg)[m]? =some f
 rest:((a.fs++bg).take m).reverse=r
 all:((a.fs++bg).take<|m+1).reverse=f::r
 mem:f∈a.fs
theorem OP(h:a.fs.reverse=f::r):∃m,nH a bg f r m:=by
 have e:(a.fs++bg).take a.fs.length=a.fs:=List.take_left;have e2:((a.fs++bg).take a.fs.length).reverse=f::r:=by rw[e];exact h
 obtain⟨m,h1,h2,h3,h4⟩:=Nu (by rw[List.length_append];omega) e2;refine⟨m,h1,h3,h4,by rw[←h1];exact e2,?_⟩;have:f∈a.fs.reverse:=by rw[h];exact List.mem_cons_self
 exact List.mem_reverse.1 this
theorem sS(t:nH a bg f r m)(h0:0<=f.ar){s:St}(hs:f.block[f.ar.toNat]? =some s):mJ (a.fs++bg) a.fs.length<|some s:=by
 have e:zJ (a.fs++bg) a.fs.length=f:=by unfold zJ;rw[t.n];exact Ub t.get
 exact .inr ⟨by rw[t.n];omega,by rw[e];exact h0,s,by rw[e];exact hs,rfl⟩
theorem I5(t:nH a bg f r m):av ((a.fs++bg).take a.fs.length) (((0+a.fs.length:Nat):Int) - 1)=f/\gN (a.fs++bg) a.fs.length=((a.fs++bg).take a.fs.length).set m {f with ar:=f.ar+1}:=by
 have e0:((((0+a.fs.length):Nat):Int) - 1)=(m:Int):=by rw[t.n];omega
 have hg:((a.fs++bg).take a.fs.length)[m]? =some f:=by rw[List.getElem?_take_of_lt qG];exact t.get
 have e:av ((a.fs++bg).take a.fs.length) (((0+a.fs.length:Nat):Int) - 1)=f:=by rw[e0];exact Nv hg
 refine⟨e,?_⟩;unfold gN;rw[e,e0];rfl
theorem sU(t:nH a bg f r m):(gN (a.fs++bg) a.fs.length).length=a.fs.length/\((gN (a.fs++bg) a.fs.length).take<|0+a.fs.length).reverse={f with ar:=f.ar+1}::r/\gN (a.fs++bg) a.fs.length=(gN (a.fs++bg) a.fs.length).take (0+a.fs.length):=by
 have e:(a.fs++bg).take a.fs.length=a.fs:=List.take_left;have el:(gN (a.fs++bg) a.fs.length).length=a.fs.length:=by rw[(I5 t).2,e,List.length_set]
 refine⟨el,?_,by rw[List.take_of_length_le (by rw[el];omega)]⟩;rw[(I5 t).2,e,Nat.zero_add,t.n,take_set _ qG];have:=t.rest;rw[List.take_append_of_le_length qG] at this;rw[this]
theorem Good.mp(h:Good a)(hj:mF a bg c)(t:nH a bg f r m):da {mn a with steps:=a.steps+1} (0+a.fs.length) (0+a.fs.length) (gN (a.fs++bg) a.fs.length) a.b:=by obtain⟨p1,p2,p3⟩:=sU t;refine⟨(h.ey hj).aM,h.ok.2.1,?_,by rw[p1];omega,Nat.le_refl _,by rw[p1];have:=h.fR;omega,(h.ey hj).vars⟩;rw[(I5 t).2];exact(iq.take (h.ey hj).n9 _).set<|h.n9 f t.mem
theorem Good.ax(h:Good a)(t:nH a bg f r m):0<=(av ((a.fs++bg).take a.fs.length)<|((0+a.fs.length:Nat):Int) - 1).ar/\(av ((a.fs++bg).take a.fs.length)<|((0+a.fs.length:Nat):Int) - 1).ar<=1000000:=by rw[(I5 t).1];exact h.ar f t.mem
theorem tw(h:Good a)(t:nH a bg f r m)(cC:a.fs.reverse=f::r)(s:St)(hs:f.block[f.ar.toNat]? =some s):nT (mn a) (iG (a.fs++bg) a.fs.length) a.b (some s)=dZ a:=by
 obtain⟨kind,to,ea,eb,bd,el⟩:=s;have hw:=Nw a.fs.length (a.fs++bg) (f::r) (by rw[List.length_append];omega) (by rw[t.n];exact t.all);unfold dZ;rw[Fb,cC];simp only[hs,mh h.ok.1];have ev:(mn a).vars=a.vars:=rfl;rw[ev];by_cases c8:kind=8
 ·rw[if_pos c8,if_pos c8]
 ·rw[if_neg c8,if_neg c8];cases hb:below (f::r) with
  |none=>
   have e:=hw.1 hb;rw[e];by_cases c6:kind=6
   ·rw[if_pos ⟨c6,by omega⟩,if_pos ⟨c6,rfl⟩]
   ·simp only[c6,false_and,if_false]
  |some p=>obtain⟨i,e,_⟩:=hw.2 p.1 p.2 hb;rw[e,if_neg (show ¬(kind=6/\(i:Int)<0) from fun q=>by have:=q.2;omega),if_neg (show ¬(kind=6/\some p=none) from fun q=>by cases q.2)]
end
end nV
end
