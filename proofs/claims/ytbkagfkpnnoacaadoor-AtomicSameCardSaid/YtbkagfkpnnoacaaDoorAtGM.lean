import Derived.Test.YtbkagfkpnnoacaaDoorAtGL
set_option maxRecDepth 100000
set_option maxHeartbeats 8000000
set_option linter.unusedSimpArgs false
set_option linter.unusedVariables false
section
open Go Go.Rn Go.RowKit Go.Proofs
namespace kS
open ch eO cG dj cQ di fW fD gH gQ gW gk hU iC iD iT jd jW kj gj
variable {wi v to aF nn n2 kind gx:Int} {u Y:AV} {fs:List Fr} {c N4 N3 N2 N L4 L3 L2 L:Nat} {a:MN} {B:aJ}
noncomputable abbrev fc(a:MN)(n c:Nat)(u:AV)(fs:List Fr):VS:=(⟨⟨a.pre,n,(.aq c 13),[.int .i64 a.steps]⟩,u,(fs.map aI).flatten⟩:VS)
noncomputable abbrev Jq:List AV:=[(u8<|.ofNat 0),i0,(u8<|.ofNat 0),i0,(.slice none 0<|.known 0),(u8<|.ofNat 0),i0,(.slice none 0<|.known 0),(.slice none 0<|.known 0),(.slice none 0<|.known 0)]
noncomputable abbrev I8(n c:Nat):AV:=.slice (some (272,0)) (n)<|.aq c 13
theorem ahg{n:Nat}{N L N2 L2 N3 L3 N4 L4:Nat}{kind to op nn aF n2:Int}{z v wi gx:Int}(mc:Mt [l7,iL,jE,kO,lY] B)(hO:bD 10 (fc a n c u fs)=true)(hs:vR iQ (fc a n c u fs) []=some (.tuple [(.agg Jq),(.bool false)]))(E0:(.agg [.int .u8 3,.int .i64 0,.int .i64 0]:AV)=Y):au pg B 273 (gX 270 3 pg (az Tryd.f13) Y<|fc a n c u fs) (sF 13 Tryd.f13 [.ptr<|some (270,0)])<|ah (ar++aX (dC 270 3<|fc a n c u fs)) 273:=by exact lZ (E:=qO [l7,iL,jE,kO,lY]) eQ rfl bH mc.2.2.1 mc.2.2.2 900 (.st 8<|.rg<|.go 1<|.cg (.tuple [(.agg Jq),(.bool false)]) (vG 272) (vQ 272<|fc a n c u fs)<|.go 6<|.en<|.rt 8 .no)<|jK [l7,iL,jE,kO,lY] 26 272 (vR iQ) [] (fc a n c u fs) (.tuple [(.agg Jq),(.bool false)]) hO hs rfl bU<|mL (st:=(fc a n c u fs)) (s:=ah (ar++[(270,some<|.cells 13 (Tr.fill (a.row (.ptr<|some (271,0)) (I8 n c)<|i6 a.steps) 0 .nil) []),(271,(some<|.tok 3 u)),(272,(some<|aC aI fs)),(273,some<|.cells 3 (Tr.fill [(u8<|.ofNat 3),i0,i0] 0 .nil) []),(274,some<|.cells 10 (Tr.fill Jq 0 .nil) [])]) 275) (show(.agg [(u8<|.ofNat 3),i0,i0])=Y from E0) bU bU bU
noncomputable abbrev ae0(a:MN)(n c:Nat)(u:AV)(fs:List Fr)(kind to op nn:Int)(N L:Nat)(aF n2:Int)(N2 L2 N3 L3 N4 L4:Nat):List<|Nat×Option ae:=ar++[(270,some<|.cells 13 (Tr.fill (a.row (.ptr<|some (271,0)) (.slice (some (272,0)) (n)<|.aq c 13)<|i6 a.steps) 0 .nil) []),(271,(some<|.tok 3 u)),(272,(some<|aC aI fs)),(273,some<|.cells 3 (Tr.fill [(u8<|.ofNat 1),i0,i0] 0 .nil) []),(274,some<|.cells 10 (Tr.fill [(u8<|kind),(i6 to),(u8<|op),(i6 nn),(.U N 0 L),(u8<|aF),(i6 n2),(.U N2 0 L2),(.U N3 0 L3),(.U N4 0 L4)] 0 .nil) [])]
noncomputable abbrev sW(kind to op nn:Int)(N L:Nat)(aF n2:Int)(N2 L2 N3 L3 N4 L4:Nat):List AV:=[(u8<|kind),(i6 to),(u8<|op),(i6 nn),(.U N 0 L),(u8<|aF),(i6 n2),(.U N2 0 L2),(.U N3 0 L3),(.U N4 0 L4)]
noncomputable abbrev xh(op nn:Int)(N L:Nat):List AV:=[(.agg [(u8<|op),(i6 nn),(.U N 0 L)])]
theorem ahh{n:Nat}{op:Int}{z:Int}(mc:Mt [l7,iL,jE,kO,lY] B)(hO:bD 10 (fc a n c u fs)=true)(hs:vR iQ (fc a n c u fs) []=some (.tuple [(.agg<|sW kind to op nn N L aF n2 N2 L2 N3 L3 N4 L4),(.bool true)]))(hY:((.tuple [(.agg<|sW kind to op nn N L aF n2 N2 L2 N3 L3 N4 L4),(.bool true)]):AV).hi=true)(hA:((xh op nn N L):List AV).all AV.hi=true)(hz:vR ji (fc a n c u fs) (xh op nn N L)=some (.int .i64 z))(hv:vR nK (fc a n c u fs) (xh op nn N L)=some (.int .i64 v))(hw:vR qX (fc a n c u fs) []=some (.int .i64 wi))(hg:iK (gV bI Bh) u [.int .i64 v]=some (.tuple [.int .i64 gx,.bool true],u))(E8:kind=8->(.agg [.int .u8 3,.int .i64 0,.int .i64 z]:AV)=Y)(E6:kind=6->wi<0->(.agg [.int .u8 4,.int .i64 0,.int .i64 0]:AV)=Y)(EI:kind≠8->(kind=6->0<=wi)->(kind=kind)->(.agg [.int .u8 1,.int .i64 0,.int .i64 0]:AV)=Y):au pg B 273 (gX 270 3 pg (az Tryd.f13) Y<|fc a n c u fs) (sF 13 Tryd.f13 [.ptr<|some (270,0)])<|ah (ar++aX (dC 270 3<|fc a n c u fs)) 273:=by exact lZ (E:=qO [l7,iL,jE,kO,lY]) eQ rfl bH mc.2.2.1 mc.2.2.2 900 (.st 8<|.rg<|.go 1<|.cg (.tuple [(.agg<|sW kind to op nn N L aF n2 N2 L2 N3 L3 N4 L4),(.bool true)]) (vG 272) (vQ 272<|fc a n c u fs)<|.go 6<|.en<|.st 6<|.rg<|.go 2<|.fk (.go 1<|.en<|.st 2<|.rg<|.go 3<|.cg (i6 z) (vG 272) (vQ 272<|fc a n c u fs)<|.go 2<|.en<|.rt 1 .no)<|.go 1<|.en<|.st 2<|.rg<|.go 2<|.fk (.go 2<|.cg (i6 wi) (vG 272) (vQ 272<|fc a n c u fs)<|.fk (.go 2<|.en<|.rt 4 .no)<|.go 2<|.en<|.st 2<|.rg<|.go 2<|.fk (.go 1<|.en<|.st 2<|.rg<|.go 3<|.cg (i6 v) (vG 272) (vQ 272<|fc a n c u fs)<|.go 1<|.en<|.st 1<|.rg<|.go 5<|.kt (.tuple [(i6 gx),(.bool true)]) u<|.go 5<|.en<|.rt 8 .no)<|.go 1<|.en<|.rt 6 .no)<|.go 6<|.en<|.st 2<|.rg<|.go 2<|.fk (.go 1<|.en<|.st 2<|.rg<|.go 3<|.cg (i6 v) (vG 272) (vQ 272<|fc a n c u fs)<|.go 1<|.en<|.st 1<|.rg<|.go 5<|.kt (.tuple [(i6 gx),(.bool true)]) u<|.go 5<|.en<|.rt 8 .no)<|.go 1<|.en<|.rt 6 .no)<|jK [l7,iL,jE,kO,lY] 26 272 (vR iQ) [] (fc a n c u fs) (.tuple [(.agg<|sW kind to op nn N L aF n2 N2 L2 N3 L3 N4 L4),(.bool true)]) hO hs rfl hY<|aT (kind=8) WH fun _=>(aT (kind=6) (fun _=>(jK [l7,iL,jE,kO,lY] 28 272 (vR qX) [] (fc a n c u fs) (i6 wi) hO hw rfl bU<|aT (wi<0) WK WM)) WM)
theorem ahi{n:Nat}{op:Int}{z:Int}(mc:Mt [l7,iL,jE,kO,lY] B)(hO:bD 10 (fc a n c u fs)=true)(hs:vR iQ (fc a n c u fs) []=some (.tuple [(.agg<|sW kind to op nn N L aF n2 N2 L2 N3 L3 N4 L4),(.bool true)]))(hY:((.tuple [(.agg<|sW kind to op nn N L aF n2 N2 L2 N3 L3 N4 L4),(.bool true)]):AV).hi=true)(hA:((xh op nn N L):List AV).all AV.hi=true)(hz:vR ji (fc a n c u fs) (xh op nn N L)=some (.int .i64 z))(hv:vR nK (fc a n c u fs) (xh op nn N L)=some (.int .i64 v))(hw:vR qX (fc a n c u fs) []=some (.int .i64 wi))(hg:iK (gV bI Bh) u [.int .i64 v]=some (.tuple [.int .i64 gx,.bool false],u))(E8:kind=8->(.agg [.int .u8 3,.int .i64 0,.int .i64 z]:AV)=Y)(E6:kind=6->wi<0->(.agg [.int .u8 4,.int .i64 0,.int .i64 0]:AV)=Y)(E2:kind=2->(.agg [.int .u8 2,.int .i64 v,.int .i64 0]:AV)=Y)(EI:kind≠8->(kind=6->0<=wi)->(kind≠2)->(.agg [.int .u8 1,.int .i64 0,.int .i64 0]:AV)=Y):au pg B 273 (gX 270 3 pg (az Tryd.f13) Y<|fc a n c u fs) (sF 13 Tryd.f13 [.ptr<|some (270,0)])<|ah (ar++aX (dC 270 3<|fc a n c u fs)) 273:=by exact lZ (E:=qO [l7,iL,jE,kO,lY]) eQ rfl bH mc.2.2.1 mc.2.2.2 900 (.st 8<|.rg<|.go 1<|.cg (.tuple [(.agg<|sW kind to op nn N L aF n2 N2 L2 N3 L3 N4 L4),(.bool true)]) (vG 272) (vQ 272<|fc a n c u fs)<|.go 6<|.en<|.st 6<|.rg<|.go 2<|.fk (.go 1<|.en<|.st 2<|.rg<|.go 3<|.cg (i6 z) (vG 272) (vQ 272<|fc a n c u fs)<|.go 2<|.en<|.rt 1 .no)<|.go 1<|.en<|.st 2<|.rg<|.go 2<|.fk (.go 2<|.cg (i6 wi) (vG 272) (vQ 272<|fc a n c u fs)<|.fk (.go 2<|.en<|.rt 4 .no)<|.go 2<|.en<|.st 2<|.rg<|.go 2<|.fk (.go 1<|.en<|.st 2<|.rg<|.go 3<|.cg (i6 v) (vG 272) (vQ 272<|fc a n c u fs)<|.go 1<|.en<|.st 1<|.rg<|.go 5<|.kt (.tuple [(i6 gx),(.bool false)]) u<|.go 5<|.en<|.rt 6 .no)<|.go 1<|.en<|.rt 6 .no)<|.go 6<|.en<|.st 2<|.rg<|.go 2<|.fk (.go 1<|.en<|.st 2<|.rg<|.go 3<|.cg (i6 v) (vG 272) (vQ 272<|fc a n c u fs)<|.go 1<|.en<|.st 1<|.rg<|.go 5<|.kt (.tuple [(i6 gx),(.bool false)]) u<|.go 5<|.en<|.rt 6 .no)<|.go 1<|.en<|.rt 6 .no)<|jK [l7,iL,jE,kO,lY] 26 272 (vR iQ) [] (fc a n c u fs) (.tuple [(.agg<|sW kind to op nn N L aF n2 N2 L2 N3 L3 N4 L4),(.bool true)]) hO hs rfl hY<|aT (kind=8) WH fun _=>(aT (kind=6) (fun _=>(jK [l7,iL,jE,kO,lY] 28 272 (vR qX) [] (fc a n c u fs) (i6 wi) hO hw rfl bU<|aT (wi<0) WK fun _=>(aT (kind=2) WG fun _=>KX))) fun _=>(aT (kind=2) WG fun _=>KX))
end kS
end
section
open Go Go.Rn Go.RowKit Go.Proofs
namespace jX
open ch eO cG dj cQ di fW fD gH gQ gW gk hU iC iD iT jd jW kj kS gj
variable {to kind i:Int} {el bd:List St} {eb ea:Ex} {o:Option St} {n':Nat} {cW:List Fr} {b':bf}
noncomputable section
abbrev cX(a:MN)(n c:Nat)(fs:List Fr)(b:bf):VS:=⟨⟨a.pre,n,.aq c 13,[.int .i64 a.steps]⟩,bI b,(fs.map aI).flatten⟩
structure cY (a:MN) (n c:Nat) (fs:List Fr) (b:bf):Prop where
 aA:dv encI 1 (.U a.G a.q a.lg) a.aA
 buf:de b
 nY:ir fs
 mR:n<=fs.length
 pV:n<=c
 len:fs.length<=1000000
 vars:1<=a.vars/\a.vars<=32
section
variable {a:MN} {n c:Nat} {fs:List Fr} {b:bf}
theorem cY.wu(h:cY a n c fs b):sf (cX a n c fs b) a:=⟨rfl,rfl,h.aA⟩
theorem VC(fs:List Fr):(fs.map aI).flatten.length=fs.length*13:=by
 have:=uE (K:=13) (l:=fs.map aI) fun c hc=>by obtain⟨a,_,rfl⟩:=List.mem_map.1 hc;exact fA a
 rw[this,List.length_map]
theorem UR(fs:List Fr):(fs.map aI).flatten.all AV.cM=true:=by rw[List.all_eq_true];intro c hc;obtain⟨y,hy,hc⟩:=List.mem_flatten.1 hc;obtain⟨g,_,rfl⟩:=List.mem_map.1 hy;exact TL g c hc
theorem cY.bD(h:cY a n c fs b):bD 10 (cX a n c fs b)=true:=by
 have ht:top=549755813888:=rfl;have e1:se (cX a n c fs b).R=true:=by have g:=h.aA.cM;unfold se;show((a.pre).all AV.cM&&([AV.int .i64 a.steps]).all AV.cM)=true;unfold MN.pre;simp only[List.all_cons,List.all_nil,g];rfl
 refine and_true.2 ⟨e1,and_true.2 ⟨UR fs,and_true.2 ⟨aL.2 (by show 13<=top;omega),aL.2 ?_⟩⟩⟩;show(fs.map aI).flatten.length<=top;rw[VC];have:=h.len;omega
theorem ad0{a':MN}{c':Nat}(h:cY a n c fs b)(h':cY a' n' c' cW b')(e:cX a n c fs b=cX a' n' c' cW b'):a=a'/\n=n'/\c=c'/\fs=cW/\b=b':=by
 have e1:=h.wu;rw[e] at e1;have ea:=e1.inj h'.wu;injection e with e2 e3 e4
 injection e2 with e5 e6 e7 e8
 injection e7 with e7
 exact⟨ea,e6,e7,Fb _ _ h.nY h'.nY e4,sw _ _ e3⟩
def dD(a:MN)(e:Ex):Int:=(zf e a.l a.aA).1
def iM(x m:Int):Int:=if m<1 then 0 else if Int.tmod x m<0 then Int.tmod x m+m else Int.tmod x m
theorem afC(x m:Int):tM x m= .tuple [.int .i64<|iM x m,.int .i64 (if m<1 then 1 else 0)]:=by
 unfold tM iM
 repeat' split
 all_goals first|rfl|omega
theorem US{x m:Int}(h:1<=m):0<=iM x m/\iM x m<m:=by
 unfold iM;rw[if_neg ab];have h1:=Int.tmod_lt_of_pos x (show 0<m by omega);have h2: - m<Int.tmod x m:=by have:=Int.lt_tmod_of_pos x (show 0<m by omega);omega
 split<;>omega
theorem td(h:cY a n c fs b)(e:Ex):vR ji (cX a n c fs b) [.agg<|aD e]=some (i6<|dD a e):=Du ji.bM ⟨a,e,h.wu,rfl,rfl⟩
theorem Ox(h:cY a n c fs b)(e:Ex):vR nK (cX a n c fs b) [.agg<|aD e]=some (i6<|iM (dD a e) a.vars):=Du nK.bM ⟨a,e,_,_,h.wu,rfl,by have:=h.vars;omega,afC _ _,rfl⟩
theorem Tg(h:cY a n c fs b)(h6:n<=6):vR qX (cX a n c fs b) []=some (i6<|iG fs n):=Du qX.bM ⟨a,n,c,fs,h.wu,rfl,rfl,rfl,rfl,h.nY,h6,h.mR,h.len,rfl⟩
theorem wX(h:cY a n c fs b)(hs:mH fs n o):vR iQ (cX a n c fs b) []=some (ql o):=Du iQ.bM ⟨a,n,c,fs,o,h.wu,rfl,rfl,rfl,rfl,h.nY,h.mR,h.len,hs,rfl⟩
theorem UT{b:bf}(b6:b.length<=6)(v:Int):iK (gV bI Bh) (bI b) [.int .i64 v]=some (.tuple [.int .i64 (kz b v).1,.bool (kz b v).2],bI b):=by
 unfold iK;rw[AI sw];show(match ([.int .i64 v]:List AV).all AV.hi with
  |true=>((if b.length<=6 then some (AV.tuple [.int .i64 (kz b v).1,.bool (kz b v).2],b) else none).map (fun p:AV×bf=>((p.1,bI p.2):AV×AV))).bind fun p:AV×AV=>match p.1.hi with
   |true=>some p
   |false=>none
  |false=>none)=_
 rw[if_pos b6];rfl
theorem ad1{b:bf}(b6:b.length<=6)(v x:Int):iK (gV bI F3) (bI b) [.int .i64 v,.int .i64 x]=some ((.int .i64 0:AV),bI<|kL b v x):=by
 unfold iK;rw[AI sw];show(match ([.int .i64 v,.int .i64 x]:List AV).all AV.hi with
  |true=>((if b.length<=6 then some ((AV.int .i64 0:AV),kL b v x) else none).map (fun p:AV×bf=>((p.1,bI p.2):AV×AV))).bind fun p:AV×AV=>match p.1.hi with
   |true=>some p
   |false=>none
  |false=>none)=_
 rw[if_pos b6];rfl
theorem abc(h:cY a n c fs b){k:Nat}(hs:oj k n fs b=some (n',cW,b')):dH eG (cX a n c fs b) []=some (.tuple [],cX a n' c cW b'):=Jo eG.bM ⟨a,n,c,k,n',fs,cW,b,b',h.wu,rfl,rfl,rfl,rfl,rfl,h.buf,h.nY,h.mR,h.pV,h.len,hs,rfl⟩
end
def MN.im(a:MN)(i z:Int):MN:=match i.toNat with
 |0=>{a with x0:=z}
 |1=>{a with x1:=z}
 |2=>{a with x2:=z}
 |3=>{a with x3:=z}
 |4=>{a with x4:=z}
 |5=>{a with x5:=z}
 |6=>{a with x6:=z}
 |7=>{a with x7:=z}
 |_=>a
section
variable {a:MN} {n c:Nat} {fs:List Fr} {b:bf}
theorem UU(h0:0<=i)(h8:i<8):i=0\/i=1\/i=2\/i=3\/i=4\/i=5\/i=6\/i=7:=by omega
theorem Oy{i z:Int}(h0:0<=i)(h8:i<8):vB (cX a n c fs b) i z=cX (MN.im a i z) n c fs b:=by rcases UU h0 h8 with rfl|rfl|rfl|rfl|rfl|rfl|rfl|rfl<;>rfl
theorem abd{z:Int}:(MN.im a i z).vars=a.vars/\(MN.im a i z).G=a.G/\(MN.im a i z).q=a.q/\(MN.im a i z).lg=a.lg/\(MN.im a i z).aA=a.aA/\(MN.im a i z).steps=a.steps:=by unfold MN.im;split<;>exact⟨rfl,rfl,rfl,rfl,rfl,rfl⟩
theorem cY.im{z:Int}(h:cY a n c fs b):cY (MN.im a i z) n c fs b:=by
 obtain⟨e1,e2,e3,e4,e5,_⟩:=abd (a:=a) (i:=i) (z:=z);refine⟨?_,h.buf,h.nY,h.mR,h.pV,h.len,?_⟩
 ·rw[e2,e3,e4,e5];exact h.aA
 ·rw[e1];exact h.vars
theorem afD(h:cY a n c fs b)(h0:0<=to)(h8:to<8):dH zx (cX a n c fs b) [.agg<|aM<|.mk kind to ea eb bd el]=some (.tuple [],cX (MN.im a to<|dD a ea) n c fs b):=Jo zx.bM ⟨a,kind,to,ea,eb,bd,el,dD a ea,h.bD,h.wu,rfl,h0,h8,td h ea,by rw[Oy h0 h8]⟩
theorem ad2(h:cY a n c fs b)(b6:b.length<=6)(h0:0<=to)(h8:to<8):dH zj (cX a n c fs b) [.agg<|aM<|.mk kind to ea eb bd el]=some (.tuple [],cX (MN.im a to (kz b<|iM (dD a ea) a.vars).1) n c fs b):=Jo zj.bM ⟨a,kind,to,ea,eb,bd,el,iM (dD a ea) a.vars,(kz b<|iM (dD a ea) a.vars).1,(kz b<|iM (dD a ea) a.vars).2,h.bD,h.wu,rfl,h0,h8,Ox h ea,UT b6 _,by rw[Oy h0 h8]⟩
theorem acn(h:cY a n c fs b)(b6:b.length<=6):dH yU (cX a n c fs b) [.agg<|aM<|.mk kind to ea eb bd el]=some (.tuple [],cX a n c fs<|kL b (iM (dD a ea) a.vars)<|dD a eb):=Jo yU.bM ⟨a,kind,to,ea,eb,bd,el,iM (dD a ea) a.vars,dD a eb,bI<|kL b (iM (dD a ea) a.vars)<|dD a eb,h.bD,h.wu,rfl,Ox h ea,td h eb,ad1 b6 _ _,rfl⟩
def nQ(a:MN)(w:Int)(b:bf):Option St->Int×Int×Int
 |none=>(3,0,0)
 |some (.mk kind _ ea _ _ _)=>if kind=8 then(3,0,dD a ea) else if kind=6/\w<0 then(4,0,0) else if kind=2/\(kz b<|iM (dD a ea) a.vars).2=false then(2,iM (dD a ea) a.vars,0) else(1,0,0)
def BD(q:Int×Int×Int):AV:=.agg [.int .u8 q.1,.int .i64 q.2.1,.int .i64 q.2.2]
theorem ET{w:Int}:nQ a w b (some<|.mk kind to ea eb bd el)=if kind=8 then(3,0,dD a ea) else if kind=6/\w<0 then(4,0,0) else if kind=2/\(kz b<|iM (dD a ea) a.vars).2=false then(2,iM (dD a ea) a.vars,0) else(1,0,0):=rfl
theorem UW{B:aJ}(mc:Mt [l7,iL,jE,kO,lY] B)(h:cY a n c fs b)(h6:n<=6)(b6:b.length<=6)(hs:mH fs n o):
 au pg B 273 (gX 270 3 pg (az Tryd.f13) (BD<|nQ a (iG fs n) b o)<|cX a n c fs b) (sF 13 Tryd.f13 [.ptr<|some (270,0)]) (ah (ar++aX (dC 270 3<|cX a n c fs b)) 273):=by
 have hn:=wX h hs;cases o with
 |none=>exact ahg (N:=0) (L:=0) (N2:=0) (L2:=0) (N3:=0) (L3:=0) (N4:=0) (L4:=0) (kind:=0) (to:=0) (op:=0) (nn:=0) (aF:=0) (n2:=0) (z:=0) (v:=0) (wi:=0) (gx:=0) mc h.bD hn rfl
 |some s=>
  obtain⟨kind,to,ea,eb,bd,el⟩:=s;have hz:=td h ea;have hv:=Ox h ea;have hw:=Tg h h6;have hg:=UT b6<|iM (dD a ea) a.vars;have hA:=qd ea;have hY:(ql (some<|.mk kind to ea eb bd el):AV).hi=true:=by show([AV.agg<|aM<|.mk kind to ea eb bd el,.bool true].all AV.jI)=true;have e:(AV.agg<|aM<|.mk kind to ea eb bd el).jI=true:=xE _;rw[List.all_cons,e];rfl
  have k8:kind=8->nQ a (iG fs n) b (some<|.mk kind to ea eb bd el)=(3,0,dD a ea):=fun q=>if_pos q;have k6:kind=6->iG fs n<0->nQ a (iG fs n) b (some<|.mk kind to ea eb bd el)=(4,0,0):=fun q r=>by rw[ET,if_neg ab,if_pos ⟨q,r⟩]
  obtain⟨op,nn,la⟩:=ea;obtain⟨aF,n2,lb⟩:=eb;unfold ql at hn hY;rw[aD] at hz hv hA;simp only[aM,aD] at hn hY;cases hb:(kz b<|iM (dD a<|.mk op nn la) a.vars).2 with
  |true=>
   rw[hb] at hg;refine ahh mc h.bD hn hY hA hz hv hw hg (fun q=>?_) (fun q r=>?_) fun q r _=>?_
   ·rw[k8 q];rfl
   ·rw[k6 q r];rfl
   ·rw[ET,if_neg q,if_neg (fun z=>by have:=r z.1;omega),if_neg (fun z=>by rw[hb] at z;cases z.2)];rfl
  |false=>
   rw[hb] at hg;refine ahi mc h.bD hn hY hA hz hv hw hg (fun q=>?_) (fun q r=>?_) (fun q=>?_) fun q r z=>?_
   ·rw[k8 q];rfl
   ·rw[k6 q r];rfl
   ·rw[ET,if_neg ab,if_neg (fun z=>by omega),if_pos ⟨q,hb⟩];rfl
   ·rw[ET,if_neg q,if_neg (fun z=>by have:=r z.1;omega),if_neg fun y=>z y.1];rfl
def kU(st:VS)(rest:List AV)(v:AV):Prop:=∃(a:MN) (n c:Nat) (fs:List Fr) (b:bf) (o:Option St),st=cX a n c fs b/\cY a n c fs b/\rest=[]/\n<=6/\b.length<=6/\mH fs n o/\v=BD (nQ a (iG fs n) b o)
theorem kU.bM(st:VS)(rest:List AV)(v v':AV)(h:kU st rest v)(h':kU st rest v'):v=v':=by obtain⟨a,n,c,fs,b,o,rfl,m1,_,_,_,s1,rfl⟩:=h;obtain⟨a',n',c',cW,b',o',e,m2,_,_,_,s2,rfl⟩:=h';obtain⟨rfl,rfl,rfl,rfl,rfl⟩:=ad0 m1 m2 e;rw[s1.bM s2]
def P1:FuncId×KE:=(13,.raw<|mZ 10 3<|vR kU)
theorem ad3(hP:bS pg){L:bO}(h:aY L):aY<|P1::L:=by refine ES hP gU xY jR jj mh lU h (Ni hP<|CS hP<|Fo hP<|Im hP<|Ma hP dc) Tryd.func13 (body:=aR pg 13 []) aW aW fun st rest y e _=>?_;obtain⟨a,n,c,fs,b,o,rfl,m1,rfl,h6,b6,s1,rfl⟩:=FG e;exact⟨aL.1 aW,fun B mc=>UW mc m1 h6 b6 s1⟩
theorem yV(h:cY a n c fs b)(h6:n<=6)(b6:b.length<=6)(hs:mH fs n o):vR kU (cX a n c fs b) []=some (BD<|nQ a (iG fs n) b o):=Du kU.bM ⟨a,n,c,fs,b,o,rfl,h,rfl,h6,b6,hs,rfl⟩
end
end
end jX
end
section
open Go Go.Rn Go.RowKit Go.Proofs
namespace nh
open ch eO cG dj cQ di fW fD gH gQ gW gk hU iC iD iT jd gj
theorem aoE{fs:List Fr}{n:Nat}{f:Fr}{cs:List AV}{X:Prop}(hc:aI f=cs)(hn:n<=fs.length)(hl:fs.length<=1000000)(x:X):
 ((.known n:bW)= .known n/\1<=1/\some (aC aI fs)=some (.cells (fs.map aI).flatten.length (Tr.fill (fs.map aI).flatten 0 .nil) [])/\some (ae.cells cs.length (Tr.fill cs 0 .nil) [])=some (.cells cs.length (Tr.fill cs 0 .nil) [])/\(fs.map aI).flatten.length<=top/\cs.length<=top/\n*13<=(fs.map aI).flatten.length/\1*13<=cs.length/\(fs.map aI).flatten.take (n*13)++cs.take (1*13)=((fs.take n++[f]).map aI).flatten/\((fs.take n++[f]).map aI).flatten.all AV.bR=true/\2*(n+1)*136+4096*136<=room/\((fs.take n++[f]).map aI).flatten.length<=top/\X):=by
 have ht:top=549755813888:=rfl;have e1:∀l:List Fr,(l.map aI).flatten.length=l.length*13:=fun l=>by
  have:=uE (K:=13) (l:=l.map aI) fun c hc=>by obtain⟨a,_,rfl⟩:=List.mem_map.1 hc;exact fA a
  rw[this,List.length_map]
 have e2:cs.length=13:=by rw[←hc];exact fA f
 have e3:∀(l:List Fr) (k:Nat),(l.map aI).flatten.take (k*13)=((l.take k).map aI).flatten:=by
  intro l;induction l with
  |nil=>intro k;simp
  |cons x l ih=>
   intro k;cases k with
   |zero=>simp
   |succ k=>rw[List.map_cons,List.flatten_cons,List.take_succ_cons,List.map_cons,List.flatten_cons, ←ih k,List.take_append,fA,List.take_of_length_le (by rw[fA];omega),show(k+1)*13 - 13=k*13 by omega]
 refine⟨rfl,Nat.le_refl 1,rfl,rfl,by rw[e1];omega,by omega,by rw[e1];omega,by omega,?_,?_,?_,?_,x⟩
 ·rw[e3,List.map_append,List.flatten_append];congr 1;rw[List.take_of_length_le (l:=cs) ab, ←hc];simp
 ·rw[List.all_eq_true];intro c hc;obtain⟨y,hy,hc⟩:=List.mem_flatten.1 hc;obtain⟨g,_,rfl⟩:=List.mem_map.1 hy;exact List.all_eq_true.1 (MC g) c hc
 ·unfold room;omega
 ·rw[e1,List.length_append,List.length_take];show(min n fs.length+1)*13<=top;omega
end nh
end
section
open Go Go.Rn Go.RowKit Go.Proofs
namespace nS
open ch eO cG dj cQ di fW fD gH gQ gW gk hU iC iD iT jd nh gj
theorem z7{fs:List Fr}{n:Nat}{X:Prop}(h1:1<=n)(hn:n<=fs.length)(hl:fs.length<=1000000)(x:X):
 ((.known 0:bW)= .known 0/\1<=n/\some (ae.cells 0 (Tr.fill [] 0 .nil) [])=some (.cells ([]:List AV).length (Tr.fill [] 0 .nil) [])/\some (aC aI fs)=some (.cells (fs.map aI).flatten.length (Tr.fill (fs.map aI).flatten 0 .nil) [])/\([]:List AV).length<=top/\(fs.map aI).flatten.length<=top/\0*13<=([]:List AV).length/\n*13<=(fs.map aI).flatten.length/\([]:List AV).take (0*13)++(fs.map aI).flatten.take (n*13)=((fs.take n).map aI).flatten/\((fs.take n).map aI).flatten.all AV.bR=true/\2*(0+n)*136+4096*136<=room/\((fs.take n).map aI).flatten.length<=top/\X):=by
 have ht:top=549755813888:=rfl;have e1:∀l:List Fr,(l.map aI).flatten.length=l.length*13:=fun l=>by
  have:=uE (K:=13) (l:=l.map aI) fun c hc=>by obtain⟨a,_,rfl⟩:=List.mem_map.1 hc;exact fA a
  rw[this,List.length_map]
 have e3:∀(l:List Fr) (k:Nat),(l.map aI).flatten.take (k*13)=((l.take k).map aI).flatten:=by
  intro l;induction l with
  |nil=>intro k;simp
  |cons x l ih=>
   intro k;cases k with
   |zero=>simp
   |succ k=>rw[List.map_cons,List.flatten_cons,List.take_succ_cons,List.map_cons,List.flatten_cons, ←ih k,List.take_append,fA,List.take_of_length_le (by rw[fA];omega),show(k+1)*13 - 13=k*13 by omega]
 refine⟨rfl,h1,rfl,rfl,Nat.zero_le _,by rw[e1];omega,by show 0*13<=0;omega,by rw[e1];omega,?_,?_,?_,?_,x⟩
 ·rw[e3];rfl
 ·rw[List.all_eq_true];intro c hc;obtain⟨y,hy,hc⟩:=List.mem_flatten.1 hc;obtain⟨g,_,rfl⟩:=List.mem_map.1 hy;exact List.all_eq_true.1 (MC g) c hc
 ·unfold room;omega
 ·rw[e1,List.length_take];omega
end nS
end
section
open Go Go.Rn Go.RowKit Go.Proofs
namespace oX
open ch fT eX iq fO iB eO cG dj cQ di fW fD gH gQ gW gj gk hU iC iD iT jd jW kj kS jX nh nS lV
variable {fs:List Fr} {B:aJ} {u:AV} {r:Nat->Nat} {c:Nat} {a:MN}
noncomputable section
theorem Hd{n:Nat}{f:Fr}{cs:List AV}{X:Prop}(hc:aI f=cs)(h1:1<=n)(hn:n<=fs.length)(hl:fs.length<=1000000)(x:X):
 ((.known n:bW)= .known n/\1<=n/\1<=1/\some (aC aI fs)=some (.cells (fs.map aI).flatten.length (Tr.fill (fs.map aI).flatten 0 .nil) [])/\some (ae.cells cs.length (Tr.fill cs 0 .nil) [])=some (.cells cs.length (Tr.fill cs 0 .nil) [])/\(fs.map aI).flatten.length<=top/\cs.length<=top/\n*13<=(fs.map aI).flatten.length/\1*13<=cs.length/\(fs.map aI).flatten.take (n*13)++cs.take (1*13)=((fs.take n++[f]).map aI).flatten/\((fs.take n++[f]).map aI).flatten.all AV.bR=true/\2*(n+1)*136+4096*136<=room/\((fs.take n++[f]).map aI).flatten.length<=top/\X):=
 have h:=aoE hc hn hl x
 ⟨h.1,h1,h.2⟩
theorem UX{k:Nat}{v:AV}:fj [] r (.tok k v)<|.tok k v:=fun _ _ _ _ _ _=>trivial
theorem IH(hr:∀k,top<=k->r k=k)(hl:fs.length<=1000000):fj [] r (aC aI fs)<|aC aI fs:=fun ρ fE N o m h=>by have ht:top=549755813888:=rfl;refine F6 (ρ:=ρ) (fun k x hk e=>?_) (by rw[VC];omega) (UR fs) h;show fE (r k)=some x;rw[hr k hk];exact m.1 _ _ e
abbrev LM:bO:=[P1,l7,iL,jE,kO,lY,yL,PY,Pn,Ov,Oo,Oq]
abbrev aQ(p:List AV)(n:Nat)(cap:bW)(st:Int)(u:AV)(fs:List Fr):VS:=⟨⟨p,n,cap,[.int .i64 st]⟩,u,(fs.map aI).flatten⟩
abbrev lX(B:aJ)(rs:List ResultVar)(st:VS)(fr:AF)(s:AS):Prop:=au pg B 271 (gX 270 3 pg rs (.int .i64 0) st) fr s
abbrev lh(f j nt:Nat)(K:List Item):AF:=⟨f,aE [(j,.int .i64 0)],nt,K,[],none⟩
def oE(A:MN)(n:Nat)(cap:bW)(u:AV)(fs:List Fr)(r:Nat):List<|Nat×Option ae:=[(270,some<|.cells 13 (Tr.fill (A.row (.ptr<|some (271,0)) (.slice (some (r,0)) n cap)<|.int .i64 A.steps) 0 .nil) []),(271,some<|.tok 3 u),(r,some<|aC aI fs)]
abbrev nZ(A:MN)(n:Nat)(cap:bW)(u:AV)(fs:List Fr):AS:=ah (ar++oE A n cap u fs 272) 273
abbrev z8(j:Nat)(A:MN)(n:Nat)(cap:bW)(u:AV)(fs:List Fr)(r bw:Nat):Pl:=.rn [(j,.int .i64 0)] (ar++oE A n cap u fs r) [(j,.int .i64 0)] (ar++oE A n cap u fs 272) bw 273 .no
theorem Ee(f j nt:Nat)(K:List Item)(A:MN)(n:Nat)(cap:bW)(u:AV)(fs:List Fr)(r bw:Nat)(hlen:fs.length<=1000000)(nL:(AV.U A.G A.q A.lg).cM=true)(hb:zY [(271,271),(272,r)] 271 bw 273 [270,271,272]=true:=by as_aux_lemma=>kernel_rfl)(hi:Kl [(271,271),(272,r)]=true:=by as_aux_lemma=>kernel_rfl)(hj:j<1000:=by omega):
 ([(j,AV.int .i64 0)].map (fun q=>some q.2)=[(j,AV.int .i64 0)].map (fun q=>some q.2))/\((ar++oE A n cap u fs r).map (fun q=>q.2)=(ar++oE A n cap u fs r).map (fun q=>q.2))/\hJ FU 271 bw [(j,.int .i64 0)] (ar++oE A n cap u fs r) [(j,.int .i64 0)] (ar++oE A n cap u fs 272) 273/\(lh f j nt K=lh f j nt K/\nZ A n cap u fs=nZ A n cap u fs):=by
 have ht:top=549755813888:=rfl;refine⟨rfl,rfl,JU (ps:=[(271,271),(272,r)]) (lo:=271) (bw:=bw) ab hb hi (fun q hr ht=>⟨⟨by show j<top;omega,.int .i64 0,List.mem_cons_self,(bg.int _ _).z⟩,trivial⟩) fun q hr ht=>?_,rfl,rfl⟩;have e0:q 270=270:=by rw[hr];rfl
 have e1:q 271=271:=by rw[hr];rfl
 have e2:q 272=r:=by rw[hr];rfl
 refine⟨fun y hy=>?_,fun y hy=>?_,fun y hy=>?_,trivial⟩
 ·cases hy;refine⟨rfl,.cells 13 (Tr.fill (A.row (.ptr<|some (271,0)) (.slice (some (r,0)) n cap)<|.int .i64 A.steps) 0 .nil) [],?_,wW,?_⟩
  ·show(q 270,_)∈_;rw[e0];exact List.mem_cons_self
  ·exact Tf (l:=[.int .i64 A.vars,.U A.G A.q A.lg,.int .i64 A.x0,.int .i64 A.x1,.int .i64 A.x2,.int .i64 A.x3,.int .i64 A.x4,.int .i64 A.x5,.int .i64 A.x6,.int .i64 A.x7,.ptr<|some (271,0),.slice (some (r,0)) n cap,.int .i64 A.steps]) (m:=[.int .i64 A.vars,.U A.G A.q A.lg,.int .i64 A.x0,.int .i64 A.x1,.int .i64 A.x2,.int .i64 A.x3,.int .i64 A.x4,.int .i64 A.x5,.int .i64 A.x6,.int .i64 A.x7,.ptr<|some (271,0),.slice (some (272,0)) n cap,.int .i64 A.steps]) (rest:=[]) (by show 13<=top;omega) ⟨(bg.int _ _).z,(Ol ht (show(AV.U A.G A.q A.lg).hi=true from nL)).z,(bg.int _ _).z,(bg.int _ _).z,(bg.int _ _).z,(bg.int _ _).z,(bg.int _ _).z,(bg.int _ _).z,(bg.int _ _).z,(bg.int _ _).z,(bg.ptr e1).z,(bg.slice e2).z,(bg.int _ _).z,trivial⟩ rfl
 ·cases hy;refine⟨rfl,.tok 3 u,?_,fK.refl _,UX⟩;show(q 271,_)∈_;rw[e1];exact List.mem_cons_of_mem _ List.mem_cons_self
 ·cases hy;refine⟨rfl,aC aI fs,?_,fK.refl _,IH ht hlen⟩;show(q 272,_)∈_;rw[e2];exact List.mem_cons_of_mem _<|List.mem_cons_of_mem _ List.mem_cons_self
theorem Aa(mc:Mt LM B){f nt:Nat}{t:Tr AV}{K:List Item}{s:AS}{rs:List ResultVar}{st:VS}{FR:AF}{S1:AS}(H:lX B rs st FR S1)(p:Pl){T:Prop}(x:T)(h:T=wp (o9 LM) 900 6 (.fr f nt K t s) p rs (fun v s _=>v= .int .i64 0/\∀m o,(m,o)∈dC 270 3 st->s.h.get m=some o) (fun fr s1 _=>fr=FR/\s1=S1):=by as_aux_lemma=>kernel_rfl)(h0:Nat.ble 271 s.nx=true:=by as_aux_lemma=>kernel_rfl):lX B rs st ⟨f,t,nt,K,[],none⟩ s:=B6 mc (C:=fun fr s1 _=>fr=FR/\s1=S1) (fun fr s1 p hC=>by obtain⟨rfl,rfl⟩:=hC;exact H) p x h h0
theorem Bi{n:Nat}(mc:Mt LM B):lX B (az Tryd.f14) (aQ a.pre n (.aq c 13) a.steps u fs) (lh 14 2 38<|cO 14 [1,1,1,1,1,1,1,1,1])<|nZ a n (.aq c 13) u fs:=by exact Ei mc (.rt 1 .no)<|mL (st:=(aQ a.pre n (.aq c 13) a.steps u fs)) (s:=nZ a n (.aq c 13) u fs) (show(i0:AV)= .int .i64 0 from rfl) bY bY bY
theorem ahj{n:Nat}(mc:Mt LM B):lX B (az Tryd.f40) (aQ a.pre n (.aq c 13) a.steps u fs) (lh 40 4 38<|cO 40 [1,1,1,1,1,1,1,1])<|nZ a n (.aq c 13) u fs:=by exact Ei mc (.rt 1 .no)<|mL (st:=(aQ a.pre n (.aq c 13) a.steps u fs)) (s:=nZ a n (.aq c 13) u fs) (show(i0:AV)= .int .i64 0 from rfl) bY bY bY
end
end oX
end
section
open Go Go.Rn Go.RowKit Go.Proofs
namespace W1
open ch fT eX iq fO iB eO cG dj cQ di fW fD gH gQ gW gj gk hU iC iD iT jd jW kj kS jX nh nS lV oX
noncomputable abbrev A9(ka to op nn:Int)(N L:Nat)(aF n2:Int)(N2 L2:Nat)(bd el:List St):AV:=.agg [(.int .u8 ka),(i6 to),(u8<|op),(i6 nn),(.U N 0 L),(u8<|aF),(i6 n2),(.U N2 0 L2),(.U (nm (bd.map aM).flatten) 0 bd.length),(.U (nm (el.map aM).flatten) 0 el.length)]
noncomputable abbrev Oz(fs:List Fr)(n:Nat):Fr:=({(av (fs.take n)<|(((0+n):Nat):Int) - 1) with ak:=((av (fs.take n)<|(((0+n):Nat):Int) - 1).ak+1),turns:=(av (fs.take n)<|(((0+n):Nat):Int) - 1).turns}:Fr)
noncomputable abbrev Jr(a:MN)(n:Nat)(u:AV)(fs:List Fr):VS:=aQ a.pre (0+n) (.aq (0+n) 13) (a.steps+1) u<|(fs.take n).set ((((0+n):Nat):Int) - 1).toNat<|Oz fs n
theorem step1{ka:Int}{kb:VS->List AV->AV×VS->Prop}{kc:Nat}(hk:(ka=1/\kb=zx/\kc=31)\/(ka=2/\kb=zj/\kc=32)\/(ka=3/\kb=yU/\kc=33)){B:aJ}{a:MN}{n c:Nat}{u:AV}{fs:List Fr}{A1:MN}{m1 c1:Nat}{u1:AV}{br:List Fr}{A2:MN}{m2 c2:Nat}{u2:AV}{bj:List Fr}{N L N2 L2:Nat}{to op nn aF n2 z wi t:Int}{bd el ol fb:List St}{fa ft y0 y1 y2 y3 y4 y5 y6 y7:Int}{fo:Bool}{ub:AV}(mc:Mt LM B)(h1:1<=n)(hn:n<=fs.length)(hc:n<=c)(hf:fs.length<=1000000)(hR:fs.length*13<=top)(ax:0<=(av (fs.take n)<|((0+n:Nat):Int) - 1).ak/\(av (fs.take n)<|((0+n:Nat):Int) - 1).ak<=1000000)(cz:0<=a.steps/\a.steps<=1000000000000)(hlen:bj.length<=1000000)(nL:(AV.U A2.G A2.q A2.lg).cM=true)(k0:bD 10 (aQ a.pre n (.aq c 13) a.steps u fs)=true)(k1:vR kU (aQ a.pre n (.aq c 13) a.steps u fs) []=some (.agg [(u8<|.ofNat 1),i0,i0]))(k2:((.tuple [(A9 ka to op nn N L aF n2 N2 L2 bd el),(.bool true)]):AV).hi=true)(k3:vR iQ (aQ a.pre n (.aq c 13) a.steps u fs) []=some (.tuple [(A9 ka to op nn N L aF n2 N2 L2 bd el),(.bool true)]))(k4:([(A9 ka to op nn N L aF n2 N2 L2 bd el)]:List AV).all AV.hi=true)(k5:bD 10 (Jr a n u fs)=true)(k6:dH kb (Jr a n u fs) [(A9 ka to op nn N L aF n2 N2 L2 bd el)]=some (.tuple [],(aQ A1.pre m1 (.aq c1 13) A1.steps u1 br)))(k7:bD 10 (aQ A1.pre m1 (.aq c1 13) A1.steps u1 br)=true)(k8:dH eG (aQ A1.pre m1 (.aq c1 13) A1.steps u1 br) []=some (.tuple [],(aQ A2.pre m2 (.aq c2 13) A2.steps u2 bj)))(k9:bD 10 (aQ A2.pre m2 (.aq c2 13) A2.steps u2 bj)=true)(H:lX B (az Tryd.f14) (aQ A2.pre m2 (.aq c2 13) A2.steps u2 bj) (lh 14 2 38<|cO 14 [1,1,1,1,1,1,1,1,1])<|nZ A2 m2 (.aq c2 13) u2 bj):lX B (az Tryd.f14) (aQ A2.pre m2 (.aq c2 13) A2.steps u2 bj) (sF 14 Tryd.f14 [(.ptr<|some (270,0))])<|ah (ar++aX (dC 270 3<|aQ a.pre n (.aq c 13) a.steps u fs)) 273:=by
 have ht:top=549755813888:=rfl;have ui:sp LM kc=some (mY 10 3 (dH kb) 270 dT dG):=by rcases hk with⟨_,rfl,rfl⟩|⟨_,rfl,rfl⟩|⟨_,rfl,rfl⟩<;>kernel_rfl
 have TT:=(yw LM 13 272 (vR kU) [] (aQ a.pre n (.aq c 13) a.steps u fs) (.agg [(u8<|.ofNat 1),i0,i0]) k0 k1<|jK LM 26 272 (vR iQ) [] (aQ a.pre n (.aq c 13) a.steps u fs) (.tuple [(A9 ka to op nn N L aF n2 N2 L2 bd el),(.bool true)]) k0 k3 bY k2<|ai (wI<|a.steps+1)<|z7 (fs:=fs) (n:=n) ab DK DK<|ai (wI<|(((0+n):Nat):Int) - 1)<|dS ((((0+n):Nat):Int) - 1) (((0+n):Nat):Int)<|ai (mB fA DK (jc (l:=(fs.take n)) (z:=((((0+n):Nat):Int) - 1)) ab DK) 1 1 rfl)<|ai (wI<|(av (fs.take n)<|(((0+n):Nat):Int) - 1).ak+1)<|dS ((((0+n):Nat):Int) - 1) (((0+n):Nat):Int)<|ai (pv fA DK (jc (l:=(fs.take n)) (z:=((((0+n):Nat):Int) - 1)) ab DK) (c':=(Oz fs n)) (r:=[(i6<|((av (fs.take n)<|(((0+n):Nat):Int) - 1).ak+1))]) 1 rfl rfl rfl)<|Ya (h1:=ui) LM kc 276 (dH kb) [(A9 ka to op nn N L aF n2 N2 L2 bd el)] (Jr a n u fs) (aQ A1.pre m1 (.aq c1 13) A1.steps u1 br) k5 k6 k7 k4<|vZ LM 39 276 (dH eG) [] (aQ A1.pre m1 (.aq c1 13) A1.steps u1 br) (aQ A2.pre m2 (.aq c2 13) A2.steps u2 bj) k7 k8 k9<|Ee 14 2 38 (cO 14 [1,1,1,1,1,1,1,1,1]) A2 m2 (.aq c2 13) u2 bj 276 277 hlen nL);let P:Pl:=(.st 8<|.rg<|.go 1<|.cg (.agg [(u8<|.ofNat 1),i0,i0]) (vG 272) (vQ 272<|aQ a.pre n (.aq c 13) a.steps u fs)<|.go 3<|.en<|.st 6<|.rg<|.go 1<|.cg (.tuple [(A9 ka to op nn N L aF n2 N2 L2 bd el),(.bool true)]) (vG 272) (vQ 272<|aQ a.pre n (.aq c 13) a.steps u fs)<|.go 6<|.en<|.st 1<|.rg<|.go 4<|.vl (i6<|a.steps+1)<|.go 3<|.en<|.st 1<|.rg<|.go 1<|.il<|.st 1<|.rg<|.go 4<|.il<|.st 8<|.rg<|.go 2<|.ao [] (((fs).map aI).flatten) ((((fs.take n)).map aI).flatten)<|.go 1<|.en<|.rt 1<|.go 1<|.en<|.st 1<|.rg<|.go 3<|.vl (i6<|(((0+n):Nat):Int) - 1)<|.ix<|.go 1<|.ld [(i6<|(av (fs.take n)<|(((0+n):Nat):Int) - 1).ak)]<|.vl (i6<|(av (fs.take n)<|(((0+n):Nat):Int) - 1).ak+1)<|.ix<|.go 1<|.mr (aC aI<|(fs.take n).set ((((0+n):Nat):Int) - 1).toNat<|Oz fs n)<|.en<|.rt 2<|.en<|.st 1<|.rg<|.go 6<|.cg (.tuple []) (vF 276<|aQ A1.pre m1 (.aq c1 13) A1.steps u1 br) (vQ 276<|Jr a n u fs)<|.en<|.st 1<|.rg<|.go 1<|.cg (.tuple []) (vF 276<|aQ A2.pre m2 (.aq c2 13) A2.steps u2 bj) (vQ 276<|aQ A1.pre m1 (.aq c1 13) A1.steps u1 br)<|.en<|.st 2<|(z8 2 A2 m2 (.aq c2 13) u2 bj 276 277));rcases hk with⟨rfl,rfl,rfl⟩|⟨rfl,rfl,rfl⟩|⟨rfl,rfl,rfl⟩
 all_goals exact Aa mc H P TT aW
end W1
end
section
open Go Go.Rn Go.RowKit Go.Proofs
namespace Wg
open ch fT eX iq fO iB eO cG dj cQ di fW fD gH gQ gW gj gk hU iC iD iT jd jW kj kS jX nh nS lV oX
noncomputable abbrev AL(fs:List Fr)(n:Nat):Fr:=({(av (fs.take n)<|(((0+n):Nat):Int) - 1) with ak:=((av (fs.take n)<|(((0+n):Nat):Int) - 1).ak+1),turns:=(av (fs.take n)<|(((0+n):Nat):Int) - 1).turns}:Fr)
noncomputable abbrev IL(a:MN)(n:Nat)(u:AV)(fs:List Fr)(bd:List St):VS:=aQ a.pre ((((0+n):Nat):Int).toNat+1) (.aq ((((0+n):Nat):Int).toNat+1) 13) (a.steps+1) u<|((fs.take n).set ((((0+n):Nat):Int) - 1).toNat<|AL fs n).take (((0+n):Nat):Int).toNat++[(⟨bd,0,0,false,[0,0,0,0,0,0,0,0],none⟩:Fr)]
noncomputable abbrev IM(to op nn:Int)(N L:Nat)(aF n2:Int)(N2 L2:Nat)(bd el:List St):AV:=.tuple [(.agg [(u8<|.ofNat 4),(i6 to),(u8<|op),(i6 nn),(.U N 0 L),(u8<|aF),(i6 n2),(.U N2 0 L2),(.U (nm (bd.map aM).flatten) 0 bd.length),(.U (nm (el.map aM).flatten) 0 el.length)]),(.bool true)]
noncomputable abbrev IN(a:MN)(n:Nat)(u:AV)(fs:List Fr):VS:=aQ a.pre (0+n) (.aq (0+n) 13) (a.steps+1) u<|(fs.take n).set ((((0+n):Nat):Int) - 1).toNat<|AL fs n
noncomputable abbrev NY(bd:List St):List AV:=[(.U (nm (bd.map aM).flatten) 0 bd.length),i0,i0,(.bool false),i0,i0,i0,i0,i0,i0,i0,i0,(.slice none 0<|.known 0)]
theorem afE{B:aJ}{a:MN}{n c:Nat}{u:AV}{fs:List Fr}{A1:MN}{m1 c1:Nat}{u1:AV}{br:List Fr}{A2:MN}{m2 c2:Nat}{u2:AV}{bj:List Fr}{N L N2 L2:Nat}{to op nn aF n2 z wi t:Int}{bd el ol fb:List St}{fa ft y0 y1 y2 y3 y4 y5 y6 y7:Int}{fo:Bool}{ub:AV}(mc:Mt LM B)(h1:1<=n)(hn:n<=fs.length)(hc:n<=c)(hf:fs.length<=1000000)(hR:fs.length*13<=top)(ax:0<=(av (fs.take n)<|((0+n:Nat):Int) - 1).ak/\(av (fs.take n)<|((0+n:Nat):Int) - 1).ak<=1000000)(cz:0<=a.steps/\a.steps<=1000000000000)(hlen:bj.length<=1000000)(nL:(AV.U A2.G A2.q A2.lg).cM=true)(hz:z≠0)(k0:bD 10 (aQ a.pre n (.aq c 13) a.steps u fs)=true)(k1:vR kU (aQ a.pre n (.aq c 13) a.steps u fs) []=some (.agg [(u8<|.ofNat 1),i0,i0]))(k2:((IM to op nn N L aF n2 N2 L2 bd el):AV).hi=true)(k3:vR iQ (aQ a.pre n (.aq c 13) a.steps u fs) []=some (IM to op nn N L aF n2 N2 L2 bd el))(k4:([.agg [.int .u8 op,.int .i64 nn,.U N 0 L]]:List AV).all AV.hi=true)(k5:bD 10 (IN a n u fs)=true)(k6:vR ji (IN a n u fs) [(.agg [(u8<|op),(i6 nn),(.U N 0 L)])]=some (i6 z))(k7:bD 10 (IL a n u fs bd)=true)(k8:dH eG (IL a n u fs bd) []=some (.tuple [],(aQ A1.pre m1 (.aq c1 13) A1.steps u1 br)))(k9:bD 10 (aQ A1.pre m1 (.aq c1 13) A1.steps u1 br)=true)(rS:dH eG (aQ A1.pre m1 (.aq c1 13) A1.steps u1 br) []=some (.tuple [],(aQ A2.pre m2 (.aq c2 13) A2.steps u2 bj)))(yh:bD 10 (aQ A2.pre m2 (.aq c2 13) A2.steps u2 bj)=true)(H:lX B (az Tryd.f14) (aQ A2.pre m2 (.aq c2 13) A2.steps u2 bj) (lh 14 2 38<|cO 14 [1,1,1,1,1,1,1,1,1])<|nZ A2 m2 (.aq c2 13) u2 bj):lX B (az Tryd.f14) (aQ A2.pre m2 (.aq c2 13) A2.steps u2 bj) (sF 14 Tryd.f14 [(.ptr<|some (270,0))])<|ah (ar++aX (dC 270 3<|aQ a.pre n (.aq c 13) a.steps u fs)) 273:=by have ht:top=549755813888:=rfl;exact Aa mc H (.st 8<|.rg<|.go 1<|.cg (.agg [(u8<|.ofNat 1),i0,i0]) (vG 272) (vQ 272<|aQ a.pre n (.aq c 13) a.steps u fs)<|.go 3<|.en<|.st 6<|.rg<|.go 1<|.cg (IM to op nn N L aF n2 N2 L2 bd el) (vG 272) (vQ 272<|aQ a.pre n (.aq c 13) a.steps u fs)<|.go 6<|.en<|.st 1<|.rg<|.go 4<|.vl (i6<|a.steps+1)<|.go 3<|.en<|.st 1<|.rg<|.go 1<|.il<|.st 1<|.rg<|.go 4<|.il<|.st 8<|.rg<|.go 2<|.ao [] (((fs).map aI).flatten) ((((fs.take n)).map aI).flatten)<|.go 1<|.en<|.rt 1<|.go 1<|.en<|.st 1<|.rg<|.go 3<|.vl (i6<|(((0+n):Nat):Int) - 1)<|.ix<|.go 1<|.ld [(i6<|(av (fs.take n)<|(((0+n):Nat):Int) - 1).ak)]<|.vl (i6<|(av (fs.take n)<|(((0+n):Nat):Int) - 1).ak+1)<|.ix<|.go 1<|.mr (aC aI<|(fs.take n).set ((((0+n):Nat):Int) - 1).toNat<|AL fs n)<|.en<|.rt 2<|.en<|.st 1<|.rg<|.go 6<|.il<|.st 4<|.rg<|.go 3<|.cg (i6 z) (vG 276) (vQ 276<|IN a n u fs)<|.fk (.en<|.st 2<|.rg<|.go 4<|.il<|.st 3<|.rg<|.go 15<|.s3<|.go 2<|.an (((((fs.take n).set ((((0+n):Nat):Int) - 1).toNat<|AL fs n)).map aI).flatten) (NY bd) ((((((fs.take n).set ((((0+n):Nat):Int) - 1).toNat<|AL fs n).take (((0+n):Nat):Int).toNat++[(⟨bd,0,0,false,[0,0,0,0,0,0,0,0],none⟩:Fr)])).map aI).flatten)<|.go 3<|.en<|.rg<|.go 1<|.cg (.tuple []) (vF 280<|aQ A1.pre m1 (.aq c1 13) A1.steps u1 br) (vQ 280<|IL a n u fs bd)<|.en<|.rt 1<|.en<|.rt 1<|.en<|.st 1<|.rg<|.go 1<|.cg (.tuple []) (vF 280<|aQ A2.pre m2 (.aq c2 13) A2.steps u2 bj) (vQ 280<|aQ A1.pre m1 (.aq c1 13) A1.steps u1 br)<|.en<|.st 2<|(z8 2 A2 m2 (.aq c2 13) u2 bj 280 281))<|.no)<|yw LM 13 272 (vR kU) [] (aQ a.pre n (.aq c 13) a.steps u fs) (.agg [(u8<|.ofNat 1),i0,i0]) k0 k1<|jK LM 26 272 (vR iQ) [] (aQ a.pre n (.aq c 13) a.steps u fs) (IM to op nn N L aF n2 N2 L2 bd el) k0 k3 bU k2<|ai Bv<|z7 (fs:=fs) (n:=n) ab dQ dQ<|ai Bu<|dS ((((0+n):Nat):Int) - 1) (((0+n):Nat):Int)<|ai (mB fA dQ (jc (l:=(fs.take n)) (z:=((((0+n):Nat):Int) - 1)) ab dQ) 1 1 rfl)<|ai Bt<|dS ((((0+n):Nat):Int) - 1) (((0+n):Nat):Int)<|ai (pv fA dQ (jc (l:=(fs.take n)) (z:=((((0+n):Nat):Int) - 1)) ab dQ) (c':=(AL fs n)) (r:=[(i6<|((av (fs.take n)<|(((0+n):Nat):Int) - 1).ak+1))]) 1 rfl rfl rfl)<|jK LM 27 276 (vR ji) [(.agg [(u8<|op),(i6 nn),(.U N 0 L)])] (IN a n u fs) (i6 z) k5 k6 k4 bU<|aT (z≠0) (fun _=>(ai (show 0<=(((0+n):Nat):Int) from ab)<|ai (show(((0+n):Nat):Int)<=(((0+n):Nat):Int) from ab)<|ai (show(((0+n):Nat):Int)<=Int.ofNat (iZ (0+n)<|.aq (0+n) 13) from(show(((0+n):Nat):Int)<=(((0+n):Nat):Int) from by omega))<|Hd (fs:=((fs.take n).set ((((0+n):Nat):Int) - 1).toNat<|AL fs n)) (n:=(((0+n):Nat):Int).toNat) (f:=(⟨bd,0,0,false,[0,0,0,0,0,0,0,0],none⟩:Fr)) (cs:=(NY bd)) (show aI (⟨bd,0,0,false,[0,0,0,0,0,0,0,0],none⟩:Fr)=(NY bd) from rfl) ab dQ dQ<|vZ LM 39 280 (dH eG) [] (IL a n u fs bd) (aQ A1.pre m1 (.aq c1 13) A1.steps u1 br) k7 k8 k9 PL)) fZ
end Wg
end
section
open Go Go.Rn Go.RowKit Go.Proofs
namespace Wh
open ch fT eX iq fO iB eO cG dj cQ di fW fD gH gQ gW gj gk hU iC iD iT jd jW kj kS jX nh nS lV oX
noncomputable abbrev AM(fs:List Fr)(n:Nat):Fr:=({(av (fs.take n)<|(((0+n):Nat):Int) - 1) with ak:=((av (fs.take n)<|(((0+n):Nat):Int) - 1).ak+1),turns:=(av (fs.take n)<|(((0+n):Nat):Int) - 1).turns}:Fr)
noncomputable abbrev IP(a:MN)(n:Nat)(u:AV)(fs:List Fr)(el:List St):VS:=aQ a.pre ((((0+n):Nat):Int).toNat+1) (.aq ((((0+n):Nat):Int).toNat+1) 13) (a.steps+1) u<|((fs.take n).set ((((0+n):Nat):Int) - 1).toNat<|AM fs n).take (((0+n):Nat):Int).toNat++[(⟨el,0,0,false,[0,0,0,0,0,0,0,0],none⟩:Fr)]
noncomputable abbrev IQ(to op nn:Int)(N L:Nat)(aF n2:Int)(N2 L2:Nat)(bd el:List St):AV:=.tuple [(.agg [(u8<|.ofNat 4),(i6 to),(u8<|op),(i6 nn),(.U N 0 L),(u8<|aF),(i6 n2),(.U N2 0 L2),(.U (nm (bd.map aM).flatten) 0 bd.length),(.U (nm (el.map aM).flatten) 0 el.length)]),(.bool true)]
noncomputable abbrev IS(a:MN)(n:Nat)(u:AV)(fs:List Fr):VS:=aQ a.pre (0+n) (.aq (0+n) 13) (a.steps+1) u<|(fs.take n).set ((((0+n):Nat):Int) - 1).toNat<|AM fs n
noncomputable abbrev NZ(el:List St):List AV:=[(.U (nm (el.map aM).flatten) 0 el.length),i0,i0,(.bool false),i0,i0,i0,i0,i0,i0,i0,i0,(.slice none 0<|.known 0)]
theorem afF{B:aJ}{a:MN}{n c:Nat}{u:AV}{fs:List Fr}{A1:MN}{m1 c1:Nat}{u1:AV}{br:List Fr}{A2:MN}{m2 c2:Nat}{u2:AV}{bj:List Fr}{N L N2 L2:Nat}{to op nn aF n2 z wi t:Int}{bd el ol fb:List St}{fa ft y0 y1 y2 y3 y4 y5 y6 y7:Int}{fo:Bool}{ub:AV}(mc:Mt LM B)(h1:1<=n)(hn:n<=fs.length)(hc:n<=c)(hf:fs.length<=1000000)(hR:fs.length*13<=top)(ax:0<=(av (fs.take n)<|((0+n:Nat):Int) - 1).ak/\(av (fs.take n)<|((0+n:Nat):Int) - 1).ak<=1000000)(cz:0<=a.steps/\a.steps<=1000000000000)(hlen:bj.length<=1000000)(nL:(AV.U A2.G A2.q A2.lg).cM=true)(hz:z=0)(k0:bD 10 (aQ a.pre n (.aq c 13) a.steps u fs)=true)(k1:vR kU (aQ a.pre n (.aq c 13) a.steps u fs) []=some (.agg [(u8<|.ofNat 1),i0,i0]))(k2:((IQ to op nn N L aF n2 N2 L2 bd el):AV).hi=true)(k3:vR iQ (aQ a.pre n (.aq c 13) a.steps u fs) []=some (IQ to op nn N L aF n2 N2 L2 bd el))(k4:([.agg [.int .u8 op,.int .i64 nn,.U N 0 L]]:List AV).all AV.hi=true)(k5:bD 10 (IS a n u fs)=true)(k6:vR ji (IS a n u fs) [(.agg [(u8<|op),(i6 nn),(.U N 0 L)])]=some (i6 z))(k7:bD 10 (IP a n u fs el)=true)(k8:dH eG (IP a n u fs el) []=some (.tuple [],(aQ A1.pre m1 (.aq c1 13) A1.steps u1 br)))(k9:bD 10 (aQ A1.pre m1 (.aq c1 13) A1.steps u1 br)=true)(rS:dH eG (aQ A1.pre m1 (.aq c1 13) A1.steps u1 br) []=some (.tuple [],(aQ A2.pre m2 (.aq c2 13) A2.steps u2 bj)))(yh:bD 10 (aQ A2.pre m2 (.aq c2 13) A2.steps u2 bj)=true)(H:lX B (az Tryd.f14) (aQ A2.pre m2 (.aq c2 13) A2.steps u2 bj) (lh 14 2 38<|cO 14 [1,1,1,1,1,1,1,1,1])<|nZ A2 m2 (.aq c2 13) u2 bj):lX B (az Tryd.f14) (aQ A2.pre m2 (.aq c2 13) A2.steps u2 bj) (sF 14 Tryd.f14 [(.ptr<|some (270,0))])<|ah (ar++aX (dC 270 3<|aQ a.pre n (.aq c 13) a.steps u fs)) 273:=by have ht:top=549755813888:=rfl;exact Aa mc H (.st 8<|.rg<|.go 1<|.cg (.agg [(u8<|.ofNat 1),i0,i0]) (vG 272) (vQ 272<|aQ a.pre n (.aq c 13) a.steps u fs)<|.go 3<|.en<|.st 6<|.rg<|.go 1<|.cg (IQ to op nn N L aF n2 N2 L2 bd el) (vG 272) (vQ 272<|aQ a.pre n (.aq c 13) a.steps u fs)<|.go 6<|.en<|.st 1<|.rg<|.go 4<|.vl (i6<|a.steps+1)<|.go 3<|.en<|.st 1<|.rg<|.go 1<|.il<|.st 1<|.rg<|.go 4<|.il<|.st 8<|.rg<|.go 2<|.ao [] (((fs).map aI).flatten) ((((fs.take n)).map aI).flatten)<|.go 1<|.en<|.rt 1<|.go 1<|.en<|.st 1<|.rg<|.go 3<|.vl (i6<|(((0+n):Nat):Int) - 1)<|.ix<|.go 1<|.ld [(i6<|(av (fs.take n)<|(((0+n):Nat):Int) - 1).ak)]<|.vl (i6<|(av (fs.take n)<|(((0+n):Nat):Int) - 1).ak+1)<|.ix<|.go 1<|.mr (aC aI<|(fs.take n).set ((((0+n):Nat):Int) - 1).toNat<|AM fs n)<|.en<|.rt 2<|.en<|.st 1<|.rg<|.go 6<|.il<|.st 4<|.rg<|.go 3<|.cg (i6 z) (vG 276) (vQ 276<|IS a n u fs)<|.fk (.no)<|.en<|.st 2<|.rg<|.go 4<|.il<|.st 3<|.rg<|.go 15<|.s3<|.go 2<|.an (((((fs.take n).set ((((0+n):Nat):Int) - 1).toNat<|AM fs n)).map aI).flatten) (NZ el) ((((((fs.take n).set ((((0+n):Nat):Int) - 1).toNat<|AM fs n).take (((0+n):Nat):Int).toNat++[(⟨el,0,0,false,[0,0,0,0,0,0,0,0],none⟩:Fr)])).map aI).flatten)<|.go 3<|.en<|.rg<|.go 1<|.cg (.tuple []) (vF 280<|aQ A1.pre m1 (.aq c1 13) A1.steps u1 br) (vQ 280<|IP a n u fs el)<|.en<|.rt 1<|.en<|.rt 1<|.en<|.st 1<|.rg<|.go 1<|.cg (.tuple []) (vF 280<|aQ A2.pre m2 (.aq c2 13) A2.steps u2 bj) (vQ 280<|aQ A1.pre m1 (.aq c1 13) A1.steps u1 br)<|.en<|.st 2<|(z8 2 A2 m2 (.aq c2 13) u2 bj 280 281))<|yw LM 13 272 (vR kU) [] (aQ a.pre n (.aq c 13) a.steps u fs) (.agg [(u8<|.ofNat 1),i0,i0]) k0 k1<|jK LM 26 272 (vR iQ) [] (aQ a.pre n (.aq c 13) a.steps u fs) (IQ to op nn N L aF n2 N2 L2 bd el) k0 k3 bU k2<|ai Bv<|z7 (fs:=fs) (n:=n) ab dQ dQ<|ai Bu<|dS ((((0+n):Nat):Int) - 1) (((0+n):Nat):Int)<|ai (mB fA dQ (jc (l:=(fs.take n)) (z:=((((0+n):Nat):Int) - 1)) ab dQ) 1 1 rfl)<|ai Bt<|dS ((((0+n):Nat):Int) - 1) (((0+n):Nat):Int)<|ai (pv fA dQ (jc (l:=(fs.take n)) (z:=((((0+n):Nat):Int) - 1)) ab dQ) (c':=(AM fs n)) (r:=[(i6<|((av (fs.take n)<|(((0+n):Nat):Int) - 1).ak+1))]) 1 rfl rfl rfl)<|jK LM 27 276 (vR ji) [(.agg [(u8<|op),(i6 nn),(.U N 0 L)])] (IS a n u fs) (i6 z) k5 k6 k4 bU<|aT (z≠0) fZ fun _=>(ai (show 0<=(((0+n):Nat):Int) from ab)<|ai (show(((0+n):Nat):Int)<=(((0+n):Nat):Int) from ab)<|ai (show(((0+n):Nat):Int)<=Int.ofNat (iZ (0+n)<|.aq (0+n) 13) from(show(((0+n):Nat):Int)<=(((0+n):Nat):Int) from by omega))<|Hd (fs:=((fs.take n).set ((((0+n):Nat):Int) - 1).toNat<|AM fs n)) (n:=(((0+n):Nat):Int).toNat) (f:=(⟨el,0,0,false,[0,0,0,0,0,0,0,0],none⟩:Fr)) (cs:=(NZ el)) (show aI (⟨el,0,0,false,[0,0,0,0,0,0,0,0],none⟩:Fr)=(NZ el) from rfl) ab dQ dQ<|vZ LM 39 280 (dH eG) [] (IP a n u fs el) (aQ A1.pre m1 (.aq c1 13) A1.steps u1 br) k7 k8 k9 PL)
end Wh
end
section
open Go Go.Rn Go.RowKit Go.Proofs
namespace Wi
open ch fT eX iq fO iB eO cG dj cQ di fW fD gH gQ gW gj gk hU iC iD iT jd jW kj kS jX nh nS lV oX
noncomputable abbrev AN(fs:List Fr)(n:Nat):Fr:=({(av (fs.take n)<|(((0+n):Nat):Int) - 1) with ak:=((av (fs.take n)<|(((0+n):Nat):Int) - 1).ak+1),turns:=(av (fs.take n)<|(((0+n):Nat):Int) - 1).turns}:Fr)
noncomputable abbrev IT(a:MN)(n:Nat)(u:AV)(fs:List Fr)(bd:List St)(z:Int):VS:=aQ a.pre ((((0+n):Nat):Int).toNat+1) (.aq ((((0+n):Nat):Int).toNat+1) 13) (a.steps+1) u<|((fs.take n).set ((((0+n):Nat):Int) - 1).toNat<|AN fs n).take (((0+n):Nat):Int).toNat++[(⟨bd,0,((dW (cK z<|0)<|8) - 1),false,[0,0,0,0,0,0,0,0],none⟩:Fr)]
noncomputable abbrev IU(to op nn:Int)(N L:Nat)(aF n2:Int)(N2 L2:Nat)(bd el:List St):AV:=.tuple [(.agg [(u8<|.ofNat 5),(i6 to),(u8<|op),(i6 nn),(.U N 0 L),(u8<|aF),(i6 n2),(.U N2 0 L2),(.U (nm (bd.map aM).flatten) 0 bd.length),(.U (nm (el.map aM).flatten) 0 el.length)]),(.bool true)]
noncomputable abbrev N5(bd:List St)(z:Int):List AV:=[(.U (nm (bd.map aM).flatten) 0 bd.length),i0,(i6<|((dW (cK z (0:Int)) (8:Int)) - 1)),(.bool false),i0,i0,i0,i0,i0,i0,i0,i0,(.slice none 0<|.known 0)]
noncomputable abbrev IV(a:MN)(n:Nat)(u:AV)(fs:List Fr):VS:=aQ a.pre (0+n) (.aq (0+n) 13) (a.steps+1) u<|(fs.take n).set ((((0+n):Nat):Int) - 1).toNat<|AN fs n
theorem afG{B:aJ}{a:MN}{n c:Nat}{u:AV}{fs:List Fr}{A1:MN}{m1 c1:Nat}{u1:AV}{br:List Fr}{A2:MN}{m2 c2:Nat}{u2:AV}{bj:List Fr}{N L N2 L2:Nat}{to op nn aF n2 z wi t:Int}{bd el ol fb:List St}{fa ft y0 y1 y2 y3 y4 y5 y6 y7:Int}{fo:Bool}{ub:AV}(mc:Mt LM B)(h1:1<=n)(hn:n<=fs.length)(hc:n<=c)(hf:fs.length<=1000000)(hR:fs.length*13<=top)(ax:0<=(av (fs.take n)<|((0+n:Nat):Int) - 1).ak/\(av (fs.take n)<|((0+n:Nat):Int) - 1).ak<=1000000)(cz:0<=a.steps/\a.steps<=1000000000000)(hlen:bj.length<=1000000)(nL:(AV.U A2.G A2.q A2.lg).cM=true)(hz:0<(dW (cK z<|0)<|8)/\(dW (cK z<|0)<|8)<=8)(k0:bD 10 (aQ a.pre n (.aq c 13) a.steps u fs)=true)(k1:vR kU (aQ a.pre n (.aq c 13) a.steps u fs) []=some (.agg [(u8<|.ofNat 1),i0,i0]))(k2:((IU to op nn N L aF n2 N2 L2 bd el):AV).hi=true)(k3:vR iQ (aQ a.pre n (.aq c 13) a.steps u fs) []=some (IU to op nn N L aF n2 N2 L2 bd el))(k4:([.agg [.int .u8 op,.int .i64 nn,.U N 0 L]]:List AV).all AV.hi=true)(k5:bD 10 (IV a n u fs)=true)(k6:vR ji (IV a n u fs) [(.agg [(u8<|op),(i6 nn),(.U N 0 L)])]=some (i6 z))(k7:bD 10 (IT a n u fs bd z)=true)(k8:dH eG (IT a n u fs bd z) []=some (.tuple [],(aQ A1.pre m1 (.aq c1 13) A1.steps u1 br)))(k9:bD 10 (aQ A1.pre m1 (.aq c1 13) A1.steps u1 br)=true)(rS:dH eG (aQ A1.pre m1 (.aq c1 13) A1.steps u1 br) []=some (.tuple [],(aQ A2.pre m2 (.aq c2 13) A2.steps u2 bj)))(yh:bD 10 (aQ A2.pre m2 (.aq c2 13) A2.steps u2 bj)=true)(H:lX B (az Tryd.f14) (aQ A2.pre m2 (.aq c2 13) A2.steps u2 bj) (lh 14 2 38<|cO 14 [1,1,1,1,1,1,1,1,1])<|nZ A2 m2 (.aq c2 13) u2 bj):lX B (az Tryd.f14) (aQ A2.pre m2 (.aq c2 13) A2.steps u2 bj) (sF 14 Tryd.f14 [(.ptr<|some (270,0))])<|ah (ar++aX (dC 270 3<|aQ a.pre n (.aq c 13) a.steps u fs)) 273:=by have ht:top=549755813888:=rfl;exact Aa mc H (.st 8<|.rg<|.go 1<|.cg (.agg [(u8<|.ofNat 1),i0,i0]) (vG 272) (vQ 272<|aQ a.pre n (.aq c 13) a.steps u fs)<|.go 3<|.en<|.st 6<|.rg<|.go 1<|.cg (IU to op nn N L aF n2 N2 L2 bd el) (vG 272) (vQ 272<|aQ a.pre n (.aq c 13) a.steps u fs)<|.go 6<|.en<|.st 1<|.rg<|.go 4<|.vl (i6<|a.steps+1)<|.go 3<|.en<|.st 1<|.rg<|.go 1<|.il<|.st 1<|.rg<|.go 4<|.il<|.st 8<|.rg<|.go 2<|.ao [] (((fs).map aI).flatten) ((((fs.take n)).map aI).flatten)<|.go 1<|.en<|.rt 1<|.go 1<|.en<|.st 1<|.rg<|.go 3<|.vl (i6<|(((0+n):Nat):Int) - 1)<|.ix<|.go 1<|.ld [(i6<|(av (fs.take n)<|(((0+n):Nat):Int) - 1).ak)]<|.vl (i6<|(av (fs.take n)<|(((0+n):Nat):Int) - 1).ak+1)<|.ix<|.go 1<|.mr (aC aI<|(fs.take n).set ((((0+n):Nat):Int) - 1).toNat<|AN fs n)<|.en<|.rt 2<|.en<|.st 1<|.rg<|.go 6<|.il<|.st 3<|.rg<|.go 3<|.cg (i6 z) (vG 276) (vQ 276<|IV a n u fs)<|.vl (i6<|(cK z (0:Int)))<|.vl (i6<|(dW (cK z (0:Int)) (8:Int)))<|.go 1<|.en<|.st 1<|.rg<|.go 1<|.fk (.en<|.st 1<|.rg<|.go 4<|.vl (i6<|(dW (cK z (0:Int)) (8:Int)) - 1)<|.go 1<|.il<|.st 3<|.rg<|.go 15<|.s3<|.go 2<|.an (((((fs.take n).set ((((0+n):Nat):Int) - 1).toNat<|AN fs n)).map aI).flatten) (N5 bd z) ((((((fs.take n).set ((((0+n):Nat):Int) - 1).toNat<|AN fs n).take (((0+n):Nat):Int).toNat++[(⟨bd,0,((dW (cK z<|0)<|8) - 1),false,[0,0,0,0,0,0,0,0],none⟩:Fr)])).map aI).flatten)<|.go 3<|.en<|.rg<|.go 1<|.cg (.tuple []) (vF 280<|aQ A1.pre m1 (.aq c1 13) A1.steps u1 br) (vQ 280<|IT a n u fs bd z)<|.en<|.rt 1<|.en<|.rt 1<|.en<|.st 1<|.rg<|.go 1<|.cg (.tuple []) (vF 280<|aQ A2.pre m2 (.aq c2 13) A2.steps u2 bj) (vQ 280<|aQ A1.pre m1 (.aq c1 13) A1.steps u1 br)<|.en<|.st 2<|(z8 2 A2 m2 (.aq c2 13) u2 bj 280 281))<|.no)<|yw LM 13 272 (vR kU) [] (aQ a.pre n (.aq c 13) a.steps u fs) (.agg [(u8<|.ofNat 1),i0,i0]) k0 k1<|jK LM 26 272 (vR iQ) [] (aQ a.pre n (.aq c 13) a.steps u fs) (IU to op nn N L aF n2 N2 L2 bd el) k0 k3 bU k2<|ai Bv<|z7 (fs:=fs) (n:=n) ab dQ dQ<|ai Bu<|dS ((((0+n):Nat):Int) - 1) (((0+n):Nat):Int)<|ai (mB fA dQ (jc (l:=(fs.take n)) (z:=((((0+n):Nat):Int) - 1)) ab dQ) 1 1 rfl)<|ai Bt<|dS ((((0+n):Nat):Int) - 1) (((0+n):Nat):Int)<|ai (pv fA dQ (jc (l:=(fs.take n)) (z:=((((0+n):Nat):Int) - 1)) ab dQ) (c':=(AN fs n)) (r:=[(i6<|((av (fs.take n)<|(((0+n):Nat):Int) - 1).ak+1))]) 1 rfl rfl rfl)<|jK LM 27 276 (vR ji) [(.agg [(u8<|op),(i6 nn),(.U N 0 L)])] (IV a n u fs) (i6 z) k5 k6 k4 bU<|ai (congrArg (AV.int .i64) (show(match decide ((0:Int)>z) with|true=>(0:Int)|false=>z)=cK z (0:Int) from rfl))<|ai (congrArg (AV.int .i64) (show(match decide ((8:Int)<(cK z (0:Int))) with|true=>(8:Int)|false=>(cK z (0:Int)))=dW (cK z (0:Int)) (8:Int) from rfl))<|aT ((dW (cK z (0:Int)) (8:Int))>0) (fun _=>(ai (wI<|(dW (cK z (0:Int)) (8:Int)) - 1)<|ai (show 0<=(((0+n):Nat):Int) from ab)<|ai (show(((0+n):Nat):Int)<=(((0+n):Nat):Int) from ab)<|ai (show(((0+n):Nat):Int)<=Int.ofNat (iZ (0+n)<|.aq (0+n) 13) from(show(((0+n):Nat):Int)<=(((0+n):Nat):Int) from by omega))<|Hd (fs:=((fs.take n).set ((((0+n):Nat):Int) - 1).toNat<|AN fs n)) (n:=(((0+n):Nat):Int).toNat) (f:=(⟨bd,0,((dW (cK z<|0)<|8) - 1),false,[0,0,0,0,0,0,0,0],none⟩:Fr)) (cs:=(N5 bd z)) (show aI (⟨bd,0,((dW (cK z<|0)<|8) - 1),false,[0,0,0,0,0,0,0,0],none⟩:Fr)=(N5 bd z) from rfl) ab dQ dQ<|vZ LM 39 280 (dH eG) [] (IT a n u fs bd z) (aQ A1.pre m1 (.aq c1 13) A1.steps u1 br) k7 k8 k9 PL)) fZ
end Wi
end
section
open Go Go.Rn Go.RowKit Go.Proofs
namespace Wj
open ch fT eX iq fO iB eO cG dj cQ di fW fD gH gQ gW gj gk hU iC iD iT jd jW kj kS jX nh nS lV oX
noncomputable abbrev AO(a:MN)(n:Nat)(u:AV)(fs:List Fr):VS:=aQ a.pre (0+n) (.aq (0+n) 13) (a.steps+1) u<|(fs.take n).set ((((0+n):Nat):Int) - 1).toNat ({(av (fs.take n)<|(((0+n):Nat):Int) - 1) with ak:=((av (fs.take n)<|(((0+n):Nat):Int) - 1).ak+1),turns:=(av (fs.take n)<|(((0+n):Nat):Int) - 1).turns}:Fr)
noncomputable abbrev IW(to op nn:Int)(N L:Nat)(aF n2:Int)(N2 L2:Nat)(bd el:List St):AV:=.tuple [(.agg [(u8<|.ofNat 5),(i6 to),(u8<|op),(i6 nn),(.U N 0 L),(u8<|aF),(i6 n2),(.U N2 0 L2),(.U (nm (bd.map aM).flatten) 0 bd.length),(.U (nm (el.map aM).flatten) 0 el.length)]),(.bool true)]
theorem afH{B:aJ}{a:MN}{n c:Nat}{u:AV}{fs:List Fr}{A1:MN}{m1 c1:Nat}{u1:AV}{br:List Fr}{A2:MN}{m2 c2:Nat}{u2:AV}{bj:List Fr}{N L N2 L2:Nat}{to op nn aF n2 z wi t:Int}{bd el ol fb:List St}{fa ft y0 y1 y2 y3 y4 y5 y6 y7:Int}{fo:Bool}{ub:AV}(mc:Mt LM B)(h1:1<=n)(hn:n<=fs.length)(hc:n<=c)(hf:fs.length<=1000000)(hR:fs.length*13<=top)(ax:0<=(av (fs.take n)<|((0+n:Nat):Int) - 1).ak/\(av (fs.take n)<|((0+n:Nat):Int) - 1).ak<=1000000)(cz:0<=a.steps/\a.steps<=1000000000000)(hlen:br.length<=1000000)(nL:(AV.U A1.G A1.q A1.lg).cM=true)(hz:(dW (cK z<|0)<|8)<=0)(k0:bD 10 (aQ a.pre n (.aq c 13) a.steps u fs)=true)(k1:vR kU (aQ a.pre n (.aq c 13) a.steps u fs) []=some (.agg [(u8<|.ofNat 1),i0,i0]))(k2:((IW to op nn N L aF n2 N2 L2 bd el):AV).hi=true)(k3:vR iQ (aQ a.pre n (.aq c 13) a.steps u fs) []=some (IW to op nn N L aF n2 N2 L2 bd el))(k4:([.agg [.int .u8 op,.int .i64 nn,.U N 0 L]]:List AV).all AV.hi=true)(k5:bD 10 (AO a n u fs)=true)(k6:vR ji (AO a n u fs) [(.agg [(u8<|op),(i6 nn),(.U N 0 L)])]=some (i6 z))(k7:dH eG (AO a n u fs) []=some (.tuple [],(aQ A1.pre m1 (.aq c1 13) A1.steps u1 br)))(k8:bD 10 (aQ A1.pre m1 (.aq c1 13) A1.steps u1 br)=true)(H:lX B (az Tryd.f14) (aQ A1.pre m1 (.aq c1 13) A1.steps u1 br) (lh 14 2 38<|cO 14 [1,1,1,1,1,1,1,1,1])<|nZ A1 m1 (.aq c1 13) u1 br):lX B (az Tryd.f14) (aQ A1.pre m1 (.aq c1 13) A1.steps u1 br) (sF 14 Tryd.f14 [(.ptr<|some (270,0))])<|ah (ar++aX (dC 270 3<|aQ a.pre n (.aq c 13) a.steps u fs)) 273:=by have ht:top=549755813888:=rfl;exact Aa mc H (.st 8<|.rg<|.go 1<|.cg (.agg [(u8<|.ofNat 1),i0,i0]) (vG 272) (vQ 272<|aQ a.pre n (.aq c 13) a.steps u fs)<|.go 3<|.en<|.st 6<|.rg<|.go 1<|.cg (IW to op nn N L aF n2 N2 L2 bd el) (vG 272) (vQ 272<|aQ a.pre n (.aq c 13) a.steps u fs)<|.go 6<|.en<|.st 1<|.rg<|.go 4<|.vl (i6<|a.steps+1)<|.go 3<|.en<|.st 1<|.rg<|.go 1<|.il<|.st 1<|.rg<|.go 4<|.il<|.st 8<|.rg<|.go 2<|.ao [] (((fs).map aI).flatten) ((((fs.take n)).map aI).flatten)<|.go 1<|.en<|.rt 1<|.go 1<|.en<|.st 1<|.rg<|.go 3<|.vl (i6<|(((0+n):Nat):Int) - 1)<|.ix<|.go 1<|.ld [(i6<|(av (fs.take n)<|(((0+n):Nat):Int) - 1).ak)]<|.vl (i6<|(av (fs.take n)<|(((0+n):Nat):Int) - 1).ak+1)<|.ix<|.go 1<|.mr (aC aI<|(fs.take n).set ((((0+n):Nat):Int) - 1).toNat ({(av (fs.take n)<|(((0+n):Nat):Int) - 1) with ak:=((av (fs.take n)<|(((0+n):Nat):Int) - 1).ak+1),turns:=(av (fs.take n)<|(((0+n):Nat):Int) - 1).turns}:Fr))<|.en<|.rt 2<|.en<|.st 1<|.rg<|.go 6<|.il<|.st 3<|.rg<|.go 3<|.cg (i6 z) (vG 276) (vQ 276<|AO a n u fs)<|.vl (i6<|(cK z (0:Int)))<|.vl (i6<|(dW (cK z (0:Int)) (8:Int)))<|.go 1<|.en<|.st 1<|.rg<|.go 1<|.fk (.no)<|.en<|.rt 3<|.en<|.st 1<|.rg<|.go 1<|.cg (.tuple []) (vF 276<|aQ A1.pre m1 (.aq c1 13) A1.steps u1 br) (vQ 276<|AO a n u fs)<|.en<|.st 2<|(z8 2 A1 m1 (.aq c1 13) u1 br 276 278))<|yw LM 13 272 (vR kU) [] (aQ a.pre n (.aq c 13) a.steps u fs) (.agg [(u8<|.ofNat 1),i0,i0]) k0 k1<|jK LM 26 272 (vR iQ) [] (aQ a.pre n (.aq c 13) a.steps u fs) (IW to op nn N L aF n2 N2 L2 bd el) k0 k3 bU k2<|ai Bv<|z7 (fs:=fs) (n:=n) ab dQ dQ<|ai Bu<|dS ((((0+n):Nat):Int) - 1) (((0+n):Nat):Int)<|ai (mB fA dQ (jc (l:=(fs.take n)) (z:=((((0+n):Nat):Int) - 1)) ab dQ) 1 1 rfl)<|ai Bt<|dS ((((0+n):Nat):Int) - 1) (((0+n):Nat):Int)<|ai (pv fA dQ (jc (l:=(fs.take n)) (z:=((((0+n):Nat):Int) - 1)) ab dQ) (c':=({(av (fs.take n)<|(((0+n):Nat):Int) - 1) with ak:=((av (fs.take n)<|(((0+n):Nat):Int) - 1).ak+1),turns:=(av (fs.take n)<|(((0+n):Nat):Int) - 1).turns}:Fr)) (r:=[(i6<|((av (fs.take n)<|(((0+n):Nat):Int) - 1).ak+1))]) 1 rfl rfl rfl)<|jK LM 27 276 (vR ji) [(.agg [(u8<|op),(i6 nn),(.U N 0 L)])] (AO a n u fs) (i6 z) k5 k6 k4 bU<|ai (congrArg (AV.int .i64) (show(match decide ((0:Int)>z) with|true=>(0:Int)|false=>z)=cK z (0:Int) from rfl))<|ai (congrArg (AV.int .i64) (show(match decide ((8:Int)<(cK z (0:Int))) with|true=>(8:Int)|false=>(cK z (0:Int)))=dW (cK z (0:Int)) (8:Int) from rfl))<|aT ((dW (cK z (0:Int)) (8:Int))>0) fZ fun _=>(vZ LM 39 276 (dH eG) [] (AO a n u fs) (aQ A1.pre m1 (.aq c1 13) A1.steps u1 br) k5 k7 k8<|Ee 14 2 38 (cO 14 [1,1,1,1,1,1,1,1,1]) A1 m1 (.aq c1 13) u1 br 276 278 hlen nL)
end Wj
end
section
open Go Go.Rn Go.RowKit Go.Proofs
namespace W2
open ch fT eX iq fO iB eO cG dj cQ di fW fD gH gQ gW gj gk hU iC iD iT jd jW kj kS jX nh nS lV oX
noncomputable abbrev C7(fs:List Fr)(n:Nat):Fr:=({(av (fs.take n)<|(((0+n):Nat):Int) - 1) with ak:=((av (fs.take n)<|(((0+n):Nat):Int) - 1).ak+1),turns:=(av (fs.take n)<|(((0+n):Nat):Int) - 1).turns}:Fr)
noncomputable abbrev Js(a:MN)(n:Nat)(ub:AV)(fs:List Fr)(bd el:List St):VS:=aQ a.pre ((((0+n):Nat):Int).toNat+1) (.aq ((((0+n):Nat):Int).toNat+1) 13) (a.steps+1) ub<|((fs.take n).set ((((0+n):Nat):Int) - 1).toNat<|C7 fs n).take (((0+n):Nat):Int).toNat++[(⟨bd,0,0,true,[a.x0,a.x1,a.x2,a.x3,a.x4,a.x5,a.x6,a.x7],(some el)⟩:Fr)]
noncomputable abbrev Jt(to op nn:Int)(N L:Nat)(aF n2:Int)(N2 L2:Nat)(bd el:List St):AV:=.tuple [(.agg [(u8<|.ofNat 7),(i6 to),(u8<|op),(i6 nn),(.U N 0 L),(u8<|aF),(i6 n2),(.U N2 0 L2),(.U (nm (bd.map aM).flatten) 0 bd.length),(.U (nm (el.map aM).flatten) 0 el.length)]),(.bool true)]
noncomputable abbrev OA(bd:List St)(a:MN)(el:List St):List AV:=[(.U (nm (bd.map aM).flatten) 0 bd.length),i0,i0,(.bool true),(i6 a.x0),(i6 a.x1),(i6 a.x2),(i6 a.x3),(i6 a.x4),(i6 a.x5),(i6 a.x6),(i6 a.x7),(.U (nm (el.map aM).flatten) 0 el.length)]
theorem ahk{B:aJ}{a:MN}{n c:Nat}{u:AV}{fs:List Fr}{A1:MN}{m1 c1:Nat}{u1:AV}{br:List Fr}{A2:MN}{m2 c2:Nat}{u2:AV}{bj:List Fr}{N L N2 L2:Nat}{to op nn aF n2 z wi t:Int}{bd el ol fb:List St}{fa ft y0 y1 y2 y3 y4 y5 y6 y7:Int}{fo:Bool}{ub:AV}(mc:Mt LM B)(h1:1<=n)(hn:n<=fs.length)(hc:n<=c)(hf:fs.length<=1000000)(hR:fs.length*13<=top)(ax:0<=(av (fs.take n)<|((0+n:Nat):Int) - 1).ak/\(av (fs.take n)<|((0+n:Nat):Int) - 1).ak<=1000000)(cz:0<=a.steps/\a.steps<=1000000000000)(hlen:bj.length<=1000000)(nL:(AV.U A2.G A2.q A2.lg).cM=true)(k0:bD 10 (aQ a.pre n (.aq c 13) a.steps u fs)=true)(k1:vR kU (aQ a.pre n (.aq c 13) a.steps u fs) []=some (.agg [(u8<|.ofNat 1),i0,i0]))(k2:((Jt to op nn N L aF n2 N2 L2 bd el):AV).hi=true)(k3:vR iQ (aQ a.pre n (.aq c 13) a.steps u fs) []=some (Jt to op nn N L aF n2 N2 L2 bd el))(k4:iK (gV bI Jm) u []=some ((.int .i64 0:AV),ub))(k5:bD 10 (Js a n ub fs bd el)=true)(k6:dH eG (Js a n ub fs bd el) []=some (.tuple [],(aQ A1.pre m1 (.aq c1 13) A1.steps u1 br)))(k7:bD 10 (aQ A1.pre m1 (.aq c1 13) A1.steps u1 br)=true)(k8:dH eG (aQ A1.pre m1 (.aq c1 13) A1.steps u1 br) []=some (.tuple [],(aQ A2.pre m2 (.aq c2 13) A2.steps u2 bj)))(k9:bD 10 (aQ A2.pre m2 (.aq c2 13) A2.steps u2 bj)=true)(H:lX B (az Tryd.f14) (aQ A2.pre m2 (.aq c2 13) A2.steps u2 bj) (lh 14 2 38<|cO 14 [1,1,1,1,1,1,1,1,1])<|nZ A2 m2 (.aq c2 13) u2 bj):lX B (az Tryd.f14) (aQ A2.pre m2 (.aq c2 13) A2.steps u2 bj) (sF 14 Tryd.f14 [(.ptr<|some (270,0))])<|ah (ar++aX (dC 270 3<|aQ a.pre n (.aq c 13) a.steps u fs)) 273:=by have ht:top=549755813888:=rfl;exact Aa mc H (.st 8<|.rg<|.go 1<|.cg (.agg [(u8<|.ofNat 1),i0,i0]) (vG 272) (vQ 272<|aQ a.pre n (.aq c 13) a.steps u fs)<|.go 3<|.en<|.st 6<|.rg<|.go 1<|.cg (Jt to op nn N L aF n2 N2 L2 bd el) (vG 272) (vQ 272<|aQ a.pre n (.aq c 13) a.steps u fs)<|.go 6<|.en<|.st 1<|.rg<|.go 4<|.vl (i6<|a.steps+1)<|.go 3<|.en<|.st 1<|.rg<|.go 1<|.il<|.st 1<|.rg<|.go 4<|.il<|.st 8<|.rg<|.go 2<|.ao [] (((fs).map aI).flatten) ((((fs.take n)).map aI).flatten)<|.go 1<|.en<|.rt 1<|.go 1<|.en<|.st 1<|.rg<|.go 3<|.vl (i6<|(((0+n):Nat):Int) - 1)<|.ix<|.go 1<|.ld [(i6<|(av (fs.take n)<|(((0+n):Nat):Int) - 1).ak)]<|.vl (i6<|(av (fs.take n)<|(((0+n):Nat):Int) - 1).ak+1)<|.ix<|.go 1<|.mr (aC aI<|(fs.take n).set ((((0+n):Nat):Int) - 1).toNat<|C7 fs n)<|.en<|.rt 2<|.en<|.st 1<|.rg<|.go 6<|.il<|.st 3<|.rg<|.go 4<|.kt i0 ub<|.en<|.rg<|.go 10<|.il<|.st 3<|.rg<|.go 15<|.s3<|.go 2<|.an (((((fs.take n).set ((((0+n):Nat):Int) - 1).toNat<|C7 fs n)).map aI).flatten) (OA bd a el) ((((((fs.take n).set ((((0+n):Nat):Int) - 1).toNat<|C7 fs n).take (((0+n):Nat):Int).toNat++[(⟨bd,0,0,true,[a.x0,a.x1,a.x2,a.x3,a.x4,a.x5,a.x6,a.x7],(some el)⟩:Fr)])).map aI).flatten)<|.go 3<|.en<|.rg<|.go 1<|.cg (.tuple []) (vF 280<|aQ A1.pre m1 (.aq c1 13) A1.steps u1 br) (vQ 280<|Js a n ub fs bd el)<|.en<|.rt 1<|.en<|.rt 1<|.en<|.st 1<|.rg<|.go 1<|.cg (.tuple []) (vF 280<|aQ A2.pre m2 (.aq c2 13) A2.steps u2 bj) (vQ 280<|aQ A1.pre m1 (.aq c1 13) A1.steps u1 br)<|.en<|.st 2<|(z8 2 A2 m2 (.aq c2 13) u2 bj 280 281))<|yw LM 13 272 (vR kU) [] (aQ a.pre n (.aq c 13) a.steps u fs) (.agg [(u8<|.ofNat 1),i0,i0]) k0 k1<|jK LM 26 272 (vR iQ) [] (aQ a.pre n (.aq c 13) a.steps u fs) (Jt to op nn N L aF n2 N2 L2 bd el) k0 k3 bU k2<|ai Bv<|z7 (fs:=fs) (n:=n) ab dQ dQ<|ai Bu<|dS ((((0+n):Nat):Int) - 1) (((0+n):Nat):Int)<|ai (mB fA dQ (jc (l:=(fs.take n)) (z:=((((0+n):Nat):Int) - 1)) ab dQ) 1 1 rfl)<|ai Bt<|dS ((((0+n):Nat):Int) - 1) (((0+n):Nat):Int)<|ai (pv fA dQ (jc (l:=(fs.take n)) (z:=((((0+n):Nat):Int) - 1)) ab dQ) (c':=(C7 fs n)) (r:=[(i6<|((av (fs.take n)<|(((0+n):Nat):Int) - 1).ak+1))]) 1 rfl rfl rfl)<|ai k4<|ai (show 0<=(((0+n):Nat):Int) from ab)<|ai (show(((0+n):Nat):Int)<=(((0+n):Nat):Int) from ab)<|ai (show(((0+n):Nat):Int)<=Int.ofNat (iZ (0+n)<|.aq (0+n) 13) from(show(((0+n):Nat):Int)<=(((0+n):Nat):Int) from by omega))<|Hd (fs:=((fs.take n).set ((((0+n):Nat):Int) - 1).toNat<|C7 fs n)) (n:=(((0+n):Nat):Int).toNat) (f:=(⟨bd,0,0,true,[a.x0,a.x1,a.x2,a.x3,a.x4,a.x5,a.x6,a.x7],(some el)⟩:Fr)) (cs:=(OA bd a el)) (show aI (⟨bd,0,0,true,[a.x0,a.x1,a.x2,a.x3,a.x4,a.x5,a.x6,a.x7],(some el)⟩:Fr)=(OA bd a el) from rfl) ab dQ dQ<|vZ LM 39 280 (dH eG) [] (Js a n ub fs bd el) (aQ A1.pre m1 (.aq c1 13) A1.steps u1 br) k5 k6 k7<|vZ LM 39 280 (dH eG) [] (aQ A1.pre m1 (.aq c1 13) A1.steps u1 br) (aQ A2.pre m2 (.aq c2 13) A2.steps u2 bj) k7 k8 k9<|Ee 14 2 38 (cO 14 [1,1,1,1,1,1,1,1,1]) A2 m2 (.aq c2 13) u2 bj 280 281 hlen nL
end W2
end
section
open Go Go.Rn Go.RowKit Go.Proofs
namespace W3
open ch fT eX iq fO iB eO cG dj cQ di fW fD gH gQ gW gj gk hU iC iD iT jd jW kj kS jX nh nS lV oX
noncomputable abbrev yW(fs:List Fr)(n:Nat):Fr:=({(av (fs.take n)<|(((0+n):Nat):Int) - 1) with ak:=((av (fs.take n)<|(((0+n):Nat):Int) - 1).ak+1),turns:=(av (fs.take n)<|(((0+n):Nat):Int) - 1).turns}:Fr)
noncomputable abbrev Ju(a:MN)(y0 y1 y2 y3 y4 y5 y6 y7 wi:Int)(ub:AV)(fs:List Fr)(n:Nat)(ol:List St):VS:=aQ [(i6 a.vars),(.U a.G a.q a.lg),(i6 y0),(i6 y1),(i6 y2),(i6 y3),(i6 y4),(i6 y5),(i6 y6),(i6 y7)] ((((wi).toNat:Nat):Int).toNat+1) (.aq ((((wi).toNat:Nat):Int).toNat+1) 13) (a.steps+1) ub<|((fs.take n).set ((((0+n):Nat):Int) - 1).toNat<|yW fs n).take (((wi).toNat:Nat):Int).toNat++[(⟨ol,0,0,false,[0,0,0,0,0,0,0,0],none⟩:Fr)]
noncomputable abbrev Jv(to op nn:Int)(N L:Nat)(aF n2:Int)(N2 L2:Nat)(bd el:List St):AV:=.tuple [(.agg [(u8<|.ofNat 6),(i6 to),(u8<|op),(i6 nn),(.U N 0 L),(u8<|aF),(i6 n2),(.U N2 0 L2),(.U (nm (bd.map aM).flatten) 0 bd.length),(.U (nm (el.map aM).flatten) 0 el.length)]),(.bool true)]
noncomputable abbrev Jw(a:MN)(n:Nat)(u:AV)(fs:List Fr):VS:=aQ a.pre (0+n) (.aq (0+n) 13) (a.steps+1) u<|(fs.take n).set ((((0+n):Nat):Int) - 1).toNat<|yW fs n
noncomputable abbrev OB(ol:List St):List AV:=[(.U (nm (ol.map aM).flatten) 0 ol.length),i0,i0,(.bool false),i0,i0,i0,i0,i0,i0,i0,i0,(.slice none 0<|.known 0)]
theorem ahl{B:aJ}{a:MN}{n c:Nat}{u:AV}{fs:List Fr}{A1:MN}{m1 c1:Nat}{u1:AV}{br:List Fr}{A2:MN}{m2 c2:Nat}{u2:AV}{bj:List Fr}{N L N2 L2:Nat}{to op nn aF n2 z wi t:Int}{bd el ol fb:List St}{fa ft y0 y1 y2 y3 y4 y5 y6 y7:Int}{fo:Bool}{ub:AV}(mc:Mt LM B)(h1:1<=n)(hn:n<=fs.length)(hc:n<=c)(hf:fs.length<=1000000)(hR:fs.length*13<=top)(ax:0<=(av (fs.take n)<|((0+n:Nat):Int) - 1).ak/\(av (fs.take n)<|((0+n:Nat):Int) - 1).ak<=1000000)(cz:0<=a.steps/\a.steps<=1000000000000)(hlen:bj.length<=1000000)(nL:(AV.U A2.G A2.q A2.lg).cM=true)(hz:1<=wi/\wi<(n:Int))(k0:bD 10 (aQ a.pre n (.aq c 13) a.steps u fs)=true)(k1:vR kU (aQ a.pre n (.aq c 13) a.steps u fs) []=some (.agg [(u8<|.ofNat 1),i0,i0]))(k2:((Jv to op nn N L aF n2 N2 L2 bd el):AV).hi=true)(k3:vR iQ (aQ a.pre n (.aq c 13) a.steps u fs) []=some (Jv to op nn N L aF n2 N2 L2 bd el))(k4:bD 10 (Jw a n u fs)=true)(k5:vR qX (Jw a n u fs) []=some (i6 wi))(k6:((fs.take n).set ((((0+n):Nat):Int) - 1).toNat<|yW fs n)[wi.toNat]? =some (⟨fb,fa,ft,fo,[y0,y1,y2,y3,y4,y5,y6,y7],some ol⟩:Fr))(k7:iK (gV bI Jn) u []=some ((.int .i64 0:AV),ub))(k8:bD 10 (Ju a y0 y1 y2 y3 y4 y5 y6 y7 wi ub fs n ol)=true)(k9:dH eG (Ju a y0 y1 y2 y3 y4 y5 y6 y7 wi ub fs n ol) []=some (.tuple [],(aQ A1.pre m1 (.aq c1 13) A1.steps u1 br)))(rS:bD 10 (aQ A1.pre m1 (.aq c1 13) A1.steps u1 br)=true)(yh:dH eG (aQ A1.pre m1 (.aq c1 13) A1.steps u1 br) []=some (.tuple [],(aQ A2.pre m2 (.aq c2 13) A2.steps u2 bj)))(k12:bD 10 (aQ A2.pre m2 (.aq c2 13) A2.steps u2 bj)=true)(H:lX B (az Tryd.f14) (aQ A2.pre m2 (.aq c2 13) A2.steps u2 bj) (lh 14 2 38<|cO 14 [1,1,1,1,1,1,1,1,1])<|nZ A2 m2 (.aq c2 13) u2 bj):lX B (az Tryd.f14) (aQ A2.pre m2 (.aq c2 13) A2.steps u2 bj) (sF 14 Tryd.f14 [(.ptr<|some (270,0))])<|ah (ar++aX (dC 270 3<|aQ a.pre n (.aq c 13) a.steps u fs)) 273:=by have ht:top=549755813888:=rfl;exact Aa mc H (.st 8<|.rg<|.go 1<|.cg (.agg [(u8<|.ofNat 1),i0,i0]) (vG 272) (vQ 272<|aQ a.pre n (.aq c 13) a.steps u fs)<|.go 3<|.en<|.st 6<|.rg<|.go 1<|.cg (Jv to op nn N L aF n2 N2 L2 bd el) (vG 272) (vQ 272<|aQ a.pre n (.aq c 13) a.steps u fs)<|.go 6<|.en<|.st 1<|.rg<|.go 4<|.vl (i6<|a.steps+1)<|.go 3<|.en<|.st 1<|.rg<|.go 1<|.il<|.st 1<|.rg<|.go 4<|.il<|.st 8<|.rg<|.go 2<|.ao [] (((fs).map aI).flatten) ((((fs.take n)).map aI).flatten)<|.go 1<|.en<|.rt 1<|.go 1<|.en<|.st 1<|.rg<|.go 3<|.vl (i6<|(((0+n):Nat):Int) - 1)<|.ix<|.go 1<|.ld [(i6<|(av (fs.take n)<|(((0+n):Nat):Int) - 1).ak)]<|.vl (i6<|(av (fs.take n)<|(((0+n):Nat):Int) - 1).ak+1)<|.ix<|.go 1<|.mr (aC aI<|(fs.take n).set ((((0+n):Nat):Int) - 1).toNat<|yW fs n)<|.en<|.rt 2<|.en<|.st 1<|.rg<|.go 6<|.il<|.st 3<|.rg<|.go 1<|.cg (i6 wi) (vG 276) (vQ 276<|Jw a n u fs)<|.go 1<|.en<|.st 1<|.rg<|.go 5<|.ix<|.ld [(.U (nm (fb.map aM).flatten) 0 fb.length),(i6 fa),(i6 ft),(.bool fo),(i6 y0),(i6 y1),(i6 y2),(i6 y3),(i6 y4),(i6 y5),(i6 y6),(i6 y7),(.U (nm (ol.map aM).flatten) 0 ol.length)]<|.go 2<|.en<|.st 1<|.rg<|.go 6<|.so<|.go 3<|.en<|.st 1<|.rg<|.go 4<|.kt i0 ub<|.en<|.st 2<|.rg<|.go 4<|.il<|.st 3<|.rg<|.go 15<|.s3<|.go 2<|.an (((((fs.take n).set ((((0+n):Nat):Int) - 1).toNat<|yW fs n)).map aI).flatten) (OB ol) ((((((fs.take n).set ((((0+n):Nat):Int) - 1).toNat<|yW fs n).take (((wi).toNat:Nat):Int).toNat++[(⟨ol,0,0,false,[0,0,0,0,0,0,0,0],none⟩:Fr)])).map aI).flatten)<|.go 3<|.en<|.rg<|.go 1<|.cg (.tuple []) (vF 281<|aQ A1.pre m1 (.aq c1 13) A1.steps u1 br) (vQ 281<|Ju a y0 y1 y2 y3 y4 y5 y6 y7 wi ub fs n ol)<|.en<|.rt 1<|.en<|.rt 1<|.en<|.st 1<|.rg<|.go 1<|.cg (.tuple []) (vF 281<|aQ A2.pre m2 (.aq c2 13) A2.steps u2 bj) (vQ 281<|aQ A1.pre m1 (.aq c1 13) A1.steps u1 br)<|.en<|.st 2<|(z8 2 A2 m2 (.aq c2 13) u2 bj 281 282))<|yw LM 13 272 (vR kU) [] (aQ a.pre n (.aq c 13) a.steps u fs) (.agg [(u8<|.ofNat 1),i0,i0]) k0 k1<|jK LM 26 272 (vR iQ) [] (aQ a.pre n (.aq c 13) a.steps u fs) (Jv to op nn N L aF n2 N2 L2 bd el) k0 k3 bU k2<|ai Bv<|z7 (fs:=fs) (n:=n) ab dQ dQ<|ai Bu<|dS ((((0+n):Nat):Int) - 1) (((0+n):Nat):Int)<|ai (mB fA dQ (jc (l:=(fs.take n)) (z:=((((0+n):Nat):Int) - 1)) ab dQ) 1 1 rfl)<|ai Bt<|dS ((((0+n):Nat):Int) - 1) (((0+n):Nat):Int)<|ai (pv fA dQ (jc (l:=(fs.take n)) (z:=((((0+n):Nat):Int) - 1)) ab dQ) (c':=(yW fs n)) (r:=[(i6<|((av (fs.take n)<|(((0+n):Nat):Int) - 1).ak+1))]) 1 rfl rfl rfl)<|yw LM 28 276 (vR qX) [] (Jw a n u fs) (i6 wi) k4 k5<|dS wi (((0+n):Nat):Int)<|ai (mB fA dQ k6 0 13 rfl)<|ai (show(0:Int)=0 from rfl)<|ai (show 0<=wi from ab)<|ai (show wi<=Int.ofNat (iZ (0+n)<|.aq (0+n) 13) from(show wi<=(((0+n):Nat):Int) from by omega))<|ai k7<|ai (show 0<=(((wi).toNat:Nat):Int) from ab)<|ai (show(((wi).toNat:Nat):Int)<=(((wi).toNat:Nat):Int) from ab)<|ai (show(((wi).toNat:Nat):Int)<=Int.ofNat (iZ ((wi).toNat)<|.aq (0+n) 13) from(show(((wi).toNat:Nat):Int)<=(((0+n):Nat):Int) from by omega))<|Hd (fs:=((fs.take n).set ((((0+n):Nat):Int) - 1).toNat<|yW fs n)) (n:=(((wi).toNat:Nat):Int).toNat) (f:=(⟨ol,0,0,false,[0,0,0,0,0,0,0,0],none⟩:Fr)) (cs:=(OB ol)) (show aI (⟨ol,0,0,false,[0,0,0,0,0,0,0,0],none⟩:Fr)=(OB ol) from rfl) ab dQ dQ<|vZ LM 39 281 (dH eG) [] (Ju a y0 y1 y2 y3 y4 y5 y6 y7 wi ub fs n ol) (aQ A1.pre m1 (.aq c1 13) A1.steps u1 br) k8 k9 rS<|vZ LM 39 281 (dH eG) [] (aQ A1.pre m1 (.aq c1 13) A1.steps u1 br) (aQ A2.pre m2 (.aq c2 13) A2.steps u2 bj) rS yh k12<|Ee 14 2 38 (cO 14 [1,1,1,1,1,1,1,1,1]) A2 m2 (.aq c2 13) u2 bj 281 282 hlen nL
end W3
end
section
open Go Go.Rn Go.RowKit Go.Proofs
namespace W4
open ch fT eX iq fO iB eO cG dj cQ di fW fD gH gQ gW gj gk hU iC iD iT jd jW kj kS jX nh nS lV oX
noncomputable abbrev xu(a:MN)(to xx:Int)(n:Nat)(u:AV)(fs:List Fr):VS:=aQ ((a.pre:List AV).set (2+to.toNat)<|i6 xx) (0+n) (.aq (0+n) 13) (a.steps+1) u<|(fs.take n).set ((((0+n):Nat):Int) - 1).toNat ({(av (fs.take n)<|(((0+n):Nat):Int) - 1) with ak:=((av (fs.take n)<|(((0+n):Nat):Int) - 1).ak+1),turns:=(av (fs.take n)<|(((0+n):Nat):Int) - 1).turns}:Fr)
noncomputable abbrev Jx(to op nn:Int)(N L:Nat)(aF n2:Int)(N2 L2:Nat)(bd el:List St):AV:=.tuple [(.agg [(u8<|.ofNat 2),(i6 to),(u8<|op),(i6 nn),(.U N 0 L),(u8<|aF),(i6 n2),(.U N2 0 L2),(.U (nm (bd.map aM).flatten) 0 bd.length),(.U (nm (el.map aM).flatten) 0 el.length)]),(.bool true)]
theorem ahm{B:aJ}{a:MN}{n c:Nat}{u:AV}{fs:List Fr}{A1:MN}{m1 c1:Nat}{u1:AV}{br:List Fr}{A2:MN}{m2 c2:Nat}{u2:AV}{bj:List Fr}{N L N2 L2:Nat}{to op nn aF n2 z wi t:Int}{bd el ol fb:List St}{fa ft y0 y1 y2 y3 y4 y5 y6 y7:Int}{fo:Bool}{ub:AV}{xx:Int}(mc:Mt LM B)(h1:1<=n)(hn:n<=fs.length)(hc:n<=c)(hf:fs.length<=1000000)(hR:fs.length*13<=top)(ax:0<=(av (fs.take n)<|((0+n:Nat):Int) - 1).ak/\(av (fs.take n)<|((0+n:Nat):Int) - 1).ak<=1000000)(cz:0<=a.steps/\a.steps<=1000000000000)(hlen:br.length<=1000000)(nL:(AV.U A1.G A1.q A1.lg).cM=true)(h0:0<=to)(h8:to<8)(k0:bD 10 (aQ a.pre n (.aq c 13) a.steps u fs)=true)(k1:vR kU (aQ a.pre n (.aq c 13) a.steps u fs) []=some (.agg [(u8<|.ofNat 2),(i6 wi),i0]))(k2:((Jx to op nn N L aF n2 N2 L2 bd el):AV).hi=true)(k3:vR iQ (aQ a.pre n (.aq c 13) a.steps u fs) []=some (Jx to op nn N L aF n2 N2 L2 bd el))(k4:bD 10 (xu a to xx n u fs)=true)(k5:dH eG (xu a to xx n u fs) []=some (.tuple [],(aQ A1.pre m1 (.aq c1 13) A1.steps u1 br)))(k6:bD 10 (aQ A1.pre m1 (.aq c1 13) A1.steps u1 br)=true)(H:lX B (az Tryd.f40) (aQ A1.pre m1 (.aq c1 13) A1.steps u1 br) (lh 40 4 38<|cO 40 [1,1,1,1,1,1,1,1])<|nZ A1 m1 (.aq c1 13) u1 br):lX B (az Tryd.f40) (aQ A1.pre m1 (.aq c1 13) A1.steps u1 br) (sF 40 Tryd.f40 [(.ptr<|some (270,0)),(i6 xx)])<|ah (ar++aX (dC 270 3<|aQ a.pre n (.aq c 13) a.steps u fs)) 273:=by have ht:top=549755813888:=rfl;exact Aa mc H (.st 8<|.rg<|.go 1<|.cg (.agg [(u8<|.ofNat 2),(i6 wi),i0]) (vG 272) (vQ 272<|aQ a.pre n (.aq c 13) a.steps u fs)<|.go 3<|.en<|.st 4<|.rg<|.go 1<|.cg (Jx to op nn N L aF n2 N2 L2 bd el) (vG 272) (vQ 272<|aQ a.pre n (.aq c 13) a.steps u fs)<|.go 6<|.en<|.st 1<|.rg<|.go 4<|.vl (i6<|a.steps+1)<|.go 3<|.en<|.st 1<|.rg<|.go 1<|.il<|.st 1<|.rg<|.go 4<|.il<|.st 8<|.rg<|.go 2<|.ao [] (((fs).map aI).flatten) ((((fs.take n)).map aI).flatten)<|.go 1<|.en<|.rt 1<|.go 1<|.en<|.st 1<|.rg<|.go 3<|.vl (i6<|(((0+n):Nat):Int) - 1)<|.ix<|.go 1<|.ld [(i6<|(av (fs.take n)<|(((0+n):Nat):Int) - 1).ak)]<|.vl (i6<|(av (fs.take n)<|(((0+n):Nat):Int) - 1).ak+1)<|.ix<|.go 1<|.mr (aC aI<|(fs.take n).set ((((0+n):Nat):Int) - 1).toNat ({(av (fs.take n)<|(((0+n):Nat):Int) - 1) with ak:=((av (fs.take n)<|(((0+n):Nat):Int) - 1).ak+1),turns:=(av (fs.take n)<|(((0+n):Nat):Int) - 1).turns}:Fr))<|.en<|.rt 2<|.en<|.st 1<|.rg<|.go 6<|.KR<|.mr (aC ng<|((a.row (.ptr<|some (271,0)) (.slice (some (275,0)) ((0+n))<|.aq (0+n) 13)<|i6<|(a.steps+1)):List AV).set (2+to.toNat)<|i6 xx)<|.en<|.st 1<|.rg<|.go 1<|.cg (.tuple []) (JV 270 dG dT 3 270 271 275<|aQ A1.pre m1 (.aq c1 13) A1.steps u1 br) (F9 270 dG dT 3 270 271 275<|xu a to xx n u fs)<|.en<|.st 2<|(z8 4 A1 m1 (.aq c1 13) u1 br 275 276))<|yw LM 13 272 (vR kU) [] (aQ a.pre n (.aq c 13) a.steps u fs) (.agg [(u8<|.ofNat 2),(i6 wi),i0]) k0 k1<|jK LM 26 272 (vR iQ) [] (aQ a.pre n (.aq c 13) a.steps u fs) (Jx to op nn N L aF n2 N2 L2 bd el) k0 k3 bU k2<|ai Bv<|z7 (fs:=fs) (n:=n) ab dQ dQ<|ai Bu<|dS ((((0+n):Nat):Int) - 1) (((0+n):Nat):Int)<|ai (mB fA dQ (jc (l:=(fs.take n)) (z:=((((0+n):Nat):Int) - 1)) ab dQ) 1 1 rfl)<|ai Bt<|dS ((((0+n):Nat):Int) - 1) (((0+n):Nat):Int)<|ai (pv fA dQ (jc (l:=(fs.take n)) (z:=((((0+n):Nat):Int) - 1)) ab dQ) (c':=({(av (fs.take n)<|(((0+n):Nat):Int) - 1) with ak:=((av (fs.take n)<|(((0+n):Nat):Int) - 1).ak+1),turns:=(av (fs.take n)<|(((0+n):Nat):Int) - 1).turns}:Fr)) (r:=[(i6<|((av (fs.take n)<|(((0+n):Nat):Int) - 1).ak+1))]) 1 rfl rfl rfl)<|dS to (Int.ofNat 8)<|ai (TJ (c':=(i6 xx)) (show((a.row (.ptr<|some (271,0)) (.slice (some (275,0)) ((0+n))<|.aq (0+n) 13)<|i6<|(a.steps+1)):List AV).length<=top from aL.1 aW) (Ux (a.row (.ptr<|some (271,0)) (.slice (some (275,0)) ((0+n))<|.aq (0+n) 13)<|i6<|(a.steps+1)) (k:=2+to.toNat) ab) rfl)<|ai (NW (P:=pg) (F:=FU) (sp:=sp LM) (g:=39) (J:=270) (h0:=dG) (ns:=dT) (rest:=[]) (n:=5) (kp:=10) (k:=3) (val:=dH eG) (a:=270) (r1:=271) (r2:=275) (st:=(xu a to xx n u fs)) (aV:=(aQ A1.pre m1 (.aq c1 13) A1.steps u1 br)) (y:=.tuple []) bU bU bU bU (by simp only[List.length_set];rfl) k4 k5 bU k6)<|ai (show true=true/\true=true/\(some (aC ng<|((a.row (.ptr<|some (271,0)) (.slice (some (275,0)) ((0+n))<|.aq (0+n) 13)<|i6<|(a.steps+1)):List AV).set (2+to.toNat)<|i6 xx):Option ae)=some (bT<|dO ((xu a to xx n u fs)).R 271 275)/\(some (.tok 3 ((xu a to xx n u fs)).u):Option ae)=some (.tok 3 ((xu a to xx n u fs)).u)/\some (bT ((xu a to xx n u fs)).row)=some (bT ((xu a to xx n u fs)).row) from⟨rfl,rfl,congrArg some<|Uy (pre:=a.pre) (post:=[(i6<|(a.steps+1))]) (len:=(0+n)) (i:=(2+to.toNat)) (r1:=271) (r2:=275) (cap:=(.aq (0+n) 13)) (c:=(i6 xx)) (by show(2+to.toNat)<10;omega),rfl,rfl⟩)<|Ee 40 4 38 (cO 40 [1,1,1,1,1,1,1,1]) A1 m1 (.aq c1 13) u1 br 275 276 hlen nL
end W4
end
section
open Go Go.Rn Go.RowKit Go.Proofs
namespace mj
open ch fT eX iq eO cG dj cQ di fW fD gH gQ gW gj gk hU iC iD iT jd jW kj kS jX fO iB
variable {fs:List Fr} {f:Fr}
def ig:Nat->List Fr->bf->Option (List Fr×bf)
 |0,_,_=>none
 |_+1,[],b=>some ([],b)
 |k+1,f::r,b=>
  if f.ak<(f.block.length:Int) then some (f::r,b)
  else if 0<f.turns then if 0<(f.block.length:Int) then some ({f with ak:=0,turns:=f.turns - 1}::r,b) else ig k ({f with ak:=0,turns:=f.turns - 1}::r) b
  else if f.bV=true then(if 2<=b.length then ig k r (ga b) else none)
  else ig k r b
def below:List Fr->Option (Fr×List Fr)
 |[]=>none
 |f::r=>if f.bV=true then some (f,r) else below r
theorem Nj{n:Nat}{r:List Fr}(hn:n<=fs.length)(h:(fs.take n).reverse=f::r):∃m,n=m+1/\m<fs.length/\fs[m]? =some f/\(fs.take m).reverse=r:=by
 cases n with
 |zero=>simp at h
 |succ m=>
  have hm:m<fs.length:=by omega
  rw[List.take_add_one,List.getElem?_eq_getElem hm] at h;simp only[Option.toList,List.reverse_append,List.reverse_cons,List.reverse_nil,List.nil_append,List.cons_append,List.cons.injEq] at h;exact⟨m,rfl,hm,by rw[List.getElem?_eq_getElem hm,h.1],h.2⟩
theorem aco{m:Nat}(h:fs[m]? =some f):(fs.take<|m+1).reverse=f::(fs.take m).reverse:=by rw[List.take_add_one,h];simp only[Option.toList,List.reverse_append,List.reverse_cons,List.reverse_nil,List.nil_append,List.cons_append]
theorem Nk{m:Nat}(h:fs[m]? =some f):av fs (m:Int)=f:=by unfold av;rw[List.getD_eq_getElem?_getD,show((m:Int)).toNat=m by omega,h];rfl
theorem T0{m:Nat}(h:fs[m]? =some f):av fs (((m+1:Nat):Int) - 1)=f:=by rw[show(((m+1:Nat):Int) - 1)=(m:Int) by omega];exact Nk h
theorem take_set{m:Nat}(g:Fr)(hm:m<fs.length):((fs.set m g).take<|m+1).reverse=g::(fs.take m).reverse:=by rw[aco (f:=g)<|by rw[List.getElem?_set_self hm]];congr 2;rw[List.take_set_of_le<|Nat.le_refl m]
theorem HZ:∀(k n:Nat) (fs:List Fr) (b:bf) (st aV:List Fr) (b':bf),ig k st b=some (aV,b')->n<=fs.length->(fs.take n).reverse=st->∃n' cW,oj k n fs b=some (n',cW,b')/\n'<=n/\cW.length=fs.length/\(cW.take n').reverse=aV
 |0,_,_,_,_,_,_,h,_,_=>by cases h
 |k+1,n,fs,b,st,aV,b',h,hn,e=>by
  cases st with
  |nil=>
   have n0:n=0:=by have:=congrArg List.length e;rw[List.length_reverse,List.length_take] at this;simp only[List.length_nil] at this;omega
   unfold ig at h;injection h with h;injection h with h1 h2
   subst h1;subst h2;exact⟨n,fs,by unfold oj;rw[if_pos n0],Nat.le_refl _,rfl,e⟩
  |cons f r=>
   obtain⟨m,rfl,hm,hf,hr⟩:=Nj hn e;have ef:=T0 hf;have em:(((m+1:Nat):Int) - 1).toNat=m:=by omega
   unfold ig at h;unfold oj;rw[if_neg ab];simp only[ef,em];by_cases c1:f.ak<(f.block.length:Int)
   ·rw[if_pos c1] at h ⊢;injection h with h;injection h with h1 h2
    subst h1;subst h2;exact⟨m+1,fs,rfl,Nat.le_refl _,rfl,e⟩
   ·rw[if_neg c1] at h ⊢;by_cases c2:0<f.turns
    ·rw[if_pos c2] at h ⊢;have e2:=take_set {f with ak:=0,turns:=f.turns - 1} hm;rw[hr] at e2;by_cases c3:0<(f.block.length:Int)
     ·rw[if_pos c3] at h ⊢;injection h with h;injection h with h1 h2
      subst h1;subst h2;exact⟨m+1,_,rfl,Nat.le_refl _,List.length_set,e2⟩
     ·rw[if_neg c3] at h ⊢;obtain⟨n',cW,a1,a2,a3,a4⟩:=HZ k (m+1) _ b _ _ _ h (by rw[List.length_set];exact hn) e2;exact⟨n',cW,a1,a2,a3.trans List.length_set,a4⟩
    ·rw[if_neg c2] at h ⊢;by_cases c4:f.bV=true
     ·rw[if_pos c4] at h ⊢;by_cases c5:2<=b.length
      ·rw[if_pos c5] at h ⊢;obtain⟨n',cW,a1,a2,a3,a4⟩:=HZ k m fs _ _ _ _ h ab hr;exact⟨n',cW,a1,by omega,a3,a4⟩
      ·rw[if_neg c5] at h;cases h
     ·rw[if_neg c4] at h ⊢;obtain⟨n',cW,a1,a2,a3,a4⟩:=HZ k m fs _ _ _ _ h ab hr;exact⟨n',cW,a1,by omega,a3,a4⟩
theorem Nl:∀(n:Nat) (fs:List Fr) (st:List Fr),n<=fs.length->(fs.take n).reverse=st->(below st=none->iG fs n= -1)/\(∀g r,below st=some (g,r)->∃i:Nat,iG fs n=(i:Int)/\i<n/\fs[i]? =some g/\(fs.take i).reverse=r)
 |0,fs,st,hn,e=>by rw[List.take_zero] at e;subst e;exact⟨fun _=>rfl,fun g r h=>by cases h⟩
 |n+1,fs,st,hn,e=>by
  cases st with
  |nil=>have:=congrArg List.length e;rw[List.length_reverse,List.length_take] at this;simp only[List.length_nil] at this;omega
  |cons f r=>
   obtain⟨m,KZ,hm,hf,hr⟩:=Nj hn e;have KZ:n=m:=by omega
   subst KZ;have ef:=Nk hf;obtain⟨h1,h2⟩:=Nl n fs r ab hr;unfold below iG;rw[ef];by_cases c:f.bV=true
   ·rw[if_pos c,if_pos c];refine⟨fun h=>(by cases h),fun g r' h=>?_⟩;injection h with h;injection h with e1 e2
    subst e1;subst e2;exact⟨n,rfl,by omega,hf,hr⟩
   ·rw[if_neg c,if_neg c];refine⟨h1,fun g r' h=>?_⟩;obtain⟨i,a1,a2,a3,a4⟩:=h2 g r' h;exact⟨i,a1,by omega,a3,a4⟩
theorem Cp:∀(k:Nat) (st:List Fr) (b:bf) (aV:List Fr) (b':bf),ig k st b=some (aV,b')->aV=[]\/∃f r,aV=f::r/\f.ak<(f.block.length:Int)
 |0,_,_,_,_,h=>by cases h
 |k+1,[],b,aV,b',h=>by
  unfold ig at h;injection h with h;injection h with h1 h2
  exact .inl h1.symm
 |k+1,f::r,b,aV,b',h=>by
  unfold ig at h;by_cases c1:f.ak<(f.block.length:Int)
  ·rw[if_pos c1] at h;injection h with h;injection h with h1 h2
   exact .inr ⟨f,r,h1.symm,c1⟩
  ·rw[if_neg c1] at h;by_cases c2:0<f.turns
   ·rw[if_pos c2] at h;by_cases c3:0<(f.block.length:Int)
    ·rw[if_pos c3] at h;injection h with h;injection h with h1 h2
     exact .inr ⟨_,r,h1.symm,c3⟩
    ·rw[if_neg c3] at h;exact Cp k _ b _ _ h
   ·rw[if_neg c2] at h;by_cases c4:f.bV=true
    ·rw[if_pos c4] at h;by_cases c5:2<=b.length
     ·rw[if_pos c5] at h;exact Cp k _ _ _ _ h
     ·rw[if_neg c5] at h;cases h
    ·rw[if_neg c4] at h;exact Cp k _ _ _ _ h
theorem Zc{k:Nat}{st:List Fr}{b:bf}{aV:List Fr}{b':bf}(h:ig k st b=some (aV,b')):ig 1 aV b'=some (aV,b'):=by
 rcases Cp k st b aV b' h with rfl|⟨f,r,rfl,hf⟩
 ·rfl
 ·unfold ig;rw[if_pos hf]
def dx(a:dF)(e:Ex):Int:=(zf e a.l a.aA).1
def Z8:List Int:=[0,0,0,0,0,0,0,0]
def kJ(z:Int):Int:=dW (cK z 0) 8
def fin(a:dF)(st:List Fr)(b:bf):Option dF:=match ig 1000 st b with
 |some p=>some {a with fs:=p.1.reverse,b:=p.2}
 |none=>none
def qm(a:dF):Option dF:=match a.fs.reverse with
 |[]=>none
 |f::r=>match f.block[f.ak.toNat]? with
  |none=>none
  |some (.mk kind to ea eb bd el)=>
   if kind=1 then fin {a with l:=a.l.set to.toNat<|dx a ea,steps:=a.steps+1} ({f with ak:=f.ak+1}::r) a.b
   else if kind=2 then fin {a with l:=a.l.set to.toNat (kz a.b<|iM (dx a ea) a.vars).1,steps:=a.steps+1} ({f with ak:=f.ak+1}::r) a.b
   else if kind=3 then fin {a with steps:=a.steps+1} ({f with ak:=f.ak+1}::r) (kL a.b (iM (dx a ea) a.vars)<|dx a eb)
   else if kind=4 then fin {a with steps:=a.steps+1} (⟨if dx a ea≠0 then bd else el,0,0,false,Z8,none⟩::{f with ak:=f.ak+1}::r) a.b
   else if kind=5 then(if 0<kJ (dx a ea) then fin {a with steps:=a.steps+1} (⟨bd,0,kJ (dx a ea) - 1,false,Z8,none⟩::{f with ak:=f.ak+1}::r) a.b else fin {a with steps:=a.steps+1} ({f with ak:=f.ak+1}::r) a.b)
   else if kind=6 then(match below (f::r) with
    |some (⟨_,_,_,_,kept,some ol⟩,r')=>fin {a with l:=kept,steps:=a.steps+1} (⟨ol,0,0,false,Z8,none⟩::r') a.b.dropLast
    |_=>none)
   else if kind=7 then fin {a with steps:=a.steps+1} (⟨bd,0,0,true,a.l,some el⟩::{f with ak:=f.ak+1}::r) (a.b++[[]])
   else none
def nw(a:dF)(x:Int):Option dF:=match a.fs.reverse with
 |[]=>none
 |f::r=>match f.block[f.ak.toNat]? with
  |none=>none
  |some (.mk _ to _ _ _ _)=>fin {a with l:=a.l.set to.toNat x,steps:=a.steps+1} ({f with ak:=f.ak+1}::r) a.b
def dX(a:dF):Int×Int×Int:=match a.fs.reverse with
 |[]=>(3,0,0)
 |f::r=>match f.block[f.ak.toNat]? with
  |none=>(0,0,0)
  |some (.mk kind _ ea _ _ _)=>if kind=8 then(3,0,dx a ea) else if kind=6/\below (f::r)=none then(4,0,0) else if kind=2/\(kz a.b<|iM (dx a ea) a.vars).2=false then(2,iM (dx a ea) a.vars,0) else(1,0,0)
end mj
end
section
open Go Go.Rn Go.RowKit Go.Proofs
namespace vN
open ch fT eX iq eO cG dj cQ di fW fD gH gQ gW gj gk hU iC iD iT jd jW kj kS jX fO iB nh nS lV oX mj W1 Wg Wh Wi Wj W2 W3 W4
variable {to aF nn n2 wi:Int} {n1 c m2 c2:Nat} {lb la:List Ex} {br fs bj:List Fr} {el bd:List St} {b1 b b2:bf} {a A1 A2:MN} {B:aJ}
noncomputable section
def gL(fs:List Fr)(n:Nat):List Fr:=(fs.take n).set ((((0+n):Nat):Int) - 1).toNat ({(av (fs.take n)<|(((0+n):Nat):Int) - 1) with ak:=((av (fs.take n)<|(((0+n):Nat):Int) - 1).ak+1),turns:=(av (fs.take n)<|(((0+n):Nat):Int) - 1).turns}:Fr)
abbrev qe(fs:List Fr)(k:Nat)(f:Fr):List Fr:=fs.take k++[f]
noncomputable abbrev OC(ka to op nn:Int)(la:List Ex)(aF n2:Int)(lb:List Ex)(bd el:List St):List AV:=[.int .u8 ka,.int .i64 to,.int .u8 op,.int .i64 nn,.U (nm<|cH la) 0 la.length,.int .u8 aF,.int .i64 n2,.U (nm<|cH lb) 0 lb.length,.U (nm (bd.map aM).flatten) 0 bd.length,.U (nm (el.map aM).flatten) 0 el.length]
noncomputable abbrev yX(a:MN)(n c:Nat)(fs:List Fr)(b:bf):AS:=ah (ar++aX (dC 270 3<|cX a n c fs b)) 273
theorem j1{ka:Int}{kb:VS->List AV->AV×VS->Prop}{kc:Nat}(hk:(ka=1/\kb=zx/\kc=31)\/(ka=2/\kb=zj/\kc=32)\/(ka=3/\kb=yU/\kc=33)){n c1:Nat}{op:Int}(mc:Mt LM B)(m0:cY a n c fs b)(h1:1<=n)(h6:n<=6)(b6:b.length<=6)(hs:mH fs n<|some<|St.mk ka to (.mk op nn la) (.mk aF n2 lb) bd el)(kl:nQ a (iG fs n) b (some<|St.mk ka to (.mk op nn la) (.mk aF n2 lb) bd el)=(1,0,0))(ax:0<=(av (fs.take n)<|((0+n:Nat):Int) - 1).ak/\(av (fs.take n)<|((0+n:Nat):Int) - 1).ak<=1000000)(cz:0<=a.steps/\a.steps<=1000000000000)(mp:cY {a with steps:=a.steps+1} (0+n) (0+n) (gL fs n) b)(m1:cY A1 n1 c1 br b1)(lG:cY A2 m2 c2 bj b2)(hX:dH kb (cX {a with steps:=a.steps+1} (0+n) (0+n) (gL fs n) b) [.agg<|aM<|St.mk ka to (.mk op nn la) (.mk aF n2 lb) bd el]=some (.tuple [],(cX A1 n1 c1 br b1)))(pT:dH eG (cX A1 n1 c1 br b1) []=some (.tuple [],(cX A2 m2 c2 bj b2))):au pg B 271 (gX 270 3 pg (az Tryd.f14) (.int .i64 0)<|cX A2 m2 c2 bj b2) (sF 14 Tryd.f14 [(.ptr<|some (270,0))])<|yX a n c fs b:=by
 have hN:=wX m0 hs;have hK:=yV m0 h6 b6 hs;rw[kl] at hK;have hv:=td mp<|.mk op nn la;have hA:=qd<|.mk op nn la;have eS:aM (St.mk ka to (.mk op nn la) (.mk aF n2 lb) bd el)=(OC ka to op nn la aF n2 lb bd el):=by rw[wK,aD,aD];rfl
 have hH:=xE<|St.mk ka to (.mk op nn la) (.mk aF n2 lb) bd el;unfold ql at hN;simp only[eS] at hN hH hX;simp only[aD] at hv hA;have hB:(AV.tuple [.agg<|OC ka to op nn la aF n2 lb bd el,.bool true]:AV).hi=true:=by show([_,AV.bool true].all AV.jI)=true;rw[List.all_cons,show(AV.agg _).jI=true from hH];rfl
 have qJ:([.agg<|OC ka to op nn la aF n2 lb bd el]:List AV).all AV.hi=true:=by rw[List.all_cons,hH];rfl
 exact step1 hk (a:=a) (n:=n) (c:=c) (u:=bI b) (fs:=fs) (A1:=A1) (m1:=n1) (c1:=c1) (u1:=bI b1) (br:=br) (A2:=A2) (m2:=m2) (c2:=c2) (u2:=bI b2) (bj:=bj) (N:=nm<|cH la) (L:=la.length) (N2:=nm<|cH lb) (L2:=lb.length) (to:=to) (op:=op) (nn:=nn) (aF:=aF) (n2:=n2) (bd:=bd) (el:=el) (z:=(dD a<|.mk op nn la)) (wi:=0) (t:=0) (ol:=[]) (fb:=[]) (fa:=0) (ft:=0) (fo:=false) (ub:=.tuple []) (y0:=0) (y1:=0) (y2:=0) (y3:=0) (y4:=0) (y5:=0) (y6:=0) (y7:=0) mc h1 m0.mR m0.pV m0.len zu ax cz lG.len lG.aA.cM
  v8
  v8
  v8
  v8
  v8
  v8
  v8
  v8
  v8
  v8
  (Bi mc)
noncomputable abbrev C8(to op nn:Int)(la:List Ex)(aF n2:Int)(lb:List Ex)(bd el:List St):List AV:=[.int .u8 4,.int .i64 to,.int .u8 op,.int .i64 nn,.U (nm<|cH la) 0 la.length,.int .u8 aF,.int .i64 n2,.U (nm<|cH lb) 0 lb.length,.U (nm (bd.map aM).flatten) 0 bd.length,.U (nm (el.map aM).flatten) 0 el.length]
theorem j4y{n c1:Nat}{op:Int}(mc:Mt LM B)(m0:cY a n c fs b)(h1:1<=n)(h6:n<=6)(b6:b.length<=6)(hs:mH fs n<|some<|St.mk 4 to (.mk op nn la) (.mk aF n2 lb) bd el)(kl:nQ a (iG fs n) b (some<|St.mk 4 to (.mk op nn la) (.mk aF n2 lb) bd el)=(1,0,0))(ax:0<=(av (fs.take n)<|((0+n:Nat):Int) - 1).ak/\(av (fs.take n)<|((0+n:Nat):Int) - 1).ak<=1000000)(cz:0<=a.steps/\a.steps<=1000000000000)(mp:cY {a with steps:=a.steps+1} (0+n) (0+n) (gL fs n) b)(m1:cY A1 n1 c1 br b1)(lG:cY A2 m2 c2 bj b2)(mE:cY {a with steps:=a.steps+1} (0+n+1) (0+n+1) (qe (gL fs n) (0+n) ⟨bd,0,0,false,Z8,none⟩) b)(hE:dH eG (cX {a with steps:=a.steps+1} (0+n+1) (0+n+1) (qe (gL fs n) (0+n) ⟨bd,0,0,false,Z8,none⟩) b) []=some (.tuple [],(cX A1 n1 c1 br b1)))(pT:dH eG (cX A1 n1 c1 br b1) []=some (.tuple [],(cX A2 m2 c2 bj b2)))(hz:(dD a<|.mk op nn la)≠0):au pg B 271 (gX 270 3 pg (az Tryd.f14) (.int .i64 0)<|cX A2 m2 c2 bj b2) (sF 14 Tryd.f14 [(.ptr<|some (270,0))])<|yX a n c fs b:=by
 have hN:=wX m0 hs;have hK:=yV m0 h6 b6 hs;rw[kl] at hK;have hv:=td mp<|.mk op nn la;have hA:=qd<|.mk op nn la;have eS:aM (St.mk 4 to (.mk op nn la) (.mk aF n2 lb) bd el)=(C8 to op nn la aF n2 lb bd el):=by rw[wK,aD,aD];rfl
 have hH:=xE<|St.mk 4 to (.mk op nn la) (.mk aF n2 lb) bd el;unfold ql at hN;simp only[eS] at hN hH;simp only[aD] at hv hA;have hB:(AV.tuple [.agg<|C8 to op nn la aF n2 lb bd el,.bool true]:AV).hi=true:=by show([_,AV.bool true].all AV.jI)=true;rw[List.all_cons,show(AV.agg _).jI=true from hH];rfl
 have qJ:([.agg<|C8 to op nn la aF n2 lb bd el]:List AV).all AV.hi=true:=by rw[List.all_cons,hH];rfl
 exact afE (a:=a) (n:=n) (c:=c) (u:=bI b) (fs:=fs) (A1:=A1) (m1:=n1) (c1:=c1) (u1:=bI b1) (br:=br) (A2:=A2) (m2:=m2) (c2:=c2) (u2:=bI b2) (bj:=bj) (N:=nm<|cH la) (L:=la.length) (N2:=nm<|cH lb) (L2:=lb.length) (to:=to) (op:=op) (nn:=nn) (aF:=aF) (n2:=n2) (bd:=bd) (el:=el) (z:=(dD a<|.mk op nn la)) (wi:=0) (t:=0) (ol:=[]) (fb:=[]) (fa:=0) (ft:=0) (fo:=false) (ub:=.tuple []) (y0:=0) (y1:=0) (y2:=0) (y3:=0) (y4:=0) (y5:=0) (y6:=0) (y7:=0) mc h1 m0.mR m0.pV m0.len zu ax cz lG.len lG.aA.cM hz
  gu
  gu
  gu
  gu
  gu
  gu
  gu
  gu
  gu
  gu
  gu
  gu
  (Bi mc)
theorem j4n{n c1:Nat}{op:Int}(mc:Mt LM B)(m0:cY a n c fs b)(h1:1<=n)(h6:n<=6)(b6:b.length<=6)(hs:mH fs n<|some<|St.mk 4 to (.mk op nn la) (.mk aF n2 lb) bd el)(kl:nQ a (iG fs n) b (some<|St.mk 4 to (.mk op nn la) (.mk aF n2 lb) bd el)=(1,0,0))(ax:0<=(av (fs.take n)<|((0+n:Nat):Int) - 1).ak/\(av (fs.take n)<|((0+n:Nat):Int) - 1).ak<=1000000)(cz:0<=a.steps/\a.steps<=1000000000000)(mp:cY {a with steps:=a.steps+1} (0+n) (0+n) (gL fs n) b)(m1:cY A1 n1 c1 br b1)(lG:cY A2 m2 c2 bj b2)(mE:cY {a with steps:=a.steps+1} (0+n+1) (0+n+1) (qe (gL fs n) (0+n) ⟨el,0,0,false,Z8,none⟩) b)(hE:dH eG (cX {a with steps:=a.steps+1} (0+n+1) (0+n+1) (qe (gL fs n) (0+n) ⟨el,0,0,false,Z8,none⟩) b) []=some (.tuple [],(cX A1 n1 c1 br b1)))(pT:dH eG (cX A1 n1 c1 br b1) []=some (.tuple [],(cX A2 m2 c2 bj b2)))(hz:(dD a<|.mk op nn la)=0):au pg B 271 (gX 270 3 pg (az Tryd.f14) (.int .i64 0)<|cX A2 m2 c2 bj b2) (sF 14 Tryd.f14 [(.ptr<|some (270,0))])<|yX a n c fs b:=by
 have hN:=wX m0 hs;have hK:=yV m0 h6 b6 hs;rw[kl] at hK;have hv:=td mp<|.mk op nn la;have hA:=qd<|.mk op nn la;have eS:aM (St.mk 4 to (.mk op nn la) (.mk aF n2 lb) bd el)=(C8 to op nn la aF n2 lb bd el):=by rw[wK,aD,aD];rfl
 have hH:=xE<|St.mk 4 to (.mk op nn la) (.mk aF n2 lb) bd el;unfold ql at hN;simp only[eS] at hN hH;simp only[aD] at hv hA;have hB:(AV.tuple [.agg<|C8 to op nn la aF n2 lb bd el,.bool true]:AV).hi=true:=by show([_,AV.bool true].all AV.jI)=true;rw[List.all_cons,show(AV.agg _).jI=true from hH];rfl
 have qJ:([.agg<|C8 to op nn la aF n2 lb bd el]:List AV).all AV.hi=true:=by rw[List.all_cons,hH];rfl
 exact afF (a:=a) (n:=n) (c:=c) (u:=bI b) (fs:=fs) (A1:=A1) (m1:=n1) (c1:=c1) (u1:=bI b1) (br:=br) (A2:=A2) (m2:=m2) (c2:=c2) (u2:=bI b2) (bj:=bj) (N:=nm<|cH la) (L:=la.length) (N2:=nm<|cH lb) (L2:=lb.length) (to:=to) (op:=op) (nn:=nn) (aF:=aF) (n2:=n2) (bd:=bd) (el:=el) (z:=(dD a<|.mk op nn la)) (wi:=0) (t:=0) (ol:=[]) (fb:=[]) (fa:=0) (ft:=0) (fo:=false) (ub:=.tuple []) (y0:=0) (y1:=0) (y2:=0) (y3:=0) (y4:=0) (y5:=0) (y6:=0) (y7:=0) mc h1 m0.mR m0.pV m0.len zu ax cz lG.len lG.aA.cM hz
  gu
  gu
  gu
  gu
  gu
  gu
  gu
  gu
  gu
  gu
  gu
  gu
  (Bi mc)
noncomputable abbrev C9(to op nn:Int)(la:List Ex)(aF n2:Int)(lb:List Ex)(bd el:List St):List AV:=[.int .u8 5,.int .i64 to,.int .u8 op,.int .i64 nn,.U (nm<|cH la) 0 la.length,.int .u8 aF,.int .i64 n2,.U (nm<|cH lb) 0 lb.length,.U (nm (bd.map aM).flatten) 0 bd.length,.U (nm (el.map aM).flatten) 0 el.length]
theorem j5t{n c1:Nat}{op:Int}(mc:Mt LM B)(m0:cY a n c fs b)(h1:1<=n)(h6:n<=6)(b6:b.length<=6)(hs:mH fs n<|some<|St.mk 5 to (.mk op nn la) (.mk aF n2 lb) bd el)(kl:nQ a (iG fs n) b (some<|St.mk 5 to (.mk op nn la) (.mk aF n2 lb) bd el)=(1,0,0))(ax:0<=(av (fs.take n)<|((0+n:Nat):Int) - 1).ak/\(av (fs.take n)<|((0+n:Nat):Int) - 1).ak<=1000000)(cz:0<=a.steps/\a.steps<=1000000000000)(mp:cY {a with steps:=a.steps+1} (0+n) (0+n) (gL fs n) b)(m1:cY A1 n1 c1 br b1)(lG:cY A2 m2 c2 bj b2)(mE:cY {a with steps:=a.steps+1} (0+n+1) (0+n+1) (qe (gL fs n) (0+n) ⟨bd,0,(kJ<|dD a<|.mk op nn la) - 1,false,Z8,none⟩) b)(hE:dH eG (cX {a with steps:=a.steps+1} (0+n+1) (0+n+1) (qe (gL fs n) (0+n) ⟨bd,0,(kJ<|dD a<|.mk op nn la) - 1,false,Z8,none⟩) b) []=some (.tuple [],(cX A1 n1 c1 br b1)))(pT:dH eG (cX A1 n1 c1 br b1) []=some (.tuple [],(cX A2 m2 c2 bj b2)))(hz:0<kJ (dD a<|.mk op nn la)/\kJ (dD a<|.mk op nn la)<=8):au pg B 271 (gX 270 3 pg (az Tryd.f14) (.int .i64 0)<|cX A2 m2 c2 bj b2) (sF 14 Tryd.f14 [(.ptr<|some (270,0))])<|yX a n c fs b:=by
 have hN:=wX m0 hs;have hK:=yV m0 h6 b6 hs;rw[kl] at hK;have hv:=td mp<|.mk op nn la;have hA:=qd<|.mk op nn la;have eS:aM (St.mk 5 to (.mk op nn la) (.mk aF n2 lb) bd el)=(C9 to op nn la aF n2 lb bd el):=by rw[wK,aD,aD];rfl
 have hH:=xE<|St.mk 5 to (.mk op nn la) (.mk aF n2 lb) bd el;unfold ql at hN;simp only[eS] at hN hH;simp only[aD] at hv hA;have hB:(AV.tuple [.agg<|C9 to op nn la aF n2 lb bd el,.bool true]:AV).hi=true:=by show([_,AV.bool true].all AV.jI)=true;rw[List.all_cons,show(AV.agg _).jI=true from hH];rfl
 have qJ:([.agg<|C9 to op nn la aF n2 lb bd el]:List AV).all AV.hi=true:=by rw[List.all_cons,hH];rfl
 exact afG (a:=a) (n:=n) (c:=c) (u:=bI b) (fs:=fs) (A1:=A1) (m1:=n1) (c1:=c1) (u1:=bI b1) (br:=br) (A2:=A2) (m2:=m2) (c2:=c2) (u2:=bI b2) (bj:=bj) (N:=nm<|cH la) (L:=la.length) (N2:=nm<|cH lb) (L2:=lb.length) (to:=to) (op:=op) (nn:=nn) (aF:=aF) (n2:=n2) (bd:=bd) (el:=el) (z:=(dD a<|.mk op nn la)) (wi:=0) (t:=0) (ol:=[]) (fb:=[]) (fa:=0) (ft:=0) (fo:=false) (ub:=.tuple []) (y0:=0) (y1:=0) (y2:=0) (y3:=0) (y4:=0) (y5:=0) (y6:=0) (y7:=0) mc h1 m0.mR m0.pV m0.len zu ax cz lG.len lG.aA.cM hz
  gu
  gu
  gu
  gu
  gu
  gu
  gu
  gu
  gu
  gu
  gu
  gu
  (Bi mc)
theorem j5o{n c1:Nat}{op:Int}(mc:Mt LM B)(m0:cY a n c fs b)(h1:1<=n)(h6:n<=6)(b6:b.length<=6)(hs:mH fs n<|some<|St.mk 5 to (.mk op nn la) (.mk aF n2 lb) bd el)(kl:nQ a (iG fs n) b (some<|St.mk 5 to (.mk op nn la) (.mk aF n2 lb) bd el)=(1,0,0))(ax:0<=(av (fs.take n)<|((0+n:Nat):Int) - 1).ak/\(av (fs.take n)<|((0+n:Nat):Int) - 1).ak<=1000000)(cz:0<=a.steps/\a.steps<=1000000000000)(mp:cY {a with steps:=a.steps+1} (0+n) (0+n) (gL fs n) b)(m1:cY A1 n1 c1 br b1)(jk:kJ (dD a<|.mk op nn la)<=0)(pT:dH eG (cX {a with steps:=a.steps+1} (0+n) (0+n) (gL fs n) b) []=some (.tuple [],(cX A1 n1 c1 br b1))):au pg B 271 (gX 270 3 pg (az Tryd.f14) (.int .i64 0)<|cX A1 n1 c1 br b1) (sF 14 Tryd.f14 [(.ptr<|some (270,0))])<|yX a n c fs b:=by
 have hN:=wX m0 hs;have hK:=yV m0 h6 b6 hs;rw[kl] at hK;have hv:=td mp<|.mk op nn la;have hA:=qd<|.mk op nn la;have eS:aM (St.mk 5 to (.mk op nn la) (.mk aF n2 lb) bd el)=(C9 to op nn la aF n2 lb bd el):=by rw[wK,aD,aD];rfl
 have hH:=xE<|St.mk 5 to (.mk op nn la) (.mk aF n2 lb) bd el;unfold ql at hN;simp only[eS] at hN hH;simp only[aD] at hv hA;have hB:(AV.tuple [.agg<|C9 to op nn la aF n2 lb bd el,.bool true]:AV).hi=true:=by show([_,AV.bool true].all AV.jI)=true;rw[List.all_cons,show(AV.agg _).jI=true from hH];rfl
 have qJ:([.agg<|C9 to op nn la aF n2 lb bd el]:List AV).all AV.hi=true:=by rw[List.all_cons,hH];rfl
 exact afH (a:=a) (n:=n) (c:=c) (u:=bI b) (fs:=fs) (A1:=A1) (m1:=n1) (c1:=c1) (u1:=bI b1) (br:=br) (A2:=A1) (m2:=n1) (c2:=c1) (u2:=bI b1) (bj:=br) (N:=nm<|cH la) (L:=la.length) (N2:=nm<|cH lb) (L2:=lb.length) (to:=to) (op:=op) (nn:=nn) (aF:=aF) (n2:=n2) (bd:=bd) (el:=el) (z:=(dD a<|.mk op nn la)) (wi:=0) (t:=0) (ol:=[]) (fb:=[]) (fa:=0) (ft:=0) (fo:=false) (ub:=.tuple []) (y0:=0) (y1:=0) (y2:=0) (y3:=0) (y4:=0) (y5:=0) (y6:=0) (y7:=0) mc h1 m0.mR m0.pV m0.len zu ax cz m1.len m1.aA.cM jk
  yn
  yn
  yn
  yn
  yn
  yn
  yn
  yn
  yn
  (Bi mc)
noncomputable abbrev OD(to op nn:Int)(la:List Ex)(aF n2:Int)(lb:List Ex)(bd el:List St):List AV:=[.int .u8 7,.int .i64 to,.int .u8 op,.int .i64 nn,.U (nm<|cH la) 0 la.length,.int .u8 aF,.int .i64 n2,.U (nm<|cH lb) 0 lb.length,.U (nm (bd.map aM).flatten) 0 bd.length,.U (nm (el.map aM).flatten) 0 el.length]
theorem j7{n c1:Nat}{op:Int}(mc:Mt LM B)(m0:cY a n c fs b)(h1:1<=n)(h6:n<=6)(b6:b.length<=6)(hs:mH fs n<|some<|St.mk 7 to (.mk op nn la) (.mk aF n2 lb) bd el)(kl:nQ a (iG fs n) b (some<|St.mk 7 to (.mk op nn la) (.mk aF n2 lb) bd el)=(1,0,0))(ax:0<=(av (fs.take n)<|((0+n:Nat):Int) - 1).ak/\(av (fs.take n)<|((0+n:Nat):Int) - 1).ak<=1000000)(cz:0<=a.steps/\a.steps<=1000000000000)(mp:cY {a with steps:=a.steps+1} (0+n) (0+n) (gL fs n) b)(m1:cY A1 n1 c1 br b1)(lG:cY A2 m2 c2 bj b2)(mE:cY {a with steps:=a.steps+1} (0+n+1) (0+n+1) (qe (gL fs n) (0+n) ⟨bd,0,0,true,a.l,some el⟩)<|b++[[]])(hE:dH eG (cX {a with steps:=a.steps+1} (0+n+1) (0+n+1) (qe (gL fs n) (0+n) ⟨bd,0,0,true,a.l,some el⟩)<|b++[[]]) []=some (.tuple [],(cX A1 n1 c1 br b1)))(pT:dH eG (cX A1 n1 c1 br b1) []=some (.tuple [],(cX A2 m2 c2 bj b2)))(Yk:b.length<7):au pg B 271 (gX 270 3 pg (az Tryd.f14) (.int .i64 0)<|cX A2 m2 c2 bj b2) (sF 14 Tryd.f14 [(.ptr<|some (270,0))])<|yX a n c fs b:=by
 have hN:=wX m0 hs;have hK:=yV m0 h6 b6 hs;rw[kl] at hK;have hv:=td mp<|.mk op nn la;have hA:=qd<|.mk op nn la;have eS:aM (St.mk 7 to (.mk op nn la) (.mk aF n2 lb) bd el)=(OD to op nn la aF n2 lb bd el):=by rw[wK,aD,aD];rfl
 have hH:=xE<|St.mk 7 to (.mk op nn la) (.mk aF n2 lb) bd el;unfold ql at hN;simp only[eS] at hN hH;simp only[aD] at hv hA;have hB:(AV.tuple [.agg<|OD to op nn la aF n2 lb bd el,.bool true]:AV).hi=true:=by show([_,AV.bool true].all AV.jI)=true;rw[List.all_cons,show(AV.agg _).jI=true from hH];rfl
 have qJ:([.agg<|OD to op nn la aF n2 lb bd el]:List AV).all AV.hi=true:=by rw[List.all_cons,hH];rfl
 have hD:iK (gV bI Jm) (bI b) []=some ((.int .i64 0:AV),bI<|b++[[]]):=by
  unfold iK;rw[AI sw];show(match ([]:List AV).all AV.hi with
   |true=>((if List.length b<7 then some ((AV.int .i64 0:AV),b++[[]]) else none).map (fun p:AV×bf=>((p.1,bI p.2):AV×AV))).bind fun p:AV×AV=>match p.1.hi with
    |true=>some p
    |false=>none
   |false=>none)=_
  rw[if_pos Yk];rfl
 exact ahk (a:=a) (n:=n) (c:=c) (u:=bI b) (fs:=fs) (A1:=A1) (m1:=n1) (c1:=c1) (u1:=bI b1) (br:=br) (A2:=A2) (m2:=m2) (c2:=c2) (u2:=bI b2) (bj:=bj) (N:=nm<|cH la) (L:=la.length) (N2:=nm<|cH lb) (L2:=lb.length) (to:=to) (op:=op) (nn:=nn) (aF:=aF) (n2:=n2) (bd:=bd) (el:=el) (z:=(dD a<|.mk op nn la)) (wi:=0) (t:=0) (ol:=[]) (fb:=[]) (fa:=0) (ft:=0) (fo:=false) (ub:=bI<|b++[[]]) (y0:=0) (y1:=0) (y2:=0) (y3:=0) (y4:=0) (y5:=0) (y6:=0) (y7:=0) mc h1 m0.mR m0.pV m0.len zu ax cz lG.len lG.aA.cM
  v7
  v7
  v7
  v7
  v7
  v7
  v7
  v7
  v7
  v7
  (Bi mc)
noncomputable abbrev OE(to op nn:Int)(la:List Ex)(aF n2:Int)(lb:List Ex)(bd el:List St):List AV:=[.int .u8 6,.int .i64 to,.int .u8 op,.int .i64 nn,.U (nm<|cH la) 0 la.length,.int .u8 aF,.int .i64 n2,.U (nm<|cH lb) 0 lb.length,.U (nm (bd.map aM).flatten) 0 bd.length,.U (nm (el.map aM).flatten) 0 el.length]
theorem j6{n c1:Nat}{op y0 y1 y2 y3 y4 y5 y6 y7 fa ft:Int}{ol fb:List St}{fo:Bool}(mc:Mt LM B)(m0:cY a n c fs b)(h1:1<=n)(h6:n<=6)(b6:b.length<=6)(hs:mH fs n<|some<|St.mk 6 to (.mk op nn la) (.mk aF n2 lb) bd el)(kl:nQ a (iG fs n) b (some<|St.mk 6 to (.mk op nn la) (.mk aF n2 lb) bd el)=(1,0,0))(ax:0<=(av (fs.take n)<|((0+n:Nat):Int) - 1).ak/\(av (fs.take n)<|((0+n:Nat):Int) - 1).ak<=1000000)(cz:0<=a.steps/\a.steps<=1000000000000)(mp:cY {a with steps:=a.steps+1} (0+n) (0+n) (gL fs n) b)(m1:cY A1 n1 c1 br b1)(lG:cY A2 m2 c2 bj b2)(mE:cY {a with steps:=a.steps+1,x0:=y0,x1:=y1,x2:=y2,x3:=y3,x4:=y4,x5:=y5,x6:=y6,x7:=y7} (wi.toNat+1) (wi.toNat+1) (qe (gL fs n) wi.toNat ⟨ol,0,0,false,Z8,none⟩) b.dropLast)(hE:dH eG (cX {a with steps:=a.steps+1,x0:=y0,x1:=y1,x2:=y2,x3:=y3,x4:=y4,x5:=y5,x6:=y6,x7:=y7} (wi.toNat+1) (wi.toNat+1) (qe (gL fs n) wi.toNat ⟨ol,0,0,false,Z8,none⟩) b.dropLast) []=some (.tuple [],(cX A1 n1 c1 br b1)))(pT:dH eG (cX A1 n1 c1 br b1) []=some (.tuple [],(cX A2 m2 c2 bj b2)))(hwi:iG (gL fs n) (0+n)=wi)(hz:1<=wi/\wi<(n:Int))(bC:(gL fs n)[wi.toNat]? =some (⟨fb,fa,ft,fo,[y0,y1,y2,y3,y4,y5,y6,y7],some ol⟩:Fr))(ye:2<=b.length):au pg B 271 (gX 270 3 pg (az Tryd.f14) (.int .i64 0)<|cX A2 m2 c2 bj b2) (sF 14 Tryd.f14 [(.ptr<|some (270,0))])<|yX a n c fs b:=by
 have hN:=wX m0 hs;have hK:=yV m0 h6 b6 hs;rw[kl] at hK;have hv:=td mp<|.mk op nn la;have hA:=qd<|.mk op nn la;have eS:aM (St.mk 6 to (.mk op nn la) (.mk aF n2 lb) bd el)=(OE to op nn la aF n2 lb bd el):=by rw[wK,aD,aD];rfl
 have hH:=xE<|St.mk 6 to (.mk op nn la) (.mk aF n2 lb) bd el;unfold ql at hN;simp only[eS] at hN hH;simp only[aD] at hv hA;have hB:(AV.tuple [.agg<|OE to op nn la aF n2 lb bd el,.bool true]:AV).hi=true:=by show([_,AV.bool true].all AV.jI)=true;rw[List.all_cons,show(AV.agg _).jI=true from hH];rfl
 have qJ:([.agg<|OE to op nn la aF n2 lb bd el]:List AV).all AV.hi=true:=by rw[List.all_cons,hH];rfl
 have hW:=Tg mp ab;rw[hwi] at hW;have hD:iK (gV bI Jn) (bI b) []=some ((.int .i64 0:AV),bI b.dropLast):=by
  unfold iK;rw[AI sw];show(match ([]:List AV).all AV.hi with
   |true=>((if 2<=List.length b/\List.length b<=6 then some ((AV.int .i64 0:AV),b.dropLast) else none).map (fun p:AV×bf=>((p.1,bI p.2):AV×AV))).bind fun p:AV×AV=>match p.1.hi with
    |true=>some p
    |false=>none
   |false=>none)=_
  rw[if_pos ⟨ye,b6⟩];rfl
 exact ahl (a:=a) (n:=n) (c:=c) (u:=bI b) (fs:=fs) (A1:=A1) (m1:=n1) (c1:=c1) (u1:=bI b1) (br:=br) (A2:=A2) (m2:=m2) (c2:=c2) (u2:=bI b2) (bj:=bj) (N:=nm<|cH la) (L:=la.length) (N2:=nm<|cH lb) (L2:=lb.length) (to:=to) (op:=op) (nn:=nn) (aF:=aF) (n2:=n2) (bd:=bd) (el:=el) (z:=(dD a<|.mk op nn la)) (wi:=wi) (t:=0) (ol:=ol) (fb:=fb) (fa:=fa) (ft:=ft) (fo:=fo) (ub:=bI b.dropLast) (y0:=y0) (y1:=y1) (y2:=y2) (y3:=y3) (y4:=y4) (y5:=y5) (y6:=y6) (y7:=y7) mc h1 m0.mR m0.pV m0.len zu ax cz lG.len lG.aA.cM hz
  qK
  qK
  qK
  qK
  qK
  qK
  qK
  qK
  qK
  qK
  qK
  qK
  qK
  (Bi mc)
noncomputable abbrev OF(to op nn:Int)(la:List Ex)(aF n2:Int)(lb:List Ex)(bd el:List St):List AV:=[.int .u8 2,.int .i64 to,.int .u8 op,.int .i64 nn,.U (nm<|cH la) 0 la.length,.int .u8 aF,.int .i64 n2,.U (nm<|cH lb) 0 lb.length,.U (nm (bd.map aM).flatten) 0 bd.length,.U (nm (el.map aM).flatten) 0 el.length]
theorem jA{n c1:Nat}{op xx:Int}(mc:Mt LM B)(m0:cY a n c fs b)(h1:1<=n)(h6:n<=6)(b6:b.length<=6)(hs:mH fs n<|some<|St.mk 2 to (.mk op nn la) (.mk aF n2 lb) bd el)(kl:nQ a (iG fs n) b (some<|St.mk 2 to (.mk op nn la) (.mk aF n2 lb) bd el)=(2,wi,0))(ax:0<=(av (fs.take n)<|((0+n:Nat):Int) - 1).ak/\(av (fs.take n)<|((0+n:Nat):Int) - 1).ak<=1000000)(cz:0<=a.steps/\a.steps<=1000000000000)(mp:cY {a with steps:=a.steps+1} (0+n) (0+n) (gL fs n) b)(m1:cY A1 n1 c1 br b1)(h0:0<=to)(h8:to<8)(mx:cY (MN.im {a with steps:=a.steps+1} to xx) (0+n) (0+n) (gL fs n) b)(pT:dH eG (cX (MN.im {a with steps:=a.steps+1} to xx) (0+n) (0+n) (gL fs n) b) []=some (.tuple [],(cX A1 n1 c1 br b1))):au pg B 271 (gX 270 3 pg (az Tryd.f40) (.int .i64 0)<|cX A1 n1 c1 br b1) (sF 40 Tryd.f40 [(.ptr<|some (270,0)),(i6 xx)])<|yX a n c fs b:=by
 have hN:=wX m0 hs;have hK:=yV m0 h6 b6 hs;rw[kl] at hK;have hv:=td mp<|.mk op nn la;have hA:=qd<|.mk op nn la;have eS:aM (St.mk 2 to (.mk op nn la) (.mk aF n2 lb) bd el)=(OF to op nn la aF n2 lb bd el):=by rw[wK,aD,aD];rfl
 have hH:=xE<|St.mk 2 to (.mk op nn la) (.mk aF n2 lb) bd el;unfold ql at hN;simp only[eS] at hN hH;simp only[aD] at hv hA;have hB:(AV.tuple [.agg<|OF to op nn la aF n2 lb bd el,.bool true]:AV).hi=true:=by show([_,AV.bool true].all AV.jI)=true;rw[List.all_cons,show(AV.agg _).jI=true from hH];rfl
 have qJ:([.agg<|OF to op nn la aF n2 lb bd el]:List AV).all AV.hi=true:=by rw[List.all_cons,hH];rfl
 have hx:= @Oy {a with steps:=a.steps+1} (0+n) (0+n) (gL fs n) b to xx h0 h8;unfold iD.vB at hx;rw[←hx] at pT;have XL:=mx.bD;rw[←hx] at XL;exact ahm (a:=a) (n:=n) (c:=c) (u:=bI b) (fs:=fs) (A1:=A1) (m1:=n1) (c1:=c1) (u1:=bI b1) (br:=br) (A2:=A1) (m2:=n1) (c2:=c1) (u2:=bI b1) (bj:=br) (N:=nm<|cH la) (L:=la.length) (N2:=nm<|cH lb) (L2:=lb.length) (to:=to) (op:=op) (nn:=nn) (aF:=aF) (n2:=n2) (bd:=bd) (el:=el) (z:=(dD a<|.mk op nn la)) (wi:=wi) (t:=0) (ol:=[]) (fb:=[]) (fa:=0) (ft:=0) (fo:=false) (ub:=.tuple []) (y0:=0) (y1:=0) (y2:=0) (y3:=0) (y4:=0) (y5:=0) (y6:=0) (y7:=0) (xx:=xx) mc h1 m0.mR m0.pV m0.len zu ax cz m1.len m1.aA.cM h0 h8
  B1
  B1
  B1
  B1
  B1
  B1
  B1
  (ahj mc)
end
end vN
end
section
open Go Go.Rn Go.RowKit Go.Proofs
namespace nT
open ch fT eX iq eO cG dj cQ di fW fD gH gQ gW gj gk hU iC iD iT jd jW kj kS jX fO iB nh nS lV oX mj vN
variable {fs aV st:List Fr} {b b':bf} {A:MN} {s:AS} {rs:List ResultVar} {k:Nat} {P:Program} {B:aJ}
theorem Kn{n m:Nat}{Q Q':Tr AV->List Nat->Option Code->AS->Prop}{fr:AF}(hm:m<=n)(h:∀t d j s,Q t d j s->Q' t d j s)(H:au P B n Q fr s):au P B m Q' fr s:=by intro ρ w b a cs q1 q2 q3;obtain⟨aO,j,s1,σ,a',w',e1,e2,e3,e4⟩:=H ρ w b a cs q1 q2 q3;exact⟨aO,j,s1,σ,a',w',h _ _ _ _ e1,by omega,fun k hk ht=>e3 k ab ht,e4⟩
theorem W5{R R':AV->AS->Prop}(h:∀y s,R y s->R' y s):∀t d j s,Rn.Fin P rs R t d j s->Rn.Fin P rs R' t d j s:=by intro t d j s q;obtain⟨v,s2,a,b⟩:=q;exact⟨v,s2,a,h _ _ b⟩
noncomputable def mn(a:dF):MN:=⟨a.vars,nm (a.aA.map zc).flatten,0,a.aA.length,a.aA,a.l.getD 0 0,a.l.getD 1 0,a.l.getD 2 0,a.l.getD 3 0,a.l.getD 4 0,a.l.getD 5 0,a.l.getD 6 0,a.l.getD 7 0,a.steps⟩
theorem W6{a:dF}(h:a.l.length=8):(mn a).l=a.l:=(Jp a.l h).symm
theorem l9{a:dF}(h:a.l.length=8)(e:Ex):dD (mn a) e=dx a e:=by unfold dD dx;rw[W6 h];rfl
theorem T1(a:dF)(bh:List Fr)(c:Nat):dC 270 3 (cX (mn a) a.fs.length c (a.fs++bh) a.b)=gz a bh c:=rfl
structure Good (a:dF):Prop where
 ok:xj a
 nY:ir a.fs
 fP:a.fs.length<=6
 b6:a.b.length<=6
 steps:0<=a.steps/\a.steps<=1000000000000
 ak:∀f∈a.fs,0<=f.ak/\f.ak<=1000000
theorem ir.app{l m:List Fr}(h:ir l)(k:ir m):ir<|l++m:=fun f hf=>by
 rcases List.mem_append.1 hf with q|q
 ·exact h f q
 ·exact k f q
theorem ir.take{l:List Fr}(h:ir l)(n:Nat):ir<|l.take n:=fun f hf=>h f<|List.mem_of_mem_take hf
section
variable {a:dF} {bh:List Fr} {c:Nat} {f:Fr} {r:List Fr} {m:Nat}
theorem Good.ep(h:Good a)(hj:mC a bh c):cY (mn a) a.fs.length c (a.fs++bh) a.b:=⟨dv.aw K0 a.aA,h.ok.2.1,ir.app h.nY hj.2.2,by rw[List.length_append];omega,hj.1,hj.2.1,h.ok.2.2.2.2⟩
theorem HJ:∀{k n:Nat} {fs:List Fr} {b:bf} {n':Nat} {cW:List Fr} {b':bf},oj k n fs b=some (n',cW,b')->n<=fs.length->ir fs->de b->ir cW/\de b'
 |0,_,_,_,_,_,_,h,_,_,_=>by cases h
 |k+1,n,fs,b,n',cW,b',h,hn,hf,hb=>by
  unfold oj at h;by_cases n0:n=0
  ·rw[if_pos n0] at h;injection h with h;injection h with e1 h;injection h with e2 e3
   subst e2;subst e3;exact⟨hf,hb⟩
  ·rw[if_neg n0] at h;simp only at h;have ax:=hf.at<|(n:Int) - 1;have hk:=hf.kept (z:=(n:Int) - 1) ab ab;by_cases c1:(av fs<|(n:Int) - 1).ak<(((av fs<|(n:Int) - 1).block.length:Nat):Int)
   ·rw[if_pos c1] at h;injection h with h;injection h with e1 h;injection h with e2 e3
    subst e2;subst e3;exact⟨hf,hb⟩
   ·rw[if_neg c1] at h;by_cases c2:0<(av fs<|(n:Int) - 1).turns
    ·rw[if_pos c2] at h;have hs:ir<|fs.set ((n:Int) - 1).toNat {av fs ((n:Int) - 1) with ak:=0,turns:=(av fs<|(n:Int) - 1).turns - 1}:=hf.set ⟨⟨by show 0<=_ - 1;omega,by show _ - 1<=1000000;omega⟩,hk⟩;by_cases c3:0<(((av fs<|(n:Int) - 1).block.length:Nat):Int)
     ·rw[if_pos c3] at h;injection h with h;injection h with e1 h;injection h with e2 e3
      subst e2;subst e3;exact⟨hs,hb⟩
     ·rw[if_neg c3] at h;exact HJ h (by rw[List.length_set];exact hn) hs hb
    ·rw[if_neg c2] at h;by_cases c4:(av fs<|(n:Int) - 1).bV=true
     ·rw[if_pos c4] at h;by_cases c5:2<=b.length
      ·rw[if_pos c5] at h;exact HJ h ab hf<|Il hb c5
      ·rw[if_neg c5] at h;cases h
     ·rw[if_neg c4] at h;exact HJ h ab hf hb
structure jU (A:MN) (n c:Nat) (fs:List Fr) (b:bf) (aV:List Fr) (b':bf) (n':Nat) (cW:List Fr):Prop where
 ep:cY A n' c cW b'
 run:dH eG (cX A n c fs b) []=some (.tuple [],cX A n' c cW b')
 eq:(cW.take n').reverse=aV
 len:cW.length=fs.length
 le:n'<=n
theorem qY{n c:Nat}(m:cY A n c fs b)(e:(fs.take n).reverse=st)(h:ig k st b=some (aV,b')):∃n' cW,jU A n c fs b aV b' n' cW:=by
 obtain⟨n',cW,a1,a2,a3,a4⟩:=HZ k n fs b st aV b' h m.mR e;obtain⟨q1,q2⟩:=HJ a1 m.mR m.nY m.buf;have fu:n'<=cW.length:=by rw[a3];have:=m.mR;omega
 exact⟨n',cW,⟨m.aA,q2,q1,fu,by have:=m.pV;omega,by rw[a3];exact m.len,m.vars⟩,abc m a1,a4,a3,a2⟩
theorem jU.again{n c:Nat}{n':Nat}{cW:List Fr}(h:ig k st b=some (aV,b'))(d:jU A n c fs b aV b' n' cW):∃n2 bj,jU A n' c cW b' aV b' n2 bj:=qY d.ep d.eq<|Zc h
theorem te{fr:AF}{n c:Nat}{y:AV}{a':dF}(hA:A=mn a')(hb:b=a'.b)(ok:xj a')(m:cY A n c fs b)(e:(fs.take n).reverse=a'.fs.reverse)(H:au pg B 271 (gX 270 3 pg rs y<|cX A n c fs b) fr s):au pg B 271 (iS XT pg rs 4 y<|eh a') fr s:=by
 subst hA;subst hb;have e:fs.take n=a'.fs:=List.reverse_inj.1 e;have hl:a'.fs.length=n:=by rw[←e,List.length_take];have:=m.mR;omega
 have e2:fs=a'.fs++fs.drop n:=by rw[←e,List.take_append_drop]
 refine Kn (Nat.le_refl _) (W5 fun y1 s' q=>⟨q.1,gz a' (fs.drop n) c,XT.tL a' ok _ c ⟨by rw[hl];exact m.pV,by rw[←e2];exact m.len,fun f hf=>m.nY f<|List.mem_of_mem_drop hf⟩,?_⟩) H;have hx:=q.2;rw[←T1,hl, ←e2];exact hx
structure nF (a:dF) (bh:List Fr) (f:Fr) (r:List Fr) (m:Nat):Prop where
 n:a.fs.length=m+1
 get:(a.fs++bh)[m]? =some f
 rest:((a.fs++bh).take m).reverse=r
 all:((a.fs++bh).take<|m+1).reverse=f::r
 mem:f∈a.fs
theorem OG(h:a.fs.reverse=f::r):∃m,nF a bh f r m:=by
 have e:(a.fs++bh).take a.fs.length=a.fs:=List.take_left;have e2:((a.fs++bh).take a.fs.length).reverse=f::r:=by rw[e];exact h
 obtain⟨m,h1,h2,h3,h4⟩:=Nj (by rw[List.length_append];omega) e2;refine⟨m,h1,h3,h4,by rw[←h1];exact e2,?_⟩;have:f∈a.fs.reverse:=by rw[h];exact List.mem_cons_self
 exact List.mem_reverse.1 this
theorem sI(t:nF a bh f r m)(h0:0<=f.ak){s:St}(hs:f.block[f.ak.toNat]? =some s):mH (a.fs++bh) a.fs.length<|some s:=by
 have e:zy (a.fs++bh) a.fs.length=f:=by unfold zy;rw[t.n];exact T0 t.get
 exact .inr ⟨by rw[t.n];omega,by rw[e];exact h0,s,by rw[e];exact hs,rfl⟩
theorem IX(t:nF a bh f r m):av ((a.fs++bh).take a.fs.length) (((0+a.fs.length:Nat):Int) - 1)=f/\gL (a.fs++bh) a.fs.length=((a.fs++bh).take a.fs.length).set m {f with ak:=f.ak+1}:=by
 have e0:((((0+a.fs.length):Nat):Int) - 1)=(m:Int):=by rw[t.n];omega
 have hg:((a.fs++bh).take a.fs.length)[m]? =some f:=by rw[List.getElem?_take_of_lt qB];exact t.get
 have e:av ((a.fs++bh).take a.fs.length) (((0+a.fs.length:Nat):Int) - 1)=f:=by rw[e0];exact Nk hg
 refine⟨e,?_⟩;unfold gL;rw[e,e0];rfl
theorem sK(t:nF a bh f r m):(gL (a.fs++bh) a.fs.length).length=a.fs.length/\((gL (a.fs++bh) a.fs.length).take<|0+a.fs.length).reverse={f with ak:=f.ak+1}::r/\gL (a.fs++bh) a.fs.length=(gL (a.fs++bh) a.fs.length).take (0+a.fs.length):=by
 have e:(a.fs++bh).take a.fs.length=a.fs:=List.take_left;have el:(gL (a.fs++bh) a.fs.length).length=a.fs.length:=by rw[(IX t).2,e,List.length_set]
 refine⟨el,?_,by rw[List.take_of_length_le (by rw[el];omega)]⟩;rw[(IX t).2,e,Nat.zero_add,t.n,take_set _ qB];have:=t.rest;rw[List.take_append_of_le_length qB] at this;rw[this]
theorem Good.mp(h:Good a)(hj:mC a bh c)(t:nF a bh f r m):cY {mn a with steps:=a.steps+1} (0+a.fs.length) (0+a.fs.length) (gL (a.fs++bh) a.fs.length) a.b:=by obtain⟨p1,p2,p3⟩:=sK t;refine⟨(h.ep hj).aA,h.ok.2.1,?_,by rw[p1];omega,Nat.le_refl _,by rw[p1];have:=h.fP;omega,(h.ep hj).vars⟩;rw[(IX t).2];exact(ir.take (h.ep hj).nY _).set<|h.nY f t.mem
theorem Good.ax(h:Good a)(t:nF a bh f r m):0<=(av ((a.fs++bh).take a.fs.length)<|((0+a.fs.length:Nat):Int) - 1).ak/\(av ((a.fs++bh).take a.fs.length)<|((0+a.fs.length:Nat):Int) - 1).ak<=1000000:=by rw[(IX t).1];exact h.ak f t.mem
theorem tf(h:Good a)(t:nF a bh f r m)(cz:a.fs.reverse=f::r)(s:St)(hs:f.block[f.ak.toNat]? =some s):nQ (mn a) (iG (a.fs++bh) a.fs.length) a.b (some s)=dX a:=by
 obtain⟨kind,to,ea,eb,bd,el⟩:=s;have hw:=Nl a.fs.length (a.fs++bh) (f::r) (by rw[List.length_append];omega) (by rw[t.n];exact t.all);unfold dX;rw[ET,cz];simp only[hs,l9 h.ok.1];have ev:(mn a).vars=a.vars:=rfl;rw[ev];by_cases c8:kind=8
 ·rw[if_pos c8,if_pos c8]
 ·rw[if_neg c8,if_neg c8];cases hb:below (f::r) with
  |none=>
   have e:=hw.1 hb;rw[e];by_cases c6:kind=6
   ·rw[if_pos ⟨c6,by omega⟩,if_pos ⟨c6,rfl⟩]
   ·simp only[c6,false_and,if_false]
  |some p=>obtain⟨i,e,_⟩:=hw.2 p.1 p.2 hb;rw[e,if_neg (show ¬(kind=6/\(i:Int)<0) from fun q=>by have:=q.2;omega),if_neg (show ¬(kind=6/\some p=none) from fun q=>by cases q.2)]
end
end nT
end
