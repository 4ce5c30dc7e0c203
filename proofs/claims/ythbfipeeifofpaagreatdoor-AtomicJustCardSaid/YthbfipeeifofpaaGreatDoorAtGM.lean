import Derived.Test.YthbfipeeifofpaaGreatDoorAtGL
set_option maxRecDepth 100000
set_option maxHeartbeats 8000000
set_option linter.unusedSimpArgs false
set_option linter.unusedVariables false
section
open Go Go.Rn Go.RowKit Go.Proofs
namespace kO
open ch eO cG dj cQ di fW fD gH gP gV gj hJ iA iB iR jc jV ki gi
variable {wi v to aF nn n2 kind gx:Int} {u Y:AV} {fs:List Fr} {c N4 N3 N2 N L4 L3 L2 L:Nat} {a:MN} {B:aJ}
noncomputable abbrev fh(a:MN)(n c:Nat)(u:AV)(fs:List Fr):VS:=(⟨⟨a.pre,n,(.aq c 13),[.int .i64 a.steps]⟩,u,(fs.map aI).flatten⟩:VS)
noncomputable abbrev Jh:List AV:=[(u8<|.ofNat 0),i0,(u8<|.ofNat 0),i0,(.slice none 0<|.known 0),(u8<|.ofNat 0),i0,(.slice none 0<|.known 0),(.slice none 0<|.known 0),(.slice none 0<|.known 0)]
noncomputable abbrev IZ(n c:Nat):AV:=.slice (some (272,0)) (n)<|.aq c 13
theorem agZ{n:Nat}{N L N2 L2 N3 L3 N4 L4:Nat}{kind to op nn aF n2:Int}{z v wi gx:Int}(mc:Mt [lY,iJ,jC,kK,lV] B)(hO:bD 10 (fh a n c u fs)=true)(hs:vR iO (fh a n c u fs) []=some (.tuple [(.agg Jh),(.bool false)]))(E0:(.agg [.int .u8 3,.int .i64 0,.int .i64 0]:AV)=Y):au pg B 273 (gW 270 3 pg (az Tryz.f14) Y<|fh a n c u fs) (sF 14 Tryz.f14 [.ptr<|some (270,0)])<|ah (ar++aW (dB 270 3<|fh a n c u fs)) 273:=by exact lW (E:=qM [lY,iJ,jC,kK,lV]) eQ rfl bH mc.2.2.1 mc.2.2.2 900 (.st 8<|.rg<|.go 1<|.cg (.tuple [(.agg Jh),(.bool false)]) (vG 272) (vQ 272<|fh a n c u fs)<|.go 6<|.en<|.rt 8 .no)<|jI [lY,iJ,jC,kK,lV] 28 272 (vR iO) [] (fh a n c u fs) (.tuple [(.agg Jh),(.bool false)]) hO hs rfl bU<|mG (st:=(fh a n c u fs)) (s:=ah (ar++[(270,some<|.cells 13 (Tr.fill (a.row (.ptr<|some (271,0)) (IZ n c)<|i6 a.steps) 0 .nil) []),(271,(some<|.tok 3 u)),(272,(some<|aA aI fs)),(273,some<|.cells 3 (Tr.fill [(u8<|.ofNat 3),i0,i0] 0 .nil) []),(274,some<|.cells 10 (Tr.fill Jh 0 .nil) [])]) 275) (show(.agg [(u8<|.ofNat 3),i0,i0])=Y from E0) bU bU bU
noncomputable abbrev aeL(a:MN)(n c:Nat)(u:AV)(fs:List Fr)(kind to op nn:Int)(N L:Nat)(aF n2:Int)(N2 L2 N3 L3 N4 L4:Nat):List<|Nat×Option ae:=ar++[(270,some<|.cells 13 (Tr.fill (a.row (.ptr<|some (271,0)) (.slice (some (272,0)) (n)<|.aq c 13)<|i6 a.steps) 0 .nil) []),(271,(some<|.tok 3 u)),(272,(some<|aA aI fs)),(273,some<|.cells 3 (Tr.fill [(u8<|.ofNat 1),i0,i0] 0 .nil) []),(274,some<|.cells 10 (Tr.fill [(u8<|kind),(i6 to),(u8<|op),(i6 nn),(.U N 0 L),(u8<|aF),(i6 n2),(.U N2 0 L2),(.U N3 0 L3),(.U N4 0 L4)] 0 .nil) [])]
noncomputable abbrev sO(kind to op nn:Int)(N L:Nat)(aF n2:Int)(N2 L2 N3 L3 N4 L4:Nat):List AV:=[(u8<|kind),(i6 to),(u8<|op),(i6 nn),(.U N 0 L),(u8<|aF),(i6 n2),(.U N2 0 L2),(.U N3 0 L3),(.U N4 0 L4)]
noncomputable abbrev xc(op nn:Int)(N L:Nat):List AV:=[(.agg [(u8<|op),(i6 nn),(.U N 0 L)])]
theorem ag0{n:Nat}{op:Int}{z:Int}(mc:Mt [lY,iJ,jC,kK,lV] B)(hO:bD 10 (fh a n c u fs)=true)(hs:vR iO (fh a n c u fs) []=some (.tuple [(.agg<|sO kind to op nn N L aF n2 N2 L2 N3 L3 N4 L4),(.bool true)]))(hY:((.tuple [(.agg<|sO kind to op nn N L aF n2 N2 L2 N3 L3 N4 L4),(.bool true)]):AV).hi=true)(hA:((xc op nn N L):List AV).all AV.hi=true)(hz:vR jh (fh a n c u fs) (xc op nn N L)=some (.int .i64 z))(hv:vR nF (fh a n c u fs) (xc op nn N L)=some (.int .i64 v))(hw:vR qV (fh a n c u fs) []=some (.int .i64 wi))(hg:iI (gU bI Bd) u [.int .i64 v]=some (.tuple [.int .i64 gx,.bool true],u))(E8:kind=8->(.agg [.int .u8 3,.int .i64 0,.int .i64 z]:AV)=Y)(E6:kind=6->wi<0->(.agg [.int .u8 4,.int .i64 0,.int .i64 0]:AV)=Y)(EI:kind≠8->(kind=6->0<=wi)->(kind=kind)->(.agg [.int .u8 1,.int .i64 0,.int .i64 0]:AV)=Y):au pg B 273 (gW 270 3 pg (az Tryz.f14) Y<|fh a n c u fs) (sF 14 Tryz.f14 [.ptr<|some (270,0)])<|ah (ar++aW (dB 270 3<|fh a n c u fs)) 273:=by exact lW (E:=qM [lY,iJ,jC,kK,lV]) eQ rfl bH mc.2.2.1 mc.2.2.2 900 (.st 8<|.rg<|.go 1<|.cg (.tuple [(.agg<|sO kind to op nn N L aF n2 N2 L2 N3 L3 N4 L4),(.bool true)]) (vG 272) (vQ 272<|fh a n c u fs)<|.go 6<|.en<|.st 6<|.rg<|.go 2<|.fk (.go 1<|.en<|.st 2<|.rg<|.go 3<|.cg (i6 z) (vG 272) (vQ 272<|fh a n c u fs)<|.go 2<|.en<|.rt 1 .no)<|.go 1<|.en<|.st 2<|.rg<|.go 2<|.fk (.go 2<|.cg (i6 wi) (vG 272) (vQ 272<|fh a n c u fs)<|.fk (.go 2<|.en<|.rt 4 .no)<|.go 2<|.en<|.st 2<|.rg<|.go 2<|.fk (.go 1<|.en<|.st 2<|.rg<|.go 3<|.cg (i6 v) (vG 272) (vQ 272<|fh a n c u fs)<|.go 1<|.en<|.st 1<|.rg<|.go 5<|.kt (.tuple [(i6 gx),(.bool true)]) u<|.go 5<|.en<|.rt 8 .no)<|.go 1<|.en<|.rt 6 .no)<|.go 6<|.en<|.st 2<|.rg<|.go 2<|.fk (.go 1<|.en<|.st 2<|.rg<|.go 3<|.cg (i6 v) (vG 272) (vQ 272<|fh a n c u fs)<|.go 1<|.en<|.st 1<|.rg<|.go 5<|.kt (.tuple [(i6 gx),(.bool true)]) u<|.go 5<|.en<|.rt 8 .no)<|.go 1<|.en<|.rt 6 .no)<|jI [lY,iJ,jC,kK,lV] 28 272 (vR iO) [] (fh a n c u fs) (.tuple [(.agg<|sO kind to op nn N L aF n2 N2 L2 N3 L3 N4 L4),(.bool true)]) hO hs rfl hY<|aR (kind=8) Wv fun _=>(aR (kind=6) (fun _=>(jI [lY,iJ,jC,kK,lV] 30 272 (vR qV) [] (fh a n c u fs) (i6 wi) hO hw rfl bU<|aR (wi<0) Wy WA)) WA)
theorem ag1{n:Nat}{op:Int}{z:Int}(mc:Mt [lY,iJ,jC,kK,lV] B)(hO:bD 10 (fh a n c u fs)=true)(hs:vR iO (fh a n c u fs) []=some (.tuple [(.agg<|sO kind to op nn N L aF n2 N2 L2 N3 L3 N4 L4),(.bool true)]))(hY:((.tuple [(.agg<|sO kind to op nn N L aF n2 N2 L2 N3 L3 N4 L4),(.bool true)]):AV).hi=true)(hA:((xc op nn N L):List AV).all AV.hi=true)(hz:vR jh (fh a n c u fs) (xc op nn N L)=some (.int .i64 z))(hv:vR nF (fh a n c u fs) (xc op nn N L)=some (.int .i64 v))(hw:vR qV (fh a n c u fs) []=some (.int .i64 wi))(hg:iI (gU bI Bd) u [.int .i64 v]=some (.tuple [.int .i64 gx,.bool false],u))(E8:kind=8->(.agg [.int .u8 3,.int .i64 0,.int .i64 z]:AV)=Y)(E6:kind=6->wi<0->(.agg [.int .u8 4,.int .i64 0,.int .i64 0]:AV)=Y)(E2:kind=2->(.agg [.int .u8 2,.int .i64 v,.int .i64 0]:AV)=Y)(EI:kind≠8->(kind=6->0<=wi)->(kind≠2)->(.agg [.int .u8 1,.int .i64 0,.int .i64 0]:AV)=Y):au pg B 273 (gW 270 3 pg (az Tryz.f14) Y<|fh a n c u fs) (sF 14 Tryz.f14 [.ptr<|some (270,0)])<|ah (ar++aW (dB 270 3<|fh a n c u fs)) 273:=by exact lW (E:=qM [lY,iJ,jC,kK,lV]) eQ rfl bH mc.2.2.1 mc.2.2.2 900 (.st 8<|.rg<|.go 1<|.cg (.tuple [(.agg<|sO kind to op nn N L aF n2 N2 L2 N3 L3 N4 L4),(.bool true)]) (vG 272) (vQ 272<|fh a n c u fs)<|.go 6<|.en<|.st 6<|.rg<|.go 2<|.fk (.go 1<|.en<|.st 2<|.rg<|.go 3<|.cg (i6 z) (vG 272) (vQ 272<|fh a n c u fs)<|.go 2<|.en<|.rt 1 .no)<|.go 1<|.en<|.st 2<|.rg<|.go 2<|.fk (.go 2<|.cg (i6 wi) (vG 272) (vQ 272<|fh a n c u fs)<|.fk (.go 2<|.en<|.rt 4 .no)<|.go 2<|.en<|.st 2<|.rg<|.go 2<|.fk (.go 1<|.en<|.st 2<|.rg<|.go 3<|.cg (i6 v) (vG 272) (vQ 272<|fh a n c u fs)<|.go 1<|.en<|.st 1<|.rg<|.go 5<|.kt (.tuple [(i6 gx),(.bool false)]) u<|.go 5<|.en<|.rt 6 .no)<|.go 1<|.en<|.rt 6 .no)<|.go 6<|.en<|.st 2<|.rg<|.go 2<|.fk (.go 1<|.en<|.st 2<|.rg<|.go 3<|.cg (i6 v) (vG 272) (vQ 272<|fh a n c u fs)<|.go 1<|.en<|.st 1<|.rg<|.go 5<|.kt (.tuple [(i6 gx),(.bool false)]) u<|.go 5<|.en<|.rt 6 .no)<|.go 1<|.en<|.rt 6 .no)<|jI [lY,iJ,jC,kK,lV] 28 272 (vR iO) [] (fh a n c u fs) (.tuple [(.agg<|sO kind to op nn N L aF n2 N2 L2 N3 L3 N4 L4),(.bool true)]) hO hs rfl hY<|aR (kind=8) Wv fun _=>(aR (kind=6) (fun _=>(jI [lY,iJ,jC,kK,lV] 30 272 (vR qV) [] (fh a n c u fs) (i6 wi) hO hw rfl bU<|aR (wi<0) Wy fun _=>(aR (kind=2) Wu fun _=>KO))) fun _=>(aR (kind=2) Wu fun _=>KO))
end kO
end
section
open Go Go.Rn Go.RowKit Go.Proofs
namespace jW
open ch eO cG dj cQ di fW fD gH gP gV gj hJ iA iB iR jc jV ki kO gi
variable {to kind i:Int} {el bd:List St} {eb ea:Ex} {o:Option St} {n':Nat} {cW:List Fr} {b':bg}
noncomputable section
abbrev cX(a:MN)(n c:Nat)(fs:List Fr)(b:bg):VS:=⟨⟨a.pre,n,.aq c 13,[.int .i64 a.steps]⟩,bI b,(fs.map aI).flatten⟩
structure cY (a:MN) (n c:Nat) (fs:List Fr) (b:bg):Prop where
 aD:dm encI 1 (.U a.G a.q a.lg) a.aD
 buf:de b
 nT:im fs
 mL:n<=fs.length
 pR:n<=c
 len:fs.length<=1000000
 vars:1<=a.vars/\a.vars<=32
section
variable {a:MN} {n c:Nat} {fs:List Fr} {b:bg}
theorem cY.wj(h:cY a n c fs b):sb (cX a n c fs b) a:=⟨rfl,rfl,h.aD⟩
theorem Vq(fs:List Fr):(fs.map aI).flatten.length=fs.length*13:=by
 have:=uy (K:=13) (l:=fs.map aI) fun c hc=>by obtain⟨a,_,rfl⟩:=List.mem_map.1 hc;exact fA a
 rw[this,List.length_map]
theorem UH(fs:List Fr):(fs.map aI).flatten.all AV.cM=true:=by rw[List.all_eq_true];intro c hc;obtain⟨y,hy,hc⟩:=List.mem_flatten.1 hc;obtain⟨g,_,rfl⟩:=List.mem_map.1 hy;exact TA g c hc
theorem cY.bD(h:cY a n c fs b):bD 10 (cX a n c fs b)=true:=by
 have ht:top=549755813888:=rfl;have e1:sa (cX a n c fs b).R=true:=by have g:=h.aD.cM;unfold sa;show((a.pre).all AV.cM&&([AV.int .i64 a.steps]).all AV.cM)=true;unfold MN.pre;simp only[List.all_cons,List.all_nil,g];rfl
 refine and_true.2 ⟨e1,and_true.2 ⟨UH fs,and_true.2 ⟨aM.2 (by show 13<=top;omega),aM.2 ?_⟩⟩⟩;show(fs.map aI).flatten.length<=top;rw[Vq];have:=h.len;omega
theorem adL{a':MN}{c':Nat}(h:cY a n c fs b)(h':cY a' n' c' cW b')(e:cX a n c fs b=cX a' n' c' cW b'):a=a'/\n=n'/\c=c'/\fs=cW/\b=b':=by
 have e1:=h.wj;rw[e] at e1;have ea:=e1.inj h'.wj;injection e with e2 e3 e4
 injection e2 with e5 e6 e7 e8
 injection e7 with e7
 exact⟨ea,e6,e7,EZ _ _ h.nT h'.nT e4,sq _ _ e3⟩
def dC(a:MN)(e:Ex):Int:=(zc e a.l a.aD).1
def iK(x m:Int):Int:=if m<1 then 0 else if Int.tmod x m<0 then Int.tmod x m+m else Int.tmod x m
theorem afn(x m:Int):tH x m= .tuple [.int .i64<|iK x m,.int .i64 (if m<1 then 1 else 0)]:=by
 unfold tH iK
 repeat' split
 all_goals first|rfl|omega
theorem UI{x m:Int}(h:1<=m):0<=iK x m/\iK x m<m:=by
 unfold iK;rw[if_neg ab];have h1:=Int.tmod_lt_of_pos x (show 0<m by omega);have h2: - m<Int.tmod x m:=by have:=Int.lt_tmod_of_pos x (show 0<m by omega);omega
 split<;>omega
theorem sS(h:cY a n c fs b)(e:Ex):vR jh (cX a n c fs b) [.agg<|aC e]=some (i6<|dC a e):=Dp jh.bM ⟨a,e,h.wj,rfl,rfl⟩
theorem Om(h:cY a n c fs b)(e:Ex):vR nF (cX a n c fs b) [.agg<|aC e]=some (i6<|iK (dC a e) a.vars):=Dp nF.bM ⟨a,e,_,_,h.wj,rfl,by have:=h.vars;omega,afn _ _,rfl⟩
theorem S7(h:cY a n c fs b)(h6:n<=6):vR qV (cX a n c fs b) []=some (i6<|iE fs n):=Dp qV.bM ⟨a,n,c,fs,h.wj,rfl,rfl,rfl,rfl,h.nT,h6,h.mL,h.len,rfl⟩
theorem wR(h:cY a n c fs b)(hs:mB fs n o):vR iO (cX a n c fs b) []=some (qj o):=Dp iO.bM ⟨a,n,c,fs,o,h.wj,rfl,rfl,rfl,rfl,h.nT,h.mL,h.len,hs,rfl⟩
theorem UJ{b:bg}(b6:b.length<=6)(v:Int):iI (gU bI Bd) (bI b) [.int .i64 v]=some (.tuple [.int .i64 (ku b v).1,.bool (ku b v).2],bI b):=by
 unfold iI;rw[AB sq];show(match ([.int .i64 v]:List AV).all AV.hi with
  |true=>((if b.length<=6 then some (AV.tuple [.int .i64 (ku b v).1,.bool (ku b v).2],b) else none).map (fun p:AV×bg=>((p.1,bI p.2):AV×AV))).bind fun p:AV×AV=>match p.1.hi with
   |true=>some p
   |false=>none
  |false=>none)=_
 rw[if_pos b6];rfl
theorem adM{b:bg}(b6:b.length<=6)(v x:Int):iI (gU bI FT) (bI b) [.int .i64 v,.int .i64 x]=some ((.int .i64 0:AV),bI<|kH b v x):=by
 unfold iI;rw[AB sq];show(match ([.int .i64 v,.int .i64 x]:List AV).all AV.hi with
  |true=>((if b.length<=6 then some ((AV.int .i64 0:AV),kH b v x) else none).map (fun p:AV×bg=>((p.1,bI p.2):AV×AV))).bind fun p:AV×AV=>match p.1.hi with
   |true=>some p
   |false=>none
  |false=>none)=_
 rw[if_pos b6];rfl
theorem aa2(h:cY a n c fs b){k:Nat}(hs:oe k n fs b=some (n',cW,b')):dH eG (cX a n c fs b) []=some (.tuple [],cX a n' c cW b'):=Jf eG.bM ⟨a,n,c,k,n',fs,cW,b,b',h.wj,rfl,rfl,rfl,rfl,rfl,h.buf,h.nT,h.mL,h.pR,h.len,hs,rfl⟩
end
def MN.ig(a:MN)(i z:Int):MN:=match i.toNat with
 |0=>{a with x0:=z}
 |1=>{a with x1:=z}
 |2=>{a with x2:=z}
 |3=>{a with x3:=z}
 |4=>{a with x4:=z}
 |5=>{a with x5:=z}
 |6=>{a with x6:=z}
 |7=>{a with x7:=z}
 |_=>a
section
variable {a:MN} {n c:Nat} {fs:List Fr} {b:bg}
theorem UK(h0:0<=i)(h8:i<8):i=0\/i=1\/i=2\/i=3\/i=4\/i=5\/i=6\/i=7:=by omega
theorem On{i z:Int}(h0:0<=i)(h8:i<8):vt (cX a n c fs b) i z=cX (MN.ig a i z) n c fs b:=by rcases UK h0 h8 with rfl|rfl|rfl|rfl|rfl|rfl|rfl|rfl<;>rfl
theorem aa3{z:Int}:(MN.ig a i z).vars=a.vars/\(MN.ig a i z).G=a.G/\(MN.ig a i z).q=a.q/\(MN.ig a i z).lg=a.lg/\(MN.ig a i z).aD=a.aD/\(MN.ig a i z).steps=a.steps:=by unfold MN.ig;split<;>exact⟨rfl,rfl,rfl,rfl,rfl,rfl⟩
theorem cY.ig{z:Int}(h:cY a n c fs b):cY (MN.ig a i z) n c fs b:=by
 obtain⟨e1,e2,e3,e4,e5,_⟩:=aa3 (a:=a) (i:=i) (z:=z);refine⟨?_,h.buf,h.nT,h.mL,h.pR,h.len,?_⟩
 ·rw[e2,e3,e4,e5];exact h.aD
 ·rw[e1];exact h.vars
theorem afo(h:cY a n c fs b)(h0:0<=to)(h8:to<8):dH zu (cX a n c fs b) [.agg<|aL<|.mk kind to ea eb bd el]=some (.tuple [],cX (MN.ig a to<|dC a ea) n c fs b):=Jf zu.bM ⟨a,kind,to,ea,eb,bd,el,dC a ea,h.bD,h.wj,rfl,h0,h8,sS h ea,by rw[On h0 h8]⟩
theorem adN(h:cY a n c fs b)(b6:b.length<=6)(h0:0<=to)(h8:to<8):dH zg (cX a n c fs b) [.agg<|aL<|.mk kind to ea eb bd el]=some (.tuple [],cX (MN.ig a to (ku b<|iK (dC a ea) a.vars).1) n c fs b):=Jf zg.bM ⟨a,kind,to,ea,eb,bd,el,iK (dC a ea) a.vars,(ku b<|iK (dC a ea) a.vars).1,(ku b<|iK (dC a ea) a.vars).2,h.bD,h.wj,rfl,h0,h8,Om h ea,UJ b6 _,by rw[On h0 h8]⟩
theorem acb(h:cY a n c fs b)(b6:b.length<=6):dH yR (cX a n c fs b) [.agg<|aL<|.mk kind to ea eb bd el]=some (.tuple [],cX a n c fs<|kH b (iK (dC a ea) a.vars)<|dC a eb):=Jf yR.bM ⟨a,kind,to,ea,eb,bd,el,iK (dC a ea) a.vars,dC a eb,bI<|kH b (iK (dC a ea) a.vars)<|dC a eb,h.bD,h.wj,rfl,Om h ea,sS h eb,adM b6 _ _,rfl⟩
def nK(a:MN)(w:Int)(b:bg):Option St->Int×Int×Int
 |none=>(3,0,0)
 |some (.mk kind _ ea _ _ _)=>if kind=8 then(3,0,dC a ea) else if kind=6/\w<0 then(4,0,0) else if kind=2/\(ku b<|iK (dC a ea) a.vars).2=false then(2,iK (dC a ea) a.vars,0) else(1,0,0)
def BA(q:Int×Int×Int):AV:=.agg [.int .u8 q.1,.int .i64 q.2.1,.int .i64 q.2.2]
theorem EM{w:Int}:nK a w b (some<|.mk kind to ea eb bd el)=if kind=8 then(3,0,dC a ea) else if kind=6/\w<0 then(4,0,0) else if kind=2/\(ku b<|iK (dC a ea) a.vars).2=false then(2,iK (dC a ea) a.vars,0) else(1,0,0):=rfl
theorem UL{B:aJ}(mc:Mt [lY,iJ,jC,kK,lV] B)(h:cY a n c fs b)(h6:n<=6)(b6:b.length<=6)(hs:mB fs n o):
 au pg B 273 (gW 270 3 pg (az Tryz.f14) (BA<|nK a (iE fs n) b o)<|cX a n c fs b) (sF 14 Tryz.f14 [.ptr<|some (270,0)]) (ah (ar++aW (dB 270 3<|cX a n c fs b)) 273):=by
 have hn:=wR h hs;cases o with
 |none=>exact agZ (N:=0) (L:=0) (N2:=0) (L2:=0) (N3:=0) (L3:=0) (N4:=0) (L4:=0) (kind:=0) (to:=0) (op:=0) (nn:=0) (aF:=0) (n2:=0) (z:=0) (v:=0) (wi:=0) (gx:=0) mc h.bD hn rfl
 |some s=>
  obtain⟨kind,to,ea,eb,bd,el⟩:=s;have hz:=sS h ea;have hv:=Om h ea;have hw:=S7 h h6;have hg:=UJ b6<|iK (dC a ea) a.vars;have hA:=p8 ea;have hY:(qj (some<|.mk kind to ea eb bd el):AV).hi=true:=by show([AV.agg<|aL<|.mk kind to ea eb bd el,.bool true].all AV.jG)=true;have e:(AV.agg<|aL<|.mk kind to ea eb bd el).jG=true:=xy _;rw[List.all_cons,e];rfl
  have k8:kind=8->nK a (iE fs n) b (some<|.mk kind to ea eb bd el)=(3,0,dC a ea):=fun q=>if_pos q;have k6:kind=6->iE fs n<0->nK a (iE fs n) b (some<|.mk kind to ea eb bd el)=(4,0,0):=fun q r=>by rw[EM,if_neg ab,if_pos ⟨q,r⟩]
  obtain⟨op,nn,la⟩:=ea;obtain⟨aF,n2,lb⟩:=eb;unfold qj at hn hY;rw[aC] at hz hv hA;simp only[aL,aC] at hn hY;cases hb:(ku b<|iK (dC a<|.mk op nn la) a.vars).2 with
  |true=>
   rw[hb] at hg;refine ag0 mc h.bD hn hY hA hz hv hw hg (fun q=>?_) (fun q r=>?_) fun q r _=>?_
   ·rw[k8 q];rfl
   ·rw[k6 q r];rfl
   ·rw[EM,if_neg q,if_neg (fun z=>by have:=r z.1;omega),if_neg (fun z=>by rw[hb] at z;cases z.2)];rfl
  |false=>
   rw[hb] at hg;refine ag1 mc h.bD hn hY hA hz hv hw hg (fun q=>?_) (fun q r=>?_) (fun q=>?_) fun q r z=>?_
   ·rw[k8 q];rfl
   ·rw[k6 q r];rfl
   ·rw[EM,if_neg ab,if_neg (fun z=>by omega),if_pos ⟨q,hb⟩];rfl
   ·rw[EM,if_neg q,if_neg (fun z=>by have:=r z.1;omega),if_neg fun y=>z y.1];rfl
def kP(st:VS)(rest:List AV)(v:AV):Prop:=∃(a:MN) (n c:Nat) (fs:List Fr) (b:bg) (o:Option St),st=cX a n c fs b/\cY a n c fs b/\rest=[]/\n<=6/\b.length<=6/\mB fs n o/\v=BA (nK a (iE fs n) b o)
theorem kP.bM(st:VS)(rest:List AV)(v v':AV)(h:kP st rest v)(h':kP st rest v'):v=v':=by obtain⟨a,n,c,fs,b,o,rfl,m1,_,_,_,s1,rfl⟩:=h;obtain⟨a',n',c',cW,b',o',e,m2,_,_,_,s2,rfl⟩:=h';obtain⟨rfl,rfl,rfl,rfl,rfl⟩:=adL m1 m2 e;rw[s1.bM s2]
def PU:FuncId×KE:=(14,.raw<|mV 10 3<|vR kP)
theorem adO(hP:bR pg){L:bO}(h:aY L):aY<|PU::L:=by refine EL hP gS xT jQ ji me lQ h (M6 hP<|CN hP<|Fg hP<|H9 hP<|LX hP dc) Tryz.func14 (body:=aS pg 14 []) aV aV fun st rest y e _=>?_;obtain⟨a,n,c,fs,b,o,rfl,m1,rfl,h6,b6,s1,rfl⟩:=Fx e;exact⟨aM.1 aV,fun B mc=>UL mc m1 h6 b6 s1⟩
theorem yS(h:cY a n c fs b)(h6:n<=6)(b6:b.length<=6)(hs:mB fs n o):vR kP (cX a n c fs b) []=some (BA<|nK a (iE fs n) b o):=Dp kP.bM ⟨a,n,c,fs,b,o,rfl,h,rfl,h6,b6,hs,rfl⟩
end
end
end jW
end
section
open Go Go.Rn Go.RowKit Go.Proofs
namespace mY
open ch eO cG dj cQ di fW fD gH gP gV gj hJ iA iB iR jc gi
theorem aoE{fs:List Fr}{n:Nat}{f:Fr}{cs:List AV}{X:Prop}(hc:aI f=cs)(hn:n<=fs.length)(hl:fs.length<=1000000)(x:X):
 ((.known n:bW)= .known n/\1<=1/\some (aA aI fs)=some (.cells (fs.map aI).flatten.length (Tr.fill (fs.map aI).flatten 0 .nil) [])/\some (ae.cells cs.length (Tr.fill cs 0 .nil) [])=some (.cells cs.length (Tr.fill cs 0 .nil) [])/\(fs.map aI).flatten.length<=top/\cs.length<=top/\n*13<=(fs.map aI).flatten.length/\1*13<=cs.length/\(fs.map aI).flatten.take (n*13)++cs.take (1*13)=((fs.take n++[f]).map aI).flatten/\((fs.take n++[f]).map aI).flatten.all AV.bQ=true/\2*(n+1)*136+4096*136<=room/\((fs.take n++[f]).map aI).flatten.length<=top/\X):=by
 have ht:top=549755813888:=rfl;have e1:∀l:List Fr,(l.map aI).flatten.length=l.length*13:=fun l=>by
  have:=uy (K:=13) (l:=l.map aI) fun c hc=>by obtain⟨a,_,rfl⟩:=List.mem_map.1 hc;exact fA a
  rw[this,List.length_map]
 have e2:cs.length=13:=by rw[←hc];exact fA f
 have e3:∀(l:List Fr) (k:Nat),(l.map aI).flatten.take (k*13)=((l.take k).map aI).flatten:=by
  intro l;induction l with
  |nil=>intro k;simp
  |cons x l ih=>
   intro k;cases k with
   |zero=>simp
   |succ k=>rw[List.map_cons,List.flatten_cons,List.take_succ_cons,List.map_cons,List.flatten_cons, ←ih k,List.take_append,fA,List.take_of_length_le (by rw[fA];omega),show(k+1)*13 - 13=k*13 by omega]
 refine⟨rfl,Nat.le_refl 1,rfl,rfl,by rw[e1];omega,by omega,by rw[e1];omega,by omega,?_,?_,?_,?_,x⟩
 ·rw[e3,List.map_append,List.flatten_append];congr 1;rw[List.take_of_length_le (l:=cs) ab, ←hc];simp
 ·rw[List.all_eq_true];intro c hc;obtain⟨y,hy,hc⟩:=List.mem_flatten.1 hc;obtain⟨g,_,rfl⟩:=List.mem_map.1 hy;exact List.all_eq_true.1 (Mu g) c hc
 ·unfold room;omega
 ·rw[e1,List.length_append,List.length_take];show(min n fs.length+1)*13<=top;omega
end mY
end
section
open Go Go.Rn Go.RowKit Go.Proofs
namespace nL
open ch eO cG dj cQ di fW fD gH gP gV gj hJ iA iB iR jc mY gi
theorem zY{fs:List Fr}{n:Nat}{X:Prop}(h1:1<=n)(hn:n<=fs.length)(hl:fs.length<=1000000)(x:X):
 ((.known 0:bW)= .known 0/\1<=n/\some (ae.cells 0 (Tr.fill [] 0 .nil) [])=some (.cells ([]:List AV).length (Tr.fill [] 0 .nil) [])/\some (aA aI fs)=some (.cells (fs.map aI).flatten.length (Tr.fill (fs.map aI).flatten 0 .nil) [])/\([]:List AV).length<=top/\(fs.map aI).flatten.length<=top/\0*13<=([]:List AV).length/\n*13<=(fs.map aI).flatten.length/\([]:List AV).take (0*13)++(fs.map aI).flatten.take (n*13)=((fs.take n).map aI).flatten/\((fs.take n).map aI).flatten.all AV.bQ=true/\2*(0+n)*136+4096*136<=room/\((fs.take n).map aI).flatten.length<=top/\X):=by
 have ht:top=549755813888:=rfl;have e1:∀l:List Fr,(l.map aI).flatten.length=l.length*13:=fun l=>by
  have:=uy (K:=13) (l:=l.map aI) fun c hc=>by obtain⟨a,_,rfl⟩:=List.mem_map.1 hc;exact fA a
  rw[this,List.length_map]
 have e3:∀(l:List Fr) (k:Nat),(l.map aI).flatten.take (k*13)=((l.take k).map aI).flatten:=by
  intro l;induction l with
  |nil=>intro k;simp
  |cons x l ih=>
   intro k;cases k with
   |zero=>simp
   |succ k=>rw[List.map_cons,List.flatten_cons,List.take_succ_cons,List.map_cons,List.flatten_cons, ←ih k,List.take_append,fA,List.take_of_length_le (by rw[fA];omega),show(k+1)*13 - 13=k*13 by omega]
 refine⟨rfl,h1,rfl,rfl,Nat.zero_le _,by rw[e1];omega,by show 0*13<=0;omega,by rw[e1];omega,?_,?_,?_,?_,x⟩
 ·rw[e3];rfl
 ·rw[List.all_eq_true];intro c hc;obtain⟨y,hy,hc⟩:=List.mem_flatten.1 hc;obtain⟨g,_,rfl⟩:=List.mem_map.1 hy;exact List.all_eq_true.1 (Mu g) c hc
 ·unfold room;omega
 ·rw[e1,List.length_take];omega
end nL
end
section
open Go Go.Rn Go.RowKit Go.Proofs
namespace oJ
open ch fT eX ij fO iz eO cG dj cQ di fW fD gH gP gV gi gj hJ iA iB iR jc jV ki kO jW mY nL lR
variable {fs:List Fr} {B:aJ} {u:AV} {r:Nat->Nat} {c:Nat} {a:MN}
noncomputable section
theorem G4{n:Nat}{f:Fr}{cs:List AV}{X:Prop}(hc:aI f=cs)(h1:1<=n)(hn:n<=fs.length)(hl:fs.length<=1000000)(x:X):
 ((.known n:bW)= .known n/\1<=n/\1<=1/\some (aA aI fs)=some (.cells (fs.map aI).flatten.length (Tr.fill (fs.map aI).flatten 0 .nil) [])/\some (ae.cells cs.length (Tr.fill cs 0 .nil) [])=some (.cells cs.length (Tr.fill cs 0 .nil) [])/\(fs.map aI).flatten.length<=top/\cs.length<=top/\n*13<=(fs.map aI).flatten.length/\1*13<=cs.length/\(fs.map aI).flatten.take (n*13)++cs.take (1*13)=((fs.take n++[f]).map aI).flatten/\((fs.take n++[f]).map aI).flatten.all AV.bQ=true/\2*(n+1)*136+4096*136<=room/\((fs.take n++[f]).map aI).flatten.length<=top/\X):=
 have h:=aoE hc hn hl x
 ⟨h.1,h1,h.2⟩
theorem UM{k:Nat}{v:AV}:eZ [] r (.tok k v)<|.tok k v:=fun _ _ _ _ _ _=>trivial
theorem Ix(hr:∀k,top<=k->r k=k)(hl:fs.length<=1000000):eZ [] r (aA aI fs)<|aA aI fs:=fun ρ fE N o m h=>by have ht:top=549755813888:=rfl;refine FX (ρ:=ρ) (fun k x hk e=>?_) (by rw[Vq];omega) (UH fs) h;show fE (r k)=some x;rw[hr k hk];exact m.1 _ _ e
abbrev LM:bO:=[PU,lY,iJ,jC,kK,lV,yI,PR,Pd,Oj,Of,Og]
abbrev aQ(p:List AV)(n:Nat)(cap:bW)(st:Int)(u:AV)(fs:List Fr):VS:=⟨⟨p,n,cap,[.int .i64 st]⟩,u,(fs.map aI).flatten⟩
abbrev lU(B:aJ)(rs:List ResultVar)(st:VS)(fr:AF)(s:AS):Prop:=au pg B 271 (gW 270 3 pg rs (.int .i64 0) st) fr s
abbrev kX(f j nt:Nat)(K:List Item):AF:=⟨f,aE [(j,.int .i64 0)],nt,K,[],none⟩
def oE(A:MN)(n:Nat)(cap:bW)(u:AV)(fs:List Fr)(r:Nat):List<|Nat×Option ae:=[(270,some<|.cells 13 (Tr.fill (A.row (.ptr<|some (271,0)) (.slice (some (r,0)) n cap)<|.int .i64 A.steps) 0 .nil) []),(271,some<|.tok 3 u),(r,some<|aA aI fs)]
abbrev nU(A:MN)(n:Nat)(cap:bW)(u:AV)(fs:List Fr):AS:=ah (ar++oE A n cap u fs 272) 273
abbrev zZ(j:Nat)(A:MN)(n:Nat)(cap:bW)(u:AV)(fs:List Fr)(r bw:Nat):Pl:=.rn [(j,.int .i64 0)] (ar++oE A n cap u fs r) [(j,.int .i64 0)] (ar++oE A n cap u fs 272) bw 273 .no
theorem D9(f j nt:Nat)(K:List Item)(A:MN)(n:Nat)(cap:bW)(u:AV)(fs:List Fr)(r bw:Nat)(hlen:fs.length<=1000000)(nG:(AV.U A.G A.q A.lg).cM=true)(hb:zV [(271,271),(272,r)] 271 bw 273 [270,271,272]=true:=by as_aux_lemma=>kernel_rfl)(hi:Kd [(271,271),(272,r)]=true:=by as_aux_lemma=>kernel_rfl)(hj:j<1000:=by omega):
 ([(j,AV.int .i64 0)].map (fun q=>some q.2)=[(j,AV.int .i64 0)].map (fun q=>some q.2))/\((ar++oE A n cap u fs r).map (fun q=>q.2)=(ar++oE A n cap u fs r).map (fun q=>q.2))/\hI FU 271 bw [(j,.int .i64 0)] (ar++oE A n cap u fs r) [(j,.int .i64 0)] (ar++oE A n cap u fs 272) 273/\(kX f j nt K=kX f j nt K/\nU A n cap u fs=nU A n cap u fs):=by
 have ht:top=549755813888:=rfl;refine⟨rfl,rfl,JL (ps:=[(271,271),(272,r)]) (lo:=271) (bw:=bw) ab hb hi (fun q hr ht=>⟨⟨by show j<top;omega,.int .i64 0,List.mem_cons_self,(ba.int _ _).z⟩,trivial⟩) fun q hr ht=>?_,rfl,rfl⟩;have e0:q 270=270:=by rw[hr];rfl
 have e1:q 271=271:=by rw[hr];rfl
 have e2:q 272=r:=by rw[hr];rfl
 refine⟨fun y hy=>?_,fun y hy=>?_,fun y hy=>?_,trivial⟩
 ·cases hy;refine⟨rfl,.cells 13 (Tr.fill (A.row (.ptr<|some (271,0)) (.slice (some (r,0)) n cap)<|.int .i64 A.steps) 0 .nil) [],?_,wQ,?_⟩
  ·show(q 270,_)∈_;rw[e0];exact List.mem_cons_self
  ·exact S6 (l:=[.int .i64 A.vars,.U A.G A.q A.lg,.int .i64 A.x0,.int .i64 A.x1,.int .i64 A.x2,.int .i64 A.x3,.int .i64 A.x4,.int .i64 A.x5,.int .i64 A.x6,.int .i64 A.x7,.ptr<|some (271,0),.slice (some (r,0)) n cap,.int .i64 A.steps]) (m:=[.int .i64 A.vars,.U A.G A.q A.lg,.int .i64 A.x0,.int .i64 A.x1,.int .i64 A.x2,.int .i64 A.x3,.int .i64 A.x4,.int .i64 A.x5,.int .i64 A.x6,.int .i64 A.x7,.ptr<|some (271,0),.slice (some (272,0)) n cap,.int .i64 A.steps]) (rest:=[]) (by show 13<=top;omega) ⟨(ba.int _ _).z,(Oc ht (show(AV.U A.G A.q A.lg).hi=true from nG)).z,(ba.int _ _).z,(ba.int _ _).z,(ba.int _ _).z,(ba.int _ _).z,(ba.int _ _).z,(ba.int _ _).z,(ba.int _ _).z,(ba.int _ _).z,(ba.ptr e1).z,(ba.slice e2).z,(ba.int _ _).z,trivial⟩ rfl
 ·cases hy;refine⟨rfl,.tok 3 u,?_,fK.refl _,UM⟩;show(q 271,_)∈_;rw[e1];exact List.mem_cons_of_mem _ List.mem_cons_self
 ·cases hy;refine⟨rfl,aA aI fs,?_,fK.refl _,Ix ht hlen⟩;show(q 272,_)∈_;rw[e2];exact List.mem_cons_of_mem _<|List.mem_cons_of_mem _ List.mem_cons_self
theorem z6(mc:Mt LM B){f nt:Nat}{t:Tr AV}{K:List Item}{s:AS}{rs:List ResultVar}{st:VS}{FR:AF}{S1:AS}(H:lU B rs st FR S1)(p:Pl){T:Prop}(x:T)(h:T=wp (oV LM) 900 6 (.fr f nt K t s) p rs (fun v s _=>v= .int .i64 0/\∀m o,(m,o)∈dB 270 3 st->s.h.get m=some o) (fun fr s1 _=>fr=FR/\s1=S1):=by as_aux_lemma=>kernel_rfl)(h0:Nat.ble 271 s.nx=true:=by as_aux_lemma=>kernel_rfl):lU B rs st ⟨f,t,nt,K,[],none⟩ s:=B4 mc (C:=fun fr s1 _=>fr=FR/\s1=S1) (fun fr s1 p hC=>by obtain⟨rfl,rfl⟩:=hC;exact H) p x h h0
theorem Be{n:Nat}(mc:Mt LM B):lU B (az Tryz.f15) (aQ a.pre n (.aq c 13) a.steps u fs) (kX 15 2 38<|cO 15 [1,1,1,1,1,1,1,1,1])<|nU a n (.aq c 13) u fs:=by exact Ed mc (.rt 1 .no)<|mG (st:=(aQ a.pre n (.aq c 13) a.steps u fs)) (s:=nU a n (.aq c 13) u fs) (show(i0:AV)= .int .i64 0 from rfl) bY bY bY
theorem ag2{n:Nat}(mc:Mt LM B):lU B (az Tryz.f42) (aQ a.pre n (.aq c 13) a.steps u fs) (kX 42 4 38<|cO 42 [1,1,1,1,1,1,1,1])<|nU a n (.aq c 13) u fs:=by exact Ed mc (.rt 1 .no)<|mG (st:=(aQ a.pre n (.aq c 13) a.steps u fs)) (s:=nU a n (.aq c 13) u fs) (show(i0:AV)= .int .i64 0 from rfl) bY bY bY
end
end oJ
end
section
open Go Go.Rn Go.RowKit Go.Proofs
namespace WQ
open ch fT eX ij fO iz eO cG dj cQ di fW fD gH gP gV gi gj hJ iA iB iR jc jV ki kO jW mY nL lR oJ
noncomputable abbrev A5(ka to op nn:Int)(N L:Nat)(aF n2:Int)(N2 L2:Nat)(bd el:List St):AV:=.agg [(.int .u8 ka),(i6 to),(u8<|op),(i6 nn),(.U N 0 L),(u8<|aF),(i6 n2),(.U N2 0 L2),(.U (nm (bd.map aL).flatten) 0 bd.length),(.U (nm (el.map aL).flatten) 0 el.length)]
noncomputable abbrev Oo(fs:List Fr)(n:Nat):Fr:=({(av (fs.take n)<|(((0+n):Nat):Int) - 1) with ak:=((av (fs.take n)<|(((0+n):Nat):Int) - 1).ak+1),turns:=(av (fs.take n)<|(((0+n):Nat):Int) - 1).turns}:Fr)
noncomputable abbrev Ji(a:MN)(n:Nat)(u:AV)(fs:List Fr):VS:=aQ a.pre (0+n) (.aq (0+n) 13) (a.steps+1) u<|(fs.take n).set ((((0+n):Nat):Int) - 1).toNat<|Oo fs n
theorem step1{ka:Int}{kb:VS->List AV->AV×VS->Prop}{kc:Nat}(hk:(ka=1/\kb=zu/\kc=33)\/(ka=2/\kb=zg/\kc=34)\/(ka=3/\kb=yR/\kc=35)){B:aJ}{a:MN}{n c:Nat}{u:AV}{fs:List Fr}{A1:MN}{m1 c1:Nat}{u1:AV}{br:List Fr}{A2:MN}{m2 c2:Nat}{u2:AV}{bj:List Fr}{N L N2 L2:Nat}{to op nn aF n2 z wi t:Int}{bd el ol fb:List St}{fa ft y0 y1 y2 y3 y4 y5 y6 y7:Int}{fo:Bool}{ub:AV}(mc:Mt LM B)(h1:1<=n)(hn:n<=fs.length)(hc:n<=c)(hf:fs.length<=1000000)(hR:fs.length*13<=top)(aw:0<=(av (fs.take n)<|((0+n:Nat):Int) - 1).ak/\(av (fs.take n)<|((0+n:Nat):Int) - 1).ak<=1000000)(cn:0<=a.steps/\a.steps<=1000000000000)(hlen:bj.length<=1000000)(nG:(AV.U A2.G A2.q A2.lg).cM=true)(k0:bD 10 (aQ a.pre n (.aq c 13) a.steps u fs)=true)(k1:vR kP (aQ a.pre n (.aq c 13) a.steps u fs) []=some (.agg [(u8<|.ofNat 1),i0,i0]))(k2:((.tuple [(A5 ka to op nn N L aF n2 N2 L2 bd el),(.bool true)]):AV).hi=true)(k3:vR iO (aQ a.pre n (.aq c 13) a.steps u fs) []=some (.tuple [(A5 ka to op nn N L aF n2 N2 L2 bd el),(.bool true)]))(k4:([(A5 ka to op nn N L aF n2 N2 L2 bd el)]:List AV).all AV.hi=true)(k5:bD 10 (Ji a n u fs)=true)(k6:dH kb (Ji a n u fs) [(A5 ka to op nn N L aF n2 N2 L2 bd el)]=some (.tuple [],(aQ A1.pre m1 (.aq c1 13) A1.steps u1 br)))(k7:bD 10 (aQ A1.pre m1 (.aq c1 13) A1.steps u1 br)=true)(k8:dH eG (aQ A1.pre m1 (.aq c1 13) A1.steps u1 br) []=some (.tuple [],(aQ A2.pre m2 (.aq c2 13) A2.steps u2 bj)))(k9:bD 10 (aQ A2.pre m2 (.aq c2 13) A2.steps u2 bj)=true)(H:lU B (az Tryz.f15) (aQ A2.pre m2 (.aq c2 13) A2.steps u2 bj) (kX 15 2 38<|cO 15 [1,1,1,1,1,1,1,1,1])<|nU A2 m2 (.aq c2 13) u2 bj):lU B (az Tryz.f15) (aQ A2.pre m2 (.aq c2 13) A2.steps u2 bj) (sF 15 Tryz.f15 [(.ptr<|some (270,0))])<|ah (ar++aW (dB 270 3<|aQ a.pre n (.aq c 13) a.steps u fs)) 273:=by
 have ht:top=549755813888:=rfl;have ua:sp LM kc=some (mU 10 3 (dH kb) 270 dT dF):=by rcases hk with⟨_,rfl,rfl⟩|⟨_,rfl,rfl⟩|⟨_,rfl,rfl⟩<;>kernel_rfl
 have TT:=(yp LM 14 272 (vR kP) [] (aQ a.pre n (.aq c 13) a.steps u fs) (.agg [(u8<|.ofNat 1),i0,i0]) k0 k1<|jI LM 28 272 (vR iO) [] (aQ a.pre n (.aq c 13) a.steps u fs) (.tuple [(A5 ka to op nn N L aF n2 N2 L2 bd el),(.bool true)]) k0 k3 bY k2<|ai (wI<|a.steps+1)<|zY (fs:=fs) (n:=n) ab DF DF<|ai (wI<|(((0+n):Nat):Int) - 1)<|dS ((((0+n):Nat):Int) - 1) (((0+n):Nat):Int)<|ai (mu fA DF (jb (l:=(fs.take n)) (z:=((((0+n):Nat):Int) - 1)) ab DF) 1 1 rfl)<|ai (wI<|(av (fs.take n)<|(((0+n):Nat):Int) - 1).ak+1)<|dS ((((0+n):Nat):Int) - 1) (((0+n):Nat):Int)<|ai (ph fA DF (jb (l:=(fs.take n)) (z:=((((0+n):Nat):Int) - 1)) ab DF) (c':=(Oo fs n)) (r:=[(i6<|((av (fs.take n)<|(((0+n):Nat):Int) - 1).ak+1))]) 1 rfl rfl rfl)<|X1 (h1:=ua) LM kc 276 (dH kb) [(A5 ka to op nn N L aF n2 N2 L2 bd el)] (Ji a n u fs) (aQ A1.pre m1 (.aq c1 13) A1.steps u1 br) k5 k6 k7 k4<|vU LM 41 276 (dH eG) [] (aQ A1.pre m1 (.aq c1 13) A1.steps u1 br) (aQ A2.pre m2 (.aq c2 13) A2.steps u2 bj) k7 k8 k9<|D9 15 2 38 (cO 15 [1,1,1,1,1,1,1,1,1]) A2 m2 (.aq c2 13) u2 bj 276 277 hlen nG);let P:Pl:=(.st 8<|.rg<|.go 1<|.cg (.agg [(u8<|.ofNat 1),i0,i0]) (vG 272) (vQ 272<|aQ a.pre n (.aq c 13) a.steps u fs)<|.go 3<|.en<|.st 6<|.rg<|.go 1<|.cg (.tuple [(A5 ka to op nn N L aF n2 N2 L2 bd el),(.bool true)]) (vG 272) (vQ 272<|aQ a.pre n (.aq c 13) a.steps u fs)<|.go 6<|.en<|.st 1<|.rg<|.go 4<|.vl (i6<|a.steps+1)<|.go 3<|.en<|.st 1<|.rg<|.go 1<|.il<|.st 1<|.rg<|.go 4<|.il<|.st 8<|.rg<|.go 2<|.ao [] (((fs).map aI).flatten) ((((fs.take n)).map aI).flatten)<|.go 1<|.en<|.rt 1<|.go 1<|.en<|.st 1<|.rg<|.go 3<|.vl (i6<|(((0+n):Nat):Int) - 1)<|.ix<|.go 1<|.ld [(i6<|(av (fs.take n)<|(((0+n):Nat):Int) - 1).ak)]<|.vl (i6<|(av (fs.take n)<|(((0+n):Nat):Int) - 1).ak+1)<|.ix<|.go 1<|.mj (aA aI<|(fs.take n).set ((((0+n):Nat):Int) - 1).toNat<|Oo fs n)<|.en<|.rt 2<|.en<|.st 1<|.rg<|.go 6<|.cg (.tuple []) (vF 276<|aQ A1.pre m1 (.aq c1 13) A1.steps u1 br) (vQ 276<|Ji a n u fs)<|.en<|.st 1<|.rg<|.go 1<|.cg (.tuple []) (vF 276<|aQ A2.pre m2 (.aq c2 13) A2.steps u2 bj) (vQ 276<|aQ A1.pre m1 (.aq c1 13) A1.steps u1 br)<|.en<|.st 2<|(zZ 2 A2 m2 (.aq c2 13) u2 bj 276 277));rcases hk with⟨rfl,rfl,rfl⟩|⟨rfl,rfl,rfl⟩|⟨rfl,rfl,rfl⟩
 all_goals exact z6 mc H P TT aV
end WQ
end
section
open Go Go.Rn Go.RowKit Go.Proofs
namespace V5
open ch fT eX ij fO iz eO cG dj cQ di fW fD gH gP gV gi gj hJ iA iB iR jc jV ki kO jW mY nL lR oJ
noncomputable abbrev AG(fs:List Fr)(n:Nat):Fr:=({(av (fs.take n)<|(((0+n):Nat):Int) - 1) with ak:=((av (fs.take n)<|(((0+n):Nat):Int) - 1).ak+1),turns:=(av (fs.take n)<|(((0+n):Nat):Int) - 1).turns}:Fr)
noncomputable abbrev IB(a:MN)(n:Nat)(u:AV)(fs:List Fr)(bd:List St):VS:=aQ a.pre ((((0+n):Nat):Int).toNat+1) (.aq ((((0+n):Nat):Int).toNat+1) 13) (a.steps+1) u<|((fs.take n).set ((((0+n):Nat):Int) - 1).toNat<|AG fs n).take (((0+n):Nat):Int).toNat++[(⟨bd,0,0,false,[0,0,0,0,0,0,0,0],none⟩:Fr)]
noncomputable abbrev IC(to op nn:Int)(N L:Nat)(aF n2:Int)(N2 L2:Nat)(bd el:List St):AV:=.tuple [(.agg [(u8<|.ofNat 4),(i6 to),(u8<|op),(i6 nn),(.U N 0 L),(u8<|aF),(i6 n2),(.U N2 0 L2),(.U (nm (bd.map aL).flatten) 0 bd.length),(.U (nm (el.map aL).flatten) 0 el.length)]),(.bool true)]
noncomputable abbrev ID(a:MN)(n:Nat)(u:AV)(fs:List Fr):VS:=aQ a.pre (0+n) (.aq (0+n) 13) (a.steps+1) u<|(fs.take n).set ((((0+n):Nat):Int) - 1).toNat<|AG fs n
noncomputable abbrev NP(bd:List St):List AV:=[(.U (nm (bd.map aL).flatten) 0 bd.length),i0,i0,(.bool false),i0,i0,i0,i0,i0,i0,i0,i0,(.slice none 0<|.known 0)]
theorem afp{B:aJ}{a:MN}{n c:Nat}{u:AV}{fs:List Fr}{A1:MN}{m1 c1:Nat}{u1:AV}{br:List Fr}{A2:MN}{m2 c2:Nat}{u2:AV}{bj:List Fr}{N L N2 L2:Nat}{to op nn aF n2 z wi t:Int}{bd el ol fb:List St}{fa ft y0 y1 y2 y3 y4 y5 y6 y7:Int}{fo:Bool}{ub:AV}(mc:Mt LM B)(h1:1<=n)(hn:n<=fs.length)(hc:n<=c)(hf:fs.length<=1000000)(hR:fs.length*13<=top)(aw:0<=(av (fs.take n)<|((0+n:Nat):Int) - 1).ak/\(av (fs.take n)<|((0+n:Nat):Int) - 1).ak<=1000000)(cn:0<=a.steps/\a.steps<=1000000000000)(hlen:bj.length<=1000000)(nG:(AV.U A2.G A2.q A2.lg).cM=true)(hz:z≠0)(k0:bD 10 (aQ a.pre n (.aq c 13) a.steps u fs)=true)(k1:vR kP (aQ a.pre n (.aq c 13) a.steps u fs) []=some (.agg [(u8<|.ofNat 1),i0,i0]))(k2:((IC to op nn N L aF n2 N2 L2 bd el):AV).hi=true)(k3:vR iO (aQ a.pre n (.aq c 13) a.steps u fs) []=some (IC to op nn N L aF n2 N2 L2 bd el))(k4:([.agg [.int .u8 op,.int .i64 nn,.U N 0 L]]:List AV).all AV.hi=true)(k5:bD 10 (ID a n u fs)=true)(k6:vR jh (ID a n u fs) [(.agg [(u8<|op),(i6 nn),(.U N 0 L)])]=some (i6 z))(k7:bD 10 (IB a n u fs bd)=true)(k8:dH eG (IB a n u fs bd) []=some (.tuple [],(aQ A1.pre m1 (.aq c1 13) A1.steps u1 br)))(k9:bD 10 (aQ A1.pre m1 (.aq c1 13) A1.steps u1 br)=true)(rO:dH eG (aQ A1.pre m1 (.aq c1 13) A1.steps u1 br) []=some (.tuple [],(aQ A2.pre m2 (.aq c2 13) A2.steps u2 bj)))(yc:bD 10 (aQ A2.pre m2 (.aq c2 13) A2.steps u2 bj)=true)(H:lU B (az Tryz.f15) (aQ A2.pre m2 (.aq c2 13) A2.steps u2 bj) (kX 15 2 38<|cO 15 [1,1,1,1,1,1,1,1,1])<|nU A2 m2 (.aq c2 13) u2 bj):lU B (az Tryz.f15) (aQ A2.pre m2 (.aq c2 13) A2.steps u2 bj) (sF 15 Tryz.f15 [(.ptr<|some (270,0))])<|ah (ar++aW (dB 270 3<|aQ a.pre n (.aq c 13) a.steps u fs)) 273:=by have ht:top=549755813888:=rfl;exact z6 mc H (.st 8<|.rg<|.go 1<|.cg (.agg [(u8<|.ofNat 1),i0,i0]) (vG 272) (vQ 272<|aQ a.pre n (.aq c 13) a.steps u fs)<|.go 3<|.en<|.st 6<|.rg<|.go 1<|.cg (IC to op nn N L aF n2 N2 L2 bd el) (vG 272) (vQ 272<|aQ a.pre n (.aq c 13) a.steps u fs)<|.go 6<|.en<|.st 1<|.rg<|.go 4<|.vl (i6<|a.steps+1)<|.go 3<|.en<|.st 1<|.rg<|.go 1<|.il<|.st 1<|.rg<|.go 4<|.il<|.st 8<|.rg<|.go 2<|.ao [] (((fs).map aI).flatten) ((((fs.take n)).map aI).flatten)<|.go 1<|.en<|.rt 1<|.go 1<|.en<|.st 1<|.rg<|.go 3<|.vl (i6<|(((0+n):Nat):Int) - 1)<|.ix<|.go 1<|.ld [(i6<|(av (fs.take n)<|(((0+n):Nat):Int) - 1).ak)]<|.vl (i6<|(av (fs.take n)<|(((0+n):Nat):Int) - 1).ak+1)<|.ix<|.go 1<|.mj (aA aI<|(fs.take n).set ((((0+n):Nat):Int) - 1).toNat<|AG fs n)<|.en<|.rt 2<|.en<|.st 1<|.rg<|.go 6<|.il<|.st 4<|.rg<|.go 3<|.cg (i6 z) (vG 276) (vQ 276<|ID a n u fs)<|.fk (.en<|.st 2<|.rg<|.go 4<|.il<|.st 3<|.rg<|.go 15<|.s3<|.go 2<|.an (((((fs.take n).set ((((0+n):Nat):Int) - 1).toNat<|AG fs n)).map aI).flatten) (NP bd) ((((((fs.take n).set ((((0+n):Nat):Int) - 1).toNat<|AG fs n).take (((0+n):Nat):Int).toNat++[(⟨bd,0,0,false,[0,0,0,0,0,0,0,0],none⟩:Fr)])).map aI).flatten)<|.go 3<|.en<|.rg<|.go 1<|.cg (.tuple []) (vF 280<|aQ A1.pre m1 (.aq c1 13) A1.steps u1 br) (vQ 280<|IB a n u fs bd)<|.en<|.rt 1<|.en<|.rt 1<|.en<|.st 1<|.rg<|.go 1<|.cg (.tuple []) (vF 280<|aQ A2.pre m2 (.aq c2 13) A2.steps u2 bj) (vQ 280<|aQ A1.pre m1 (.aq c1 13) A1.steps u1 br)<|.en<|.st 2<|(zZ 2 A2 m2 (.aq c2 13) u2 bj 280 281))<|.no)<|yp LM 14 272 (vR kP) [] (aQ a.pre n (.aq c 13) a.steps u fs) (.agg [(u8<|.ofNat 1),i0,i0]) k0 k1<|jI LM 28 272 (vR iO) [] (aQ a.pre n (.aq c 13) a.steps u fs) (IC to op nn N L aF n2 N2 L2 bd el) k0 k3 bU k2<|ai Bs<|zY (fs:=fs) (n:=n) ab dQ dQ<|ai Br<|dS ((((0+n):Nat):Int) - 1) (((0+n):Nat):Int)<|ai (mu fA dQ (jb (l:=(fs.take n)) (z:=((((0+n):Nat):Int) - 1)) ab dQ) 1 1 rfl)<|ai Bq<|dS ((((0+n):Nat):Int) - 1) (((0+n):Nat):Int)<|ai (ph fA dQ (jb (l:=(fs.take n)) (z:=((((0+n):Nat):Int) - 1)) ab dQ) (c':=(AG fs n)) (r:=[(i6<|((av (fs.take n)<|(((0+n):Nat):Int) - 1).ak+1))]) 1 rfl rfl rfl)<|jI LM 29 276 (vR jh) [(.agg [(u8<|op),(i6 nn),(.U N 0 L)])] (ID a n u fs) (i6 z) k5 k6 k4 bU<|aR (z≠0) (fun _=>(ai (show 0<=(((0+n):Nat):Int) from ab)<|ai (show(((0+n):Nat):Int)<=(((0+n):Nat):Int) from ab)<|ai (show(((0+n):Nat):Int)<=Int.ofNat (iY (0+n)<|.aq (0+n) 13) from(show(((0+n):Nat):Int)<=(((0+n):Nat):Int) from by omega))<|G4 (fs:=((fs.take n).set ((((0+n):Nat):Int) - 1).toNat<|AG fs n)) (n:=(((0+n):Nat):Int).toNat) (f:=(⟨bd,0,0,false,[0,0,0,0,0,0,0,0],none⟩:Fr)) (cs:=(NP bd)) (show aI (⟨bd,0,0,false,[0,0,0,0,0,0,0,0],none⟩:Fr)=(NP bd) from rfl) ab dQ dQ<|vU LM 41 280 (dH eG) [] (IB a n u fs bd) (aQ A1.pre m1 (.aq c1 13) A1.steps u1 br) k7 k8 k9 PE)) fZ
end V5
end
section
open Go Go.Rn Go.RowKit Go.Proofs
namespace V6
open ch fT eX ij fO iz eO cG dj cQ di fW fD gH gP gV gi gj hJ iA iB iR jc jV ki kO jW mY nL lR oJ
noncomputable abbrev AH(fs:List Fr)(n:Nat):Fr:=({(av (fs.take n)<|(((0+n):Nat):Int) - 1) with ak:=((av (fs.take n)<|(((0+n):Nat):Int) - 1).ak+1),turns:=(av (fs.take n)<|(((0+n):Nat):Int) - 1).turns}:Fr)
noncomputable abbrev IE(a:MN)(n:Nat)(u:AV)(fs:List Fr)(el:List St):VS:=aQ a.pre ((((0+n):Nat):Int).toNat+1) (.aq ((((0+n):Nat):Int).toNat+1) 13) (a.steps+1) u<|((fs.take n).set ((((0+n):Nat):Int) - 1).toNat<|AH fs n).take (((0+n):Nat):Int).toNat++[(⟨el,0,0,false,[0,0,0,0,0,0,0,0],none⟩:Fr)]
noncomputable abbrev IF(to op nn:Int)(N L:Nat)(aF n2:Int)(N2 L2:Nat)(bd el:List St):AV:=.tuple [(.agg [(u8<|.ofNat 4),(i6 to),(u8<|op),(i6 nn),(.U N 0 L),(u8<|aF),(i6 n2),(.U N2 0 L2),(.U (nm (bd.map aL).flatten) 0 bd.length),(.U (nm (el.map aL).flatten) 0 el.length)]),(.bool true)]
noncomputable abbrev IG(a:MN)(n:Nat)(u:AV)(fs:List Fr):VS:=aQ a.pre (0+n) (.aq (0+n) 13) (a.steps+1) u<|(fs.take n).set ((((0+n):Nat):Int) - 1).toNat<|AH fs n
noncomputable abbrev NQ(el:List St):List AV:=[(.U (nm (el.map aL).flatten) 0 el.length),i0,i0,(.bool false),i0,i0,i0,i0,i0,i0,i0,i0,(.slice none 0<|.known 0)]
theorem afq{B:aJ}{a:MN}{n c:Nat}{u:AV}{fs:List Fr}{A1:MN}{m1 c1:Nat}{u1:AV}{br:List Fr}{A2:MN}{m2 c2:Nat}{u2:AV}{bj:List Fr}{N L N2 L2:Nat}{to op nn aF n2 z wi t:Int}{bd el ol fb:List St}{fa ft y0 y1 y2 y3 y4 y5 y6 y7:Int}{fo:Bool}{ub:AV}(mc:Mt LM B)(h1:1<=n)(hn:n<=fs.length)(hc:n<=c)(hf:fs.length<=1000000)(hR:fs.length*13<=top)(aw:0<=(av (fs.take n)<|((0+n:Nat):Int) - 1).ak/\(av (fs.take n)<|((0+n:Nat):Int) - 1).ak<=1000000)(cn:0<=a.steps/\a.steps<=1000000000000)(hlen:bj.length<=1000000)(nG:(AV.U A2.G A2.q A2.lg).cM=true)(hz:z=0)(k0:bD 10 (aQ a.pre n (.aq c 13) a.steps u fs)=true)(k1:vR kP (aQ a.pre n (.aq c 13) a.steps u fs) []=some (.agg [(u8<|.ofNat 1),i0,i0]))(k2:((IF to op nn N L aF n2 N2 L2 bd el):AV).hi=true)(k3:vR iO (aQ a.pre n (.aq c 13) a.steps u fs) []=some (IF to op nn N L aF n2 N2 L2 bd el))(k4:([.agg [.int .u8 op,.int .i64 nn,.U N 0 L]]:List AV).all AV.hi=true)(k5:bD 10 (IG a n u fs)=true)(k6:vR jh (IG a n u fs) [(.agg [(u8<|op),(i6 nn),(.U N 0 L)])]=some (i6 z))(k7:bD 10 (IE a n u fs el)=true)(k8:dH eG (IE a n u fs el) []=some (.tuple [],(aQ A1.pre m1 (.aq c1 13) A1.steps u1 br)))(k9:bD 10 (aQ A1.pre m1 (.aq c1 13) A1.steps u1 br)=true)(rO:dH eG (aQ A1.pre m1 (.aq c1 13) A1.steps u1 br) []=some (.tuple [],(aQ A2.pre m2 (.aq c2 13) A2.steps u2 bj)))(yc:bD 10 (aQ A2.pre m2 (.aq c2 13) A2.steps u2 bj)=true)(H:lU B (az Tryz.f15) (aQ A2.pre m2 (.aq c2 13) A2.steps u2 bj) (kX 15 2 38<|cO 15 [1,1,1,1,1,1,1,1,1])<|nU A2 m2 (.aq c2 13) u2 bj):lU B (az Tryz.f15) (aQ A2.pre m2 (.aq c2 13) A2.steps u2 bj) (sF 15 Tryz.f15 [(.ptr<|some (270,0))])<|ah (ar++aW (dB 270 3<|aQ a.pre n (.aq c 13) a.steps u fs)) 273:=by have ht:top=549755813888:=rfl;exact z6 mc H (.st 8<|.rg<|.go 1<|.cg (.agg [(u8<|.ofNat 1),i0,i0]) (vG 272) (vQ 272<|aQ a.pre n (.aq c 13) a.steps u fs)<|.go 3<|.en<|.st 6<|.rg<|.go 1<|.cg (IF to op nn N L aF n2 N2 L2 bd el) (vG 272) (vQ 272<|aQ a.pre n (.aq c 13) a.steps u fs)<|.go 6<|.en<|.st 1<|.rg<|.go 4<|.vl (i6<|a.steps+1)<|.go 3<|.en<|.st 1<|.rg<|.go 1<|.il<|.st 1<|.rg<|.go 4<|.il<|.st 8<|.rg<|.go 2<|.ao [] (((fs).map aI).flatten) ((((fs.take n)).map aI).flatten)<|.go 1<|.en<|.rt 1<|.go 1<|.en<|.st 1<|.rg<|.go 3<|.vl (i6<|(((0+n):Nat):Int) - 1)<|.ix<|.go 1<|.ld [(i6<|(av (fs.take n)<|(((0+n):Nat):Int) - 1).ak)]<|.vl (i6<|(av (fs.take n)<|(((0+n):Nat):Int) - 1).ak+1)<|.ix<|.go 1<|.mj (aA aI<|(fs.take n).set ((((0+n):Nat):Int) - 1).toNat<|AH fs n)<|.en<|.rt 2<|.en<|.st 1<|.rg<|.go 6<|.il<|.st 4<|.rg<|.go 3<|.cg (i6 z) (vG 276) (vQ 276<|IG a n u fs)<|.fk (.no)<|.en<|.st 2<|.rg<|.go 4<|.il<|.st 3<|.rg<|.go 15<|.s3<|.go 2<|.an (((((fs.take n).set ((((0+n):Nat):Int) - 1).toNat<|AH fs n)).map aI).flatten) (NQ el) ((((((fs.take n).set ((((0+n):Nat):Int) - 1).toNat<|AH fs n).take (((0+n):Nat):Int).toNat++[(⟨el,0,0,false,[0,0,0,0,0,0,0,0],none⟩:Fr)])).map aI).flatten)<|.go 3<|.en<|.rg<|.go 1<|.cg (.tuple []) (vF 280<|aQ A1.pre m1 (.aq c1 13) A1.steps u1 br) (vQ 280<|IE a n u fs el)<|.en<|.rt 1<|.en<|.rt 1<|.en<|.st 1<|.rg<|.go 1<|.cg (.tuple []) (vF 280<|aQ A2.pre m2 (.aq c2 13) A2.steps u2 bj) (vQ 280<|aQ A1.pre m1 (.aq c1 13) A1.steps u1 br)<|.en<|.st 2<|(zZ 2 A2 m2 (.aq c2 13) u2 bj 280 281))<|yp LM 14 272 (vR kP) [] (aQ a.pre n (.aq c 13) a.steps u fs) (.agg [(u8<|.ofNat 1),i0,i0]) k0 k1<|jI LM 28 272 (vR iO) [] (aQ a.pre n (.aq c 13) a.steps u fs) (IF to op nn N L aF n2 N2 L2 bd el) k0 k3 bU k2<|ai Bs<|zY (fs:=fs) (n:=n) ab dQ dQ<|ai Br<|dS ((((0+n):Nat):Int) - 1) (((0+n):Nat):Int)<|ai (mu fA dQ (jb (l:=(fs.take n)) (z:=((((0+n):Nat):Int) - 1)) ab dQ) 1 1 rfl)<|ai Bq<|dS ((((0+n):Nat):Int) - 1) (((0+n):Nat):Int)<|ai (ph fA dQ (jb (l:=(fs.take n)) (z:=((((0+n):Nat):Int) - 1)) ab dQ) (c':=(AH fs n)) (r:=[(i6<|((av (fs.take n)<|(((0+n):Nat):Int) - 1).ak+1))]) 1 rfl rfl rfl)<|jI LM 29 276 (vR jh) [(.agg [(u8<|op),(i6 nn),(.U N 0 L)])] (IG a n u fs) (i6 z) k5 k6 k4 bU<|aR (z≠0) fZ fun _=>(ai (show 0<=(((0+n):Nat):Int) from ab)<|ai (show(((0+n):Nat):Int)<=(((0+n):Nat):Int) from ab)<|ai (show(((0+n):Nat):Int)<=Int.ofNat (iY (0+n)<|.aq (0+n) 13) from(show(((0+n):Nat):Int)<=(((0+n):Nat):Int) from by omega))<|G4 (fs:=((fs.take n).set ((((0+n):Nat):Int) - 1).toNat<|AH fs n)) (n:=(((0+n):Nat):Int).toNat) (f:=(⟨el,0,0,false,[0,0,0,0,0,0,0,0],none⟩:Fr)) (cs:=(NQ el)) (show aI (⟨el,0,0,false,[0,0,0,0,0,0,0,0],none⟩:Fr)=(NQ el) from rfl) ab dQ dQ<|vU LM 41 280 (dH eG) [] (IE a n u fs el) (aQ A1.pre m1 (.aq c1 13) A1.steps u1 br) k7 k8 k9 PE)
end V6
end
section
open Go Go.Rn Go.RowKit Go.Proofs
namespace V7
open ch fT eX ij fO iz eO cG dj cQ di fW fD gH gP gV gi gj hJ iA iB iR jc jV ki kO jW mY nL lR oJ
noncomputable abbrev AI(fs:List Fr)(n:Nat):Fr:=({(av (fs.take n)<|(((0+n):Nat):Int) - 1) with ak:=((av (fs.take n)<|(((0+n):Nat):Int) - 1).ak+1),turns:=(av (fs.take n)<|(((0+n):Nat):Int) - 1).turns}:Fr)
noncomputable abbrev IH(a:MN)(n:Nat)(u:AV)(fs:List Fr)(bd:List St)(z:Int):VS:=aQ a.pre ((((0+n):Nat):Int).toNat+1) (.aq ((((0+n):Nat):Int).toNat+1) 13) (a.steps+1) u<|((fs.take n).set ((((0+n):Nat):Int) - 1).toNat<|AI fs n).take (((0+n):Nat):Int).toNat++[(⟨bd,0,((dW (cK z<|0)<|8) - 1),false,[0,0,0,0,0,0,0,0],none⟩:Fr)]
noncomputable abbrev II(to op nn:Int)(N L:Nat)(aF n2:Int)(N2 L2:Nat)(bd el:List St):AV:=.tuple [(.agg [(u8<|.ofNat 5),(i6 to),(u8<|op),(i6 nn),(.U N 0 L),(u8<|aF),(i6 n2),(.U N2 0 L2),(.U (nm (bd.map aL).flatten) 0 bd.length),(.U (nm (el.map aL).flatten) 0 el.length)]),(.bool true)]
noncomputable abbrev NR(bd:List St)(z:Int):List AV:=[(.U (nm (bd.map aL).flatten) 0 bd.length),i0,(i6<|((dW (cK z (0:Int)) (8:Int)) - 1)),(.bool false),i0,i0,i0,i0,i0,i0,i0,i0,(.slice none 0<|.known 0)]
noncomputable abbrev IJ(a:MN)(n:Nat)(u:AV)(fs:List Fr):VS:=aQ a.pre (0+n) (.aq (0+n) 13) (a.steps+1) u<|(fs.take n).set ((((0+n):Nat):Int) - 1).toNat<|AI fs n
theorem afr{B:aJ}{a:MN}{n c:Nat}{u:AV}{fs:List Fr}{A1:MN}{m1 c1:Nat}{u1:AV}{br:List Fr}{A2:MN}{m2 c2:Nat}{u2:AV}{bj:List Fr}{N L N2 L2:Nat}{to op nn aF n2 z wi t:Int}{bd el ol fb:List St}{fa ft y0 y1 y2 y3 y4 y5 y6 y7:Int}{fo:Bool}{ub:AV}(mc:Mt LM B)(h1:1<=n)(hn:n<=fs.length)(hc:n<=c)(hf:fs.length<=1000000)(hR:fs.length*13<=top)(aw:0<=(av (fs.take n)<|((0+n:Nat):Int) - 1).ak/\(av (fs.take n)<|((0+n:Nat):Int) - 1).ak<=1000000)(cn:0<=a.steps/\a.steps<=1000000000000)(hlen:bj.length<=1000000)(nG:(AV.U A2.G A2.q A2.lg).cM=true)(hz:0<(dW (cK z<|0)<|8)/\(dW (cK z<|0)<|8)<=8)(k0:bD 10 (aQ a.pre n (.aq c 13) a.steps u fs)=true)(k1:vR kP (aQ a.pre n (.aq c 13) a.steps u fs) []=some (.agg [(u8<|.ofNat 1),i0,i0]))(k2:((II to op nn N L aF n2 N2 L2 bd el):AV).hi=true)(k3:vR iO (aQ a.pre n (.aq c 13) a.steps u fs) []=some (II to op nn N L aF n2 N2 L2 bd el))(k4:([.agg [.int .u8 op,.int .i64 nn,.U N 0 L]]:List AV).all AV.hi=true)(k5:bD 10 (IJ a n u fs)=true)(k6:vR jh (IJ a n u fs) [(.agg [(u8<|op),(i6 nn),(.U N 0 L)])]=some (i6 z))(k7:bD 10 (IH a n u fs bd z)=true)(k8:dH eG (IH a n u fs bd z) []=some (.tuple [],(aQ A1.pre m1 (.aq c1 13) A1.steps u1 br)))(k9:bD 10 (aQ A1.pre m1 (.aq c1 13) A1.steps u1 br)=true)(rO:dH eG (aQ A1.pre m1 (.aq c1 13) A1.steps u1 br) []=some (.tuple [],(aQ A2.pre m2 (.aq c2 13) A2.steps u2 bj)))(yc:bD 10 (aQ A2.pre m2 (.aq c2 13) A2.steps u2 bj)=true)(H:lU B (az Tryz.f15) (aQ A2.pre m2 (.aq c2 13) A2.steps u2 bj) (kX 15 2 38<|cO 15 [1,1,1,1,1,1,1,1,1])<|nU A2 m2 (.aq c2 13) u2 bj):lU B (az Tryz.f15) (aQ A2.pre m2 (.aq c2 13) A2.steps u2 bj) (sF 15 Tryz.f15 [(.ptr<|some (270,0))])<|ah (ar++aW (dB 270 3<|aQ a.pre n (.aq c 13) a.steps u fs)) 273:=by have ht:top=549755813888:=rfl;exact z6 mc H (.st 8<|.rg<|.go 1<|.cg (.agg [(u8<|.ofNat 1),i0,i0]) (vG 272) (vQ 272<|aQ a.pre n (.aq c 13) a.steps u fs)<|.go 3<|.en<|.st 6<|.rg<|.go 1<|.cg (II to op nn N L aF n2 N2 L2 bd el) (vG 272) (vQ 272<|aQ a.pre n (.aq c 13) a.steps u fs)<|.go 6<|.en<|.st 1<|.rg<|.go 4<|.vl (i6<|a.steps+1)<|.go 3<|.en<|.st 1<|.rg<|.go 1<|.il<|.st 1<|.rg<|.go 4<|.il<|.st 8<|.rg<|.go 2<|.ao [] (((fs).map aI).flatten) ((((fs.take n)).map aI).flatten)<|.go 1<|.en<|.rt 1<|.go 1<|.en<|.st 1<|.rg<|.go 3<|.vl (i6<|(((0+n):Nat):Int) - 1)<|.ix<|.go 1<|.ld [(i6<|(av (fs.take n)<|(((0+n):Nat):Int) - 1).ak)]<|.vl (i6<|(av (fs.take n)<|(((0+n):Nat):Int) - 1).ak+1)<|.ix<|.go 1<|.mj (aA aI<|(fs.take n).set ((((0+n):Nat):Int) - 1).toNat<|AI fs n)<|.en<|.rt 2<|.en<|.st 1<|.rg<|.go 6<|.il<|.st 3<|.rg<|.go 3<|.cg (i6 z) (vG 276) (vQ 276<|IJ a n u fs)<|.vl (i6<|(cK z (0:Int)))<|.vl (i6<|(dW (cK z (0:Int)) (8:Int)))<|.go 1<|.en<|.st 1<|.rg<|.go 1<|.fk (.en<|.st 1<|.rg<|.go 4<|.vl (i6<|(dW (cK z (0:Int)) (8:Int)) - 1)<|.go 1<|.il<|.st 3<|.rg<|.go 15<|.s3<|.go 2<|.an (((((fs.take n).set ((((0+n):Nat):Int) - 1).toNat<|AI fs n)).map aI).flatten) (NR bd z) ((((((fs.take n).set ((((0+n):Nat):Int) - 1).toNat<|AI fs n).take (((0+n):Nat):Int).toNat++[(⟨bd,0,((dW (cK z<|0)<|8) - 1),false,[0,0,0,0,0,0,0,0],none⟩:Fr)])).map aI).flatten)<|.go 3<|.en<|.rg<|.go 1<|.cg (.tuple []) (vF 280<|aQ A1.pre m1 (.aq c1 13) A1.steps u1 br) (vQ 280<|IH a n u fs bd z)<|.en<|.rt 1<|.en<|.rt 1<|.en<|.st 1<|.rg<|.go 1<|.cg (.tuple []) (vF 280<|aQ A2.pre m2 (.aq c2 13) A2.steps u2 bj) (vQ 280<|aQ A1.pre m1 (.aq c1 13) A1.steps u1 br)<|.en<|.st 2<|(zZ 2 A2 m2 (.aq c2 13) u2 bj 280 281))<|.no)<|yp LM 14 272 (vR kP) [] (aQ a.pre n (.aq c 13) a.steps u fs) (.agg [(u8<|.ofNat 1),i0,i0]) k0 k1<|jI LM 28 272 (vR iO) [] (aQ a.pre n (.aq c 13) a.steps u fs) (II to op nn N L aF n2 N2 L2 bd el) k0 k3 bU k2<|ai Bs<|zY (fs:=fs) (n:=n) ab dQ dQ<|ai Br<|dS ((((0+n):Nat):Int) - 1) (((0+n):Nat):Int)<|ai (mu fA dQ (jb (l:=(fs.take n)) (z:=((((0+n):Nat):Int) - 1)) ab dQ) 1 1 rfl)<|ai Bq<|dS ((((0+n):Nat):Int) - 1) (((0+n):Nat):Int)<|ai (ph fA dQ (jb (l:=(fs.take n)) (z:=((((0+n):Nat):Int) - 1)) ab dQ) (c':=(AI fs n)) (r:=[(i6<|((av (fs.take n)<|(((0+n):Nat):Int) - 1).ak+1))]) 1 rfl rfl rfl)<|jI LM 29 276 (vR jh) [(.agg [(u8<|op),(i6 nn),(.U N 0 L)])] (IJ a n u fs) (i6 z) k5 k6 k4 bU<|ai (congrArg (AV.int .i64) (show(match decide ((0:Int)>z) with|true=>(0:Int)|false=>z)=cK z (0:Int) from rfl))<|ai (congrArg (AV.int .i64) (show(match decide ((8:Int)<(cK z (0:Int))) with|true=>(8:Int)|false=>(cK z (0:Int)))=dW (cK z (0:Int)) (8:Int) from rfl))<|aR ((dW (cK z (0:Int)) (8:Int))>0) (fun _=>(ai (wI<|(dW (cK z (0:Int)) (8:Int)) - 1)<|ai (show 0<=(((0+n):Nat):Int) from ab)<|ai (show(((0+n):Nat):Int)<=(((0+n):Nat):Int) from ab)<|ai (show(((0+n):Nat):Int)<=Int.ofNat (iY (0+n)<|.aq (0+n) 13) from(show(((0+n):Nat):Int)<=(((0+n):Nat):Int) from by omega))<|G4 (fs:=((fs.take n).set ((((0+n):Nat):Int) - 1).toNat<|AI fs n)) (n:=(((0+n):Nat):Int).toNat) (f:=(⟨bd,0,((dW (cK z<|0)<|8) - 1),false,[0,0,0,0,0,0,0,0],none⟩:Fr)) (cs:=(NR bd z)) (show aI (⟨bd,0,((dW (cK z<|0)<|8) - 1),false,[0,0,0,0,0,0,0,0],none⟩:Fr)=(NR bd z) from rfl) ab dQ dQ<|vU LM 41 280 (dH eG) [] (IH a n u fs bd z) (aQ A1.pre m1 (.aq c1 13) A1.steps u1 br) k7 k8 k9 PE)) fZ
end V7
end
section
open Go Go.Rn Go.RowKit Go.Proofs
namespace V8
open ch fT eX ij fO iz eO cG dj cQ di fW fD gH gP gV gi gj hJ iA iB iR jc jV ki kO jW mY nL lR oJ
noncomputable abbrev AJ(a:MN)(n:Nat)(u:AV)(fs:List Fr):VS:=aQ a.pre (0+n) (.aq (0+n) 13) (a.steps+1) u<|(fs.take n).set ((((0+n):Nat):Int) - 1).toNat ({(av (fs.take n)<|(((0+n):Nat):Int) - 1) with ak:=((av (fs.take n)<|(((0+n):Nat):Int) - 1).ak+1),turns:=(av (fs.take n)<|(((0+n):Nat):Int) - 1).turns}:Fr)
noncomputable abbrev IK(to op nn:Int)(N L:Nat)(aF n2:Int)(N2 L2:Nat)(bd el:List St):AV:=.tuple [(.agg [(u8<|.ofNat 5),(i6 to),(u8<|op),(i6 nn),(.U N 0 L),(u8<|aF),(i6 n2),(.U N2 0 L2),(.U (nm (bd.map aL).flatten) 0 bd.length),(.U (nm (el.map aL).flatten) 0 el.length)]),(.bool true)]
theorem afs{B:aJ}{a:MN}{n c:Nat}{u:AV}{fs:List Fr}{A1:MN}{m1 c1:Nat}{u1:AV}{br:List Fr}{A2:MN}{m2 c2:Nat}{u2:AV}{bj:List Fr}{N L N2 L2:Nat}{to op nn aF n2 z wi t:Int}{bd el ol fb:List St}{fa ft y0 y1 y2 y3 y4 y5 y6 y7:Int}{fo:Bool}{ub:AV}(mc:Mt LM B)(h1:1<=n)(hn:n<=fs.length)(hc:n<=c)(hf:fs.length<=1000000)(hR:fs.length*13<=top)(aw:0<=(av (fs.take n)<|((0+n:Nat):Int) - 1).ak/\(av (fs.take n)<|((0+n:Nat):Int) - 1).ak<=1000000)(cn:0<=a.steps/\a.steps<=1000000000000)(hlen:br.length<=1000000)(nG:(AV.U A1.G A1.q A1.lg).cM=true)(hz:(dW (cK z<|0)<|8)<=0)(k0:bD 10 (aQ a.pre n (.aq c 13) a.steps u fs)=true)(k1:vR kP (aQ a.pre n (.aq c 13) a.steps u fs) []=some (.agg [(u8<|.ofNat 1),i0,i0]))(k2:((IK to op nn N L aF n2 N2 L2 bd el):AV).hi=true)(k3:vR iO (aQ a.pre n (.aq c 13) a.steps u fs) []=some (IK to op nn N L aF n2 N2 L2 bd el))(k4:([.agg [.int .u8 op,.int .i64 nn,.U N 0 L]]:List AV).all AV.hi=true)(k5:bD 10 (AJ a n u fs)=true)(k6:vR jh (AJ a n u fs) [(.agg [(u8<|op),(i6 nn),(.U N 0 L)])]=some (i6 z))(k7:dH eG (AJ a n u fs) []=some (.tuple [],(aQ A1.pre m1 (.aq c1 13) A1.steps u1 br)))(k8:bD 10 (aQ A1.pre m1 (.aq c1 13) A1.steps u1 br)=true)(H:lU B (az Tryz.f15) (aQ A1.pre m1 (.aq c1 13) A1.steps u1 br) (kX 15 2 38<|cO 15 [1,1,1,1,1,1,1,1,1])<|nU A1 m1 (.aq c1 13) u1 br):lU B (az Tryz.f15) (aQ A1.pre m1 (.aq c1 13) A1.steps u1 br) (sF 15 Tryz.f15 [(.ptr<|some (270,0))])<|ah (ar++aW (dB 270 3<|aQ a.pre n (.aq c 13) a.steps u fs)) 273:=by have ht:top=549755813888:=rfl;exact z6 mc H (.st 8<|.rg<|.go 1<|.cg (.agg [(u8<|.ofNat 1),i0,i0]) (vG 272) (vQ 272<|aQ a.pre n (.aq c 13) a.steps u fs)<|.go 3<|.en<|.st 6<|.rg<|.go 1<|.cg (IK to op nn N L aF n2 N2 L2 bd el) (vG 272) (vQ 272<|aQ a.pre n (.aq c 13) a.steps u fs)<|.go 6<|.en<|.st 1<|.rg<|.go 4<|.vl (i6<|a.steps+1)<|.go 3<|.en<|.st 1<|.rg<|.go 1<|.il<|.st 1<|.rg<|.go 4<|.il<|.st 8<|.rg<|.go 2<|.ao [] (((fs).map aI).flatten) ((((fs.take n)).map aI).flatten)<|.go 1<|.en<|.rt 1<|.go 1<|.en<|.st 1<|.rg<|.go 3<|.vl (i6<|(((0+n):Nat):Int) - 1)<|.ix<|.go 1<|.ld [(i6<|(av (fs.take n)<|(((0+n):Nat):Int) - 1).ak)]<|.vl (i6<|(av (fs.take n)<|(((0+n):Nat):Int) - 1).ak+1)<|.ix<|.go 1<|.mj (aA aI<|(fs.take n).set ((((0+n):Nat):Int) - 1).toNat ({(av (fs.take n)<|(((0+n):Nat):Int) - 1) with ak:=((av (fs.take n)<|(((0+n):Nat):Int) - 1).ak+1),turns:=(av (fs.take n)<|(((0+n):Nat):Int) - 1).turns}:Fr))<|.en<|.rt 2<|.en<|.st 1<|.rg<|.go 6<|.il<|.st 3<|.rg<|.go 3<|.cg (i6 z) (vG 276) (vQ 276<|AJ a n u fs)<|.vl (i6<|(cK z (0:Int)))<|.vl (i6<|(dW (cK z (0:Int)) (8:Int)))<|.go 1<|.en<|.st 1<|.rg<|.go 1<|.fk (.no)<|.en<|.rt 3<|.en<|.st 1<|.rg<|.go 1<|.cg (.tuple []) (vF 276<|aQ A1.pre m1 (.aq c1 13) A1.steps u1 br) (vQ 276<|AJ a n u fs)<|.en<|.st 2<|(zZ 2 A1 m1 (.aq c1 13) u1 br 276 278))<|yp LM 14 272 (vR kP) [] (aQ a.pre n (.aq c 13) a.steps u fs) (.agg [(u8<|.ofNat 1),i0,i0]) k0 k1<|jI LM 28 272 (vR iO) [] (aQ a.pre n (.aq c 13) a.steps u fs) (IK to op nn N L aF n2 N2 L2 bd el) k0 k3 bU k2<|ai Bs<|zY (fs:=fs) (n:=n) ab dQ dQ<|ai Br<|dS ((((0+n):Nat):Int) - 1) (((0+n):Nat):Int)<|ai (mu fA dQ (jb (l:=(fs.take n)) (z:=((((0+n):Nat):Int) - 1)) ab dQ) 1 1 rfl)<|ai Bq<|dS ((((0+n):Nat):Int) - 1) (((0+n):Nat):Int)<|ai (ph fA dQ (jb (l:=(fs.take n)) (z:=((((0+n):Nat):Int) - 1)) ab dQ) (c':=({(av (fs.take n)<|(((0+n):Nat):Int) - 1) with ak:=((av (fs.take n)<|(((0+n):Nat):Int) - 1).ak+1),turns:=(av (fs.take n)<|(((0+n):Nat):Int) - 1).turns}:Fr)) (r:=[(i6<|((av (fs.take n)<|(((0+n):Nat):Int) - 1).ak+1))]) 1 rfl rfl rfl)<|jI LM 29 276 (vR jh) [(.agg [(u8<|op),(i6 nn),(.U N 0 L)])] (AJ a n u fs) (i6 z) k5 k6 k4 bU<|ai (congrArg (AV.int .i64) (show(match decide ((0:Int)>z) with|true=>(0:Int)|false=>z)=cK z (0:Int) from rfl))<|ai (congrArg (AV.int .i64) (show(match decide ((8:Int)<(cK z (0:Int))) with|true=>(8:Int)|false=>(cK z (0:Int)))=dW (cK z (0:Int)) (8:Int) from rfl))<|aR ((dW (cK z (0:Int)) (8:Int))>0) fZ fun _=>(vU LM 41 276 (dH eG) [] (AJ a n u fs) (aQ A1.pre m1 (.aq c1 13) A1.steps u1 br) k5 k7 k8<|D9 15 2 38 (cO 15 [1,1,1,1,1,1,1,1,1]) A1 m1 (.aq c1 13) u1 br 276 278 hlen nG)
end V8
end
section
open Go Go.Rn Go.RowKit Go.Proofs
namespace WR
open ch fT eX ij fO iz eO cG dj cQ di fW fD gH gP gV gi gj hJ iA iB iR jc jV ki kO jW mY nL lR oJ
noncomputable abbrev C2(fs:List Fr)(n:Nat):Fr:=({(av (fs.take n)<|(((0+n):Nat):Int) - 1) with ak:=((av (fs.take n)<|(((0+n):Nat):Int) - 1).ak+1),turns:=(av (fs.take n)<|(((0+n):Nat):Int) - 1).turns}:Fr)
noncomputable abbrev Jj(a:MN)(n:Nat)(ub:AV)(fs:List Fr)(bd el:List St):VS:=aQ a.pre ((((0+n):Nat):Int).toNat+1) (.aq ((((0+n):Nat):Int).toNat+1) 13) (a.steps+1) ub<|((fs.take n).set ((((0+n):Nat):Int) - 1).toNat<|C2 fs n).take (((0+n):Nat):Int).toNat++[(⟨bd,0,0,true,[a.x0,a.x1,a.x2,a.x3,a.x4,a.x5,a.x6,a.x7],(some el)⟩:Fr)]
noncomputable abbrev Jk(to op nn:Int)(N L:Nat)(aF n2:Int)(N2 L2:Nat)(bd el:List St):AV:=.tuple [(.agg [(u8<|.ofNat 7),(i6 to),(u8<|op),(i6 nn),(.U N 0 L),(u8<|aF),(i6 n2),(.U N2 0 L2),(.U (nm (bd.map aL).flatten) 0 bd.length),(.U (nm (el.map aL).flatten) 0 el.length)]),(.bool true)]
noncomputable abbrev Oq(bd:List St)(a:MN)(el:List St):List AV:=[(.U (nm (bd.map aL).flatten) 0 bd.length),i0,i0,(.bool true),(i6 a.x0),(i6 a.x1),(i6 a.x2),(i6 a.x3),(i6 a.x4),(i6 a.x5),(i6 a.x6),(i6 a.x7),(.U (nm (el.map aL).flatten) 0 el.length)]
theorem ag3{B:aJ}{a:MN}{n c:Nat}{u:AV}{fs:List Fr}{A1:MN}{m1 c1:Nat}{u1:AV}{br:List Fr}{A2:MN}{m2 c2:Nat}{u2:AV}{bj:List Fr}{N L N2 L2:Nat}{to op nn aF n2 z wi t:Int}{bd el ol fb:List St}{fa ft y0 y1 y2 y3 y4 y5 y6 y7:Int}{fo:Bool}{ub:AV}(mc:Mt LM B)(h1:1<=n)(hn:n<=fs.length)(hc:n<=c)(hf:fs.length<=1000000)(hR:fs.length*13<=top)(aw:0<=(av (fs.take n)<|((0+n:Nat):Int) - 1).ak/\(av (fs.take n)<|((0+n:Nat):Int) - 1).ak<=1000000)(cn:0<=a.steps/\a.steps<=1000000000000)(hlen:bj.length<=1000000)(nG:(AV.U A2.G A2.q A2.lg).cM=true)(k0:bD 10 (aQ a.pre n (.aq c 13) a.steps u fs)=true)(k1:vR kP (aQ a.pre n (.aq c 13) a.steps u fs) []=some (.agg [(u8<|.ofNat 1),i0,i0]))(k2:((Jk to op nn N L aF n2 N2 L2 bd el):AV).hi=true)(k3:vR iO (aQ a.pre n (.aq c 13) a.steps u fs) []=some (Jk to op nn N L aF n2 N2 L2 bd el))(k4:iI (gU bI Jd) u []=some ((.int .i64 0:AV),ub))(k5:bD 10 (Jj a n ub fs bd el)=true)(k6:dH eG (Jj a n ub fs bd el) []=some (.tuple [],(aQ A1.pre m1 (.aq c1 13) A1.steps u1 br)))(k7:bD 10 (aQ A1.pre m1 (.aq c1 13) A1.steps u1 br)=true)(k8:dH eG (aQ A1.pre m1 (.aq c1 13) A1.steps u1 br) []=some (.tuple [],(aQ A2.pre m2 (.aq c2 13) A2.steps u2 bj)))(k9:bD 10 (aQ A2.pre m2 (.aq c2 13) A2.steps u2 bj)=true)(H:lU B (az Tryz.f15) (aQ A2.pre m2 (.aq c2 13) A2.steps u2 bj) (kX 15 2 38<|cO 15 [1,1,1,1,1,1,1,1,1])<|nU A2 m2 (.aq c2 13) u2 bj):lU B (az Tryz.f15) (aQ A2.pre m2 (.aq c2 13) A2.steps u2 bj) (sF 15 Tryz.f15 [(.ptr<|some (270,0))])<|ah (ar++aW (dB 270 3<|aQ a.pre n (.aq c 13) a.steps u fs)) 273:=by have ht:top=549755813888:=rfl;exact z6 mc H (.st 8<|.rg<|.go 1<|.cg (.agg [(u8<|.ofNat 1),i0,i0]) (vG 272) (vQ 272<|aQ a.pre n (.aq c 13) a.steps u fs)<|.go 3<|.en<|.st 6<|.rg<|.go 1<|.cg (Jk to op nn N L aF n2 N2 L2 bd el) (vG 272) (vQ 272<|aQ a.pre n (.aq c 13) a.steps u fs)<|.go 6<|.en<|.st 1<|.rg<|.go 4<|.vl (i6<|a.steps+1)<|.go 3<|.en<|.st 1<|.rg<|.go 1<|.il<|.st 1<|.rg<|.go 4<|.il<|.st 8<|.rg<|.go 2<|.ao [] (((fs).map aI).flatten) ((((fs.take n)).map aI).flatten)<|.go 1<|.en<|.rt 1<|.go 1<|.en<|.st 1<|.rg<|.go 3<|.vl (i6<|(((0+n):Nat):Int) - 1)<|.ix<|.go 1<|.ld [(i6<|(av (fs.take n)<|(((0+n):Nat):Int) - 1).ak)]<|.vl (i6<|(av (fs.take n)<|(((0+n):Nat):Int) - 1).ak+1)<|.ix<|.go 1<|.mj (aA aI<|(fs.take n).set ((((0+n):Nat):Int) - 1).toNat<|C2 fs n)<|.en<|.rt 2<|.en<|.st 1<|.rg<|.go 6<|.il<|.st 3<|.rg<|.go 4<|.kt i0 ub<|.en<|.rg<|.go 10<|.il<|.st 3<|.rg<|.go 15<|.s3<|.go 2<|.an (((((fs.take n).set ((((0+n):Nat):Int) - 1).toNat<|C2 fs n)).map aI).flatten) (Oq bd a el) ((((((fs.take n).set ((((0+n):Nat):Int) - 1).toNat<|C2 fs n).take (((0+n):Nat):Int).toNat++[(⟨bd,0,0,true,[a.x0,a.x1,a.x2,a.x3,a.x4,a.x5,a.x6,a.x7],(some el)⟩:Fr)])).map aI).flatten)<|.go 3<|.en<|.rg<|.go 1<|.cg (.tuple []) (vF 280<|aQ A1.pre m1 (.aq c1 13) A1.steps u1 br) (vQ 280<|Jj a n ub fs bd el)<|.en<|.rt 1<|.en<|.rt 1<|.en<|.st 1<|.rg<|.go 1<|.cg (.tuple []) (vF 280<|aQ A2.pre m2 (.aq c2 13) A2.steps u2 bj) (vQ 280<|aQ A1.pre m1 (.aq c1 13) A1.steps u1 br)<|.en<|.st 2<|(zZ 2 A2 m2 (.aq c2 13) u2 bj 280 281))<|yp LM 14 272 (vR kP) [] (aQ a.pre n (.aq c 13) a.steps u fs) (.agg [(u8<|.ofNat 1),i0,i0]) k0 k1<|jI LM 28 272 (vR iO) [] (aQ a.pre n (.aq c 13) a.steps u fs) (Jk to op nn N L aF n2 N2 L2 bd el) k0 k3 bU k2<|ai Bs<|zY (fs:=fs) (n:=n) ab dQ dQ<|ai Br<|dS ((((0+n):Nat):Int) - 1) (((0+n):Nat):Int)<|ai (mu fA dQ (jb (l:=(fs.take n)) (z:=((((0+n):Nat):Int) - 1)) ab dQ) 1 1 rfl)<|ai Bq<|dS ((((0+n):Nat):Int) - 1) (((0+n):Nat):Int)<|ai (ph fA dQ (jb (l:=(fs.take n)) (z:=((((0+n):Nat):Int) - 1)) ab dQ) (c':=(C2 fs n)) (r:=[(i6<|((av (fs.take n)<|(((0+n):Nat):Int) - 1).ak+1))]) 1 rfl rfl rfl)<|ai k4<|ai (show 0<=(((0+n):Nat):Int) from ab)<|ai (show(((0+n):Nat):Int)<=(((0+n):Nat):Int) from ab)<|ai (show(((0+n):Nat):Int)<=Int.ofNat (iY (0+n)<|.aq (0+n) 13) from(show(((0+n):Nat):Int)<=(((0+n):Nat):Int) from by omega))<|G4 (fs:=((fs.take n).set ((((0+n):Nat):Int) - 1).toNat<|C2 fs n)) (n:=(((0+n):Nat):Int).toNat) (f:=(⟨bd,0,0,true,[a.x0,a.x1,a.x2,a.x3,a.x4,a.x5,a.x6,a.x7],(some el)⟩:Fr)) (cs:=(Oq bd a el)) (show aI (⟨bd,0,0,true,[a.x0,a.x1,a.x2,a.x3,a.x4,a.x5,a.x6,a.x7],(some el)⟩:Fr)=(Oq bd a el) from rfl) ab dQ dQ<|vU LM 41 280 (dH eG) [] (Jj a n ub fs bd el) (aQ A1.pre m1 (.aq c1 13) A1.steps u1 br) k5 k6 k7<|vU LM 41 280 (dH eG) [] (aQ A1.pre m1 (.aq c1 13) A1.steps u1 br) (aQ A2.pre m2 (.aq c2 13) A2.steps u2 bj) k7 k8 k9<|D9 15 2 38 (cO 15 [1,1,1,1,1,1,1,1,1]) A2 m2 (.aq c2 13) u2 bj 280 281 hlen nG
end WR
end
section
open Go Go.Rn Go.RowKit Go.Proofs
namespace WS
open ch fT eX ij fO iz eO cG dj cQ di fW fD gH gP gV gi gj hJ iA iB iR jc jV ki kO jW mY nL lR oJ
noncomputable abbrev yT(fs:List Fr)(n:Nat):Fr:=({(av (fs.take n)<|(((0+n):Nat):Int) - 1) with ak:=((av (fs.take n)<|(((0+n):Nat):Int) - 1).ak+1),turns:=(av (fs.take n)<|(((0+n):Nat):Int) - 1).turns}:Fr)
noncomputable abbrev Jl(a:MN)(y0 y1 y2 y3 y4 y5 y6 y7 wi:Int)(ub:AV)(fs:List Fr)(n:Nat)(ol:List St):VS:=aQ [(i6 a.vars),(.U a.G a.q a.lg),(i6 y0),(i6 y1),(i6 y2),(i6 y3),(i6 y4),(i6 y5),(i6 y6),(i6 y7)] ((((wi).toNat:Nat):Int).toNat+1) (.aq ((((wi).toNat:Nat):Int).toNat+1) 13) (a.steps+1) ub<|((fs.take n).set ((((0+n):Nat):Int) - 1).toNat<|yT fs n).take (((wi).toNat:Nat):Int).toNat++[(⟨ol,0,0,false,[0,0,0,0,0,0,0,0],none⟩:Fr)]
noncomputable abbrev Jm(to op nn:Int)(N L:Nat)(aF n2:Int)(N2 L2:Nat)(bd el:List St):AV:=.tuple [(.agg [(u8<|.ofNat 6),(i6 to),(u8<|op),(i6 nn),(.U N 0 L),(u8<|aF),(i6 n2),(.U N2 0 L2),(.U (nm (bd.map aL).flatten) 0 bd.length),(.U (nm (el.map aL).flatten) 0 el.length)]),(.bool true)]
noncomputable abbrev Jn(a:MN)(n:Nat)(u:AV)(fs:List Fr):VS:=aQ a.pre (0+n) (.aq (0+n) 13) (a.steps+1) u<|(fs.take n).set ((((0+n):Nat):Int) - 1).toNat<|yT fs n
noncomputable abbrev Ot(ol:List St):List AV:=[(.U (nm (ol.map aL).flatten) 0 ol.length),i0,i0,(.bool false),i0,i0,i0,i0,i0,i0,i0,i0,(.slice none 0<|.known 0)]
theorem ag4{B:aJ}{a:MN}{n c:Nat}{u:AV}{fs:List Fr}{A1:MN}{m1 c1:Nat}{u1:AV}{br:List Fr}{A2:MN}{m2 c2:Nat}{u2:AV}{bj:List Fr}{N L N2 L2:Nat}{to op nn aF n2 z wi t:Int}{bd el ol fb:List St}{fa ft y0 y1 y2 y3 y4 y5 y6 y7:Int}{fo:Bool}{ub:AV}(mc:Mt LM B)(h1:1<=n)(hn:n<=fs.length)(hc:n<=c)(hf:fs.length<=1000000)(hR:fs.length*13<=top)(aw:0<=(av (fs.take n)<|((0+n:Nat):Int) - 1).ak/\(av (fs.take n)<|((0+n:Nat):Int) - 1).ak<=1000000)(cn:0<=a.steps/\a.steps<=1000000000000)(hlen:bj.length<=1000000)(nG:(AV.U A2.G A2.q A2.lg).cM=true)(hz:1<=wi/\wi<(n:Int))(k0:bD 10 (aQ a.pre n (.aq c 13) a.steps u fs)=true)(k1:vR kP (aQ a.pre n (.aq c 13) a.steps u fs) []=some (.agg [(u8<|.ofNat 1),i0,i0]))(k2:((Jm to op nn N L aF n2 N2 L2 bd el):AV).hi=true)(k3:vR iO (aQ a.pre n (.aq c 13) a.steps u fs) []=some (Jm to op nn N L aF n2 N2 L2 bd el))(k4:bD 10 (Jn a n u fs)=true)(k5:vR qV (Jn a n u fs) []=some (i6 wi))(k6:((fs.take n).set ((((0+n):Nat):Int) - 1).toNat<|yT fs n)[wi.toNat]? =some (⟨fb,fa,ft,fo,[y0,y1,y2,y3,y4,y5,y6,y7],some ol⟩:Fr))(k7:iI (gU bI Je) u []=some ((.int .i64 0:AV),ub))(k8:bD 10 (Jl a y0 y1 y2 y3 y4 y5 y6 y7 wi ub fs n ol)=true)(k9:dH eG (Jl a y0 y1 y2 y3 y4 y5 y6 y7 wi ub fs n ol) []=some (.tuple [],(aQ A1.pre m1 (.aq c1 13) A1.steps u1 br)))(rO:bD 10 (aQ A1.pre m1 (.aq c1 13) A1.steps u1 br)=true)(yc:dH eG (aQ A1.pre m1 (.aq c1 13) A1.steps u1 br) []=some (.tuple [],(aQ A2.pre m2 (.aq c2 13) A2.steps u2 bj)))(k12:bD 10 (aQ A2.pre m2 (.aq c2 13) A2.steps u2 bj)=true)(H:lU B (az Tryz.f15) (aQ A2.pre m2 (.aq c2 13) A2.steps u2 bj) (kX 15 2 38<|cO 15 [1,1,1,1,1,1,1,1,1])<|nU A2 m2 (.aq c2 13) u2 bj):lU B (az Tryz.f15) (aQ A2.pre m2 (.aq c2 13) A2.steps u2 bj) (sF 15 Tryz.f15 [(.ptr<|some (270,0))])<|ah (ar++aW (dB 270 3<|aQ a.pre n (.aq c 13) a.steps u fs)) 273:=by have ht:top=549755813888:=rfl;exact z6 mc H (.st 8<|.rg<|.go 1<|.cg (.agg [(u8<|.ofNat 1),i0,i0]) (vG 272) (vQ 272<|aQ a.pre n (.aq c 13) a.steps u fs)<|.go 3<|.en<|.st 6<|.rg<|.go 1<|.cg (Jm to op nn N L aF n2 N2 L2 bd el) (vG 272) (vQ 272<|aQ a.pre n (.aq c 13) a.steps u fs)<|.go 6<|.en<|.st 1<|.rg<|.go 4<|.vl (i6<|a.steps+1)<|.go 3<|.en<|.st 1<|.rg<|.go 1<|.il<|.st 1<|.rg<|.go 4<|.il<|.st 8<|.rg<|.go 2<|.ao [] (((fs).map aI).flatten) ((((fs.take n)).map aI).flatten)<|.go 1<|.en<|.rt 1<|.go 1<|.en<|.st 1<|.rg<|.go 3<|.vl (i6<|(((0+n):Nat):Int) - 1)<|.ix<|.go 1<|.ld [(i6<|(av (fs.take n)<|(((0+n):Nat):Int) - 1).ak)]<|.vl (i6<|(av (fs.take n)<|(((0+n):Nat):Int) - 1).ak+1)<|.ix<|.go 1<|.mj (aA aI<|(fs.take n).set ((((0+n):Nat):Int) - 1).toNat<|yT fs n)<|.en<|.rt 2<|.en<|.st 1<|.rg<|.go 6<|.il<|.st 3<|.rg<|.go 1<|.cg (i6 wi) (vG 276) (vQ 276<|Jn a n u fs)<|.go 1<|.en<|.st 1<|.rg<|.go 5<|.ix<|.ld [(.U (nm (fb.map aL).flatten) 0 fb.length),(i6 fa),(i6 ft),(.bool fo),(i6 y0),(i6 y1),(i6 y2),(i6 y3),(i6 y4),(i6 y5),(i6 y6),(i6 y7),(.U (nm (ol.map aL).flatten) 0 ol.length)]<|.go 2<|.en<|.st 1<|.rg<|.go 6<|.so<|.go 3<|.en<|.st 1<|.rg<|.go 4<|.kt i0 ub<|.en<|.st 2<|.rg<|.go 4<|.il<|.st 3<|.rg<|.go 15<|.s3<|.go 2<|.an (((((fs.take n).set ((((0+n):Nat):Int) - 1).toNat<|yT fs n)).map aI).flatten) (Ot ol) ((((((fs.take n).set ((((0+n):Nat):Int) - 1).toNat<|yT fs n).take (((wi).toNat:Nat):Int).toNat++[(⟨ol,0,0,false,[0,0,0,0,0,0,0,0],none⟩:Fr)])).map aI).flatten)<|.go 3<|.en<|.rg<|.go 1<|.cg (.tuple []) (vF 281<|aQ A1.pre m1 (.aq c1 13) A1.steps u1 br) (vQ 281<|Jl a y0 y1 y2 y3 y4 y5 y6 y7 wi ub fs n ol)<|.en<|.rt 1<|.en<|.rt 1<|.en<|.st 1<|.rg<|.go 1<|.cg (.tuple []) (vF 281<|aQ A2.pre m2 (.aq c2 13) A2.steps u2 bj) (vQ 281<|aQ A1.pre m1 (.aq c1 13) A1.steps u1 br)<|.en<|.st 2<|(zZ 2 A2 m2 (.aq c2 13) u2 bj 281 282))<|yp LM 14 272 (vR kP) [] (aQ a.pre n (.aq c 13) a.steps u fs) (.agg [(u8<|.ofNat 1),i0,i0]) k0 k1<|jI LM 28 272 (vR iO) [] (aQ a.pre n (.aq c 13) a.steps u fs) (Jm to op nn N L aF n2 N2 L2 bd el) k0 k3 bU k2<|ai Bs<|zY (fs:=fs) (n:=n) ab dQ dQ<|ai Br<|dS ((((0+n):Nat):Int) - 1) (((0+n):Nat):Int)<|ai (mu fA dQ (jb (l:=(fs.take n)) (z:=((((0+n):Nat):Int) - 1)) ab dQ) 1 1 rfl)<|ai Bq<|dS ((((0+n):Nat):Int) - 1) (((0+n):Nat):Int)<|ai (ph fA dQ (jb (l:=(fs.take n)) (z:=((((0+n):Nat):Int) - 1)) ab dQ) (c':=(yT fs n)) (r:=[(i6<|((av (fs.take n)<|(((0+n):Nat):Int) - 1).ak+1))]) 1 rfl rfl rfl)<|yp LM 30 276 (vR qV) [] (Jn a n u fs) (i6 wi) k4 k5<|dS wi (((0+n):Nat):Int)<|ai (mu fA dQ k6 0 13 rfl)<|ai (show(0:Int)=0 from rfl)<|ai (show 0<=wi from ab)<|ai (show wi<=Int.ofNat (iY (0+n)<|.aq (0+n) 13) from(show wi<=(((0+n):Nat):Int) from by omega))<|ai k7<|ai (show 0<=(((wi).toNat:Nat):Int) from ab)<|ai (show(((wi).toNat:Nat):Int)<=(((wi).toNat:Nat):Int) from ab)<|ai (show(((wi).toNat:Nat):Int)<=Int.ofNat (iY ((wi).toNat)<|.aq (0+n) 13) from(show(((wi).toNat:Nat):Int)<=(((0+n):Nat):Int) from by omega))<|G4 (fs:=((fs.take n).set ((((0+n):Nat):Int) - 1).toNat<|yT fs n)) (n:=(((wi).toNat:Nat):Int).toNat) (f:=(⟨ol,0,0,false,[0,0,0,0,0,0,0,0],none⟩:Fr)) (cs:=(Ot ol)) (show aI (⟨ol,0,0,false,[0,0,0,0,0,0,0,0],none⟩:Fr)=(Ot ol) from rfl) ab dQ dQ<|vU LM 41 281 (dH eG) [] (Jl a y0 y1 y2 y3 y4 y5 y6 y7 wi ub fs n ol) (aQ A1.pre m1 (.aq c1 13) A1.steps u1 br) k8 k9 rO<|vU LM 41 281 (dH eG) [] (aQ A1.pre m1 (.aq c1 13) A1.steps u1 br) (aQ A2.pre m2 (.aq c2 13) A2.steps u2 bj) rO yc k12<|D9 15 2 38 (cO 15 [1,1,1,1,1,1,1,1,1]) A2 m2 (.aq c2 13) u2 bj 281 282 hlen nG
end WS
end
section
open Go Go.Rn Go.RowKit Go.Proofs
namespace WT
open ch fT eX ij fO iz eO cG dj cQ di fW fD gH gP gV gi gj hJ iA iB iR jc jV ki kO jW mY nL lR oJ
noncomputable abbrev xk(a:MN)(to xx:Int)(n:Nat)(u:AV)(fs:List Fr):VS:=aQ ((a.pre:List AV).set (2+to.toNat)<|i6 xx) (0+n) (.aq (0+n) 13) (a.steps+1) u<|(fs.take n).set ((((0+n):Nat):Int) - 1).toNat ({(av (fs.take n)<|(((0+n):Nat):Int) - 1) with ak:=((av (fs.take n)<|(((0+n):Nat):Int) - 1).ak+1),turns:=(av (fs.take n)<|(((0+n):Nat):Int) - 1).turns}:Fr)
noncomputable abbrev Jo(to op nn:Int)(N L:Nat)(aF n2:Int)(N2 L2:Nat)(bd el:List St):AV:=.tuple [(.agg [(u8<|.ofNat 2),(i6 to),(u8<|op),(i6 nn),(.U N 0 L),(u8<|aF),(i6 n2),(.U N2 0 L2),(.U (nm (bd.map aL).flatten) 0 bd.length),(.U (nm (el.map aL).flatten) 0 el.length)]),(.bool true)]
theorem ag5{B:aJ}{a:MN}{n c:Nat}{u:AV}{fs:List Fr}{A1:MN}{m1 c1:Nat}{u1:AV}{br:List Fr}{A2:MN}{m2 c2:Nat}{u2:AV}{bj:List Fr}{N L N2 L2:Nat}{to op nn aF n2 z wi t:Int}{bd el ol fb:List St}{fa ft y0 y1 y2 y3 y4 y5 y6 y7:Int}{fo:Bool}{ub:AV}{xx:Int}(mc:Mt LM B)(h1:1<=n)(hn:n<=fs.length)(hc:n<=c)(hf:fs.length<=1000000)(hR:fs.length*13<=top)(aw:0<=(av (fs.take n)<|((0+n:Nat):Int) - 1).ak/\(av (fs.take n)<|((0+n:Nat):Int) - 1).ak<=1000000)(cn:0<=a.steps/\a.steps<=1000000000000)(hlen:br.length<=1000000)(nG:(AV.U A1.G A1.q A1.lg).cM=true)(h0:0<=to)(h8:to<8)(k0:bD 10 (aQ a.pre n (.aq c 13) a.steps u fs)=true)(k1:vR kP (aQ a.pre n (.aq c 13) a.steps u fs) []=some (.agg [(u8<|.ofNat 2),(i6 wi),i0]))(k2:((Jo to op nn N L aF n2 N2 L2 bd el):AV).hi=true)(k3:vR iO (aQ a.pre n (.aq c 13) a.steps u fs) []=some (Jo to op nn N L aF n2 N2 L2 bd el))(k4:bD 10 (xk a to xx n u fs)=true)(k5:dH eG (xk a to xx n u fs) []=some (.tuple [],(aQ A1.pre m1 (.aq c1 13) A1.steps u1 br)))(k6:bD 10 (aQ A1.pre m1 (.aq c1 13) A1.steps u1 br)=true)(H:lU B (az Tryz.f42) (aQ A1.pre m1 (.aq c1 13) A1.steps u1 br) (kX 42 4 38<|cO 42 [1,1,1,1,1,1,1,1])<|nU A1 m1 (.aq c1 13) u1 br):lU B (az Tryz.f42) (aQ A1.pre m1 (.aq c1 13) A1.steps u1 br) (sF 42 Tryz.f42 [(.ptr<|some (270,0)),(i6 xx)])<|ah (ar++aW (dB 270 3<|aQ a.pre n (.aq c 13) a.steps u fs)) 273:=by have ht:top=549755813888:=rfl;exact z6 mc H (.st 8<|.rg<|.go 1<|.cg (.agg [(u8<|.ofNat 2),(i6 wi),i0]) (vG 272) (vQ 272<|aQ a.pre n (.aq c 13) a.steps u fs)<|.go 3<|.en<|.st 4<|.rg<|.go 1<|.cg (Jo to op nn N L aF n2 N2 L2 bd el) (vG 272) (vQ 272<|aQ a.pre n (.aq c 13) a.steps u fs)<|.go 6<|.en<|.st 1<|.rg<|.go 4<|.vl (i6<|a.steps+1)<|.go 3<|.en<|.st 1<|.rg<|.go 1<|.il<|.st 1<|.rg<|.go 4<|.il<|.st 8<|.rg<|.go 2<|.ao [] (((fs).map aI).flatten) ((((fs.take n)).map aI).flatten)<|.go 1<|.en<|.rt 1<|.go 1<|.en<|.st 1<|.rg<|.go 3<|.vl (i6<|(((0+n):Nat):Int) - 1)<|.ix<|.go 1<|.ld [(i6<|(av (fs.take n)<|(((0+n):Nat):Int) - 1).ak)]<|.vl (i6<|(av (fs.take n)<|(((0+n):Nat):Int) - 1).ak+1)<|.ix<|.go 1<|.mj (aA aI<|(fs.take n).set ((((0+n):Nat):Int) - 1).toNat ({(av (fs.take n)<|(((0+n):Nat):Int) - 1) with ak:=((av (fs.take n)<|(((0+n):Nat):Int) - 1).ak+1),turns:=(av (fs.take n)<|(((0+n):Nat):Int) - 1).turns}:Fr))<|.en<|.rt 2<|.en<|.st 1<|.rg<|.go 6<|.KG<|.mj (aA mX<|((a.row (.ptr<|some (271,0)) (.slice (some (275,0)) ((0+n))<|.aq (0+n) 13)<|i6<|(a.steps+1)):List AV).set (2+to.toNat)<|i6 xx)<|.en<|.st 1<|.rg<|.go 1<|.cg (.tuple []) (JM 270 dF dT 3 270 271 275<|aQ A1.pre m1 (.aq c1 13) A1.steps u1 br) (F0 270 dF dT 3 270 271 275<|xk a to xx n u fs)<|.en<|.st 2<|(zZ 4 A1 m1 (.aq c1 13) u1 br 275 276))<|yp LM 14 272 (vR kP) [] (aQ a.pre n (.aq c 13) a.steps u fs) (.agg [(u8<|.ofNat 2),(i6 wi),i0]) k0 k1<|jI LM 28 272 (vR iO) [] (aQ a.pre n (.aq c 13) a.steps u fs) (Jo to op nn N L aF n2 N2 L2 bd el) k0 k3 bU k2<|ai Bs<|zY (fs:=fs) (n:=n) ab dQ dQ<|ai Br<|dS ((((0+n):Nat):Int) - 1) (((0+n):Nat):Int)<|ai (mu fA dQ (jb (l:=(fs.take n)) (z:=((((0+n):Nat):Int) - 1)) ab dQ) 1 1 rfl)<|ai Bq<|dS ((((0+n):Nat):Int) - 1) (((0+n):Nat):Int)<|ai (ph fA dQ (jb (l:=(fs.take n)) (z:=((((0+n):Nat):Int) - 1)) ab dQ) (c':=({(av (fs.take n)<|(((0+n):Nat):Int) - 1) with ak:=((av (fs.take n)<|(((0+n):Nat):Int) - 1).ak+1),turns:=(av (fs.take n)<|(((0+n):Nat):Int) - 1).turns}:Fr)) (r:=[(i6<|((av (fs.take n)<|(((0+n):Nat):Int) - 1).ak+1))]) 1 rfl rfl rfl)<|dS to (Int.ofNat 8)<|ai (Ty (c':=(i6 xx)) (show((a.row (.ptr<|some (271,0)) (.slice (some (275,0)) ((0+n))<|.aq (0+n) 13)<|i6<|(a.steps+1)):List AV).length<=top from aM.1 aV) (Un (a.row (.ptr<|some (271,0)) (.slice (some (275,0)) ((0+n))<|.aq (0+n) 13)<|i6<|(a.steps+1)) (k:=2+to.toNat) ab) rfl)<|ai (NN (P:=pg) (F:=FU) (sp:=sp LM) (g:=41) (J:=270) (h0:=dF) (ns:=dT) (rest:=[]) (n:=5) (kp:=10) (k:=3) (val:=dH eG) (a:=270) (r1:=271) (r2:=275) (st:=(xk a to xx n u fs)) (aU:=(aQ A1.pre m1 (.aq c1 13) A1.steps u1 br)) (y:=.tuple []) bU bU bU bU (by simp only[List.length_set];rfl) k4 k5 bU k6)<|ai (show true=true/\true=true/\(some (aA mX<|((a.row (.ptr<|some (271,0)) (.slice (some (275,0)) ((0+n))<|.aq (0+n) 13)<|i6<|(a.steps+1)):List AV).set (2+to.toNat)<|i6 xx):Option ae)=some (bS<|dO ((xk a to xx n u fs)).R 271 275)/\(some (.tok 3 ((xk a to xx n u fs)).u):Option ae)=some (.tok 3 ((xk a to xx n u fs)).u)/\some (bS ((xk a to xx n u fs)).row)=some (bS ((xk a to xx n u fs)).row) from⟨rfl,rfl,congrArg some<|Uo (pre:=a.pre) (post:=[(i6<|(a.steps+1))]) (len:=(0+n)) (i:=(2+to.toNat)) (r1:=271) (r2:=275) (cap:=(.aq (0+n) 13)) (c:=(i6 xx)) (by show(2+to.toNat)<10;omega),rfl,rfl⟩)<|D9 42 4 38 (cO 42 [1,1,1,1,1,1,1,1]) A1 m1 (.aq c1 13) u1 br 275 276 hlen nG
end WT
end
section
open Go Go.Rn Go.RowKit Go.Proofs
namespace mf
open ch fT eX ij eO cG dj cQ di fW fD gH gP gV gi gj hJ iA iB iR jc jV ki kO jW fO iz
variable {fs:List Fr} {f:Fr}
def ia:Nat->List Fr->bg->Option (List Fr×bg)
 |0,_,_=>none
 |_+1,[],b=>some ([],b)
 |k+1,f::r,b=>
  if f.ak<(f.block.length:Int) then some (f::r,b)
  else if 0<f.turns then if 0<(f.block.length:Int) then some ({f with ak:=0,turns:=f.turns - 1}::r,b) else ia k ({f with ak:=0,turns:=f.turns - 1}::r) b
  else if f.bV=true then(if 2<=b.length then ia k r (ga b) else none)
  else ia k r b
def below:List Fr->Option (Fr×List Fr)
 |[]=>none
 |f::r=>if f.bV=true then some (f,r) else below r
theorem M7{n:Nat}{r:List Fr}(hn:n<=fs.length)(h:(fs.take n).reverse=f::r):∃m,n=m+1/\m<fs.length/\fs[m]? =some f/\(fs.take m).reverse=r:=by
 cases n with
 |zero=>simp at h
 |succ m=>
  have hm:m<fs.length:=by omega
  rw[List.take_add_one,List.getElem?_eq_getElem hm] at h;simp only[Option.toList,List.reverse_append,List.reverse_cons,List.reverse_nil,List.nil_append,List.cons_append,List.cons.injEq] at h;exact⟨m,rfl,hm,by rw[List.getElem?_eq_getElem hm,h.1],h.2⟩
theorem acd{m:Nat}(h:fs[m]? =some f):(fs.take<|m+1).reverse=f::(fs.take m).reverse:=by rw[List.take_add_one,h];simp only[Option.toList,List.reverse_append,List.reverse_cons,List.reverse_nil,List.nil_append,List.cons_append]
theorem M8{m:Nat}(h:fs[m]? =some f):av fs (m:Int)=f:=by unfold av;rw[List.getD_eq_getElem?_getD,show((m:Int)).toNat=m by omega,h];rfl
theorem TN{m:Nat}(h:fs[m]? =some f):av fs (((m+1:Nat):Int) - 1)=f:=by rw[show(((m+1:Nat):Int) - 1)=(m:Int) by omega];exact M8 h
theorem take_set{m:Nat}(g:Fr)(hm:m<fs.length):((fs.set m g).take<|m+1).reverse=g::(fs.take m).reverse:=by rw[acd (f:=g)<|by rw[List.getElem?_set_self hm]];congr 2;rw[List.take_set_of_le<|Nat.le_refl m]
theorem HM:∀(k n:Nat) (fs:List Fr) (b:bg) (st aU:List Fr) (b':bg),ia k st b=some (aU,b')->n<=fs.length->(fs.take n).reverse=st->∃n' cW,oe k n fs b=some (n',cW,b')/\n'<=n/\cW.length=fs.length/\(cW.take n').reverse=aU
 |0,_,_,_,_,_,_,h,_,_=>by cases h
 |k+1,n,fs,b,st,aU,b',h,hn,e=>by
  cases st with
  |nil=>
   have n0:n=0:=by have:=congrArg List.length e;rw[List.length_reverse,List.length_take] at this;simp only[List.length_nil] at this;omega
   unfold ia at h;injection h with h;injection h with h1 h2
   subst h1;subst h2;exact⟨n,fs,by unfold oe;rw[if_pos n0],Nat.le_refl _,rfl,e⟩
  |cons f r=>
   obtain⟨m,rfl,hm,hf,hr⟩:=M7 hn e;have ef:=TN hf;have em:(((m+1:Nat):Int) - 1).toNat=m:=by omega
   unfold ia at h;unfold oe;rw[if_neg ab];simp only[ef,em];by_cases c1:f.ak<(f.block.length:Int)
   ·rw[if_pos c1] at h ⊢;injection h with h;injection h with h1 h2
    subst h1;subst h2;exact⟨m+1,fs,rfl,Nat.le_refl _,rfl,e⟩
   ·rw[if_neg c1] at h ⊢;by_cases c2:0<f.turns
    ·rw[if_pos c2] at h ⊢;have e2:=take_set {f with ak:=0,turns:=f.turns - 1} hm;rw[hr] at e2;by_cases c3:0<(f.block.length:Int)
     ·rw[if_pos c3] at h ⊢;injection h with h;injection h with h1 h2
      subst h1;subst h2;exact⟨m+1,_,rfl,Nat.le_refl _,List.length_set,e2⟩
     ·rw[if_neg c3] at h ⊢;obtain⟨n',cW,a1,a2,a3,a4⟩:=HM k (m+1) _ b _ _ _ h (by rw[List.length_set];exact hn) e2;exact⟨n',cW,a1,a2,a3.trans List.length_set,a4⟩
    ·rw[if_neg c2] at h ⊢;by_cases c4:f.bV=true
     ·rw[if_pos c4] at h ⊢;by_cases c5:2<=b.length
      ·rw[if_pos c5] at h ⊢;obtain⟨n',cW,a1,a2,a3,a4⟩:=HM k m fs _ _ _ _ h ab hr;exact⟨n',cW,a1,by omega,a3,a4⟩
      ·rw[if_neg c5] at h;cases h
     ·rw[if_neg c4] at h ⊢;obtain⟨n',cW,a1,a2,a3,a4⟩:=HM k m fs _ _ _ _ h ab hr;exact⟨n',cW,a1,by omega,a3,a4⟩
theorem M9:∀(n:Nat) (fs:List Fr) (st:List Fr),n<=fs.length->(fs.take n).reverse=st->(below st=none->iE fs n= -1)/\(∀g r,below st=some (g,r)->∃i:Nat,iE fs n=(i:Int)/\i<n/\fs[i]? =some g/\(fs.take i).reverse=r)
 |0,fs,st,hn,e=>by rw[List.take_zero] at e;subst e;exact⟨fun _=>rfl,fun g r h=>by cases h⟩
 |n+1,fs,st,hn,e=>by
  cases st with
  |nil=>have:=congrArg List.length e;rw[List.length_reverse,List.length_take] at this;simp only[List.length_nil] at this;omega
  |cons f r=>
   obtain⟨m,KR,hm,hf,hr⟩:=M7 hn e;have KR:n=m:=by omega
   subst KR;have ef:=M8 hf;obtain⟨h1,h2⟩:=M9 n fs r ab hr;unfold below iE;rw[ef];by_cases c:f.bV=true
   ·rw[if_pos c,if_pos c];refine⟨fun h=>(by cases h),fun g r' h=>?_⟩;injection h with h;injection h with e1 e2
    subst e1;subst e2;exact⟨n,rfl,by omega,hf,hr⟩
   ·rw[if_neg c,if_neg c];refine⟨h1,fun g r' h=>?_⟩;obtain⟨i,a1,a2,a3,a4⟩:=h2 g r' h;exact⟨i,a1,by omega,a3,a4⟩
theorem Cl:∀(k:Nat) (st:List Fr) (b:bg) (aU:List Fr) (b':bg),ia k st b=some (aU,b')->aU=[]\/∃f r,aU=f::r/\f.ak<(f.block.length:Int)
 |0,_,_,_,_,h=>by cases h
 |k+1,[],b,aU,b',h=>by
  unfold ia at h;injection h with h;injection h with h1 h2
  exact .inl h1.symm
 |k+1,f::r,b,aU,b',h=>by
  unfold ia at h;by_cases c1:f.ak<(f.block.length:Int)
  ·rw[if_pos c1] at h;injection h with h;injection h with h1 h2
   exact .inr ⟨f,r,h1.symm,c1⟩
  ·rw[if_neg c1] at h;by_cases c2:0<f.turns
   ·rw[if_pos c2] at h;by_cases c3:0<(f.block.length:Int)
    ·rw[if_pos c3] at h;injection h with h;injection h with h1 h2
     exact .inr ⟨_,r,h1.symm,c3⟩
    ·rw[if_neg c3] at h;exact Cl k _ b _ _ h
   ·rw[if_neg c2] at h;by_cases c4:f.bV=true
    ·rw[if_pos c4] at h;by_cases c5:2<=b.length
     ·rw[if_pos c5] at h;exact Cl k _ _ _ _ h
     ·rw[if_neg c5] at h;cases h
    ·rw[if_neg c4] at h;exact Cl k _ _ _ _ h
theorem Y2{k:Nat}{st:List Fr}{b:bg}{aU:List Fr}{b':bg}(h:ia k st b=some (aU,b')):ia 1 aU b'=some (aU,b'):=by
 rcases Cl k st b aU b' h with rfl|⟨f,r,rfl,hf⟩
 ·rfl
 ·unfold ia;rw[if_pos hf]
def du(a:dE)(e:Ex):Int:=(zc e a.l a.aD).1
def Z8:List Int:=[0,0,0,0,0,0,0,0]
def kF(z:Int):Int:=dW (cK z 0) 8
def fin(a:dE)(st:List Fr)(b:bg):Option dE:=match ia 1000 st b with
 |some p=>some {a with fs:=p.1.reverse,b:=p.2}
 |none=>none
def qk(a:dE):Option dE:=match a.fs.reverse with
 |[]=>none
 |f::r=>match f.block[f.ak.toNat]? with
  |none=>none
  |some (.mk kind to ea eb bd el)=>
   if kind=1 then fin {a with l:=a.l.set to.toNat<|du a ea,steps:=a.steps+1} ({f with ak:=f.ak+1}::r) a.b
   else if kind=2 then fin {a with l:=a.l.set to.toNat (ku a.b<|iK (du a ea) a.vars).1,steps:=a.steps+1} ({f with ak:=f.ak+1}::r) a.b
   else if kind=3 then fin {a with steps:=a.steps+1} ({f with ak:=f.ak+1}::r) (kH a.b (iK (du a ea) a.vars)<|du a eb)
   else if kind=4 then fin {a with steps:=a.steps+1} (⟨if du a ea≠0 then bd else el,0,0,false,Z8,none⟩::{f with ak:=f.ak+1}::r) a.b
   else if kind=5 then(if 0<kF (du a ea) then fin {a with steps:=a.steps+1} (⟨bd,0,kF (du a ea) - 1,false,Z8,none⟩::{f with ak:=f.ak+1}::r) a.b else fin {a with steps:=a.steps+1} ({f with ak:=f.ak+1}::r) a.b)
   else if kind=6 then(match below (f::r) with
    |some (⟨_,_,_,_,kept,some ol⟩,r')=>fin {a with l:=kept,steps:=a.steps+1} (⟨ol,0,0,false,Z8,none⟩::r') a.b.dropLast
    |_=>none)
   else if kind=7 then fin {a with steps:=a.steps+1} (⟨bd,0,0,true,a.l,some el⟩::{f with ak:=f.ak+1}::r) (a.b++[[]])
   else none
def nq(a:dE)(x:Int):Option dE:=match a.fs.reverse with
 |[]=>none
 |f::r=>match f.block[f.ak.toNat]? with
  |none=>none
  |some (.mk _ to _ _ _ _)=>fin {a with l:=a.l.set to.toNat x,steps:=a.steps+1} ({f with ak:=f.ak+1}::r) a.b
def dX(a:dE):Int×Int×Int:=match a.fs.reverse with
 |[]=>(3,0,0)
 |f::r=>match f.block[f.ak.toNat]? with
  |none=>(0,0,0)
  |some (.mk kind _ ea _ _ _)=>if kind=8 then(3,0,du a ea) else if kind=6/\below (f::r)=none then(4,0,0) else if kind=2/\(ku a.b<|iK (du a ea) a.vars).2=false then(2,iK (du a ea) a.vars,0) else(1,0,0)
end mf
end
section
open Go Go.Rn Go.RowKit Go.Proofs
namespace vH
open ch fT eX ij eO cG dj cQ di fW fD gH gP gV gi gj hJ iA iB iR jc jV ki kO jW fO iz mY nL lR oJ mf WQ V5 V6 V7 V8 WR WS WT
variable {to aF nn n2 wi:Int} {n1 c1 c m2 c2:Nat} {lb la:List Ex} {br fs bj:List Fr} {el bd:List St} {b1 b b2:bg} {a A1 A2:MN} {B:aJ}
noncomputable section
def gL(fs:List Fr)(n:Nat):List Fr:=(fs.take n).set ((((0+n):Nat):Int) - 1).toNat ({(av (fs.take n)<|(((0+n):Nat):Int) - 1) with ak:=((av (fs.take n)<|(((0+n):Nat):Int) - 1).ak+1),turns:=(av (fs.take n)<|(((0+n):Nat):Int) - 1).turns}:Fr)
abbrev p9(fs:List Fr)(k:Nat)(f:Fr):List Fr:=fs.take k++[f]
noncomputable abbrev Ou(ka to op nn:Int)(la:List Ex)(aF n2:Int)(lb:List Ex)(bd el:List St):List AV:=[.int .u8 ka,.int .i64 to,.int .u8 op,.int .i64 nn,.U (nm<|cH la) 0 la.length,.int .u8 aF,.int .i64 n2,.U (nm<|cH lb) 0 lb.length,.U (nm (bd.map aL).flatten) 0 bd.length,.U (nm (el.map aL).flatten) 0 el.length]
noncomputable abbrev yU(a:MN)(n c:Nat)(fs:List Fr)(b:bg):AS:=ah (ar++aW (dB 270 3<|cX a n c fs b)) 273
theorem j1{ka:Int}{kb:VS->List AV->AV×VS->Prop}{kc:Nat}(hk:(ka=1/\kb=zu/\kc=33)\/(ka=2/\kb=zg/\kc=34)\/(ka=3/\kb=yR/\kc=35)){n:Nat}{op:Int}(mc:Mt LM B)(m0:cY a n c fs b)(h1:1<=n)(h6:n<=6)(b6:b.length<=6)(hs:mB fs n<|some<|St.mk ka to (.mk op nn la) (.mk aF n2 lb) bd el)(kj:nK a (iE fs n) b (some<|St.mk ka to (.mk op nn la) (.mk aF n2 lb) bd el)=(1,0,0))(aw:0<=(av (fs.take n)<|((0+n:Nat):Int) - 1).ak/\(av (fs.take n)<|((0+n:Nat):Int) - 1).ak<=1000000)(cn:0<=a.steps/\a.steps<=1000000000000)(mp:cY {a with steps:=a.steps+1} (0+n) (0+n) (gL fs n) b)(m1:cY A1 n1 c1 br b1)(lC:cY A2 m2 c2 bj b2)(hX:dH kb (cX {a with steps:=a.steps+1} (0+n) (0+n) (gL fs n) b) [.agg<|aL<|St.mk ka to (.mk op nn la) (.mk aF n2 lb) bd el]=some (.tuple [],(cX A1 n1 c1 br b1)))(pP:dH eG (cX A1 n1 c1 br b1) []=some (.tuple [],(cX A2 m2 c2 bj b2))):au pg B 271 (gW 270 3 pg (az Tryz.f15) (.int .i64 0)<|cX A2 m2 c2 bj b2) (sF 15 Tryz.f15 [(.ptr<|some (270,0))])<|yU a n c fs b:=by
 have hN:=wR m0 hs;have hK:=yS m0 h6 b6 hs;rw[kj] at hK;have hv:=sS mp<|.mk op nn la;have hA:=p8<|.mk op nn la;have eS:aL (St.mk ka to (.mk op nn la) (.mk aF n2 lb) bd el)=(Ou ka to op nn la aF n2 lb bd el):=by rw[wD,aC,aC];rfl
 have hH:=xy<|St.mk ka to (.mk op nn la) (.mk aF n2 lb) bd el;unfold qj at hN;simp only[eS] at hN hH hX;simp only[aC] at hv hA;have hB:(AV.tuple [.agg<|Ou ka to op nn la aF n2 lb bd el,.bool true]:AV).hi=true:=by show([_,AV.bool true].all AV.jG)=true;rw[List.all_cons,show(AV.agg _).jG=true from hH];rfl
 have qH:([.agg<|Ou ka to op nn la aF n2 lb bd el]:List AV).all AV.hi=true:=by rw[List.all_cons,hH];rfl
 exact step1 hk (a:=a) (n:=n) (c:=c) (u:=bI b) (fs:=fs) (A1:=A1) (m1:=n1) (c1:=c1) (u1:=bI b1) (br:=br) (A2:=A2) (m2:=m2) (c2:=c2) (u2:=bI b2) (bj:=bj) (N:=nm<|cH la) (L:=la.length) (N2:=nm<|cH lb) (L2:=lb.length) (to:=to) (op:=op) (nn:=nn) (aF:=aF) (n2:=n2) (bd:=bd) (el:=el) (z:=(dC a<|.mk op nn la)) (wi:=0) (t:=0) (ol:=[]) (fb:=[]) (fa:=0) (ft:=0) (fo:=false) (ub:=.tuple []) (y0:=0) (y1:=0) (y2:=0) (y3:=0) (y4:=0) (y5:=0) (y6:=0) (y7:=0) mc h1 m0.mL m0.pR m0.len zr aw cn lC.len lC.aD.cM
  vW
  vW
  vW
  vW
  vW
  vW
  vW
  vW
  vW
  vW
  (Be mc)
noncomputable abbrev C3(to op nn:Int)(la:List Ex)(aF n2:Int)(lb:List Ex)(bd el:List St):List AV:=[.int .u8 4,.int .i64 to,.int .u8 op,.int .i64 nn,.U (nm<|cH la) 0 la.length,.int .u8 aF,.int .i64 n2,.U (nm<|cH lb) 0 lb.length,.U (nm (bd.map aL).flatten) 0 bd.length,.U (nm (el.map aL).flatten) 0 el.length]
theorem j4y{n:Nat}{op:Int}(mc:Mt LM B)(m0:cY a n c fs b)(h1:1<=n)(h6:n<=6)(b6:b.length<=6)(hs:mB fs n<|some<|St.mk 4 to (.mk op nn la) (.mk aF n2 lb) bd el)(kj:nK a (iE fs n) b (some<|St.mk 4 to (.mk op nn la) (.mk aF n2 lb) bd el)=(1,0,0))(aw:0<=(av (fs.take n)<|((0+n:Nat):Int) - 1).ak/\(av (fs.take n)<|((0+n:Nat):Int) - 1).ak<=1000000)(cn:0<=a.steps/\a.steps<=1000000000000)(mp:cY {a with steps:=a.steps+1} (0+n) (0+n) (gL fs n) b)(m1:cY A1 n1 c1 br b1)(lC:cY A2 m2 c2 bj b2)(mE:cY {a with steps:=a.steps+1} (0+n+1) (0+n+1) (p9 (gL fs n) (0+n) ⟨bd,0,0,false,Z8,none⟩) b)(hE:dH eG (cX {a with steps:=a.steps+1} (0+n+1) (0+n+1) (p9 (gL fs n) (0+n) ⟨bd,0,0,false,Z8,none⟩) b) []=some (.tuple [],(cX A1 n1 c1 br b1)))(pP:dH eG (cX A1 n1 c1 br b1) []=some (.tuple [],(cX A2 m2 c2 bj b2)))(hz:(dC a<|.mk op nn la)≠0):au pg B 271 (gW 270 3 pg (az Tryz.f15) (.int .i64 0)<|cX A2 m2 c2 bj b2) (sF 15 Tryz.f15 [(.ptr<|some (270,0))])<|yU a n c fs b:=by
 have hN:=wR m0 hs;have hK:=yS m0 h6 b6 hs;rw[kj] at hK;have hv:=sS mp<|.mk op nn la;have hA:=p8<|.mk op nn la;have eS:aL (St.mk 4 to (.mk op nn la) (.mk aF n2 lb) bd el)=(C3 to op nn la aF n2 lb bd el):=by rw[wD,aC,aC];rfl
 have hH:=xy<|St.mk 4 to (.mk op nn la) (.mk aF n2 lb) bd el;unfold qj at hN;simp only[eS] at hN hH;simp only[aC] at hv hA;have hB:(AV.tuple [.agg<|C3 to op nn la aF n2 lb bd el,.bool true]:AV).hi=true:=by show([_,AV.bool true].all AV.jG)=true;rw[List.all_cons,show(AV.agg _).jG=true from hH];rfl
 have qH:([.agg<|C3 to op nn la aF n2 lb bd el]:List AV).all AV.hi=true:=by rw[List.all_cons,hH];rfl
 exact afp (a:=a) (n:=n) (c:=c) (u:=bI b) (fs:=fs) (A1:=A1) (m1:=n1) (c1:=c1) (u1:=bI b1) (br:=br) (A2:=A2) (m2:=m2) (c2:=c2) (u2:=bI b2) (bj:=bj) (N:=nm<|cH la) (L:=la.length) (N2:=nm<|cH lb) (L2:=lb.length) (to:=to) (op:=op) (nn:=nn) (aF:=aF) (n2:=n2) (bd:=bd) (el:=el) (z:=(dC a<|.mk op nn la)) (wi:=0) (t:=0) (ol:=[]) (fb:=[]) (fa:=0) (ft:=0) (fo:=false) (ub:=.tuple []) (y0:=0) (y1:=0) (y2:=0) (y3:=0) (y4:=0) (y5:=0) (y6:=0) (y7:=0) mc h1 m0.mL m0.pR m0.len zr aw cn lC.len lC.aD.cM hz
  gu
  gu
  gu
  gu
  gu
  gu
  gu
  gu
  gu
  gu
  gu
  gu
  (Be mc)
theorem j4n{n:Nat}{op:Int}(mc:Mt LM B)(m0:cY a n c fs b)(h1:1<=n)(h6:n<=6)(b6:b.length<=6)(hs:mB fs n<|some<|St.mk 4 to (.mk op nn la) (.mk aF n2 lb) bd el)(kj:nK a (iE fs n) b (some<|St.mk 4 to (.mk op nn la) (.mk aF n2 lb) bd el)=(1,0,0))(aw:0<=(av (fs.take n)<|((0+n:Nat):Int) - 1).ak/\(av (fs.take n)<|((0+n:Nat):Int) - 1).ak<=1000000)(cn:0<=a.steps/\a.steps<=1000000000000)(mp:cY {a with steps:=a.steps+1} (0+n) (0+n) (gL fs n) b)(m1:cY A1 n1 c1 br b1)(lC:cY A2 m2 c2 bj b2)(mE:cY {a with steps:=a.steps+1} (0+n+1) (0+n+1) (p9 (gL fs n) (0+n) ⟨el,0,0,false,Z8,none⟩) b)(hE:dH eG (cX {a with steps:=a.steps+1} (0+n+1) (0+n+1) (p9 (gL fs n) (0+n) ⟨el,0,0,false,Z8,none⟩) b) []=some (.tuple [],(cX A1 n1 c1 br b1)))(pP:dH eG (cX A1 n1 c1 br b1) []=some (.tuple [],(cX A2 m2 c2 bj b2)))(hz:(dC a<|.mk op nn la)=0):au pg B 271 (gW 270 3 pg (az Tryz.f15) (.int .i64 0)<|cX A2 m2 c2 bj b2) (sF 15 Tryz.f15 [(.ptr<|some (270,0))])<|yU a n c fs b:=by
 have hN:=wR m0 hs;have hK:=yS m0 h6 b6 hs;rw[kj] at hK;have hv:=sS mp<|.mk op nn la;have hA:=p8<|.mk op nn la;have eS:aL (St.mk 4 to (.mk op nn la) (.mk aF n2 lb) bd el)=(C3 to op nn la aF n2 lb bd el):=by rw[wD,aC,aC];rfl
 have hH:=xy<|St.mk 4 to (.mk op nn la) (.mk aF n2 lb) bd el;unfold qj at hN;simp only[eS] at hN hH;simp only[aC] at hv hA;have hB:(AV.tuple [.agg<|C3 to op nn la aF n2 lb bd el,.bool true]:AV).hi=true:=by show([_,AV.bool true].all AV.jG)=true;rw[List.all_cons,show(AV.agg _).jG=true from hH];rfl
 have qH:([.agg<|C3 to op nn la aF n2 lb bd el]:List AV).all AV.hi=true:=by rw[List.all_cons,hH];rfl
 exact afq (a:=a) (n:=n) (c:=c) (u:=bI b) (fs:=fs) (A1:=A1) (m1:=n1) (c1:=c1) (u1:=bI b1) (br:=br) (A2:=A2) (m2:=m2) (c2:=c2) (u2:=bI b2) (bj:=bj) (N:=nm<|cH la) (L:=la.length) (N2:=nm<|cH lb) (L2:=lb.length) (to:=to) (op:=op) (nn:=nn) (aF:=aF) (n2:=n2) (bd:=bd) (el:=el) (z:=(dC a<|.mk op nn la)) (wi:=0) (t:=0) (ol:=[]) (fb:=[]) (fa:=0) (ft:=0) (fo:=false) (ub:=.tuple []) (y0:=0) (y1:=0) (y2:=0) (y3:=0) (y4:=0) (y5:=0) (y6:=0) (y7:=0) mc h1 m0.mL m0.pR m0.len zr aw cn lC.len lC.aD.cM hz
  gu
  gu
  gu
  gu
  gu
  gu
  gu
  gu
  gu
  gu
  gu
  gu
  (Be mc)
noncomputable abbrev C4(to op nn:Int)(la:List Ex)(aF n2:Int)(lb:List Ex)(bd el:List St):List AV:=[.int .u8 5,.int .i64 to,.int .u8 op,.int .i64 nn,.U (nm<|cH la) 0 la.length,.int .u8 aF,.int .i64 n2,.U (nm<|cH lb) 0 lb.length,.U (nm (bd.map aL).flatten) 0 bd.length,.U (nm (el.map aL).flatten) 0 el.length]
theorem j5t{n:Nat}{op:Int}(mc:Mt LM B)(m0:cY a n c fs b)(h1:1<=n)(h6:n<=6)(b6:b.length<=6)(hs:mB fs n<|some<|St.mk 5 to (.mk op nn la) (.mk aF n2 lb) bd el)(kj:nK a (iE fs n) b (some<|St.mk 5 to (.mk op nn la) (.mk aF n2 lb) bd el)=(1,0,0))(aw:0<=(av (fs.take n)<|((0+n:Nat):Int) - 1).ak/\(av (fs.take n)<|((0+n:Nat):Int) - 1).ak<=1000000)(cn:0<=a.steps/\a.steps<=1000000000000)(mp:cY {a with steps:=a.steps+1} (0+n) (0+n) (gL fs n) b)(m1:cY A1 n1 c1 br b1)(lC:cY A2 m2 c2 bj b2)(mE:cY {a with steps:=a.steps+1} (0+n+1) (0+n+1) (p9 (gL fs n) (0+n) ⟨bd,0,(kF<|dC a<|.mk op nn la) - 1,false,Z8,none⟩) b)(hE:dH eG (cX {a with steps:=a.steps+1} (0+n+1) (0+n+1) (p9 (gL fs n) (0+n) ⟨bd,0,(kF<|dC a<|.mk op nn la) - 1,false,Z8,none⟩) b) []=some (.tuple [],(cX A1 n1 c1 br b1)))(pP:dH eG (cX A1 n1 c1 br b1) []=some (.tuple [],(cX A2 m2 c2 bj b2)))(hz:0<kF (dC a<|.mk op nn la)/\kF (dC a<|.mk op nn la)<=8):au pg B 271 (gW 270 3 pg (az Tryz.f15) (.int .i64 0)<|cX A2 m2 c2 bj b2) (sF 15 Tryz.f15 [(.ptr<|some (270,0))])<|yU a n c fs b:=by
 have hN:=wR m0 hs;have hK:=yS m0 h6 b6 hs;rw[kj] at hK;have hv:=sS mp<|.mk op nn la;have hA:=p8<|.mk op nn la;have eS:aL (St.mk 5 to (.mk op nn la) (.mk aF n2 lb) bd el)=(C4 to op nn la aF n2 lb bd el):=by rw[wD,aC,aC];rfl
 have hH:=xy<|St.mk 5 to (.mk op nn la) (.mk aF n2 lb) bd el;unfold qj at hN;simp only[eS] at hN hH;simp only[aC] at hv hA;have hB:(AV.tuple [.agg<|C4 to op nn la aF n2 lb bd el,.bool true]:AV).hi=true:=by show([_,AV.bool true].all AV.jG)=true;rw[List.all_cons,show(AV.agg _).jG=true from hH];rfl
 have qH:([.agg<|C4 to op nn la aF n2 lb bd el]:List AV).all AV.hi=true:=by rw[List.all_cons,hH];rfl
 exact afr (a:=a) (n:=n) (c:=c) (u:=bI b) (fs:=fs) (A1:=A1) (m1:=n1) (c1:=c1) (u1:=bI b1) (br:=br) (A2:=A2) (m2:=m2) (c2:=c2) (u2:=bI b2) (bj:=bj) (N:=nm<|cH la) (L:=la.length) (N2:=nm<|cH lb) (L2:=lb.length) (to:=to) (op:=op) (nn:=nn) (aF:=aF) (n2:=n2) (bd:=bd) (el:=el) (z:=(dC a<|.mk op nn la)) (wi:=0) (t:=0) (ol:=[]) (fb:=[]) (fa:=0) (ft:=0) (fo:=false) (ub:=.tuple []) (y0:=0) (y1:=0) (y2:=0) (y3:=0) (y4:=0) (y5:=0) (y6:=0) (y7:=0) mc h1 m0.mL m0.pR m0.len zr aw cn lC.len lC.aD.cM hz
  gu
  gu
  gu
  gu
  gu
  gu
  gu
  gu
  gu
  gu
  gu
  gu
  (Be mc)
theorem j5o{n:Nat}{op:Int}(mc:Mt LM B)(m0:cY a n c fs b)(h1:1<=n)(h6:n<=6)(b6:b.length<=6)(hs:mB fs n<|some<|St.mk 5 to (.mk op nn la) (.mk aF n2 lb) bd el)(kj:nK a (iE fs n) b (some<|St.mk 5 to (.mk op nn la) (.mk aF n2 lb) bd el)=(1,0,0))(aw:0<=(av (fs.take n)<|((0+n:Nat):Int) - 1).ak/\(av (fs.take n)<|((0+n:Nat):Int) - 1).ak<=1000000)(cn:0<=a.steps/\a.steps<=1000000000000)(mp:cY {a with steps:=a.steps+1} (0+n) (0+n) (gL fs n) b)(m1:cY A1 n1 c1 br b1)(jj:kF (dC a<|.mk op nn la)<=0)(pP:dH eG (cX {a with steps:=a.steps+1} (0+n) (0+n) (gL fs n) b) []=some (.tuple [],(cX A1 n1 c1 br b1))):au pg B 271 (gW 270 3 pg (az Tryz.f15) (.int .i64 0)<|cX A1 n1 c1 br b1) (sF 15 Tryz.f15 [(.ptr<|some (270,0))])<|yU a n c fs b:=by
 have hN:=wR m0 hs;have hK:=yS m0 h6 b6 hs;rw[kj] at hK;have hv:=sS mp<|.mk op nn la;have hA:=p8<|.mk op nn la;have eS:aL (St.mk 5 to (.mk op nn la) (.mk aF n2 lb) bd el)=(C4 to op nn la aF n2 lb bd el):=by rw[wD,aC,aC];rfl
 have hH:=xy<|St.mk 5 to (.mk op nn la) (.mk aF n2 lb) bd el;unfold qj at hN;simp only[eS] at hN hH;simp only[aC] at hv hA;have hB:(AV.tuple [.agg<|C4 to op nn la aF n2 lb bd el,.bool true]:AV).hi=true:=by show([_,AV.bool true].all AV.jG)=true;rw[List.all_cons,show(AV.agg _).jG=true from hH];rfl
 have qH:([.agg<|C4 to op nn la aF n2 lb bd el]:List AV).all AV.hi=true:=by rw[List.all_cons,hH];rfl
 exact afs (a:=a) (n:=n) (c:=c) (u:=bI b) (fs:=fs) (A1:=A1) (m1:=n1) (c1:=c1) (u1:=bI b1) (br:=br) (A2:=A1) (m2:=n1) (c2:=c1) (u2:=bI b1) (bj:=br) (N:=nm<|cH la) (L:=la.length) (N2:=nm<|cH lb) (L2:=lb.length) (to:=to) (op:=op) (nn:=nn) (aF:=aF) (n2:=n2) (bd:=bd) (el:=el) (z:=(dC a<|.mk op nn la)) (wi:=0) (t:=0) (ol:=[]) (fb:=[]) (fa:=0) (ft:=0) (fo:=false) (ub:=.tuple []) (y0:=0) (y1:=0) (y2:=0) (y3:=0) (y4:=0) (y5:=0) (y6:=0) (y7:=0) mc h1 m0.mL m0.pR m0.len zr aw cn m1.len m1.aD.cM jj
  yh
  yh
  yh
  yh
  yh
  yh
  yh
  yh
  yh
  (Be mc)
noncomputable abbrev Ov(to op nn:Int)(la:List Ex)(aF n2:Int)(lb:List Ex)(bd el:List St):List AV:=[.int .u8 7,.int .i64 to,.int .u8 op,.int .i64 nn,.U (nm<|cH la) 0 la.length,.int .u8 aF,.int .i64 n2,.U (nm<|cH lb) 0 lb.length,.U (nm (bd.map aL).flatten) 0 bd.length,.U (nm (el.map aL).flatten) 0 el.length]
theorem j7{n:Nat}{op:Int}(mc:Mt LM B)(m0:cY a n c fs b)(h1:1<=n)(h6:n<=6)(b6:b.length<=6)(hs:mB fs n<|some<|St.mk 7 to (.mk op nn la) (.mk aF n2 lb) bd el)(kj:nK a (iE fs n) b (some<|St.mk 7 to (.mk op nn la) (.mk aF n2 lb) bd el)=(1,0,0))(aw:0<=(av (fs.take n)<|((0+n:Nat):Int) - 1).ak/\(av (fs.take n)<|((0+n:Nat):Int) - 1).ak<=1000000)(cn:0<=a.steps/\a.steps<=1000000000000)(mp:cY {a with steps:=a.steps+1} (0+n) (0+n) (gL fs n) b)(m1:cY A1 n1 c1 br b1)(lC:cY A2 m2 c2 bj b2)(mE:cY {a with steps:=a.steps+1} (0+n+1) (0+n+1) (p9 (gL fs n) (0+n) ⟨bd,0,0,true,a.l,some el⟩)<|b++[[]])(hE:dH eG (cX {a with steps:=a.steps+1} (0+n+1) (0+n+1) (p9 (gL fs n) (0+n) ⟨bd,0,0,true,a.l,some el⟩)<|b++[[]]) []=some (.tuple [],(cX A1 n1 c1 br b1)))(pP:dH eG (cX A1 n1 c1 br b1) []=some (.tuple [],(cX A2 m2 c2 bj b2)))(Yb:b.length<7):au pg B 271 (gW 270 3 pg (az Tryz.f15) (.int .i64 0)<|cX A2 m2 c2 bj b2) (sF 15 Tryz.f15 [(.ptr<|some (270,0))])<|yU a n c fs b:=by
 have hN:=wR m0 hs;have hK:=yS m0 h6 b6 hs;rw[kj] at hK;have hv:=sS mp<|.mk op nn la;have hA:=p8<|.mk op nn la;have eS:aL (St.mk 7 to (.mk op nn la) (.mk aF n2 lb) bd el)=(Ov to op nn la aF n2 lb bd el):=by rw[wD,aC,aC];rfl
 have hH:=xy<|St.mk 7 to (.mk op nn la) (.mk aF n2 lb) bd el;unfold qj at hN;simp only[eS] at hN hH;simp only[aC] at hv hA;have hB:(AV.tuple [.agg<|Ov to op nn la aF n2 lb bd el,.bool true]:AV).hi=true:=by show([_,AV.bool true].all AV.jG)=true;rw[List.all_cons,show(AV.agg _).jG=true from hH];rfl
 have qH:([.agg<|Ov to op nn la aF n2 lb bd el]:List AV).all AV.hi=true:=by rw[List.all_cons,hH];rfl
 have hD:iI (gU bI Jd) (bI b) []=some ((.int .i64 0:AV),bI<|b++[[]]):=by
  unfold iI;rw[AB sq];show(match ([]:List AV).all AV.hi with
   |true=>((if List.length b<7 then some ((AV.int .i64 0:AV),b++[[]]) else none).map (fun p:AV×bg=>((p.1,bI p.2):AV×AV))).bind fun p:AV×AV=>match p.1.hi with
    |true=>some p
    |false=>none
   |false=>none)=_
  rw[if_pos Yb];rfl
 exact ag3 (a:=a) (n:=n) (c:=c) (u:=bI b) (fs:=fs) (A1:=A1) (m1:=n1) (c1:=c1) (u1:=bI b1) (br:=br) (A2:=A2) (m2:=m2) (c2:=c2) (u2:=bI b2) (bj:=bj) (N:=nm<|cH la) (L:=la.length) (N2:=nm<|cH lb) (L2:=lb.length) (to:=to) (op:=op) (nn:=nn) (aF:=aF) (n2:=n2) (bd:=bd) (el:=el) (z:=(dC a<|.mk op nn la)) (wi:=0) (t:=0) (ol:=[]) (fb:=[]) (fa:=0) (ft:=0) (fo:=false) (ub:=bI<|b++[[]]) (y0:=0) (y1:=0) (y2:=0) (y3:=0) (y4:=0) (y5:=0) (y6:=0) (y7:=0) mc h1 m0.mL m0.pR m0.len zr aw cn lC.len lC.aD.cM
  vV
  vV
  vV
  vV
  vV
  vV
  vV
  vV
  vV
  vV
  (Be mc)
noncomputable abbrev Ow(to op nn:Int)(la:List Ex)(aF n2:Int)(lb:List Ex)(bd el:List St):List AV:=[.int .u8 6,.int .i64 to,.int .u8 op,.int .i64 nn,.U (nm<|cH la) 0 la.length,.int .u8 aF,.int .i64 n2,.U (nm<|cH lb) 0 lb.length,.U (nm (bd.map aL).flatten) 0 bd.length,.U (nm (el.map aL).flatten) 0 el.length]
theorem j6{n:Nat}{op y0 y1 y2 y3 y4 y5 y6 y7 fa ft:Int}{ol fb:List St}{fo:Bool}(mc:Mt LM B)(m0:cY a n c fs b)(h1:1<=n)(h6:n<=6)(b6:b.length<=6)(hs:mB fs n<|some<|St.mk 6 to (.mk op nn la) (.mk aF n2 lb) bd el)(kj:nK a (iE fs n) b (some<|St.mk 6 to (.mk op nn la) (.mk aF n2 lb) bd el)=(1,0,0))(aw:0<=(av (fs.take n)<|((0+n:Nat):Int) - 1).ak/\(av (fs.take n)<|((0+n:Nat):Int) - 1).ak<=1000000)(cn:0<=a.steps/\a.steps<=1000000000000)(mp:cY {a with steps:=a.steps+1} (0+n) (0+n) (gL fs n) b)(m1:cY A1 n1 c1 br b1)(lC:cY A2 m2 c2 bj b2)(mE:cY {a with steps:=a.steps+1,x0:=y0,x1:=y1,x2:=y2,x3:=y3,x4:=y4,x5:=y5,x6:=y6,x7:=y7} (wi.toNat+1) (wi.toNat+1) (p9 (gL fs n) wi.toNat ⟨ol,0,0,false,Z8,none⟩) b.dropLast)(hE:dH eG (cX {a with steps:=a.steps+1,x0:=y0,x1:=y1,x2:=y2,x3:=y3,x4:=y4,x5:=y5,x6:=y6,x7:=y7} (wi.toNat+1) (wi.toNat+1) (p9 (gL fs n) wi.toNat ⟨ol,0,0,false,Z8,none⟩) b.dropLast) []=some (.tuple [],(cX A1 n1 c1 br b1)))(pP:dH eG (cX A1 n1 c1 br b1) []=some (.tuple [],(cX A2 m2 c2 bj b2)))(hwi:iE (gL fs n) (0+n)=wi)(hz:1<=wi/\wi<(n:Int))(bC:(gL fs n)[wi.toNat]? =some (⟨fb,fa,ft,fo,[y0,y1,y2,y3,y4,y5,y6,y7],some ol⟩:Fr))(x8:2<=b.length):au pg B 271 (gW 270 3 pg (az Tryz.f15) (.int .i64 0)<|cX A2 m2 c2 bj b2) (sF 15 Tryz.f15 [(.ptr<|some (270,0))])<|yU a n c fs b:=by
 have hN:=wR m0 hs;have hK:=yS m0 h6 b6 hs;rw[kj] at hK;have hv:=sS mp<|.mk op nn la;have hA:=p8<|.mk op nn la;have eS:aL (St.mk 6 to (.mk op nn la) (.mk aF n2 lb) bd el)=(Ow to op nn la aF n2 lb bd el):=by rw[wD,aC,aC];rfl
 have hH:=xy<|St.mk 6 to (.mk op nn la) (.mk aF n2 lb) bd el;unfold qj at hN;simp only[eS] at hN hH;simp only[aC] at hv hA;have hB:(AV.tuple [.agg<|Ow to op nn la aF n2 lb bd el,.bool true]:AV).hi=true:=by show([_,AV.bool true].all AV.jG)=true;rw[List.all_cons,show(AV.agg _).jG=true from hH];rfl
 have qH:([.agg<|Ow to op nn la aF n2 lb bd el]:List AV).all AV.hi=true:=by rw[List.all_cons,hH];rfl
 have hW:=S7 mp ab;rw[hwi] at hW;have hD:iI (gU bI Je) (bI b) []=some ((.int .i64 0:AV),bI b.dropLast):=by
  unfold iI;rw[AB sq];show(match ([]:List AV).all AV.hi with
   |true=>((if 2<=List.length b/\List.length b<=6 then some ((AV.int .i64 0:AV),b.dropLast) else none).map (fun p:AV×bg=>((p.1,bI p.2):AV×AV))).bind fun p:AV×AV=>match p.1.hi with
    |true=>some p
    |false=>none
   |false=>none)=_
  rw[if_pos ⟨x8,b6⟩];rfl
 exact ag4 (a:=a) (n:=n) (c:=c) (u:=bI b) (fs:=fs) (A1:=A1) (m1:=n1) (c1:=c1) (u1:=bI b1) (br:=br) (A2:=A2) (m2:=m2) (c2:=c2) (u2:=bI b2) (bj:=bj) (N:=nm<|cH la) (L:=la.length) (N2:=nm<|cH lb) (L2:=lb.length) (to:=to) (op:=op) (nn:=nn) (aF:=aF) (n2:=n2) (bd:=bd) (el:=el) (z:=(dC a<|.mk op nn la)) (wi:=wi) (t:=0) (ol:=ol) (fb:=fb) (fa:=fa) (ft:=ft) (fo:=fo) (ub:=bI b.dropLast) (y0:=y0) (y1:=y1) (y2:=y2) (y3:=y3) (y4:=y4) (y5:=y5) (y6:=y6) (y7:=y7) mc h1 m0.mL m0.pR m0.len zr aw cn lC.len lC.aD.cM hz
  qI
  qI
  qI
  qI
  qI
  qI
  qI
  qI
  qI
  qI
  qI
  qI
  qI
  (Be mc)
noncomputable abbrev Ox(to op nn:Int)(la:List Ex)(aF n2:Int)(lb:List Ex)(bd el:List St):List AV:=[.int .u8 2,.int .i64 to,.int .u8 op,.int .i64 nn,.U (nm<|cH la) 0 la.length,.int .u8 aF,.int .i64 n2,.U (nm<|cH lb) 0 lb.length,.U (nm (bd.map aL).flatten) 0 bd.length,.U (nm (el.map aL).flatten) 0 el.length]
theorem jA{n:Nat}{op xx:Int}(mc:Mt LM B)(m0:cY a n c fs b)(h1:1<=n)(h6:n<=6)(b6:b.length<=6)(hs:mB fs n<|some<|St.mk 2 to (.mk op nn la) (.mk aF n2 lb) bd el)(kj:nK a (iE fs n) b (some<|St.mk 2 to (.mk op nn la) (.mk aF n2 lb) bd el)=(2,wi,0))(aw:0<=(av (fs.take n)<|((0+n:Nat):Int) - 1).ak/\(av (fs.take n)<|((0+n:Nat):Int) - 1).ak<=1000000)(cn:0<=a.steps/\a.steps<=1000000000000)(mp:cY {a with steps:=a.steps+1} (0+n) (0+n) (gL fs n) b)(m1:cY A1 n1 c1 br b1)(h0:0<=to)(h8:to<8)(mx:cY (MN.ig {a with steps:=a.steps+1} to xx) (0+n) (0+n) (gL fs n) b)(pP:dH eG (cX (MN.ig {a with steps:=a.steps+1} to xx) (0+n) (0+n) (gL fs n) b) []=some (.tuple [],(cX A1 n1 c1 br b1))):au pg B 271 (gW 270 3 pg (az Tryz.f42) (.int .i64 0)<|cX A1 n1 c1 br b1) (sF 42 Tryz.f42 [(.ptr<|some (270,0)),(i6 xx)])<|yU a n c fs b:=by
 have hN:=wR m0 hs;have hK:=yS m0 h6 b6 hs;rw[kj] at hK;have hv:=sS mp<|.mk op nn la;have hA:=p8<|.mk op nn la;have eS:aL (St.mk 2 to (.mk op nn la) (.mk aF n2 lb) bd el)=(Ox to op nn la aF n2 lb bd el):=by rw[wD,aC,aC];rfl
 have hH:=xy<|St.mk 2 to (.mk op nn la) (.mk aF n2 lb) bd el;unfold qj at hN;simp only[eS] at hN hH;simp only[aC] at hv hA;have hB:(AV.tuple [.agg<|Ox to op nn la aF n2 lb bd el,.bool true]:AV).hi=true:=by show([_,AV.bool true].all AV.jG)=true;rw[List.all_cons,show(AV.agg _).jG=true from hH];rfl
 have qH:([.agg<|Ox to op nn la aF n2 lb bd el]:List AV).all AV.hi=true:=by rw[List.all_cons,hH];rfl
 have hx:= @On {a with steps:=a.steps+1} (0+n) (0+n) (gL fs n) b to xx h0 h8;unfold iB.vt at hx;rw[←hx] at pP;have XC:=mx.bD;rw[←hx] at XC;exact ag5 (a:=a) (n:=n) (c:=c) (u:=bI b) (fs:=fs) (A1:=A1) (m1:=n1) (c1:=c1) (u1:=bI b1) (br:=br) (A2:=A1) (m2:=n1) (c2:=c1) (u2:=bI b1) (bj:=br) (N:=nm<|cH la) (L:=la.length) (N2:=nm<|cH lb) (L2:=lb.length) (to:=to) (op:=op) (nn:=nn) (aF:=aF) (n2:=n2) (bd:=bd) (el:=el) (z:=(dC a<|.mk op nn la)) (wi:=wi) (t:=0) (ol:=[]) (fb:=[]) (fa:=0) (ft:=0) (fo:=false) (ub:=.tuple []) (y0:=0) (y1:=0) (y2:=0) (y3:=0) (y4:=0) (y5:=0) (y6:=0) (y7:=0) (xx:=xx) mc h1 m0.mL m0.pR m0.len zr aw cn m1.len m1.aD.cM h0 h8
  BZ
  BZ
  BZ
  BZ
  BZ
  BZ
  BZ
  (ag2 mc)
end
end vH
end
section
open Go Go.Rn Go.RowKit Go.Proofs
namespace nM
open ch fT eX ij eO cG dj cQ di fW fD gH gP gV gi gj hJ iA iB iR jc jV ki kO jW fO iz mY nL lR oJ mf vH
variable {fs aU st:List Fr} {b b':bg} {A:MN} {s:AS} {rs:List ResultVar} {k:Nat} {P:Program} {B:aJ}
theorem Kf{n m:Nat}{Q Q':Tr AV->List Nat->Option Code->AS->Prop}{fr:AF}(hm:m<=n)(h:∀t d j s,Q t d j s->Q' t d j s)(H:au P B n Q fr s):au P B m Q' fr s:=by intro ρ w b a cs q1 q2 q3;obtain⟨aO,j,s1,σ,a',w',e1,e2,e3,e4⟩:=H ρ w b a cs q1 q2 q3;exact⟨aO,j,s1,σ,a',w',h _ _ _ _ e1,by omega,fun k hk ht=>e3 k ab ht,e4⟩
theorem WU{R R':AV->AS->Prop}(h:∀y s,R y s->R' y s):∀t d j s,Rn.Fin P rs R t d j s->Rn.Fin P rs R' t d j s:=by intro t d j s q;obtain⟨v,s2,a,b⟩:=q;exact⟨v,s2,a,h _ _ b⟩
noncomputable def mn(a:dE):MN:=⟨a.vars,nm (a.aD.map y9).flatten,0,a.aD.length,a.aD,a.l.getD 0 0,a.l.getD 1 0,a.l.getD 2 0,a.l.getD 3 0,a.l.getD 4 0,a.l.getD 5 0,a.l.getD 6 0,a.l.getD 7 0,a.steps⟩
theorem WV{a:dE}(h:a.l.length=8):(mn a).l=a.l:=(Jg a.l h).symm
theorem lZ{a:dE}(h:a.l.length=8)(e:Ex):dC (mn a) e=du a e:=by unfold dC du;rw[WV h];rfl
theorem TO(a:dE)(bh:List Fr)(c:Nat):dB 270 3 (cX (mn a) a.fs.length c (a.fs++bh) a.b)=gz a bh c:=rfl
structure Good (a:dE):Prop where
 ok:xd a
 nT:im a.fs
 fP:a.fs.length<=6
 b6:a.b.length<=6
 steps:0<=a.steps/\a.steps<=1000000000000
 ak:∀f∈a.fs,0<=f.ak/\f.ak<=1000000
theorem im.app{l m:List Fr}(h:im l)(k:im m):im<|l++m:=fun f hf=>by
 rcases List.mem_append.1 hf with q|q
 ·exact h f q
 ·exact k f q
theorem im.take{l:List Fr}(h:im l)(n:Nat):im<|l.take n:=fun f hf=>h f<|List.mem_of_mem_take hf
section
variable {a:dE} {bh:List Fr} {c:Nat} {f:Fr} {r:List Fr} {m:Nat}
theorem Good.eh(h:Good a)(hj:mw a bh c):cY (mn a) a.fs.length c (a.fs++bh) a.b:=⟨dm.ax KS a.aD,h.ok.2.1,im.app h.nT hj.2.2,by rw[List.length_append];omega,hj.1,hj.2.1,h.ok.2.2.2.2⟩
theorem Hx:∀{k n:Nat} {fs:List Fr} {b:bg} {n':Nat} {cW:List Fr} {b':bg},oe k n fs b=some (n',cW,b')->n<=fs.length->im fs->de b->im cW/\de b'
 |0,_,_,_,_,_,_,h,_,_,_=>by cases h
 |k+1,n,fs,b,n',cW,b',h,hn,hf,hb=>by
  unfold oe at h;by_cases n0:n=0
  ·rw[if_pos n0] at h;injection h with h;injection h with e1 h;injection h with e2 e3
   subst e2;subst e3;exact⟨hf,hb⟩
  ·rw[if_neg n0] at h;simp only at h;have aw:=hf.at<|(n:Int) - 1;have hk:=hf.kept (z:=(n:Int) - 1) ab ab;by_cases c1:(av fs<|(n:Int) - 1).ak<(((av fs<|(n:Int) - 1).block.length:Nat):Int)
   ·rw[if_pos c1] at h;injection h with h;injection h with e1 h;injection h with e2 e3
    subst e2;subst e3;exact⟨hf,hb⟩
   ·rw[if_neg c1] at h;by_cases c2:0<(av fs<|(n:Int) - 1).turns
    ·rw[if_pos c2] at h;have hs:im<|fs.set ((n:Int) - 1).toNat {av fs ((n:Int) - 1) with ak:=0,turns:=(av fs<|(n:Int) - 1).turns - 1}:=hf.set ⟨⟨by show 0<=_ - 1;omega,by show _ - 1<=1000000;omega⟩,hk⟩;by_cases c3:0<(((av fs<|(n:Int) - 1).block.length:Nat):Int)
     ·rw[if_pos c3] at h;injection h with h;injection h with e1 h;injection h with e2 e3
      subst e2;subst e3;exact⟨hs,hb⟩
     ·rw[if_neg c3] at h;exact Hx h (by rw[List.length_set];exact hn) hs hb
    ·rw[if_neg c2] at h;by_cases c4:(av fs<|(n:Int) - 1).bV=true
     ·rw[if_pos c4] at h;by_cases c5:2<=b.length
      ·rw[if_pos c5] at h;exact Hx h ab hf<|H8 hb c5
      ·rw[if_neg c5] at h;cases h
     ·rw[if_neg c4] at h;exact Hx h ab hf hb
structure jT (A:MN) (n c:Nat) (fs:List Fr) (b:bg) (aU:List Fr) (b':bg) (n':Nat) (cW:List Fr):Prop where
 eh:cY A n' c cW b'
 run:dH eG (cX A n c fs b) []=some (.tuple [],cX A n' c cW b')
 eq:(cW.take n').reverse=aU
 len:cW.length=fs.length
 le:n'<=n
theorem qW{n c:Nat}(m:cY A n c fs b)(e:(fs.take n).reverse=st)(h:ia k st b=some (aU,b')):∃n' cW,jT A n c fs b aU b' n' cW:=by
 obtain⟨n',cW,a1,a2,a3,a4⟩:=HM k n fs b st aU b' h m.mL e;obtain⟨q1,q2⟩:=Hx a1 m.mL m.nT m.buf;have fw:n'<=cW.length:=by rw[a3];have:=m.mL;omega
 exact⟨n',cW,⟨m.aD,q2,q1,fw,by have:=m.pR;omega,by rw[a3];exact m.len,m.vars⟩,aa2 m a1,a4,a3,a2⟩
theorem jT.again{n c:Nat}{n':Nat}{cW:List Fr}(h:ia k st b=some (aU,b'))(d:jT A n c fs b aU b' n' cW):∃n2 bj,jT A n' c cW b' aU b' n2 bj:=qW d.eh d.eq<|Y2 h
theorem sU{fr:AF}{n c:Nat}{y:AV}{a':dE}(hA:A=mn a')(hb:b=a'.b)(ok:xd a')(m:cY A n c fs b)(e:(fs.take n).reverse=a'.fs.reverse)(H:au pg B 271 (gW 270 3 pg rs y<|cX A n c fs b) fr s):au pg B 271 (iQ XT pg rs 4 y<|eg a') fr s:=by
 subst hA;subst hb;have e:fs.take n=a'.fs:=List.reverse_inj.1 e;have hl:a'.fs.length=n:=by rw[←e,List.length_take];have:=m.mL;omega
 have e2:fs=a'.fs++fs.drop n:=by rw[←e,List.take_append_drop]
 refine Kf (Nat.le_refl _) (WU fun y1 s' q=>⟨q.1,gz a' (fs.drop n) c,XT.tF a' ok _ c ⟨by rw[hl];exact m.pR,by rw[←e2];exact m.len,fun f hf=>m.nT f<|List.mem_of_mem_drop hf⟩,?_⟩) H;have hx:=q.2;rw[←TO,hl, ←e2];exact hx
structure nA (a:dE) (bh:List Fr) (f:Fr) (r:List Fr) (m:Nat):Prop where
 n:a.fs.length=m+1
 get:(a.fs++bh)[m]? =some f
 rest:((a.fs++bh).take m).reverse=r
 all:((a.fs++bh).take<|m+1).reverse=f::r
 mem:f∈a.fs
theorem Oy(h:a.fs.reverse=f::r):∃m,nA a bh f r m:=by
 have e:(a.fs++bh).take a.fs.length=a.fs:=List.take_left;have e2:((a.fs++bh).take a.fs.length).reverse=f::r:=by rw[e];exact h
 obtain⟨m,h1,h2,h3,h4⟩:=M7 (by rw[List.length_append];omega) e2;refine⟨m,h1,h3,h4,by rw[←h1];exact e2,?_⟩;have:f∈a.fs.reverse:=by rw[h];exact List.mem_cons_self
 exact List.mem_reverse.1 this
theorem sw(t:nA a bh f r m)(h0:0<=f.ak){s:St}(hs:f.block[f.ak.toNat]? =some s):mB (a.fs++bh) a.fs.length<|some s:=by
 have e:zw (a.fs++bh) a.fs.length=f:=by unfold zw;rw[t.n];exact TN t.get
 exact .inr ⟨by rw[t.n];omega,by rw[e];exact h0,s,by rw[e];exact hs,rfl⟩
theorem IL(t:nA a bh f r m):av ((a.fs++bh).take a.fs.length) (((0+a.fs.length:Nat):Int) - 1)=f/\gL (a.fs++bh) a.fs.length=((a.fs++bh).take a.fs.length).set m {f with ak:=f.ak+1}:=by
 have e0:((((0+a.fs.length):Nat):Int) - 1)=(m:Int):=by rw[t.n];omega
 have hg:((a.fs++bh).take a.fs.length)[m]? =some f:=by rw[List.getElem?_take_of_lt qz];exact t.get
 have e:av ((a.fs++bh).take a.fs.length) (((0+a.fs.length:Nat):Int) - 1)=f:=by rw[e0];exact M8 hg
 refine⟨e,?_⟩;unfold gL;rw[e,e0];rfl
theorem sB(t:nA a bh f r m):(gL (a.fs++bh) a.fs.length).length=a.fs.length/\((gL (a.fs++bh) a.fs.length).take<|0+a.fs.length).reverse={f with ak:=f.ak+1}::r/\gL (a.fs++bh) a.fs.length=(gL (a.fs++bh) a.fs.length).take (0+a.fs.length):=by
 have e:(a.fs++bh).take a.fs.length=a.fs:=List.take_left;have el:(gL (a.fs++bh) a.fs.length).length=a.fs.length:=by rw[(IL t).2,e,List.length_set]
 refine⟨el,?_,by rw[List.take_of_length_le (by rw[el];omega)]⟩;rw[(IL t).2,e,Nat.zero_add,t.n,take_set _ qz];have:=t.rest;rw[List.take_append_of_le_length qz] at this;rw[this]
theorem Good.mp(h:Good a)(hj:mw a bh c)(t:nA a bh f r m):cY {mn a with steps:=a.steps+1} (0+a.fs.length) (0+a.fs.length) (gL (a.fs++bh) a.fs.length) a.b:=by obtain⟨p1,p2,p3⟩:=sB t;refine⟨(h.eh hj).aD,h.ok.2.1,?_,by rw[p1];omega,Nat.le_refl _,by rw[p1];have:=h.fP;omega,(h.eh hj).vars⟩;rw[(IL t).2];exact(im.take (h.eh hj).nT _).set<|h.nT f t.mem
theorem Good.aw(h:Good a)(t:nA a bh f r m):0<=(av ((a.fs++bh).take a.fs.length)<|((0+a.fs.length:Nat):Int) - 1).ak/\(av ((a.fs++bh).take a.fs.length)<|((0+a.fs.length:Nat):Int) - 1).ak<=1000000:=by rw[(IL t).1];exact h.ak f t.mem
theorem sW(h:Good a)(t:nA a bh f r m)(cn:a.fs.reverse=f::r)(s:St)(hs:f.block[f.ak.toNat]? =some s):nK (mn a) (iE (a.fs++bh) a.fs.length) a.b (some s)=dX a:=by
 obtain⟨kind,to,ea,eb,bd,el⟩:=s;have hw:=M9 a.fs.length (a.fs++bh) (f::r) (by rw[List.length_append];omega) (by rw[t.n];exact t.all);unfold dX;rw[EM,cn];simp only[hs,lZ h.ok.1];have ev:(mn a).vars=a.vars:=rfl;rw[ev];by_cases c8:kind=8
 ·rw[if_pos c8,if_pos c8]
 ·rw[if_neg c8,if_neg c8];cases hb:below (f::r) with
  |none=>
   have e:=hw.1 hb;rw[e];by_cases c6:kind=6
   ·rw[if_pos ⟨c6,by omega⟩,if_pos ⟨c6,rfl⟩]
   ·simp only[c6,false_and,if_false]
  |some p=>obtain⟨i,e,_⟩:=hw.2 p.1 p.2 hb;rw[e,if_neg (show ¬(kind=6/\(i:Int)<0) from fun q=>by have:=q.2;omega),if_neg (show ¬(kind=6/\some p=none) from fun q=>by cases q.2)]
end
end nM
end
