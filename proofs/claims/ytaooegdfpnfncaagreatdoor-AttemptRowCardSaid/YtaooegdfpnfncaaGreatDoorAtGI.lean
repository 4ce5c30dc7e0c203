import Derived.Test.YtaooegdfpnfncaaGreatDoorAtGF
import Derived.Test.YtaooegdfpnfncaaGreatDoorAtGH
import Derived.Test.YtaooegdfpnfncaaGreatDoorRnGE
set_option maxRecDepth 100000
set_option maxHeartbeats 8000000
set_option linter.unusedSimpArgs false
set_option linter.unusedVariables false
section
open Go Go.Rn Go.RowKit Go.Proofs
namespace FI
open cr fQ hI fc pw Q9 fF cU kK jV jr px sI qu wG uO zm HM Ar AO A9 CT Fc CU Av LH FF FG FH
variable {s ve xq kq xn x ow kb an gy c:Int} {xl al X A ka nt f:Nat} {α:Type} {rO rP nK oH:AV} {T:Prop} {r:Nat->Nat} {or' tB:Option ae} {o0:List<|Nat×Option ae} {t:Tr AV} {enc:α->List AV} {K:List Item}
noncomputable section
def uq(args:List AV)(v:AV):Prop:=args=[]/\v= .bool true
theorem uq.bS(args:List AV)(v v':AV)(h:uq args v)(h':uq args v'):v=v':=by rw[h.2,h'.2]
def Xk:FuncId×KE:=(5,.val<|aY uq)
abbrev LL:bV:=[wq 22,Xk,XW,XV,V4,XF,XG,Vr,Wq,UB,Ws,Wt,W8,UC,W7,XU,YQ,XE,Yx,Xj,XZ,X0]
structure bZ where
 (k th tx au v x gy:Int)
def eY(e:bZ):List AV:=[.int .u8 e.k,.int .i64 e.th,.int .i64 e.tx,.int .i64 e.au,.int .i64 e.v,.int .i64 e.x,.int .u8 e.gy]
abbrev oV(e:bZ):ae:=.cells 7 (Tr.fill (eY e) 0 .nil) []
def vR(n K L:Nat):AV:=.slice (some (n,0)) L<|.ar L K
def tC(ns i:Int)(G gl N len:Nat)(vm vr:AV):List<|Nat×AV:=[(2,.int .i64 ns),(3,.ab G 0 gl),(4,.ab N 0 len),(11,.ptr<|some (270,0)),(13,.ptr<|some (273,0)),(15,vm),(16,vr),(17,.int .i64 i)]
def zw(ns i:Int)(G gl N len:Nat)(vm vr:AV)(e:Nat)(b:Bool)(g:Int):List<|Nat×AV:=tC ns i G gl N len vm vr++[(18,.ptr<|some (e,0)),(19,.bool b),(20,.int .i64 g)]
def qF(ns:Int)(vr:AV):List<|Nat×AV:=[(2,.int .i64 ns),(13,.ptr<|some (273,0)),(16,vr)]
abbrev zx(l:List<|Nat×AV)(K:List Item):AF:=⟨3,aP l,max Tryz.f3.ntmps 5,K,[],none⟩
def KH:List Item:=[.code<|aW pg 3 [1,1,1,1,1,1,1,0,1,0,0],.inLoop<|aW pg 3 [1,1,1,1,1,1,1,0,1,0,0],.inBlock 0,.code<|aW pg 3 [1,1,1,1,1,1,1,1]]
def KP:List Item:=[.code<|aW pg 3 [1,1,1,1,1,1,1,0,1,0,0,1,0,0,1],.inBlock 1,.code<|aW pg 3 [1,1,1,1,1,1,1,0,1,0,0,1,1],.inLoop<|aW pg 3 [1,1,1,1,1,1,1,0,1,0,0],.inBlock 0,.code<|aW pg 3 [1,1,1,1,1,1,1,1]]
def KQ:List Item:=[.code<|aW pg 3 [1,1,1,1,1,1,1,0,1,0,0,1,0,0,1,1],.inBlock 1,.code<|aW pg 3 [1,1,1,1,1,1,1,0,1,0,0,1,1],.inLoop<|aW pg 3 [1,1,1,1,1,1,1,0,1,0,0],.inBlock 0,.code<|aW pg 3 [1,1,1,1,1,1,1,1]]
def KE:List Item:=(dt 3 [1,1,1,1,1,1,1,1])
def FJ(w seen:Int)(gl:Nat)(nv ns:Int)(z:Nat):List AV:=[.int .i64 2,.int .i64 (gl:Int),.int .i64 nv,.int .i64 ns,.int .u8 w,.ptr<|some (271,0),.ptr<|some (z,0),.int .i64 seen]
def pP(z mN rN:Nat)(uh um us:AV)(w seen:Int)(gl:Nat)(nv ns:Int)(om aU:Option ae):List<|Nat×Option ae:=[(270,some<|.tok 2 uh),(271,some<|.tok 4 um),(z,some<|.tok 1 us),(273,some<|.cells 8 (Tr.fill (FJ w seen gl nv ns z) 0 .nil) []),(mN,om),(rN,aU)]
def tD(z e:Nat)(uh um us:AV)(w seen:Int)(gl:Nat)(nv ns:Int)(om aU:Option ae)(ev:bZ):List<|Nat×Option ae:=pP z 274 275 uh um us w seen gl nv ns om aU++[(e,some<|oV ev)]
def xw(uh um us:AV)(w seen:Int)(gl:Nat)(nv ns:Int):List<|Nat×Option ae:=[(270,some<|.tok 2 uh),(271,some<|.tok 4 um),(272,some<|.tok 1 us),(273,some<|.cells 8 (Tr.fill (FJ w seen gl nv ns 272) 0 .nil) [])]
abbrev vj(B:aI)(fr:AF)(s:AS):Prop:=av pg B 270 (Fin pg (aA Tryz.f3) fun y _=>y= .bool true) fr s
abbrev MQ(uh um us:AV)(w seen:Int)(gl:Nat)(nv ns:Int)(om aU:Option ae):AS:=aj (aq++pP 272 274 275 uh um us w seen gl nv ns om aU) 276
abbrev stV(uh um us:AV)(w seen:Int)(gl:Nat)(nv ns:Int)(om aU:Option ae)(ev:bZ):AS:=aj (aq++tD 272 276 uh um us w seen gl nv ns om aU ev) 277
abbrev nQ(uh um us:AV)(w seen:Int)(gl:Nat)(nv ns:Int):AS:=aj (aq++xw uh um us w seen gl nv ns) 274
abbrev tG(n:Nat):AS->AS:=YT 270 dW eC n
abbrev tQ(k n:Nat)(u:AV):AS->Prop:=YS 270 dW eC k n u
theorem tR(L:bV)(g k n:Nat)(val:AV->List AV->Option AV)(rest:List AV)(v y:AV)(hv:val v rest=some y)(t:T)(h1:sp L g=some (lS k val 270 eC dW):=by as_aux_lemma=>kernel_rfl)(h2:(rest.all AV.hi&&Nat.ble 270 n)=true:=by as_aux_lemma=>kernel_rfl)(h3:Nat.blt n top=true:=by as_aux_lemma=>kernel_rfl)(h4:y.hi=true:=by as_aux_lemma=>kernel_rfl):
 (∀s,tQ k n v s->bh pg (sp L) FU 6 (.fn g) (.ptr (some (n,0))::rest) s= .ok y (tG n s))/\(true=true/\true=true/\some (ae.tok k v)=some (.tok k v))/\T:=
 ⟨af5 (P:=pg) (F:=FU) (m:=5) h1 h2 h3 hv h4,⟨rfl,rfl,rfl⟩,t⟩
theorem nk{B:aI}(mc:Mt LL B){s:AS}{FR:AF}{S1:AS}(H:vj B FR S1)(p:Pl)(x:T)(h:T=wp (en LL) 900 6 (.fr f nt K t s) p (aA Tryz.f3) (fun v s _=>v= .bool true) (fun fr s1 _=>fr=FR/\s1=S1):=by as_aux_lemma=>kernel_rfl)(h0:Nat.ble 270 s.nx=true:=by as_aux_lemma=>kernel_rfl):vj B ⟨f,t,nt,K,[],none⟩ s:=wC mc (C:=fun fr s1 _=>fr=FR/\s1=S1) nN p x h h0
theorem I4{B:aI}(mc:Mt LL B){s:AS}(p:Pl)(x:T)(h:T=wp (en LL) 900 6 (.fr f nt K t s) p (aA Tryz.f3) (fun v s _=>v= .bool true) (fun _ _ _=>False):=by as_aux_lemma=>kernel_rfl)(h0:Nat.ble 270 s.nx=true:=by as_aux_lemma=>kernel_rfl):vj B ⟨f,t,nt,K,[],none⟩ s:=l9 (E:=en LL) eJ rfl bU mc.2.2.1 mc.2.2.2 900 p x h h0
def Rw(K:Nat)(enc:α->List AV)(n:Nat)(v:AV)(o:Option ae)(m:Nat)(v':AV)(o':Option ae):Prop:=(v=kZ/\o=none/\v'=kZ/\o'=none)\/∃l:List α,l≠[]/\l.length<=100000/\v=vR n K l.length/\o=some (aJ enc l)/\v'=vR m K l.length/\o'=some (aJ enc l)
abbrev Rs(K:Nat)(enc:α->List AV)(n:Nat)(v:AV)(o:Option ae):Prop:=Rw K enc n v o n v o
theorem eV:mh 7 eY:=⟨fun _=>rfl,fun _=>rfl⟩
theorem Rw.v{α:Type}{K:Nat}{enc:α->List AV}{n m:Nat}{v v':AV}{o o':Option ae}{r:Nat->Nat}(h:Rw K enc n v o m v' o')(hr:r m=n):lJ [] r v v':=by
 rcases h with⟨rfl,_,rfl,_⟩|⟨l,_,_,rfl,_,rfl,_⟩
 ·exact(show bA r kZ kZ from fun ρ v hv=>by simp only[VR] at hv ⊢;exact hv).z
 ·exact(Wd hr (Nat.le_refl _)<|Nat.le_refl _).z
theorem Rw.o{K:Nat}(he:mh K enc)(hK:K<=7){n m:Nat}{v v':AV}{o o':Option ae}(h:Rw K enc n v o m v' o')(hr:r m=n)(ht:∀k,top<=k->r k=k)(hm:(n,o)∈o0):∀y,o'=some y->y.l7=true/\∃x,(r m,some x)∈o0/\fm x y/\fI [] r x y:=fun y e=>by
 rcases h with⟨_,_,_,rfl⟩|⟨l,_,hl,_,rfl,_,rfl⟩
 ·cases e
 ·cases e;exact⟨rfl,_,by rw[hr];exact hm,fm.refl _,hI.G3 he l (by have:=Nat.mul_le_mul hl hK;unfold top;omega) ht⟩
theorem Z4{ns i:Int}{G gl N len:Nat}{vm vr:AV}{l0 tl:List<|Nat×AV}(hG:(AV.ab G 0 gl).cq=true)(hN:(AV.ab N 0 len).cq=true)(ht:∀k,top<=k->r k=k)(h0:r 270=270)(h3:r 273=273)(hm:lJ [] r vm rP)(hq:lJ [] r vr rO)(hs:∀p∈tC ns i G gl N len vm vr,p∈l0)(rest:Dq r l0 tl):Dq r l0<|tC ns i G gl N len rP rO++tl:=⟨⟨by show 2<top;unfold top;omega,_,hs _<|mi 0,vi⟩,⟨⟨by show 3<top;unfold top;omega,_,hs _<|mi 1,(Hk (x:=.ab G 0 gl) ht hG).z⟩,⟨⟨by show 4<top;unfold top;omega,_,hs _<|mi 2,(Hk (x:=.ab N 0 len) ht hN).z⟩,⟨⟨by show 11<top;unfold top;omega,_,hs _<|mi 3,(bA.ptr h0).z⟩,⟨⟨by show 13<top;unfold top;omega,_,hs _<|mi 4,(bA.ptr h3).z⟩,⟨⟨by show 15<top;unfold top;omega,_,hs _<|mi 5,hm⟩,⟨⟨by show 16<top;unfold top;omega,_,hs _<|mi 6,hq⟩,⟨⟨by show 17<top;unfold top;omega,_,hs _<|mi 7,vi⟩,rest⟩⟩⟩⟩⟩⟩⟩⟩
theorem Z5{gl z mN rN:Nat}{uh um us:AV}{w seen nv ns:Int}{vm vr:AV}{om aU:Option ae}{tl:List<|Nat×Option ae}(ht:∀k,top<=k->r k=k)(h0:r 270=270)(h1:r 271=271)(h2:r 272=z)(h3:r 273=273)(h4:r 274=mN)(h5:r 275=rN)(hm:Rw 7 eY mN vm om 274 rP tB)(hq:Rw 1 aH rN vr aU 275 rO or')(hs:∀p∈pP z mN rN uh um us w seen gl nv ns om aU,p∈o0)(rest:xj r o0 tl):xj r o0<|pP 272 274 275 uh um us w seen gl nv ns tB or'++tl:=⟨mw (hs _<|mi 0) h0 (fm.refl _) G6,⟨mw (hs _<|mi 1) h1 (fm.refl _) G6,⟨mw (hs _<|mi 2) h2 (fm.refl _) G6,⟨mw (hs _<|mi 3) h3 qM<|KX (l:=FJ w seen gl nv ns z) (m:=FJ w seen gl nv ns 272) ⟨vi,vi,vi,vi,vi,(bA.ptr h1).z,(bA.ptr h2).z,vi,trivial⟩,⟨hm.o eV ah h4 ht<|hs _<|mi 4,⟨hq.o eI ah h5 ht<|hs _<|mi 5,rest⟩⟩⟩⟩⟩⟩
theorem zf{G gl N len:Nat}(K:List Item)(ns i:Int)(uh um us:AV)(w seen nv:Int)(z mN rN bG:Nat){vm vr:AV}{om aU:Option ae}(hG:(AV.ab G 0 gl).cq=true)(hN:(AV.ab N 0 len).cq=true)(hm:Rw 7 eY mN vm om 274 rP tB)(hq:Rw 1 aH rN vr aU 275 rO or')(h:xh [(270,270),(271,271),(272,z),(273,273),(274,mN),(275,rN)] 270 bG 276 [270,271,272,273,274,275]=true:=by as_aux_lemma=>kernel_rfl)(hi:FA [(270,270),(271,271),(272,z),(273,273),(274,mN),(275,rN)]=true:=by as_aux_lemma=>kernel_rfl):
 ((tC ns i G gl N len vm vr).map (fun q=>some q.2)=(tC ns i G gl N len vm vr).map (fun q=>some q.2))/\((aq++(pP z mN rN uh um us w seen gl nv ns om aU)).map (fun q=>q.2)=(aq++(pP z mN rN uh um us w seen gl nv ns om aU)).map (fun q=>q.2))/\gY FU 270 bG (tC ns i G gl N len vm vr) (aq++(pP z mN rN uh um us w seen gl nv ns om aU)) (tC ns i G gl N len rP rO) (aq++(pP 272 274 275 uh um us w seen gl nv ns tB or')) 276/\(zx (tC ns i G gl N len rP rO) K=zx (tC ns i G gl N len rP rO) K/\aj (aq++(pP 272 274 275 uh um us w seen gl nv ns tB or')) 276=aj (aq++(pP 272 274 275 uh um us w seen gl nv ns tB or')) 276):=
 ⟨rfl,rfl,Cu (ps:=[(270,270),(271,271),(272,z),(273,273),(274,mN),(275,rN)]) (lo:=270) (bG:=bG) ah h hi (fun r hr ht=>Z4 hG hN ht (rq hr) (rq hr) (hm.v<|rq hr) (hq.v<|rq hr) (fun p hp=>hp) (tl:=[]) trivial) fun r hr ht=>Z5 ht (rq hr) (rq hr) (rq hr) (rq hr) (rq hr) (rq hr) hm hq (fun p hp=>hp) (tl:=[]) trivial,rfl,rfl⟩
theorem Di{G gl N len:Nat}(K:List Item)(ns i:Int)(uh um us:AV)(w seen nv:Int)(z e bG:Nat){vm vr:AV}{om aU:Option ae}(b:Bool)(g:Int)(ev:bZ)(hG:(AV.ab G 0 gl).cq=true)(hN:(AV.ab N 0 len).cq=true)(hm:Rw 7 eY 274 vm om 274 rP tB)(hq:Rw 1 aH 275 vr aU 275 rO or')(h:xh [(270,270),(271,271),(272,z),(273,273),(274,274),(275,275),(276,e)] 270 bG 277 [270,271,272,273,274,275,276]=true:=by as_aux_lemma=>kernel_rfl)(hi:FA [(270,270),(271,271),(272,z),(273,273),(274,274),(275,275),(276,e)]=true:=by as_aux_lemma=>kernel_rfl):
 ((zw ns i G gl N len vm vr e b g).map (fun q=>some q.2)=(zw ns i G gl N len vm vr e b g).map (fun q=>some q.2))/\((aq++(tD z e uh um us w seen gl nv ns om aU ev)).map (fun q=>q.2)=(aq++(tD z e uh um us w seen gl nv ns om aU ev)).map (fun q=>q.2))/\gY FU 270 bG (zw ns i G gl N len vm vr e b g) (aq++(tD z e uh um us w seen gl nv ns om aU ev)) (zw ns i G gl N len rP rO 276 b g) (aq++(tD 272 276 uh um us w seen gl nv ns tB or' ev)) 277/\(zx (zw ns i G gl N len rP rO 276 b g) K=zx (zw ns i G gl N len rP rO 276 b g) K/\aj (aq++(tD 272 276 uh um us w seen gl nv ns tB or' ev)) 277=aj (aq++(tD 272 276 uh um us w seen gl nv ns tB or' ev)) 277):=
 ⟨rfl,rfl,Cu (ps:=[(270,270),(271,271),(272,z),(273,273),(274,274),(275,275),(276,e)]) (lo:=270) (bG:=bG) ah h hi (fun r hr ht=>Z4 hG hN ht (rq hr) (rq hr) (hm.v<|rq hr) (hq.v<|rq hr) (fun p hp=>List.mem_append_left _ hp) ⟨⟨by show 18<top;unfold top;omega,_,mi 8,(bA.ptr<|rq hr).z⟩,⟨by show 19<top;unfold top;omega,_,mi 9,(bA.bool _).z⟩,⟨by show 20<top;unfold top;omega,_,mi 10,vi⟩,trivial⟩) fun r hr ht=>Z5 ht (rq hr) (rq hr) (rq hr) (rq hr) (rq hr) (rq hr) hm hq (fun p hp=>List.mem_append_left _ hp) ⟨mw (mi 6) (rq hr) (fm.refl _)<|KX (l:=eY ev) (m:=eY ev) ⟨vi,vi,vi,vi,vi,vi,vi,trivial⟩,trivial⟩,rfl,rfl⟩
abbrev my(B:aI)(K:List Item)(ns i:Int)(G gl N len:Nat)(uh um us:AV)(w seen nv:Int)(vm vr:AV)(om aU:Option ae):Prop:=vj B (zx (tC ns i G gl N len vm vr) K)<|MQ uh um us w seen gl nv ns om aU
abbrev pQ(B:aI)(ns i:Int)(G gl N len:Nat)(uh um us:AV)(w seen nv:Int)(vm vr:AV)(om aU:Option ae)(b:Bool)(g:Int)(ev:bZ):Prop:=vj B (zx (zw ns i G gl N len vm vr 276 b g) KQ)<|stV uh um us w seen gl nv ns om aU ev
abbrev vp(ns i:Int)(G gl N len:Nat)(uh um us:AV)(w seen nv:Int)(vm vr:AV)(om aU:Option ae)(z mN rN bG:Nat)(rP rO:AV)(tB or':Option ae):Pl:=.rn (tC ns i G gl N len vm vr) (aq++pP z mN rN uh um us w seen gl nv ns om aU) (tC ns i G gl N len rP rO) (aq++pP 272 274 275 uh um us w seen gl nv ns tB or') bG 276 .no
abbrev Bl(ns i:Int)(G gl N len:Nat)(uh um us:AV)(w seen nv:Int)(vm vr:AV)(om aU:Option ae)(z e bG:Nat)(b:Bool)(g:Int)(ev:bZ):Pl:=.rn (zw ns i G gl N len vm vr e b g) (aq++tD z e uh um us w seen gl nv ns om aU ev) (zw ns i G gl N len vm vr 276 b g) (aq++tD 272 276 uh um us w seen gl nv ns om aU ev) bG 277 .no
theorem F3{K:Nat}{l:List α}(n m:Nat)(h:l≠[])(hl:l.length<=100000):Rw K enc n (vR n K l.length) (some<|aJ enc l) m (vR m K l.length)<|some<|aJ enc l:=.inr ⟨l,h,hl,rfl,rfl,rfl,rfl⟩
theorem wI(i:Int)(h0:0<=i)(hl:i<=2000):(AV.int .i64<|IntKind.wrap .i64<|i+1)= .int .i64 (i+1):=congrArg (AV.int .i64)<|Bo ah
section
variable {B:aI} {ns i:Int} {G gl N len:Nat} {uh um us:AV} {w seen nv:Int} {vm vr:AV} {om aU:Option ae}
section
variable (mc:Mt LL B) (hG:(AV.ab G 0 gl).cq=true) (hN:(AV.ab N 0 len).cq=true) (hm:Rs 7 eY 274 vm om) (hq:Rs 1 aH 275 vr aU)
include mc hG hN hm hq
theorem tnO{kd:Int}(hn:top<=N)(h0:0<=i)(hl:len<=2000)(h1:i<(len:Int))(hx:(cx FU N (0+i.toNat*4+0) 1=some [.int .u8 kd]))(hk:kd≠1/\kd≠2)(H:my B KP ns i G gl N len uh um us w seen nv vm vr om aU):my B KH ns i G gl N len uh um us w seen nv vm vr om aU:=nk mc H (.st 2<|.rg<|.go 3<|.fk (.en<|.st 6<|.rg<|.go 2<|.eG<|.go 1<|.eH [.int .u8 kd]<|.en<|.st 2<|.rg<|.fk .no<|.go 1<|.en<|.st 2<|.rg<|.fk .no<|.go 1<|.en<|.st 3<|vp ns i G gl N len uh um us w seen nv vm vr om aU 272 274 275 276 vm vr om aU) .no)<|ax (i<(len:Int)) (fun _=>(ai (show(0:Int)<=i from h0)<|ai (show i<(len:Int) from h1)<|ai hn<|ai hx<|ax (kd=1) (fun h=>show False by omega) fun _=>(ax (kd=2) (fun h=>show False by omega) fun _=>(zf KP ns i uh um us w seen nv 272 274 275 276 hG hN hm hq)))) (fun h=>show False by omega)
def pU(kd:Nat)(p:Pl):Pl:=match kd with
 |1=>.st 1<|.rg p
 |_=>.st 2<|.rg<|.go 2<|.en<|.st 1<|.rg p
theorem Z6{au dC r:Int}{u1:AV}{kd:Nat}{F:cL->List AV->Option (AV×cL)}(hk:(kd=1/\F=Mc)\/(kd=2/\F=Md))(hn:top<=N)(h0:0<=i)(hl:len<=2000)(h1:i<(len:Int))(hx:(cx FU N (0+i.toNat*4+0) 1=some [.int .u8<|.ofNat kd]))(hy:(cx FU N (0+i.toNat*4+1) 1=some [.int .i64 au]))(hz:(cx FU N (0+i.toNat*4+2) 1=some [.int .i64 dC]))(k0:gQ (eW aX F) uh [.int .i64 au,.int .i64 dC]=some (.int .i64 r,u1))(H:my B KP ns i G gl N len u1 um us w seen nv vm vr om aU):my B KH ns i G gl N len uh um us w seen nv vm vr om aU:=by
 have TT:=(ax (i<(len:Int)) (fun _=>(ai (show(0:Int)<=i from h0)
  (ai (show i<(len:Int) from h1)
  (ai hn
  (ai hx
  (ai (show(0:Int)<=i from h0)
  (ai (show i<(len:Int) from h1)
  (ai hn
  (ai hy
  (ai (show(0:Int)<=i from h0)
  (ai (show i<(len:Int) from h1)
  (ai hn
  (ai hz
  (ai k0
  (zf KP ns i u1 um us w seen nv 272 274 275 276 hG hN hm hq))))))))))))))) (fun h=>show False by omega))
 let P:Pl:=(.st 2<|.rg<|.go 3<|.fk (.en<|.st 6<|.rg<|.go 2<|.eG<|.go 1<|.eH [.int .u8<|.ofNat kd]<|.en<|.st 2<|.rg<|.go 2<|.en<|pU kd<|.go 3<|.eG<|.go 1<|.eH [.int .i64 au]<|.go 2<|.eG<|.go 1<|.eH [.int .i64 dC]<|.kt (.int .i64 r) u1<|.en<|.st 1<|vp ns i G gl N len u1 um us w seen nv vm vr om aU 272 274 275 276 vm vr om aU) .no);rcases hk with⟨rfl,rfl⟩|⟨rfl,rfl⟩
 all_goals exact nk mc H P TT uF
def pA(uh:AV)(nv ns:Int)(p:Pl):Pl:=(.st 1<|.rg<|.go 2<|.il<|.st 11<|.rg<|.go 1<|.cg (.int .i64 nv) (tG 270) (tQ 2 270 uh)<|.go 4<|.fk .no<|.go 2<|.cg (.int .i64 ns) (tG 270) (tQ 2 270 uh)<|.go 4<|.fk .no<|.go 2<|.en<|.st 6<|.rg<|.go 8<|.il p)
def pZ(p:Pl):Pl:=(.il<|.rt 7<|.go 4<|.en<|.rt 1<|.go 5<|.en<|.rt 3<|.go 8<|.en p)
def pY(p:Pl):Pl:=(.il<|.st 5<|.rg<|.go 4<|.il<|.rt 7<|.go 4<|.en<|.rt 1<|.go 4<|.en<|.rt 1<|.go 5<|.en<|.rt 3<|.go 8<|.en p)
theorem stX(hw:4<w)(H:pQ B ns i G gl N len uh um us w seen nv vm vr om aU false 7 ⟨0,0,0,0,0,0,0⟩):my B KP ns i G gl N len uh um us w seen nv vm vr om aU:=nk mc H (.st 1<|.rg<|.go 2<|.il<|.st 8<|.rg<|.go 4<|.fk (.go 1<|.en<|.rt 4<|.go 8<|.en<|Bl ns i G gl N len uh um us w seen nv vm vr om aU 272 277 278 false 7 ⟨0,0,0,0,0,0,0⟩) .no)<|ax (w>4) (fun _=>(Di KQ ns i uh um us w seen nv 272 277 278 false 7 ⟨0,0,0,0,0,0,0⟩ hG hN hm hq)) (fun h=>show False by omega)
noncomputable abbrev yB(ka:Nat)(an xn:Int):AV:=.agg [.int .u8<|.ofNat ka,.int .i64 an,.int .i64 xn]
theorem ib(hk:(ka=1/\kb=2)\/(ka=2/\kb=3)\/(ka=3/\kb=5)\/(ka=4/\kb=6))(k0:bK aX pj uh []=some (.int .i64 nv))(k1:bK aX oO uh []=some (.int .i64 ns))(k2:bK aX EF uh []=some (.int .i64 c))(k3:lP Ed [.int .i64 c,.int .i64 ns]=some (some nK,fun p=>.tuple [p,.int .i64 0]))(k4:bK eK (fun a rest=>(mo a rest).map (·.1)) um []=some (yB ka an xn))(H:pQ B ns i G gl N len uh um nK kb seen nv vm vr om aU true 0 ⟨1,2,(gl:Int),0,c,0,0⟩):my B KP ns i G gl N len uh um us 1 seen nv vm vr om aU:=by
 have TT:=(tR LL 28 2 270 (bK aX pj) [] uh (.int .i64 nv) k0<|ax (nv≠nv) (fun h=>show False by omega) fun _=>(tR LL 29 2 270 (bK aX oO) [] uh (.int .i64 ns) k1<|ax (ns≠ns) (fun h=>show False by omega) fun _=>(tR LL 46 2 270 (bK aX EF) [] uh (.int .i64 c) k2<|ai k3<|tR LL 38 4 271 (bK eK fun a rest=>(mo a rest).map (·.1)) [] um (yB ka an xn) k4<|tR LL 46 2 270 (bK aX EF) [] uh (.int .i64 c) k2<|Di KQ ns i uh um nK kb seen nv 279 282 283 true 0 ⟨1,2,(gl:Int),0,c,0,0⟩ hG hN hm hq)));let P:Pl:=(pA uh nv ns<|.st 4<|.rg<|.go 1<|.cg (.int .i64 c) (tG 270) (tQ 2 270 uh)<|.go 4<|.nt (some nK) (fun p=>.tuple [p,.int .i64 0])<|.go 5<|.en<|.st 5<|.rg<|.go 1<|.il<|.rg<|.go 6<|.cg (yB ka an xn) (tG 271) (tQ 4 271 um)<|.go 5<|.en<|.rt 1<|.en<|.st 1<|.rg<|.go 6<|.cg (.int .i64 c) (tG 270) (tQ 2 270 uh)<|.go 1<|pZ<|Bl ns i G gl N len uh um nK kb seen nv vm vr om aU 279 282 283 true 0 ⟨1,2,(gl:Int),0,c,0,0⟩);rcases hk with⟨rfl,rfl⟩|⟨rfl,rfl⟩|⟨rfl,rfl⟩|⟨rfl,rfl⟩
 all_goals exact nk mc H P TT uF
theorem jx(hk:(ka=1/\kb=2)\/(ka=2/\kb=3)\/(ka=3/\kb=5)\/(ka=4/\kb=6))(k0:bK aX pj uh []=some (.int .i64 nv))(k1:bK aX oO uh []=some (.int .i64 ns))(k2:gQ (eW eK E9) um []=some (.int .i64 0,oH))(k3:bK eK (fun a rest=>(mo a rest).map (·.1)) oH []=some (yB ka an xn))(H:pQ B ns i G gl N len uh oH us kb seen nv vm vr om aU false 0 ⟨0,0,0,0,0,0,0⟩):my B KP ns i G gl N len uh um us 2 seen nv vm vr om aU:=by
 have TT:=(tR LL 28 2 270 (bK aX pj) [] uh (.int .i64 nv) k0<|ax (nv≠nv) (fun h=>show False by omega) fun _=>(tR LL 29 2 270 (bK aX oO) [] uh (.int .i64 ns) k1<|ax (ns≠ns) (fun h=>show False by omega) fun _=>(ai k2<|tR LL 38 4 271 (bK eK fun a rest=>(mo a rest).map (·.1)) [] oH (yB ka an xn) k3<|Di KQ ns i uh oH us kb seen nv 272 279 280 false 0 ⟨0,0,0,0,0,0,0⟩ hG hN hm hq)));let P:Pl:=(pA uh nv ns<|.st 3<|.rg<|.go 4<|.kt (.int .i64 0) oH<|.en<|.st 1<|.rg<|.go 1<|.il<|.rg<|.go 6<|.cg (yB ka an xn) (tG 271) (tQ 4 271 oH)<|.go 5<|.en<|.rt 1<|.en<|.rt 3<|.go 5<|.en<|.rt 3<|.go 8<|.en<|Bl ns i G gl N len uh oH us kb seen nv vm vr om aU 272 279 280 false 0 ⟨0,0,0,0,0,0,0⟩);rcases hk with⟨rfl,rfl⟩|⟨rfl,rfl⟩|⟨rfl,rfl⟩|⟨rfl,rfl⟩
 all_goals exact nk mc H P TT uF
noncomputable abbrev wt(kq au xq:Int):AV:=.agg [.int .u8 kq,.int .i64 au,.int .i64 xq]
def pK(uh um:AV)(kq au xq s ow ve:Int)(p:Pl):Pl:=(.st 3<|.rg<|.go 5<|.cg (wt kq au xq) (tG 271) (tQ 4 271 um)<|.go 1<|.cg (.int .i64 s) (tG 270) (tQ 2 270 uh)<|.go 1<|.en<|.st 2<|.rg<|.go 6<|.cg (.int .i64 ow) (tG 270) (tQ 2 270 uh)<|.go 2<|.cg (.int .i64 ve) (tG 270) (tQ 2 270 uh) p)
theorem stK{au:Int}(k0:bK aX pj uh []=some (.int .i64 nv))(k1:bK aX oO uh []=some (.int .i64 ns))(k2:bK eK (fun a rest=>(mo a rest).map (·.1)) um []=some (wt kq au xq))(k3:bK aX np uh [.int .i64 au]=some (.int .i64 s))(k4:bK aX uo uh [.int .i64 s]=some (.int .i64 ow))(k5:bK aX rY uh [.int .i64 s]=some (.int .i64 ve))(k6:gQ (eW gR Cr) us [.int .i64 ow,.int .i64 ve]=some (.int .u8 0,us))(H:pQ B ns i G gl N len uh um us 4 ve nv vm vr om aU true 0 ⟨2,2,0,s,ve,0,0⟩):my B KP ns i G gl N len uh um us 3 seen nv vm vr om aU:=nk mc H (pA uh nv ns<|pK uh um kq au xq s ow ve<|.kt (.int .u8 0) us<|.go 1<|.en<|.st 5<|.rg<|.go 4<|.cg (.int .i64 ve) (tG 270) (tQ 2 270 uh)<|.go 6<|.en<|.st 1<|.rg<|.go 7<|pZ<|Bl ns i G gl N len uh um us 4 ve nv vm vr om aU 272 281 282 true 0 ⟨2,2,0,s,ve,0,0⟩)<|tR LL 28 2 270 (bK aX pj) [] uh (.int .i64 nv) k0<|ax (nv≠nv) (fun h=>show False by omega) fun _=>(tR LL 29 2 270 (bK aX oO) [] uh (.int .i64 ns) k1<|ax (ns≠ns) (fun h=>show False by omega) fun _=>(tR LL 38 4 271 (bK eK fun a rest=>(mo a rest).map (·.1)) [] um (wt kq au xq) k2<|tR LL 11 2 270 (bK aX np) [.int .i64 au] uh (.int .i64 s) k3<|tR LL 51 2 270 (bK aX uo) [.int .i64 s] uh (.int .i64 ow) k4<|tR LL 52 2 270 (bK aX rY) [.int .i64 s] uh (.int .i64 ve) k5<|ai k6<|tR LL 52 2 270 (bK aX rY) [.int .i64 s] uh (.int .i64 ve) k5<|Di KQ ns i uh um us 4 ve nv 272 281 282 true 0 ⟨2,2,0,s,ve,0,0⟩ hG hN hm hq))
theorem YX{au:Int}(hw:gy≠0)(k0:bK aX pj uh []=some (.int .i64 nv))(k1:bK aX oO uh []=some (.int .i64 ns))(k2:bK eK (fun a rest=>(mo a rest).map (·.1)) um []=some (wt kq au xq))(k3:bK aX np uh [.int .i64 au]=some (.int .i64 s))(k4:bK aX uo uh [.int .i64 s]=some (.int .i64 ow))(k5:bK aX rY uh [.int .i64 s]=some (.int .i64 ve))(k6:gQ (eW gR Cr) us [.int .i64 ow,.int .i64 ve]=some (.int .u8 gy,us))(H:pQ B ns i G gl N len uh um us 7 seen nv vm vr om aU true 0 ⟨10,2,0,s,0,0,gy⟩):my B KP ns i G gl N len uh um us 3 seen nv vm vr om aU:=nk mc H (pA uh nv ns<|pK uh um kq au xq s ow ve<|.kt (.int .u8 gy) us<|.go 1<|.en<|.st 1<|.rg<|.go 1<|.fk (.en<|.st 2<|.rg<|.go 3<|pY<|Bl ns i G gl N len uh um us 7 seen nv vm vr om aU 272 282 283 true 0 ⟨10,2,0,s,0,0,gy⟩) .no)<|tR LL 28 2 270 (bK aX pj) [] uh (.int .i64 nv) k0<|ax (nv≠nv) (fun h=>show False by omega) fun _=>(tR LL 29 2 270 (bK aX oO) [] uh (.int .i64 ns) k1<|ax (ns≠ns) (fun h=>show False by omega) fun _=>(tR LL 38 4 271 (bK eK fun a rest=>(mo a rest).map (·.1)) [] um (wt kq au xq) k2<|tR LL 11 2 270 (bK aX np) [.int .i64 au] uh (.int .i64 s) k3<|tR LL 51 2 270 (bK aX uo) [.int .i64 s] uh (.int .i64 ow) k4<|tR LL 52 2 270 (bK aX rY) [.int .i64 s] uh (.int .i64 ve) k5<|ai k6<|ax (gy≠0) (fun _=>(Di KQ ns i uh um us 7 seen nv 272 282 283 true 0 ⟨10,2,0,s,0,0,gy⟩ hG hN hm hq)) (fun h=>show False by omega)))
def pH(uh um:AV)(kq au xq s:Int)(p:Pl):Pl:=(.st 3<|.rg<|.go 4<|.cg (wt kq au xq) (tG 271) (tQ 4 271 um)<|.go 2<|.en<|.st 1<|.rg<|.go 2<|.cg (.int .i64 s) (tG 270) (tQ 2 270 uh)<|.go 1<|.en<|.st 2<|.rg<|.go 2 p)
theorem akQ{au:Int}(hw:ow≠ -1\/ve≠seen)(k0:bK aX pj uh []=some (.int .i64 nv))(k1:bK aX oO uh []=some (.int .i64 ns))(k2:bK eK (fun a rest=>(mo a rest).map (·.1)) um []=some (wt kq au xq))(k3:bK aX np uh [.int .i64 au]=some (.int .i64 s))(k4:bK aX uo uh [.int .i64 s]=some (.int .i64 ow))(k5:bK aX rY uh [.int .i64 s]=some (.int .i64 ve))(H:pQ B ns i G gl N len uh um us 7 seen nv vm vr om aU true 0 ⟨10,2,0,s,0,0,3⟩):my B KP ns i G gl N len uh um us 4 seen nv vm vr om aU:=nk mc H (pA uh nv ns<|pH uh um kq au xq s<|.cg (.int .i64 ow) (tG 270) (tQ 2 270 uh)<|.fk (.go 10<|.en<|.st 2<|.rg<|.go 2<|pY<|Bl ns i G gl N len uh um us 7 seen nv vm vr om aU 272 282 283 true 0 ⟨10,2,0,s,0,0,3⟩)<|.go 3<|.cg (.int .i64 ve) (tG 270) (tQ 2 270 uh)<|.go 4<|.fk (.go 1<|.en<|.st 2<|.rg<|.go 2<|pY<|Bl ns i G gl N len uh um us 7 seen nv vm vr om aU 272 282 283 true 0 ⟨10,2,0,s,0,0,3⟩) .no)<|tR LL 28 2 270 (bK aX pj) [] uh (.int .i64 nv) k0<|ax (nv≠nv) (fun h=>show False by omega) fun _=>(tR LL 29 2 270 (bK aX oO) [] uh (.int .i64 ns) k1<|ax (ns≠ns) (fun h=>show False by omega) fun _=>(tR LL 38 4 271 (bK eK fun a rest=>(mo a rest).map (·.1)) [] um (wt kq au xq) k2<|tR LL 11 2 270 (bK aX np) [.int .i64 au] uh (.int .i64 s) k3<|tR LL 51 2 270 (bK aX uo) [.int .i64 s] uh (.int .i64 ow) k4<|ax (ow≠ -1) Yp fun _=>(tR LL 52 2 270 (bK aX rY) [.int .i64 s] uh (.int .i64 ve) k5<|ax (ve≠seen) Yp (fun h=>show False by omega))))
theorem stL(hk:(ka=1/\kb=2)\/(ka=2/\kb=3)\/(ka=3/\kb=5)\/(ka=4/\kb=6)){au ra:Int}(k0:bK aX pj uh []=some (.int .i64 nv))(k1:bK aX oO uh []=some (.int .i64 ns))(k2:bK eK (fun a rest=>(mo a rest).map (·.1)) um []=some (wt kq au xq))(k3:bK aX np uh [.int .i64 au]=some (.int .i64 s))(k4:bK aX uo uh [.int .i64 s]=some (i6<|-1))(k5:bK aX rY uh [.int .i64 s]=some (.int .i64 seen))(k6:bK aX Ht uh [.int .i64 au]=some (.int .i64 x))(k7:gQ (eW eK CR) um [.int .i64 x]=some (.int .i64 0,oH))(k8:gQ (eW gR Ie) us [.int .i64 s]=some (.int .i64 ra,nK))(k9:bK eK (fun a rest=>(mo a rest).map (·.1)) oH []=some (yB ka an xn))(H:pQ B ns i G gl N len uh oH nK kb seen nv vm vr om aU true 0 ⟨3,2,0,au,0,x,0⟩):my B KP ns i G gl N len uh um us 4 seen nv vm vr om aU:=by
 have TT:=(tR LL 28 2 270 (bK aX pj) [] uh (.int .i64 nv) k0<|ax (nv≠nv) (fun h=>show False by omega) fun _=>(tR LL 29 2 270 (bK aX oO) [] uh (.int .i64 ns) k1<|ax (ns≠ns) (fun h=>show False by omega) fun _=>(tR LL 38 4 271 (bK eK fun a rest=>(mo a rest).map (·.1)) [] um (wt kq au xq) k2<|tR LL 11 2 270 (bK aX np) [.int .i64 au] uh (.int .i64 s) k3<|tR LL 51 2 270 (bK aX uo) [.int .i64 s] uh (i6<|-1) k4<|tR LL 52 2 270 (bK aX rY) [.int .i64 s] uh (.int .i64 seen) k5<|ax (seen≠seen) (fun h=>show False by omega) fun _=>(tR LL 54 2 270 (bK aX Ht) [.int .i64 au] uh (.int .i64 x) k6 (ai k7
  (ai k8
  (tR LL 38 4 271 (bK eK fun a rest=>(mo a rest).map (·.1)) [] oH (yB ka an xn) k9<|Di KQ ns i uh oH nK kb seen nv 272 281 282 true 0 ⟨3,2,0,au,0,x,0⟩ hG hN hm hq)))))))
 let P:Pl:=(pA uh nv ns<|pH uh um kq au xq s<|.cg (i6<|-1) (tG 270) (tQ 2 270 uh)<|.go 4<|.cg (.int .i64 seen) (tG 270) (tQ 2 270 uh)<|.go 4<|.fk .no<|.go 1<|.en<|.st 3<|.rg<|.go 2<|.cg (.int .i64 x) (tG 270) (tQ 2 270 uh)<|.go 1<|.en<|.st 1<|.rg<|.go 5<|.kt (.int .i64 0) oH<|.en<|.st 1<|.rg<|.go 5<|.kt (.int .i64 ra) nK<|.en<|.st 1<|.rg<|.go 1<|.il<|.rg<|.go 6<|.cg (yB ka an xn) (tG 271) (tQ 4 271 oH)<|.go 5<|.en<|.rt 1<|.en<|.st 1<|.rg<|.go 4<|pZ<|Bl ns i G gl N len uh oH nK kb seen nv vm vr om aU 272 281 282 true 0 ⟨3,2,0,au,0,x,0⟩);rcases hk with⟨rfl,rfl⟩|⟨rfl,rfl⟩|⟨rfl,rfl⟩|⟨rfl,rfl⟩
 all_goals exact nk mc H P TT uF
theorem evI(h0:0<=i)(hl:i<=2000)(H:my B KH ns (i+1) G gl N len uh um us w seen nv vm vr om aU):pQ B ns i G gl N len uh um us w seen nv vm vr om aU false 0 ⟨0,0,0,0,0,0,0⟩:=nk mc H (.st 2<|.rg<|.go 2<|.en<|.st 4<|.rg<|.go 19<|.en<|.st 4<|.rg<|.go 2<|.en<|.st 2<|.rg<|.go 1<|.vl (i6<|i+1)<|.go 1<|.en<|.st 1<|vp ns (i+1) G gl N len uh um us w seen nv vm vr om aU 272 274 275 277 vm vr om aU)<|ai (wI i h0 hl)<|zf KH ns (i+1) uh um us w seen nv 272 274 275 277 hG hN hm hq
end
section
variable (mc:Mt LL B) (hG:(AV.ab G 0 gl).cq=true) (hN:(AV.ab N 0 len).cq=true) (h0:0<=i) (hl:i<=2000)
include mc hG hN h0 hl
theorem evB(hq:Rs 1 aH 275 vr aU)(H:my B KH ns (i+1) G gl N len uh um us w seen nv (vR 274 7 [(⟨1,2,(gl:Int),0,c,0,0⟩:bZ)].length) vr (some<|aJ eY [(⟨1,2,(gl:Int),0,c,0,0⟩:bZ)]) aU):pQ B ns i G gl N len uh um us w seen nv kZ vr none aU true 0 (⟨1,2,(gl:Int),0,c,0,0⟩:bZ):=nk mc H (.st 2<|.rg<|.go 2<|.en<|.st 4<|.rg<|.go 19<|.en<|.st 4<|.rg<|.go 2<|.en<|.st 3<|.rg<|.go 1<|.en<|.st 2<|.rg<|.go 3<|.en<|.st 4<|.rg<|.go 2<|.en<|.st 2<|.rg<|.go 2<|.en<|.st 2<|.rg<|.go 7<|.fk .no<|.go 1<|.en<|.st 3<|.rg<|.go 5<|.en<|.st 1<|.rg<|.go 1<|.vl (i6<|i+1)<|.go 1<|.en<|.st 1<|vp ns (i+1) G gl N len uh um us w seen nv (vR 278 7 [(⟨1,2,(gl:Int),0,c,0,0⟩:bZ)].length) vr (some<|aJ eY [(⟨1,2,(gl:Int),0,c,0,0⟩:bZ)]) aU 272 278 275 279 (vR 274 7 [(⟨1,2,(gl:Int),0,c,0,0⟩:bZ)].length) vr (some<|aJ eY [(⟨1,2,(gl:Int),0,c,0,0⟩:bZ)]) aU)<|ax ((gl:Int)≠(gl:Int)) (fun h=>show False by omega) fun _=>(ai (wI i h0 hl)<|zf KH ns (i+1) uh um us w seen nv 272 278 275 279 hG hN (F3 278 274 (List.cons_ne_nil (⟨1,2,(gl:Int),0,c,0,0⟩:bZ) []) (by show 1<=100000;omega)) hq)
omit mc hG hN h0 hl in
theorem Gl{L:List bZ}{e0:bZ}(hp:0<L.length)(hL:L.length<=5000)(hx:L[((L.length:Int) - 1).toNat]? =some e0)(j:Nat)(t:T)(hj:Nat.ble (j+1) 7=true:=by rfl):AV.int .i64 (IntKind.wrap .i64<|(L.length:Int) - 1)= .int .i64 ((L.length:Int) - 1)/\(0:Int)<=(L.length:Int) - 1/\(L.length:Int) - 1<(L.length:Int)/\cellsOf (some<|aJ eY L) (((L.length:Int) - 1).toNat*7+j) 1=some (((eY e0).drop j).take 1)/\T:=⟨congrArg (AV.int .i64)<|Bo ah,by omega,by omega,nr eV.1 eX hx j 1 hj,t⟩
def pT(L:List bZ)(i:Int)(e:bZ)(p:Pl):Pl:=(.rg<|.go 3<|.ap bZ eY L e<|.go 1<|.en<|.st 1<|.rg<|.go 1<|.vl (i6<|i+1)<|.go 1<|.en<|.st 1 p)
def pE(L:List bZ)(k:Int)(p:Pl):Pl:=(.st 2<|.rg<|.go 2<|.en<|.st 4<|.rg<|.go 19<|.en<|.st 4<|.rg<|.go 2<|.en<|.st 3<|.rg<|.go 1<|.en<|.st 2<|.rg<|.go 2<|.fk (.en<|.st 1<|.rg<|.go 3<|.vl (i6<|(L.length:Int) - 1)<|.ix<|.go 1<|.ld [.int .u8 k]<|.go 1<|.en<|.st 2<|.rg<|.go 2<|.en<|.st 2<|.rg<|.go 2<|.en<|.st 2<|.rg p) .no)
theorem evK{L:List bZ}{e0:bZ}(hq:Rs 1 aH 275 vr aU)(hp:0<L.length)(hL:L.length<=5000)(hx:L[((L.length:Int) - 1).toNat]? =some e0)(hk:e0.k=1\/e0.k=3)(H:my B KH ns (i+1) G gl N len uh um us w seen nv (vR 274 7 (L++[(⟨2,2,0,s,ve,0,0⟩:bZ)]).length) vr (some<|aJ eY<|L++[(⟨2,2,0,s,ve,0,0⟩:bZ)]) aU):pQ B ns i G gl N len uh um us w seen nv (vR 274 7 L.length) vr (some<|aJ eY L) aU true 0 (⟨2,2,0,s,ve,0,0⟩:bZ):=nk mc H (pE L e0.k<|.go 2<|.en<|.st 2<|.rg<|.go 1<|.fk (.go 2<|.fk .no<|.go 1<|.en<|.st 3<|pT L i (⟨2,2,0,s,ve,0,0⟩:bZ)<|vp ns (i+1) G gl N len uh um us w seen nv (vR 278 7 (L++[(⟨2,2,0,s,ve,0,0⟩:bZ)]).length) vr (some<|aJ eY<|L++[(⟨2,2,0,s,ve,0,0⟩:bZ)]) aU 272 278 275 279 (vR 274 7 (L++[(⟨2,2,0,s,ve,0,0⟩:bZ)]).length) vr (some<|aJ eY<|L++[(⟨2,2,0,s,ve,0,0⟩:bZ)]) aU)<|.go 4<|.en<|.st 3<|pT L i (⟨2,2,0,s,ve,0,0⟩:bZ)<|vp ns (i+1) G gl N len uh um us w seen nv (vR 278 7 (L++[(⟨2,2,0,s,ve,0,0⟩:bZ)]).length) vr (some<|aJ eY<|L++[(⟨2,2,0,s,ve,0,0⟩:bZ)]) aU 272 278 275 279 (vR 274 7 (L++[(⟨2,2,0,s,ve,0,0⟩:bZ)]).length) vr (some<|aJ eY<|L++[(⟨2,2,0,s,ve,0,0⟩:bZ)]) aU)<|ax ((L.length:Int)>0) (fun _=>(Gl hp hL hx 0<|ax (e0.k≠1) (fun _=>(ax (e0.k≠3) (fun h=>show False by omega) fun _=>(wW eY L (⟨2,2,0,s,ve,0,0⟩:bZ) (K:=7) (j9:=56) (fun _=>⟨rfl,rfl⟩) CF CG Ym))) fun _=>(wW eY L (⟨2,2,0,s,ve,0,0⟩:bZ) (K:=7) (j9:=56) (fun _=>⟨rfl,rfl⟩) CF CG Ym))) (fun h=>show False by omega)
noncomputable abbrev Fg(L:List bZ)(au x:Int):Option ae:=some<|aJ eY<|L++[(⟨3,2,0,au,0,x,0⟩:bZ)]
theorem akR{L:List bZ}{au:Int}(hp:0<L.length)(hL:L.length<=5000)(hx:L[((L.length:Int) - 1).toNat]? =some (⟨2,2,0,s,ve,0,0⟩:bZ))(k0:bK aX np uh [.int .i64 au]=some (.int .i64 s))(H:my B KH ns (i+1) G gl N len uh um us w seen nv (vR 274 7 (L++[(⟨3,2,0,au,0,x,0⟩:bZ)]).length) (vR 275 1 [s].length) (Fg L au x)<|some<|aJ aH [s]):pQ B ns i G gl N len uh um us w seen nv (vR 274 7 L.length) kZ (some<|aJ eY L) none true 0 (⟨3,2,0,au,0,x,0⟩:bZ):=nk mc H (pE L 2<|.go 2<|.en<|.st 2<|.rg<|.go 2<|.en<|.st 3<|.rg<|.go 6<|.cg (.int .i64 s) (tG 270) (tQ 2 270 uh)<|.go 3<|.vl (i6<|(L.length:Int) - 1)<|.ix<|.go 1<|.ld [.int .i64 s]<|.fk .no<|.go 1<|.en<|.st 2<|.rg<|.go 4<|.cg (.int .i64 s) (tG 270) (tQ 2 270 uh)<|.go 3<|.en<|.st 1<|pT L i (⟨3,2,0,au,0,x,0⟩:bZ)<|vp ns (i+1) G gl N len uh um us w seen nv (vR 280 7 (L++[(⟨3,2,0,au,0,x,0⟩:bZ)]).length) (vR 278 1 [s].length) (Fg L au x) (some<|aJ aH [s]) 272 280 278 281 (vR 274 7 (L++[(⟨3,2,0,au,0,x,0⟩:bZ)]).length) (vR 275 1 [s].length) (Fg L au x)<|some<|aJ aH [s])<|ax ((L.length:Int)>0) (fun _=>(Gl hp hL hx 0<|tR LL 11 2 270 (bK aX np) [.int .i64 au] uh (.int .i64 s) k0<|Gl hp hL hx 3<|ax (s≠s) (fun h=>show False by omega) fun _=>(tR LL 11 2 270 (bK aX np) [.int .i64 au] uh (.int .i64 s) k0<|wW eY L (⟨3,2,0,au,0,x,0⟩:bZ) (K:=7) (j9:=56) (fun _=>⟨rfl,rfl⟩) CF CG<|ai (wI i h0 hl)<|zf KH ns (i+1) uh um us w seen nv 272 280 278 281 hG hN Yo<|F3 278 275 (List.cons_ne_nil s []) (by show 1<=100000;omega)))) (fun h=>show False by omega)
theorem evL{L:List bZ}{R:List Int}{au:Int}(hp:0<L.length)(hL:L.length<=5000)(hx:L[((L.length:Int) - 1).toNat]? =some (⟨2,2,0,s,ve,0,0⟩:bZ))(hR:R.length<=5000)(k0:bK aX np uh [.int .i64 au]=some (.int .i64 s))(H:my B KH ns (i+1) G gl N len uh um us w seen nv (vR 274 7 (L++[(⟨3,2,0,au,0,x,0⟩:bZ)]).length) (vR 275 1 (R++[s]).length) (Fg L au x)<|some<|aJ aH<|R++[s]):pQ B ns i G gl N len uh um us w seen nv (vR 274 7 L.length) (vR 275 1 R.length) (some<|aJ eY L) (some<|aJ aH R) true 0 (⟨3,2,0,au,0,x,0⟩:bZ):=nk mc H (pE L 2<|.go 2<|.en<|.st 2<|.rg<|.go 2<|.en<|.st 3<|.rg<|.go 6<|.cg (.int .i64 s) (tG 270) (tQ 2 270 uh)<|.go 3<|.vl (i6<|(L.length:Int) - 1)<|.ix<|.go 1<|.ld [.int .i64 s]<|.fk .no<|.go 1<|.en<|.st 2<|.rg<|.go 4<|.cg (.int .i64 s) (tG 270) (tQ 2 270 uh)<|.go 1<|.ap Int aH R s<|.go 1<|.en<|.st 1<|pT L i (⟨3,2,0,au,0,x,0⟩:bZ)<|vp ns (i+1) G gl N len uh um us w seen nv (vR 280 7 (L++[(⟨3,2,0,au,0,x,0⟩:bZ)]).length) (vR 278 1 (R++[s]).length) (Fg L au x) (some<|aJ aH<|R++[s]) 272 280 278 281 (vR 274 7 (L++[(⟨3,2,0,au,0,x,0⟩:bZ)]).length) (vR 275 1 (R++[s]).length) (Fg L au x)<|some<|aJ aH<|R++[s])<|ax ((L.length:Int)>0) (fun _=>(Gl hp hL hx 0<|tR LL 11 2 270 (bK aX np) [.int .i64 au] uh (.int .i64 s) k0<|Gl hp hL hx 3<|ax (s≠s) (fun h=>show False by omega) fun _=>(tR LL 11 2 270 (bK aX np) [.int .i64 au] uh (.int .i64 s) k0<|wW aH R s (K:=1) (j9:=8) (fun _=>⟨rfl,rfl⟩) CF CG<|wW eY L (⟨3,2,0,au,0,x,0⟩:bZ) (K:=7) (j9:=56) (fun _=>⟨rfl,rfl⟩) CF CG<|ai (wI i h0 hl)<|zf KH ns (i+1) uh um us w seen nv 272 280 278 281 hG hN Yo<|F3 278 275 (List.append_ne_nil_of_right_ne_nil R<|List.cons_ne_nil s []) (by rw[List.length_append];show R.length+1<=100000;omega)))) (fun h=>show False by omega)
theorem gd{L:List bZ}{e0:bZ}(hq:Rs 1 aH 275 vr aU)(hp:0<L.length)(hL:L.length<=5000)(hx:L[((L.length:Int) - 1).toNat]? =some e0)(hk:gy=3↔e0.k=2)(H:my B KH ns (i+1) G gl N len uh um us 7 seen nv (vR 274 7 (L++[(⟨10,2,0,s,0,0,gy⟩:bZ)]).length) vr (some<|aJ eY<|L++[(⟨10,2,0,s,0,0,gy⟩:bZ)]) aU):pQ B ns i G gl N len uh um us 7 seen nv (vR 274 7 L.length) vr (some<|aJ eY L) aU true 0 (⟨10,2,0,s,0,0,gy⟩:bZ):=nk mc H (pE L e0.k<|.go 2<|.en<|.st 2<|.rg<|.go 2<|.en<|.st 2<|.rg<|.go 2<|.en<|.st 2<|.rg<|.go 2<|.fk (.go 1<|.fk (.go 3<|.il<|.rt 10<|.go 2<|.en<|.st 3<|pT L i (⟨10,2,0,s,0,0,gy⟩:bZ)<|vp ns (i+1) G gl N len uh um us 7 seen nv (vR 278 7 (L++[(⟨10,2,0,s,0,0,gy⟩:bZ)]).length) vr (some<|aJ eY<|L++[(⟨10,2,0,s,0,0,gy⟩:bZ)]) aU 272 278 275 279 (vR 274 7 (L++[(⟨10,2,0,s,0,0,gy⟩:bZ)]).length) vr (some<|aJ eY<|L++[(⟨10,2,0,s,0,0,gy⟩:bZ)]) aU) .no)<|.go 1<|.fk .no<|.go 3<|.il<|.rt 10<|.go 2<|.en<|.st 3<|pT L i (⟨10,2,0,s,0,0,gy⟩:bZ)<|vp ns (i+1) G gl N len uh um us 7 seen nv (vR 278 7 (L++[(⟨10,2,0,s,0,0,gy⟩:bZ)]).length) vr (some<|aJ eY<|L++[(⟨10,2,0,s,0,0,gy⟩:bZ)]) aU 272 278 275 279 (vR 274 7 (L++[(⟨10,2,0,s,0,0,gy⟩:bZ)]).length) vr (some<|aJ eY<|L++[(⟨10,2,0,s,0,0,gy⟩:bZ)]) aU)<|ax ((L.length:Int)>0) (fun _=>(Gl hp hL hx 0<|ax (gy=3) (fun _=>(ax (e0.k=2) (fun _=>(wW eY L (⟨10,2,0,s,0,0,gy⟩:bZ) (K:=7) (j9:=56) (fun _=>⟨rfl,rfl⟩) CF CG Yl)) (fun h=>show False by omega))) fun _=>(ax (e0.k=2) (fun h=>show False by omega) fun _=>(wW eY L (⟨10,2,0,s,0,0,gy⟩:bZ) (K:=7) (j9:=56) (fun _=>⟨rfl,rfl⟩) CF CG Yl)))) (fun h=>show False by omega)
end
def Fz(R:List Int)(v:AV)(o:Option ae):Prop:=(R=[]/\v=kZ/\o=none)\/(R.length<=100000/\v=vR 275 1 R.length/\o=some (aJ aH R))
theorem Z7{R:List Int}{bG:Nat}(hf:Fz R vr aU)(hs:Nat.ble 276 bG=true)(im:Nat.blt bG top=true)(ho:∀p∈xw uh um us w seen gl nv ns,p∈o0)(hr:(275,aU)∈o0):gY FU 270 bG (qF ns vr) (aq++o0) (qF ns<|aD aH R) (aq++xw uh um us w seen gl nv ns) 274:=by
 have hs:=aL.1 hs;have im:=(blt_eq _ _).mp im;have ob:∀(fz:lN) (r:Nat->Nat),(∀k,k<274->r k=k)->(∀k,top<=k->r k=k)->∀p∈aq++xw uh um us w seen gl nv ns,p.1<274/\∀y,p.2=some y->y.l7=true/\∃x,(p.1,some x)∈aq++o0/\fm x y/\fI fz r x y:=fun fz r h1 h2 p hp=>by
  rcases List.mem_append.1 hp with hp|hp
  ·obtain⟨a,b⟩:=LG (fz:=fz) (fun k hk=>h1 k ah) p hp;refine⟨by omega,fun y hy=>?_⟩;obtain⟨c,d⟩:=b y hy;exact⟨c,y,List.mem_append_left _ (by rw[←hy];exact hp),fm.refl _,d⟩
  ·have hm:=ho p hp;simp only[xw,List.mem_cons,List.not_mem_nil,or_false] at hp;rcases hp with rfl|rfl|rfl|rfl
   ·exact⟨by show 270<274;omega,fun y hy=>by cases hy;exact⟨rfl,_,List.mem_append_right _ hm,fm.refl _,fun _ _ _ _ _ _=>trivial⟩⟩
   ·exact⟨by show 271<274;omega,fun y hy=>by cases hy;exact⟨rfl,_,List.mem_append_right _ hm,fm.refl _,fun _ _ _ _ _ _=>trivial⟩⟩
   ·exact⟨by show 272<274;omega,fun y hy=>by cases hy;exact⟨rfl,_,List.mem_append_right _ hm,fm.refl _,fun _ _ _ _ _ _=>trivial⟩⟩
   ·exact⟨by show 273<274;omega,fun y hy=>by cases hy;exact⟨rfl,_,List.mem_append_right _ hm,fm.refl _,fI.cells (l:=FJ w seen gl nv ns 272) (m:=FJ w seen gl nv ns 272) (by show 8<=top;unfold top;omega) ⟨(bA.int _ _).z,(bA.int _ _).z,(bA.int _ _).z,(bA.int _ _).z,(bA.int _ _).z,(bA.ptr<|h1 271 ah).z,(bA.ptr<|h1 272 ah).z,(bA.int _ _).z,trivial⟩ rfl⟩⟩
 have sl:∀(fz:lN) (r:Nat->Nat),(∀k,k<274->r k=k)->lJ fz r vr (aD aH R)->∀p∈qF ns (aD aH R),p.1<top/\∃x,(p.1,x)∈qF ns vr/\lJ fz r x p.2:=fun fz r h1 hv p hp=>by
  simp only[qF,List.mem_cons,List.not_mem_nil,or_false] at hp;rcases hp with rfl|rfl|rfl
  ·exact⟨by show 2<top;unfold top;omega,_,mi 0,(bA.int _ _).z⟩
  ·exact⟨by show 13<top;unfold top;omega,_,mi 1,(bA.ptr<|h1 273 ah).z⟩
  ·exact⟨by show 16<top;unfold top;omega,_,mi 2,hv⟩
 rcases hf with⟨rfl,rfl,rfl⟩|⟨hl,rfl,rfl⟩
 ·exact Fe (fz:=[]) ah ah im (fun r hr ht=>sl [] r hr Ka) (ob []) (fun p hp=>by cases hp)
 ·refine Fe (fz:=[(275,nm (R.map aH).flatten,(R.map aH).flatten)]) ah ah im (fun r hr ht=>sl _ r hr<|GZ (List.mem_singleton.2 rfl) ht rfl) (ob _) fun p hp=>?_;rw[List.mem_singleton] at hp;subst hp;exact⟨by show 274<=275;omega,G0 eI eX 275 eX<|List.mem_append_right _ hr⟩
theorem Z9:∀p∈xw uh um us w seen gl nv ns,p∈pP 272 274 275 uh um us w seen gl nv ns om aU:=fun p hp=>by
 simp only[xw,List.mem_cons,List.not_mem_nil,or_false] at hp;rcases hp with rfl|rfl|rfl|rfl
 ·exact mi 0
 ·exact mi 1
 ·exact mi 2
 ·exact mi 3
theorem inV{ev:bZ}:∀p∈xw uh um us w seen gl nv ns,p∈tD 272 276 uh um us w seen gl nv ns om aU ev:=fun p hp=>List.mem_append_left _<|Z9 p hp
abbrev pnE(ns:Int)(vr:AV)(o0:List<|Nat×Option ae)(R:List Int)(uh um us:AV)(w seen:Int)(gl:Nat)(nv:Int)(bG:Nat):Pl:=.rn (qF ns vr) (aq++o0) (qF ns<|aD aH R) (aq++xw uh um us w seen gl nv ns) bG 274 .no
abbrev CtE(ns:Int)(vr:AV)(o0:List<|Nat×Option ae)(R:List Int)(uh um us:AV)(w seen:Int)(gl:Nat)(nv:Int)(bG:Nat):Prop:=((qF ns vr).map (fun q=>some q.2)=(qF ns vr).map (fun q=>some q.2))/\((aq++o0).map (fun q=>q.2)=(aq++o0).map (fun q=>q.2))/\gY FU 270 bG (qF ns vr) (aq++o0) (qF ns<|aD aH R) (aq++xw uh um us w seen gl nv ns) 274/\(zx (qF ns<|aD aH R) KE=zx (qF ns<|aD aH R) KE/\nQ uh um us w seen gl nv ns=nQ uh um us w seen gl nv ns)
abbrev iJ(B:aI)(R:List Int)(ns:Int)(gl:Nat)(uh um us:AV)(w seen nv:Int):Prop:=vj B (zx (qF ns<|aD aH R) KE)<|nQ uh um us w seen gl nv ns
theorem ev7{R:List Int}{b:Bool}{ev:bZ}(mc:Mt LL B)(hf:Fz R vr aU)(H:iJ B R ns gl uh um us w seen nv):pQ B ns i G gl N len uh um us w seen nv vm vr om aU b 7 ev:=nk mc H (.st 2<|.rg<|.go 2<|.en<|.st 2<|pnE ns vr (tD 272 276 uh um us w seen gl nv ns om aU ev) R uh um us w seen gl nv 277) (show CtE ns vr (tD 272 276 uh um us w seen gl nv ns om aU ev) R uh um us w seen gl nv 277 from⟨rfl,rfl,Z7 hf cn cn inV<|mi 5,rfl,rfl⟩)
theorem akS{R:List Int}(mc:Mt LL B)(hf:Fz R vr aU)(h1:(len:Int)<=i)(H:iJ B R ns gl uh um us w seen nv):my B KH ns i G gl N len uh um us w seen nv vm vr om aU:=nk mc H (.st 2<|.rg<|.go 3<|.fk .no<|.en<|.st 2<|pnE ns vr (pP 272 274 275 uh um us w seen gl nv ns om aU) R uh um us w seen gl nv 276)<|ax (i<(len:Int)) (fun h=>show False by omega) fun _=>(show CtE ns vr (pP 272 274 275 uh um us w seen gl nv ns om aU) R uh um us w seen gl nv 276 from⟨rfl,rfl,Z7 hf cn cn Z9<|mi 5,rfl,rfl⟩)
theorem akT{R A S:List Int}(mc:Mt LL B)(k0:bp (aY Ei) [.int .i64 ns,aD aH R]=some (.tuple [aD aH S,.bool true]))(k1:bK gR Hw us []=some (aD aH A))(k2:bp (aY Ff) [aD aH A,aD aH S]=some (.bool true))(hA:(aD aH A).hi=true):iJ B R ns gl uh um us w seen nv:=I4 mc (.st 1<|.rg<|.go 2<|.kn (.tuple [aD aH S,.bool true])<|.go 5<|.en<|.st 1<|.rg<|.go 3<|.il<|.st 8<|.rg<|.go 4<|.cg (aD aH A) (tG 272) (tQ 1 272 us)<|.go 1<|.en<|.rt 1<|.go 1<|.kn (.bool true)<|.go 2<|.en<|.rt 1 .no)<|ai k0<|tR LL 36 1 272 (bK gR Hw) [] us (aD aH A) k1 (ai k2 (show(AV.bool true)= .bool true from rfl)) (h4:=hA)
theorem s0L{m:Int}(mc:Mt LL B)(k0:bp (aY<|nE 22) [.ab X 0 xl,.int .i64 0]=some (.tuple [.int .i64 m,.bool true]))(k1:bp (aY uq) []=some (.bool true)):vj B (sF 3 Tryz.f3 [.ab X 0 xl,.ab A 0 al,.int .i64 ns,.ab G 0 gl,.ab N 0 len])<|aj aq 270:=I4 mc (.st 4<|.rg<|.go 2<|.il<|.st 3<|.rg<|.go 1<|.kn (.tuple [.int .i64 m,.bool true])<|.go 5<|.en<|.rt 3<|.go 14<|.en<|.st 2<|.rg<|.kn (.bool true)<|.go 1<|.en<|.rt 1 .no)<|ai k0<|ai k1 (show(AV.bool true)= .bool true from rfl)
theorem s0B{m:Int}(mc:Mt LL B)(hb:gl>50\/al>40\/len>2000)(k0:bp (aY<|nE 22) [.ab X 0 xl,.int .i64 0]=some (.tuple [.int .i64 m,.bool false]))(k1:bp (aY uq) []=some (.bool true)):vj B (sF 3 Tryz.f3 [.ab X 0 xl,.ab A 0 al,.int .i64 ns,.ab G 0 gl,.ab N 0 len])<|aj aq 270:=I4 mc (.st 4<|.rg<|.go 2<|.il<|.st 3<|.rg<|.go 1<|.kn (.tuple [.int .i64 m,.bool false])<|.go 5<|.en<|.st 1<|.rg<|.go 4<|.fk (.go 2<|.en<|.rt 1<|.go 14<|.en<|.st 2<|.rg<|.kn (.bool true)<|.go 1<|.en<|.rt 1 .no)<|.go 2<|.en<|.rt 1<|.go 3<|.fk (.go 10<|.en<|.st 2<|.rg<|.kn (.bool true)<|.go 1<|.en<|.rt 1 .no)<|.go 4<|.fk (.go 5<|.en<|.st 2<|.rg<|.kn (.bool true)<|.go 1<|.en<|.rt 1 .no) .no)<|ai k0<|ax ((gl:Int)>50) (fun _=>And.intro k1 (show(AV.bool true)= .bool true from rfl)) fun _=>ax ((al:Int)>40) (fun _=>And.intro k1 (show(AV.bool true)= .bool true from rfl)) fun _=>ax ((len:Int)>2000) (fun _=>And.intro k1 (show(AV.bool true)= .bool true from rfl)) (fun h=>show False by omega)
def pM(m:Int)(p:Pl):Pl:=(.st 4<|.rg<|.go 2<|.il<|.st 3<|.rg<|.go 1<|.kn (.tuple [.int .i64 m,.bool false])<|.go 5<|.en<|.st 1<|.rg<|.go 4<|.fk .no<|.go 2<|.en<|.rt 1<|.go 3<|.fk .no<|.go 4<|.fk .no<|.go 2<|.kn (.bool true)<|.go 2<|.en<|.st 3<|.rg<|.go 2 p)
theorem s0N{m:Int}(mc:Mt LL B)(hb:gl<=50/\al<=40/\len<=2000)(hq:al<1\/al>32\/ns<1\/ns>(al:Int))(k0:bp (aY<|nE 22) [.ab X 0 xl,.int .i64 0]=some (.tuple [.int .i64 m,.bool false]))(k1:bp (aY uq) []=some (.bool true))(k2:lP wm [.ab A 0 al,.int .i64 ns,.int .i64 1099511627776]=some (none,ng 1)):vj B (sF 3 Tryz.f3 [.ab X 0 xl,.ab A 0 al,.int .i64 ns,.ab G 0 gl,.ab N 0 len])<|aj aq 270:=I4 mc (pM m<|.nt none (ng 1)<|.go 5<|.en<|.st 1<|.rg<|.go 5<|.il<|.st 4<|.rg<|.go 8<|.fk (.go 14<|.en<|.rt 4<|.go 5<|.en<|.rt 7 .no)<|.go 3<|.fk (.go 10<|.en<|.rt 4<|.go 5<|.en<|.rt 7 .no)<|.go 3<|.fk (.go 6<|.en<|.rt 4<|.go 5<|.en<|.rt 7 .no)<|.go 4<|.fk (.go 1<|.en<|.rt 4<|.go 5<|.en<|.rt 7 .no) .no)<|ai k0<|ax ((gl:Int)>50) (fun h=>show False by omega) fun _=>(ax ((al:Int)>40) (fun h=>show False by omega) fun _=>(ax ((len:Int)>2000) (fun h=>show False by omega) fun _=>(ai k1<|ai k2<|ax ((al:Int)<1) (fun _=>(show(AV.bool true)= .bool true from rfl)) fun _=>ax ((al:Int)>32) (fun _=>(show(AV.bool true)= .bool true from rfl)) fun _=>ax (ns<1) (fun _=>(show(AV.bool true)= .bool true from rfl)) fun _=>ax (ns>(al:Int)) (fun _=>(show(AV.bool true)= .bool true from rfl)) (fun h=>show False by omega))))
def pN(m:Int)(uh:AV)(p:Pl):Pl:=(pM m<|.nt (some uh) (ng 0)<|.go 5<|.en<|.st 1<|.rg<|.go 5<|.il<|.st 4<|.rg<|.go 8<|.fk .no<|.go 3<|.fk .no<|.go 3<|.fk .no<|.go 4<|.fk .no<|.go 1<|.en<|.st 3<|.rg<|.go 3 p)
theorem s0M{m:Int}{uh:AV}(mc:Mt LL B)(hb:gl<=50/\al<=40/\len<=2000)(hq:1<=al/\al<=32/\1<=ns/\ns<=(al:Int))(k0:bp (aY<|nE 22) [.ab X 0 xl,.int .i64 0]=some (.tuple [.int .i64 m,.bool false]))(k1:bp (aY uq) []=some (.bool true))(k2:lP wm [.ab A 0 al,.int .i64 ns,.int .i64 1099511627776]=some (some uh,ng 0))(k3:lP yA [.ab X 0 xl,.int .i64 (al:Int),.ab G 0 gl]=some (none,ng 4)):vj B (sF 3 Tryz.f3 [.ab X 0 xl,.ab A 0 al,.int .i64 ns,.ab G 0 gl,.ab N 0 len])<|aj aq 270:=I4 mc (pN m uh<|.nt none (ng 4)<|.go 5<|.en<|.rt 7<|.go 5<|.en<|.rt 7 .no)<|ai k0<|ax ((gl:Int)>50) (fun h=>show False by omega) fun _=>(ax ((al:Int)>40) (fun h=>show False by omega) fun _=>(ax ((len:Int)>2000) (fun h=>show False by omega) fun _=>(ai k1<|ai k2<|ax ((al:Int)<1) (fun h=>show False by omega) fun _=>(ax ((al:Int)>32) (fun h=>show False by omega) fun _=>(ax (ns<1) (fun h=>show False by omega) fun _=>(ax (ns>(al:Int)) (fun h=>show False by omega) fun _=>(ai k3 (show(AV.bool true)= .bool true from rfl))))))))
theorem s0K{m:Int}{uh um:AV}(mc:Mt LL B)(hG:(AV.ab G 0 gl).cq=true)(hN:(AV.ab N 0 len).cq=true)(hb:gl<=50/\al<=40/\len<=2000)(hq:1<=al/\al<=32/\1<=ns/\ns<=(al:Int))(k0:bp (aY<|nE 22) [.ab X 0 xl,.int .i64 0]=some (.tuple [.int .i64 m,.bool false]))(k1:bp (aY uq) []=some (.bool true))(k2:lP wm [.ab A 0 al,.int .i64 ns,.int .i64 1099511627776]=some (some uh,ng 0))(k3:lP yA [.ab X 0 xl,.int .i64 (al:Int),.ab G 0 gl]=some (some um,ng 0))(k4:lP Ed [.int .i64 0,.int .i64 ns]=some (some nK,fun p=>.tuple [p,.int .i64 0]))(H:my B KH ns 0 G gl N len uh um nK 1 0 (al:Int) kZ kZ none none):vj B (sF 3 Tryz.f3 [.ab X 0 xl,.ab A 0 al,.int .i64 ns,.ab G 0 gl,.ab N 0 len])<|aj aq 270:=nk mc H (pN m uh<|.nt (some um) (ng 0)<|.go 5<|.en<|.st 6<|.rg<|.go 1<|.nt (some nK) (fun p=>.tuple [p,.int .i64 0])<|.go 5<|.en<|.rt 8<|.go 5<|.en<|.st 14<|vp ns 0 G gl N len uh um nK 1 0 (al:Int) kZ kZ none none 272 274 275 274 kZ kZ none none)<|ai k0<|ax ((gl:Int)>50) (fun h=>show False by omega) fun _=>(ax ((al:Int)>40) (fun h=>show False by omega) fun _=>(ax ((len:Int)>2000) (fun h=>show False by omega) fun _=>(ai k1<|ai k2<|ax ((al:Int)<1) (fun h=>show False by omega) fun _=>(ax ((al:Int)>32) (fun h=>show False by omega) fun _=>(ax (ns<1) (fun h=>show False by omega) fun _=>(ax (ns>(al:Int)) (fun h=>show False by omega) fun _=>(ai k3<|ai k4<|zf KH ns 0 uh um nK 1 0 (al:Int) 272 274 275 274 hG hN (.inl ⟨rfl,rfl,rfl,rfl⟩)<|.inl ⟨rfl,rfl,rfl,rfl⟩)))))))
end
end
end FI
end
section
open Go Go.Rn Go.RowKit Go.Proofs
namespace HO
open cr fQ hI fF jV zm HM Ar AO A9 CT Fc uO wG qu sI LH FF FH FI
def isT(r:R AV):Bool:=match r with| .ok (.bool true) _=>true|_=>false
noncomputable def j0(f:FuncId):Nat:= @Bool.rec (fun _=>Nat) 0 1<|Nat.beq f 109
theorem agd:isT (Ay pg j0 60 (.fn 5) [] ⟨dW,270,0,[],[]⟩)=true:=by as_aux_lemma=>kernel_rfl
theorem adb(hP:bC pg){L:bV}(h:aV L):aV<|Xk::L:=by
 refine ab6 (j0:=j0) (fun _=>trivial) hP gL p7 ir gZ h Tryz.func5 (body:=aW pg 5 []) aZ aZ fun args v e=>?_;obtain⟨rfl,rfl⟩:=gf e;have q:=agd;revert q;cases e:Ay pg j0 60 (.fn 5) [] ⟨dW,270,0,[],[]⟩ with
 |bad=>intro q;cases q
 |ok x s1=>
  intro q;refine⟨60,s1,e.trans ?_⟩;cases x with
  |bool b=>cases b with
   |true=>rfl
   |false=>cases q
  |_=>cases q
theorem ahI(hP:bC pg):aV LL:=Vs hP 22<|adb hP<|aep hP<|aeo hP<|abM hP<|adU hP<|adV hP<|abc hP<|ab0 hP<|aaQ hP<|ab1 hP<|ab2 hP<|ac7 hP<|aaR hP<|ac6 hP<|aek hP<|af3 hP<|adS hP<|afb hP<|ada hP<|aes hP<|aet hP cN
end HO
end
section
open Go Go.Rn Go.RowKit Go.Proofs
namespace QG
open cr fQ hI fF zm AO A9 jV qu CU Av FF FG FH CS HN FI HO
variable {s x:Int} {q:dO} {rest:List AV} {L:List Int}
theorem age{n:Int}:x∈jX L n↔x∈L\/x=n:=by
 unfold jX;split
 ·rename_i h;exact⟨.inl,fun| .inl h=>h| .inr e=>e▸h⟩
 ·rw[List.mem_append,List.mem_append,List.mem_singleton];have:=congrArg (fun l=>x∈l)<|List.take_append_drop (nS n L) L;simp only[List.mem_append,eq_iff_iff] at this;rw[←this];exact⟨fun| .inl (.inl h)=>.inl (.inl h)| .inl (.inr h)=>.inr h| .inr h=>.inl<|.inr h,fun| .inl (.inl h)=>.inl (.inl h)| .inl (.inr h)=>.inr h| .inr h=>.inl<|.inr h⟩
theorem WB{n:Int}:∀{L:List Int},∀x∈L.take (nS n L),x<n
 |[],x,h=>by rw[show nS n []=0 from rfl] at h;cases h
 |y::l,x,h=>by
  unfold nS at h;split at h
  ·rw[List.take_succ_cons] at h;rcases List.mem_cons.1 h with rfl|h
   ·assumption
   ·exact WB x h
  ·cases h
theorem WC{n:Int}:∀{L:List Int},L.Pairwise (· < ·)->∀x∈L.drop (nS n L),n<=x
 |[],_,x,h=>by rw[List.drop_nil] at h;cases h
 |y::l,hp,x,h=>by
  obtain⟨h1,h2⟩:=List.pairwise_cons.1 hp;unfold nS at h;split at h
  ·rw[List.drop_succ_cons] at h;exact WC h2 x h
  ·rename_i q;rcases List.mem_cons.1 h with rfl|h
   ·omega
   ·have:=h1 x h;omega
theorem ahJ{n:Int}(h:L.Pairwise (· < ·)):(jX L n).Pairwise (· < ·):=by
 unfold jX;split
 ·exact h
 ·rename_i hn;have a:=WB (n:=n) (L:=L);have b:=WC (n:=n) h;rw[List.append_assoc,List.pairwise_append];refine⟨h.sublist<|List.take_sublist _ _,List.pairwise_cons.2 ⟨fun x hx=>?_,h.sublist<|List.drop_sublist _ _⟩,fun x hx y hy=>?_⟩
  ·have:=b x hx;have:x≠n:=fun e=>hn<|e▸List.mem_of_mem_drop hx;omega
  ·have:=a x hx;rcases List.mem_cons.1 hy with rfl|hy
   ·exact this
   ·have:=b y hy;omega
theorem Vx:∀(r L:List Int),L.Pairwise (· < ·)->(r.foldl jX L).Pairwise (· < ·)/\∀x,x∈r.foldl jX L↔x∈L\/x∈r
 |[],L,h=>⟨h,fun x=>⟨.inl,fun| .inl h=>h| .inr h=>by cases h⟩⟩
 |n::r,L,h=>by obtain⟨a,b⟩:=Vx r (jX L n)<|ahJ h;refine⟨a,fun x=>?_⟩;rw[List.foldl_cons,b,age,List.mem_cons];exact⟨fun| .inl (.inl h)=>.inl h| .inl (.inr h)=>.inr (.inl h)| .inr h=>.inr<|.inr h,fun| .inl h=>.inl (.inl h)| .inr (.inl h)=>.inl (.inr h)| .inr (.inr h)=>.inr h⟩
theorem Xl{a:dO}:∀m i,(tA a m i).Pairwise (· < ·)/\∀x,x∈tA a m i↔((i:Int)<=x/\x<((i+m:Nat):Int))/\x<a.fG/\hasB a x=true
 |0,i=>⟨List.Pairwise.nil,fun x=>⟨fun h=>(by cases(show x∈[] from h)),fun h=>by omega⟩⟩
 |m+1,i=>by
  obtain⟨h1,h2⟩:=Xl (a:=a) m<|i+1;unfold tA;split
  ·rename_i q;refine⟨List.pairwise_cons.2 ⟨fun x hx=>by have:=((h2 x).1 hx).1;omega,h1⟩,fun x=>?_⟩;rw[List.mem_cons,h2];refine⟨fun h=>?_,fun h=>?_⟩
   ·rcases h with rfl|h
    ·exact⟨by omega,q⟩
    ·exact⟨by omega,h.2⟩
   ·by_cases e:x=(i:Int)
    ·exact .inl e
    ·exact .inr ⟨by omega,h.2⟩
  ·rename_i q;refine⟨h1,fun x=>?_⟩;rw[h2];refine⟨fun h=>⟨by omega,h.2⟩,fun h=>?_⟩;have:x≠(i:Int):=fun e=>q<|e▸h.2;exact⟨by omega,h.2⟩
theorem Xm:∀{L M:List Int},L.Pairwise (· < ·)->M.Pairwise (· < ·)->(∀x,x∈L↔x∈M)->L=M
 |[],[],_,_,_=>rfl
 |[],y::M,_,_,h=>by have:=(h y).2 List.mem_cons_self;cases this
 |x::L,[],_,_,h=>by have:=(h x).1 List.mem_cons_self;cases this
 |x::L,y::M,hL,hM,h=>by
  obtain⟨a1,a2⟩:=List.pairwise_cons.1 hL;obtain⟨b1,b2⟩:=List.pairwise_cons.1 hM;have e:x=y:=by
   rcases List.mem_cons.1 ((h x).1 List.mem_cons_self) with e|e
   ·exact e
   ·rcases List.mem_cons.1 ((h y).2 List.mem_cons_self) with e'|e'
    ·exact e'.symm
    ·have:=b1 x e;have:=a1 y e';omega
  subst e;refine congrArg (x:: ·)<|Xm a2 b2 fun z=>⟨fun hz=>?_,fun hz=>?_⟩
  ·rcases List.mem_cons.1 ((h z).1<|List.mem_cons_of_mem _ hz) with e|e
   ·have:=a1 z hz;omega
   ·exact e
  ·rcases List.mem_cons.1 ((h z).2<|List.mem_cons_of_mem _ hz) with e|e
   ·have:=b1 z hz;omega
   ·exact e
theorem ahK{r:List Int}(hq:q.fG<=32)(hr:∀x∈r,0<=x/\x<q.fG)(h:∀x,0<=x->x<q.fG->(hasB q x=true↔x∈r)):qv q=r.foldl jX []:=by
 obtain⟨a,b⟩:=Xl (a:=q) 32 0;obtain⟨c,d⟩:=Vx r [] List.Pairwise.nil;refine Xm a c fun x=>?_;rw[show qv q=tA q 32 0 from rfl,b,d];refine⟨fun h1=>.inr<|(h x ah h1.2.1).1 h1.2.2,fun h1=>?_⟩;rcases h1 with h1|h1
 ·cases h1
 ·have:=hr x h1;exact⟨by omega,this.2,(h x this.1 this.2).2 h1⟩
theorem has_add(hq:iS q)(hs:0<=s/\s<q.fG)(hx:0<=x):hasB (nf q s) x=true↔hasB q x=true\/x=s:=by
 have hl:=hq.2.2;have h2:=hq.2.1;unfold nf;rw[if_neg ah];unfold hasB Fs;show(q.has.set s.toNat true).getD x.toNat false=true↔_;rw[List.getD_eq_getElem?_getD,List.getElem?_set,List.getD_eq_getElem?_getD];by_cases e:x=s
 ·subst e;rw[if_pos rfl,if_pos ah];exact⟨fun _=>.inr rfl,fun _=>rfl⟩
 ·rw[if_neg ah];exact⟨.inl,fun| .inl h=>h| .inr h=>absurd h e⟩
theorem ahL:(nf q s).fG=q.fG:=by unfold nf;split<;>rfl
theorem AQ{S:Type}{enc:S->AV}(inj:∀a b,enc a=enc b->a=b){f:S->List AV->Option (AV×S)}{a a':S}{y:AV}(h:f a rest=some (y,a'))(h1:rest.all AV.hi=true)(h2:y.hi=true):gQ (eW enc f) (enc a) rest=some (y,enc a'):=ae0 ((BP inj).trans (by rw[h];rfl)) h1 h2
theorem rH{f:cL->List AV->Option AV}{a:cL}:bK aX f (aX a) rest=f a rest:=O1 GA
structure mz (nv ns:Int) (a:cL):Prop where
 ok:lk a
 ln:(a.bq.length:Int)=ns
 vn:(a.cO.length:Int)=nv
 clk:a.bg=0
section
variable {nv ns:Int} {a:cL}
theorem tm{v:Int}(h0:0<=v)(hs:1<=ns):0<=Int.tmod v ns/\Int.tmod v ns<ns:=⟨Int.tmod_nonneg _ h0,Int.tmod_lt_of_pos _ ah⟩
theorem mz.pos(h:mz nv ns a):(1<=ns/\ns<=32)/\1<=nv:=by have h1:=h.ok.1;have h2:=h.ok.2.1.1;have:=h.ln;have:=h.vn;omega
theorem mz.set(h:mz nv ns a)(s:Int)(k:Lk):mz nv ns<|uz a s k:=⟨PN h.ok,by rw[←Oj];exact h.ln,h.vn,h.clk⟩
theorem ajy(h:mz nv ns a)(s dC:Int):mz nv ns<|oi a s dC:=by
 unfold oi;split
 ·exact h.set _ _
 ·exact h
theorem ajz(h:mz nv ns a)(s dC:Int):mz nv ns<|qp a s dC:=by
 unfold qp;split
 ·exact h.set _ _
 ·exact h
theorem BW(h:mz nv ns a):bK aX pj (aX a) []=some (.int .i64 nv):=by refine rH.trans<|congrArg some ?_;show AV.int .i64 (a.cO.length:Int)=_;rw[h.vn]
theorem Br(h:mz nv ns a):bK aX oO (aX a) []=some (.int .i64 ns):=by refine rH.trans<|congrArg some ?_;show AV.int .i64 (a.bq.length:Int)=_;rw[h.ln]
theorem UF{v:Int}(h:mz nv ns a)(hv:0<=v/\v<nv):bK aX np (aX a) [.int .i64 v]=some (i6<|Int.tmod v ns):=by refine rH.trans<|congrArg some ?_;show AV.int .i64 (if 0<=v/\v<(a.cO.length:Int) then Int.tmod v (a.bq.length:Int) else -1)=_;rw[h.vn,h.ln,if_pos hv]
theorem Vy(h:mz nv ns a)(hs:0<=s/\s<ns):bK aX uo (aX a) [.int .i64 s]=some (i6 (fS a.bq s).owner):=by refine rH.trans<|congrArg some ?_;show AV.int .i64 (if 0<=s/\s<(a.bq.length:Int) then(fS a.bq s).owner else -1)=_;rw[h.ln,if_pos hs]
theorem TQ(h:mz nv ns a)(hs:0<=s/\s<ns):bK aX rY (aX a) [.int .i64 s]=some (i6 (fS a.bq s).version):=by refine rH.trans<|congrArg some ?_;show AV.int .i64 (if 0<=s/\s<(a.bq.length:Int) then(fS a.bq s).version else 0)=_;rw[h.ln,if_pos hs]
theorem aex{v:Int}(h:mz nv ns a)(hv:0<=v/\v<nv):bK aX Ht (aX a) [.int .i64 v]=some (i6<|pt a.cO v):=by refine rH.trans<|congrArg some ?_;show AV.int .i64 (if 0<=v/\v<(a.cO.length:Int) then pt a.cO v else 0)=_;rw[h.vn,if_pos hv]
end
end QG
end
section
open Go Go.Rn Go.RowKit Go.Proofs
namespace QH
open cr fQ hI fF zm AO A9 jV px sI qu wG uO CU Av FF FG FH CS HN HM Ar FI HO QG
variable {α:Type} {e:α} {L:List bZ} {enc:α->List AV} {d K:Nat}
noncomputable section
structure vq where
 kind:Int
 au:Int
 dC:Int
 x:Int
def yS(t:vq):List AV:=[.int .u8 t.kind,.int .i64 t.au,.int .i64 t.dC,.int .i64 t.x]
theorem eT:mh 4 yS:=⟨fun _=>rfl,fun _=>rfl⟩
abbrev nT(l:List vq):Nat:=nm (l.map yS).flatten
theorem gp{cs:List AV}{n:Nat}:(AV.ab (nm cs) 0 n).cq=true:=aL.2<|cV _
def vL(n K:Nat):List α->AV
 |[]=>kZ
 |x::l=>vR n K (x::l).length
def oL(enc:α->List AV):List α->Option ae
 |[]=>none
 |x::l=>some<|aJ enc<|x::l
theorem nh{n:Nat}:∀{l:List α},l.length<=100000->Rs K enc n (vL n K l) (oL enc l)
 |[],_=>.inl ⟨rfl,rfl,rfl,rfl⟩
 |x::l,h=>.inr ⟨x::l,List.cons_ne_nil _ _,h,rfl,rfl,rfl,rfl⟩
theorem YY:∀{l:List Int},l.length<=100000->Fz l (vL 275 1 l) (oL aH l)
 |[],_=>.inl ⟨rfl,rfl,rfl⟩
 |x::l,h=>.inr ⟨h,rfl,rfl⟩
theorem Ci{n:Nat}:∀{l:List α},vL n K (l++[e])=vR n K (l++[e]).length
 |[]=>rfl
 |_::_=>rfl
theorem Cj:∀{l:List α},oL enc (l++[e])=some (aJ enc<|l++[e])
 |[]=>rfl
 |_::_=>rfl
theorem agf{L:List α}:(L++[e])[(((L++[e]).length:Nat):Int).toNat - 1]? =some e:=by rw[Int.toNat_natCast,List.length_append];show(L++[e])[L.length+1 - 1]? =_;rw[Nat.add_sub_cancel,List.getElem?_append_right<|Nat.le_refl _,Nat.sub_self];rfl
theorem Lh{L:List α}:(L++[e])[((((L++[e]).length:Nat):Int) - 1).toNat]? =some e:=by rw[show((((L++[e]).length:Nat):Int) - 1).toNat=(((L++[e]).length:Nat):Int).toNat - 1 by omega];exact agf
section
variable (B:aI) (aG:List Int) (l:List vq) (nv ns:Int)
abbrev I5(K:List Item)(i:Int)(a:cL)(q:dO)(m:dR)(w seen:Int)(ml:List bZ)(rl:List Int):Prop:=my B K ns i (nI aG) aG.length (nT l) l.length (aX a) (eK m) (gR q) w seen nv (vL 274 7 ml) (vL 275 1 rl) (oL eY ml)<|oL aH rl
abbrev DE:=I5 B aG l nv ns KH
abbrev M6:=I5 B aG l nv ns KP
end
theorem akU{B:aI}(mc:Mt LL B){aG:List Int}{l:List vq}{k:Nat}{e:vq}{ml:List bZ}{rl:List Int}(uW:ml.length<=100000)(zr:rl.length<=100000)(hl:l.length<=2000)(he:l[k]? =some e){a:cL}{nv ns:Int}(h:mz nv ns a):
 ∃a',mz nv ns a'/\∀(q:dO) (m:dR) (w seen:Int),M6 B aG l nv ns (k:Int) a' q m w seen ml rl->DE B aG l nv ns (k:Int) a q m w seen ml rl:=by
 have hk:=(List.getElem?_eq_some_iff.1 he).1;have h0:(0:Int)<=(k:Int):=by omega
 have h1:(k:Int)<(l.length:Int):=by omega
 have au:∀j,Nat.ble (j+1) 4=true->cx FU (nT l) (0+(k:Int).toNat*4+j) 1=some (((yS e).drop j).take 1):=fun j hj=>by rw[Int.toNat_natCast,Nat.zero_add];exact yc eT he j 1 (by have:=aL.1 hj;omega)
 have I6:cx FU (nT l) (0+(k:Int).toNat*4+0) 1=some [.int .u8 e.kind]:=au 0 rfl;have h1k:cx FU (nT l) (0+(k:Int).toNat*4+1) 1=some [.int .i64 e.au]:=au 1 rfl;have h2k:cx FU (nT l) (0+(k:Int).toNat*4+2) 1=some [.int .i64 e.dC]:=au 2 rfl;by_cases k1:e.kind=1
 ·rw[k1] at I6;exact⟨_,ajy h _ _,fun q m w seen H=>Z6 mc gp gp (nh uW) (nh zr) (.inl ⟨rfl,rfl⟩) (cV _) h0 hl h1 I6 h1k h2k (AQ GA (f:=Mc) rfl rfl rfl) H⟩
 by_cases k2:e.kind=2
 ·rw[k2] at I6;exact⟨_,ajz h _ _,fun q m w seen H=>Z6 mc gp gp (nh uW) (nh zr) (.inr ⟨rfl,rfl⟩) (cV _) h0 hl h1 I6 h1k h2k (AQ GA (f:=Md) rfl rfl rfl) H⟩
 exact⟨a,h,fun q m w seen H=>tnO mc gp gp (nh uW) (nh zr) (cV _) h0 hl h1 I6 ⟨k1,k2⟩ H⟩
def Wh(ns:Int)(m:dR)(w:Int)(e:bZ):Prop:=(w=2/\fU m=(1,0,0)/\(e.k=1\/e.k=3))\/(w=3/\(∃v,fU m=(2,v,0))/\(e.k=1\/e.k=3))\/(w=4/\∃v ve,fU m=(2,v,0)/\e=⟨2,2,0,Int.tmod v ns,ve,0,0⟩)\/5<=w
structure tF (nv ns:Int) (d:Nat) (a:cL) (q:dO) (m:dR) (w:Int) (ml:List bZ) (rl:List Int):Prop where
 h:mz nv ns a
 so:iS q
 qs:q.fG=ns
 mi:mq m
 st:0<=m.steps/\m.steps<=(d:Int)
 mv:m.vars=nv
 nm:ml.length<=d/\rl.length<=d
 re:∀x,0<=x->x<ns->(hasB q x=true↔x∈rl)
 ri:∀x∈rl,0<=x/\x<ns
 wh:(w=1/\ml=[]/\rl=[])\/∃L e,ml=L++[e]/\Wh ns m w e
theorem YZ{m:dR}(hm:mq m)(hs:0<=m.steps/\m.steps<=1000000000000):bK eK (fun a rest=>(mo a rest).map (·.1)) (eK m) []=some (AN<|fU m):=by refine(O1 DT).trans ?_;unfold mo;rw[if_pos ⟨rfl,hm.ask hs⟩];rfl
theorem QI{m:dR}(hm:mq m)(hs:0<=m.steps/\m.steps<=1000000000000):∃(ka:Nat) (kb an xn:Int),((ka=1/\kb=2)\/(ka=2/\kb=3)\/(ka=3/\kb=5)\/(ka=4/\kb=6))/\
 bK eK (fun a rest=>(mo a rest).map (·.1)) (eK m) []=some (.agg [.int .u8<|.ofNat ka,.int .i64 an,.int .i64 xn])/\∀ns e,(e.k=1\/e.k=3)->Wh ns m kb e:=by
 have hx:=YZ hm hs;rcases UD hm with e|⟨v,e,_⟩|⟨x,e⟩|e
 ·rw[e] at hx;exact⟨1,2,0,0,.inl ⟨rfl,rfl⟩,hx,fun _ _ h=>.inl ⟨rfl,e,h⟩⟩
 ·rw[e] at hx;exact⟨2,3,v,0,.inr<|.inl ⟨rfl,rfl⟩,hx,fun _ _ h=>.inr<|.inl ⟨rfl,⟨v,e⟩,h⟩⟩
 ·rw[e] at hx;exact⟨3,5,0,x,.inr<|.inr<|.inl ⟨rfl,rfl⟩,hx,fun _ _ _=>.inr<|.inr<|.inr ah⟩
 ·rw[e] at hx;exact⟨4,6,0,0,.inr<|.inr<|.inr ⟨rfl,rfl⟩,hx,fun _ _ _=>.inr<|.inr<|.inr ah⟩
theorem ahM{m:dR}{v:Int}(hm:mq m)(ha:fU m=(2,v,0)):0<=v/\v<m.vars:=by
 rcases UD hm with e|⟨v',e,b1,b2⟩|⟨x,e⟩|e<;>rw[ha] at e
 ·injection e with e _;omega
 ·injection e with _ e;injection e with e _;omega
 ·injection e with e _;omega
 ·injection e with e _;omega
section
variable {B:aI} {aG:List Int} {l:List vq} {k:Nat} {nv ns w seen:Int} {a:cL} {q:dO} {m:dR} {ml:List bZ} {rl:List Int}
abbrev Nx(B:aI)(aG:List Int)(l:List vq)(k:Nat)(nv ns w seen:Int)(a:cL)(q:dO)(m:dR)(ml:List bZ)(rl:List Int):Prop:=∃q' m' w' X1 SA SC,tF nv ns (k+1) a q' m' w' SA SC/\(DE B aG l nv ns ((k:Int)+1) a q' m' w' X1 SA SC->M6 B aG l nv ns (k:Int) a q m w seen ml rl)
abbrev Y0(B:aI)(aG:List Int)(nv ns w seen:Int)(a:cL)(q:dO)(m:dR)(rl:List Int):Prop:=iJ B rl ns aG.length (aX a) (eK m) (gR q) w seen nv
theorem aey(mc:Mt LL B)(hk:k<=2000)(ok:tF nv ns k a q m 1 [] []):Nx B aG l k nv ns 1 seen a q m [] []:=by
 obtain⟨h,hq,zy,hm,cQ,qG,I7,xy,vt,hw⟩:=ok;have h0:(0:Int)<=(k:Int):=by omega
 have hl:(k:Int)<=2000:=by omega
 have hp:=h.pos;have kC:bK aX EF (aX a) []=some (.int .i64 0):=rH.trans<|congrArg (fun x=>some<|AV.int .i64 x) h.clk;have kN:lP Ed [.int .i64 0,.int .i64 ns]=some (some<|gR<|ql 0 ns,fun p=>.tuple [p,.int .i64 0]):=by refine Kb ?_ rfl;show(if(0:Int)<0\/(0:Int)>1099511627776\/ns<1\/ns>32 then _ else _)=_;rw[if_neg ah]
 have sok:iS<|ql 0 ns:=⟨by unfold Af;show -9223372036854775808<=(0:Int)/\(0:Int)<=9223372036854775807;omega,by show 1<=ns/\ns<=32;omega,rfl⟩;obtain⟨ka,kb,an,xn,yW,kA,I8⟩:=QI hm ah;refine⟨ql 0 ns,m,kb,seen,[⟨1,2,(aG.length:Int),0,0,0,0⟩],[],⟨h,sok,rfl,hm,by omega,qG,⟨by show 1<=k+1;omega,Nat.zero_le _⟩,fun x h1 h2=>?_,fun x hx=>(by cases hx),.inr ⟨[],_,rfl,I8 ns _<|.inl rfl⟩⟩,fun H=>?_⟩
 ·show(List.replicate 32 false).getD x.toNat false=true↔_;rw[List.getD_eq_getElem?_getD,List.getElem?_replicate];split
  ·exact⟨fun h=>(by cases h),fun h=>(by cases h)⟩
  ·exact⟨fun h=>(by cases h),fun h=>(by cases h)⟩
 ·refine ib mc gp gp (nh<|Nat.zero_le _) (nh<|Nat.zero_le _) yW (BW h) (Br h) kC kN kA ?_;exact evB mc gp gp h0 hl (nh<|Nat.zero_le _) H
theorem aez{e:bZ}(mc:Mt LL B)(hk:k<=2000)(ok:tF nv ns k a q m 2 (L++[e]) rl)(ha:fU m=(1,0,0))(he:e.k=1\/e.k=3):Nx B aG l k nv ns 2 seen a q m (L++[e]) rl:=by
 obtain⟨h,hq,zy,hm,cQ,qG,I7,xy,vt,hw⟩:=ok;have h0:(0:Int)<=(k:Int):=by omega
 have hl:(k:Int)<=2000:=by omega
 obtain⟨hd,m',hs,eF,iZ,im,_⟩:=OF hm ah ha;have kT:gQ (eW eK E9) (eK m) []=some (.int .i64 0,eK m'):=by refine AQ DT (f:=E9) ?_ rfl rfl;unfold E9;rw[if_pos ⟨rfl,hd⟩,hs];rfl
 obtain⟨ka,kb,an,xn,yW,kA,I8⟩:=QI eF ah;have r1:Rs 7 eY 274 (vL 274 7<|L++[e])<|oL eY<|L++[e]:=nh ah;have r2:Rs 1 aH 275 (vL 275 1 rl)<|oL aH rl:=nh ah;exact⟨q,m',kb,seen,L++[e],rl,⟨h,hq,zy,eF,by omega,im.trans qG,⟨by omega,by omega⟩,xy,vt,.inr ⟨L,e,rfl,I8 ns e he⟩⟩,fun H=>jx mc gp gp r1 r2 yW (BW h) (Br h) kT kA<|evI mc gp gp r1 r2 h0 hl H⟩
theorem O4{e:bZ}{s gy:Int}(mc:Mt LL B)(hk:k<=2000)(ok:tF nv ns k a q m w (L++[e]) rl)(hy:gy=3↔e.k=2)(T:pQ B ns (k:Int) (nI aG) aG.length (nT l) l.length (aX a) (eK m) (gR q) 7 seen nv (vL 274 7<|L++[e]) (vL 275 1 rl) (oL eY<|L++[e]) (oL aH rl) true 0 ⟨10,2,0,s,0,0,gy⟩->M6 B aG l nv ns (k:Int) a q m w seen (L++[e]) rl):Nx B aG l k nv ns w seen a q m (L++[e]) rl:=by
 obtain⟨h,hq,zy,hm,cQ,qG,I7,xy,vt,hw⟩:=ok;have h0:(0:Int)<=(k:Int):=by omega
 have hl:(k:Int)<=2000:=by omega
 have r2:Rs 1 aH 275 (vL 275 1 rl)<|oL aH rl:=nh ah;refine⟨q,m,7,seen,(L++[e])++[⟨10,2,0,s,0,0,gy⟩],rl,⟨h,hq,zy,hm,by omega,qG,⟨by rw[List.length_append];show _+1<=_;omega,by omega⟩,xy,vt,.inr ⟨_,_,rfl,.inr<|.inr<|.inr ah⟩⟩,fun H=>T ?_⟩;have H:DE B aG l nv ns ((k:Int)+1) a q m 7 seen ((L++[e])++[⟨10,2,0,s,0,0,gy⟩]) rl:=H;unfold DE I5 at H;rw[Ci,Cj] at H;rw[Ci,Cj];exact gd mc gp gp h0 hl r2 (by rw[List.length_append];show 0<_+1;omega) ah Lh hy H
theorem X2{v:Int}(hm:mq m)(cQ:0<=m.steps/\m.steps<=1000000000000)(qG:m.vars=nv)(h:mz nv ns a)(ha:fU m=(2,v,0)):(0<=v/\v<nv)/\(0<=Int.tmod v ns/\Int.tmod v ns<ns)/\bK eK (fun a rest=>(mo a rest).map (·.1)) (eK m) []=some (.agg [.int .u8 2,.int .i64 v,.int .i64 0]):=by
 have hv:0<=v/\v<nv:=by rw[←qG];exact ahM hm ha
 exact⟨hv,tm hv.1 h.pos.1.1,(YZ hm cQ).trans (by rw[ha];rfl)⟩
theorem agh{e:bZ}{v:Int}(mc:Mt LL B)(hk:k<=2000)(ok:tF nv ns k a q m 3 (L++[e]) rl)(ha:fU m=(2,v,0))(he:e.k=1\/e.k=3):Nx B aG l k nv ns 3 seen a q m (L++[e]) rl:=by
 have DF:=ok;obtain⟨h,hq,zy,hm,cQ,qG,I7,xy,vt,hw⟩:=ok;have h0:(0:Int)<=(k:Int):=by omega
 have hl:(k:Int)<=2000:=by omega
 obtain⟨hv,hs,kA⟩:=X2 hm ah qG h ha;have kT:=UF h hv;have kO:=Vy h hs;have kE:=TQ h hs;have r1:Rs 7 eY 274 (vL 274 7<|L++[e])<|oL eY<|L++[e]:=nh ah;have r2:Rs 1 aH 275 (vL 275 1 rl)<|oL aH rl:=nh ah;by_cases c1:(fS a.bq<|Int.tmod v ns).owner≠ -1
 ·refine O4 mc hk DF (gy:=1) (s:=Int.tmod v ns) ah fun T=>YX mc gp gp r1 r2 ah (BW h) (Br h) kA kT kO kE (AQ zI (f:=Cr) ?_ rfl rfl) T;show some (qd _ _ _,_)=_;unfold qd;rw[if_pos c1]
 by_cases c2:(fS a.bq<|Int.tmod v ns).version>q.rv
 ·refine O4 mc hk DF (gy:=2) (s:=Int.tmod v ns) ah fun T=>YX mc gp gp r1 r2 ah (BW h) (Br h) kA kT kO kE (AQ zI (f:=Cr) ?_ rfl rfl) T;show some (qd _ _ _,_)=_;unfold qd;rw[if_neg c1,if_pos c2]
 refine⟨q,m,4,(fS a.bq<|Int.tmod v ns).version,(L++[e])++[⟨2,2,0,Int.tmod v ns,(fS a.bq<|Int.tmod v ns).version,0,0⟩],rl,⟨h,hq,zy,hm,by omega,qG,⟨by rw[List.length_append];show _+1<=_;omega,by omega⟩,xy,vt,.inr ⟨_,_,rfl,.inr<|.inr<|.inl ⟨rfl,v,_,ha,rfl⟩⟩⟩,fun H=>?_⟩;refine stK mc gp gp r1 r2 (BW h) (Br h) kA kT kO kE (AQ zI (f:=Cr) ?_ rfl rfl) ?_
 ·show some (qd _ _ _,_)=_;unfold qd;rw[if_neg c1,if_neg c2]
 ·unfold DE I5 at H;rw[Ci,Cj] at H;rw[Ci,Cj];exact evK mc gp gp h0 hl r2 (by rw[List.length_append];show 0<_+1;omega) ah Lh he H
theorem agi{v ve:Int}(mc:Mt LL B)(hk:k<=2000)(ok:tF nv ns k a q m 4 (L++[⟨2,2,0,Int.tmod v ns,ve,0,0⟩]) rl)(ha:fU m=(2,v,0)):Nx B aG l k nv ns 4 seen a q m (L++[⟨2,2,0,Int.tmod v ns,ve,0,0⟩]) rl:=by
 have DF:=ok;obtain⟨h,hq,zy,hm,cQ,qG,I7,xy,vt,hw⟩:=ok;have h0:(0:Int)<=(k:Int):=by omega
 have hl:(k:Int)<=2000:=by omega
 obtain⟨hv,hs,kA⟩:=X2 hm ah qG h ha;have kT:=UF h hv;have kO:=Vy h hs;have kE:=TQ h hs;have kX:=aex h hv;have r1:Rs 7 eY 274 (vL 274 7<|L++[⟨2,2,0,Int.tmod v ns,ve,0,0⟩])<|oL eY<|L++[⟨2,2,0,Int.tmod v ns,ve,0,0⟩]:=nh ah;have r2:Rs 1 aH 275 (vL 275 1 rl)<|oL aH rl:=nh ah;by_cases c1:(fS a.bq<|Int.tmod v ns).owner≠ -1\/(fS a.bq<|Int.tmod v ns).version≠seen
 ·exact O4 mc hk DF (gy:=3) (s:=Int.tmod v ns) (by simp) fun T=>akQ mc gp gp r1 r2 c1 (BW h) (Br h) kA kT kO kE T
 have c2:(fS a.bq<|Int.tmod v ns).owner= -1:=by omega
 have c3:(fS a.bq<|Int.tmod v ns).version=seen:=by omega
 rw[c2] at kO;rw[c3] at kE;obtain⟨hd,m',II,eF,iZ,im,_⟩:=af7 hm ah ha<|pt a.cO v;have kM:gQ (eW eK CR) (eK m) [.int .i64<|pt a.cO v]=some (.int .i64 0,eK m'):=by
  refine AQ DT (f:=CR) ?_ rfl rfl;have e1:CR m [.int .i64<|pt a.cO v]=(BV m<|pt a.cO v).map fun a'=>(AV.int .i64 0,a'):=by unfold CR;exact if_pos hd
  rw[e1,II];rfl
 have hqo:iS<|nf q<|Int.tmod v ns:=by
  unfold nf;split
  ·exact hq
  ·exact VZ hq
 have kQ:gQ (eW gR Ie) (gR q) [.int .i64<|Int.tmod v ns]=some (i6 (if Int.tmod v ns<0\/Int.tmod v ns>=q.fG then 1 else 0),gR<|nf q<|Int.tmod v ns):=AQ zI (f:=Ie) rfl rfl rfl;obtain⟨ka,kb,an,xn,yW,kB,I8⟩:=QI eF ah;refine⟨nf q<|Int.tmod v ns,m',kb,seen,(L++[⟨2,2,0,Int.tmod v ns,ve,0,0⟩])++[⟨3,2,0,v,0,pt a.cO v,0⟩],rl++[Int.tmod v ns],⟨h,hqo,ahL.trans zy,eF,by omega,im.trans qG,⟨by rw[List.length_append];show _+1<=_;omega,by rw[List.length_append];show _+1<=_;omega⟩,fun x h1 h2=>?_,fun x hx=>?_,.inr ⟨_,_,rfl,I8 ns _<|.inr rfl⟩⟩,fun H=>?_⟩
 ·rw[has_add hq ah h1,xy x h1 h2,List.mem_append,List.mem_singleton]
 ·rcases List.mem_append.1 hx with hx|hx
  ·exact vt x hx
  ·rw[List.mem_singleton] at hx;omega
 ·refine stL mc gp gp r1 r2 yW (BW h) (Br h) kA kT kO kE kX kM kQ kB ?_;unfold DE I5 at H;rw[Ci,Cj,Ci,Cj] at H;rw[Ci,Cj];have hp:0<(L++[(⟨2,2,0,Int.tmod v ns,ve,0,0⟩:bZ)]).length:=by rw[List.length_append];show 0<_+1;omega
  cases rl with
  |nil=>exact akR mc gp gp h0 hl hp ah Lh kT H
  |cons x R=>exact evL mc gp gp h0 hl hp ah Lh ah kT H
theorem step(mc:Mt LL B)(hk:k<=2000)(ok:tF nv ns k a q m w ml rl):
 Nx B aG l k nv ns w seen a q m ml rl\/(Y0 B aG nv ns w seen a q m rl->M6 B aG l nv ns (k:Int) a q m w seen ml rl):=by
 rcases ok.wh with⟨rfl,rfl,rfl⟩|⟨L,e,rfl,hw⟩
 ·exact .inl<|aey mc hk ok
 rcases hw with⟨rfl,ha,he⟩|⟨rfl,⟨v,ha⟩,he⟩|⟨rfl,v,ve,ha,rfl⟩|hw
 ·exact .inl<|aez mc hk ok ha he
 ·exact .inl<|agh mc hk ok ha he
 ·exact .inl<|agi mc hk ok ha
 ·have:=ok.nm;exact .inr fun H=>stX mc gp gp (nh ah) (nh ah) ah<|ev7 mc (YY ah) H
theorem tF.heap{a':cL}(ok:tF nv ns d a q m w ml rl)(h:mz nv ns a'):tF nv ns d a' q m w ml rl:=⟨h,ok.so,ok.qs,ok.mi,ok.st,ok.mv,ok.nm,ok.re,ok.ri,ok.wh⟩
theorem out(mc:Mt LL B)(hd:d<=5000)(ok:tF nv ns d a q m w ml rl):Y0 B aG nv ns w seen a q m rl:=by
 obtain⟨h,hq,zy,hm,cQ,qG,I7,xy,vt,hw⟩:=ok;have hp:=h.pos;have e:qv q=rl.foldl jX []:=ahK ah (fun x hx=>by have:=vt x hx;omega) fun x h1 h2=>xy x h1 ah;have hA:(aD aH<|qv q).hi=true:=(dj.aD eI _).hi;refine akT mc (fu (ff LH.Ei.bS ⟨ns,rl,rfl,hp.1,vt,by omega,rfl⟩) ?_ ?_) ?_ (fu (ff Ff.bS ⟨qv q,rl.foldl jX [],rfl,?_,?_⟩) ?_ rfl) hA
 ·rw[List.all_cons,List.all_cons,(dj.aD eI rl).hi];rfl
 ·show(AV.hi (aD aH<|rl.foldl jX [])&&true)=true;rw[(dj.aD eI _).hi];rfl
 ·refine(O1 zI).trans ?_;unfold Hw;exact if_pos hq
 ·have:(qv q).length<=32:=Hv 32 0;omega
 ·rw[decide_eq_true e]
 ·rw[List.all_cons,hA,List.all_cons,(dj.aD eI _).hi];rfl
theorem rounds(mc:Mt LL B)(hl:l.length<=2000):∀(r k:Nat) {a:cL} {q:dO} {m:dR} {w seen:Int} {ml:List bZ} {rl:List Int},k+r=l.length->tF nv ns k a q m w ml rl->DE B aG l nv ns (k:Int) a q m w seen ml rl
 |0,k,a,q,m,w,seen,ml,rl,hr,ok=>by have:=ok.nm;exact akS mc (YY ah) ah<|out mc ah ok
 |r+1,k,a,q,m,w,seen,ml,rl,hr,ok=>by
  have:=ok.nm;obtain⟨e,he⟩:∃e,l[k]? =some e:=⟨_,List.getElem?_eq_getElem ah⟩;obtain⟨a',h',T⟩:=akU (aG:=aG) mc (ml:=ml) (rl:=rl) ah ah hl he ok.h;refine T q m w seen ?_;have DF:=ok.heap h';rcases step (aG:=aG) (l:=l) (seen:=seen) mc ah DF with⟨q',m',w',X1,SA,SC,ok2,G⟩|G
  ·refine G ?_;have e1:(k:Int)+1=((k+1:Nat):Int):=by omega
   rw[e1];exact rounds mc hl r (k+1) ah ok2
  ·exact G<|out mc ah DF
end
end
end QH
end
section
open Go Go.Rn Go.RowKit Go.Proofs
namespace X3
open cr fQ fc oj n7 uK qV AJ Ct hI LC yO fF cU dM zm HM Ar AO A9 CT Fc CS HN QF px jV qu uO CU Av FF FG FH FI HO QG QH
abbrev akV:(Tr AV->List Nat->Option Code->AS->Prop):=Fin pg (aA Tryz.f3) fun y _=>y= .bool true
theorem aeA{B:aI}(mc:Mt LL B){tx:List St}{init aG:List Int}{st:Int}{l:List vq}(hk:ss 60 tx):
 av pg B 270 akV (sF 3 Tryz.f3 [.ab (nm (tx.map ba).flatten) 0 tx.length,aD aH init,.int .i64 st,aD aH aG,aD yS l]) (aj aq 270):=by
 have htx:(AV.ab (nm (tx.map ba).flatten) 0 tx.length).hi=true:=by rw[←vX];exact uj tx
 have kA:bp (aY uq) []=some (.bool true):=fu (ff uq.bS ⟨rfl,rfl⟩) rfl rfl;have kM:bp (aY<|nE 22) [.ab (nm (tx.map ba).flatten) 0 tx.length,.int .i64<|.ofNat 0]=some (.tuple [.int .i64 (de 22 tx).1,.bool (de 22 tx).2]):=fu (ff nE.bS ⟨tx,by rw[vX];rfl,by omega,rfl⟩) (by rw[List.all_cons,htx];rfl) rfl;cases hm:(de 22 tx).2 with
 |true=>rw[hm] at kM;exact s0L mc kM kA
 |false=>
  rw[hm] at kM;by_cases hb:aG.length>50\/init.length>40\/l.length>2000
  ·exact s0B mc hb kM kA
  have iO:aG.length<=50/\init.length<=40/\l.length<=2000:=by omega
  have hha:[aD aH init,AV.int .i64 st,AV.int .i64<|.ofNat 1099511627776].all AV.hi=true:=by rw[List.all_cons,(dj.aD eI init).hi];rfl
  by_cases hq:init.length<1\/init.length>32\/st<1\/st>(init.length:Int)
  ·have kH:lP wm [aD aH init,.int .i64 st,.int .i64<|.ofNat 1099511627776]=some (none,ng 1):=VQ (Vq ⟨init,_,_,st,1099511627776,rfl,dj.aD eI init,.inl ⟨by omega,rfl⟩⟩) hha rfl;exact s0N mc iO hq kM kA kH
  have dS:1<=init.length/\init.length<=32/\1<=st/\st<=(init.length:Int):=by omega
  have kH:lP wm [aD aH init,.int .i64 st,.int .i64<|.ofNat 1099511627776]=some (some<|aX ⟨List.replicate st.toNat ⟨-1,0⟩,0,1099511627776,init⟩,ng 0):=Kb (Vq ⟨init,_,_,st,1099511627776,rfl,dj.aD eI init,.inr ⟨by omega,rfl⟩⟩) hha;have hma:[AV.ab (nm (tx.map ba).flatten) 0 tx.length,.int .i64 (init.length:Int),aD aH aG].all AV.hi=true:=by rw[List.all_cons,htx,List.all_cons,List.all_cons,(dj.aD eI aG).hi];rfl
  obtain⟨d1,d2⟩:=DV 22 60 tx ah hm;obtain⟨b,uH,ajA⟩:=aeq (n:=aG.length) hm hk;have hv:1<=(init.length:Int)/\(init.length:Int)<=32:=by omega
  cases b with
  |false=>have kN:lP yA [.ab (nm (tx.map ba).flatten) 0 tx.length,.int .i64 (init.length:Int),aD aH aG]=some (none,ng 4):=VQ (Vp ⟨tx,_,aG,_,_,rfl,dj.aD eI aG,by omega,.inr ⟨hv,d2,d1,false,uH,.inl ⟨rfl,rfl⟩⟩⟩) hma rfl;exact s0M mc iO dS kM kA kH kN
  |true=>
   obtain⟨gc,wf⟩:=ajA rfl;obtain⟨fs,bb,hs,hmi⟩:=af8 (aG:=aG) wf ah hv;have kN:lP yA [.ab (nm (tx.map ba).flatten) 0 tx.length,.int .i64 (init.length:Int),aD aH aG]=some (some<|eK ⟨(init.length:Int),aG,Z8,bb,fs.reverse,0⟩,ng 0):=Kb (Vp ⟨tx,_,aG,_,_,rfl,dj.aD eI aG,by omega,.inr ⟨hv,d2,d1,true,uH,.inr ⟨rfl,gc,fs,bb,hs,rfl⟩⟩⟩) hma;have kS:lP Ed [.int .i64<|.ofNat 0,.int .i64 st]=some (some<|gR<|ql 0 st,fun p=>.tuple [p,.int .i64 0]):=by refine Kb ?_ rfl;show(if(0:Int)<0\/(0:Int)>1099511627776\/st<1\/st>32 then _ else _)=_;rw[if_neg ah];rfl
   refine s0K mc gp gp iO dS kM kA kH kN kS ?_;refine rounds (ml:=[]) (rl:=[]) mc iO.2.2 l.length 0 ah (a:=⟨List.replicate st.toNat ⟨-1,0⟩,0,1099511627776,init⟩) (q:=ql 0 st) ⟨⟨⟨?_,?_,?_,?_⟩,?_,rfl,rfl⟩,?_,rfl,hmi,?_,rfl,⟨Nat.le_refl _,Nat.le_refl _⟩,?_,fun x hx=>(by cases hx),.inl ⟨rfl,rfl,rfl⟩⟩
   ·show 1<=(List.replicate st.toNat _).length/\(List.replicate st.toNat _).length<=32;rw[List.length_replicate];omega
   ·show 1<=init.length/\init.length<=32;omega
   ·show(0:Int)<=0;omega
   ·show(1099511627776:Int)<=1099511627776;omega
   ·show(((List.replicate st.toNat (⟨-1,0⟩:Lk)).length:Nat):Int)=st;rw[List.length_replicate];omega
   ·exact⟨by unfold Af;show -9223372036854775808<=(0:Int)/\(0:Int)<=9223372036854775807;omega,by show 1<=st/\st<=32;omega,rfl⟩
   ·exact⟨by show(0:Int)<=0;omega,by show(0:Int)<=(0:Int);omega⟩
   ·intro x h1 h2;show(List.replicate 32 false).getD x.toNat false=true↔_;rw[List.getD_eq_getElem?_getD,List.getElem?_replicate];split
    ·exact⟨fun h=>(by cases h),fun h=>(by cases h)⟩
    ·exact⟨fun h=>(by cases h),fun h=>(by cases h)⟩
end X3
end
section
open Go Go.Rn Go.RowKit Go.Proofs
open Go.ChangeShapes
namespace ajD
open cr cU fF dM QF qV oj n7 fc gK jr AJ yO hI CS CT Fc FI HO QH X3
variable {b0 fuel:Nat} {p:List MemPlace} {t:TypeId}
section
variable {H:Type} {enc:TypeId×Value->H} {w:World} {base:Nat} {sp:Nat->Bool} {held:Bool}
theorem wf_u8{n:Int}(h:(Lit.int .u8 n).wf=true):0<=n/\n<=255:=by obtain⟨h1,h2⟩:=and_true.1 (show(decide (IntKind.u8.min<=n)&&decide (n<=IntKind.u8.max))=true from h);exact⟨of_decide_eq_true h1,of_decide_eq_true h2⟩
theorem SD:Tryz.prog.cellsOf 2=1:=by kernel_rfl
theorem sz3:Tryz.prog.cellsOf 3=1:=by kernel_rfl
theorem SE:Tryz.prog.cellsOf 5=1:=by kernel_rfl
theorem akW:Tryz.prog.cellsOf 22=1:=by kernel_rfl
theorem akX:Tryz.prog.cellsOf 37=4:=by kernel_rfl
theorem akY:Tryz.prog.cellsOf 92=1:=by kernel_rfl
theorem Y2:Tryz.prog.cellsOf 94=3:=by kernel_rfl
theorem Y3:Tryz.prog.cellsOf 96=10:=by kernel_rfl
theorem Ac{x y:Value}(h:[x]=[y]):x=y:=by injection h
theorem agj(hu:Tryz.prog.underlying t=some (.int .i64))(row:List Value)(_:row.length=1)(h2:∃n y,n<fuel/\DataW.trod enc pg w base sp held n t row=some y):∃a ms,HP w aH (fun _=>True) row a ms:=by
 obtain⟨_,y,_,h⟩:=h2;obtain⟨a,rfl,_,_⟩:=DataW.trod_int hu h;refine⟨a,[],trivial,Good.nil,fun j x hx=>?_⟩;rcases j with _|j
 ·injection (show some _=some x from hx) with hx
  subst hx;exact⟨_,rfl,fun σ _=>by simp only[VR]⟩
 ·cases(show none=some x from hx)
theorem agk(row:List Value)(eO:row.length=4)(h2:∃n y,n<fuel/\DataW.trod enc pg w base sp held n 37 row=some y):∃a ms,HP w yS (fun _=>True) row a ms:=by
  obtain⟨_,y,_,h⟩:=h2
  obtain⟨xs,n,_,_,hlen,I9,hf⟩:=DataW.trod_struct Tryz.underlying37 h
  have akZ:xs.length=4:=I9
  match row,eO,xs,akZ,hf with
  | [c0, c1,c2,c3],_,[x0,x1,x2,x3],_,hf=>
    have f0:DataW.trod enc pg w base sp held n 5 (([c0,c1,c2,c3].drop 0).take<|Tryz.prog.cellsOf 5)=some x0:=hf 0 _ rfl
    have f1:DataW.trod enc pg w base sp held n 3 (([c0,c1,c2,c3].drop 1).take<|Tryz.prog.cellsOf 3)=some x1:=hf 1 _ rfl
    have f2:DataW.trod enc pg w base sp held n 3 (([c0,c1,c2,c3].drop 2).take<|Tryz.prog.cellsOf 3)=some x2:=hf 2 _ rfl
    have f3:DataW.trod enc pg w base sp held n 2 (([c0,c1,c2,c3].drop 3).take<|Tryz.prog.cellsOf 2)=some x3:=hf 3 _ rfl
    rw[SE] at f0
    rw[sz3] at f1 f2
    rw[SD] at f3
    obtain⟨a0,e0,_,_⟩:=DataW.trod_int Tryz.underlying5 f0
    obtain⟨a1,e1,_,_⟩:=DataW.trod_int Tryz.underlying3 f1
    obtain⟨a2,e2,_,_⟩:=DataW.trod_int Tryz.underlying3 f2
    obtain⟨a3,e3,_,_⟩:=DataW.trod_int Tryz.underlying2 f3
    obtain rfl:=Ac e0
    obtain rfl:=Ac e1
    obtain rfl:=Ac e2
    obtain rfl:=Ac e3
    refine⟨⟨a0,a1,a2,a3⟩,[],trivial,Good.nil,fun j x hx=>?_⟩
    rcases j with _|_|_|_|j
    all_goals first
      | (injection (show some _=some x from hx) with hx
         subst hx
         exact⟨_,rfl,fun σ _=>by simp only[VR]⟩)
      |cases(show none=some x from hx)
theorem X4 : ∀ (fuel:Nat) (c0 c1 c2:Value) (y:DataW H×List MemPlace),DataW.trod enc pg w base sp held fuel 94 [c0,c1,c2]=some y->∃(op n:Int) (args:List Ex) (ms:mA),c0= .int .u8 op/\c1= .int .i64 n/\Good w ms/\Is ms (aD aM args) c2:=by
  intro fuel
  induction fuel using Nat.strongRecOn with
  | ind fuel ih =>
    intro c0 c1 c2 y h
    obtain⟨xs,n,hfu,_,hlen,I9,hf⟩:=DataW.trod_struct Tryz.underlying94 h
    have ak0:xs.length=3:=I9
    match xs,ak0,hf with
    | [x0,x1,x2],_,hf=>
      have f0:DataW.trod enc pg w base sp held n 5 (([c0,c1,c2].drop 0).take<|Tryz.prog.cellsOf 5)=some x0:=hf 0 _ rfl
      have f1:DataW.trod enc pg w base sp held n 2 (([c0,c1,c2].drop 1).take<|Tryz.prog.cellsOf 2)=some x1:=hf 1 _ rfl
      have f2:DataW.trod enc pg w base sp held n 92 (([c0,c1,c2].drop 2).take<|Tryz.prog.cellsOf 92)=some x2:=hf 2 _ rfl
      rw[SE] at f0
      rw[SD] at f1
      rw[akY] at f2
      obtain⟨a0,e0,_,_⟩:=DataW.trod_int Tryz.underlying5 f0
      obtain⟨a1,e1,_,_⟩:=DataW.trod_int Tryz.underlying2 f1
      obtain rfl:=Ac e0
      obtain rfl:=Ac e1
      obtain ⟨l,ms,_,k2,k3⟩:=GW (Q:=fun _:Ex=>True) kV (Nat.succ_pos _) Tryz.underlying92 Y2 (fun row eO h2=>by
        obtain⟨n2,y2,uT,h2⟩:=h2
        match row,eO,h2 with
        | [d0,d1,d2],_,h2=>
          obtain⟨o',n',l',ke,rfl,rfl,g1,g2⟩:=ih n2 ah d0 d1 d2 y2 h2
          refine⟨.mk o' n' l',ke,trivial,g1,fun j x hx=>?_⟩
          rw[OL] at hx
          rcases j with _|_|_|j
          all_goals first
            |cases(show none=some x from hx)
            | injection (show some _=some x from hx) with hx
              subst hx
              first
                |exact⟨_,rfl,fun σ _=>by simp only[VR]⟩
                |exact⟨_,rfl,g2⟩) (show DataW.trod enc pg w base sp held n 92 [c2]=some x2 from f2)
      exact⟨a0,a1,l,ms,rfl,rfl,k2,k3⟩
def KQ(s:St):Prop:=(0<=iR s/\iR s<256)/\∀k,ss k (ct s)/\ss k (cm s)
theorem O5{l:List St}(h:∀s∈l,KQ s):∀k,ss k l
 |0=>trivial
 |k+1=>fun s hs=>⟨(h s hs).1,(h s hs).2 k⟩
theorem ahN :∀(fuel:Nat) (row:List Value) (y:DataW H×List MemPlace),row.length=10->DataW.trod enc pg w base sp held fuel 96 row=some y->∃a ms,HP w ba KQ row a ms:=by
  intro fuel
  induction fuel using Nat.strongRecOn with
  | ind fuel ih=>
    intro row y eO h
    obtain⟨xs,n,hfu,_,hlen,I9,hf⟩:=DataW.trod_struct Tryz.underlying96 h
    have ak1:xs.length=6:=I9
    match row,eO,xs,ak1,hf with
    | [c0,c1,c2,c3,c4,c5,c6,c7,c8,c9],_,[x0,x1,x2,x3,x4,x5],_,hf=>
      have f0:DataW.trod enc pg w base sp held n 5 (([c0,c1,c2,c3,c4,c5,c6,c7,c8,c9].drop 0).take<|Tryz.prog.cellsOf 5)=some x0:=hf 0 _ rfl
      have f1:DataW.trod enc pg w base sp held n 3 (([c0,c1,c2,c3,c4,c5,c6,c7,c8,c9].drop 1).take<|Tryz.prog.cellsOf 3)=some x1:=hf 1 _ rfl
      have f2:DataW.trod enc pg w base sp held n 94 (([c0,c1,c2,c3,c4,c5,c6,c7,c8,c9].drop 2).take<|Tryz.prog.cellsOf 94)=some x2:=hf 2 _ rfl
      have f3:DataW.trod enc pg w base sp held n 94 (([c0,c1,c2,c3,c4,c5,c6,c7,c8,c9].drop 5).take<|Tryz.prog.cellsOf 94)=some x3:=hf 3 _ rfl
      have f4:DataW.trod enc pg w base sp held n 22 (([c0,c1,c2,c3,c4,c5,c6,c7,c8,c9].drop 8).take<|Tryz.prog.cellsOf 22)=some x4:=hf 4 _ rfl
      have f5:DataW.trod enc pg w base sp held n 22 (([c0,c1,c2,c3,c4,c5,c6,c7,c8,c9].drop 9).take<|Tryz.prog.cellsOf 22)=some x5:=hf 5 _ rfl
      rw[SE] at f0
      rw[sz3] at f1
      rw[Y2] at f2 f3
      rw[akW] at f4 f5
      obtain⟨a0,e0,_,w0⟩:=DataW.trod_int Tryz.underlying5 f0
      obtain⟨a1,e1,_,_⟩:=DataW.trod_int Tryz.underlying3 f1
      obtain rfl:=Ac e0
      obtain rfl:=Ac e1
      obtain⟨o2,n2,l2,m2,rfl,rfl,g2,i2⟩:=X4 n c2 c3 c4 x2 f2
      obtain⟨o3,n3,l3,m3,rfl,rfl,g3,i3⟩:=X4 n c5 c6 c7 x3 f3
      have hr:∀{v:Value} {z:DataW H×List MemPlace},DataW.trod enc pg w base sp held n 22 [v]=some z->∃(l:List St) (ms:mA),(∀a∈l,KQ a)/\Good w ms/\Is ms (aD ba l) v:=fun hz=>
        GW (Q:=KQ) lF (Nat.succ_pos _) Tryz.underlying22 Y3 (fun row eO h2=>by
          obtain⟨k2,y2,MI,h2⟩:=h2
          exact ih k2 ah row y2 eO h2) hz
      obtain⟨l4,m4,q4,g4,i4⟩:=hr (v:=c8) f4
      obtain⟨l5,m5,q5,g5,i5⟩:=hr (v:=c9) f5
      refine⟨.mk a0 a1 (.mk o2 n2 l2) (.mk o3 n3 l3) l4 l5,m2++(m3++(m4++m5)),⟨by have:=wf_u8 w0;show 0<=a0/\a0<256;omega,fun k=>⟨O5 q4 k,O5 q5 k⟩⟩,g2.app<|g3.app<|g4.app g5,fun j x hx=>?_⟩
      rw[U4,OL,OL] at hx
      rcases j with _|_|_|_|_|_|_|_|_|_|j
      all_goals first
        |cases(show none=some x from hx)
        | injection (show some _=some x from hx) with hx
          subst hx
          first
            |exact⟨_,rfl,fun σ _=>by simp only[VR]⟩
            |exact⟨_,rfl,i2.sub fun p hp=>List.mem_append_left _ hp⟩
            |exact⟨_,rfl,i3.sub fun p hp=>List.mem_append_right _<|List.mem_append_left _ hp⟩
            |exact⟨_,rfl,i4.sub fun p hp=>List.mem_append_right _<|List.mem_append_right _<|List.mem_append_left _ hp⟩
            |exact⟨_,rfl,i5.sub fun p hp=>List.mem_append_right _<|List.mem_append_right _<|List.mem_append_right _ hp⟩
theorem O6{e:TypeId}{v:Value}(hu:Tryz.prog.underlying t=some (.slice e))(dq:Value.okWide pg w .any b0 t v):∃a len cap,v= .slice a len cap:=by unfold Value.okWide at dq;rw[hu] at dq;simp only at dq;unfold Cell.okWide at dq;rw[hu] at dq;cases v<;>first|exact⟨_,_,_,rfl⟩|(exfalso;unfold Cell.ok at dq;rw[hu] at dq;simp at dq)
theorem anT{v:Value}{d:DataW H}(dq:Value.okWide pg w .any b0 22 v)(h:DataW.Trod enc pg w base sp held 22 v d p):∃(l:List St) (ms:mA),(∀a∈l,KQ a)/\Good w ms/\Is ms (aD ba l) v:=by obtain⟨fuel,h⟩:=h;obtain⟨a,len,cap,rfl⟩:=O6 Tryz.underlying22 dq;exact GW (Q:=KQ) lF (Nat.succ_pos _) Tryz.underlying22 Y3 (fun row eO h2=>by obtain⟨n,y,_,h2⟩:=h2;exact ahN n row y eO h2) (show DataW.trod enc pg w base sp held fuel 22 [.slice a len cap]=some (d,p) from h)
theorem anE{v:Value}{d:DataW H}(dq:Value.okWide pg w .any b0 23 v)(h:DataW.Trod enc pg w base sp held 23 v d p):∃(l:List Int) (ms:mA),Good w ms/\Is ms (aD aH l) v:=by obtain⟨fuel,h⟩:=h;obtain⟨a,len,cap,rfl⟩:=O6 Tryz.underlying23 dq;obtain⟨l,ms,_,k2,k3⟩:=GW (Q:=fun _:Int=>True) eI (Nat.succ_pos _) Tryz.underlying23 SD (agj Tryz.underlying2) (show DataW.trod enc pg w base sp held fuel 23 [.slice a len cap]=some (d,p) from h);exact⟨l,ms,k2,k3⟩
theorem anF{v:Value}{d:DataW H}(dq:Value.okWide pg w .any b0 24 v)(h:DataW.Trod enc pg w base sp held 24 v d p):∃(l:List vq) (ms:mA),Good w ms/\Is ms (aD yS l) v:=by obtain⟨fuel,h⟩:=h;obtain⟨a,len,cap,rfl⟩:=O6 Tryz.underlying24 dq;obtain⟨l,ms,_,k2,k3⟩:=GW (Q:=fun _:vq=>True) eT (Nat.succ_pos _) Tryz.underlying24 akX agk (show DataW.trod enc pg w base sp held fuel 24 [.slice a len cap]=some (d,p) from h);exact⟨l,ms,k2,k3⟩
theorem anH{v:Value}{d:DataW H}(dq:Value.okWide pg w .any b0 3 v)(h:DataW.Trod enc pg w base sp held 3 v d p):∃n,v= .int .i64 n:=by
 obtain⟨fuel,h⟩:=h;have hc:∃n,v= .int .i64 n:=by unfold Value.okWide at dq;rw[Tryz.underlying3] at dq;simp only at dq;unfold Cell.okWide at dq;rw[Tryz.underlying3] at dq;cases v<;>simp_all [Cell.ok,Tryz.underlying3]
 exact hc
end
theorem ajE:Tryz.f3.body=some (aW pg 3 []):=xH Tryz.func3 aZ
theorem anI(hP:bC pg)(W:World){ρ:aw}(S:Rn.Start 270 dW ρ W){st:Int}{v1 v2 v4 v5:Value}{tx:List St}{init aG:List Int}{l:List vq}{m1 m2 m4 m5:mA}(q:∀s∈tx,KQ s)(g1:Good W m1)(i1:Is m1 (aD ba tx) v1)(g2:Good W m2)(i2:Is m2 (aD aH init) v2)(g4:Good W m4)(i4:Is m4 (aD aH aG) v4)(g5:Good W m5)(i5:Is m5 (aD yS l) v5):
 Calls pg 3 #[v1,v2,.int .i64 st,v4,v5] W fun e w'=>e= .returned (.bool true)/\Below W.heap.size W w':=by
 let B:aI:=⟨fun k=>W.heap.size<=k,FU,fun _=>True,n9 XT 270,W.heap.size,fun h a b=>h.mono a b⟩;have g:Good W<|m1++(m2++(m4++m5)):=g1.app<|g2.app<|g4.app g5;have r:Rel B (qe (m1++(m2++(m4++m5))) ρ) dW W:=S.ajC B (Nat.le_trans (by decide) p7) g;have hh:Has (qe (m1++(m2++(m4++m5))) ρ)<|m1++(m2++(m4++m5)):=UH;have v1':=VR.mono (Ha _) _ _<|i1 _<|hh.sub fun p hp=>List.mem_append_left _ hp;have v2':=VR.mono (Ha _) _ _<|i2 _<|hh.sub fun p hp=>List.mem_append_right _<|List.mem_append_left _ hp;have v4':=VR.mono (Ha _) _ _<|i4 _<|hh.sub fun p hp=>List.mem_append_right _<|List.mem_append_right _<|List.mem_append_left _ hp;have v5':=VR.mono (Ha _) _ _<|i5 _<|hh.sub fun p hp=>List.mem_append_right _<|List.mem_append_right _<|List.mem_append_right _ hp;have mc:Mt LL B:=ru hP (ahI hP) rfl rfl;have H:=aeA (init:=init) (aG:=aG) (st:=st) (l:=l) mc<|O5 q 60;have hg:gk<|qe (m1++(m2++(m4++m5))) ρ:=fun g hg=>by obtain⟨N,e⟩:=S.g g hg;exact⟨N,JZ _ _ e⟩
 have hf:∀k,270<=k->k<top->qe (m1++(m2++(m4++m5))) ρ k=none:=fun k h1 h2=>by rw[Ow h2];exact S.free k h1
 have hv:az (qe (m1++(m2++(m4++m5))) ρ) [aD ba tx,aD aH init,.int .i64 st,aD aH aG,aD yS l] (#[v1,v2,.int .i64 st,v4,v5]:Array Value).toList:=⟨_,_,rfl,v1',_,_,rfl,v2',_,_,rfl,rfl,_,_,rfl,v4',_,_,rfl,v5',rfl⟩;have r':Rel B (qe (m1++(m2++(m4++m5))) ρ) (aj aq 270).h W:=by rw[gN];exact r
 have bJ:=av.calls (args:=[aD ba tx,aD aH init,.int .i64 st,aD aH aG,aD yS l]) hP Tryz.func3 ajE (aL.1 aZ) H (aeM aZ) r' hg hf hv;refine bJ.mono fun e w'=>?_;rintro ⟨v,x,s3,rfl,rfl,_,_,σ,_,q2,_,q4⟩;simp only[VR] at q2;exact⟨by rw[q2],q4.os,q4.tape,q4.output,q4.size,fun k hk=>q4.block k hk (by show ¬(W.heap.size<=k);omega)⟩
end ajD
end
