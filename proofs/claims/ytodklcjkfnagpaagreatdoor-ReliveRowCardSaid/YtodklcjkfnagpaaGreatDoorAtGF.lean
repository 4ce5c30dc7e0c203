import Derived.Test.YtodklcjkfnagpaaGreatDoorAtGE
import Derived.Test.YtodklcjkfnagpaaGreatDoorRnGD
import Derived.ChangeArms
set_option maxRecDepth 100000
set_option maxHeartbeats 8000000
set_option linter.unusedSimpArgs false
set_option linter.unusedVariables false
section
open Go Go.Rn Go.RowKit Go.Proofs
namespace Dx
open dP eg fq fO gY mg mf pK wc um z5 wh Dw C2 ux
noncomputable abbrev LL:bZ:=[HP,Iq,IQ,gH]
noncomputable def fH(l:List At)(r:List Int)(ms:List Bool)(dL:Int)(i:Nat):List<|Nat×AV:=[(1,az aj l),(5,az aH r),(7,.slice (some (270,0)) l.length<|.known l.length),(8,i6 dL),(9,.int .i64 (i:Int))]
noncomputable def KA:List Item:=[.code<|aJ Tryz.prog 3 [1,1,1,1,1,1,0,1,0,0],.inLoop<|aJ Tryz.prog 3 [1,1,1,1,1,1,0,1,0,0],.inBlock 0,.code<|aJ Tryz.prog 3 [1,1,1,1,1,1,1]]
noncomputable def dK(l:List At)(r:List Int)(ms:List Bool)(dL:Int)(i:Nat):AF:=⟨3,cH<|fH l r ms dL i,(max Tryz.f3.ntmps 2),KA,[],none⟩
noncomputable def kx(l:List At)(ms:List Bool)(k:Nat):List<|Nat×AV:=[(1,az aj l),(7,.slice (some (270,0)) l.length<|.known l.length),(11,.int .i64 (k:Int))]
noncomputable def KD:List Item:=[.code<|aJ Tryz.prog 3 [1,1,1,1,1,1,1,0,1,0,0],.inLoop<|aJ Tryz.prog 3 [1,1,1,1,1,1,1,0,1,0,0],.inBlock 2,.code<|aJ Tryz.prog 3 [1,1,1,1,1,1,1,1]]
noncomputable def gB(l:List At)(ms:List Bool)(k:Nat):AF:=⟨3,cH<|kx l ms k,(max Tryz.f3.ntmps 2),KD,[],none⟩
abbrev fe(B:aC)(fr:AF)(s:AS):Prop:=Sm B Tryz.f3 (.bool true) fr s
theorem Jv{init:List Int}{l:List At}(h:¬oz init l):sF l:=fun a ha=>by
 obtain⟨k,hk,e⟩:=List.mem_iff_getElem.1 ha;have e2:ae l (k:Int)=a:=by rw[pe hk];exact e
 refine⟨Classical.byContradiction fun q=>h<|.inr<|.inr ⟨k,hk,.inl (by rw[e2];omega)⟩,Classical.byContradiction fun q=>h<|.inr<|.inr ⟨k,hk,.inr (by rw[e2];omega)⟩⟩
theorem wi{init:List Int}{l:List At}(h:¬oz init l):l.length<=60:=Classical.byContradiction fun q=>h (.inr<|.inl<|by omega)
open Classical in
theorem C3{init:List Int}{l:List At}{b:Bool}(h:oz init l↔b=true):jD (fY tY) [w4 init,az aj l]=some (.bool b):=pa (pb tY.bf ⟨init,l,rfl,by congr 1;unfold zC;cases b<;>simp[h]⟩) (by show((true&&(true&&(true&&(Nat.ble top (nm _)&&(true&&true)))))&&((Nat.ble top<|nm _)&&true))=true;rw[aL.2<|aQ _,aL.2<|aQ _];rfl) rfl
theorem Dy:jD (fY tJ) []=some (.bool true):=pa (pb tJ.bf ⟨rfl,rfl⟩) rfl rfl
theorem IT{init:List Int}{l:List At}{r:List Int}{e:Int}(h:¬oz init l)(hr:(¬iW init l/\r=[]/\e=4)\/(iW init l/\m9 l r/\e=0)):jD (fY uw) [az aH init,az aj l]=some (lg r e):=by
 have Th:=wi h;refine pa (pb uw.bf ⟨init,l,rfl,by omega,Jv h,?_⟩) (by show((Nat.ble top<|nm _)&&((Nat.ble top<|nm _)&&true))=true;rw[aL.2<|aQ _,aL.2<|aQ _];rfl) (by show(Nat.ble top (nm _)&&(true&&true))=true;rw[aL.2<|aQ _];rfl);rcases hr with⟨h1,rfl,rfl⟩|⟨h1,h2,rfl⟩
 ·exact .inl ⟨h1,rfl⟩
 ·exact .inr ⟨h1,r,h2,rfl⟩
theorem rr{l:List At}{x:Int}{b:Bool}(h0:0<=x)(h1:x<(l.length:Int))(h:(ae l x).cm=b):eK FU (nm (l.map aj).flatten) (0+x.toNat*9+6) 1=some [.bool b]:=by rw[←h];exact gv h0 h1 6 (by omega)
theorem cX{r:List Int}{i:Nat}(h:i<r.length):eK FU (nm (r.map aH).flatten) (0+((i:Nat):Int).toNat*1) 1=some [i6<|I r i]:=by have:=qZ eI (yZ h) 0 1 (by omega);rw[Nat.add_zero] at this;rw[Nat.zero_add,Int.toNat_natCast];exact this
section
variable {B:aC} {l:List At} {r:List Int} {ms:List Bool} {dL:Int} {i k:Nat} {init:List Int} {x:Int} {a:At}
theorem w1(mc:Mt LL B)(h:oz init l):fe B ⟨3,bt [az aH init,az aj l],(max Tryz.f3.ntmps 2),[.code<|aJ Tryz.prog 3 []],[],none⟩<|ab ar 270:=wS mc (L:=LL) (R:=fun r0 _=>r0= .bool true) (.st 4<|.rg<|.go 3<|.kn (.bool true)<|.go 4<|.en<|.st 2<|.rg<|.kn (.bool true)<|.go 1<|.en<|.rt 2<|.no)<|And.intro (C3 (init:=init) (l:=l) (b:=true) ⟨fun _=>rfl,fun _=>h⟩)<|And.intro (Dy) (show AV.bool true=AV.bool true from rfl)
theorem w2(mc:Mt LL B)(h:¬oz init l)(h1:¬iW init l):fe B ⟨3,bt [az aH init,az aj l],(max Tryz.f3.ntmps 2),[.code<|aJ Tryz.prog 3 []],[],none⟩<|ab ar 270:=wS mc (L:=LL) (R:=fun r0 _=>r0= .bool true) (.st 4<|.rg<|.go 3<|.kn (.bool false)<|.go 1<|.kn (.bool true)<|.go 2<|.en<|.st 3<|.rg<|.go 2<|.kn (lg [] 4)<|.go 5<|.en<|.st 5<|.rg<|.go 6<|.kn (.bool false)<|.go 3<|.en<|.rt 2<|.no)<|And.intro (C3 (init:=init) (l:=l) (b:=false) ⟨fun q=>absurd q h,fun q=>by cases q⟩)<|And.intro (Dy)<|And.intro (IT h<|.inl ⟨h1,rfl,rfl⟩)<|And.intro (Dv (init:=init) (l:=l) (b:=false) (by have:=wi h;omega) (Jv h) ⟨fun q=>absurd q h1,fun q=>by cases q⟩) (show AV.bool true=AV.bool true from rfl)
theorem w3(mc:Mt LL B)(h:¬oz init l)(h1:iW init l)(h2:m9 l r)(H:fe B (dK l r (List.replicate l.length false) (0)<|0)<|ab (ar++[(270,some<|aG bx<|List.replicate l.length false)]) 271):fe B ⟨3,bt [az aH init,az aj l],(max Tryz.f3.ntmps 2),[.code<|aJ Tryz.prog 3 []],[],none⟩<|ab ar 270:=
 vC mc H (.st 4<|.rg<|.go 3<|.kn (.bool false)<|.go 1<|.kn (.bool true)<|.go 2<|.en<|.st 3<|.rg<|.go 2<|.kn (lg r 0)<|.go 5<|.en<|.st 6<|.rg<|.go 2<|.ml (.slice (some (270,0)) l.length<|.known l.length) (El l.length) Ju<|.go 1<|.en<|.st 7<|.rn [(1,az aj l),(5,az aH r),(7,.slice (some (270,0)) l.length<|.known l.length),(8,i6 0),(9,.int .i64 ((0:Nat):Int))] (ar++[(270,some<|w6 l.length)]) (fH l r (List.replicate l.length false) 0 0) (ar++[(270,some<|aG bx<|List.replicate l.length false)]) 271 271 .no) (And.intro (C3 (init:=init) (l:=l) (b:=false) ⟨fun q=>absurd q h,fun q=>by cases q⟩)<|And.intro (Dy)<|And.intro (IT h<|.inr ⟨h1,h2,rfl⟩)<|And.intro (OT (n:=l.length) (by have:=wi h;omega))<|And.intro (show(270:Nat)=270 from rfl) (show sJ 270 271 271 [(1,az aj l),(5,az aH r),(7,.slice (some (270,0)) l.length<|.known l.length),(8,i6 0),(9,.int .i64 ((0:Nat):Int))] (ar++[(270,some<|w6 l.length)]) (fH l r (List.replicate l.length false) 0 0) (ar++[(270,some<|aG bx<|List.replicate l.length false)]) (dK l r (List.replicate l.length false) (0)<|0) (ab (ar++[(270,some<|aG bx<|List.replicate l.length false)]) 271) from uU<|Sq (by have:=wi h;omega) rfl (fun q hr ht p hp=>by
  simp only[fH,List.mem_cons,List.not_mem_nil,or_false] at hp;rcases hp with rfl|rfl|rfl|rfl|rfl
  ·exact⟨by show 1<top;unfold top;omega,_,mi 0,yY ht⟩
  ·exact⟨by show 5<top;unfold top;omega,_,mi 1,yY ht⟩
  ·exact⟨by show 7<top;unfold top;omega,_,mi 2,(cn.slice<|hr 270<|by omega).z⟩
  ·exact⟨by show 8<top;unfold top;omega,_,mi 3,vi⟩
  ·exact⟨by show 9<top;unfold top;omega,_,mi 4,vi⟩)))
theorem a1(mc:Mt LL B)(hr:r.length<=1000000)(hl:l.length<=1000000)(xU:ms.length=l.length)(hi:i<r.length)(h0:0<=(I r i))(h1:(I r i)<(l.length:Int))(hm:mt ms ((I r i)).toNat=false)(hc:(ae l<|I r i).cm=true)(hw:(ae l<|I r i).wv>0)(hv:¬(ae l<|I r i).wv<dL)(hq:(ae l<|I r i).wv≠dL)(H:fe B (dK l r (ms.set ((I r i)).toNat true) ((ae l<|I r i).wv)<|i+1)<|ab (ar++[(270,some<|aG bx<|ms.set ((I r i)).toNat true)]) 271):fe B (dK l r ms dL i)<|ab (ar++[(270,some<|aG bx ms)]) 271:=vC mc H (.st 2<|.rg<|.go 3<|.fk (.en<|.st 6<|.rg<|.go 2<|.a9<|.ba ([i6<|I r i])<|.fk .no<|.go 3<|.a9<|.ba ([i6<|I r i])<|.go 2<|.fk .no<|.go 5<|.a9<|.ba ([i6<|I r i])<|.ix<|.jL (mt ms ((I r i)).toNat) .no<|.go 5<|.a9<|.ba ([i6<|I r i])<|.a9<|.go 1<|.ba ([.bool true])<|.go 2<|.en<|.st 3<|.rg<|.go 3<|.a9<|.ba ([i6<|I r i])<|.ix<|.jM (aG bx<|ms.set ((I r i)).toNat true)<|.en<|.st 1<|.rg<|.go 3<|.a9<|.ba ([i6<|I r i])<|.a9<|.go 1<|.ba ([i6 (ae l<|I r i).rv])<|.go 1<|.en<|.st 2<|.rg<|.go 3<|.a9<|.ba ([i6<|I r i])<|.a9<|.go 1<|.ba ([i6 (ae l<|I r i).wv])<|.fk (.en<|.st 1<|.rg<|.go 3<|.a9<|.ba ([i6<|I r i])<|.a9<|.go 1<|.ba ([i6 (ae l<|I r i).wv])<|.go 1<|.en<|.st 2<|.rg<|.go 2<|.fk .no<|.go 3<|.fk .no<|.go 16<|.en<|.st 4<|.rg<|.go 1<|.vl (.int .i64 ((i+1:Nat):Int))<|.go 1<|.en<|.st 1<|.ls (fH l r (ms.set ((I r i)).toNat true) ((ae l<|I r i).wv)<|i+1) (ar++[(270,some<|aG bx<|ms.set ((I r i)).toNat true)]) 271 .no) .no) .no)<|av ((i:Int)<(r.length:Int)) (fun _=>(And.intro (show(0:Int)<=(i:Int) by omega)<|And.intro (show(i:Int)<((r.length:Nat):Int) by omega)<|And.intro (aQ (r.map aH).flatten)<|And.intro (cX (r:=r) (i:=i)<|by omega)<|av ((I r i)<0) (fun h=>show False by omega) fun _=>(And.intro (show(0:Int)<=(i:Int) by omega)<|And.intro (show(i:Int)<((r.length:Nat):Int) by omega)<|And.intro (aQ (r.map aH).flatten)<|And.intro (cX (r:=r) (i:=i)<|by omega)<|av ((I r i)>=(l.length:Int)) (fun h=>show False by omega) fun _=>(And.intro (show(0:Int)<=(i:Int) by omega)<|And.intro (show(i:Int)<((r.length:Nat):Int) by omega)<|And.intro (aQ (r.map aH).flatten)<|And.intro (cX (r:=r) (i:=i)<|by omega)<|And.intro (show(0:Int)<=(I r i) by omega)<|And.intro (show(I r i)<((l.length:Nat):Int) by omega)<|And.intro (uV (ms:=ms) (z:=(I r i)) (by omega) (by omega)<|by omega)<|And.intro (fun(h:mt ms ((I r i)).toNat=true)=>show False by rw[hm] at h;cases h) fun(_:mt ms ((I r i)).toNat=false)=>(And.intro (show(0:Int)<=(i:Int) by omega)<|And.intro (show(i:Int)<((r.length:Nat):Int) by omega)<|And.intro (aQ (r.map aH).flatten)<|And.intro (cX (r:=r) (i:=i)<|by omega)<|And.intro (show(0:Int)<=(I r i) by omega)<|And.intro (show(I r i)<((l.length:Nat):Int) by omega)<|And.intro (aQ (l.map aj).flatten)<|And.intro (rr (l:=l) (x:=(I r i)) (by omega) (by omega) hc)<|And.intro (show(0:Int)<=(i:Int) by omega)<|And.intro (show(i:Int)<((r.length:Nat):Int) by omega)<|And.intro (aQ (r.map aH).flatten)<|And.intro (cX (r:=r) (i:=i)<|by omega)<|And.intro (show(0:Int)<=(I r i) by omega)<|And.intro (show(I r i)<((l.length:Nat):Int) by omega)<|And.intro (xT (ms:=ms) (z:=(I r i)) (v:=true) (by omega) (by omega)<|by omega)<|And.intro (show(0:Int)<=(i:Int) by omega)<|And.intro (show(i:Int)<((r.length:Nat):Int) by omega)<|And.intro (aQ (r.map aH).flatten)<|And.intro (cX (r:=r) (i:=i)<|by omega)<|And.intro (show(0:Int)<=(I r i) by omega)<|And.intro (show(I r i)<((l.length:Nat):Int) by omega)<|And.intro (aQ (l.map aj).flatten)<|And.intro (gv (l:=l) (x:=(I r i)) (by omega) (by omega) 4<|by omega)<|And.intro (show(0:Int)<=(i:Int) by omega)<|And.intro (show(i:Int)<((r.length:Nat):Int) by omega)<|And.intro (aQ (r.map aH).flatten)<|And.intro (cX (r:=r) (i:=i)<|by omega)<|And.intro (show(0:Int)<=(I r i) by omega)<|And.intro (show(I r i)<((l.length:Nat):Int) by omega)<|And.intro (aQ (l.map aj).flatten)<|And.intro (gv (l:=l) (x:=(I r i)) (by omega) (by omega) 5<|by omega)<|av ((ae l<|I r i).wv>0) (fun _=>(And.intro (show(0:Int)<=(i:Int) by omega)<|And.intro (show(i:Int)<((r.length:Nat):Int) by omega)<|And.intro (aQ (r.map aH).flatten)<|And.intro (cX (r:=r) (i:=i)<|by omega)<|And.intro (show(0:Int)<=(I r i) by omega)<|And.intro (show(I r i)<((l.length:Nat):Int) by omega)<|And.intro (aQ (l.map aj).flatten)<|And.intro (gv (l:=l) (x:=(I r i)) (by omega) (by omega) 5<|by omega)<|av ((ae l<|I r i).wv<dL) (fun h=>show False by omega) fun _=>(av ((ae l<|I r i).wv=dL) (fun h=>show False by omega) fun _=>(And.intro (wN ((i:Int)+1)<|i+1) (show bL (fH l r (ms.set ((I r i)).toNat true) ((ae l<|I r i).wv)<|i+1) (ar++[(270,some<|aG bx<|ms.set ((I r i)).toNat true)]) (dK l r (ms.set ((I r i)).toNat true) ((ae l<|I r i).wv)<|i+1) (ab (ar++[(270,some<|aG bx<|ms.set ((I r i)).toNat true)]) 271) from bQ))))) (fun h=>show False by omega)))))) (fun h=>show False by omega)
theorem a2(mc:Mt LL B)(hr:r.length<=1000000)(hl:l.length<=1000000)(xU:ms.length=l.length)(hi:i<r.length)(h0:0<=(I r i))(h1:(I r i)<(l.length:Int))(hm:mt ms ((I r i)).toNat=false)(hc:(ae l<|I r i).cm=true)(hw:(ae l<|I r i).wv>0)(hv:¬(ae l<|I r i).wv<dL)(hq:(ae l<|I r i).wv=dL)(Jw:i=0)(H:fe B (dK l r (ms.set ((I r i)).toNat true) ((ae l<|I r i).wv)<|i+1)<|ab (ar++[(270,some<|aG bx<|ms.set ((I r i)).toNat true)]) 271):fe B (dK l r ms dL i)<|ab (ar++[(270,some<|aG bx ms)]) 271:=vC mc H (.st 2<|.rg<|.go 3<|.fk (.en<|.st 6<|.rg<|.go 2<|.a9<|.ba ([i6<|I r i])<|.fk .no<|.go 3<|.a9<|.ba ([i6<|I r i])<|.go 2<|.fk .no<|.go 5<|.a9<|.ba ([i6<|I r i])<|.ix<|.jL (mt ms ((I r i)).toNat) .no<|.go 5<|.a9<|.ba ([i6<|I r i])<|.a9<|.go 1<|.ba ([.bool true])<|.go 2<|.en<|.st 3<|.rg<|.go 3<|.a9<|.ba ([i6<|I r i])<|.ix<|.jM (aG bx<|ms.set ((I r i)).toNat true)<|.en<|.st 1<|.rg<|.go 3<|.a9<|.ba ([i6<|I r i])<|.a9<|.go 1<|.ba ([i6 (ae l<|I r i).rv])<|.go 1<|.en<|.st 2<|.rg<|.go 3<|.a9<|.ba ([i6<|I r i])<|.a9<|.go 1<|.ba ([i6 (ae l<|I r i).wv])<|.fk (.en<|.st 1<|.rg<|.go 3<|.a9<|.ba ([i6<|I r i])<|.a9<|.go 1<|.ba ([i6 (ae l<|I r i).wv])<|.go 1<|.en<|.st 2<|.rg<|.go 2<|.fk .no<|.go 3<|.fk (.go 2<|.fk .no<|.go 13<|.en<|.st 4<|.rg<|.go 1<|.vl (.int .i64 ((i+1:Nat):Int))<|.go 1<|.en<|.st 1<|.ls (fH l r (ms.set ((I r i)).toNat true) ((ae l<|I r i).wv)<|i+1) (ar++[(270,some<|aG bx<|ms.set ((I r i)).toNat true)]) 271 .no) .no) .no) .no)<|av ((i:Int)<(r.length:Int)) (fun _=>(And.intro (show(0:Int)<=(i:Int) by omega)<|And.intro (show(i:Int)<((r.length:Nat):Int) by omega)<|And.intro (aQ (r.map aH).flatten)<|And.intro (cX (r:=r) (i:=i)<|by omega)<|av ((I r i)<0) (fun h=>show False by omega) fun _=>(And.intro (show(0:Int)<=(i:Int) by omega)<|And.intro (show(i:Int)<((r.length:Nat):Int) by omega)<|And.intro (aQ (r.map aH).flatten)<|And.intro (cX (r:=r) (i:=i)<|by omega)<|av ((I r i)>=(l.length:Int)) (fun h=>show False by omega) fun _=>(And.intro (show(0:Int)<=(i:Int) by omega)<|And.intro (show(i:Int)<((r.length:Nat):Int) by omega)<|And.intro (aQ (r.map aH).flatten)<|And.intro (cX (r:=r) (i:=i)<|by omega)<|And.intro (show(0:Int)<=(I r i) by omega)<|And.intro (show(I r i)<((l.length:Nat):Int) by omega)<|And.intro (uV (ms:=ms) (z:=(I r i)) (by omega) (by omega)<|by omega)<|And.intro (fun(h:mt ms ((I r i)).toNat=true)=>show False by rw[hm] at h;cases h) fun(_:mt ms ((I r i)).toNat=false)=>(And.intro (show(0:Int)<=(i:Int) by omega)<|And.intro (show(i:Int)<((r.length:Nat):Int) by omega)<|And.intro (aQ (r.map aH).flatten)<|And.intro (cX (r:=r) (i:=i)<|by omega)<|And.intro (show(0:Int)<=(I r i) by omega)<|And.intro (show(I r i)<((l.length:Nat):Int) by omega)<|And.intro (aQ (l.map aj).flatten)<|And.intro (rr (l:=l) (x:=(I r i)) (by omega) (by omega) hc)<|And.intro (show(0:Int)<=(i:Int) by omega)<|And.intro (show(i:Int)<((r.length:Nat):Int) by omega)<|And.intro (aQ (r.map aH).flatten)<|And.intro (cX (r:=r) (i:=i)<|by omega)<|And.intro (show(0:Int)<=(I r i) by omega)<|And.intro (show(I r i)<((l.length:Nat):Int) by omega)<|And.intro (xT (ms:=ms) (z:=(I r i)) (v:=true) (by omega) (by omega)<|by omega)<|And.intro (show(0:Int)<=(i:Int) by omega)<|And.intro (show(i:Int)<((r.length:Nat):Int) by omega)<|And.intro (aQ (r.map aH).flatten)<|And.intro (cX (r:=r) (i:=i)<|by omega)<|And.intro (show(0:Int)<=(I r i) by omega)<|And.intro (show(I r i)<((l.length:Nat):Int) by omega)<|And.intro (aQ (l.map aj).flatten)<|And.intro (gv (l:=l) (x:=(I r i)) (by omega) (by omega) 4<|by omega)<|And.intro (show(0:Int)<=(i:Int) by omega)<|And.intro (show(i:Int)<((r.length:Nat):Int) by omega)<|And.intro (aQ (r.map aH).flatten)<|And.intro (cX (r:=r) (i:=i)<|by omega)<|And.intro (show(0:Int)<=(I r i) by omega)<|And.intro (show(I r i)<((l.length:Nat):Int) by omega)<|And.intro (aQ (l.map aj).flatten)<|And.intro (gv (l:=l) (x:=(I r i)) (by omega) (by omega) 5<|by omega)<|av ((ae l<|I r i).wv>0) (fun _=>(And.intro (show(0:Int)<=(i:Int) by omega)<|And.intro (show(i:Int)<((r.length:Nat):Int) by omega)<|And.intro (aQ (r.map aH).flatten)<|And.intro (cX (r:=r) (i:=i)<|by omega)<|And.intro (show(0:Int)<=(I r i) by omega)<|And.intro (show(I r i)<((l.length:Nat):Int) by omega)<|And.intro (aQ (l.map aj).flatten)<|And.intro (gv (l:=l) (x:=(I r i)) (by omega) (by omega) 5<|by omega)<|av ((ae l<|I r i).wv<dL) (fun h=>show False by omega) fun _=>(av ((ae l<|I r i).wv=dL) (fun _=>(av ((i:Int)>0) (fun h=>show False by omega) fun _=>(And.intro (wN ((i:Int)+1)<|i+1) (show bL (fH l r (ms.set ((I r i)).toNat true) ((ae l<|I r i).wv)<|i+1) (ar++[(270,some<|aG bx<|ms.set ((I r i)).toNat true)]) (dK l r (ms.set ((I r i)).toNat true) ((ae l<|I r i).wv)<|i+1) (ab (ar++[(270,some<|aG bx<|ms.set ((I r i)).toNat true)]) 271) from bQ)))) (fun h=>show False by omega)))) (fun h=>show False by omega)))))) (fun h=>show False by omega)
theorem a3(mc:Mt LL B)(hr:r.length<=1000000)(hl:l.length<=1000000)(xU:ms.length=l.length)(hi:i<r.length)(h0:0<=(I r i))(h1:(I r i)<(l.length:Int))(hm:mt ms ((I r i)).toNat=false)(hc:(ae l<|I r i).cm=true)(hw:¬(ae l<|I r i).wv>0)(hv:¬(ae l<|I r i).rv<dL)(hq:(ae l<|I r i).rv≠dL)(H:fe B (dK l r (ms.set ((I r i)).toNat true) ((ae l<|I r i).rv)<|i+1)<|ab (ar++[(270,some<|aG bx<|ms.set ((I r i)).toNat true)]) 271):fe B (dK l r ms dL i)<|ab (ar++[(270,some<|aG bx ms)]) 271:=vC mc H (.st 2<|.rg<|.go 3<|.fk (.en<|.st 6<|.rg<|.go 2<|.a9<|.ba ([i6<|I r i])<|.fk .no<|.go 3<|.a9<|.ba ([i6<|I r i])<|.go 2<|.fk .no<|.go 5<|.a9<|.ba ([i6<|I r i])<|.ix<|.jL (mt ms ((I r i)).toNat) .no<|.go 5<|.a9<|.ba ([i6<|I r i])<|.a9<|.go 1<|.ba ([.bool true])<|.go 2<|.en<|.st 3<|.rg<|.go 3<|.a9<|.ba ([i6<|I r i])<|.ix<|.jM (aG bx<|ms.set ((I r i)).toNat true)<|.en<|.st 1<|.rg<|.go 3<|.a9<|.ba ([i6<|I r i])<|.a9<|.go 1<|.ba ([i6 (ae l<|I r i).rv])<|.go 1<|.en<|.st 2<|.rg<|.go 3<|.a9<|.ba ([i6<|I r i])<|.a9<|.go 1<|.ba ([i6 (ae l<|I r i).wv])<|.fk .no<|.en<|.st 4<|.rg<|.go 2<|.fk .no<|.go 3<|.fk .no<|.go 16<|.en<|.st 4<|.rg<|.go 1<|.vl (.int .i64 ((i+1:Nat):Int))<|.go 1<|.en<|.st 1<|.ls (fH l r (ms.set ((I r i)).toNat true) ((ae l<|I r i).rv)<|i+1) (ar++[(270,some<|aG bx<|ms.set ((I r i)).toNat true)]) 271 .no) .no)<|av ((i:Int)<(r.length:Int)) (fun _=>(And.intro (show(0:Int)<=(i:Int) by omega)<|And.intro (show(i:Int)<((r.length:Nat):Int) by omega)<|And.intro (aQ (r.map aH).flatten)<|And.intro (cX (r:=r) (i:=i)<|by omega)<|av ((I r i)<0) (fun h=>show False by omega) fun _=>(And.intro (show(0:Int)<=(i:Int) by omega)<|And.intro (show(i:Int)<((r.length:Nat):Int) by omega)<|And.intro (aQ (r.map aH).flatten)<|And.intro (cX (r:=r) (i:=i)<|by omega)<|av ((I r i)>=(l.length:Int)) (fun h=>show False by omega) fun _=>(And.intro (show(0:Int)<=(i:Int) by omega)<|And.intro (show(i:Int)<((r.length:Nat):Int) by omega)<|And.intro (aQ (r.map aH).flatten)<|And.intro (cX (r:=r) (i:=i)<|by omega)<|And.intro (show(0:Int)<=(I r i) by omega)<|And.intro (show(I r i)<((l.length:Nat):Int) by omega)<|And.intro (uV (ms:=ms) (z:=(I r i)) (by omega) (by omega)<|by omega)<|And.intro (fun(h:mt ms ((I r i)).toNat=true)=>show False by rw[hm] at h;cases h) fun(_:mt ms ((I r i)).toNat=false)=>(And.intro (show(0:Int)<=(i:Int) by omega)<|And.intro (show(i:Int)<((r.length:Nat):Int) by omega)<|And.intro (aQ (r.map aH).flatten)<|And.intro (cX (r:=r) (i:=i)<|by omega)<|And.intro (show(0:Int)<=(I r i) by omega)<|And.intro (show(I r i)<((l.length:Nat):Int) by omega)<|And.intro (aQ (l.map aj).flatten)<|And.intro (rr (l:=l) (x:=(I r i)) (by omega) (by omega) hc)<|And.intro (show(0:Int)<=(i:Int) by omega)<|And.intro (show(i:Int)<((r.length:Nat):Int) by omega)<|And.intro (aQ (r.map aH).flatten)<|And.intro (cX (r:=r) (i:=i)<|by omega)<|And.intro (show(0:Int)<=(I r i) by omega)<|And.intro (show(I r i)<((l.length:Nat):Int) by omega)<|And.intro (xT (ms:=ms) (z:=(I r i)) (v:=true) (by omega) (by omega)<|by omega)<|And.intro (show(0:Int)<=(i:Int) by omega)<|And.intro (show(i:Int)<((r.length:Nat):Int) by omega)<|And.intro (aQ (r.map aH).flatten)<|And.intro (cX (r:=r) (i:=i)<|by omega)<|And.intro (show(0:Int)<=(I r i) by omega)<|And.intro (show(I r i)<((l.length:Nat):Int) by omega)<|And.intro (aQ (l.map aj).flatten)<|And.intro (gv (l:=l) (x:=(I r i)) (by omega) (by omega) 4<|by omega)<|And.intro (show(0:Int)<=(i:Int) by omega)<|And.intro (show(i:Int)<((r.length:Nat):Int) by omega)<|And.intro (aQ (r.map aH).flatten)<|And.intro (cX (r:=r) (i:=i)<|by omega)<|And.intro (show(0:Int)<=(I r i) by omega)<|And.intro (show(I r i)<((l.length:Nat):Int) by omega)<|And.intro (aQ (l.map aj).flatten)<|And.intro (gv (l:=l) (x:=(I r i)) (by omega) (by omega) 5<|by omega)<|av ((ae l<|I r i).wv>0) (fun h=>show False by omega) fun _=>(av ((ae l<|I r i).rv<dL) (fun h=>show False by omega) fun _=>(av ((ae l<|I r i).rv=dL) (fun h=>show False by omega) fun _=>(And.intro (wN ((i:Int)+1)<|i+1) (show bL (fH l r (ms.set ((I r i)).toNat true) ((ae l<|I r i).rv)<|i+1) (ar++[(270,some<|aG bx<|ms.set ((I r i)).toNat true)]) (dK l r (ms.set ((I r i)).toNat true) ((ae l<|I r i).rv)<|i+1) (ab (ar++[(270,some<|aG bx<|ms.set ((I r i)).toNat true)]) 271) from bQ))))))))) (fun h=>show False by omega)
theorem a4(mc:Mt LL B)(hr:r.length<=1000000)(hl:l.length<=1000000)(xU:ms.length=l.length)(hi:i<r.length)(h0:0<=(I r i))(h1:(I r i)<(l.length:Int))(hm:mt ms ((I r i)).toNat=false)(hc:(ae l<|I r i).cm=true)(hw:¬(ae l<|I r i).wv>0)(hv:¬(ae l<|I r i).rv<dL)(hq:(ae l<|I r i).rv=dL)(Jw:i=0)(H:fe B (dK l r (ms.set ((I r i)).toNat true) ((ae l<|I r i).rv)<|i+1)<|ab (ar++[(270,some<|aG bx<|ms.set ((I r i)).toNat true)]) 271):fe B (dK l r ms dL i)<|ab (ar++[(270,some<|aG bx ms)]) 271:=vC mc H (.st 2<|.rg<|.go 3<|.fk (.en<|.st 6<|.rg<|.go 2<|.a9<|.ba ([i6<|I r i])<|.fk .no<|.go 3<|.a9<|.ba ([i6<|I r i])<|.go 2<|.fk .no<|.go 5<|.a9<|.ba ([i6<|I r i])<|.ix<|.jL (mt ms ((I r i)).toNat) .no<|.go 5<|.a9<|.ba ([i6<|I r i])<|.a9<|.go 1<|.ba ([.bool true])<|.go 2<|.en<|.st 3<|.rg<|.go 3<|.a9<|.ba ([i6<|I r i])<|.ix<|.jM (aG bx<|ms.set ((I r i)).toNat true)<|.en<|.st 1<|.rg<|.go 3<|.a9<|.ba ([i6<|I r i])<|.a9<|.go 1<|.ba ([i6 (ae l<|I r i).rv])<|.go 1<|.en<|.st 2<|.rg<|.go 3<|.a9<|.ba ([i6<|I r i])<|.a9<|.go 1<|.ba ([i6 (ae l<|I r i).wv])<|.fk .no<|.en<|.st 4<|.rg<|.go 2<|.fk .no<|.go 3<|.fk (.go 2<|.fk .no<|.go 13<|.en<|.st 4<|.rg<|.go 1<|.vl (.int .i64 ((i+1:Nat):Int))<|.go 1<|.en<|.st 1<|.ls (fH l r (ms.set ((I r i)).toNat true) ((ae l<|I r i).rv)<|i+1) (ar++[(270,some<|aG bx<|ms.set ((I r i)).toNat true)]) 271 .no) .no) .no)<|av ((i:Int)<(r.length:Int)) (fun _=>(And.intro (show(0:Int)<=(i:Int) by omega)<|And.intro (show(i:Int)<((r.length:Nat):Int) by omega)<|And.intro (aQ (r.map aH).flatten)<|And.intro (cX (r:=r) (i:=i)<|by omega)<|av ((I r i)<0) (fun h=>show False by omega) fun _=>(And.intro (show(0:Int)<=(i:Int) by omega)<|And.intro (show(i:Int)<((r.length:Nat):Int) by omega)<|And.intro (aQ (r.map aH).flatten)<|And.intro (cX (r:=r) (i:=i)<|by omega)<|av ((I r i)>=(l.length:Int)) (fun h=>show False by omega) fun _=>(And.intro (show(0:Int)<=(i:Int) by omega)<|And.intro (show(i:Int)<((r.length:Nat):Int) by omega)<|And.intro (aQ (r.map aH).flatten)<|And.intro (cX (r:=r) (i:=i)<|by omega)<|And.intro (show(0:Int)<=(I r i) by omega)<|And.intro (show(I r i)<((l.length:Nat):Int) by omega)<|And.intro (uV (ms:=ms) (z:=(I r i)) (by omega) (by omega)<|by omega)<|And.intro (fun(h:mt ms ((I r i)).toNat=true)=>show False by rw[hm] at h;cases h) fun(_:mt ms ((I r i)).toNat=false)=>(And.intro (show(0:Int)<=(i:Int) by omega)<|And.intro (show(i:Int)<((r.length:Nat):Int) by omega)<|And.intro (aQ (r.map aH).flatten)<|And.intro (cX (r:=r) (i:=i)<|by omega)<|And.intro (show(0:Int)<=(I r i) by omega)<|And.intro (show(I r i)<((l.length:Nat):Int) by omega)<|And.intro (aQ (l.map aj).flatten)<|And.intro (rr (l:=l) (x:=(I r i)) (by omega) (by omega) hc)<|And.intro (show(0:Int)<=(i:Int) by omega)<|And.intro (show(i:Int)<((r.length:Nat):Int) by omega)<|And.intro (aQ (r.map aH).flatten)<|And.intro (cX (r:=r) (i:=i)<|by omega)<|And.intro (show(0:Int)<=(I r i) by omega)<|And.intro (show(I r i)<((l.length:Nat):Int) by omega)<|And.intro (xT (ms:=ms) (z:=(I r i)) (v:=true) (by omega) (by omega)<|by omega)<|And.intro (show(0:Int)<=(i:Int) by omega)<|And.intro (show(i:Int)<((r.length:Nat):Int) by omega)<|And.intro (aQ (r.map aH).flatten)<|And.intro (cX (r:=r) (i:=i)<|by omega)<|And.intro (show(0:Int)<=(I r i) by omega)<|And.intro (show(I r i)<((l.length:Nat):Int) by omega)<|And.intro (aQ (l.map aj).flatten)<|And.intro (gv (l:=l) (x:=(I r i)) (by omega) (by omega) 4<|by omega)<|And.intro (show(0:Int)<=(i:Int) by omega)<|And.intro (show(i:Int)<((r.length:Nat):Int) by omega)<|And.intro (aQ (r.map aH).flatten)<|And.intro (cX (r:=r) (i:=i)<|by omega)<|And.intro (show(0:Int)<=(I r i) by omega)<|And.intro (show(I r i)<((l.length:Nat):Int) by omega)<|And.intro (aQ (l.map aj).flatten)<|And.intro (gv (l:=l) (x:=(I r i)) (by omega) (by omega) 5<|by omega)<|av ((ae l<|I r i).wv>0) (fun h=>show False by omega) fun _=>(av ((ae l<|I r i).rv<dL) (fun h=>show False by omega) fun _=>(av ((ae l<|I r i).rv=dL) (fun _=>(av ((i:Int)>0) (fun h=>show False by omega) fun _=>(And.intro (wN ((i:Int)+1)<|i+1) (show bL (fH l r (ms.set ((I r i)).toNat true) ((ae l<|I r i).rv)<|i+1) (ar++[(270,some<|aG bx<|ms.set ((I r i)).toNat true)]) (dK l r (ms.set ((I r i)).toNat true) ((ae l<|I r i).rv)<|i+1) (ab (ar++[(270,some<|aG bx<|ms.set ((I r i)).toNat true)]) 271) from bQ)))) (fun h=>show False by omega)))))))) (fun h=>show False by omega)
theorem a5(mc:Mt LL B)(hr:r.length<=1000000)(hl:l.length<=1000000)(xU:ms.length=l.length)(hi:i<r.length)(h0:0<=(I r i))(h1:(I r i)<(l.length:Int))(hm:mt ms ((I r i)).toNat=false)(hc:(ae l<|I r i).cm=true)(hw:¬(ae l<|I r i).wv>0)(hv:¬(ae l<|I r i).rv<dL)(hq:(ae l<|I r i).rv=dL)(Jw:¬i=0)(H:fe B (dK l r (ms.set ((I r i)).toNat true) ((ae l<|I r i).rv)<|i+1)<|ab (ar++[(270,some<|aG bx<|ms.set ((I r i)).toNat true)]) 271):fe B (dK l r ms dL i)<|ab (ar++[(270,some<|aG bx ms)]) 271:=vC mc H (.st 2<|.rg<|.go 3<|.fk (.en<|.st 6<|.rg<|.go 2<|.a9<|.ba ([i6<|I r i])<|.fk .no<|.go 3<|.a9<|.ba ([i6<|I r i])<|.go 2<|.fk .no<|.go 5<|.a9<|.ba ([i6<|I r i])<|.ix<|.jL (mt ms ((I r i)).toNat) .no<|.go 5<|.a9<|.ba ([i6<|I r i])<|.a9<|.go 1<|.ba ([.bool true])<|.go 2<|.en<|.st 3<|.rg<|.go 3<|.a9<|.ba ([i6<|I r i])<|.ix<|.jM (aG bx<|ms.set ((I r i)).toNat true)<|.en<|.st 1<|.rg<|.go 3<|.a9<|.ba ([i6<|I r i])<|.a9<|.go 1<|.ba ([i6 (ae l<|I r i).rv])<|.go 1<|.en<|.st 2<|.rg<|.go 3<|.a9<|.ba ([i6<|I r i])<|.a9<|.go 1<|.ba ([i6 (ae l<|I r i).wv])<|.fk .no<|.en<|.st 4<|.rg<|.go 2<|.fk .no<|.go 3<|.fk (.go 2<|.fk (.go 5<|.a9<|.ba ([i6<|I r i])<|.a9<|.go 1<|.ba ([i6 (ae l<|I r i).wv])<|.fk .no<|.go 2<|.en<|.st 4<|.rg<|.go 1<|.vl (.int .i64 ((i+1:Nat):Int))<|.go 1<|.en<|.st 1<|.ls (fH l r (ms.set ((I r i)).toNat true) ((ae l<|I r i).rv)<|i+1) (ar++[(270,some<|aG bx<|ms.set ((I r i)).toNat true)]) 271 .no) .no) .no) .no)<|av ((i:Int)<(r.length:Int)) (fun _=>(And.intro (show(0:Int)<=(i:Int) by omega)<|And.intro (show(i:Int)<((r.length:Nat):Int) by omega)<|And.intro (aQ (r.map aH).flatten)<|And.intro (cX (r:=r) (i:=i)<|by omega)<|av ((I r i)<0) (fun h=>show False by omega) fun _=>(And.intro (show(0:Int)<=(i:Int) by omega)<|And.intro (show(i:Int)<((r.length:Nat):Int) by omega)<|And.intro (aQ (r.map aH).flatten)<|And.intro (cX (r:=r) (i:=i)<|by omega)<|av ((I r i)>=(l.length:Int)) (fun h=>show False by omega) fun _=>(And.intro (show(0:Int)<=(i:Int) by omega)<|And.intro (show(i:Int)<((r.length:Nat):Int) by omega)<|And.intro (aQ (r.map aH).flatten)<|And.intro (cX (r:=r) (i:=i)<|by omega)<|And.intro (show(0:Int)<=(I r i) by omega)<|And.intro (show(I r i)<((l.length:Nat):Int) by omega)<|And.intro (uV (ms:=ms) (z:=(I r i)) (by omega) (by omega)<|by omega)<|And.intro (fun(h:mt ms ((I r i)).toNat=true)=>show False by rw[hm] at h;cases h) fun(_:mt ms ((I r i)).toNat=false)=>(And.intro (show(0:Int)<=(i:Int) by omega)<|And.intro (show(i:Int)<((r.length:Nat):Int) by omega)<|And.intro (aQ (r.map aH).flatten)<|And.intro (cX (r:=r) (i:=i)<|by omega)<|And.intro (show(0:Int)<=(I r i) by omega)<|And.intro (show(I r i)<((l.length:Nat):Int) by omega)<|And.intro (aQ (l.map aj).flatten)<|And.intro (rr (l:=l) (x:=(I r i)) (by omega) (by omega) hc)<|And.intro (show(0:Int)<=(i:Int) by omega)<|And.intro (show(i:Int)<((r.length:Nat):Int) by omega)<|And.intro (aQ (r.map aH).flatten)<|And.intro (cX (r:=r) (i:=i)<|by omega)<|And.intro (show(0:Int)<=(I r i) by omega)<|And.intro (show(I r i)<((l.length:Nat):Int) by omega)<|And.intro (xT (ms:=ms) (z:=(I r i)) (v:=true) (by omega) (by omega)<|by omega)<|And.intro (show(0:Int)<=(i:Int) by omega)<|And.intro (show(i:Int)<((r.length:Nat):Int) by omega)<|And.intro (aQ (r.map aH).flatten)<|And.intro (cX (r:=r) (i:=i)<|by omega)<|And.intro (show(0:Int)<=(I r i) by omega)<|And.intro (show(I r i)<((l.length:Nat):Int) by omega)<|And.intro (aQ (l.map aj).flatten)<|And.intro (gv (l:=l) (x:=(I r i)) (by omega) (by omega) 4<|by omega)<|And.intro (show(0:Int)<=(i:Int) by omega)<|And.intro (show(i:Int)<((r.length:Nat):Int) by omega)<|And.intro (aQ (r.map aH).flatten)<|And.intro (cX (r:=r) (i:=i)<|by omega)<|And.intro (show(0:Int)<=(I r i) by omega)<|And.intro (show(I r i)<((l.length:Nat):Int) by omega)<|And.intro (aQ (l.map aj).flatten)<|And.intro (gv (l:=l) (x:=(I r i)) (by omega) (by omega) 5<|by omega)<|av ((ae l<|I r i).wv>0) (fun h=>show False by omega) fun _=>(av ((ae l<|I r i).rv<dL) (fun h=>show False by omega) fun _=>(av ((ae l<|I r i).rv=dL) (fun _=>(av ((i:Int)>0) (fun _=>(And.intro (show(0:Int)<=(i:Int) by omega)<|And.intro (show(i:Int)<((r.length:Nat):Int) by omega)<|And.intro (aQ (r.map aH).flatten)<|And.intro (cX (r:=r) (i:=i)<|by omega)<|And.intro (show(0:Int)<=(I r i) by omega)<|And.intro (show(I r i)<((l.length:Nat):Int) by omega)<|And.intro (aQ (l.map aj).flatten)<|And.intro (gv (l:=l) (x:=(I r i)) (by omega) (by omega) 5<|by omega)<|av ((ae l<|I r i).wv>0) (fun h=>show False by omega) fun _=>(And.intro (wN ((i:Int)+1)<|i+1) (show bL (fH l r (ms.set ((I r i)).toNat true) ((ae l<|I r i).rv)<|i+1) (ar++[(270,some<|aG bx<|ms.set ((I r i)).toNat true)]) (dK l r (ms.set ((I r i)).toNat true) ((ae l<|I r i).rv)<|i+1) (ab (ar++[(270,some<|aG bx<|ms.set ((I r i)).toNat true)]) 271) from bQ)))) (fun h=>show False by omega))) (fun h=>show False by omega)))))))) (fun h=>show False by omega)
theorem aE(mc:Mt LL B)(h:r.length<=i)(H:fe B (gB l ms<|0)<|ab (ar++[(270,some<|aG bx ms)]) 271):fe B (dK l r ms dL i)<|ab (ar++[(270,some<|aG bx ms)]) 271:=vC mc H (.st 2<|.rg<|.go 3<|.fk .no<|.en<|.st 7<|.ls (kx l ms<|0) (ar++[(270,some<|aG bx ms)]) 271 .no)<|av ((i:Int)<(r.length:Int)) (fun h=>show False by omega) fun _=>(show bL (kx l ms<|0) (ar++[(270,some<|aG bx ms)]) (gB l ms<|0) (ab (ar++[(270,some<|aG bx ms)]) 271) from bQ)
theorem d1(mc:Mt LL B)(hl:l.length<=1000000)(hk:k<l.length)(hc:(ae l (k:Int)).cm=false)(H:fe B (gB l ms<|k+1)<|ab (ar++[(270,some<|aG bx ms)]) 271):fe B (gB l ms k)<|ab (ar++[(270,some<|aG bx ms)]) 271:=vC mc H (.st 2<|.rg<|.go 3<|.fk (.en<|.st 5<|.rg<|.go 2<|.a9<|.go 1<|.ba ([.bool false])<|.go 7<|.en<|.st 3<|.rg<|.go 1<|.vl (.int .i64 ((k+1:Nat):Int))<|.go 1<|.en<|.st 1<|.ls (kx l ms<|k+1) (ar++[(270,some<|aG bx ms)]) 271 .no) .no)<|av ((k:Int)<(l.length:Int)) (fun _=>(And.intro (show(0:Int)<=(k:Int) by omega)<|And.intro (show(k:Int)<((l.length:Nat):Int) by omega)<|And.intro (aQ (l.map aj).flatten)<|And.intro (rr (l:=l) (x:=(k:Int)) (by omega) (by omega) hc)<|And.intro (wN ((k:Int)+1)<|k+1) (show bL (kx l ms<|k+1) (ar++[(270,some<|aG bx ms)]) (gB l ms<|k+1) (ab (ar++[(270,some<|aG bx ms)]) 271) from bQ))) (fun h=>show False by omega)
theorem d2(mc:Mt LL B)(hl:l.length<=1000000)(hk:k<l.length)(xU:ms.length=l.length)(hc:(ae l (k:Int)).cm=true)(hm:mt ms (k:Int).toNat=true)(H:fe B (gB l ms<|k+1)<|ab (ar++[(270,some<|aG bx ms)]) 271):fe B (gB l ms k)<|ab (ar++[(270,some<|aG bx ms)]) 271:=vC mc H (.st 2<|.rg<|.go 3<|.fk (.en<|.st 5<|.rg<|.go 2<|.a9<|.go 1<|.ba ([.bool true])<|.go 3<|.ix<|.jL (mt ms (k:Int).toNat) (.go 2<|.en<|.st 3<|.rg<|.go 1<|.vl (.int .i64 ((k+1:Nat):Int))<|.go 1<|.en<|.st 1<|.ls (kx l ms<|k+1) (ar++[(270,some<|aG bx ms)]) 271 .no) .no) .no)<|av ((k:Int)<(l.length:Int)) (fun _=>(And.intro (show(0:Int)<=(k:Int) by omega)<|And.intro (show(k:Int)<((l.length:Nat):Int) by omega)<|And.intro (aQ (l.map aj).flatten)<|And.intro (rr (l:=l) (x:=(k:Int)) (by omega) (by omega) hc)<|And.intro (show(0:Int)<=(k:Int) by omega)<|And.intro (show(k:Int)<((l.length:Nat):Int) by omega)<|And.intro (uV (ms:=ms) (z:=(k:Int)) (by omega) (by omega)<|by omega)<|And.intro (fun(_:mt ms (k:Int).toNat=true)=>(And.intro (wN ((k:Int)+1)<|k+1) (show bL (kx l ms<|k+1) (ar++[(270,some<|aG bx ms)]) (gB l ms<|k+1) (ab (ar++[(270,some<|aG bx ms)]) 271) from bQ))) (fun(h:mt ms (k:Int).toNat=false)=>show False by rw[hm] at h;cases h))) (fun h=>show False by omega)
theorem dE(mc:Mt LL B)(h:l.length<=k):fe B (gB l ms k)<|ab (ar++[(270,some<|aG bx ms)]) 271:=wS mc (L:=LL) (R:=fun r0 _=>r0= .bool true) (.st 2<|.rg<|.go 3<|.fk .no<|.en<|.rt 6<|.no)<|av ((k:Int)<(l.length:Int)) (fun h=>show False by omega) fun _=>(show AV.bool true=AV.bool true from rfl)
end
end Dx
end
section
open Go Go.Rn Go.RowKit Go.Proofs
namespace It
open dP eg fq fO gY mg mf pK wc um z5 wh Dw C2 ux Dx
def iy(r:List Int)(n i:Nat):List Bool:=(List.range n).map fun(k:Nat)=>decide<|((k:Nat):Int)∈r.take i
theorem lM(r:List Int)(n i:Nat):(iy r n i).length=n:=by unfold iy;rw[List.length_map,List.length_range]
theorem Hv{r:List Int}{n i k:Nat}(h:k<n):ux.mt (iy r n i) k=decide (((k:Nat):Int)∈r.take i):=by unfold ux.mt iy;rw[List.getD_eq_getElem?_getD,List.getElem?_map,List.getElem?_range h];rfl
theorem Mj(r:List Int)(n:Nat):iy r n 0=List.replicate n false:=by refine List.ext_getElem (by rw[lM,List.length_replicate]) fun k h1 h2=>?_;rw[List.getElem_replicate];unfold iy;simp
theorem Mk{r:List Int}{n i k:Nat}(hi:i<r.length)(hk:I r i=(k:Int))(hn:k<n):(iy r n i).set (I r i).toNat true=iy r n (i+1):=by
 rw[hk,Int.toNat_natCast];refine List.ext_getElem (by rw[List.length_set,lM,lM]) fun j h1 h2=>?_;rw[lM] at h2;rw[List.getElem_set];have e:r.take (i+1)=r.take i++[(k:Int)]:=by rw[List.take_add_one,yZ hi,hk];rfl
 have key:(iy r n<|i+1)[j]'(by rw[lM];exact h2)=decide (((j:Nat):Int)∈r.take i\/j=k):=by unfold iy;rw[List.getElem_map,List.getElem_range,e];refine decide_eq_decide.2 ?_;rw[List.mem_append,List.mem_singleton];exact⟨fun h=>h.imp id fun h=>by omega,fun h=>h.imp id fun h=>by rw[h]⟩
 rw[key];split
 ·rename_i q;rw[decide_eq_true<|.inr q.symm]
 ·rename_i q;unfold iy;rw[List.getElem_map,List.getElem_range];exact decide_eq_decide.2 ⟨.inl,fun h=>h.resolve_right fun e=>q e.symm⟩
theorem HQ{v:Int}:∀{l:List At} {last:Int} {m:List Int},kZ v l last m->(∀a∈l,a.wv>0->a.wv ∉ m)/\l.Pairwise (fun a b=>b.wv>0->a.wv≠b.wv)
 |[],_,_,_=>⟨fun a h=>(by cases h),.nil⟩
 |a::l,last,m,h=>by
  obtain⟨h1,h2⟩:=HQ h.2;have ins:∀x,x ∉ gu m a.wv->x ∉ m/\a.wv≠x:=fun x hx=>by
   unfold gu at hx;split at hx
   ·rename_i q;exact⟨hx,fun e=>hx (by rw[←e];exact q)⟩
   ·exact⟨fun q=>hx<|List.mem_append_left _ q,fun e=>hx (by rw[e];exact List.mem_append_right _ List.mem_cons_self)⟩
  refine⟨fun b hb hw=>?_,.cons (fun b hb hw=>(ins _<|h1 b hb hw).2) h2⟩;rcases List.mem_cons.1 hb with rfl|hb
  ·exact(h.1.w1 hw).2
  ·exact(ins _<|h1 b hb hw).1
theorem HR{v:Int}:∀{l:List At} {last:Int} {m:List Int},kZ v l last m->∀a∈l,0<=a.rv/\0<=a.wv
 |a::l,last,m,h,b,hb=>by
  rcases List.mem_cons.1 hb with rfl|hb
  ·exact⟨h.1.rv.1,h.1.wv.1⟩
  ·exact HR h.2 b hb
section
variable {init:List Int} {l:List At} {r:List Int}
theorem Cx(h:m9 l r){i:Nat}(hi:i<r.length):∃k:Nat,I r i=(k:Int)/\k<l.length/\(ae l (k:Int)).cm=true:=B6.1<|h.pm.subset<|at_mem hi
theorem B7(h:m9 l r){k:Nat}(hk:k<l.length)(hc:(ae l (k:Int)).cm=true):((k:Nat):Int)∈r:=h.pm.symm.subset<|B6.2 ⟨k,rfl,hk,hc⟩
theorem NW(h:m9 l r):r.length<=l.length:=by rw[h.len];exact B5 _ _
theorem NX(h:m9 l r){i:Nat}(hi:i<r.length):I r i ∉ r.take i:=fun q=>by have nd:r.Nodup:=h.pm.nodup_iff.2<|Gk l l.length;obtain⟨j,hj,e⟩:=List.mem_iff_getElem.1 q;rw[List.length_take] at hj;rw[List.getElem_take,kO hi] at e;have:=(List.getElem_inj nd).1 e;omega
def qd(l:List At)(r:List Int)(i:Nat):Int:=if i=0 then 0 else kv (ae l<|I r<|i - 1)
theorem Qu(hm:iW init l)(h:m9 l r){i:Nat}(hi:i<r.length):¬kv (ae l<|I r i)<qd l r i/\(kv (ae l<|I r i)=qd l r i->¬i=0->¬(ae l<|I r i).wv>0):=by
 obtain⟨k,e1,k1,k2⟩:=Cx h hi;have eM:=HR hm.2 (ae l (k:Int)) (by rw[pe k1];exact List.getElem_mem _);unfold qd;by_cases q:i=0
 ·rw[if_pos q,e1];refine⟨?_,fun _ h=>absurd q h⟩;unfold kv;split<;>omega
 ·rw[if_neg q];have s:=h.ks (i - 1) i (Nat.zero_le _) (by omega) (by rw[←h.len];exact hi);have s:¬nD l (I r i) (I r<|i - 1)<0:=s;rw[zi] at s;refine⟨by omega,fun e _ hw=>?_⟩;obtain⟨j,e2,j1,j2⟩:=Cx h (show i - 1<r.length by omega);have hk:kk (ae l<|I r i)=0:=by unfold kk;rw[if_pos hw]
  have Em:kk (ae l<|I r<|i - 1)=0:=by
   have:kk (ae l<|I r<|i - 1)=0\/kk (ae l<|I r<|i - 1)=1:=by unfold kk;split<;>simp
   omega
  have mE:(ae l<|I r<|i - 1).wv>0:=Classical.byContradiction fun q=>by unfold kk at Em;rw[if_neg q] at Em;cases Em
  have e3:(ae l<|I r i).wv=(ae l<|I r<|i - 1).wv:=by unfold kv at e;rw[if_pos hw,if_pos mE] at e;exact e
  have p:=(HQ hm.2).2;rw[List.pairwise_iff_getElem] at p;have nd:r.Nodup:=h.pm.nodup_iff.2<|Gk l l.length;have bO:k≠j:=fun e4=>by
   have:I r i=I r (i - 1):=by rw[e1,e2,e4]
   rw[kO hi,kO (show i - 1<r.length by omega)] at this;have:=(List.getElem_inj nd).1 this;omega
  rw[e1,e2,pe k1,pe j1] at e3;rw[e1,pe k1] at hw;rw[e2,pe j1] at mE;rcases Nat.lt_or_gt_of_ne bO with q2|q2
  ·exact p k j k1 j1 q2 mE e3
  ·exact p j k j1 k1 q2 hw e3.symm
end
section
variable {B:aC} {init:List Int} {l:List At} {r:List Int}
theorem IU(mc:Mt LL B)(hl:l.length<=60)(h:m9 l r):∀(n k:Nat),l.length - k=n->k<=l.length->fe B (gB l (iy r l.length r.length) k) (ab (ar++[(270,some<|aG bx<|iy r l.length r.length)]) 271)
 |0,k,hn,hk=>dE mc (by omega)
 |n+1,k,hn,hk=>by
  have gI:k<l.length:=by omega
  have ih:=IU mc hl h n (k+1) (by omega) (by omega);cases hc:(ae l (k:Int)).cm with
  |false=>exact d1 mc (by omega) gI hc ih
  |true=>refine d2 mc (by omega) gI (lM _ _ _) hc ?_ ih;rw[Int.toNat_natCast,Hv gI,decide_eq_true];rw[List.take_of_length_le<|Nat.le_refl _];exact B7 h gI hc
theorem uu(mc:Mt LL B)(hl:l.length<=60)(hm:iW init l)(h:m9 l r):∀(n i:Nat),r.length - i=n->i<=r.length->fe B (dK l r (iy r l.length i) (qd l r i) i) (ab (ar++[(270,some<|aG bx<|iy r l.length i)]) 271)
 |0,i,hn,hi=>by
  obtain rfl:i=r.length:=by omega
  exact aE mc (Nat.le_refl _)<|IU mc hl h _ 0 rfl<|Nat.zero_le _
 |n+1,i,hn,hi=>by
  have bP:i<r.length:=by omega
  have Ti:=NW h;have ih:=uu mc hl hm h n (i+1) (by omega) (by omega);obtain⟨k,e1,k1,k2⟩:=Cx h bP;obtain⟨v1,v2⟩:=Qu hm h bP;have iR:=NX h bP;have eZ:ux.mt (iy r l.length i) (I r i).toNat=false:=by rw[e1,Int.toNat_natCast,Hv k1];rw[e1] at iR;exact decide_eq_false iR
  have xV:(ae l<|I r i).cm=true:=by rw[e1];exact k2
  have ev:qd l r (i+1)=kv (ae l<|I r i):=by unfold qd;rw[if_neg (by omega),Nat.add_sub_cancel]
  rw[←Mk bP e1 k1,ev] at ih;by_cases hw:(ae l<|I r i).wv>0
  ·have ek:kv (ae l<|I r i)=(ae l<|I r i).wv:=by unfold kv;rw[if_pos hw]
   rw[ek] at ih v1 v2;by_cases q:(ae l<|I r i).wv=qd l r i
   ·have q0:i=0:=Classical.byContradiction fun q0=>v2 q q0 hw;exact a2 mc (by omega) (by omega) (lM _ _ _) bP (by omega) (by omega) eZ xV hw v1 q q0 ih
   ·exact a1 mc (by omega) (by omega) (lM _ _ _) bP (by omega) (by omega) eZ xV hw v1 q ih
  ·have ek:kv (ae l<|I r i)=(ae l<|I r i).rv:=by unfold kv;rw[if_neg hw]
   rw[ek] at ih v1;by_cases q:(ae l<|I r i).rv=qd l r i
   ·by_cases q0:i=0
    ·exact a4 mc (by omega) (by omega) (lM _ _ _) bP (by omega) (by omega) eZ xV hw v1 q q0 ih
    ·exact a5 mc (by omega) (by omega) (lM _ _ _) bP (by omega) (by omega) eZ xV hw v1 q q0 ih
   ·exact a3 mc (by omega) (by omega) (lM _ _ _) bP (by omega) (by omega) eZ xV hw v1 q ih
theorem Nd(mc:Mt LL B):fe B ⟨3,bt [az aH init,az aj l],(max Tryz.f3.ntmps 2),[.code<|aJ Tryz.prog 3 []],[],none⟩<|ab ar 270:=by
 by_cases h:oz init l
 ·exact w1 mc h
 by_cases h1:iW init l
 ·obtain⟨r,h2⟩:=wg.bG.ex (l:=fI l l.length) (a:=0) (b:=(fI l l.length).length) (y7<|apart h1) (Cw l) (Nat.zero_le _)<|Nat.le_refl _;have:=uu (r:=r) mc (wi h) h1 h2 _ 0 rfl<|Nat.zero_le _;rw[Mj] at this;exact w3 mc h h1 h2 this
 ·exact w2 mc h h1
theorem OV(hP:dp Tryz.prog):cL LL:=Mi hP<|Nc hP<|wh.B7 hP<|Hn hP gE
end
end It
end
section
open Go Go.Rn Go.RowKit Go.Proofs
open Go.ChangeShapes
namespace PC
open dP fq gY wh Dx It
section
variable {H:Type} {enc:TypeId×Value->H} {w:World} {base:Nat} {sp:Nat->Bool} {held:Bool}
theorem Jx:Tryz.prog.cellsOf 2=1:=by kernel_rfl
theorem Jy:Tryz.prog.cellsOf 3=1:=by kernel_rfl
theorem Sr:Tryz.prog.cellsOf 4=1:=by kernel_rfl
theorem Qv:Tryz.prog.cellsOf 35=1:=by kernel_rfl
theorem Qw:Tryz.prog.cellsOf 37=9:=by kernel_rfl
theorem IV:Tryz.prog.cellsOf 47=2:=by kernel_rfl
theorem n6{x y:Value}(h:[x]=[y]):x=y:=by injection h
theorem NY{t:TypeId}{fuel:Nat}(hu:Tryz.prog.underlying t=some (.int .i64))(row:List Value)(_:row.length=1)(h2:∃n y,n<fuel/\DataW.trod enc Tryz.prog w base sp held n t row=some y):∃a ms,we w aH (fun _=>True) row a ms:=by
 obtain⟨_,y,_,h⟩:=h2;obtain⟨a,rfl,_,_⟩:=DataW.trod_int hu h;refine⟨a,[],trivial,Good.nil,fun j x hx=>?_⟩;rcases j with _|j
 ·injection (show some _=some x from hx) with hx
  subst hx;exact⟨_,rfl,fun σ _=>by simp only[VR]⟩
 ·cases(show none=some x from hx)
theorem HS{fuel:Nat}(row:List Value)(dB:row.length=2)(h2:∃n y,n<fuel/\DataW.trod enc Tryz.prog w base sp held n 47 row=some y):∃a ms,we w cD (fun _=>True) row a ms:=by
  obtain⟨_,y,_,h⟩:=h2
  obtain⟨xs,n,_,_,hlen,En,hf⟩:=DataW.trod_struct Tryz.underlying47 h
  have Qx:xs.length=2:=En
  match row,dB,xs,Qx,hf with
  | [c0, c1],_,[x0,x1],_,hf=>
    have f0:DataW.trod enc Tryz.prog w base sp held n 3 (([c0,c1].drop 0).take<|Tryz.prog.cellsOf 3)=some x0:=hf 0 _ rfl
    have f1:DataW.trod enc Tryz.prog w base sp held n 2 (([c0,c1].drop 1).take<|Tryz.prog.cellsOf 2)=some x1:=hf 1 _ rfl
    rw[Jy] at f0
    rw[Jx] at f1
    obtain⟨a0,e0,_,_⟩:=DataW.trod_int Tryz.underlying3 f0
    obtain⟨a1,e1,_,_⟩:=DataW.trod_int Tryz.underlying2 f1
    obtain rfl:=n6 e0
    obtain rfl:=n6 e1
    refine⟨(a0,a1),[],trivial,Good.nil,fun j x hx=>?_⟩
    rcases j with _|_|j
    all_goals first
      | (injection (show some _=some x from hx) with hx
         subst hx
         exact⟨_,rfl,fun σ _=>by simp only[VR]⟩)
      |cases(show none=some x from hx)
theorem OW{fuel:Nat}(row:List Value)(dB:row.length=9)(h2:∃n y,n<fuel/\DataW.trod enc Tryz.prog w base sp held n 37 row=some y):∃a ms,we w aj (fun _=>True) row a ms:=by
  obtain⟨_,y,_,h⟩:=h2
  obtain⟨xs,n,_,_,hlen,En,hf⟩:=DataW.trod_struct Tryz.underlying37 h
  have Qy:xs.length=9:=En
  match row,dB,xs,Qy,hf with
  | [c0,c1,c2,c3,c4,c5,c6,c7,c8],_,[x0,x1,x2,x3,x4,x5,x6,x7,x8],_,hf=>
    have f0:DataW.trod enc Tryz.prog w base sp held n 3 (([c0,c1,c2,c3,c4,c5,c6,c7,c8].drop 0).take<|Tryz.prog.cellsOf 3)=some x0:=hf 0 _ rfl
    have f1:DataW.trod enc Tryz.prog w base sp held n 3 (([c0,c1,c2,c3,c4,c5,c6,c7,c8].drop 1).take<|Tryz.prog.cellsOf 3)=some x1:=hf 1 _ rfl
    have f2:DataW.trod enc Tryz.prog w base sp held n 3 (([c0,c1,c2,c3,c4,c5,c6,c7,c8].drop 2).take<|Tryz.prog.cellsOf 3)=some x2:=hf 2 _ rfl
    have f3:DataW.trod enc Tryz.prog w base sp held n 3 (([c0,c1,c2,c3,c4,c5,c6,c7,c8].drop 3).take<|Tryz.prog.cellsOf 3)=some x3:=hf 3 _ rfl
    have f4:DataW.trod enc Tryz.prog w base sp held n 3 (([c0,c1,c2,c3,c4,c5,c6,c7,c8].drop 4).take<|Tryz.prog.cellsOf 3)=some x4:=hf 4 _ rfl
    have f5:DataW.trod enc Tryz.prog w base sp held n 3 (([c0,c1,c2,c3,c4,c5,c6,c7,c8].drop 5).take<|Tryz.prog.cellsOf 3)=some x5:=hf 5 _ rfl
    have f6:DataW.trod enc Tryz.prog w base sp held n 4 (([c0,c1,c2,c3,c4,c5,c6,c7,c8].drop 6).take<|Tryz.prog.cellsOf 4)=some x6:=hf 6 _ rfl
    have f7:DataW.trod enc Tryz.prog w base sp held n 35 (([c0,c1,c2,c3,c4,c5,c6,c7,c8].drop 7).take<|Tryz.prog.cellsOf 35)=some x7:=hf 7 _ rfl
    have f8:DataW.trod enc Tryz.prog w base sp held n 35 (([c0,c1,c2,c3,c4,c5,c6,c7,c8].drop 8).take<|Tryz.prog.cellsOf 35)=some x8:=hf 8 _ rfl
    rw[Jy] at f0 f1 f2 f3 f4 f5
    rw[Sr] at f6
    rw[Qv] at f7 f8
    obtain⟨a0,e0,_,_⟩:=DataW.trod_int Tryz.underlying3 f0
    obtain⟨a1,e1,_,_⟩:=DataW.trod_int Tryz.underlying3 f1
    obtain⟨a2,e2,_,_⟩:=DataW.trod_int Tryz.underlying3 f2
    obtain⟨a3,e3,_,_⟩:=DataW.trod_int Tryz.underlying3 f3
    obtain⟨a4,e4,_,_⟩:=DataW.trod_int Tryz.underlying3 f4
    obtain⟨a5,e5,_,_⟩:=DataW.trod_int Tryz.underlying3 f5
    obtain⟨a6,e6,_⟩:=DataW.trod_bool Tryz.underlying4 f6
    obtain rfl:=n6 e0
    obtain rfl:=n6 e1
    obtain rfl:=n6 e2
    obtain rfl:=n6 e3
    obtain rfl:=n6 e4
    obtain rfl:=n6 e5
    obtain rfl:=n6 e6
    obtain⟨l7,m7,_,g7,i7⟩:=yN (Q:=fun _:Pr=>True) eP (Nat.succ_pos _) Tryz.underlying35 IV HS (show DataW.trod enc Tryz.prog w base sp held n 35 [c7]=some x7 from f7)
    obtain⟨l8,m8,_,g8,i8⟩:=yN (Q:=fun _:Pr=>True) eP (Nat.succ_pos _) Tryz.underlying35 IV HS (show DataW.trod enc Tryz.prog w base sp held n 35 [c8]=some x8 from f8)
    refine⟨⟨a0,a1,a2,a3,a4,a5,a6,l7,l8⟩,m7++m8,trivial,g7.app g8,fun j x hx=>?_⟩
    rcases j with _|_|_|_|_|_|_|_|_|j
    all_goals first
      |cases(show none=some x from hx)
      | injection (show some _=some x from hx) with hx
        subst hx
        first
          |exact⟨_,rfl,i7.sub fun p hp=>List.mem_append_left _ hp⟩
          |exact⟨_,rfl,i8.sub fun p hp=>List.mem_append_right _ hp⟩
          |exact⟨_,rfl,fun σ _=>by simp only[VR]⟩
theorem GV{t e:TypeId}{v:Value}{b0:Nat}(hu:Tryz.prog.underlying t=some (.slice e))(cC:Value.okWide Tryz.prog w .any b0 t v):∃a len cap,v= .slice a len cap:=by unfold Value.okWide at cC;rw[hu] at cC;simp only at cC;unfold Cell.okWide at cC;rw[hu] at cC;cases v<;>first|exact⟨_,_,_,rfl⟩|(exfalso;unfold Cell.ok at cC;rw[hu] at cC;simp at cC)
theorem SD{v:Value}{d:DataW H}{p:List MemPlace}{b0:Nat}(cC:Value.okWide Tryz.prog w .any b0 22 v)(h:DataW.Trod enc Tryz.prog w base sp held 22 v d p):∃(l:List Int) (ms:hI),Good w ms/\Is ms (az aH l) v:=by obtain⟨fuel,h⟩:=h;obtain⟨a,len,cap,rfl⟩:=GV Tryz.underlying22 cC;obtain⟨l,ms,_,k2,k3⟩:=yN (Q:=fun _:Int=>True) eI (Nat.succ_pos _) Tryz.underlying22 Jx (NY Tryz.underlying2) (show DataW.trod enc Tryz.prog w base sp held fuel 22 [.slice a len cap]=some (d,p) from h);exact⟨l,ms,k2,k3⟩
theorem SF{v:Value}{d:DataW H}{p:List MemPlace}{b0:Nat}(cC:Value.okWide Tryz.prog w .any b0 23 v)(h:DataW.Trod enc Tryz.prog w base sp held 23 v d p):∃(l:List gY.At) (ms:hI),Good w ms/\Is ms (az aj l) v:=by obtain⟨fuel,h⟩:=h;obtain⟨a,len,cap,rfl⟩:=GV Tryz.underlying23 cC;obtain⟨l,ms,_,k2,k3⟩:=yN (Q:=fun _:gY.At=>True) eA (Nat.succ_pos _) Tryz.underlying23 Qw OW (show DataW.trod enc Tryz.prog w base sp held fuel 23 [.slice a len cap]=some (d,p) from h);exact⟨l,ms,k2,k3⟩
end
theorem PD:Tryz.f3.body=some (aJ Tryz.prog 3 []):=MK Tryz.func3 (by kernel_rfl)
theorem SG(hP:dp Tryz.prog)(W:World){ρ:ah}(S:Rn.Start 270 dI ρ W){v1 v2:Value}{init:List Int}{l:List gY.At}{m1 m2:hI}(g1:Good W m1)(i1:Is m1 (az aH init) v1)(g2:Good W m2)(i2:Is m2 (az aj l) v2):
 Calls Tryz.prog 3 #[v1,v2] W fun e w'=>e= .returned (.bool true)/\Below W.heap.size W w':=by
 let B:aC:=⟨fun k=>W.heap.size<=k,FU,fun _=>True,ni XT 270,W.heap.size,fun h a b=>h.mono a b⟩;have g:Good W<|m1++m2:=g1.app g2;have r:Rel B (jw (m1++m2) ρ) dI W:=S.Pz B (Nat.le_trans (by decide) Cs) g;have hh:Has (jw (m1++m2) ρ)<|m1++m2:=Gj;have Ss:=VR.mono (Ca _) _ _<|i1 _<|hh.sub fun p hp=>List.mem_append_left _ hp;have St:=VR.mono (Ca _) _ _<|i2 _<|hh.sub fun p hp=>List.mem_append_right _ hp;have mc:Mt LL B:=Dn hP (OV hP) rfl rfl;have H:=Nd (init:=init) (l:=l) mc;have hg:dN<|jw (m1++m2) ρ:=fun g hg=>by obtain⟨N,e⟩:=S.g g hg;exact⟨N,yO _ _ e⟩
 have hf:∀k,270<=k->k<top->jw (m1++m2) ρ k=none:=fun k h1 h2=>by rw[Bs h2];exact S.free k h1
 have hv:aq (jw (m1++m2) ρ) [az aH init,az aj l] (#[v1,v2]:Array Value).toList:=⟨_,_,rfl,Ss,_,_,rfl,St,rfl⟩;have r':Rel B (jw (m1++m2) ρ) (ab ar 270).h W:=by rw[pn];exact r
 have bd:=bp.calls (args:=[az aH init,az aj l]) hP Tryz.func3 PD (aL.1<|by kernel_rfl) H (Nq<|by kernel_rfl) r' hg hf hv;refine bd.mono fun e w'=>?_;rintro ⟨v,x,s3,rfl,rfl,_,_,σ,_,q2,_,q4⟩;simp only[VR] at q2;exact⟨by rw[q2],q4.os,q4.tape,q4.output,q4.size,fun k hk=>q4.block k hk (by show ¬(W.heap.size<=k);omega)⟩
end PC
end
