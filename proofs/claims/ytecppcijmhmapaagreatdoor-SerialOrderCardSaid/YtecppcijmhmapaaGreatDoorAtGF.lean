import Derived.Test.YtecppcijmhmapaaGreatDoorAtGE
import Derived.Test.YtecppcijmhmapaaGreatDoorRnGD
import Derived.ChangeArms
set_option maxRecDepth 100000
set_option maxHeartbeats 8000000
set_option linter.unusedSimpArgs false
set_option linter.unusedVariables false
section
open Go Go.Rn Go.RowKit Go.Proofs
namespace Bx
open dx dG ep eV gq jX jb lD vS te tC yu mw ou yw EU yx Bw EW
noncomputable def ki(l:List At)(w:List Int)(G:Nat)(i:Nat)(rs:List<|List Int):List<|Nat×AV:=[(1,.ptr<|some (270,0)),(3,aq aw w),(4,.slice (some (271,0)) G<|.known G),(17,aq ah l),(18,.int .i64 (l.length:Int)),(19,.int .i64 (i:Int))]
noncomputable def KH:List Item:=[.code<|aI Tryz.prog 7 [1,1,1,0,1,0,0],.inLoop<|aI Tryz.prog 7 [1,1,1,0,1,0,0],.inBlock 0,.code<|aI Tryz.prog 7 [1,1,1,1]]
noncomputable def kU(l:List At)(w:List Int)(G:Nat)(i:Nat)(rs:List<|List Int):AF:=⟨7,cj<|ki l w G i rs,(max Tryz.f7.ntmps 1),KH,[],none⟩
noncomputable def gK(l:List At)(w:List Int)(G:Nat)(i:Nat)(g:Nat)(rs:List<|List Int):List<|Nat×AV:=[(1,.ptr<|some (270,0)),(3,aq aw w),(4,.slice (some (271,0)) G<|.known G),(17,aq ah l),(18,.int .i64 (l.length:Int)),(19,.int .i64 (i:Int)),(5,.int .i64 (i:Int)),(7,.int .i64 (g:Int))]
noncomputable def KC:List Item:=[.code<|aI Tryz.prog 7 [1,1,1,0,1,0,0,1,1,0,0,1,1,1,1],.inBlock 1,.code<|aI Tryz.prog 7 [1,1,1,0,1,0,0,1,1,1],.inLoop<|aI Tryz.prog 7 [1,1,1,0,1,0,0],.inBlock 0,.code<|aI Tryz.prog 7 [1,1,1,1]]
noncomputable def hI(l:List At)(w:List Int)(G:Nat)(i:Nat)(g:Nat)(rs:List<|List Int):AF:=⟨7,cj<|gK l w G i g rs,(max Tryz.f7.ntmps 1),KC,[],none⟩
noncomputable def F0(l:List At)(w:List Int)(G:Nat)(i:Nat)(g:Nat)(rs:List<|List Int)(p:List Int):List<|Nat×AV:=[(1,.ptr<|some (270,0)),(3,aq aw w),(4,.slice (some (271,0)) G<|.known G),(17,aq ah l),(18,.int .i64 (l.length:Int)),(19,.int .i64 (i:Int)),(5,.int .i64 (i:Int)),(7,.int .i64 (g:Int))]
noncomputable def KX:List Item:=[.code<|aI Tryz.prog 7 [1,1,1,0,1,0,0,1,1,0,0,1,1,1,1],.inBlock 1,.code<|aI Tryz.prog 7 [1,1,1,0,1,0,0,1,1,1],.inLoop<|aI Tryz.prog 7 [1,1,1,0,1,0,0],.inBlock 0,.code<|aI Tryz.prog 7 [1,1,1,1]]
noncomputable def BW(l:List At)(w:List Int)(G:Nat)(i:Nat)(g:Nat)(rs:List<|List Int)(p:List Int):AF:=⟨7,cj<|F0 l w G i g rs p,(max Tryz.f7.ntmps 1),KX,[],none⟩
noncomputable def gd(l:List At)(w:List Int)(G:Nat)(k:Nat)(rs:List<|List Int)(out:List Int):List<|Nat×AV:=[(1,.ptr<|some (270,0)),(3,aq aw w),(8,cB 273 out),(45,.slice (some (271,0)) G<|.known G),(46,.int .i64 (G:Int)),(47,.int .i64 (k:Int))]
noncomputable def KT:List Item:=[.code<|aI Tryz.prog 7 [1,1,1,1,1,0,1,0,0],.inLoop<|aI Tryz.prog 7 [1,1,1,1,1,0,1,0,0],.inBlock 2,.code<|aI Tryz.prog 7 [1,1,1,1,1,1]]
noncomputable def dV(l:List At)(w:List Int)(G:Nat)(k:Nat)(rs:List<|List Int)(out:List Int):AF:=⟨7,cj<|gd l w G k rs out,(max Tryz.f7.ntmps 1),KT,[],none⟩
noncomputable def gf(l:List At)(w:List Int)(G:Nat)(k:Nat)(g:Nat)(rs:List<|List Int)(p:List Int)(out:List Int):List<|Nat×AV:=[(1,.ptr<|some (270,0)),(3,aq aw w),(8,cB 273 out),(45,.slice (some (271,0)) G<|.known G),(46,.int .i64 (G:Int)),(47,.int .i64 (k:Int))]
noncomputable def KU:List Item:=[.code<|aI Tryz.prog 7 [1,1,1,1,1,0,1,0,0],.inLoop<|aI Tryz.prog 7 [1,1,1,1,1,0,1,0,0],.inBlock 2,.code<|aI Tryz.prog 7 [1,1,1,1,1,1]]
noncomputable def gg(l:List At)(w:List Int)(G:Nat)(k:Nat)(g:Nat)(rs:List<|List Int)(p:List Int)(out:List Int):AF:=⟨7,cj<|gf l w G k g rs p out,(max Tryz.f7.ntmps 1),KU,[],none⟩
noncomputable def kh(l:List At)(w:List Int)(G:Nat)(k:Nat)(g:Nat)(rs:List<|List Int)(p:List Int)(out:List Int):List<|Nat×AV:=[(1,.ptr<|some (270,0)),(3,aq aw w),(8,cB 273 out),(10,cB 272 p),(45,.slice (some (271,0)) G<|.known G),(46,.int .i64 (G:Int)),(47,.int .i64 (k:Int))]
noncomputable def KD:List Item:=[.code<|aI Tryz.prog 7 [1,1,1,1,1,0,1,0,0,1,1,0,0,1,1],.inBlock 3,.code<|aI Tryz.prog 7 [1,1,1,1,1,0,1,0,0,1,1,1],.inLoop<|aI Tryz.prog 7 [1,1,1,1,1,0,1,0,0],.inBlock 2,.code<|aI Tryz.prog 7 [1,1,1,1,1,1]]
noncomputable def g9(l:List At)(w:List Int)(G:Nat)(k:Nat)(g:Nat)(rs:List<|List Int)(p:List Int)(out:List Int):AF:=⟨7,cj<|kh l w G k g rs p out,(max Tryz.f7.ntmps 1),KD,[],none⟩
def jh(r:List Int):List<|Nat×AV:=[(2,aq aw r)]
noncomputable def KR:List Item:=[.code<|aI Tryz.prog 7 [1,1,1,1,1,1,1]]
noncomputable def hJ(r:List Int):AF:=⟨7,cj<|jh r,(max Tryz.f7.ntmps 1),KR,[],none⟩
abbrev cP(B:aH)(r:List Int)(fr:AF)(s:AS):Prop:=Sm B Tryz.f7 (aq aw r) fr s
theorem R1{l:List At}{w:List Int}(hl:l.length<=100000)(ha:nb l)(h:nA l w):kH (gR wy) [aq ah l]=some (aq aw w):=qk (ql wy.bc ⟨l,w,rfl,hl,ha,h,rfl⟩) (by show((Nat.ble top<|nm _)&&true)=true;rw[aK.2<|bj _];rfl)<|aK.2<|bj _
noncomputable abbrev wQ(l:List At)(a:At):AS->Prop:=qK 270 dy ed [270,400] [[aq ah l],ah a]
noncomputable abbrev wG:AS->AS:=xQ 270 dy ed [270,400]
abbrev WQ(l:List At)(a:At):Prop:=true=true/\(true=true/\some (ak [aq ah l])=some (ak [aq ah l]))/\(true=true/\some (ak<|ah a)=some (ak<|ah a))/\True
theorem Jg{L:bY}(hs:sp L 17=some (eH (vL zq) 270 ed dy)){l:List At}{a:At}{w:List Int}{z:Int}{T:Prop}(hw:w.length<=1000000)(hr:Rg w<|jK l)(hz:iv l a.rv w 0=z)(t:T):
 (∀s,wQ l a s->br Tryz.prog (sp L) FU 6 (.fn 17) [aq aw w,.func (.func 18) [] [.ptr<|some (270,0),.ptr<|some (400,0)]] s= .ok (i6 z) (wG s))/\WQ l a/\T:=by
 refine⟨?_,⟨rfl,⟨rfl,rfl⟩,⟨rfl,rfl⟩,trivial⟩,t⟩;refine xA (n:=5) (N:=[270,400]) (ax:=[[aq ah l],ah a]) hs rfl ?_ (by decide) rfl (by kernel_rfl) ?_ (td zq.bc ⟨w,l,a,rfl,rfl,hw,hr,by rw[hz],rfl⟩) rfl
 ·show(((or (AV.hi<|aq aw w)<|not (tq<|aq aw w).isEmpty)&&(gb (.func (.func 18) [] [.ptr<|some (270,0),.ptr<|some (400,0)])&&true))&&Nat.ble 2 2)=true;rw[show AV.hi (aq aw w)=true from aK.2<|bj _];kernel_rfl
 ·have e:(ah a).all AV.bO=true:=List.all_eq_true.2 fun c hc=>Ad<|List.all_eq_true.1 (eA.fX a) c hc;show(((AV.bO (aq ah l)&&true)&&Nat.ble 1 top)&&(((ah a).all AV.bO&&Nat.ble 9 top)&&true))=true;rw[show AV.bO (aq ah l)=true from aK.2<|bj _,e,aK.2 (show 1<=top by unfold top;omega),aK.2 (show 9<=top by unfold top;omega)];rfl
section
variable {B:aH} {l:List At} {w q p out VM:List Int} {rs eQ:List<|List Int} {G i k g x:Nat} {a:At} {y z:Int} {p' bH:List Int}
theorem w0(mc:Mt [eD,eE,cS] B)(hl:l.length<=100000)(ha:nb l)(hw:nA l w)(hG:w.length<=60)(H:cP B q (kU l w (w.length+1) (0)<|List.replicate (w.length+1) [])<|J (Mc l (w.length+1) (List.replicate (w.length+1) []) []) 400):cP B q ⟨7,bG [aq ah l],(max Tryz.f7.ntmps 1),[.code<|aI Tryz.prog 7 []],[],none⟩<|J au 270:=vC mc H (.st 3<|.rg<|.go 1<|.kn (aq aw w)<|.go 1<|.en<|.st 1<|.rg<|.go 2<|.vl (.int .i64 ((w.length+1:Nat):Int))<|.ml (.slice (some (271,0)) (w.length+1)<|.known<|w.length+1) (FZ<|w.length+1) LN<|.go 1<|.en<|.st 5<|.rn [(1,.ptr<|some (270,0)),(3,aq aw w),(4,.slice (some (271,0)) (w.length+1)<|.known<|w.length+1),(17,aq ah l),(18,.int .i64 (l.length:Int)),(19,.int .i64 ((0:Nat):Int))] (au++([(270,some<|ak [aq ah l]),(271,some<|yy<|w.length+1)]++eO fun _=>none)) (ki l w (w.length+1) (0)<|List.replicate (w.length+1) []) (Mc l (w.length+1) (List.replicate (w.length+1) []) []) 272 400 .no)<|And.intro (R1 hl ha hw)<|And.intro (wN ((w.length:Int)+1)<|w.length+1)<|And.intro (Qb (n:=w.length+1)<|by omega)<|And.intro (show(271:Nat)=271 from rfl) (show fT 270 272 400 [(1,.ptr<|some (270,0)),(3,aq aw w),(4,.slice (some (271,0)) (w.length+1)<|.known<|w.length+1),(17,aq ah l),(18,.int .i64 (l.length:Int)),(19,.int .i64 ((0:Nat):Int))] (au++([(270,some<|ak [aq ah l]),(271,some<|yy<|w.length+1)]++eO fun _=>none)) (ki l w (w.length+1) (0)<|List.replicate (w.length+1) []) (Mc l (w.length+1) (List.replicate (w.length+1) []) []) (kU l w (w.length+1) (0)<|List.replicate (w.length+1) []) (J (Mc l (w.length+1) (List.replicate (w.length+1) []) []) 400) from gh<|Q3 (by omega) rfl fun r hr ht=>⟨⟨rfl,(show(1:Nat)<200 by omega),(bf.ptr<|ra hr).z⟩,⟨rfl,(show(3:Nat)<200 by omega),dZ ht⟩,⟨rfl,(show(4:Nat)<200 by omega),(bf.slice<|rk hr).z⟩,⟨rfl,(show(17:Nat)<200 by omega),dZ ht⟩,⟨rfl,(show(18:Nat)<200 by omega),vi⟩,⟨rfl,(show(19:Nat)<200 by omega),vi⟩,trivial⟩)
theorem b1(mc:Mt [eD,eE,cS] B)(hb:Bd rs)(hG:G<=61)(hl:l.length<=1000000)(hi:i<l.length)(hx:fj FU (nm (l.map ah).flatten) (0+((i:Nat):Int).toNat*9) 9=some (ah a))(hw:a.wv>0)(H:cP B q (kU l w G (i+1) rs)<|J (Mc l G rs []) 400):cP B q (kU l w G i rs)<|J (Mc l G rs []) 400:=vC mc H (.st 1<|.rg<|.fk (.en<|.st 6<|.rg<|.go 1<|.bV<|.bW (ah a)<|.go 3<|.en<|.st 2<|.rg<|.go 2<|.fk (.en<|.st 2<|.rg<|.vl (.int .i64 ((i+1:Nat):Int))<|.go 1<|.en<|.st 1<|.rn (ki l w G (i+1) rs) (Mc l G rs []) (ki l w G (i+1) rs) (Mc l G rs []) 401 400 .no) .no) .no)<|ay ((i:Int)<(l.length:Int)) (fun _=>(And.intro (show(0:Int)<=(i:Int) by omega)<|And.intro (show(i:Int)<((l.length:Nat):Int) by omega)<|And.intro (bj (l.map ah).flatten)<|And.intro (hx)<|ay (a.wv>0) (fun _=>(And.intro (wN ((i:Int)+1)<|i+1) (show fT 270 401 400 (ki l w G (i+1) rs) (Mc l G rs []) (ki l w G (i+1) rs) (Mc l G rs []) (kU l w G (i+1) rs) (J (Mc l G rs []) 400) from gh<|AK hb (by show 0<=1000000;omega) hG (by omega) (by omega) fun r hr ht=>⟨⟨rfl,(show(1:Nat)<200 by omega),(bf.ptr<|ra hr).z⟩,⟨rfl,(show(3:Nat)<200 by omega),dZ ht⟩,⟨rfl,(show(4:Nat)<200 by omega),(bf.slice<|rk hr).z⟩,⟨rfl,(show(17:Nat)<200 by omega),dZ ht⟩,⟨rfl,(show(18:Nat)<200 by omega),vi⟩,⟨rfl,(show(19:Nat)<200 by omega),vi⟩,trivial⟩))) (fun h=>show False by omega))) (fun h=>show False by omega)
theorem b2(mc:Mt [eD,eE,cS] B)(hb:Bd rs)(hG:G<=61)(hl:l.length<=1000000)(hi:i<l.length)(hx:fj FU (nm (l.map ah).flatten) (0+((i:Nat):Int).toNat*9) 9=some (ah a))(hw:¬a.wv>0)(lO:w.length<=1000000)(ui:Rg w<|jK l)(hz:iv l a.rv w 0= -1)(H:cP B q (hI l w G i (w.length) rs)<|J (Mc l G rs []) 400):cP B q (kU l w G i rs)<|J (Mc l G rs []) 400:=vC mc H (.st 1<|.rg<|.fk (.en<|.st 6<|.rg<|.go 1<|.bV<|.bW (ah a)<|.go 3<|.en<|.st 2<|.rg<|.go 2<|.fk .no<|.en<|.st 3<|.rg<|.go 2<|.cg (i6<|-1) wG (wQ l a)<|.go 1<|.en<|.st 2<|.rg<|.go 1<|.fk (.en<|.st 2<|.rn (gK l w G i (w.length) rs) (Mc l G rs []) (gK l w G i (w.length) rs) (Mc l G rs []) 401 400 .no) .no) .no)<|ay ((i:Int)<(l.length:Int)) (fun _=>(And.intro (show(0:Int)<=(i:Int) by omega)<|And.intro (show(i:Int)<((l.length:Nat):Int) by omega)<|And.intro (bj (l.map ah).flatten)<|And.intro (hx)<|ay (a.wv>0) (fun h=>show False by omega) fun _=>(Jg (L:=[eD,eE,cS]) (by as_aux_lemma=>kernel_rfl) (l:=l) (a:=a) (w:=w) (z:=(-1)) lO ui hz<|ay ((-1:Int)<0) (fun _=>(show fT 270 401 400 (gK l w G i (w.length) rs) (Mc l G rs []) (gK l w G i (w.length) rs) (Mc l G rs []) (hI l w G i (w.length) rs) (J (Mc l G rs []) 400) from gh<|AK hb (by show 0<=1000000;omega) hG (by omega) (by omega) fun r hr ht=>⟨⟨rfl,(show(1:Nat)<200 by omega),(bf.ptr<|ra hr).z⟩,⟨rfl,(show(3:Nat)<200 by omega),dZ ht⟩,⟨rfl,(show(4:Nat)<200 by omega),(bf.slice<|rk hr).z⟩,⟨rfl,(show(17:Nat)<200 by omega),dZ ht⟩,⟨rfl,(show(18:Nat)<200 by omega),vi⟩,⟨rfl,(show(19:Nat)<200 by omega),vi⟩,⟨rfl,(show(5:Nat)<200 by omega),vi⟩,⟨rfl,(show(7:Nat)<200 by omega),vi⟩,trivial⟩)) (fun h=>show False by omega)))) (fun h=>show False by omega)
theorem b3(mc:Mt [eD,eE,cS] B)(hb:Bd rs)(hG:G<=61)(hl:l.length<=1000000)(hi:i<l.length)(hx:fj FU (nm (l.map ah).flatten) (0+((i:Nat):Int).toNat*9) 9=some (ah a))(hw:¬a.wv>0)(lO:w.length<=1000000)(ui:Rg w<|jK l)(hz:iv l a.rv w 0=(g:Int))(H:cP B q (hI l w G i g rs)<|J (Mc l G rs []) 400):cP B q (kU l w G i rs)<|J (Mc l G rs []) 400:=vC mc H (.st 1<|.rg<|.fk (.en<|.st 6<|.rg<|.go 1<|.bV<|.bW (ah a)<|.go 3<|.en<|.st 2<|.rg<|.go 2<|.fk .no<|.en<|.st 3<|.rg<|.go 2<|.cg (i6 (g:Int)) wG (wQ l a)<|.go 1<|.en<|.st 2<|.rg<|.go 1<|.fk .no<|.en<|.st 2<|.rn (gK l w G i g rs) (Mc l G rs []) (gK l w G i g rs) (Mc l G rs []) 401 400 .no) .no)<|ay ((i:Int)<(l.length:Int)) (fun _=>(And.intro (show(0:Int)<=(i:Int) by omega)<|And.intro (show(i:Int)<((l.length:Nat):Int) by omega)<|And.intro (bj (l.map ah).flatten)<|And.intro (hx)<|ay (a.wv>0) (fun h=>show False by omega) fun _=>(Jg (L:=[eD,eE,cS]) (by as_aux_lemma=>kernel_rfl) (l:=l) (a:=a) (w:=w) (z:=(g:Int)) lO ui hz<|ay ((g:Int)<0) (fun h=>show False by omega) fun _=>(show fT 270 401 400 (gK l w G i g rs) (Mc l G rs []) (gK l w G i g rs) (Mc l G rs []) (hI l w G i g rs) (J (Mc l G rs []) 400) from gh<|AK hb (by show 0<=1000000;omega) hG (by omega) (by omega) fun r hr ht=>⟨⟨rfl,(show(1:Nat)<200 by omega),(bf.ptr<|ra hr).z⟩,⟨rfl,(show(3:Nat)<200 by omega),dZ ht⟩,⟨rfl,(show(4:Nat)<200 by omega),(bf.slice<|rk hr).z⟩,⟨rfl,(show(17:Nat)<200 by omega),dZ ht⟩,⟨rfl,(show(18:Nat)<200 by omega),vi⟩,⟨rfl,(show(19:Nat)<200 by omega),vi⟩,⟨rfl,(show(5:Nat)<200 by omega),vi⟩,⟨rfl,(show(7:Nat)<200 by omega),vi⟩,trivial⟩)))) (fun h=>show False by omega)
theorem o1(mc:Mt [eD,eE,cS] B)(hb:Bd rs)(hG:G<=61)(hp:ro rs g=p)(hg:g<61)(H:cP B q (BW l w G i g rs p)<|J (Mo l G rs g p []) 400):cP B q (hI l w G i g rs)<|J (Mc l G rs []) 400:=vC mc H (.rn (gK l w G i g rs) (Mc l G rs []) (F0 l w G i g rs p) (Mo l G rs g p []) 400 400 .no) (show fT 270 400 400 (gK l w G i g rs) (Mc l G rs []) (F0 l w G i g rs p) (Mo l G rs g p []) (BW l w G i g rs p) (J (Mo l G rs g p []) 400) from gh<|JH hp hb (by show 0<=1000000;omega) hG hg (by omega) (by omega) fun r hr ht=>⟨⟨rfl,(show(1:Nat)<200 by omega),(bf.ptr<|rk hr).z⟩,⟨rfl,(show(3:Nat)<200 by omega),dZ ht⟩,⟨rfl,(show(4:Nat)<200 by omega),(bf.slice<|rk hr).z⟩,⟨rfl,(show(17:Nat)<200 by omega),dZ ht⟩,⟨rfl,(show(18:Nat)<200 by omega),vi⟩,⟨rfl,(show(19:Nat)<200 by omega),vi⟩,⟨rfl,(show(5:Nat)<200 by omega),vi⟩,⟨rfl,(show(7:Nat)<200 by omega),vi⟩,trivial⟩)
theorem c1(mc:Mt [eD,eE,cS] B)(hb:Bd rs)(hG:G<=61)(hl:l.length<=1000000)(hi:i<l.length)(zr:g<G)(gx:([]:List Int).length<=100000)(hn:eQ.length=rs.length)(aC:ro eQ g=[((i:Nat):Int)])(pH:∀j,j≠g->ro eQ j=ro rs j)(H:cP B q (kU l w G (i+1)<|eQ)<|J (Mc l G (eQ) []) 400):cP B q (BW l w G i g rs<|[])<|J (Mo l G rs g ([]) []) 400:=vC mc H (.rg<|.go 4<|.ix<|.ld [.slice none 0<|.known 0]<|.go 3<|.ix<|.lL (fe G<|bB (bB (dC rs) g<|cB 272<|[]) g<|.slice (some (401,0)) ([((i:Nat):Int)]).length<|.aU ([((i:Nat):Int)]).length 1)<|.en<|.st 1<|.rg<|.vl (.int .i64 ((i+1:Nat):Int))<|.go 1<|.en<|.st 1<|.rn (ki l w G (i+1) rs) (au++([(270,some<|ak [aq ah l]),(271,some<|fe G<|bB (bB (dC rs) g<|cB 272<|[]) g<|.slice (some (401,0)) ([((i:Nat):Int)]).length<|.aU ([((i:Nat):Int)]).length 1),(401,some<|aD aw<|[((i:Nat):Int)])]++eO (bB (iM rs) g none))) (ki l w G (i+1)<|eQ) (Mc l G (eQ) []) 402 400 .no)<|And.intro (show(0:Int)<=((g:Nat):Int) by omega)<|And.intro (show((g:Nat):Int)<((G:Nat):Int) by omega)<|And.intro (xT (G:=G) (g:=g) (f:=(bB (dC rs) g<|cB 272<|[])) (by omega) zr iV)<|And.intro (show(0:Int)<=((g:Nat):Int) by omega)<|And.intro (show((g:Nat):Int)<((G:Nat):Int) by omega)<|And.intro (show gA (some<|fe G<|bB (dC rs) g<|cB 272<|[]) (((g:Nat):Int).toNat*1) [.slice (some (401,0)) ([((i:Nat):Int)]).length<|.aU ([((i:Nat):Int)]).length 1]=some (fe G<|bB (bB (dC rs) g<|cB 272<|[]) g<|.slice (some (401,0)) ([((i:Nat):Int)]).length<|.aU ([((i:Nat):Int)]).length 1) from Kf (by omega) zr rfl)<|And.intro (wN ((i:Int)+1)<|i+1) (show fT 270 402 400 (ki l w G (i+1) rs) (au++([(270,some<|ak [aq ah l]),(271,some<|fe G<|bB (bB (dC rs) g<|cB 272<|[]) g<|.slice (some (401,0)) ([((i:Nat):Int)]).length<|.aU ([((i:Nat):Int)]).length 1),(401,some<|aD aw<|[((i:Nat):Int)])]++eO (bB (iM rs) g none))) (ki l w G (i+1)<|eQ) (Mc l G (eQ) []) (kU l w G (i+1)<|eQ) (J (Mc l G (eQ) []) 400) from gh<|Kg (p:=[]) (r':=[((i:Nat):Int)]) (by simp) (by simp only[List.length_append,List.length_cons,List.length_nil] at gx ⊢;omega) hn aC pH hb hG (by omega) ⟨by omega,by omega⟩ (by omega) fun r hr ht=>⟨⟨rfl,(show(1:Nat)<200 by omega),(bf.ptr<|rk hr).z⟩,⟨rfl,(show(3:Nat)<200 by omega),dZ ht⟩,⟨rfl,(show(4:Nat)<200 by omega),(bf.slice<|rk hr).z⟩,⟨rfl,(show(17:Nat)<200 by omega),dZ ht⟩,⟨rfl,(show(18:Nat)<200 by omega),vi⟩,⟨rfl,(show(19:Nat)<200 by omega),vi⟩,trivial⟩)
theorem c2(mc:Mt [eD,eE,cS] B)(hb:Bd rs)(hG:G<=61)(hl:l.length<=1000000)(hi:i<l.length)(zr:g<G)(gx:(y::p':List Int).length<=100000)(hn:eQ.length=rs.length)(aC:ro eQ g=(y::p')++[((i:Nat):Int)])(pH:∀j,j≠g->ro eQ j=ro rs j)(H:cP B q (kU l w G (i+1)<|eQ)<|J (Mc l G (eQ) []) 400):cP B q (BW l w G i g rs<|y::p')<|J (Mo l G rs g (y::p') []) 400:=vC mc H (.rg<|.go 4<|.ix<|.ld [.slice (some (272,0)) (y::p').length<|.aU (y::p').length 1]<|.go 2<|.ap Int aw (y::p') ((i:Nat):Int)<|.ix<|.lL (fe G<|bB (bB (dC rs) g<|cB 272<|y::p') g<|.slice (some (401,0)) ((y::p')++[((i:Nat):Int)]).length<|.aU ((y::p')++[((i:Nat):Int)]).length 1)<|.en<|.st 1<|.rg<|.vl (.int .i64 ((i+1:Nat):Int))<|.go 1<|.en<|.st 1<|.rn (ki l w G (i+1) rs) (au++([(270,some<|ak [aq ah l]),(271,some<|fe G<|bB (bB (dC rs) g<|cB 272<|y::p') g<|.slice (some (401,0)) ((y::p')++[((i:Nat):Int)]).length<|.aU ((y::p')++[((i:Nat):Int)]).length 1),(401,some<|aD aw<|(y::p')++[((i:Nat):Int)])]++eO (bB (iM rs) g none))) (ki l w G (i+1)<|eQ) (Mc l G (eQ) []) 402 400 .no)<|And.intro (show(0:Int)<=((g:Nat):Int) by omega)<|And.intro (show((g:Nat):Int)<((G:Nat):Int) by omega)<|And.intro (xT (G:=G) (g:=g) (f:=(bB (dC rs) g<|cB 272<|y::p')) (by omega) zr iV)<|FO aw (y::p') ((i:Nat):Int) (K:=1) (ue:=8) (fun x=>⟨rfl,rfl⟩) (by simp only[List.length_cons] at gx ⊢;unfold room;omega) (by simp only[List.length_cons] at gx ⊢;unfold top;omega)<|And.intro (show(0:Int)<=((g:Nat):Int) by omega)<|And.intro (show((g:Nat):Int)<((G:Nat):Int) by omega)<|And.intro (show gA (some<|fe G<|bB (dC rs) g<|cB 272<|y::p') (((g:Nat):Int).toNat*1) [.slice (some (401,0)) ((y::p')++[((i:Nat):Int)]).length<|.aU ((y::p')++[((i:Nat):Int)]).length 1]=some (fe G<|bB (bB (dC rs) g<|cB 272<|y::p') g<|.slice (some (401,0)) ((y::p')++[((i:Nat):Int)]).length<|.aU ((y::p')++[((i:Nat):Int)]).length 1) from Kf (by omega) zr rfl)<|And.intro (wN ((i:Int)+1)<|i+1) (show fT 270 402 400 (ki l w G (i+1) rs) (au++([(270,some<|ak [aq ah l]),(271,some<|fe G<|bB (bB (dC rs) g<|cB 272<|y::p') g<|.slice (some (401,0)) ((y::p')++[((i:Nat):Int)]).length<|.aU ((y::p')++[((i:Nat):Int)]).length 1),(401,some<|aD aw<|(y::p')++[((i:Nat):Int)])]++eO (bB (iM rs) g none))) (ki l w G (i+1)<|eQ) (Mc l G (eQ) []) (kU l w G (i+1)<|eQ) (J (Mc l G (eQ) []) 400) from gh<|Kg (p:=y::p') (r':=(y::p')++[((i:Nat):Int)]) (by simp) (by simp only[List.length_append,List.length_cons,List.length_nil] at gx ⊢;omega) hn aC pH hb hG (by omega) ⟨by omega,by omega⟩ (by omega) fun r hr ht=>⟨⟨rfl,(show(1:Nat)<200 by omega),(bf.ptr<|rk hr).z⟩,⟨rfl,(show(3:Nat)<200 by omega),dZ ht⟩,⟨rfl,(show(4:Nat)<200 by omega),(bf.slice<|rk hr).z⟩,⟨rfl,(show(17:Nat)<200 by omega),dZ ht⟩,⟨rfl,(show(18:Nat)<200 by omega),vi⟩,⟨rfl,(show(19:Nat)<200 by omega),vi⟩,trivial⟩)
theorem e1(mc:Mt [eD,eE,cS] B)(hb:Bd rs)(hG:G<=61)(hi:l.length<=i)(H:cP B q (dV l w G (0) rs<|[])<|J (Mc l G rs<|[]) 400):cP B q (kU l w G i rs)<|J (Mc l G rs []) 400:=vC mc H (.st 1<|.rg<|.fk .no<|.en<|.st 10<|.rn [(1,.ptr<|some (270,0)),(3,aq aw w),(8,cB 273 []),(45,.slice (some (271,0)) G<|.known G),(46,.int .i64 (G:Int)),(47,.int .i64 ((0:Nat):Int))] (Mc l G rs []) (gd l w G (0) rs<|[]) (Mc l G rs<|[]) 400 400 .no)<|ay ((i:Int)<(l.length:Int)) (fun h=>show False by omega) fun _=>(show fT 270 400 400 [(1,.ptr<|some (270,0)),(3,aq aw w),(8,cB 273 []),(45,.slice (some (271,0)) G<|.known G),(46,.int .i64 (G:Int)),(47,.int .i64 ((0:Nat):Int))] (Mc l G rs []) (gd l w G (0) rs<|[]) (Mc l G rs<|[]) (dV l w G (0) rs<|[]) (J (Mc l G rs<|[]) 400) from gh<|AK hb (by show 0<=1000000;omega) hG (by omega) (by omega) fun r hr ht=>⟨⟨rfl,(show(1:Nat)<200 by omega),(bf.ptr<|ra hr).z⟩,⟨rfl,(show(3:Nat)<200 by omega),dZ ht⟩,⟨rfl,(show(8:Nat)<200 by omega),ia (n:=273) (m:=273) (l:=[]) fun _=>rk hr⟩,⟨rfl,(show(45:Nat)<200 by omega),(bf.slice<|rk hr).z⟩,⟨rfl,(show(46:Nat)<200 by omega),vi⟩,⟨rfl,(show(47:Nat)<200 by omega),vi⟩,trivial⟩)
theorem o2(mc:Mt [eD,eE,cS] B)(hb:Bd rs)(hG:G<=61)(ho:out.length<=1000000)(hp:ro rs g=p)(hg:g<61)(H:cP B q (gg l w G k g rs p out)<|J (Mo l G rs g p out) 400):cP B q (dV l w G k rs out)<|J (Mc l G rs out) 400:=vC mc H (.rn (gd l w G k rs out) (Mc l G rs out) (gf l w G k g rs p out) (Mo l G rs g p out) 400 400 .no) (show fT 270 400 400 (gd l w G k rs out) (Mc l G rs out) (gf l w G k g rs p out) (Mo l G rs g p out) (gg l w G k g rs p out) (J (Mo l G rs g p out) 400) from gh<|JH hp hb ho hG hg (by omega) (by omega) fun r hr ht=>⟨⟨rfl,(show(1:Nat)<200 by omega),(bf.ptr<|rk hr).z⟩,⟨rfl,(show(3:Nat)<200 by omega),dZ ht⟩,⟨rfl,(show(8:Nat)<200 by omega),ia (n:=273) (m:=273) (l:=out) fun _=>rk hr⟩,⟨rfl,(show(45:Nat)<200 by omega),(bf.slice<|rk hr).z⟩,⟨rfl,(show(46:Nat)<200 by omega),vi⟩,⟨rfl,(show(47:Nat)<200 by omega),vi⟩,trivial⟩)
theorem o3(mc:Mt [eD,eE,cS] B)(hb:Bd rs)(hG:G<=61)(ho:out.length<=1000000)(hp:ro rs g=p)(hg:g<61)(H:cP B q (dV l w G k rs out)<|J (Mc l G rs out) 400):cP B q (gg l w G k g rs p out)<|J (Mo l G rs g p out) 400:=vC mc H (.rn (gf l w G k g rs p out) (Mo l G rs g p out) (gd l w G k rs out) (Mc l G rs out) 400 400 .no) (show fT 270 400 400 (gf l w G k g rs p out) (Mo l G rs g p out) (gd l w G k rs out) (Mc l G rs out) (dV l w G k rs out) (J (Mc l G rs out) 400) from gh<|Qa hp hb ho hG hg (by omega) (by omega) fun r hr ht=>⟨⟨rfl,(show(1:Nat)<200 by omega),(bf.ptr<|rk hr).z⟩,⟨rfl,(show(3:Nat)<200 by omega),dZ ht⟩,⟨rfl,(show(8:Nat)<200 by omega),ia (n:=273) (m:=273) (l:=out) fun _=>rk hr⟩,⟨rfl,(show(45:Nat)<200 by omega),(bf.slice<|rk hr).z⟩,⟨rfl,(show(46:Nat)<200 by omega),vi⟩,⟨rfl,(show(47:Nat)<200 by omega),vi⟩,trivial⟩)
theorem d0(mc:Mt [eD,eE,cS] B)(hb:Bd rs)(hG:G<=61)(hk:k<G)(gx:p.length<=1000000)(ho:out.length<=1000000)(h0:k=0)(H:cP B q (g9 l w G k (k) rs p out)<|J (Mo l G rs (k) p out) 400):cP B q (gg l w G k (k) rs p out)<|J (Mo l G rs (k) p out) 400:=vC mc H (.st 1<|.rg<|.fk (.en<|.st 6<|.rg<|.go 1<|.ix<|.ld [cB 272 p]<|.go 2<|.en<|.st 2<|.rg<|.go 1<|.fk .no<|.en<|.st 2<|.rn (kh l w G k (k) rs p out) (Mo l G rs (k) p out) (kh l w G k (k) rs p out) (Mo l G rs (k) p out) 400 400 .no) .no)<|ay ((k:Int)<(G:Int)) (fun _=>(And.intro (show(0:Int)<=((k:Nat):Int) by omega)<|And.intro (show((k:Nat):Int)<((G:Nat):Int) by omega)<|And.intro (xT (G:=G) (g:=k) (f:=bB (dC rs) k<|cB 272 p) (by omega) hk iV)<|ay ((k:Int)>0) (fun h=>show False by omega) fun _=>(show fT 270 400 400 (kh l w G k (k) rs p out) (Mo l G rs (k) p out) (kh l w G k (k) rs p out) (Mo l G rs (k) p out) (g9 l w G k (k) rs p out) (J (Mo l G rs (k) p out) 400) from gh<|Dx (out:=out) gx hb (by first|exact ho|(show 0<=1000000;omega)) hG (by omega) (by omega) fun r hr ht=>⟨⟨rfl,(show(1:Nat)<200 by omega),(bf.ptr<|ra hr).z⟩,⟨rfl,(show(3:Nat)<200 by omega),dZ ht⟩,⟨rfl,(show(8:Nat)<200 by omega),ia (n:=273) (m:=273) (l:=out) fun _=>rk hr⟩,⟨rfl,(show(10:Nat)<200 by omega),ia fun _=>rk hr⟩,⟨rfl,(show(45:Nat)<200 by omega),(bf.slice<|rk hr).z⟩,⟨rfl,(show(46:Nat)<200 by omega),vi⟩,⟨rfl,(show(47:Nat)<200 by omega),vi⟩,trivial⟩))) (fun h=>show False by omega)
theorem d1(mc:Mt [eD,eE,cS] B)(hb:Bd rs)(hG:G<=61)(hk:k<G)(gx:p.length<=1000000)(lO:w.length<=1000000)(h0:0<k)(UP:k<=w.length)(H:cP B q (g9 l w G k (k) rs p<|[I w<|k - 1])<|J (Mo l G rs (k) p<|[I w<|k - 1]) 400):cP B q (gg l w G k (k) rs p<|[])<|J (Mo l G rs (k) p<|[]) 400:=vC mc H (.st 1<|.rg<|.fk (.en<|.st 6<|.rg<|.go 1<|.ix<|.ld [cB 272 p]<|.go 2<|.en<|.st 2<|.rg<|.go 1<|.fk (.en<|.st 1<|.rg<|.go 3<|.vl (.int .i64 ((k - 1:Nat):Int))<|.bV<|.bW ([i6<|I w<|k - 1])<|.go 3<|.en<|.rn [(1,.ptr<|some (270,0)),(3,aq aw w),(8,.slice (some (401,0)) ([I w<|k - 1]).length<|.aU ([I w<|k - 1]).length 1),(10,cB 272 p),(45,.slice (some (271,0)) G<|.known G),(46,.int .i64 (G:Int)),(47,.int .i64 (k:Int))] (au++([(270,some<|ak [aq ah l]),(271,some<|fe G<|bB (dC rs) k<|cB 272 p),(272,iu p),(401,some<|aD aw<|[I w<|k - 1])]++eO (bB (iM rs) k none))) (kh l w G k (k) rs p<|[I w<|k - 1]) (Mo l G rs (k) p<|[I w<|k - 1]) 402 400 .no) .no) .no)<|ay ((k:Int)<(G:Int)) (fun _=>(And.intro (show(0:Int)<=((k:Nat):Int) by omega)<|And.intro (show((k:Nat):Int)<((G:Nat):Int) by omega)<|And.intro (xT (G:=G) (g:=k) (f:=bB (dC rs) k<|cB 272 p) (by omega) hk iV)<|ay ((k:Int)>0) (fun _=>(And.intro (wN ((k:Int) - 1)<|k - 1)<|And.intro (show(0:Int)<=((k - 1:Nat):Int) by omega)<|And.intro (show((k - 1:Nat):Int)<((w.length:Nat):Int) by omega)<|And.intro (bj (w.map aw).flatten)<|And.intro (gF (r:=w) (i:=k - 1)<|by omega) (show fT 270 402 400 [(1,.ptr<|some (270,0)),(3,aq aw w),(8,.slice (some (401,0)) ([I w<|k - 1]).length<|.aU ([I w<|k - 1]).length 1),(10,cB 272 p),(45,.slice (some (271,0)) G<|.known G),(46,.int .i64 (G:Int)),(47,.int .i64 (k:Int))] (au++([(270,some<|ak [aq ah l]),(271,some<|fe G<|bB (dC rs) k<|cB 272 p),(272,iu p),(401,some<|aD aw<|[I w<|k - 1])]++eO (bB (iM rs) k none))) (kh l w G k (k) rs p<|[I w<|k - 1]) (Mo l G rs (k) p<|[I w<|k - 1]) (g9 l w G k (k) rs p<|[I w<|k - 1]) (J (Mo l G rs (k) p<|[I w<|k - 1]) 400) from gh<|A3 (r':=[I w<|k - 1]) (by simp) (by simp only[List.length_append,List.length_cons,List.length_nil] at*;omega) gx hb hG (by omega) ⟨by omega,by omega⟩ (by omega) fun r hr ht=>⟨⟨rfl,(show(1:Nat)<200 by omega),(bf.ptr<|rk hr).z⟩,⟨rfl,(show(3:Nat)<200 by omega),dZ ht⟩,⟨rfl,(show(8:Nat)<200 by omega),by rw[xn<|by simp];exact(bf.slice<|ra hr).z⟩,⟨rfl,(show(10:Nat)<200 by omega),ia fun _=>rk hr⟩,⟨rfl,(show(45:Nat)<200 by omega),(bf.slice<|rk hr).z⟩,⟨rfl,(show(46:Nat)<200 by omega),vi⟩,⟨rfl,(show(47:Nat)<200 by omega),vi⟩,trivial⟩))) (fun h=>show False by omega))) (fun h=>show False by omega)
theorem d2(mc:Mt [eD,eE,cS] B)(hb:Bd rs)(hG:G<=61)(hk:k<G)(gx:p.length<=1000000)(lO:w.length<=1000000)(h0:0<k)(UP:k<=w.length)(tP:(z::bH:List Int).length<=100000)(H:cP B q (g9 l w G k (k) rs p<|(z::bH)++[I w<|k - 1])<|J (Mo l G rs (k) p<|(z::bH)++[I w<|k - 1]) 400):cP B q (gg l w G k (k) rs p<|z::bH)<|J (Mo l G rs (k) p<|z::bH) 400:=vC mc H (.st 1<|.rg<|.fk (.en<|.st 6<|.rg<|.go 1<|.ix<|.ld [cB 272 p]<|.go 2<|.en<|.st 2<|.rg<|.go 1<|.fk (.en<|.st 1<|.rg<|.go 3<|.vl (.int .i64 ((k - 1:Nat):Int))<|.bV<|.bW ([i6<|I w<|k - 1])<|.go 1<|.ap Int aw (z::bH) (I w<|k - 1)<|.go 1<|.en<|.rn [(1,.ptr<|some (270,0)),(3,aq aw w),(8,.slice (some (401,0)) ((z::bH)++[I w<|k - 1]).length<|.aU ((z::bH)++[I w<|k - 1]).length 1),(10,cB 272 p),(45,.slice (some (271,0)) G<|.known G),(46,.int .i64 (G:Int)),(47,.int .i64 (k:Int))] (au++([(270,some<|ak [aq ah l]),(271,some<|fe G<|bB (dC rs) k<|cB 272 p),(272,iu p),(401,some<|aD aw<|(z::bH)++[I w<|k - 1])]++eO (bB (iM rs) k none))) (kh l w G k (k) rs p<|(z::bH)++[I w<|k - 1]) (Mo l G rs (k) p<|(z::bH)++[I w<|k - 1]) 402 400 .no) .no) .no)<|ay ((k:Int)<(G:Int)) (fun _=>(And.intro (show(0:Int)<=((k:Nat):Int) by omega)<|And.intro (show((k:Nat):Int)<((G:Nat):Int) by omega)<|And.intro (xT (G:=G) (g:=k) (f:=bB (dC rs) k<|cB 272 p) (by omega) hk iV)<|ay ((k:Int)>0) (fun _=>(And.intro (wN ((k:Int) - 1)<|k - 1)<|And.intro (show(0:Int)<=((k - 1:Nat):Int) by omega)<|And.intro (show((k - 1:Nat):Int)<((w.length:Nat):Int) by omega)<|And.intro (bj (w.map aw).flatten)<|And.intro (gF (r:=w) (i:=k - 1)<|by omega)<|FO aw (z::bH) (I w<|k - 1) (K:=1) (ue:=8) (fun x=>⟨rfl,rfl⟩) (by simp only[List.length_cons] at tP ⊢;unfold room;omega) (by simp only[List.length_cons] at tP ⊢;unfold top;omega) (show fT 270 402 400 [(1,.ptr<|some (270,0)),(3,aq aw w),(8,.slice (some (401,0)) ((z::bH)++[I w<|k - 1]).length<|.aU ((z::bH)++[I w<|k - 1]).length 1),(10,cB 272 p),(45,.slice (some (271,0)) G<|.known G),(46,.int .i64 (G:Int)),(47,.int .i64 (k:Int))] (au++([(270,some<|ak [aq ah l]),(271,some<|fe G<|bB (dC rs) k<|cB 272 p),(272,iu p),(401,some<|aD aw<|(z::bH)++[I w<|k - 1])]++eO (bB (iM rs) k none))) (kh l w G k (k) rs p<|(z::bH)++[I w<|k - 1]) (Mo l G rs (k) p<|(z::bH)++[I w<|k - 1]) (g9 l w G k (k) rs p<|(z::bH)++[I w<|k - 1]) (J (Mo l G rs (k) p<|(z::bH)++[I w<|k - 1]) 400) from gh<|A3 (r':=(z::bH)++[I w<|k - 1]) (by simp) (by simp only[List.length_append,List.length_cons,List.length_nil] at*;omega) gx hb hG (by omega) ⟨by omega,by omega⟩ (by omega) fun r hr ht=>⟨⟨rfl,(show(1:Nat)<200 by omega),(bf.ptr<|rk hr).z⟩,⟨rfl,(show(3:Nat)<200 by omega),dZ ht⟩,⟨rfl,(show(8:Nat)<200 by omega),by rw[xn<|by simp];exact(bf.slice<|ra hr).z⟩,⟨rfl,(show(10:Nat)<200 by omega),ia fun _=>rk hr⟩,⟨rfl,(show(45:Nat)<200 by omega),(bf.slice<|rk hr).z⟩,⟨rfl,(show(46:Nat)<200 by omega),vi⟩,⟨rfl,(show(47:Nat)<200 by omega),vi⟩,trivial⟩))) (fun h=>show False by omega))) (fun h=>show False by omega)
theorem UR(mc:Mt [eD,eE,cS] B)(hb:Bd rs)(hG:G<=61)(hk:k<G)(H:cP B q (gg l w G (k+1) (k) rs ([])<|[])<|J (Mo l G rs (k) ([])<|[]) 400):cP B q (g9 l w G k (k) rs ([])<|[])<|J (Mo l G rs (k) ([])<|[]) 400:=vC mc H (.st 1<|.rg<|.go 2<|.cg (.tuple []) nG (nQ<|aq ah l)<|.en<|.st 2<|.rg<|.vl (.int .i64 ((k+1:Nat):Int))<|.go 1<|.en<|.st 1<|.rn (gf l w G (k+1) (k) rs ([])<|[]) (Mo l G rs (k) ([])<|[]) (gf l w G (k+1) (k) rs ([])<|[]) (Mo l G rs (k) ([])<|[]) 400 400 .no)<|xf (L:=[eD,eE,cS]) (f:=19) (R:=iJ) (is:=[]) (by as_aux_lemma=>kernel_rfl) (hQ.bc iJ.bc iJ.two) (g:=20) (c:=aq ah l) (aK.2<|bj _)<|And.intro (wN ((k:Int)+1)<|k+1) (show fT 270 400 400 (gf l w G (k+1) (k) rs ([])<|[]) (Mo l G rs (k) ([])<|[]) (gf l w G (k+1) (k) rs ([])<|[]) (Mo l G rs (k) ([])<|[]) (gg l w G (k+1) (k) rs ([])<|[]) (J (Mo l G rs (k) ([])<|[]) 400) from gh<|Dx (p:=[]) (out:=[]) (by show 0<=1000000;omega) hb (by first|omega|(show 0<=1000000;omega)) hG (by omega) (by omega) fun r hr ht=>⟨⟨rfl,(show(1:Nat)<200 by omega),(bf.ptr<|ra hr).z⟩,⟨rfl,(show(3:Nat)<200 by omega),dZ ht⟩,⟨rfl,(show(8:Nat)<200 by omega),ia (n:=273) (m:=273) (l:=[]) fun _=>rk hr⟩,⟨rfl,(show(45:Nat)<200 by omega),(bf.slice<|rk hr).z⟩,⟨rfl,(show(46:Nat)<200 by omega),vi⟩,⟨rfl,(show(47:Nat)<200 by omega),vi⟩,trivial⟩)
theorem US(mc:Mt [eD,eE,cS] B)(hb:Bd rs)(hG:G<=61)(hk:k<G)(tP:(z::bH:List Int).length<=400000)(H:cP B q (gg l w G (k+1) (k) rs ([])<|z::bH)<|J (Mo l G rs (k) ([])<|z::bH) 400):cP B q (g9 l w G k (k) rs ([])<|z::bH)<|J (Mo l G rs (k) ([])<|z::bH) 400:=vC mc H (.st 1<|.rg<|.go 2<|.cg (.tuple []) nG (nQ<|aq ah l)<|.en<|.rg<|.go 2<|.px (.slice (some (273,0)) (z::bH).length<|.aU (z::bH).length 1) id (fun _=>True)<|.go 1<|.en<|.st 1<|.rg<|.vl (.int .i64 ((k+1:Nat):Int))<|.go 1<|.en<|.st 1<|.rn (gf l w G (k+1) (k) rs ([])<|z::bH) (Mo l G rs (k) ([])<|z::bH) (gf l w G (k+1) (k) rs ([])<|z::bH) (Mo l G rs (k) ([])<|z::bH) 400 400 .no)<|xf (L:=[eD,eE,cS]) (f:=19) (R:=iJ) (is:=[]) (by as_aux_lemma=>kernel_rfl) (hQ.bc iJ.bc iJ.two) (g:=20) (c:=aq ah l) (aK.2<|bj _)<|And.intro (S3 (n:=273) (k:=(z::bH).length))<|And.intro trivial<|And.intro (wN ((k:Int)+1)<|k+1) (show fT 270 400 400 (gf l w G (k+1) (k) rs ([])<|z::bH) (Mo l G rs (k) ([])<|z::bH) (gf l w G (k+1) (k) rs ([])<|z::bH) (Mo l G rs (k) ([])<|z::bH) (gg l w G (k+1) (k) rs ([])<|z::bH) (J (Mo l G rs (k) ([])<|z::bH) 400) from gh<|Dx (p:=[]) (out:=z::bH) (by show 0<=1000000;omega) hb (by first|omega|(show 0<=1000000;omega)) hG (by omega) (by omega) fun r hr ht=>⟨⟨rfl,(show(1:Nat)<200 by omega),(bf.ptr<|ra hr).z⟩,⟨rfl,(show(3:Nat)<200 by omega),dZ ht⟩,⟨rfl,(show(8:Nat)<200 by omega),ia (n:=273) (m:=273) (l:=z::bH) fun _=>rk hr⟩,⟨rfl,(show(45:Nat)<200 by omega),(bf.slice<|rk hr).z⟩,⟨rfl,(show(46:Nat)<200 by omega),vi⟩,⟨rfl,(show(47:Nat)<200 by omega),vi⟩,trivial⟩)
theorem t10(mc:Mt [eD,eE,cS] B)(hb:Bd rs)(hG:G<=61)(hk:k<G)(gx:(y::p':List Int).length<=1000000)(ha:A0 l)(F1:Rg (y::p')<|jK l)(jG:bI (jJ At.fr l) (y::p') 0 (y::p').length<|y::p')(H:cP B q (gg l w G (k+1) (k) rs (y::p')<|y::p')<|J (Mo l G rs (k) (y::p')<|y::p') 400):cP B q (g9 l w G k (k) rs (y::p')<|[])<|J (Mo l G rs (k) (y::p')<|[]) 400:=vC mc H (.st 1<|.rg<|.go 2<|.cg (.tuple []) (sG 272 270<|y::p') (sQ 272 270 (y::p')<|aq ah l)<|.en<|.rg<|.go 2<|.px (.slice (some (400,0)) (y::p').length<|.aU (y::p').length 1) (LI 272<|y::p') (LH 272 400<|y::p')<|.go 1<|.en<|.st 1<|.rg<|.vl (.int .i64 ((k+1:Nat):Int))<|.go 1<|.en<|.st 1<|.rn [(1,.ptr<|some (270,0)),(3,aq aw w),(8,.slice (some (400,0)) (y::p').length<|.aU (y::p').length 1),(45,.slice (some (271,0)) G<|.known G),(46,.int .i64 (G:Int)),(47,.int .i64 ((k+1:Nat):Int))] (au++([(270,some<|ak [aq ah l]),(271,some<|fe G<|bB (dC rs) k<|cB 272<|y::p'),(272,iu<|y::p'),(400,some<|aD aw<|y::p')]++eO (bB (iM rs) k none))) (gf l w G (k+1) (k) rs (y::p')<|y::p') (Mo l G rs (k) (y::p')<|y::p') 401 400 .no)<|Dc (L:=[eD,eE,cS]) (by as_aux_lemma=>kernel_rfl) (m:=272) (b:=270) (g:=20) (k:=(y::p').length) (cap:=.aU (y::p').length 1) (r:=y::p') (r':=y::p') (c:=aq ah l) rfl (by as_aux_lemma=>kernel_rfl) (by decide) (by as_aux_lemma=>kernel_rfl) rfl (aK.2<|bj _) ⟨(y::p').length,.aU (y::p').length 1,20,aq ah l,jK l,jJ At.fr l,y::p',y::p',rfl,rfl,rfl,rfl,⟨l,rfl,.inr ⟨rfl,rfl,rfl,ha⟩⟩,F1,rfl,gx,jG⟩ gx rfl<|And.intro (S1 (m:=272) (nx:=400) (k:=(y::p').length) (cap:=.aU (y::p').length 1) (L:=y::p') rfl (by simp) gx<|by omega)<|And.intro (show true=true/\some (aD aw<|y::p')=some (aD aw<|y::p')/\(400:Nat)=400 from⟨rfl,rfl,rfl⟩)<|And.intro (wN ((k:Int)+1)<|k+1) (show fT 270 401 400 [(1,.ptr<|some (270,0)),(3,aq aw w),(8,.slice (some (400,0)) (y::p').length<|.aU (y::p').length 1),(45,.slice (some (271,0)) G<|.known G),(46,.int .i64 (G:Int)),(47,.int .i64 ((k+1:Nat):Int))] (au++([(270,some<|ak [aq ah l]),(271,some<|fe G<|bB (dC rs) k<|cB 272<|y::p'),(272,iu<|y::p'),(400,some<|aD aw<|y::p')]++eO (bB (iM rs) k none))) (gf l w G (k+1) (k) rs (y::p')<|y::p') (Mo l G rs (k) (y::p')<|y::p') (gg l w G (k+1) (k) rs (y::p')<|y::p') (J (Mo l G rs (k) (y::p')<|y::p') 400) from gh<|A3 (p:=y::p') (r':=y::p') (by simp) (by simp only[List.length_append,List.length_cons] at*;omega) gx hb hG (by omega) ⟨by omega,by omega⟩ (by omega) fun r hr ht=>⟨⟨rfl,(show(1:Nat)<200 by omega),(bf.ptr<|rk hr).z⟩,⟨rfl,(show(3:Nat)<200 by omega),dZ ht⟩,⟨rfl,(show(8:Nat)<200 by omega),(by rw[xn<|by simp];exact(bf.slice<|ra hr).z)⟩,⟨rfl,(show(45:Nat)<200 by omega),(bf.slice<|rk hr).z⟩,⟨rfl,(show(46:Nat)<200 by omega),vi⟩,⟨rfl,(show(47:Nat)<200 by omega),vi⟩,trivial⟩)
theorem t11(mc:Mt [eD,eE,cS] B)(hb:Bd rs)(hG:G<=61)(hk:k<G)(gx:(y::p':List Int).length<=1000000)(ha:A0 l)(F1:Rg (y::p')<|jK l)(jG:bI (jJ At.fr l) (y::p') 0 (y::p').length<|y::p')(tP:(z::bH:List Int).length<=400000)(Vn:(y::p':List Int).length<=400000)(H:cP B q (gg l w G (k+1) (k) rs (y::p')<|(z::bH)++(y::p'))<|J (Mo l G rs (k) (y::p')<|(z::bH)++(y::p')) 400):cP B q (g9 l w G k (k) rs (y::p')<|z::bH)<|J (Mo l G rs (k) (y::p')<|z::bH) 400:=vC mc H (.st 1<|.rg<|.go 2<|.cg (.tuple []) (sG 272 270<|y::p') (sQ 272 270 (y::p')<|aq ah l)<|.en<|.rg<|.go 2<|.px (.slice (some (400,0)) ((z::bH).length+(y::p').length)<|.aU ((z::bH).length+(y::p').length) 1) (LK 273 272 (z::bH)<|y::p') (LJ 273 272 400 (z::bH)<|y::p')<|.go 1<|.en<|.st 1<|.rg<|.vl (.int .i64 ((k+1:Nat):Int))<|.go 1<|.en<|.st 1<|.rn [(1,.ptr<|some (270,0)),(3,aq aw w),(8,.slice (some (400,0)) ((z::bH).length+(y::p').length)<|.aU ((z::bH).length+(y::p').length) 1),(45,.slice (some (271,0)) G<|.known G),(46,.int .i64 (G:Int)),(47,.int .i64 ((k+1:Nat):Int))] (au++([(270,some<|ak [aq ah l]),(271,some<|fe G<|bB (dC rs) k<|cB 272<|y::p'),(272,iu<|y::p'),(400,some<|aD aw<|(z::bH)++(y::p'))]++eO (bB (iM rs) k none))) (gf l w G (k+1) (k) rs (y::p')<|(z::bH)++(y::p')) (Mo l G rs (k) (y::p')<|(z::bH)++(y::p')) 401 400 .no)<|Dc (L:=[eD,eE,cS]) (by as_aux_lemma=>kernel_rfl) (m:=272) (b:=270) (g:=20) (k:=(y::p').length) (cap:=.aU (y::p').length 1) (r:=y::p') (r':=y::p') (c:=aq ah l) rfl (by as_aux_lemma=>kernel_rfl) (by decide) (by as_aux_lemma=>kernel_rfl) rfl (aK.2<|bj _) ⟨(y::p').length,.aU (y::p').length 1,20,aq ah l,jK l,jJ At.fr l,y::p',y::p',rfl,rfl,rfl,rfl,⟨l,rfl,.inr ⟨rfl,rfl,rfl,ha⟩⟩,F1,rfl,gx,jG⟩ gx rfl<|And.intro (S2 (n:=273) (m:=272) (nx:=400) (k:=(y::p').length) (cap:=.aU (y::p').length 1) (A:=z::bH) (L:=y::p') rfl (by simp) (by simp) (by omega)<|by omega)<|And.intro (show(true=true/\some (aD aw<|z::bH)=some (aD aw<|z::bH))/\true=true/\some (aD aw<|y::p')=some (aD aw<|y::p')/\(400:Nat)=400 from⟨⟨rfl,rfl⟩,rfl,rfl,rfl⟩)<|And.intro (wN ((k:Int)+1)<|k+1) (show fT 270 401 400 [(1,.ptr<|some (270,0)),(3,aq aw w),(8,.slice (some (400,0)) ((z::bH).length+(y::p').length)<|.aU ((z::bH).length+(y::p').length) 1),(45,.slice (some (271,0)) G<|.known G),(46,.int .i64 (G:Int)),(47,.int .i64 ((k+1:Nat):Int))] (au++([(270,some<|ak [aq ah l]),(271,some<|fe G<|bB (dC rs) k<|cB 272<|y::p'),(272,iu<|y::p'),(400,some<|aD aw<|(z::bH)++(y::p'))]++eO (bB (iM rs) k none))) (gf l w G (k+1) (k) rs (y::p')<|(z::bH)++(y::p')) (Mo l G rs (k) (y::p')<|(z::bH)++(y::p')) (gg l w G (k+1) (k) rs (y::p')<|(z::bH)++(y::p')) (J (Mo l G rs (k) (y::p')<|(z::bH)++(y::p')) 400) from gh<|A3 (p:=y::p') (r':=(z::bH)++(y::p')) (by simp) (by simp only[List.length_append,List.length_cons] at*;omega) gx hb hG (by omega) ⟨by omega,by omega⟩ (by omega) fun r hr ht=>⟨⟨rfl,(show(1:Nat)<200 by omega),(bf.ptr<|rk hr).z⟩,⟨rfl,(show(3:Nat)<200 by omega),dZ ht⟩,⟨rfl,(show(8:Nat)<200 by omega),(by rw[xn (by simp),List.length_append];exact(bf.slice<|ra hr).z)⟩,⟨rfl,(show(45:Nat)<200 by omega),(bf.slice<|rk hr).z⟩,⟨rfl,(show(46:Nat)<200 by omega),vi⟩,⟨rfl,(show(47:Nat)<200 by omega),vi⟩,trivial⟩)
theorem z1(mc:Mt [eD,eE,cS] B)(ho:out.length<=1000000)(hk:G<=k)(H:cP B q (hJ out)<|J au 270):cP B q (dV l w G k rs out)<|J (Mc l G rs out) 400:=vC mc H (.st 1<|.rg<|.fk .no<|.en<|.st 5<|.rn [(2,cB 273 out)] (au++[(273,iu out)]) (jh out) au 400 270 .no)<|ay ((k:Int)<(G:Int)) (fun h=>show False by omega) fun _=>(show fT 270 400 270 [(2,cB 273 out)] (au++[(273,iu out)]) (jh out) au (hJ out) (J au 270) from gh<|R0 (l:=l) (G:=G) (rs:=rs) (by omega) ho (by omega) (by unfold top;omega))
theorem z2(mc:Mt [eD,eE,cS] B):cP B q (hJ q)<|J au 270:=wS mc (L:=[eD,eE,cS]) (R:=fun r0 _=>r0=aq aw q) (.rt 2<|.no) (show aq aw q=aq aw q from rfl)
end
end Bx
end
section
open Go Go.Rn Go.RowKit Go.Proofs
namespace A4
open dx dG ep eV gq jX jb lD vS te tC yu mw ou yw EU yx Bw EW Bx
def ab(l:List At)(w:List Int)(i:Nat):Nat:=if iv l (aA l (i:Int)).rv w 0<0 then w.length else(iv l (aA l (i:Int)).rv w 0).toNat
theorem Kh(l:List At)(rv:Int):∀(w:List Int) (i:Int),0<=i->(iv l rv w i= -1/\∀x∈w,¬(aA l x).wv>rv)\/∃m:Nat,iv l rv w i=i+(m:Int)/\m<w.length/\(aA l<|I w m).wv>rv/\∀j:Nat,j<m->¬(aA l<|I w j).wv>rv
 |[],i,_=>.inl ⟨rfl,fun x hx=>by cases hx⟩
 |x::w,i,h=>by
  unfold iv;by_cases q:(aA l x).wv>rv
  ·rw[if_pos q];exact .inr ⟨0,by omega,by simp,q,fun j hj=>by omega⟩
  ·rw[if_neg q];rcases Kh l rv w (i+1) (by omega) with⟨h1,h2⟩|⟨m,h1,h2,h3,h4⟩
   ·exact .inl ⟨h1,fun y hy=>by
     rcases List.mem_cons.1 hy with rfl|hy
     ·exact q
     ·exact h2 y hy⟩
   ·refine .inr ⟨m+1,by rw[h1];omega,by rw[List.length_cons];omega,h3,fun j hj=>?_⟩;cases j with
    |zero=>exact q
    |succ j=>exact h4 j (by omega)
theorem xU(l:List At)(w:List Int)(i:Nat):(ab l w i=w.length/\iv l (aA l (i:Int)).rv w 0= -1/\∀x∈w,¬(aA l x).wv>(aA l (i:Int)).rv)\/(ab l w i<w.length/\iv l (aA l (i:Int)).rv w 0=(ab l w i:Int)/\(aA l<|I w<|ab l w i).wv>(aA l (i:Int)).rv/\∀j:Nat,j<ab l w i->¬(aA l<|I w j).wv>(aA l (i:Int)).rv):=by
 rcases Kh l (aA l (i:Int)).rv w 0 (Int.le_refl _) with⟨h1,h2⟩|⟨m,h1,h2,h3,h4⟩
 ·refine .inl ⟨?_,h1,h2⟩;unfold ab;rw[h1,if_pos<|by omega]
 ·have e:ab l w i=m:=by unfold ab;rw[h1,if_neg<|by omega];omega
  rw[e];exact .inr ⟨h2,by rw[h1];omega,h3,h4⟩
def zt(l:List At)(w:List Int)(j k:Nat):Bool:=(!decide ((aA l ((k:Nat):Int)).wv>0))&&Nat.beq (ab l w k) j
def dL(l:List At)(w:List Int)(i j:Nat):List Int:=((List.range i).filter fun(k:Nat)=>zt l w j k).map fun(k:Nat)=>((k:Nat):Int)
theorem Dd(l:List At)(w:List Int)(i j:Nat):dL l w (i+1) j=if zt l w j i=true then dL l w i j++[((i:Nat):Int)] else dL l w i j:=by
 unfold dL;rw[List.range_succ,List.filter_append];by_cases h:zt l w j i=true
 ·rw[if_pos h,List.filter_cons_of_pos (by exact h),List.map_append];rfl
 ·rw[if_neg h,List.filter_cons_of_neg<|by exact h];simp
theorem Ax(l:List At)(w:List Int)(i j:Nat):(dL l w i j).length<=i:=by unfold dL;rw[List.length_map];exact Nat.le_trans (List.length_filter_le _ _) (by rw[List.length_range];exact Nat.le_refl _)
theorem xo{l:List At}{w:List Int}{j k:Nat}:zt l w j k=true↔¬(aA l (k:Int)).wv>0/\ab l w k=j:=by
 unfold zt;rw[Bool.and_eq_true];constructor
 ·rintro ⟨h1,h2⟩;exact⟨by simpa using h1,Nat.eq_of_beq_eq_true h2⟩
 ·rintro ⟨h1,rfl⟩;exact⟨by simpa using h1,Nat.beq_refl _⟩
theorem mW{l:List At}{w:List Int}{i j:Nat}{x:Int}:x∈dL l w i j↔∃k:Nat,x=(k:Int)/\k<i/\¬(aA l (k:Int)).wv>0/\ab l w k=j:=by
 unfold dL;rw[List.mem_map];constructor
 ·rintro ⟨k,h,rfl⟩;rw[List.mem_filter,List.mem_range] at h;exact⟨k,rfl,h.1,xo.1 h.2⟩
 ·rintro ⟨k,rfl,h1,h2⟩;exact⟨k,by rw[List.mem_filter,List.mem_range];exact⟨h1,xo.2 h2⟩,rfl⟩
theorem DW(l:List At)(w:List Int)(i j:Nat):(dL l w i j).Pairwise (· < ·):=by unfold dL;refine List.Pairwise.map _ (fun a b h=>?_)<|List.Pairwise.filter _ List.pairwise_lt_range;show((a:Nat):Int)<(b:Int);omega
def dM(l:List At)(w:List Int)(i:Nat):List<|List Int:=(List.range<|w.length+1).map fun j=>dL l w i j
theorem Jh(l:List At)(w:List Int)(i:Nat):(dM l w i).length=w.length+1:=by unfold dM;rw[List.length_map,List.length_range]
theorem ve(l:List At)(w:List Int)(i j:Nat):ro (dM l w i) j=if j<w.length+1 then dL l w i j else[]:=by
 unfold ro dM;rw[List.getD_eq_getElem?_getD,List.getElem?_map];by_cases h:j<w.length+1
 ·rw[if_pos h,List.getElem?_range h];rfl
 ·rw[if_neg h,List.getElem?_eq_none (by rw[List.length_range];omega)];rfl
theorem DX{l:List At}{w:List Int}{i:Nat}(hi:i<=100000):Bd<|dM l w i:=fun j=>by
 rw[ve];split
 ·have:=Ax l w i j;omega
 ·show 0<=1000000;omega
theorem Pt(l:List At)(w:List Int):dM l w 0=List.replicate (w.length+1) []:=by
 refine List.ext_getElem? fun j=>?_;unfold dM;rw[List.getElem?_map,List.getElem?_replicate];by_cases h:j<w.length+1
 ·rw[List.getElem?_range h,if_pos h];rfl
 ·rw[List.getElem?_eq_none (by rw[List.length_range];omega),if_neg h];rfl
theorem Q4{l:List At}{w:List Int}{i:Nat}(h:(aA l (i:Int)).wv>0):dM l w (i+1)=dM l w i:=by unfold dM;refine List.map_congr_left fun j _=>?_;rw[Dd,if_neg fun q=>(xo.1 q).1 h]
def oO(l:List At):Prop:=∀i j:Nat,i<j->j<l.length->(aA l (i:Int)).fr<(aA l (j:Int)).fr
theorem oO.apart{l:List At}(h:oO l):A0 l:=fun x y hx hy e=>by
 obtain⟨i,rfl⟩:∃i:Nat,x=(i:Int):=⟨x.toNat,by omega⟩;obtain⟨j,rfl⟩:∃j:Nat,y=(j:Int):=⟨y.toNat,by omega⟩;rcases Nat.lt_trichotomy i j with q|q|q
 ·have:=h i j q (by omega);omega
 ·rw[q]
 ·have:=h j i q (by omega);omega
theorem Qc{l:List At}(h:oO l)(w:List Int)(j:Nat):bI (jJ At.fr l) (dL l w l.length j) 0 (dL l w l.length j).length<|dL l w l.length j:=by refine bI.refl fun a b h1 h2 h3=>?_;have hp:=DW l w l.length j;rw[List.pairwise_iff_getElem] at hp;have:=hp a b (by omega) h3 h2;rw[←hZ, ←hZ] at this;obtain⟨x,e1,x1,_⟩:=mW.1 (at_mem (l:=dL l w l.length j) (i:=a)<|by omega);obtain⟨y,e2,y1,_⟩:=mW.1<|at_mem (l:=dL l w l.length j) (i:=b) h3;rw[e1,e2] at this ⊢;show ¬jJ At.fr l _ _<0;rw[xB];have:=h x y (by omega) y1;omega
theorem Q5(l:List At)(w:List Int)(j:Nat):Rg (dL l w l.length j)<|jK l:=fun x hx=>by obtain⟨k,rfl,h,_⟩:=mW.1 hx;exact⟨by omega,by omega⟩
def dX(l:List At)(w:List Int):Nat->List Int
 |0=>[]
 |k+1=>(if k=0 then[] else dX l w k++[I w<|k - 1])++dL l w l.length k
theorem De(l:List At)(w:List Int):∀k,(dX l w k).length<=k*(l.length+1)
 |0=>Nat.zero_le _
 |k+1=>by
  have:=De l w k;have h2:=Ax l w l.length k;rw[dX,List.length_append,Nat.succ_mul];split
  ·rw[List.length_nil];omega
  ·rw[List.length_append,List.length_singleton];omega
section
variable {B:aH} {l:List At} {w q:List Int}
theorem K0(mc:Mt [eD,eE,cS] B)(hl:l.length<=60)(hw:w.length<=60)(ui:Rg w<|jK l)(H:cP B q (kU l w (w.length+1) l.length<|dM l w l.length)<|J (Mc l (w.length+1) (dM l w l.length) []) 400):
    ∀(n i:Nat),l.length - i=n->i<=l.length->cP B q (kU l w (w.length+1) i<|dM l w i) (J (Mc l (w.length+1) (dM l w i) []) 400)
  | 0,i,h,hi=>by
    obtain rfl:i=l.length:=by omega
    exact H
  | n + 1,i,h,hi=>by
    have hk:i<l.length:=by omega
    have ih:=K0 mc hl hw ui H n (i+1) (by omega) (by omega)
    have hb:Bd<|dM l w i:=DX (by omega)
    by_cases hc:(aA l (i:Int)).wv>0
    · rw[Q4 hc] at ih
      exact b1 mc hb (by omega) (by omega) hk (tD hk) hc ih
    · 
      have hg:ab l w i<w.length+1:=by rcases xU l w i with h|h<;>omega
      have hp:ro (dM l w i) (ab l w i)=dL l w i (ab l w i):=by rw[ve,if_pos hg]
      have aC:ro (dM l w<|i+1) (ab l w i)=dL l w i (ab l w i)++[((i:Nat):Int)]:=by rw[ve,if_pos hg,Dd,if_pos<|xo.2 ⟨hc,rfl⟩]
      have pH:∀j,j≠ab l w i->ro (dM l w<|i+1) j=ro (dM l w i) j:=fun j hj=>by
        rw[ve,ve]
        split
        · rw[Dd,if_neg fun q=>hj (xo.1 q).2.symm]
        · rfl
      have hn:(dM l w<|i+1).length=(dM l w i).length:=by rw[Jh,Jh]
      have gx:=Ax l w i<|ab l w i
      have hC:cP B q (hI l w (w.length+1) i (ab l w i)<|dM l w i)<|J (Mc l (w.length+1) (dM l w i) []) 400:=by
        refine o1 mc hb (by omega) hp (by omega) ?_
        generalize VN:dL l w i (ab l w i)=p at*
        cases p with
        |nil=>exact c1 mc hb (by omega) (by omega) hk hg (by show 0<=100000;omega) hn aC pH ih
        |cons y p=>exact c2 mc hb (by omega) (by omega) hk hg (by omega) hn aC pH ih
      rcases xU l w i with⟨e1,e2,_⟩|⟨e1,e2,_⟩
      · rw[e1] at hC
        exact b2 mc hb (by omega) (by omega) hk (tD hk) hc (by omega) ui e2 hC
      · exact b3 mc hb (by omega) (by omega) hk (tD hk) hc (by omega) ui e2 hC
theorem Bu(mc:Mt [eD,eE,cS] B)(hl:l.length<=60)(hw:w.length<=60)(hu:oO l)(H:cP B q (dV l w (w.length+1) (w.length+1) (dM l w l.length)<|dX l w<|w.length+1)<|J (Mc l (w.length+1) (dM l w l.length)<|dX l w<|w.length+1) 400):
 ∀(n k:Nat),w.length+1 - k=n->k<=w.length+1->cP B q (dV l w (w.length+1) k (dM l w l.length)<|dX l w k) (J (Mc l (w.length+1) (dM l w l.length)<|dX l w k) 400)
 |0,k,h,hk=>by
  obtain rfl:k=w.length+1:=by omega
  exact H
 |n+1,k,h,hk=>by
  have fu:k<w.length+1:=by omega
  have ih:=Bu mc hl hw hu H n (k+1) (by omega) (by omega);have hb:Bd<|dM l w l.length:=DX (by omega);have hp:ro (dM l w l.length) k=dL l w l.length k:=by rw[ve,if_pos fu]
  have gx:=Ax l w l.length k;have ho:∀j,j<=61->(dX l w j).length<=3721:=fun j hj=>by have h1:=De l w j;have h2:=Nat.mul_le_mul hj (show l.length+1<=61 by omega);omega
  have ru:=ho k (by omega);have zc:=ho (k+1) (by omega);have hD:∀o,dX l w (k+1)=o++dL l w l.length k->cP B q (g9 l w (w.length+1) k k (dM l w l.length) (dL l w l.length k) o) (J (Mo l (w.length+1) (dM l w l.length) k (dL l w l.length k) o) 400):=fun o e=>by
   have cx:o.length<=3721:=by rw[e,List.length_append] at zc;omega
   have ri:=o3 mc hb (by omega) (by omega) hp (by omega) ih;rw[e] at ri;have K5:=Qc hu w k;have zu:=Q5 l w k;generalize dL l w l.length k=p at*;cases p with
   |nil=>
    rw[List.append_nil] at ri;cases o with
    |nil=>exact UR mc hb (by omega) fu ri
    |cons z o=>exact US mc hb (by omega) fu (by omega) ri
   |cons y p=>
    cases o with
    |nil=>exact t10 mc hb (by omega) fu (by omega) hu.apart zu K5 ri
    |cons z o=>exact t11 mc hb (by omega) fu (by omega) hu.apart zu K5 (by omega) (by omega) ri
  refine o2 mc hb (by omega) (by omega) hp (by omega) ?_;by_cases h0:k=0
  ·subst h0;exact d0 mc hb (by omega) fu (by omega) (by show 0<=1000000;omega) rfl (hD []<|by rw[dX,if_pos rfl])
  ·have e:dX l w (k+1)=(dX l w k++[I w<|k - 1])++dL l w l.length k:=by rw[dX,if_neg h0]
   have hd:=hD _ e;generalize dX l w k=o at*;cases o with
   |nil=>exact d1 mc hb (by omega) fu (by omega) (by omega) (by omega) (by omega) hd
   |cons z o=>exact d2 mc hb (by omega) fu (by omega) (by omega) (by omega) (by omega) (by omega) hd
end
theorem R2{l:List At}{w:List Int}(h:nA l w):Rg w<|jK l:=fun x hx=>(sS l x<|h.pm.subset hx).1
theorem Q6{l:List At}{w:List Int}(h:nA l w):w.length<=l.length:=by rw[h.len];exact Dw _ _
def wz(args:List AV)(v:AV):Prop:=∃(l:List At) (w:List Int),args=[aq ah l]/\l.length<=60/\nb l/\oO l/\nA l w/\v=aq aw (dX l w<|w.length+1)
theorem wz.bc(args:List AV)(v v':AV)(h:wz args v)(h':wz args v'):v=v':=by
 obtain⟨l,w,rfl,_,ha,_,h,rfl⟩:=h;obtain⟨l',w',e,_,_,_,h',rfl⟩:=h';injection e with e1 _
 obtain rfl:=rZ e1;rw[h.bc (xm ha) (sS l) (Nat.zero_le _) (Nat.le_refl _) h']
noncomputable def LO:FuncId×KE:=(7,.val<|gR wz)
theorem Q7(hP:du Tryz.prog){L:bY}(h:cJ L):cJ<|LO::L:=by
 refine tu hP h (Q0 hP<|Q1 hP<|Jc hP gO) Tryz.func7 fun args v e=>?_;obtain⟨l,w,rfl,hl,ha,hu,h,rfl⟩:=qh e;refine⟨aK.1 (by kernel_rfl),fun B mc=>?_⟩;rw[←qz];have VO:=Q6 h;have hlen:(dX l w<|w.length+1).length<=1000000:=by have h1:=De l w<|w.length+1;have h2:=Nat.mul_le_mul (show w.length+1<=61 by omega) (show l.length+1<=61 by omega);omega
 have hb:Bd<|dM l w l.length:=DX (by omega);have hT:=Bu (q:=dX l w<|w.length+1) mc hl (by omega) hu (z1 mc hlen (Nat.le_refl _)<|z2 mc) _ 0 rfl<|Nat.zero_le _;have hH:=K0 mc hl (by omega) (R2 h) (e1 mc hb (by omega) (Nat.le_refl _) hT) _ 0 rfl<|Nat.zero_le _;rw[Pt] at hH;exact w0 mc (by omega) ha h (by omega) hH
end A4
end
section
open Go Go.Rn Go.RowKit Go.Proofs
namespace EX
open dx dG ep eV gq jX jb lD vS te tC yu mw ou yw Bx A4
def pg(l:List At):Int->Int->List Int->Prop
 |_,_,[]=>True
 |cr,fr,x::o=>((aA l x).wv>0->cr<(aA l x).wv/\pg l (aA l x).wv (-1) o)/\(¬(aA l x).wv>0->cr<=(aA l x).rv/\fr<(aA l x).fr/\(∀y∈o,(aA l y).wv>0->(aA l x).rv<(aA l y).wv)/\pg l cr (aA l x).fr o)
def sF(l:List At)(w:List Int):Nat->Nat->List Int
 |0,k=>dL l w l.length k
 |r+1,k=>dL l w l.length k++I w k::sF l w r (k+1)
theorem JJ(l:List At)(w:List Int):∀r k,r+k=w.length->dX l w (w.length+1)=(if k=0 then[] else dX l w k++[I w<|k - 1])++sF l w r k
 |0,k,h=>by
  obtain rfl:k=w.length:=by omega
  rw[dX,sF]
 |r+1,k,h=>by rw[JJ l w r (k+1) (by omega),if_neg (by omega),dX,sF,Nat.add_sub_cancel];simp only[List.append_assoc,List.cons_append,List.nil_append]
section
variable {l:List At} {w:List Int}
structure Ws (l:List At) (w:List Int):Prop where
 mem:∀x,x∈w↔∃k:Nat,x=(k:Int)/\k<l.length/\(aA l (k:Int)).wv>0
 nd:w.Nodup
 up:∀i j,i<j->j<w.length->(aA l<|I w i).wv<(aA l<|I w j).wv
theorem R3(ha:nb l)(h:nA l w):Ws l w:=by
 have nd:w.Nodup:=h.pm.nodup_iff.2<|Oz l l.length;have hm:∀x,x∈w↔∃k:Nat,x=(k:Int)/\k<l.length/\(aA l (k:Int)).wv>0:=fun x=>by rw[h.pm.mem_iff];exact Jd
 refine⟨hm,nd,fun i j dp hj=>?_⟩;have s:¬jJ At.wv l (I w j) (I w i)<0:=h.lM i j (Nat.zero_le _) dp (by rw[←h.len];exact hj);rw[xB] at s;have bS:(aA l<|I w i).wv≠(aA l<|I w j).wv:=fun e=>by have h1:=(sS l) _ (h.pm.subset<|at_mem (l:=w) (i:=i)<|by omega);have h2:=(sS l) _<|h.pm.subset<|at_mem (l:=w) (i:=j) hj;have:=ha _ _ h1 h2 e;rw[hZ (show i<w.length by omega),hZ hj] at this;have:=(List.getElem_inj nd).1 this;omega
 omega
def vG(l:List At)(w:List Int)(k:Nat):Int:=if k=0 then 0 else(aA l<|I w<|k - 1).wv
theorem IB{cr:Int}{rest:List Int}(hr:∀fr,pg l cr fr rest):∀(P:List Int) (fr:Int),(∀x∈P,¬(aA l x).wv>0/\cr<=(aA l x).rv/\fr<(aA l x).fr/\∀y∈rest,(aA l y).wv>0->(aA l x).rv<(aA l y).wv)->P.Pairwise (fun x y=>(aA l x).fr<(aA l y).fr)->pg l cr fr (P++rest)
 |[],fr,_,_=>hr fr
 |x::P,fr,h,hp=>by
  obtain⟨h1,h2,h3,h4⟩:=h x List.mem_cons_self;rw[List.pairwise_cons] at hp;refine⟨fun q=>absurd q h1,fun _=>⟨h2,h3,fun y hy hw=>?_,IB hr P (aA l x).fr (fun z hz=>?_) hp.2⟩⟩
  ·rcases List.mem_append.1 hy with hy|hy
   ·exact absurd hw (h y<|List.mem_cons_of_mem _ hy).1
   ·exact h4 y hy hw
  ·obtain⟨k1,k2,_,k4⟩:=h z<|List.mem_cons_of_mem _ hz;exact⟨k1,k2,hp.1 z hz,k4⟩
theorem xC{x:Int}:∀{r k:Nat},r+k=w.length->x∈sF l w r k->(∃i:Nat,x=(i:Int)/\i<l.length/\¬(aA l (i:Int)).wv>0/\k<=ab l w i)\/∃m,k<=m/\m<w.length/\x=I w m
 |0,k,h,hx=>by obtain⟨i,e,h1,h2,h3⟩:=mW.1 hx;exact .inl ⟨i,e,h1,h2,by omega⟩
 |r+1,k,h,hx=>by
  rcases List.mem_append.1 hx with hx|hx
  ·obtain⟨i,e,h1,h2,h3⟩:=mW.1 hx;exact .inl ⟨i,e,h1,h2,by omega⟩
  ·rcases List.mem_cons.1 hx with rfl|hx
   ·exact .inr ⟨k,Nat.le_refl _,by omega,rfl⟩
   ·rcases xC (by omega) hx with⟨i,e,h1,h2,h3⟩|⟨m,h1,h2,e⟩
    ·exact .inl ⟨i,e,h1,h2,by omega⟩
    ·exact .inr ⟨m,by omega,h2,e⟩
theorem Qd(hw:Ws l w)(hu:oO l)(aY:∀i:Nat,i<l.length-> -1<(aA l (i:Int)).fr)(F2:∀i:Nat,i<l.length->0<=(aA l (i:Int)).rv):∀r k,r+k=w.length->pg l (vG l w k) (-1) (sF l w r k):=by
 have yz:∀m,m<w.length->(aA l<|I w m).wv>0:=fun m hm=>by obtain⟨i,e,_,h⟩:=(hw.mem _).1<|at_mem hm;rw[e];exact h
 have LP:∀k rest,k<=w.length->(∀fr,pg l (vG l w k) fr rest)->(∀y∈rest,(aA l y).wv>0->∃m,k<=m/\m<w.length/\y=I w m)->pg l (vG l w k) (-1) (dL l w l.length k++rest):=by
  intro k rest hk hr hy;refine IB hr _ _ (fun x hx=>?_) ?_
  ·obtain⟨i,rfl,h1,h2,h3⟩:=mW.1 hx;refine⟨h2,?_,aY i h1,fun y UT F3=>?_⟩
   ·unfold vG;by_cases q:k=0
    ·rw[if_pos q];exact F2 i h1
    ·rw[if_neg q];have key:¬(aA l<|I w<|k - 1).wv>(aA l (i:Int)).rv:=by
      rcases xU l w i with⟨e1,_,e3⟩|⟨e1,_,_,e4⟩
      ·exact e3 _ (at_mem<|by omega)
      ·exact e4 (k - 1) (by omega)
     omega
   ·obtain⟨m,m1,m2,rfl⟩:=hy y UT F3;rcases xU l w i with⟨e1,_,e3⟩|⟨e1,_,e3,_⟩
    ·omega
    ·rw[h3] at e3 e1;by_cases q:m=k
     ·rw[q];omega
     ·have:=hw.up k m (by omega) m2;omega
  ·refine(DW l w l.length k).imp_of_mem ?_;intro x y hx hy FE;obtain⟨i,rfl,h1,_⟩:=mW.1 hx;obtain⟨j,rfl,h2,_⟩:=mW.1 hy;exact hu i j (by omega) h2
 intro r;induction r with
 |zero=>intro k h;have:=LP k [] (by omega) (fun fr=>trivial) (fun y hy=>by cases hy);rw[List.append_nil] at this;exact this
 |succ r ih=>
  intro k h;refine LP k _ (by omega) (fun fr=>⟨fun hp=>⟨?_,?_⟩,fun q=>absurd (yz k<|by omega) q⟩) fun y hy F3=>?_
  ·unfold vG;by_cases q:k=0
   ·rw[if_pos q];exact hp
   ·rw[if_neg q];exact hw.up (k - 1) k (by omega) (by omega)
  ·have:=ih (k+1) (by omega);unfold vG at this;rw[if_neg (by omega),Nat.add_sub_cancel] at this;exact this
  ·rcases List.mem_cons.1 hy with rfl|hy
   ·exact⟨k,Nat.le_refl _,by omega,rfl⟩
   ·rcases xC (by omega) hy with⟨i,rfl,h1,h2,h3⟩|⟨m,m1,m2,e⟩
    ·exact absurd F3 h2
    ·exact⟨m,by omega,m2,e⟩
theorem R4(hw:Ws l w):∀r k,r+k=w.length->(sF l w r k).Nodup:=by
 have pn:∀k,(dL l w l.length k).Nodup:=fun k=>(DW l w l.length k).imp (fun h=>by omega);have yz:∀m,m<w.length->(aA l<|I w m).wv>0:=fun m hm=>by obtain⟨i,e,_,h⟩:=(hw.mem _).1<|at_mem hm;rw[e];exact h
 intro r;induction r with
 |zero=>exact fun k _=>pn k
 |succ r ih=>
  intro k h;refine List.nodup_append.2 ⟨pn k,List.nodup_cons.2 ⟨fun q=>?_,ih (k+1)<|by omega⟩,fun x hx y hy e=>?_⟩
  ·rcases xC (by omega) q with⟨i,e,h1,h2,_⟩|⟨m,m1,m2,e⟩
   ·have:=yz k (by omega);rw[e] at this;exact h2 this
   ·rw[hZ (show k<w.length by omega),hZ m2] at e;have:=(List.getElem_inj hw.nd).1 e;omega
  ·subst e;obtain⟨i,rfl,h1,h2,h3⟩:=mW.1 hx;rcases List.mem_cons.1 hy with e|hy
   ·have:=yz k (by omega);rw[←e] at this;exact h2 this
   ·rcases xC (by omega) hy with⟨j,e,_,_,j3⟩|⟨m,m1,m2,e⟩
    ·have:i=j:=by omega
     subst this;omega
    ·have:=yz m m2;rw[←e] at this;exact h2 this
theorem DY(hw:Ws l w){i:Nat}(hi:i<l.length):∀r k,r+k=w.length->((¬(aA l (i:Int)).wv>0/\k<=ab l w i)\/∃m,k<=m/\m<w.length/\(i:Int)=I w m)->((i:Nat):Int)∈sF l w r k
 |0,k,h,hc=>by
  rcases hc with⟨h1,h2⟩|⟨m,m1,m2,_⟩
  ·refine mW.2 ⟨i,rfl,hi,h1,?_⟩;rcases xU l w i with e|e<;>omega
  ·omega
 |r+1,k,h,hc=>by
  refine List.mem_append.2 ?_;rcases hc with⟨h1,h2⟩|⟨m,m1,m2,e⟩
  ·by_cases q:ab l w i=k
   ·exact .inl<|mW.2 ⟨i,rfl,hi,h1,q⟩
   ·exact .inr<|List.mem_cons_of_mem _<|DY hw hi r (k+1) (by omega)<|.inl ⟨h1,by omega⟩
  ·by_cases q:m=k
   ·exact .inr (by rw[e,q];exact List.mem_cons_self)
   ·exact .inr<|List.mem_cons_of_mem _<|DY hw hi r (k+1) (by omega)<|.inr ⟨m,by omega,m2,e⟩
structure A5 (l:List At) (o:List Int):Prop where
 S4:pg l 0 (-1) o
 rg:∀x∈o,∃k:Nat,x=(k:Int)/\k<l.length
 nd:o.Nodup
 len:o.length=l.length
theorem Q8(ha:nb l)(h:nA l w)(hu:oO l)(aY:∀i:Nat,i<l.length-> -1<(aA l (i:Int)).fr)(F2:∀i:Nat,i<l.length->0<=(aA l (i:Int)).rv):A5 l<|dX l w<|w.length+1:=by
 have hw:=R3 ha h;have e:=JJ l w w.length 0 (by omega);rw[if_pos rfl,List.nil_append] at e;rw[e];have hg:=Qd hw hu aY F2 w.length 0 (by omega);have zu:∀x∈sF l w w.length 0,∃k:Nat,x=(k:Int)/\k<l.length:=fun x hx=>by
  rcases xC (by omega) hx with⟨i,e,h1,_⟩|⟨m,_,m2,e⟩
  ·exact⟨i,e,h1⟩
  ·obtain⟨k,e2,k1,_⟩:=(hw.mem _).1<|at_mem m2;exact⟨k,by rw[e,e2],k1⟩
 have nd:=R4 hw w.length 0 (by omega);refine⟨hg,zu,nd,?_⟩;have full:∀i:Nat,i<l.length->((i:Nat):Int)∈sF l w w.length 0:=fun i hi=>by
  refine DY hw hi w.length 0 (by omega) ?_;by_cases q:(aA l (i:Int)).wv>0
  ·obtain⟨m,hm,e⟩:=List.mem_iff_getElem.1<|(hw.mem (i:Int)).2 ⟨i,rfl,hi,q⟩;exact .inr ⟨m,Nat.zero_le _,hm,by rw[hZ hm];exact e.symm⟩
  ·exact .inl ⟨q,Nat.zero_le _⟩
 have UU:((List.range l.length).map fun(k:Nat)=>((k:Nat):Int)).Nodup:=by refine List.Pairwise.map _ (fun a b h=>?_) List.nodup_range;show((a:Nat):Int)≠(b:Int);intro e;exact h (by omega)
 have s1:(sF l w w.length 0).length<=((List.range l.length).map fun(k:Nat)=>((k:Nat):Int)).length:=nd.length_le_of_subset fun x hx=>by obtain⟨k,rfl,hk⟩:=zu x hx;exact List.mem_map.2 ⟨k,List.mem_range.2 hk,rfl⟩
 have s2:((List.range l.length).map fun(k:Nat)=>((k:Nat):Int)).length<=(sF l w w.length 0).length:=UU.length_le_of_subset fun x hx=>by obtain⟨k,hk,rfl⟩:=List.mem_map.1 hx;exact full k<|List.mem_range.1 hk
 rw[List.length_map,List.length_range] at s1 s2;omega
end
end EX
end
section
open Go Go.Rn Go.RowKit Go.Proofs
namespace EY
open dx dG ep eV gq jX jb
noncomputable def zw(l:List At)(k:Nat):List<|Nat×AV:=[(1,aq ah l),(10,.int .i64 (k:Int))]
noncomputable def KW:List Item:=[.code<|aI Tryz.prog 4 [1,1,1,1,0,1,0,0],.inLoop<|aI Tryz.prog 4 [1,1,1,1,0,1,0,0],.inBlock 4,.code<|aI Tryz.prog 4 [1,1,1,1,1]]
noncomputable def pZ(l:List At)(k:Nat):AF:=⟨4,cj<|zw l k,(max Tryz.f4.ntmps 2),KW,[],none⟩
noncomputable abbrev yA(init:List Int):AV:=.agg [i6 0,i6 0,i6 0,aq aw init,.slice none 0<|.known 0]
abbrev oP(B:aH)(y:Bool)(fr:AF)(s:AS):Prop:=Sm B Tryz.f4 (.bool y) fr s
section
variable {B:aH} {y:Bool} {l:List At} {k:Nat} {init:List Int}
theorem d1(mc:Mt [] B)(h:init.length>100):oP B true ⟨4,bG [yA init,aq ah l],(max Tryz.f4.ntmps 2),[.code<|aI Tryz.prog 4 []],[],none⟩<|J au 270:=wS mc (R:=fun r0 _=>r0= .bool true) (.st 4<|.rg<|.go 3<|.fk (.go 11<|.en<|.rt 5<|.no) .no)<|ay (((init.length:Nat):Int)>100) (fun _=>(show AV.bool true=AV.bool true from rfl)) (fun h=>show False by omega)
theorem d2(mc:Mt [] B)(h0:¬init.length>100)(h:l.length>60):oP B true ⟨4,bG [yA init,aq ah l],(max Tryz.f4.ntmps 2),[.code<|aI Tryz.prog 4 []],[],none⟩<|J au 270:=wS mc (R:=fun r0 _=>r0= .bool true) (.st 4<|.rg<|.go 3<|.fk .no<|.go 9<|.fk (.go 1<|.en<|.rt 5<|.no) .no)<|ay (((init.length:Nat):Int)>100) (fun h=>show False by omega) fun _=>(ay ((l.length:Int)>60) (fun _=>(show AV.bool true=AV.bool true from rfl)) (fun h=>show False by omega))
theorem d3(mc:Mt [] B)(h0:¬init.length>100)(h:¬l.length>60)(H:oP B y (pZ l<|0)<|J (au) 270):oP B y ⟨4,bG [yA init,aq ah l],(max Tryz.f4.ntmps 2),[.code<|aI Tryz.prog 4 []],[],none⟩<|J au 270:=vC mc H (.st 4<|.rg<|.go 3<|.fk .no<|.go 9<|.fk .no<|.go 1<|.en<|.st 19<|.bk (zw l<|0) (au) 270 .no)<|ay (((init.length:Nat):Int)>100) (fun h=>show False by omega) fun _=>(ay ((l.length:Int)>60) (fun h=>show False by omega) fun _=>(show oM 270 (zw l<|0) (au) (pZ l<|0) (J (au) 270) from pW<|pG (o:=[]) (by omega) ⟨ke,fb,trivial⟩ trivial))
theorem t1(mc:Mt [] B)(hk:k<l.length)(h:(aA l (k:Int)).rd.length>2000):oP B true (pZ l k)<|J (au) 270:=wS mc (R:=fun r0 _=>r0= .bool true) (.st 2<|.rg<|.go 3<|.fk (.en<|.st 5<|.rg<|.go 2<|.bV<|.go 1<|.bW ([aq cR (aA l (k:Int)).rd])<|.go 1<|.fk (.go 9<|.en<|.rt 5<|.no) .no) .no)<|ay ((k:Int)<(l.length:Int)) (fun _=>(And.intro (show(0:Int)<=(k:Int) by omega)<|And.intro (show(k:Int)<((l.length:Nat):Int) by omega)<|And.intro (bj (l.map ah).flatten)<|And.intro (kJ (l:=l) (x:=(k:Int)) (by omega) (by omega) 7<|by omega)<|ay (((aA l (k:Int)).rd.length:Int)>2000) (fun _=>(show AV.bool true=AV.bool true from rfl)) (fun h=>show False by omega))) (fun h=>show False by omega)
theorem t2(mc:Mt [] B)(hk:k<l.length)(h0:¬(aA l (k:Int)).rd.length>2000)(h:(aA l (k:Int)).wr.length>100):oP B true (pZ l k)<|J (au) 270:=wS mc (R:=fun r0 _=>r0= .bool true) (.st 2<|.rg<|.go 3<|.fk (.en<|.st 5<|.rg<|.go 2<|.bV<|.go 1<|.bW ([aq cR (aA l (k:Int)).rd])<|.go 1<|.fk .no<|.go 3<|.bV<|.go 1<|.bW ([aq cR (aA l (k:Int)).wr])<|.go 1<|.fk (.go 1<|.en<|.rt 5<|.no) .no) .no)<|ay ((k:Int)<(l.length:Int)) (fun _=>(And.intro (show(0:Int)<=(k:Int) by omega)<|And.intro (show(k:Int)<((l.length:Nat):Int) by omega)<|And.intro (bj (l.map ah).flatten)<|And.intro (kJ (l:=l) (x:=(k:Int)) (by omega) (by omega) 7<|by omega)<|ay (((aA l (k:Int)).rd.length:Int)>2000) (fun h=>show False by omega) fun _=>(And.intro (show(0:Int)<=(k:Int) by omega)<|And.intro (show(k:Int)<((l.length:Nat):Int) by omega)<|And.intro (bj (l.map ah).flatten)<|And.intro (kJ (l:=l) (x:=(k:Int)) (by omega) (by omega) 8<|by omega)<|ay (((aA l (k:Int)).wr.length:Int)>100) (fun _=>(show AV.bool true=AV.bool true from rfl)) (fun h=>show False by omega)))) (fun h=>show False by omega)
theorem t3(mc:Mt [] B)(hl:l.length<=1000000)(hk:k<l.length)(h0:¬(aA l (k:Int)).rd.length>2000)(h:¬(aA l (k:Int)).wr.length>100)(H:oP B y (pZ l<|k+1)<|J (au) 270):oP B y (pZ l k)<|J (au) 270:=vC mc H (.st 2<|.rg<|.go 3<|.fk (.en<|.st 5<|.rg<|.go 2<|.bV<|.go 1<|.bW ([aq cR (aA l (k:Int)).rd])<|.go 1<|.fk .no<|.go 3<|.bV<|.go 1<|.bW ([aq cR (aA l (k:Int)).wr])<|.go 1<|.fk .no<|.go 1<|.en<|.st 3<|.rg<|.go 1<|.vl (.int .i64 ((k+1:Nat):Int))<|.go 1<|.en<|.st 1<|.ls (zw l<|k+1) (au) 270 .no) .no)<|ay ((k:Int)<(l.length:Int)) (fun _=>(And.intro (show(0:Int)<=(k:Int) by omega)<|And.intro (show(k:Int)<((l.length:Nat):Int) by omega)<|And.intro (bj (l.map ah).flatten)<|And.intro (kJ (l:=l) (x:=(k:Int)) (by omega) (by omega) 7<|by omega)<|ay (((aA l (k:Int)).rd.length:Int)>2000) (fun h=>show False by omega) fun _=>(And.intro (show(0:Int)<=(k:Int) by omega)<|And.intro (show(k:Int)<((l.length:Nat):Int) by omega)<|And.intro (bj (l.map ah).flatten)<|And.intro (kJ (l:=l) (x:=(k:Int)) (by omega) (by omega) 8<|by omega)<|ay (((aA l (k:Int)).wr.length:Int)>100) (fun h=>show False by omega) fun _=>(And.intro (wN ((k:Int)+1)<|k+1) (show bX (zw l<|k+1) (au) (pZ l<|k+1) (J (au) 270) from b8))))) (fun h=>show False by omega)
theorem t4(mc:Mt [] B)(hk:l.length<=k):oP B false (pZ l k)<|J (au) 270:=wS mc (R:=fun r0 _=>r0= .bool false) (.st 2<|.rg<|.go 3<|.fk .no<|.en<|.rt 6<|.no)<|ay ((k:Int)<(l.length:Int)) (fun h=>show False by omega) fun _=>(show AV.bool false=AV.bool false from rfl)
end
def qT(init:List Int)(l:List At):Prop:=init.length>100\/l.length>60\/∃k:Nat,k<l.length/\((aA l (k:Int)).rd.length>2000\/(aA l (k:Int)).wr.length>100)
open Classical in
noncomputable def A6(init:List Int)(l:List At):Bool:=decide<|qT init l
theorem K6{B:aH}{y:Bool}{l:List At}(mc:Mt [] B)(hl:l.length<=60)(H1:(∃k:Nat,k<l.length/\((aA l (k:Int)).rd.length>2000\/(aA l (k:Int)).wr.length>100))->y=true)(H2:(¬∃k:Nat,k<l.length/\((aA l (k:Int)).rd.length>2000\/(aA l (k:Int)).wr.length>100))->y=false):
 ∀(r k:Nat),l.length - k=r->k<=l.length->(∀j:Nat,j<k->¬((aA l (j:Int)).rd.length>2000\/(aA l (j:Int)).wr.length>100))->oP B y (pZ l k) (J au 270)
 |0,k,h,hk,hj=>by rw[H2 fun⟨j,h1,h2⟩=>hj j (by omega) h2];exact t4 mc (by omega)
 |r+1,k,h,hk,hj=>by
  have fu:k<l.length:=by omega
  by_cases q1:(aA l (k:Int)).rd.length>2000
  ·rw[H1 ⟨k,fu,.inl q1⟩];exact t1 mc fu q1
  ·by_cases q2:(aA l (k:Int)).wr.length>100
   ·rw[H1 ⟨k,fu,.inr q2⟩];exact t2 mc fu q1 q2
   ·refine t3 mc (by omega) fu q1 q2<|K6 mc hl H1 H2 r (k+1) (by omega) (by omega) fun j h1=>?_;by_cases e:j=k
    ·subst e;exact fun h=>h.elim q1 q2
    ·exact hj j (by omega)
def vE(args:List AV)(v:AV):Prop:=∃(init:List Int) (l:List At),args=[yA init,aq ah l]/\v= .bool (A6 init l)
theorem vE.bc(args:List AV)(v v':AV)(h:vE args v)(h':vE args v'):v=v':=by
 obtain⟨i,l,rfl,rfl⟩:=h;obtain⟨i',l',e,rfl⟩:=h';injection e with e1 e
 injection e with e2 _
 injection e1 with e1
 simp only[List.cons.injEq,true_and,_root_.and_true] at e1;have e3:fF aw 1 (aq aw i) i':=by rw[e1];exact fF.aq eI i'
 rw[fF.inj C9 (fF.aq eI i) e3,rZ e2]
noncomputable def Ki:FuncId×KE:=(4,.val<|gR vE)
open Classical in
theorem Pu(hP:du Tryz.prog){L:bY}(h:cJ L):cJ<|Ki::L:=by
 refine tu hP h gO Tryz.func4 fun args v e=>?_;obtain⟨init,l,rfl,rfl⟩:=qh e;refine⟨aK.1 (by kernel_rfl),fun B mc=>?_⟩;rw[←qz];by_cases q1:init.length>100
 ·rw[show A6 init l=true from decide_eq_true<|.inl q1];exact d1 mc q1
 ·by_cases q2:l.length>60
  ·rw[show A6 init l=true from decide_eq_true<|.inr<|.inl q2];exact d2 mc q1 q2
  ·exact d3 mc q1 q2 (K6 mc (by omega) (fun h=>decide_eq_true<|.inr<|.inr h) (fun h=>decide_eq_false fun w=>w.elim q1 fun w=>w.elim q2 h) _ 0 rfl (Nat.zero_le _) fun j h=>by omega)
end EY
end
section
open Go Go.Rn Go.RowKit Go.Proofs
namespace Es
open dx
def vg(args:List AV)(v:AV):Prop:=args=[]/\v= .bool true
theorem vg.bc(args:List AV)(v v':AV)(h:vg args v)(h':vg args v'):v=v':=by rw[h.2,h'.2]
noncomputable def JK:FuncId×KE:=(5,.val<|gR vg)
noncomputable def cL(f:FuncId):Nat:= @Bool.rec (fun _=>Nat) (@Bool.rec (fun _=>Nat) 0 1<|Nat.beq f 128) 1<|Nat.beq f 102
theorem Kj(f:FuncId):cL f=0\/cL f=1:=by unfold cL;cases Nat.beq f 102<;>cases Nat.beq f 128<;>simp
def UW(r:R AV):Bool:=match r with| .ok (.bool true) _=>true|_=>false
theorem Qe:UW (oj Tryz.prog cL 60 (.fn 5) [] ⟨dy,270,0,[],[]⟩)=true:=by as_aux_lemma=>kernel_rfl
theorem OA(hP:du Tryz.prog){L:bY}(h:cJ L):cJ<|JK::L:=by
 refine NJ (cL:=cL) (fun B=>Qt hP (fun f e=>by rcases Kj f with h|h<;>rw[h] at e<;>cases e) (fun f e=>by rcases Kj f with h|h<;>rw[h] at e<;>cases e)) hP Af DQ Eo yq h Tryz.func5 (body:=aI Tryz.prog 5 []) (by kernel_rfl) (by kernel_rfl) fun args v e=>?_;obtain⟨rfl,rfl⟩:=qh e;have q:=Qe;revert q;cases e:oj Tryz.prog cL 60 (.fn 5) [] ⟨dy,270,0,[],[]⟩ with
 |bad=>intro q;cases q
 |ok x s1=>
  intro q;refine⟨60,s1,e.trans ?_⟩;cases x with
  |bool b=>cases b with
   |true=>rfl
   |false=>cases q
  |_=>cases q
end Es
end
section
open Go Go.Rn Go.RowKit Go.Proofs
namespace vY
open dx dG jb lD mw
def b9(b:Bool):List AV:=[.bool b]
theorem VP:lB 1 b9:=⟨fun _=>rfl,fun _=>rfl⟩
noncomputable abbrev yB(n:Nat):U:=.cells (n*1) .nil [.bool false]
noncomputable abbrev F4(n:Nat):AS->AS:=oo<|yB n
abbrev LS(s:AS):Prop:=s.nx=270
theorem Q9{n:Nat}(hn:n<=1000000)(s:AS)(hs:LS s):makeSlice Tryz.prog 32 (.int .i64 (n:Int)) (.int .i64 (n:Int)) s= .ok (.slice (some (270,0)) n<|.known n) (F4 n s):=by
 have hu:Tryz.prog.underlying 32=some (.slice 4):=by kernel_rfl
 have hz:fC Tryz.prog 4=some (.bool false):=by kernel_rfl
 have hi:(match Tryz.prog.info? 4 with|some i=>Nat.beq i.size 1&&Nat.beq i.bytes 1|none=>false)=true:=by kernel_rfl
 unfold makeSlice;simp only[hu];cases e:Tryz.prog.info? 4 with
 |none=>rw[e] at hi;cases hi
 |some i=>
  rw[e] at hi;obtain⟨h1,h2⟩:=and_true.1 hi;have h1:=Nat.eq_of_beq_eq_true h1;have h2:=Nat.eq_of_beq_eq_true h2;rw[show Rn.intOf (.int .i64 (n:Int))=some (n:Int) from rfl,aO,aO,aO];have w1:within (n:Int) room=some n:=by show(match Nat.blt n room with|true=>some n|false=>none)=_;rw[(blt_eq _ _).mpr (show n<room by unfold room;omega)]
  have w2:within (n:Int) (n+1)=some n:=by show(match Nat.blt n (n+1) with|true=>some n|false=>none)=_;rw[(blt_eq _ _).mpr<|Nat.lt_succ_self n]
  rw[w1,aO,w2,aO,hz,aO,h1,h2];rw[show(and (Nat.ble (n*1) room)<|and (Nat.ble (n*1) top)<|and (or (Nat.beq (n*1) 0)<|not<|Nat.beq (AV.bool false).cells.length 0)<|(AV.bool false).cells.all AV.bu)=true by rw[aK.2 (show n*1<=room by unfold room;omega),aK.2 (show n*1<=top by unfold top;omega)];show(and true<|and true<|and (or (Nat.beq (n*1) 0) true) true)=true;cases Nat.beq (n*1) 0<;>rfl,bD];rw[M.bg<|An (by rw[hs];unfold top;omega),hs];show R.ok _ _=_;unfold F4 oo;rw[hs];rfl
abbrev mt(ms:List Bool)(k:Nat):Bool:=ms.getD k false
theorem Ji{ms:List Bool}{k:Nat}(h:k<ms.length):ms[k]? =some (mt ms k):=by rw[mt,List.getD_eq_getElem?_getD,List.getElem?_eq_getElem h];rfl
theorem LU{ms:List Bool}{z:Int}(h0:0<=z)(h:z<(ms.length:Int))(hl:ms.length<=1000000):cellsOf (some<|aD b9 ms) (z.toNat*1) 1=some [.bool<|mt ms z.toNat]:=DN (enc:=b9) (K:=1) (fun _=>rfl) (l:=ms) (i:=z.toNat) (c:=mt ms z.toNat) (by unfold top;omega) (Ji<|by omega) 0 1 rfl
theorem LV{ms:List Bool}{z:Int}{v:Bool}(h0:0<=z)(h:z<(ms.length:Int))(hl:ms.length<=1000000):gA (some<|aD b9 ms) (z.toNat*1) [.bool v]=some (aD b9<|ms.set z.toNat v):=DO (enc:=b9) (K:=1) (fun _=>rfl) (l:=ms) (i:=z.toNat) (c:=mt ms z.toNat) (c':=v) (r:=[.bool v]) (by unfold top;omega) (Ji<|by omega) 0 rfl rfl rfl
theorem Jj(ms:List Bool):(ms.map b9).flatten.length=ms.length:=by have:=uI (enc:=b9) (K:=1) (fun _=>rfl) (l:=ms);omega
theorem LW{nx:Nat}{ms:List Bool}(h:ms.length<=1000000):OE nx<|aD b9 ms:=fun r r1 r2=>gm.aD (fun x=>⟨rfl,rfl⟩) (by rw[Jj];unfold top;omega)
theorem Ra{ms:List Bool}{i:Nat}{x:AV}(h:(ms.map b9).flatten[i]? =some x):∃b,ms[i]? =some b/\x= .bool b:=by
 have e:(ms.map b9).flatten=ms.map AV.bool:=by
  clear h;induction ms with
  |nil=>rfl
  |cons b ms ih=>show b9 b++(ms.map b9).flatten=_;rw[ih];rfl
 rw[e,List.getElem?_map] at h;cases q:ms[i]? with
 |none=>rw[q] at h;cases h
 |some b=>rw[q] at h;cases h;exact⟨b,rfl,rfl⟩
theorem R5{r:Nat->Nat}{n:Nat}(hn:n<=1000000):gm r (yB n)<|aD b9<|List.replicate n false:=fun ρ N o k=>by
 have hl:((List.replicate n false).map b9).flatten.length=n:=by rw[Jj,List.length_replicate]
 unfold aD;simp only[OR] at k ⊢;obtain⟨c,e,rfl,k1,k2,k3⟩:=k;refine⟨c,e,rfl,k1,by rw[hl];omega,fun i hi=>?_⟩;rw[hl] at hi;obtain⟨x,v,a1,a2,a3,a4⟩:=k3 i (by omega);have hx:x= .bool false:=by have a1:cellAt .nil [.bool false] i=some x:=a1;unfold cellAt at a1;rw[show(Tr.nil:Tr AV).get i=none from Tr.get_nil i] at a1;have a1:[AV.bool false][i % 1]? =some x:=a1;rw[Nat.mod_one] at a1;cases a1;rfl
 subst hx;refine⟨.bool false,v,?_,a2,a3,by simp only[VR] at a4 ⊢;exact a4⟩;unfold cellAt;rw[Tr.nS _ _ _ _ (by rw[hl];unfold top;omega),if_pos (by rw[hl];omega),Nat.sub_zero];have bR:i<((List.replicate n false).map b9).flatten.length:=by rw[hl];exact hi
 rw[List.getElem?_eq_getElem bR];obtain⟨b,h1,h2⟩:=Ra<|List.getElem?_eq_getElem bR;rw[h2];have:=List.mem_of_getElem? h1;rw[List.mem_replicate] at this;rw[this.2]
theorem UX{n aP:Nat}{l0 l1:List<|Nat×AV}(hn:n<=1000000)(hs:aP=271)(h:∀r:Nat->Nat,(∀k,k<271->r k=k)->(∀k,top<=k->r k=k)->∀p∈l1,p.1<top/\∃x,(p.1,x)∈l0/\gQ [] r x p.2):gE FU 270 aP l0 (au++[(270,some<|yB n)]) l1 (au++[(270,some<|aD b9<|List.replicate n false)]) 271:=by
 subst hs;exact A1 (fz:=[]) (by omega) (by omega) (by unfold top;omega) h (fun r hr ht p hp=>by
  rcases List.mem_append.1 hp with hp|hp
  ·obtain⟨a,b⟩:=A2 (fz:=[]) (fun k hk=>hr k<|by omega) p hp;refine⟨by omega,fun y hy=>?_⟩;obtain⟨c,d⟩:=b y hy;exact⟨c,y,List.mem_append_left _ (by rw[←hy];exact hp),ff.refl _,d⟩
  ·rw[List.mem_singleton] at hp;subst hp;refine⟨by show 270<271;omega,fun y hy=>?_⟩;cases hy;exact⟨rfl,_,List.mem_append_right _ List.mem_cons_self,gP,(R5 hn).z⟩) (fun p hp=>by cases hp)
end vY
end
section
open Go Go.Rn Go.RowKit Go.Proofs
namespace EZ
open dx dG ep eV gq jX jb lD te mw ou yw Bx A4 EX EY Es vY
noncomputable abbrev LL:bY:=[JK,Ki,LO,KK]
noncomputable def jL(l:List At)(r:List Int)(ms:List Bool)(cr:Int)(fm:Int)(i:Nat):List<|Nat×AV:=[(1,aq ah l),(5,aq aw r),(6,.slice (some (270,0)) l.length<|.known l.length),(7,i6 cr),(8,i6 fm),(9,.int .i64 (i:Int))]
noncomputable def KA:List Item:=[.code<|aI Tryz.prog 3 [1,1,1,1,1,1,0,1,0,0],.inLoop<|aI Tryz.prog 3 [1,1,1,1,1,1,0,1,0,0],.inBlock 0,.code<|aI Tryz.prog 3 [1,1,1,1,1,1,1]]
noncomputable def gw(l:List At)(r:List Int)(ms:List Bool)(cr:Int)(fm:Int)(i:Nat):AF:=⟨3,cj<|jL l r ms cr fm i,(max Tryz.f3.ntmps 2),KA,[],none⟩
noncomputable def kg(l:List At)(r:List Int)(ms:List Bool)(cr:Int)(fm:Int)(i:Nat)(a:At)(k:Nat):List<|Nat×AV:=[(1,aq ah l),(5,aq aw r),(6,.slice (some (270,0)) l.length<|.known l.length),(7,i6 cr),(8,i6 fm),(9,.int .i64 (i:Int)),(10,.ptr<|some (271,0)),(11,.int .i64 (k:Int))]
noncomputable def KB:List Item:=[.code<|aI Tryz.prog 3 [1,1,1,1,1,1,0,1,0,0,1,0,0,1,1,1,1,1,1,1,0,0],.inLoop<|aI Tryz.prog 3 [1,1,1,1,1,1,0,1,0,0,1,0,0,1,1,1,1,1,1,1,0,0],.inBlock 2,.inBlock 1,.code<|aI Tryz.prog 3 [1,1,1,1,1,1,0,1,0,0,1,1],.inLoop<|aI Tryz.prog 3 [1,1,1,1,1,1,0,1,0,0],.inBlock 0,.code<|aI Tryz.prog 3 [1,1,1,1,1,1,1]]
noncomputable def gJ(l:List At)(r:List Int)(ms:List Bool)(cr:Int)(fm:Int)(i:Nat)(a:At)(k:Nat):AF:=⟨3,cj<|kg l r ms cr fm i a k,(max Tryz.f3.ntmps 2),KB,[],none⟩
abbrev iD(B:aH)(fr:AF)(s:AS):Prop:=Sm B Tryz.f3 (.bool true) fr s
theorem LX{init:List Int}{l:List At}(h:¬qT init l):BV l:=fun a ha=>by
 obtain⟨k,hk,e⟩:=List.mem_iff_getElem.1 ha;have e2:aA l (k:Int)=a:=by rw[qp hk];exact e
 refine⟨Classical.byContradiction fun q=>h<|.inr<|.inr ⟨k,hk,.inl (by rw[e2];omega)⟩,Classical.byContradiction fun q=>h<|.inr<|.inr ⟨k,hk,.inr (by rw[e2];omega)⟩⟩
theorem vF{init:List Int}{l:List At}(h:¬qT init l):l.length<=60:=Classical.byContradiction fun q=>h (.inr<|.inl<|by omega)
open Classical in
theorem Et{init:List Int}{l:List At}{b:Bool}(h:qT init l↔b=true):kH (gR vE) [yA init,aq ah l]=some (.bool b):=qk (ql vE.bc ⟨init,l,rfl,by congr 1;unfold A6;cases b<;>simp[h]⟩) (by show((true&&(true&&(true&&(Nat.ble top (nm _)&&(true&&true)))))&&((Nat.ble top<|nm _)&&true))=true;rw[aK.2<|bj _,aK.2<|bj _];rfl) rfl
theorem E0:kH (gR vg) []=some (.bool true):=qk (ql vg.bc ⟨rfl,rfl⟩) rfl rfl
theorem K7{init:List Int}{l:List At}{b:Bool}(hl:l.length<=1000000)(hs:BV l)(h:qR init l↔b=true):kH (gR vT) [aq aw init,aq ah l]=some (.bool b):=qk (ql vT.bc ⟨init,l,rfl,hl,hs,by congr 1;cases b<;>simp[h]⟩) (by show((Nat.ble top<|nm _)&&((Nat.ble top<|nm _)&&true))=true;rw[aK.2<|bj _,aK.2<|bj _];rfl) rfl
theorem S5{l:List At}{w:List Int}(hl:l.length<=60)(ha:nb l)(hu:oO l)(h:nA l w):kH (gR wz) [aq ah l]=some (aq aw<|dX l w<|w.length+1):=qk (ql wz.bc ⟨l,w,rfl,hl,ha,hu,h,rfl⟩) (by show((Nat.ble top<|nm _)&&true)=true;rw[aK.2<|bj _];rfl)<|aK.2<|bj _
theorem Kk{l:List At}{x:Int}(h0:0<=x)(h1:x<(l.length:Int)):fj FU (nm (l.map ah).flatten) (0+x.toNat*9) 9=some (ah<|aA l x):=by
 have e:l[x.toNat]? =some (aA l x):=by unfold aA;rw[List.getD_eq_getElem?_getD,List.getElem?_eq_getElem (show x.toNat<l.length by omega)];rfl
 have:=qy eA e 0 9 (by omega);rw[Nat.add_zero] at this;rw[Nat.zero_add];exact this
section
variable {B:aH} {l:List At} {r w:List Int} {ms:List Bool} {cr fm:Int} {i k:Nat} {init:List Int} {a:At}
theorem w1(mc:Mt LL B)(h:qT init l):iD B ⟨3,bG [aq aw init,aq ah l],(max Tryz.f3.ntmps 2),[.code<|aI Tryz.prog 3 []],[],none⟩<|J au 270:=wS mc (L:=LL) (R:=fun r0 _=>r0= .bool true) (.st 4<|.rg<|.go 3<|.kn (.bool true)<|.go 4<|.en<|.st 2<|.rg<|.kn (.bool true)<|.go 1<|.en<|.rt 2<|.no)<|And.intro (Et (init:=init) (l:=l) (b:=true) ⟨fun _=>rfl,fun _=>h⟩)<|And.intro (E0) (show AV.bool true=AV.bool true from rfl)
theorem w2(mc:Mt LL B)(h:¬qT init l)(h1:¬qR init l):iD B ⟨3,bG [aq aw init,aq ah l],(max Tryz.f3.ntmps 2),[.code<|aI Tryz.prog 3 []],[],none⟩<|J au 270:=wS mc (L:=LL) (R:=fun r0 _=>r0= .bool true) (.st 4<|.rg<|.go 3<|.kn (.bool false)<|.go 1<|.kn (.bool true)<|.go 2<|.en<|.st 4<|.rg<|.go 2<|.kn (.bool false)<|.go 1<|.en<|.rt 5<|.no)<|And.intro (Et (init:=init) (l:=l) (b:=false) ⟨fun q=>absurd q h,fun q=>by cases q⟩)<|And.intro (E0)<|And.intro (K7 (init:=init) (l:=l) (b:=false) (by have:=vF h;omega) (LX h) ⟨fun q=>absurd q h1,fun q=>by cases q⟩) (show AV.bool true=AV.bool true from rfl)
theorem w3(mc:Mt LL B)(h:¬qT init l)(h1:qR init l)(ha:nb l)(hu:oO l)(hw:nA l w)(H:iD B (gw l ((dX l w<|w.length+1)) (List.replicate l.length false) (0) (-1)<|0)<|J (au++[(270,some<|aD b9<|List.replicate l.length false)]) 271):iD B ⟨3,bG [aq aw init,aq ah l],(max Tryz.f3.ntmps 2),[.code<|aI Tryz.prog 3 []],[],none⟩<|J au 270:=
 vC mc H (.st 4<|.rg<|.go 3<|.kn (.bool false)<|.go 1<|.kn (.bool true)<|.go 2<|.en<|.st 4<|.rg<|.go 2<|.kn (.bool true)<|.go 1<|.en<|.st 3<|.rg<|.go 1<|.kn (aq aw<|dX l w<|w.length+1)<|.go 1<|.en<|.st 1<|.rg<|.go 2<|.ml (.slice (some (270,0)) l.length<|.known l.length) (F4 l.length) LS<|.go 1<|.en<|.st 7<|.rn [(1,aq ah l),(5,aq aw<|dX l w<|w.length+1),(6,.slice (some (270,0)) l.length<|.known l.length),(7,i6 0),(8,i6<|-1),(9,.int .i64 ((0:Nat):Int))] (au++[(270,some<|yB l.length)]) (jL l (dX l w<|w.length+1) (List.replicate l.length false) 0 (-1) 0) (au++[(270,some<|aD b9<|List.replicate l.length false)]) 271 271 .no) (And.intro (Et (init:=init) (l:=l) (b:=false) ⟨fun q=>absurd q h,fun q=>by cases q⟩)<|And.intro (E0)<|And.intro (K7 (init:=init) (l:=l) (b:=true) (by have:=vF h;omega) (LX h) ⟨fun _=>rfl,fun _=>h1⟩)<|And.intro (S5 (vF h) ha hu hw)<|And.intro (Q9 (n:=l.length) (by have:=vF h;omega))<|And.intro (show(270:Nat)=270 from rfl) (show fT 270 271 271 [(1,aq ah l),(5,aq aw<|dX l w<|w.length+1),(6,.slice (some (270,0)) l.length<|.known l.length),(7,i6 0),(8,i6<|-1),(9,.int .i64 ((0:Nat):Int))] (au++[(270,some<|yB l.length)]) (jL l (dX l w<|w.length+1) (List.replicate l.length false) 0 (-1) 0) (au++[(270,some<|aD b9<|List.replicate l.length false)]) (gw l ((dX l w<|w.length+1)) (List.replicate l.length false) (0) (-1)<|0) (J (au++[(270,some<|aD b9<|List.replicate l.length false)]) 271) from gh<|UX (by have:=vF h;omega) rfl (fun q hr ht p hp=>by
  simp only[jL,List.mem_cons,List.not_mem_nil,or_false] at hp;rcases hp with rfl|rfl|rfl|rfl|rfl|rfl
  ·exact⟨by show 1<top;unfold top;omega,_,mi 0,dZ ht⟩
  ·exact⟨by show 5<top;unfold top;omega,_,mi 1,dZ ht⟩
  ·exact⟨by show 6<top;unfold top;omega,_,mi 2,(bf.slice<|hr 270<|by omega).z⟩
  ·exact⟨by show 7<top;unfold top;omega,_,mi 3,vi⟩
  ·exact⟨by show 8<top;unfold top;omega,_,mi 4,vi⟩
  ·exact⟨by show 9<top;unfold top;omega,_,mi 5,vi⟩)))
theorem a1(mc:Mt LL B)(hr:r.length<=1000000)(hl:l.length<=1000000)(BX:ms.length=l.length)(hi:i<r.length)(h0:0<=(I r i))(h1:(I r i)<(l.length:Int))(hm:mt ms ((I r i)).toNat=false)(hw:(aA l<|I r i).wv>0)(hv:¬(aA l<|I r i).wv<=cr)(H:iD B (gw l r (ms.set ((I r i)).toNat true) ((aA l<|I r i).wv) (-1)<|i+1)<|J (au++[(270,some<|aD b9<|ms.set ((I r i)).toNat true)]) 271):iD B (gw l r ms cr fm i)<|J (au++[(270,some<|aD b9 ms)]) 271:=vC mc H (.st 2<|.rg<|.go 3<|.fk (.en<|.st 6<|.rg<|.go 2<|.bV<|.bW ([i6<|I r i])<|.fk .no<|.go 3<|.bV<|.bW ([i6<|I r i])<|.go 2<|.fk .no<|.go 5<|.bV<|.bW ([i6<|I r i])<|.ix<|.wg (mt ms ((I r i)).toNat) .no<|.go 1<|.en<|.st 3<|.rg<|.go 3<|.bV<|.bW ([i6<|I r i])<|.ix<|.lL (aD b9<|ms.set ((I r i)).toNat true)<|.en<|.st 1<|.rg<|.go 3<|.bV<|.bW ([i6<|I r i])<|.bV<|.bW (ah<|aA l<|I r i)<|.go 2<|.en<|.st 2<|.rg<|.go 2<|.fk (.en<|.st 3<|.rg<|.go 3<|.fk .no<|.en<|.st 5<|.rg<|.go 1<|.vl (.int .i64 ((i+1:Nat):Int))<|.go 1<|.en<|.st 1<|.bk (jL l r (ms.set ((I r i)).toNat true) ((aA l<|I r i).wv) (-1)<|i+1) (au++[(270,some<|aD b9<|ms.set ((I r i)).toNat true)]) 271 .no) .no) .no)<|ay ((i:Int)<(r.length:Int)) (fun _=>(And.intro (show(0:Int)<=(i:Int) by omega)<|And.intro (show(i:Int)<((r.length:Nat):Int) by omega)<|And.intro (bj (r.map aw).flatten)<|And.intro (gF (r:=r) (i:=i)<|by omega)<|ay ((I r i)<0) (fun h=>show False by omega) fun _=>(And.intro (show(0:Int)<=(i:Int) by omega)<|And.intro (show(i:Int)<((r.length:Nat):Int) by omega)<|And.intro (bj (r.map aw).flatten)<|And.intro (gF (r:=r) (i:=i)<|by omega)<|ay ((I r i)>=(l.length:Int)) (fun h=>show False by omega) fun _=>(And.intro (show(0:Int)<=(i:Int) by omega)<|And.intro (show(i:Int)<((r.length:Nat):Int) by omega)<|And.intro (bj (r.map aw).flatten)<|And.intro (gF (r:=r) (i:=i)<|by omega)<|And.intro (show(0:Int)<=(I r i) by omega)<|And.intro (show(I r i)<((l.length:Nat):Int) by omega)<|And.intro (LU (ms:=ms) (z:=(I r i)) (by omega) (by omega)<|by omega)<|And.intro (fun(h:mt ms ((I r i)).toNat=true)=>show False by rw[hm] at h;cases h) fun(_:mt ms ((I r i)).toNat=false)=>(And.intro (show(0:Int)<=(i:Int) by omega)<|And.intro (show(i:Int)<((r.length:Nat):Int) by omega)<|And.intro (bj (r.map aw).flatten)<|And.intro (gF (r:=r) (i:=i)<|by omega)<|And.intro (show(0:Int)<=(I r i) by omega)<|And.intro (show(I r i)<((l.length:Nat):Int) by omega)<|And.intro (LV (ms:=ms) (z:=(I r i)) (v:=true) (by omega) (by omega)<|by omega)<|And.intro (show(0:Int)<=(i:Int) by omega)<|And.intro (show(i:Int)<((r.length:Nat):Int) by omega)<|And.intro (bj (r.map aw).flatten)<|And.intro (gF (r:=r) (i:=i)<|by omega)<|And.intro (show(0:Int)<=(I r i) by omega)<|And.intro (show(I r i)<((l.length:Nat):Int) by omega)<|And.intro (bj (l.map ah).flatten)<|And.intro (Kk (l:=l) (x:=(I r i)) (by omega)<|by omega)<|ay ((aA l<|I r i).wv>0) (fun _=>(ay ((aA l<|I r i).wv<=cr) (fun h=>show False by omega) fun _=>(And.intro (wN ((i:Int)+1)<|i+1) (show oM 271 (jL l r (ms.set ((I r i)).toNat true) ((aA l<|I r i).wv) (-1)<|i+1) (au++[(270,some<|aD b9<|ms.set ((I r i)).toNat true)]) (gw l r (ms.set ((I r i)).toNat true) ((aA l<|I r i).wv) (-1)<|i+1) (J (au++[(270,some<|aD b9<|ms.set ((I r i)).toNat true)]) 271) from pW<|pG (by omega) ⟨ke,ke,FG (by omega),fb,fb,fb,trivial⟩ ⟨kT<|LW (by rw[List.length_set];omega),trivial⟩)))) (fun h=>show False by omega)))))) (fun h=>show False by omega)
theorem a2(mc:Mt LL B)(hr:r.length<=1000000)(hl:l.length<=1000000)(BX:ms.length=l.length)(hi:i<r.length)(h0:0<=(I r i))(h1:(I r i)<(l.length:Int))(hm:mt ms ((I r i)).toNat=false)(hw:¬(aA l<|I r i).wv>0)(hv:¬cr>(aA l<|I r i).rv)(hf:¬(aA l<|I r i).fr<=fm)(H:iD B (gJ l r (ms.set ((I r i)).toNat true) cr ((aA l<|I r i).fr) i ((aA l<|I r i))<|i+1)<|J (au++[(270,some<|aD b9<|ms.set ((I r i)).toNat true),(271,some<|ak<|ah<|(aA l<|I r i))]) 272):iD B (gw l r ms cr fm i)<|J (au++[(270,some<|aD b9 ms)]) 271:=vC mc H (.st 2<|.rg<|.go 3<|.fk (.en<|.st 6<|.rg<|.go 2<|.bV<|.bW ([i6<|I r i])<|.fk .no<|.go 3<|.bV<|.bW ([i6<|I r i])<|.go 2<|.fk .no<|.go 5<|.bV<|.bW ([i6<|I r i])<|.ix<|.wg (mt ms ((I r i)).toNat) .no<|.go 1<|.en<|.st 3<|.rg<|.go 3<|.bV<|.bW ([i6<|I r i])<|.ix<|.lL (aD b9<|ms.set ((I r i)).toNat true)<|.en<|.st 1<|.rg<|.go 3<|.bV<|.bW ([i6<|I r i])<|.bV<|.bW (ah<|aA l<|I r i)<|.go 2<|.en<|.st 2<|.rg<|.go 2<|.fk .no<|.en<|.st 4<|.rg<|.go 3<|.fk .no<|.go 4<|.fk .no<|.go 1<|.en<|.st 5<|.rg<|.go 1<|.vl (.int .i64 ((i+1:Nat):Int))<|.go 1<|.en<|.st 2<|.ls (kg l r (ms.set ((I r i)).toNat true) cr ((aA l<|I r i).fr) i ((aA l<|I r i))<|i+1) (au++[(270,some<|aD b9<|ms.set ((I r i)).toNat true),(271,some<|ak<|ah<|(aA l<|I r i))]) 272 .no) .no)<|ay ((i:Int)<(r.length:Int)) (fun _=>(And.intro (show(0:Int)<=(i:Int) by omega)<|And.intro (show(i:Int)<((r.length:Nat):Int) by omega)<|And.intro (bj (r.map aw).flatten)<|And.intro (gF (r:=r) (i:=i)<|by omega)<|ay ((I r i)<0) (fun h=>show False by omega) fun _=>(And.intro (show(0:Int)<=(i:Int) by omega)<|And.intro (show(i:Int)<((r.length:Nat):Int) by omega)<|And.intro (bj (r.map aw).flatten)<|And.intro (gF (r:=r) (i:=i)<|by omega)<|ay ((I r i)>=(l.length:Int)) (fun h=>show False by omega) fun _=>(And.intro (show(0:Int)<=(i:Int) by omega)<|And.intro (show(i:Int)<((r.length:Nat):Int) by omega)<|And.intro (bj (r.map aw).flatten)<|And.intro (gF (r:=r) (i:=i)<|by omega)<|And.intro (show(0:Int)<=(I r i) by omega)<|And.intro (show(I r i)<((l.length:Nat):Int) by omega)<|And.intro (LU (ms:=ms) (z:=(I r i)) (by omega) (by omega)<|by omega)<|And.intro (fun(h:mt ms ((I r i)).toNat=true)=>show False by rw[hm] at h;cases h) fun(_:mt ms ((I r i)).toNat=false)=>(And.intro (show(0:Int)<=(i:Int) by omega)<|And.intro (show(i:Int)<((r.length:Nat):Int) by omega)<|And.intro (bj (r.map aw).flatten)<|And.intro (gF (r:=r) (i:=i)<|by omega)<|And.intro (show(0:Int)<=(I r i) by omega)<|And.intro (show(I r i)<((l.length:Nat):Int) by omega)<|And.intro (LV (ms:=ms) (z:=(I r i)) (v:=true) (by omega) (by omega)<|by omega)<|And.intro (show(0:Int)<=(i:Int) by omega)<|And.intro (show(i:Int)<((r.length:Nat):Int) by omega)<|And.intro (bj (r.map aw).flatten)<|And.intro (gF (r:=r) (i:=i)<|by omega)<|And.intro (show(0:Int)<=(I r i) by omega)<|And.intro (show(I r i)<((l.length:Nat):Int) by omega)<|And.intro (bj (l.map ah).flatten)<|And.intro (Kk (l:=l) (x:=(I r i)) (by omega)<|by omega)<|ay ((aA l<|I r i).wv>0) (fun h=>show False by omega) fun _=>(ay (cr>(aA l<|I r i).rv) (fun h=>show False by omega) fun _=>(ay ((aA l<|I r i).fr<=fm) (fun h=>show False by omega) fun _=>(And.intro (wN ((i:Int)+1)<|i+1) (show bX (kg l r (ms.set ((I r i)).toNat true) cr ((aA l<|I r i).fr) i ((aA l<|I r i))<|i+1) (au++[(270,some<|aD b9<|ms.set ((I r i)).toNat true),(271,some<|ak<|ah<|(aA l<|I r i))]) (gJ l r (ms.set ((I r i)).toNat true) cr ((aA l<|I r i).fr) i ((aA l<|I r i))<|i+1) (J (au++[(270,some<|aD b9<|ms.set ((I r i)).toNat true),(271,some<|ak<|ah<|(aA l<|I r i))]) 272) from b8))))))))) (fun h=>show False by omega)
theorem b1(mc:Mt LL B)(hr:r.length<=1000000)(hk:k<r.length)(h0:0<=(I r k))(h1:(I r k)<(l.length:Int))(hw:¬(aA l<|I r k).wv>0)(H:iD B (gJ l r ms cr fm i a<|k+1)<|J (au++[(270,some<|aD b9 ms),(271,some<|ak<|ah a)]) 272):iD B (gJ l r ms cr fm i a k)<|J (au++[(270,some<|aD b9 ms),(271,some<|ak<|ah a)]) 272:=vC mc H (.st 2<|.rg<|.go 3<|.fk (.en<|.st 5<|.rg<|.go 2<|.bV<|.bW ([i6<|I r k])<|.fk (.go 3<|.bV<|.bW ([i6<|I r k])<|.go 2<|.fk (.go 5<|.bV<|.bW ([i6<|I r k])<|.bV<|.go 1<|.bW ([i6 (aA l<|I r k).wv])<|.fk .no<|.go 14<|.en<|.st 3<|.rg<|.go 1<|.vl (.int .i64 ((k+1:Nat):Int))<|.go 1<|.en<|.st 1<|.ls (kg l r ms cr fm i a<|k+1) (au++[(270,some<|aD b9 ms),(271,some<|ak<|ah a)]) 272 .no) .no) .no) .no)<|ay ((k:Int)<(r.length:Int)) (fun _=>(And.intro (show(0:Int)<=(k:Int) by omega)<|And.intro (show(k:Int)<((r.length:Nat):Int) by omega)<|And.intro (bj (r.map aw).flatten)<|And.intro (gF (r:=r) (i:=k)<|by omega)<|ay ((I r k)>=0) (fun _=>(And.intro (show(0:Int)<=(k:Int) by omega)<|And.intro (show(k:Int)<((r.length:Nat):Int) by omega)<|And.intro (bj (r.map aw).flatten)<|And.intro (gF (r:=r) (i:=k)<|by omega)<|ay ((I r k)<(l.length:Int)) (fun _=>(And.intro (show(0:Int)<=(k:Int) by omega)<|And.intro (show(k:Int)<((r.length:Nat):Int) by omega)<|And.intro (bj (r.map aw).flatten)<|And.intro (gF (r:=r) (i:=k)<|by omega)<|And.intro (show(0:Int)<=(I r k) by omega)<|And.intro (show(I r k)<((l.length:Nat):Int) by omega)<|And.intro (bj (l.map ah).flatten)<|And.intro (kJ (l:=l) (x:=(I r k)) (by omega) (by omega) 5<|by omega)<|ay ((aA l<|I r k).wv>0) (fun h=>show False by omega) fun _=>(And.intro (wN ((k:Int)+1)<|k+1) (show bX (kg l r ms cr fm i a<|k+1) (au++[(270,some<|aD b9 ms),(271,some<|ak<|ah a)]) (gJ l r ms cr fm i a<|k+1) (J (au++[(270,some<|aD b9 ms),(271,some<|ak<|ah a)]) 272) from b8)))) (fun h=>show False by omega))) (fun h=>show False by omega))) (fun h=>show False by omega)
theorem b2(mc:Mt LL B)(hr:r.length<=1000000)(hk:k<r.length)(h0:0<=(I r k))(h1:(I r k)<(l.length:Int))(hw:(aA l<|I r k).wv>0)(hv:¬(aA l<|I r k).wv<=a.rv)(H:iD B (gJ l r ms cr fm i a<|k+1)<|J (au++[(270,some<|aD b9 ms),(271,some<|ak<|ah a)]) 272):iD B (gJ l r ms cr fm i a k)<|J (au++[(270,some<|aD b9 ms),(271,some<|ak<|ah a)]) 272:=vC mc H (.st 2<|.rg<|.go 3<|.fk (.en<|.st 5<|.rg<|.go 2<|.bV<|.bW ([i6<|I r k])<|.fk (.go 3<|.bV<|.bW ([i6<|I r k])<|.go 2<|.fk (.go 5<|.bV<|.bW ([i6<|I r k])<|.bV<|.go 1<|.bW ([i6 (aA l<|I r k).wv])<|.fk (.go 5<|.bV<|.bW ([i6<|I r k])<|.bV<|.go 1<|.bW ([i6 (aA l<|I r k).wv])<|.go 2<|.fk .no<|.go 1<|.en<|.st 3<|.rg<|.go 1<|.vl (.int .i64 ((k+1:Nat):Int))<|.go 1<|.en<|.st 1<|.ls (kg l r ms cr fm i a<|k+1) (au++[(270,some<|aD b9 ms),(271,some<|ak<|ah a)]) 272 .no) .no) .no) .no) .no)<|ay ((k:Int)<(r.length:Int)) (fun _=>(And.intro (show(0:Int)<=(k:Int) by omega)<|And.intro (show(k:Int)<((r.length:Nat):Int) by omega)<|And.intro (bj (r.map aw).flatten)<|And.intro (gF (r:=r) (i:=k)<|by omega)<|ay ((I r k)>=0) (fun _=>(And.intro (show(0:Int)<=(k:Int) by omega)<|And.intro (show(k:Int)<((r.length:Nat):Int) by omega)<|And.intro (bj (r.map aw).flatten)<|And.intro (gF (r:=r) (i:=k)<|by omega)<|ay ((I r k)<(l.length:Int)) (fun _=>(And.intro (show(0:Int)<=(k:Int) by omega)<|And.intro (show(k:Int)<((r.length:Nat):Int) by omega)<|And.intro (bj (r.map aw).flatten)<|And.intro (gF (r:=r) (i:=k)<|by omega)<|And.intro (show(0:Int)<=(I r k) by omega)<|And.intro (show(I r k)<((l.length:Nat):Int) by omega)<|And.intro (bj (l.map ah).flatten)<|And.intro (kJ (l:=l) (x:=(I r k)) (by omega) (by omega) 5<|by omega)<|ay ((aA l<|I r k).wv>0) (fun _=>(And.intro (show(0:Int)<=(k:Int) by omega)<|And.intro (show(k:Int)<((r.length:Nat):Int) by omega)<|And.intro (bj (r.map aw).flatten)<|And.intro (gF (r:=r) (i:=k)<|by omega)<|And.intro (show(0:Int)<=(I r k) by omega)<|And.intro (show(I r k)<((l.length:Nat):Int) by omega)<|And.intro (bj (l.map ah).flatten)<|And.intro (kJ (l:=l) (x:=(I r k)) (by omega) (by omega) 5<|by omega)<|ay ((aA l<|I r k).wv<=a.rv) (fun h=>show False by omega) fun _=>(And.intro (wN ((k:Int)+1)<|k+1) (show bX (kg l r ms cr fm i a<|k+1) (au++[(270,some<|aD b9 ms),(271,some<|ak<|ah a)]) (gJ l r ms cr fm i a<|k+1) (J (au++[(270,some<|aD b9 ms),(271,some<|ak<|ah a)]) 272) from b8)))) (fun h=>show False by omega))) (fun h=>show False by omega))) (fun h=>show False by omega))) (fun h=>show False by omega)
theorem b3(mc:Mt LL B)(hr:r.length<=1000000)(hi:i<r.length)(BX:ms.length<=1000000)(hk:r.length<=k)(H:iD B (gw l r ms cr fm<|i+1)<|J (au++[(270,some<|aD b9 ms)]) 271):iD B (gJ l r ms cr fm i a k)<|J (au++[(270,some<|aD b9 ms),(271,some<|ak<|ah a)]) 272:=vC mc H (.st 2<|.rg<|.go 3<|.fk .no<|.en<|.st 3<|.rg<|.go 1<|.vl (.int .i64 ((i+1:Nat):Int))<|.go 1<|.en<|.st 1<|.bk (jL l r ms cr fm<|i+1) (au++[(270,some<|aD b9 ms)]) 271 .no)<|ay ((k:Int)<(r.length:Int)) (fun h=>show False by omega) fun _=>(And.intro (wN ((i:Int)+1)<|i+1) (show oM 271 (jL l r ms cr fm<|i+1) (au++[(270,some<|aD b9 ms)]) (gw l r ms cr fm<|i+1) (J (au++[(270,some<|aD b9 ms)]) 271) from pW<|pG (by omega) ⟨ke,ke,FG (by omega),fb,fb,fb,trivial⟩ ⟨kT (LW<|by omega),trivial⟩))
theorem aE(mc:Mt LL B)(h:r.length<=i)(hn:r.length=l.length):iD B (gw l r ms cr fm i)<|J (au++[(270,some<|aD b9 ms)]) 271:=wS mc (L:=LL) (R:=fun r0 _=>r0= .bool true) (.st 2<|.rg<|.go 3<|.fk .no<|.en<|.st 3<|.rg<|.go 4<|.fk (.go 1<|.en<|.rt 2<|.no) .no)<|ay ((i:Int)<(r.length:Int)) (fun h=>show False by omega) fun _=>(ay ((r.length:Int)=(l.length:Int)) (fun _=>(show AV.bool true=AV.bool true from rfl)) (fun h=>show False by omega))
end
end EZ
end
section
open Go Go.Rn Go.RowKit Go.Proofs
namespace Kl
open dx dG ep eV gq jX jb lD te mw ou A4 EX EY Es vY EZ
def kM(r:List Int)(n i:Nat):List Bool:=(List.range n).map fun(k:Nat)=>decide<|((k:Nat):Int)∈r.take i
theorem qi(r:List Int)(n i:Nat):(kM r n i).length=n:=by unfold kM;rw[List.length_map,List.length_range]
theorem Qf{r:List Int}{n i k:Nat}(h:k<n):vY.mt (kM r n i) k=decide (((k:Nat):Int)∈r.take i):=by unfold vY.mt kM;rw[List.getD_eq_getElem?_getD,List.getElem?_map,List.getElem?_range h];rfl
theorem OB(r:List Int)(n:Nat):kM r n 0=List.replicate n false:=by refine List.ext_getElem (by rw[qi,List.length_replicate]) fun k h1 h2=>?_;rw[List.getElem_replicate];unfold kM;simp
theorem HX{r:List Int}{n i k:Nat}(hi:i<r.length)(hk:I r i=(k:Int))(hn:k<n):(kM r n i).set (I r i).toNat true=kM r n (i+1):=by
 rw[hk,Int.toNat_natCast];refine List.ext_getElem (by rw[List.length_set,qi,qi]) fun j h1 h2=>?_;rw[qi] at h2;rw[List.getElem_set];have e:r.take (i+1)=r.take i++[(k:Int)]:=by rw[List.take_add_one,Av hi,hk];rfl
 have key:(kM r n<|i+1)[j]'(by rw[qi];exact h2)=decide (((j:Nat):Int)∈r.take i\/j=k):=by unfold kM;rw[List.getElem_map,List.getElem_range,e];refine decide_eq_decide.2 ?_;rw[List.mem_append,List.mem_singleton];exact⟨fun h=>h.imp id fun h=>by omega,fun h=>h.imp id fun h=>by rw[h]⟩
 rw[key];split
 ·rename_i q;rw[decide_eq_true<|.inr q.symm]
 ·rename_i q;unfold kM;rw[List.getElem_map,List.getElem_range];exact decide_eq_decide.2 ⟨.inl,fun h=>h.resolve_right fun e=>q e.symm⟩
theorem JL{v:Int}:∀{l:List At} {last:Int} {m:List Int},mv v l last m->(∀a∈l,a.wv>0->a.wv ∉ m)/\l.Pairwise (fun a b=>b.wv>0->a.wv≠b.wv)
 |[],_,_,_=>⟨fun a h=>(by cases h),.nil⟩
 |a::l,last,m,h=>by
  obtain⟨h1,h2⟩:=JL h.2;have ins:∀x,x ∉ ir m a.wv->x ∉ m/\a.wv≠x:=fun x hx=>by
   unfold ir at hx;split at hx
   ·rename_i q;exact⟨hx,fun e=>hx (by rw[←e];exact q)⟩
   ·exact⟨fun q=>hx<|List.mem_append_left _ q,fun e=>hx (by rw[e];exact List.mem_append_right _ List.mem_cons_self)⟩
  refine⟨fun b hb hw=>?_,.cons (fun b hb hw=>(ins _<|h1 b hb hw).2) h2⟩;rcases List.mem_cons.1 hb with rfl|hb
  ·exact(h.1.w1 hw).2
  ·exact(ins _<|h1 b hb hw).1
theorem JM{v:Int}:∀{l:List At} {last:Int} {m:List Int},mv v l last m->∀a∈l,0<=a.rv/\0<=a.wv
 |a::l,last,m,h,b,hb=>by
  rcases List.mem_cons.1 hb with rfl|hb
  ·exact⟨h.1.rv.1,h.1.wv.1⟩
  ·exact JM h.2 b hb
theorem DZ{v:Int}:∀{l:List At} {last:Int} {m:List Int},mv v l last m->(∀a∈l,last<a.fr)/\l.Pairwise (fun a b=>a.fr<b.fr)
 |[],_,_,_=>⟨fun a h=>(by cases h),.nil⟩
 |a::l,last,m,h=>by
  obtain⟨h1,h2⟩:=DZ h.2;have h0:=h.1.fr;refine⟨fun b hb=>?_,.cons h1 h2⟩;rcases List.mem_cons.1 hb with rfl|hb
  ·omega
  ·have:=h1 b hb;omega
section
variable {init:List Int} {l:List At} {r:List Int}
theorem UY(h:qR init l):oO l:=fun i j dp hj=>by have p:=(DZ h.2).2;rw[List.pairwise_iff_getElem] at p;rw[qp (by omega),qp hj];exact p i j (by omega) hj dp
theorem Rb(h:qR init l):nb l:=fun x y hx hy e=>by
 have p:=(JL h.2).2;rw[List.pairwise_iff_getElem] at p;obtain⟨⟨VQ,Lp⟩,BP⟩:=hx;obtain⟨⟨VS,VT⟩,LY⟩:=hy;obtain⟨i,rfl⟩:∃i:Nat,x=(i:Int):=⟨x.toNat,by omega⟩;obtain⟨j,rfl⟩:∃j:Nat,y=(j:Int):=⟨y.toNat,by omega⟩;rw[qp<|by omega] at BP e;rw[qp<|by omega] at LY e;rcases Nat.lt_trichotomy i j with q|q|q
 ·exact absurd e<|p i j (by omega) (by omega) q LY
 ·rw[q]
 ·exact absurd e.symm<|p j i (by omega) (by omega) q BP
theorem Qg(h:A5 l r){i:Nat}(hi:i<r.length):I r i ∉ r.take i:=fun q=>by obtain⟨j,hj,e⟩:=List.mem_iff_getElem.1 q;rw[List.length_take] at hj;rw[List.getElem_take,hZ hi] at e;have:=(List.getElem_inj h.nd).1 e;omega
end
section
variable {B:aH} {init:List Int} {l:List At} {r:List Int}
theorem vW(mc:Mt LL B)(hl:l.length<=60)(h:A5 l r){ms:List Bool}(BX:ms.length=l.length){cr fm:Int}{i:Nat}(hi:i<r.length){a:At}(hy:∀y∈r.drop (i+1),(aA l y).wv>0->a.rv<(aA l y).wv)(H:iD B (gw l r ms cr fm<|i+1)<|J (au++[(270,some<|aD b9 ms)]) 271):∀(n k:Nat),r.length - k=n->i<k->k<=r.length->iD B (gJ l r ms cr fm i a k) (J (au++[(270,some<|aD b9 ms),(271,some<|ak<|ah a)]) 272)
 |0,k,hn,h1,hk=>b3 mc (by have:=h.len;omega) hi (by omega) (by omega) H
 |n+1,k,hn,h1,hk=>by
  have fu:k<r.length:=by omega
  have ih:=vW mc hl h BX hi hy H n (k+1) (by omega) (by omega) (by omega);obtain⟨j,e,hj⟩:=h.rg _<|at_mem fu;have hlen:=h.len;have fw:I r k∈r.drop (i+1):=by have:=at_mem (l:=r.drop<|i+1) (i:=k - (i+1)) (by rw[List.length_drop];omega);rw[oY,show i+1+(k - (i+1))=k by omega] at this;exact this
  by_cases q:(aA l<|I r k).wv>0
  ·exact b2 mc (by omega) fu (by omega) (by omega) q (by have:=hy _ fw q;omega) ih
  ·exact b1 mc (by omega) fu (by omega) (by omega) q ih
theorem tB(mc:Mt LL B)(hl:l.length<=60)(h:A5 l r):∀(n i:Nat) (cr fm:Int),r.length - i=n->i<=r.length->pg l cr fm (r.drop i)->iD B (gw l r (kM r l.length i) cr fm i) (J (au++[(270,some<|aD b9<|kM r l.length i)]) 271)
 |0,i,cr,fm,hn,hi,hg=>aE mc (by omega) h.len
 |n+1,i,cr,fm,hn,hi,hg=>by
  have bR:i<r.length:=by omega
  have hlen:=h.len;obtain⟨k,e1,k1⟩:=h.rg _<|at_mem bR;have jV:=Qg h bR;have gI:vY.mt (kM r l.length i) (I r i).toNat=false:=by rw[e1,Int.toNat_natCast,Qf k1];rw[e1] at jV;exact decide_eq_false jV
  rw[List.drop_eq_getElem_cons bR, ←hZ bR] at hg;obtain⟨g1,g2⟩:=hg;by_cases hw:(aA l<|I r i).wv>0
  ·obtain⟨g1,g3⟩:=g1 hw;have ih:=tB mc hl h n (i+1) _ _ (by omega) (by omega) g3;rw[←HX bR e1 k1] at ih;exact a1 mc (by omega) (by omega) (qi _ _ _) bR (by omega) (by omega) gI hw (by omega) ih
  ·obtain⟨g3,g4,g5,g6⟩:=g2 hw;have ih:=tB mc hl h n (i+1) _ _ (by omega) (by omega) g6;rw[←HX bR e1 k1] at ih;exact a2 mc (by omega) (by omega) (qi _ _ _) bR (by omega) (by omega) gI hw (by omega) (by omega) (vW mc hl h (by rw[List.length_set,qi]) bR g5 ih _ (i+1) rfl (by omega)<|by omega)
theorem Pv(mc:Mt LL B):iD B ⟨3,bG [aq aw init,aq ah l],(max Tryz.f3.ntmps 2),[.code<|aI Tryz.prog 3 []],[],none⟩<|J au 270:=by
 by_cases h:qT init l
 ·exact w1 mc h
 by_cases h1:qR init l
 ·have ha:=Rb h1;have hu:=UY h1;obtain⟨w,hw⟩:=xS.bI.ex (l:=eN l l.length) (a:=0) (b:=(eN l l.length).length) (xm ha) (sS l) (Nat.zero_le _)<|Nat.le_refl _;have hw:nA l w:=hw;have ho:=Q8 ha hw hu (fun i hi=>by have:=(DZ h1.2).1 (aA l (i:Int)) (by rw[qp hi];exact List.getElem_mem _);exact this) fun i hi=>(JM h1.2 (aA l (i:Int)) (by rw[qp hi];exact List.getElem_mem _)).1;have:=tB mc (vF h) ho _ 0 0 (-1) rfl (Nat.zero_le _) ho.S4;rw[OB] at this;exact w3 mc h h1 ha hu hw this
 ·exact w2 mc h h1
theorem Rc(hP:du Tryz.prog):cJ LL:=OA hP<|Pu hP<|Q7 hP<|P7 hP gO
end
end Kl
end
section
open Go Go.Rn Go.RowKit Go.Proofs
open Go.ChangeShapes
namespace R6
open dx ep gq EZ Kl
section
variable {H:Type} {enc:TypeId×Value->H} {w:World} {base:Nat} {sp:Nat->Bool} {held:Bool}
theorem LZ:Tryz.prog.cellsOf 2=1:=by kernel_rfl
theorem L0:Tryz.prog.cellsOf 3=1:=by kernel_rfl
theorem UZ:Tryz.prog.cellsOf 4=1:=by kernel_rfl
theorem S6:Tryz.prog.cellsOf 33=1:=by kernel_rfl
theorem S7:Tryz.prog.cellsOf 35=9:=by kernel_rfl
theorem K8:Tryz.prog.cellsOf 49=2:=by kernel_rfl
theorem o9{x y:Value}(h:[x]=[y]):x=y:=by injection h
theorem Qh{t:TypeId}{fuel:Nat}(hu:Tryz.prog.underlying t=some (.int .i64))(row:List Value)(_:row.length=1)(h2:∃n y,n<fuel/\DataW.trod enc Tryz.prog w base sp held n t row=some y):∃a ms,xR w aw (fun _=>True) row a ms:=by
 obtain⟨_,y,_,h⟩:=h2;obtain⟨a,rfl,_,_⟩:=DataW.trod_int hu h;refine⟨a,[],trivial,Good.nil,fun j x hx=>?_⟩;rcases j with _|j
 ·injection (show some _=some x from hx) with hx
  subst hx;exact⟨_,rfl,fun σ _=>by simp only[VR]⟩
 ·cases(show none=some x from hx)
theorem JN{fuel:Nat}(row:List Value)(dQ:row.length=2)(h2:∃n y,n<fuel/\DataW.trod enc Tryz.prog w base sp held n 49 row=some y):∃a ms,xR w cR (fun _=>True) row a ms:=by
  obtain⟨_,y,_,h⟩:=h2
  obtain⟨xs,n,_,_,hlen,F5,hf⟩:=DataW.trod_struct Tryz.underlying49 h
  have S8:xs.length=2:=F5
  match row,dQ,xs,S8,hf with
  | [c0, c1],_,[x0,x1],_,hf=>
    have f0:DataW.trod enc Tryz.prog w base sp held n 3 (([c0,c1].drop 0).take<|Tryz.prog.cellsOf 3)=some x0:=hf 0 _ rfl
    have f1:DataW.trod enc Tryz.prog w base sp held n 2 (([c0,c1].drop 1).take<|Tryz.prog.cellsOf 2)=some x1:=hf 1 _ rfl
    rw[L0] at f0
    rw[LZ] at f1
    obtain⟨a0,e0,_,_⟩:=DataW.trod_int Tryz.underlying3 f0
    obtain⟨a1,e1,_,_⟩:=DataW.trod_int Tryz.underlying2 f1
    obtain rfl:=o9 e0
    obtain rfl:=o9 e1
    refine⟨(a0,a1),[],trivial,Good.nil,fun j x hx=>?_⟩
    rcases j with _|_|j
    all_goals first
      | (injection (show some _=some x from hx) with hx
         subst hx
         exact⟨_,rfl,fun σ _=>by simp only[VR]⟩)
      |cases(show none=some x from hx)
theorem Re{fuel:Nat}(row:List Value)(dQ:row.length=9)(h2:∃n y,n<fuel/\DataW.trod enc Tryz.prog w base sp held n 35 row=some y):∃a ms,xR w ah (fun _=>True) row a ms:=by
  obtain⟨_,y,_,h⟩:=h2
  obtain⟨xs,n,_,_,hlen,F5,hf⟩:=DataW.trod_struct Tryz.underlying35 h
  have S9:xs.length=9:=F5
  match row,dQ,xs,S9,hf with
  | [c0,c1,c2,c3,c4,c5,c6,c7,c8],_,[x0,x1,x2,x3,x4,x5,x6,x7,x8],_,hf=>
    have f0:DataW.trod enc Tryz.prog w base sp held n 3 (([c0,c1,c2,c3,c4,c5,c6,c7,c8].drop 0).take<|Tryz.prog.cellsOf 3)=some x0:=hf 0 _ rfl
    have f1:DataW.trod enc Tryz.prog w base sp held n 3 (([c0,c1,c2,c3,c4,c5,c6,c7,c8].drop 1).take<|Tryz.prog.cellsOf 3)=some x1:=hf 1 _ rfl
    have f2:DataW.trod enc Tryz.prog w base sp held n 3 (([c0,c1,c2,c3,c4,c5,c6,c7,c8].drop 2).take<|Tryz.prog.cellsOf 3)=some x2:=hf 2 _ rfl
    have f3:DataW.trod enc Tryz.prog w base sp held n 3 (([c0,c1,c2,c3,c4,c5,c6,c7,c8].drop 3).take<|Tryz.prog.cellsOf 3)=some x3:=hf 3 _ rfl
    have f4:DataW.trod enc Tryz.prog w base sp held n 3 (([c0,c1,c2,c3,c4,c5,c6,c7,c8].drop 4).take<|Tryz.prog.cellsOf 3)=some x4:=hf 4 _ rfl
    have f5:DataW.trod enc Tryz.prog w base sp held n 3 (([c0,c1,c2,c3,c4,c5,c6,c7,c8].drop 5).take<|Tryz.prog.cellsOf 3)=some x5:=hf 5 _ rfl
    have f6:DataW.trod enc Tryz.prog w base sp held n 4 (([c0,c1,c2,c3,c4,c5,c6,c7,c8].drop 6).take<|Tryz.prog.cellsOf 4)=some x6:=hf 6 _ rfl
    have f7:DataW.trod enc Tryz.prog w base sp held n 33 (([c0,c1,c2,c3,c4,c5,c6,c7,c8].drop 7).take<|Tryz.prog.cellsOf 33)=some x7:=hf 7 _ rfl
    have f8:DataW.trod enc Tryz.prog w base sp held n 33 (([c0,c1,c2,c3,c4,c5,c6,c7,c8].drop 8).take<|Tryz.prog.cellsOf 33)=some x8:=hf 8 _ rfl
    rw[L0] at f0 f1 f2 f3 f4 f5
    rw[UZ] at f6
    rw[S6] at f7 f8
    obtain⟨a0,e0,_,_⟩:=DataW.trod_int Tryz.underlying3 f0
    obtain⟨a1,e1,_,_⟩:=DataW.trod_int Tryz.underlying3 f1
    obtain⟨a2,e2,_,_⟩:=DataW.trod_int Tryz.underlying3 f2
    obtain⟨a3,e3,_,_⟩:=DataW.trod_int Tryz.underlying3 f3
    obtain⟨a4,e4,_,_⟩:=DataW.trod_int Tryz.underlying3 f4
    obtain⟨a5,e5,_,_⟩:=DataW.trod_int Tryz.underlying3 f5
    obtain⟨a6,e6,_⟩:=DataW.trod_bool Tryz.underlying4 f6
    obtain rfl:=o9 e0
    obtain rfl:=o9 e1
    obtain rfl:=o9 e2
    obtain rfl:=o9 e3
    obtain rfl:=o9 e4
    obtain rfl:=o9 e5
    obtain rfl:=o9 e6
    obtain⟨l7,m7,_,g7,i7⟩:=Ah (Q:=fun _:Pr=>True) eP (Nat.succ_pos _) Tryz.underlying33 K8 JN (show DataW.trod enc Tryz.prog w base sp held n 33 [c7]=some x7 from f7)
    obtain⟨l8,m8,_,g8,i8⟩:=Ah (Q:=fun _:Pr=>True) eP (Nat.succ_pos _) Tryz.underlying33 K8 JN (show DataW.trod enc Tryz.prog w base sp held n 33 [c8]=some x8 from f8)
    refine⟨⟨a0,a1,a2,a3,a4,a5,a6,l7,l8⟩,m7++m8,trivial,g7.app g8,fun j x hx=>?_⟩
    rcases j with _|_|_|_|_|_|_|_|_|j
    all_goals first
      |cases(show none=some x from hx)
      | injection (show some _=some x from hx) with hx
        subst hx
        first
          |exact⟨_,rfl,i7.sub fun p hp=>List.mem_append_left _ hp⟩
          |exact⟨_,rfl,i8.sub fun p hp=>List.mem_append_right _ hp⟩
          |exact⟨_,rfl,fun σ _=>by simp only[VR]⟩
theorem IC{t e:TypeId}{v:Value}{b0:Nat}(hu:Tryz.prog.underlying t=some (.slice e))(cO:Value.okWide Tryz.prog w .any b0 t v):∃a len cap,v= .slice a len cap:=by unfold Value.okWide at cO;rw[hu] at cO;simp only at cO;unfold Cell.okWide at cO;rw[hu] at cO;cases v<;>first|exact⟨_,_,_,rfl⟩|(exfalso;unfold Cell.ok at cO;rw[hu] at cO;simp at cO)
theorem U9{v:Value}{d:DataW H}{p:List MemPlace}{b0:Nat}(cO:Value.okWide Tryz.prog w .any b0 22 v)(h:DataW.Trod enc Tryz.prog w base sp held 22 v d p):∃(l:List Int) (ms:jg),Good w ms/\Is ms (aq aw l) v:=by obtain⟨fuel,h⟩:=h;obtain⟨a,len,cap,rfl⟩:=IC Tryz.underlying22 cO;obtain⟨l,ms,_,k2,k3⟩:=Ah (Q:=fun _:Int=>True) eI (Nat.succ_pos _) Tryz.underlying22 LZ (Qh Tryz.underlying2) (show DataW.trod enc Tryz.prog w base sp held fuel 22 [.slice a len cap]=some (d,p) from h);exact⟨l,ms,k2,k3⟩
theorem Vc{v:Value}{d:DataW H}{p:List MemPlace}{b0:Nat}(cO:Value.okWide Tryz.prog w .any b0 23 v)(h:DataW.Trod enc Tryz.prog w base sp held 23 v d p):∃(l:List gq.At) (ms:jg),Good w ms/\Is ms (aq ah l) v:=by obtain⟨fuel,h⟩:=h;obtain⟨a,len,cap,rfl⟩:=IC Tryz.underlying23 cO;obtain⟨l,ms,_,k2,k3⟩:=Ah (Q:=fun _:gq.At=>True) eA (Nat.succ_pos _) Tryz.underlying23 S7 Re (show DataW.trod enc Tryz.prog w base sp held fuel 23 [.slice a len cap]=some (d,p) from h);exact⟨l,ms,k2,k3⟩
end
theorem R7:Tryz.f3.body=some (aI Tryz.prog 3 []):=O2 Tryz.func3 (by kernel_rfl)
theorem Vd(hP:du Tryz.prog)(W:World){ρ:aj}(S:Rn.Start 270 dy ρ W){v1 v2:Value}{init:List Int}{l:List gq.At}{m1 m2:jg}(g1:Good W m1)(i1:Is m1 (aq aw init) v1)(g2:Good W m2)(i2:Is m2 (aq ah l) v2):
 Calls Tryz.prog 3 #[v1,v2] W fun e w'=>e= .returned (.bool true)/\Below W.heap.size W w':=by
 let B:aH:=⟨fun k=>W.heap.size<=k,FU,fun _=>True,oq XT 270,W.heap.size,fun h a b=>h.mono a b⟩;have g:Good W<|m1++m2:=g1.app g2;have r:Rel B (ky (m1++m2) ρ) dy W:=S.RY B (Nat.le_trans (by decide) DQ) g;have hh:Has (ky (m1++m2) ρ)<|m1++m2:=HV;have U0:=VR.mono (DA _) _ _<|i1 _<|hh.sub fun p hp=>List.mem_append_left _ hp;have U1:=VR.mono (DA _) _ _<|i2 _<|hh.sub fun p hp=>List.mem_append_right _ hp;have mc:Mt LL B:=EO hP (Rc hP) rfl rfl;have H:=Pv (init:=init) (l:=l) mc;have hg:eh<|ky (m1++m2) ρ:=fun g hg=>by obtain⟨N,e⟩:=S.g g hg;exact⟨N,Ai _ _ e⟩
 have hf:∀k,270<=k->k<top->ky (m1++m2) ρ k=none:=fun k h1 h2=>by rw[CT h2];exact S.free k h1
 have hv:av (ky (m1++m2) ρ) [aq aw init,aq ah l] (#[v1,v2]:Array Value).toList:=⟨_,_,rfl,U0,_,_,rfl,U1,rfl⟩;have r':Rel B (ky (m1++m2) ρ) (J au 270).h W:=by rw[qz];exact r
 have bh:=bw.calls (args:=[aq aw init,aq ah l]) hP Tryz.func3 R7 (aK.1<|by kernel_rfl) H (PH<|by kernel_rfl) r' hg hf hv;refine bh.mono fun e w'=>?_;rintro ⟨v,x,s3,rfl,rfl,_,_,σ,_,q2,_,q4⟩;simp only[VR] at q2;exact⟨by rw[q2],q4.os,q4.tape,q4.output,q4.size,fun k hk=>q4.block k hk (by show ¬(W.heap.size<=k);omega)⟩
end R6
end
