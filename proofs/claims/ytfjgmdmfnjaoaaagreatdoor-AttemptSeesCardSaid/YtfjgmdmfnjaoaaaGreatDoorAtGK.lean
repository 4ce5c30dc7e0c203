import Derived.Test.YtfjgmdmfnjaoaaaGreatDoorAtGJ
import Derived.Test.YtfjgmdmfnjaoaaaGreatDoorRnGH
import Derived.Test.YtfjgmdmfnjaoaaaGreatDoorAtGI
set_option maxRecDepth 100000
set_option maxHeartbeats 8000000
set_option linter.unusedSimpArgs false
set_option linter.unusedVariables false
section
open Go Go.Rn Go.RowKit Go.Proofs
namespace gO
open cv cG cR cW eH fy dt fW pL vT xK qx G1 Km
variable {k N L K:Nat} {B:aL} {to ob oa nb na kd i:Int} {lb la:List Ex} {el bd W:List St} {v x:AV} {α:Type} {r:Nat->Nat} {enc:α->List AV}
noncomputable section
theorem NB:∀p∈ar,∀y,p.2=some y->y.pk=true:=by
 have h:(ar.all fun p=>Jw p.2)=true:=by kernel_rfl
 intro p hp y hy;have:=List.all_eq_true.1 h p hp;rw[hy] at this;exact this
def qy:Nat->List St->Bool
 |0,_=>false
 |k+1,l=>decide (l.length<=10000)&&l.all fun s=>pb 6 (iq s)&&(pb 6 (gu s)&&(qy k (cn s)&&qy k (cj s)))
theorem abr(x:St):(aP x).all AV.cf=true:=List.all_eq_true.2 fun y hy=>Ir<|List.all_eq_true.1 (mC.ga x) y hy
theorem Bp(hr:∀k,top<=k->r k=k)(h:x.hi=true):bw r x x:=fun ρ v hv=>AV.py (fun k y hk e=>by rw[hr k hk];exact e) h hv
theorem abt(h:x.ga=true):x.hi=true:=by have:=CZ h;cases x<;>first|exact this|cases h
theorem I9(he:mw K enc)(l:List α)(hl:l.length*K<=top){fz:ng}(hr:∀k,top<=k->r k=k):iu fz r (aN enc l)<|aN enc l:=by
 have hz:∀(m:List AV),m.all AV.ga=true->mH fz r m m:=by
  intro m;induction m with
  |nil=>intro _;trivial
  |cons a m ih=>intro h;rw[List.all_cons,Bool.and_eq_true] at h;exact⟨(Bp hr<|abt h.1).z,ih h.2⟩
 exact iu.cells (by rw[he.length];exact hl) (hz _<|he.all l)<|List.all_eq_true.2 fun y hy=>Ir<|List.all_eq_true.1 (he.all l) y hy
theorem Wq(he:mw K enc)(W:List α){n bz:Nat}{l0 l:List<|Nat×AV}(hl:W.length*K<=top)(hn:270<=n)(iY:n<top)(hs:bz<top)(h:∀r:Nat->Nat,r 270=n->(∀k,top<=k->r k=k)->∀p∈l,p.1<top/\∃x,(p.1,x)∈l0/\oM [] r x p.2):
 iV FU 270 bz l0 (ar++[(n,some<|aN enc W)]) l (ar++[(270,some<|aN enc W)]) 271:=by
 let r:Nat->Nat:=fun k=>if k=270 then n else if k<270\/top<=k then k else max k bz
 have r0:r 270=n:=if_pos rfl;have rl:∀k,k<270->r k=k:=fun k hk=>by show(if _ then _ else _)=_;rw[if_neg ae,if_pos<|.inl hk]
 have t0:270<top:=by unfold top;omega
 have rt:∀k,top<=k->r k=k:=fun k hk=>by show(if _ then _ else _)=_;rw[if_neg ae,if_pos<|.inr hk]
 have uB:∀p∈ar,p.1<270:=fun p hp=>by obtain⟨k,hk,e⟩:=List.mem_map.1 hp;rw[←e];exact ig k hk
 refine⟨[],r,rl,fun k h1 h2=>?_,rt,by unfold top;omega,h r r0 rt,fun p hp=>?_,fun p hp q hq _ _ e=>?_,fun p hp=>nO,fun p hp=>nO⟩
 ·show bz<=(if _ then _ else _)/\(if _ then _ else _)<top;rw[if_neg ae,if_neg ae];omega
 ·rcases List.mem_append.1 hp with hp|hp
  ·have bB:=uB p hp;refine⟨by omega,fun y hy=>?_⟩;rw[rl _ bB];refine⟨by omega,?_,y,?_,gJ.refl _,(FG (nx:=270) rl cH p hp y hy).z⟩
   ·exact NB p hp y hy
   ·refine List.mem_append_left _ ?_;rw[←hy];exact hp
  ·rw[List.mem_singleton] at hp;subst hp;refine⟨t0,fun y hy=>?_⟩;cases hy;refine⟨by rw[r0];exact iY,rfl,_,by rw[r0];exact List.mem_append_right _<|List.mem_singleton.2 rfl,gJ.refl _,I9 he W hl rt⟩
 ·have nm:∀p∈ar++[(270,some<|aN enc W)],p.1<270\/p.1=270:=fun p hp=>by
   rcases List.mem_append.1 hp with hp|hp
   ·exact .inl<|uB p hp
   ·rw[List.mem_singleton] at hp;subst hp;exact .inr rfl
  rcases nm p hp with a|a<;>rcases nm q hq with b|b
  ·rw[rl _ a,rl _ b] at e;exact e
  ·rw[b,r0,rl _ a] at e;omega
  ·rw[a,r0,rl _ b] at e;omega
  ·rw[a,b]
def ql(k:Nat)(args:List AV)(v:AV):Prop:=∃l:List St,args=[.U (nm<|bA l) 0 l.length]/\qy k l=true/\v= .U (nm<|bA l) 0 l.length
theorem ql.bW(args:List AV)(v v':AV)(h:ql k args v)(h':ql k args v'):v=v':=by obtain⟨l,rfl,_,rfl⟩:=h;obtain⟨l',h1,_,rfl⟩:=h';injection h1 with h1 _
def oC(k:Nat):FuncId×KE:=(40,.val<|aW<|ql k)
def KU(N L:Nat):List<|Nat×AV:=[(3,(.slice none 0<|.known 0)),(6,(.U N 0 L)),(7,(i6<|(L:Int))),(8,i0)]
def En(N L:Nat):AF:=⟨40,aQ<|KU N L,max Tryz.f40.ntmps 1,[.code<|a9 pg 40 [1,1,0,1,0,0],.inLoop<|a9 pg 40 [1,1,0,1,0,0],.inBlock 0,.code<|a9 pg 40 [1,1,1]],[],none⟩
def BV(N L:Nat)(W:List St)(i:Int):List<|Nat×AV:=[(3,(.slice (some (270,0)) (W.length)<|.aq W.length 10)),(6,(.U N 0 L)),(7,(i6<|(L:Int))),(8,(i6 i))]
def ug(N L:Nat)(W:List St)(i:Int):AF:=⟨40,aQ<|BV N L W i,max Tryz.f40.ntmps 1,[.code<|a9 pg 40 [1,1,0,1,0,0],.inLoop<|a9 pg 40 [1,1,0,1,0,0],.inBlock 0,.code<|a9 pg 40 [1,1,1]],[],none⟩
theorem aje(N L:Nat):((KU N L).map (fun q=>some q.2)=(KU N L).map (fun q=>some q.2))/\(ar.map (fun q=>q.2)=ar.map (fun q=>q.2))/\(En N L=En N L/\ak ar 270=ak ar 270):=⟨rfl,rfl,rfl,rfl⟩
theorem ajf(mc:Mt [rL 6,oC k] B)(H:au pg B 270 (Fin pg (az Tryz.f40) fun y _=>y=v) (En N L)<|ak ar 270):au pg B 270 (Fin pg (az Tryz.f40) fun y _=>y=v) (sF 40 Tryz.f40 [(.U N 0 L)])<|ak ar 270:=by exact wC mc (C:=(fun fr s1 _=>fr=En N L/\s1=ak ar 270)) nr (.st 9<|.ls (KU N L) ar 270 .no)<|aje N L
noncomputable abbrev JI(N L:Nat):List<|Nat×AV:=[(3,(.slice (some (272,0)) (1)<|.aq 1 10)),(6,(.U N 0 L)),(7,(i6<|(L:Int))),(8,(i6<|.ofNat 1))]
noncomputable abbrev Dp(kd to oa na:Int)(la:List Ex)(ob nb:Int)(lb:List Ex)(bd el:List St):List<|Nat×Option ab:=ar++[(270,some<|aN aP<|[(St.mk kd to (Ex.mk oa na la) (Ex.mk ob nb lb) bd el)])]
theorem ajg(hn:top<=N)(hW:[(St.mk kd to (Ex.mk oa na la) (Ex.mk ob nb lb) bd el)].length<=20000):(((JI N L):List<|Nat×AV).map (fun q=>some q.2)=((JI N L):List<|Nat×AV).map (fun q=>some q.2))/\((ar++[(272,some<|aN aP [(St.mk kd to (Ex.mk oa na la) (Ex.mk ob nb lb) bd el)])]:List<|Nat×Option ab).map (fun q=>q.2)=(ar++[(272,some<|aN aP [(St.mk kd to (Ex.mk oa na la) (Ex.mk ob nb lb) bd el)])]:List<|Nat×Option ab).map (fun q=>q.2))/\iV FU 270 273 (JI N L) (ar++[(272,some<|aN aP [(St.mk kd to (Ex.mk oa na la) (Ex.mk ob nb lb) bd el)])]) (BV N L ([(St.mk kd to (Ex.mk oa na la) (Ex.mk ob nb lb) bd el)]) 1) (Dp kd to oa na la ob nb lb bd el) 271/\(ug N L ([(St.mk kd to (Ex.mk oa na la) (Ex.mk ob nb lb) bd el)]) 1=ug N L ([(St.mk kd to (Ex.mk oa na la) (Ex.mk ob nb lb) bd el)]) 1/\ak (Dp kd to oa na la ob nb lb bd el) 271=ak (Dp kd to oa na la ob nb lb bd el) 271):=
 ⟨rfl,rfl,Wq mC [(St.mk kd to (Ex.mk oa na la) (Ex.mk ob nb lb) bd el)] (n:=272) (bz:=273) iy ae iy iy (fun r r0 r2 p hp=>by
  simp only[BV,List.mem_cons,List.not_mem_nil,or_false] at hp;rcases hp with rfl|rfl|rfl|rfl
  ·exact⟨by unfold top;omega,_,List.mem_cons_self,(bw.slice r0).z⟩
  ·exact⟨by unfold top;omega,_,(List.mem_cons_of_mem _ List.mem_cons_self),(bw.U (r2 _ hn) r2).z⟩
  ·exact⟨by unfold top;omega,_,(List.mem_cons_of_mem _<|List.mem_cons_of_mem _ List.mem_cons_self),(bw.int _ _).z⟩
  ·exact⟨by unfold top;omega,_,(List.mem_cons_of_mem _<|List.mem_cons_of_mem _<|List.mem_cons_of_mem _ List.mem_cons_self),(bw.int _ _).z⟩),rfl,rfl⟩
noncomputable abbrev JJ(kd to oa na:Int)(la:List Ex)(ob nb:Int)(lb:List Ex)(bd el:List St):List AV:=[(u8<|kd),(i6 to),(u8<|oa),(i6 na),(.U (nm<|cN la) 0 la.length),(u8<|ob),(i6 nb),(.U (nm<|cN lb) 0 lb.length),(.U (nm<|bA bd) 0 bd.length),(.U (nm<|bA el) 0 el.length)]
noncomputable abbrev Dq(oa na:Int)(la:List Ex):AV:=.agg [(u8<|oa),(i6 na),(.U (nm<|cN la) 0 la.length)]
noncomputable abbrev Dr(ob nb:Int)(lb:List Ex):AV:=.agg [(u8<|ob),(i6 nb),(.U (nm<|cN lb) 0 lb.length)]
theorem ajh(mc:Mt [rL 6,oC k] B)(hn:top<=N)(hL:L<=10000)(hx:cT FU N (0+(0:Int).toNat*10+0) 10=some (JJ kd to oa na la ob nb lb bd el))(hA:bg (aW<|rK 6) [(Dq oa na la)]=some (Dq oa na la))(hB:bg (aW<|rK 6) [(Dr ob nb lb)]=some (Dr ob nb lb))(hD:bg (aW<|ql k) [(.U (nm<|bA bd) 0 bd.length)]=some (.U (nm<|bA bd) 0 bd.length))(hE:bg (aW<|ql k) [(.U (nm<|bA el) 0 el.length)]=some (.U (nm<|bA el) 0 el.length))(hW:[(St.mk kd to (Ex.mk oa na la) (Ex.mk ob nb lb) bd el)].length<=20000)(h1:(0:Int)<(L:Int))(H:au pg B 270 (Fin pg (az Tryz.f40) fun y _=>y=v) (ug N L ([(St.mk kd to (Ex.mk oa na la) (Ex.mk ob nb lb) bd el)]) 1)<|ak (Dp kd to oa na la ob nb lb bd el) 271):au pg B 270 (Fin pg (az Tryz.f40) fun y _=>y=v) (En N L)<|ak ar 270:=by exact wC mc (C:=(fun fr s1 _=>fr=ug N L ([(St.mk kd to (Ex.mk oa na la) (Ex.mk ob nb lb) bd el)]) 1/\s1=ak (Dp kd to oa na la ob nb lb bd el) 271)) nr (.st 1<|.rg<|.fk (.en<|.st 6<|.rg<|.fh<|.fj (JJ kd to oa na la ob nb lb bd el)<|.go 2<|.en<|.st 1<|.rg<|.go 2<|.kn (Dq oa na la)<|.go 2<|.kn (Dr ob nb lb)<|.go 2<|.kn (.U (nm<|bA bd) 0 bd.length)<|.go 2<|.kn (.U (nm<|bA el) 0 el.length)<|.go 8<|.en<|.st 4<|.rn (JI N L) (ar++[(272,(some<|aN aP [(St.mk kd to (Ex.mk oa na la) (Ex.mk ob nb lb) bd el)]))]) (BV N L ([(St.mk kd to (Ex.mk oa na la) (Ex.mk ob nb lb) bd el)]) 1) (Dp kd to oa na la ob nb lb bd el) 273 271 .no)<|.no)<|ax ((0:Int)<(L:Int)) (fun _=>(dc (0:Int) (L:Int)<|ai hn<|ai hx<|ai hA<|ai hB<|ai hD<|ai hE<|ajg (N:=N) (L:=L) (kd:=kd) (to:=to) (oa:=oa) (na:=na) (la:=la) (ob:=ob) (nb:=nb) (lb:=lb) (bd:=bd) (el:=el) hn hW)) bF
noncomputable abbrev JK(W:List St)(kd to oa na:Int)(la:List Ex)(ob nb:Int)(lb:List Ex)(bd el:List St)(N L:Nat)(i:Int):List<|Nat×AV:=[(3,(.slice (some (273,0)) ((W++[(St.mk kd to (Ex.mk oa na la) (Ex.mk ob nb lb) bd el)]).length)<|.aq (W++[(St.mk kd to (Ex.mk oa na la) (Ex.mk ob nb lb) bd el)]).length 10)),(6,(.U N 0 L)),(7,(i6<|(L:Int))),(8,(i6<|(i+1)))]
noncomputable abbrev Ds(W:List St)(kd to oa na:Int)(la:List Ex)(ob nb:Int)(lb:List Ex)(bd el:List St):List<|Nat×Option ab:=ar++[(270,some<|aN aP<|W++[(St.mk kd to (Ex.mk oa na la) (Ex.mk ob nb lb) bd el)])]
theorem aji(hn:top<=N)(hW:(W++[(St.mk kd to (Ex.mk oa na la) (Ex.mk ob nb lb) bd el)]).length<=20000):(((JK W kd to oa na la ob nb lb bd el N L i):List<|Nat×AV).map (fun q=>some q.2)=((JK W kd to oa na la ob nb lb bd el N L i):List<|Nat×AV).map (fun q=>some q.2))/\((ar++[(273,some<|aN aP<|W++[(St.mk kd to (Ex.mk oa na la) (Ex.mk ob nb lb) bd el)])]:List<|Nat×Option ab).map (fun q=>q.2)=(ar++[(273,some<|aN aP<|W++[(St.mk kd to (Ex.mk oa na la) (Ex.mk ob nb lb) bd el)])]:List<|Nat×Option ab).map (fun q=>q.2))/\iV FU 270 274 (JK W kd to oa na la ob nb lb bd el N L i) (ar++[(273,some<|aN aP<|W++[(St.mk kd to (Ex.mk oa na la) (Ex.mk ob nb lb) bd el)])]) (BV N L (W++[(St.mk kd to (Ex.mk oa na la) (Ex.mk ob nb lb) bd el)])<|i+1) (Ds W kd to oa na la ob nb lb bd el) 271/\(ug N L (W++[(St.mk kd to (Ex.mk oa na la) (Ex.mk ob nb lb) bd el)]) (i+1)=ug N L (W++[(St.mk kd to (Ex.mk oa na la) (Ex.mk ob nb lb) bd el)]) (i+1)/\ak (Ds W kd to oa na la ob nb lb bd el) 271=ak (Ds W kd to oa na la ob nb lb bd el) 271):=
 ⟨rfl,rfl,Wq mC (W++[(St.mk kd to (Ex.mk oa na la) (Ex.mk ob nb lb) bd el)]) (n:=273) (bz:=274) iy ae iy iy (fun r r0 r2 p hp=>by
  simp only[BV,List.mem_cons,List.not_mem_nil,or_false] at hp;rcases hp with rfl|rfl|rfl|rfl
  ·exact⟨by unfold top;omega,_,List.mem_cons_self,(bw.slice r0).z⟩
  ·exact⟨by unfold top;omega,_,(List.mem_cons_of_mem _ List.mem_cons_self),(bw.U (r2 _ hn) r2).z⟩
  ·exact⟨by unfold top;omega,_,(List.mem_cons_of_mem _<|List.mem_cons_of_mem _ List.mem_cons_self),(bw.int _ _).z⟩
  ·exact⟨by unfold top;omega,_,(List.mem_cons_of_mem _<|List.mem_cons_of_mem _<|List.mem_cons_of_mem _ List.mem_cons_self),(bw.int _ _).z⟩),rfl,rfl⟩
theorem ajj(mc:Mt [rL 6,oC k] B)(hn:top<=N)(hi:0<=i)(hL:L<=10000)(hx:cT FU N (0+i.toNat*10+0) 10=some (JJ kd to oa na la ob nb lb bd el))(hA:bg (aW<|rK 6) [(Dq oa na la)]=some (Dq oa na la))(hB:bg (aW<|rK 6) [(Dr ob nb lb)]=some (Dr ob nb lb))(hD:bg (aW<|ql k) [(.U (nm<|bA bd) 0 bd.length)]=some (.U (nm<|bA bd) 0 bd.length))(hE:bg (aW<|ql k) [(.U (nm<|bA el) 0 el.length)]=some (.U (nm<|bA el) 0 el.length))(hW:(W++[(St.mk kd to (Ex.mk oa na la) (Ex.mk ob nb lb) bd el)]).length<=20000)(h1:i<(L:Int))(H:au pg B 270 (Fin pg (az Tryz.f40) fun y _=>y=v) (ug N L (W++[(St.mk kd to (Ex.mk oa na la) (Ex.mk ob nb lb) bd el)])<|i+1)<|ak (Ds W kd to oa na la ob nb lb bd el) 271):au pg B 270 (Fin pg (az Tryz.f40) fun y _=>y=v) (ug N L W i)<|ak (ar++[(270,some<|aN aP W)]) 271:=by exact wC mc (C:=(fun fr s1 _=>fr=ug N L (W++[(St.mk kd to (Ex.mk oa na la) (Ex.mk ob nb lb) bd el)]) (i+1)/\s1=ak (Ds W kd to oa na la ob nb lb bd el) 271)) nr (.st 1<|.rg<|.fk (.en<|.st 6<|.rg<|.fh<|.fj (JJ kd to oa na la ob nb lb bd el)<|.go 2<|.en<|.st 1<|.rg<|.go 2<|.kn (Dq oa na la)<|.go 2<|.kn (Dr ob nb lb)<|.go 2<|.kn (.U (nm<|bA bd) 0 bd.length)<|.go 2<|.kn (.U (nm<|bA el) 0 el.length)<|.go 8<|.en<|.rg<|.go 3<|.ap St aP W (St.mk kd to (Ex.mk oa na la) (Ex.mk ob nb lb) bd el)<|.go 1<|.en<|.st 1<|.rg<|.vl (i6<|i+1)<|.go 1<|.en<|.st 1<|.rn (JK W kd to oa na la ob nb lb bd el N L i) (ar++[(273,(some<|aN aP<|W++[(St.mk kd to (Ex.mk oa na la) (Ex.mk ob nb lb) bd el)]))]) (BV N L (W++[(St.mk kd to (Ex.mk oa na la) (Ex.mk ob nb lb) bd el)])<|i+1) (Ds W kd to oa na la ob nb lb bd el) 274 271 .no)<|.no)<|ax (i<(L:Int)) (fun _=>(dc i (L:Int)<|ai hn<|ai hx<|ai hA<|ai hB<|ai hD<|ai hE<|apI aP W (St.mk kd to (Ex.mk oa na la) (Ex.mk ob nb lb) bd el) (K:=10) (pW:=144) (fun x=>⟨mC.len x,abr x⟩) (by rw[List.length_append] at hW;unfold room;omega) (by rw[List.length_append] at hW;unfold top;omega)<|ai (wI<|i+1)<|aji (N:=N) (L:=L) (W:=W) (i:=i) (kd:=kd) (to:=to) (oa:=oa) (na:=na) (la:=la) (ob:=ob) (nb:=nb) (lb:=lb) (bd:=bd) (el:=el) hn hW)) bF
theorem ajk:(([(2,(.slice none 0<|.known 0))]:List<|Nat×AV).map (fun q=>some q.2)=([(2,(.slice none 0<|.known 0))]:List<|Nat×AV).map (fun q=>some q.2))/\(([]:List<|Nat×Option ab).map (fun q=>q.2)=([]:List<|Nat×Option ab).map (fun q=>q.2))/\iV FU 270 270 [(2,(.slice none 0<|.known 0))] [] [(2,aS aP ([]:List St))] [] 270/\((⟨40,aQ [(2,aS aP ([]:List St))],max Tryz.f40.ntmps 1,(dv 40 [1,1,1,1]),[],none⟩:AF)=⟨40,aQ [(2,aS aP ([]:List St))],max Tryz.f40.ntmps 1,(dv 40 [1,1,1,1]),[],none⟩/\ak [] 270=ak [] 270):=⟨rfl,rfl,(OE (enc:=aP) (j:=2) (bz:=270) iy iy),rfl,rfl⟩
theorem ajl(mc:Mt [rL 6,oC k] B):au pg B 270 (Fin pg (az Tryz.f40) fun y _=>y=(aS aP ([]:List St))) ⟨40,aQ [(2,aS aP ([]:List St))],max Tryz.f40.ntmps 1,(dv 40 [1,1,1,1]),[],none⟩<|ak [] 270:=by exact wS mc (.rt 1 .no)<|wD<|aS aP ([]:List St)
theorem ajm(mc:Mt [rL 6,oC k] B)(h1:(L:Int)<=0):au pg B 270 (Fin pg (az Tryz.f40) fun y _=>y=(aS aP ([]:List St))) (En N L)<|ak ar 270:=by exact wC mc (C:=(fun fr s1 _=>fr=⟨40,aQ [(2,aS aP ([]:List St))],max Tryz.f40.ntmps 1,(dv 40 [1,1,1,1]),[],none⟩/\s1=ak [] 270)) (fun fr s1 p hC=>by obtain⟨rfl,rfl⟩:=hC;exact ajl mc) (.st 1<|.rg<|.fk (.no)<|.en<|.st 5<|.rn [(2,(.slice none 0<|.known 0))] [] [(2,aS aP ([]:List St))] [] 270 270 .no)<|ax ((0:Int)<(L:Int)) bF fun _=>(ajk)
theorem ajn(W:List St)(hW:W.length<=20000):(([(2,(.slice (some (270,0)) (W.length)<|.aq W.length 10))]:List<|Nat×AV).map (fun q=>some q.2)=([(2,(.slice (some (270,0)) (W.length)<|.aq W.length 10))]:List<|Nat×AV).map (fun q=>some q.2))/\(([(270,some<|aN aP W)]:List<|Nat×Option ab).map (fun q=>q.2)=([(270,some<|aN aP W)]:List<|Nat×Option ab).map (fun q=>q.2))/\iV FU 270 271 [(2,(.slice (some (270,0)) (W.length)<|.aq W.length 10))] [(270,some<|aN aP W)] [(2,aS aP W)] [] 270/\((⟨40,aQ [(2,aS aP W)],max Tryz.f40.ntmps 1,(dv 40 [1,1,1,1]),[],none⟩:AF)=⟨40,aQ [(2,aS aP W)],max Tryz.f40.ntmps 1,(dv 40 [1,1,1,1]),[],none⟩/\ak [] 270=ak [] 270):=⟨rfl,rfl,(OD (j:=2) (n:=270) (bz:=271) mC W rfl iy iy iy iy),rfl,rfl⟩
theorem ajo(mc:Mt [rL 6,oC k] B)(W:List St):au pg B 270 (Fin pg (az Tryz.f40) fun y _=>y=(aS aP W)) ⟨40,aQ [(2,aS aP W)],max Tryz.f40.ntmps 1,(dv 40 [1,1,1,1]),[],none⟩<|ak [] 270:=by exact wS mc (.rt 1 .no)<|wD<|aS aP W
theorem ajp(mc:Mt [rL 6,oC k] B)(h1:(L:Int)<=i)(hW:W.length<=20000):au pg B 270 (Fin pg (az Tryz.f40) fun y _=>y=(aS aP W)) (ug N L W i)<|ak (ar++[(270,some<|aN aP W)]) 271:=by exact wC mc (C:=(fun fr s1 _=>fr=⟨40,aQ [(2,aS aP W)],max Tryz.f40.ntmps 1,(dv 40 [1,1,1,1]),[],none⟩/\s1=ak [] 270)) (fun fr s1 p hC=>by obtain⟨rfl,rfl⟩:=hC;exact ajo mc W) (.st 1<|.rg<|.fk (.no)<|.en<|.st 5<|.rn [(2,(.slice (some (270,0)) (W.length)<|.aq W.length 10))] [(270,some<|aN aP W)] [(2,aS aP W)] [] 271 270 .no)<|ax (i<(L:Int)) bF fun _=>(ajn W hW)
end
end gO
end
section
open Go Go.Rn Go.RowKit Go.Proofs
namespace zy
open cv cG cR cW eH fy zN dt fW pL vT xK qx nE G1 Km gO
variable {k:Nat}
theorem UZ(l:List St):AV.U (nm<|bA l) 0 l.length=aS aP l:=by rw[uL];rfl
theorem IM{l:List St}(h:qy k l=true):bg (aW<|ql k) [.U (nm<|bA l) 0 l.length]=some (.U (nm<|bA l) 0 l.length):=fH (fB ql.bW ⟨l,rfl,h,rfl⟩) (by rw[List.all_cons,tz];rfl)<|tz l
theorem aaz(hP:bE pg)(h':aU [rL 6,oC k]){L:bV}(h:aU L):aU<|oC (k+1)::L:=by
 refine ij hP h h' Tryz.func40 fun args v e=>?_;obtain⟨l,rfl,hg,rfl⟩:=gH e;refine⟨aM.1 aX,fun B mc=>?_⟩;rw[←gY];have hg:(decide (l.length<=10000)&&l.all fun s=>pb 6 (iq s)&&(pb 6 (gu s)&&(qy k (cn s)&&qy k (cj s))))=true:=hg;rw[Bool.and_eq_true,decide_eq_true_eq,List.all_eq_true] at hg;obtain⟨hlen,hd⟩:=hg;have pM:∀s∈l,pb 6 (iq s)=true/\pb 6 (gu s)=true/\qy k (cn s)=true/\qy k (cj s)=true:=fun s hs=>by have:=hd s hs;rw[Bool.and_eq_true,Bool.and_eq_true,Bool.and_eq_true] at this;exact this
 refine ajf mc ?_;cases l with
 |nil=>have:=ajm (N:=nm<|bA []) (L:=0) mc ae;rw[←UZ] at this;exact this
 |cons a0 l0=>
  have key:∀(r:List St) (i:Nat),(a0::l0).drop i=r->1<=i->i<=(a0::l0).length->au pg B 270 (Fin pg (az Tryz.f40) fun y _=>y= .U (nm<|bA<|a0::l0) 0 (a0::l0).length) (ug (nm<|bA<|a0::l0) (a0::l0).length ((a0::l0).take i) i) (ak (ar++[(270,some<|aN aP<|(a0::l0).take i)]) 271):=by
   generalize hl:a0::l0=l at*;intro r;induction r with
   |nil=>intro i hr _ hle;have hi:l.length<=i:=List.drop_eq_nil_iff.1 hr;have e:l.take i=l:=List.take_of_length_le hi;rw[e];have:=ajp (N:=nm<|bA l) (L:=l.length) (W:=l) (i:=(i:Int)) mc ae ae;rw[←UZ] at this;exact this
   |cons a r ih=>
    intro i hr h1 hle;have bB:i<l.length:=by
     by_cases q:i<l.length
     ·exact q
     ·rw[List.drop_of_length_le ae] at hr;cases hr
    have ha:l[i]? =some a:=by have:=congrArg (fun q=>q[0]?) hr;simp only[List.getElem?_drop,List.getElem?_cons_zero,Nat.add_zero] at this;exact this
    have hm:a∈l:=List.mem_of_getElem? ha;have lF:l.drop (i+1)=r:=by have:=congrArg (List.drop 1) hr;rw[List.drop_drop] at this;exact this
    have tP:=ih (i+1) lF ae ae;rw[List.take_add_one,ha] at tP;obtain⟨g1,g2,g3,g4⟩:=pM a hm;have hx:=FH ha (z:=(i:Int)) ae;obtain⟨kd,to,⟨oa,na,la⟩,⟨ob,nb,lb⟩,bd,el⟩:=a;have cA:=Dc (k:=6) g1;have cB:=Dc (k:=6) g2;have cD:=IM g3;have cE:=IM g4;simp only[iq,gu,cn,cj] at cA cB cD cE;rw[aD] at cA cB;rw[aP,aD,aD] at hx;exact ajj (i:=(i:Int)) (W:=l.take i) mc (cr _) ae hlen hx cA cB cD cE (by rw[List.length_append,List.length_take];show _+1<=20000;omega) ae tP
  have tP:=key l0 1 rfl ae (by show 1<=l0.length+1;omega);rw[List.take_succ_cons,List.take_zero] at tP;obtain⟨g1,g2,g3,g4⟩:=pM a0 List.mem_cons_self;have hx:=FH (l:=a0::l0) (i:=0) (a:=a0) rfl (z:=(0:Int)) rfl;obtain⟨kd,to,⟨oa,na,la⟩,⟨ob,nb,lb⟩,bd,el⟩:=a0;have cA:=Dc (k:=6) g1;have cB:=Dc (k:=6) g2;have cD:=IM g3;have cE:=IM g4;simp only[iq,gu,cn,cj] at cA cB cD cE;rw[aD] at cA cB;rw[show aP (St.mk kd to (Ex.mk oa na la) (Ex.mk ob nb lb) bd el)=_ from by rw[aP,aD,aD]] at hx;exact ajh mc (cr _) hlen hx cA cB cD cE (by show 1<=20000;omega) (by show(0:Int)<((l0.length+1:Nat):Int);omega) tP
theorem To(hP:bE pg):∀(k:Nat) {L:bV},aU L->aU (oC k::L)
 |0,L,h=>by refine ij hP h cJ Tryz.func40 fun args v e=>?_;obtain⟨_,_,hd,_⟩:=gH e;cases hd
 |k+1,L,h=>aaz hP (NA hP 6<|To hP k cJ) h
end zy
end
section
open Go Go.Rn Go.RowKit Go.Proofs
namespace Xd
open cv fW gO
variable {left:List<|Int×Int} {cur:Option<|AV×AV} {v0 k0:Int}
noncomputable section
def l0:List<|Nat×AV:=[(0,.map<|some 270),(1,.map<|some 271),(6,.map<|some 271),(7,.ptr<|some (272,0))]
def lx(k v:Int):List<|Nat×AV:=[(0,.map<|some 270),(1,.map<|some 271),(4,.int .i64 k),(5,.int .i64 v),(6,.map<|some 271),(7,.ptr<|some (272,0)),(8,.tuple [.bool true,.int .i64 k,.int .i64 v]),(9,.bool true),(10,.tuple [.int .i64 k,.int .i64 v]),(11,.int .i64 k),(12,.int .i64 v),(13,.map<|some 270),(14,.int .i64 k),(15,.int .i64 v)]
def KN:List Item:=[.code<|a9 pg 99 [1,0,0,1],.inLoop<|a9 pg 99 [1,0,0],.inBlock 0]
def og(t:Tr AV):AF:=⟨99,t,max Tryz.f99.ntmps 2,.code (a9 pg 99 [1,0,0,0])::KN,[],none⟩
def iB(m2 d left:List<|Int×Int)(cur:Option<|AV×AV):AS:=ak (ar++[(270,some<|bL d),(271,some .ku),(272,some<|.iter 271 (da m2) false (da left) cur)]) 273
def HC:Oper:=(opsOf<|a9 pg 99 [1,0,0,0]).toList.headD default
def G2:Array Oper:=opsOf<|a9 pg 99 [1,0,0,0]
def Gr:List Oper:=(opsOf<|a9 pg 99 [1,0,0,0]).toList.tail
def Aj(t:Tr AV)(v:AV)(b:Bool):AF:=⟨99,(t.put 8<|some v).put 9<|some<|.bool b,max Tryz.f99.ntmps 2,KN,[],none⟩
def QQ:Env:=x9 pg 270 eK dX [] 272 true
theorem asks(t:Tr AV):yJ (og t)=some (.tmp 7,HC,G2,Gr,KN):=by kernel_rfl
theorem ahE{m2 d:List<|Int×Int}:rj (og<|aQ l0) (.tmp 7) (iB m2 d left cur)= .ok (272,.iter 271 (da m2) false (da left) cur) (iB m2 d left cur):=by kernel_rfl
theorem Wt{m2 d:List<|Int×Int}{k v:Int}:rj (og<|aQ<|lx k v) (.tmp 7) (iB m2 d left cur)= .ok (272,.iter 271 (da m2) false (da left) cur) (iB m2 d left cur):=by kernel_rfl
theorem ahF{m2 d:List<|Int×Int}{YO:aK}:qe pg YO (og<|aQ l0) 272 271 (da m2) false HC G2 Gr KN (iB m2 d left cur)= .ok (Aj (aQ l0) (.tuple [.bool false]) false) (ak (ar++[(270,some<|bL d),(271,some<|bL m2),(272,none)]) 273):=by kernel_rfl
theorem J7{m2 d:List<|Int×Int}{YO:aK}{k v:Int}:qe pg YO (og<|aQ<|lx k v) 272 271 (da m2) false HC G2 Gr KN (iB m2 d left cur)= .ok (Aj (aQ<|lx k v) (.tuple [.bool false]) false) (ak (ar++[(270,some<|bL d),(271,some<|bL m2),(272,none)]) 273):=by kernel_rfl
theorem is0{m2 d r:List<|Int×Int}{YO:aK}{k v:Int}:qj pg YO (og<|aQ l0) 272 (.iter 271 (da m2) false (da r)<|some (.int .i64 k,.int .i64 v)) HC G2 Gr KN (.tuple [.bool true,.int .i64 k,.int .i64 v]) (iB m2 d left cur)= .ok (Aj (aQ l0) (.tuple [.bool true,.int .i64 k,.int .i64 v]) true) (iB m2 d r<|some (.int .i64 k,.int .i64 v)):=by kernel_rfl
theorem isX{m2 d r:List<|Int×Int}{YO:aK}{k v:Int}:qj pg YO (og<|aQ<|lx k0 v0) 272 (.iter 271 (da m2) false (da r)<|some (.int .i64 k,.int .i64 v)) HC G2 Gr KN (.tuple [.bool true,.int .i64 k,.int .i64 v]) (iB m2 d left cur)= .ok (Aj (aQ<|lx k0 v0) (.tuple [.bool true,.int .i64 k,.int .i64 v]) true) (iB m2 d r<|some (.int .i64 k,.int .i64 v)):=by kernel_rfl
abbrev FM(m1 m2:List<|Int×Int):=P2 270 pg (az Tryz.f99) m1 m2
theorem JL:fM<=272:=Nat.le_trans hZ ae
theorem Xe(m2 d r:List<|Int×Int)(k v:Int)(fr:AF):(some (bL d)=some (bL d))/\(fr=fr/\iB m2 (gA d k v) r (some (.int .i64 k,.int .i64 v))=iB m2 (gA d k v) r (some (.int .i64 k,.int .i64 v))):=⟨rfl,rfl,rfl⟩
section
variable {B:aL} {m1 m2 d r:List<|Int×Int} {k v:Int}
theorem ahG(mc:Mt [] B)(H:au pg B 272 (FM m1 m2) (og<|aQ<|lx k v)<|iB m2 (gA d k v) r<|some (.int .i64 k,.int .i64 v)):
 au pg B 272 (FM m1 m2) (Aj (aQ l0) (.tuple [.bool true,.int .i64 k,.int .i64 v]) true) (iB m2 d r<|some (.int .i64 k,.int .i64 v)):=
 xo (E:=QQ) (C:=fun fr s1 _=>fr=og (aQ<|lx k v)/\s1=iB m2 (gA d k v) r (some (.int .i64 k,.int .i64 v))) fm rfl bY mc.2.2.1 mc.2.2.2 JL rfl mc.1 nr 900 (.st 6<|.rg<|.go 3<|.Lh d<|.en<|.st 3<|.cut .no) (Xe m2 d r k v<|og<|aQ<|lx k v)
theorem ahH(mc:Mt [] B)(H:au pg B 272 (FM m1 m2) (og<|aQ<|lx k v)<|iB m2 (gA d k v) r<|some (.int .i64 k,.int .i64 v)):
 au pg B 272 (FM m1 m2) (Aj (aQ<|lx k0 v0) (.tuple [.bool true,.int .i64 k,.int .i64 v]) true) (iB m2 d r<|some (.int .i64 k,.int .i64 v)):=
 xo (E:=QQ) (C:=fun fr s1 _=>fr=og (aQ<|lx k v)/\s1=iB m2 (gA d k v) r (some (.int .i64 k,.int .i64 v))) fm rfl bY mc.2.2.1 mc.2.2.2 JL rfl mc.1 nr 900 (.st 6<|.rg<|.go 3<|.Lh d<|.en<|.st 3<|.cut .no) (Xe m2 d r k v<|og<|aQ<|lx k v)
theorem Wu{m1 m2 d:List<|Int×Int}(hk:fR m1)(hp:d.Perm<|je m1 m2):iV FU 272 273 [(9,.bool false)] [(270,some<|bL d),(271,some<|bL m2)] [(9,.bool false)] [(270,some<|bL<|je m1 m2),(271,some<|bL m2)] 272:=by
 let r:Nat->Nat:=fun k=>if k<272\/top<=k then k else max k 273
 have t0:272<top:=by unfold top;omega
 have rl:∀k,k<272->r k=k:=fun k hk=>if_pos<|.inl hk;refine⟨[],r,rl,fun k h1 h2=>?_,fun k hk=>if_pos<|.inr hk,by omega,fun p hp=>?_,fun p hp=>?_,fun p hp q hq _ _ e=>?_,fun p hp=>nO,fun p hp=>nO⟩
 ·show 273<=(if _ then _ else _)/\(if _ then _ else _)<top;rw[if_neg ae];have:273<top:=by unfold top;omega
  omega
 ·rw[List.mem_singleton] at hp;subst hp;exact⟨by show 9<top;omega,_,List.mem_singleton.2 rfl,(bw.bool _).z⟩
 ·rcases List.mem_cons.1 hp with rfl|hp
  ·refine⟨by show 270<top;omega,fun y hy=>?_⟩;cases hy;rw[rl 270 ae];exact⟨by omega,rfl,_,List.mem_cons_self,⟨fun _=>rfl,(fun e=>by cases e),fun e=>by cases e⟩,fun ρ eY N o _ h=>aan hk.merge (by assumption) h⟩
  ·rw[List.mem_singleton] at hp;subst hp;refine⟨by show 271<top;omega,fun y hy=>?_⟩;cases hy;rw[rl 271 ae];exact⟨by omega,rfl,_,List.mem_cons_of_mem _ List.mem_cons_self,gJ.refl _,fun ρ eY N o _ h=>wV h⟩
 ·rcases List.mem_cons.1 hp with rfl|hp<;>rcases List.mem_cons.1 hq with rfl|hq
  ·rfl
  ·rw[List.mem_singleton] at hq;subst hq;rw[rl _ ae,rl _ ae] at e;exact e
  ·rw[List.mem_singleton] at hp;subst hp;rw[rl _ ae,rl _ ae] at e;exact e
  ·rw[List.mem_singleton] at hp hq;subst hp;subst hq;rfl
def ajr(m1 m2:List<|Int×Int)(s':AS)(y:AV):Prop:=y= .tuple []/\s'.h.get 270=some (bL<|je m1 m2)/\s'.h.get 271=some (bL m2)
theorem ajs(m1 m2:List<|Int×Int):ajr m1 m2 (ak [(270,some<|bL<|je m1 m2),(271,some<|bL m2)] 272)<|.tuple []:=⟨rfl,by kernel_rfl,by kernel_rfl⟩
theorem Xf(mc:Mt [] B):au pg B 272 (FM m1 m2) ⟨99,aQ [(9,.bool false)],max Tryz.f99.ntmps 2,KN,[],none⟩<|ak [(270,some<|bL<|je m1 m2),(271,some<|bL m2)] 272:=mh (E:=QQ) fm rfl bY mc.2.2.1 mc.2.2.2 900 (.rt 4 .no)<|ajs m1 m2
theorem ahI(mc:Mt [] B)(hk:fR m1)(hp:d.Perm<|je m1 m2):au pg B 272 (FM m1 m2) (Aj (aQ l0) (.tuple [.bool false]) false)<|ak (ar++[(270,some<|bL d),(271,some<|bL m2),(272,none)]) 273:=au.rn (l0:=[(9,.bool false)]) (o0:=[(270,some<|bL d),(271,some<|bL m2)]) JL cH cH (by rw[mc.1];exact Wu hk hp)<|Xf mc
theorem ahJ(mc:Mt [] B)(hk:fR m1)(hp:d.Perm<|je m1 m2):au pg B 272 (FM m1 m2) (Aj (aQ<|lx k0 v0) (.tuple [.bool false]) false)<|ak (ar++[(270,some<|bL d),(271,some<|bL m2),(272,none)]) 273:=au.rn (l0:=[(9,.bool false)]) (o0:=[(270,some<|bL d),(271,some<|bL m2)]) JL cH cH (by rw[mc.1];exact Wu hk hp)<|Xf mc
theorem F0(h:da left=[]):left=[]:=by cases left with|nil=>rfl|cons _ _=>cases h
theorem ahK(mc:Mt [] B)(hk:fR m1)(Lx:fR m2):∀(n:Nat) (left EX d:List<|Int×Int) (k v:Int) (cur:Option<|AV×AV),left.length=n->m2.Perm (EX++left)->d=je m1 EX->
 au pg B 272 (FM m1 m2) (og<|aQ<|lx k v) (iB m2 d left cur):=by
 intro n;induction n with
 |zero=>intro left EX d k v cur hn hp hd;have hl:=List.eq_nil_of_length_eq_zero hn;subst hl;refine au.next mc.2.2.1 mc.2.2.2 (asks _) (by show 272<=273;omega) Wt (fun _=>⟨_,_,J7,ahJ mc hk ?_⟩) (fun x r h=>by cases h);rw[hd,List.append_nil] at*;exact aal hk ((hp.map (·.1)).nodup_iff.1 Lx) hp.symm
 |succ n ih=>intro left EX d k v cur hn hp hd;refine au.next mc.2.2.1 mc.2.2.2 (asks _) (by show 272<=273;omega) Wt (fun h=>by rw[F0 h] at hn;cases hn) fun x r h=>?_;obtain⟨p,l',rfl,rfl,Ly⟩:=MS h;refine⟨_,_,isX,ahH mc ?_⟩;refine ih l' (EX++[p]) _ _ _ _ (by have:=Ly.length_eq;rw[List.length_cons] at this;omega) ?_ (by rw[aam,hd]);rw[List.append_assoc];exact hp.trans<|Ly.append_left EX
theorem ahL(mc:Mt [] B)(hk:fR m1)(Lx:fR m2):au pg B 272 (FM m1 m2) (og<|aQ l0)<|iB m2 m1 m2 none:=by
 refine au.next mc.2.2.1 mc.2.2.2 (asks _) (by show 272<=273;omega) ahE (fun h=>⟨_,_,ahF,ahI mc hk ?_⟩) fun x r h=>?_
 ·rw[F0 h];exact List.Perm.refl _
 ·obtain⟨p,l',rfl,rfl,Ly⟩:=MS h;refine⟨_,_,is0,ahG mc ?_⟩;exact ahK mc hk Lx l'.length l' [p] _ _ _ _ rfl Ly rfl
end
def Cx:FuncId×KE:=(99,.raw wu)
theorem af7(hP:bE pg){L:bV}(h:aU L):aU<|Cx::L:=by refine afE hP hZ (aM.1 aX) iS ig lV lC h cJ Tryz.func99 (body:=a9 pg 99 []) aX aX fun m1 m2 k1 k2=>?_;refine⟨aM.1 aX,fun B mc=>?_⟩;exact au.chunk (k:=5) (aV:=og<|aQ l0) (s1:=iB m2 m1 m2 none) bY mc.2.2.1 mc.2.2.2 cH (by show 272<=272;omega)<|ahL mc k1 k2
end
end Xd
end
section
open Go Go.Rn Go.RowKit Go.Proofs
namespace jT
open cv fW gO fc
variable {r:Nat->Nat} {o0:List<|Nat×Option ab} {lo bz:Nat} {ps:List<|Nat×Nat} {b a:List<|Int×Int}
def hJ(ps:List<|Nat×Nat)(lo bz k:Nat):Nat:=match ps.find? fun p=>Nat.beq p.1 k with
 |some p=>p.2
 |none=>if k<lo\/top<=k then k else max k bz
def sw(ps:List<|Nat×Nat)(lo bz nx:Nat)(names:List Nat):Bool:=ps.all (fun p=>Nat.ble lo p.1&&(Nat.blt p.1 nx&&(Nat.ble lo p.2&&Nat.blt p.2 top)))&&(Nat.ble lo nx&&(Nat.ble nx top&&(Nat.blt bz top&&(names.all fun m=>Nat.blt m lo||ps.any fun p=>Nat.beq p.1 m))))
def G3(ps:List<|Nat×Nat):Bool:=ps.all fun p=>ps.all fun q=> !(Nat.beq p.2 q.2)||Nat.beq p.1 q.1
def HD(r:Nat->Nat)(l0:List<|Nat×AV):List (Nat×AV)->Prop
 |[]=>True
 |p::l=>(p.1<top/\∃x,(p.1,x)∈l0/\oM [] r x p.2)/\HD r l0 l
def yB(r:Nat->Nat)(o0:List<|Nat×Option ab):List (Nat×Option ab)->Prop
 |[]=>True
 |p::l=>(∀y,p.2=some y->y.pk=true/\∃x,(r p.1,some x)∈o0/\gJ x y/\iu [] r x y)/\yB r o0 l
theorem HD.mem{l0:List<|Nat×AV}:∀{l:List<|Nat×AV},HD r l0 l->∀p∈l,p.1<top/\∃x,(p.1,x)∈l0/\oM [] r x p.2
 |[],_,p,hp=>by cases hp
 |a::l,h,p,hp=>by
  rcases List.mem_cons.1 hp with rfl|hp
  ·exact h.1
  ·exact HD.mem h.2 p hp
theorem yB.mem:∀{l:List<|Nat×Option ab},yB r o0 l->∀p∈l,∀y,p.2=some y->y.pk=true/\∃x,(r p.1,some x)∈o0/\gJ x y/\iu [] r x y
 |[],_,p,hp=>by cases hp
 |a::l,h,p,hp=>by
  rcases List.mem_cons.1 hp with rfl|hp
  ·exact h.1
  ·exact yB.mem h.2 p hp
theorem BC{nx:Nat}{l0 l:List<|Nat×AV}{o:List<|Nat×Option ab}(gm:270<=lo)(hb:sw ps lo bz nx (o.map (·.1))=true)(hi:G3 ps=true)(hl:∀r,r=hJ ps lo bz->(∀k,top<=k->r k=k)->HD r l0 l)(ho:∀r,r=hJ ps lo bz->(∀k,top<=k->r k=k)->yB r o0 o):
 iV FU lo bz l0 (ar++o0) l (ar++o) nx:=by
 unfold sw at hb;obtain⟨b1,hb⟩:=and_true.1 hb;obtain⟨b2,hb⟩:=and_true.1 hb;obtain⟨b3,hb⟩:=and_true.1 hb;obtain⟨b4,b5⟩:=and_true.1 hb;have b2:=aM.1 b2;have b3:=aM.1 b3;have b4:=(blt_eq _ _).mp b4;have n7:∀p∈ps,lo<=p.1/\p.1<nx/\lo<=p.2/\p.2<top:=fun p hp=>by have:=List.all_eq_true.1 b1 p hp;obtain⟨c1,c2⟩:=and_true.1 this;obtain⟨c2,c3⟩:=and_true.1 c2;obtain⟨c3,c4⟩:=and_true.1 c3;exact⟨aM.1 c1,(blt_eq _ _).mp c2,aM.1 c3,(blt_eq _ _).mp c4⟩
 have none_:∀k,(k<lo\/nx<=k)->(ps.find? fun p=>Nat.beq p.1 k)=none:=fun k hk=>by refine List.find?_eq_none.2 fun p hp=>?_;obtain⟨c1,c2,_⟩:=n7 p hp;rw[dT];omega
 let r:=hJ ps lo bz;have rl:∀k,k<lo->r k=k:=fun k hk=>by show hJ ps lo bz k=k;unfold hJ;rw[none_ k<|.inl hk];exact if_pos<|.inl hk
 have rt:∀k,top<=k->r k=k:=fun k hk=>by show hJ ps lo bz k=k;unfold hJ;rw[none_ k<|.inr ae];exact if_pos<|.inr hk
 have rn:∀k,nx<=k->k<top->bz<=r k/\r k<top:=fun k h1 h2=>by show bz<=hJ ps lo bz k/\hJ ps lo bz k<top;unfold hJ;rw[none_ k<|.inr h1];show bz<=(if _ then _ else _)/\(if _ then _ else _)<top;rw[if_neg ae];omega
 have EY:∀k∈o.map (·.1),(k<lo/\r k=k)\/∃p∈ps,p.1=k/\r k=p.2:=fun k hk=>by
  have:=List.all_eq_true.1 b5 k hk;rcases Bool.or_eq_true_iff.1 this with this|this
  ·have:=(blt_eq _ _).mp this;exact .inl ⟨this,rl k this⟩
  right;obtain⟨p,hp,e⟩:=List.any_eq_true.1 this;cases q:ps.find? fun p=>Nat.beq p.1 k with
  |none=>exact absurd e (by simpa using List.find?_eq_none.1 q p hp)
  |some p'=>have h1:=List.find?_some q;refine⟨p',List.mem_of_find?_eq_some q,dT.1 h1,?_⟩;show hJ ps lo bz k=_;unfold hJ;rw[q]
 have uB:∀p∈ar,p.1<270:=fun p hp=>by obtain⟨k,hk,e⟩:=List.mem_map.1 hp;rw[←e];exact ig k hk
 have t0:270<top:=by unfold top;omega
 refine⟨[],r,rl,rn,rt,b3,(hl r rfl rt).mem,fun p hp=>?_,fun p hp q hq _ _ e=>?_,fun p hp=>nO,fun p hp=>nO⟩
 ·rcases List.mem_append.1 hp with hp|hp
  ·have bB:=uB p hp;refine⟨by omega,fun y hy=>?_⟩;rw[rl _ ae];refine⟨by omega,NB p hp y hy,y,?_,gJ.refl _,(FG (nx:=270) (fun k hk=>rl k ae) cH p hp y hy).z⟩;refine List.mem_append_left _ ?_;rw[←hy];exact hp
  ·have bB:p.1<top/\r p.1<top:=by
    rcases EY p.1 (List.mem_map.2 ⟨p,hp,rfl⟩) with⟨c1,c2⟩|⟨p',h1,h2,h3⟩
    ·rw[c2];omega
    ·obtain⟨c1,c2,c3,c4⟩:=n7 p' h1;rw[h3];omega
   refine⟨bB.1,fun y hy=>?_⟩;obtain⟨d1,x,d2,d3,d4⟩:=(ho r rfl rt).mem p hp y hy;exact⟨bB.2,d1,x,List.mem_append_right _ d2,d3,d4⟩
 ·have key:∀p∈ar++o,(p.1<lo/\r p.1=p.1)\/∃q∈ps,q.1=p.1/\r p.1=q.2:=fun p hp=>by
   rcases List.mem_append.1 hp with hp|hp
   ·exact .inl ⟨by have:=uB p hp;omega,rl _ (by have:=uB p hp;omega)⟩
   ·exact EY p.1<|List.mem_map.2 ⟨p,hp,rfl⟩
  rcases key p hp with⟨a1,a2⟩|⟨a,a1,a2,a3⟩<;>rcases key q hq with⟨c1,c2⟩|⟨c,c1,c2,c3⟩
  ·rw[a2,c2] at e;exact e
  ·have:=(n7 c c1).2.2.1;rw[a2,c3] at e;omega
  ·have:=(n7 a a1).2.2.1;rw[a3,c2] at e;omega
  ·rw[a3,c3] at e;have h1:=List.all_eq_true.1 (List.all_eq_true.1 hi a a1) c c1;rw[Bool.or_eq_true] at h1;rcases h1 with h1|h1
   ·rw[e,show Nat.beq c.2 c.2=true from Nat.beq_refl _] at h1;cases h1
   ·rw[←a2, ←c2];exact Nat.eq_of_beq_eq_true h1
theorem Iu{l m:List AV}{rest:List AV}(hl:(l++rest).length<=top)(h:mH [] r l m)(h1:m.all AV.cf=true):iu [] r (.cells (l++rest).length (Tr.fill (l++rest) 0 .nil) [])<|.cells m.length (Tr.fill m 0 .nil) []:=by
 have hlen:=h.length;have yg:l.length<=(l++rest).length:=by rw[List.length_append];omega
 intro ρ eY N o yp k;refine iu.cells ae h h1 ρ eY N o yp ?_;obtain⟨c,e,rfl,k1,k2,k3⟩:=k;refine⟨c,e,rfl,k1,by omega,fun i hi=>?_⟩;obtain⟨x,v,a1,a2,a3,a4⟩:=k3 i ae;refine⟨x,v,?_,a2,a3,a4⟩;unfold cellAt at a1 ⊢;rw[Tr.sO _ _ _ _ ae,if_pos ae,Nat.sub_zero] at a1;rw[Tr.sO _ _ _ _ ae,if_pos ae,Nat.sub_zero];rw[List.getElem?_append_left hi] at a1;exact a1
theorem aeo{n m o len nY e:Nat}(h:r m=n)(h1:nY<=lo)(h2:len<=nY):bw r (.slice (some (n,o)) len<|.aq lo e)<|.slice (some (m,o)) len<|.aq nY e:=by intro ρ v hv;simp only[VR] at hv ⊢;obtain⟨b,N,c,q1,q2,q3,q4,q5⟩:=hv;exact⟨b,N,c,by rw[h];exact q1,q2,by omega,q4,q5⟩
theorem ajt{m:List<|Int×Int}:iu [] r (bL m)<|bL m:=fun _ _ _ _ _ h=>wV h
theorem Wv{m:List<|Int×Int}(hk:fR m):iu [] r (GL m)<|bL m:=fun _ _ _ _ _ h=>acx hk h
theorem ahM:gJ (bL a)<|bL b:=⟨fun _=>rfl,(fun e=>by cases e),fun e=>by cases e⟩
theorem VP:gJ (GL a)<|bL b:=⟨fun _=>rfl,(fun e=>by cases e),fun e=>by cases e⟩
theorem rp{a b:Nat}{s t:Tr AV}{z w:List AV}:gJ (.cells a s z)<|.cells b t w:=⟨fun _=>rfl,(fun e=>by cases e),fun e=>by cases e⟩
theorem mi{α:Type}{l:List α}{a:α}(j:Nat)(h:l[j]? =some a:=by rfl):a∈l:=List.mem_of_getElem? h
theorem rq{m n:Nat}(hr:r=hJ ps lo bz)(h:hJ ps lo bz m=n:=by as_aux_lemma=>kernel_rfl):r m=n:=by rw[hr];exact h
theorem vi{k:IntKind}{n:Int}:oM [] r (.int k n)<|.int k n:=(bw.int _ _).z
theorem pc{m n:Nat}{x y:ab}(hm:(n,some x)∈o0)(hr:r m=n)(kp:gJ x y)(ent:iu [] r x y)(pl:y.pk=true:=by rfl):∀z,some y=some z->z.pk=true/\∃x,(r m,some x)∈o0/\gJ x z/\iu [] r x z:=fun z e=>by cases e;exact⟨pl,x,by rw[hr];exact hm,kp,ent⟩
theorem VQ{N M:Nat}{l m:List AV}(h:mH [] r l m)(hN:l.length=N:=by rfl)(hM:m.length=M:=by rfl)(hl:Nat.ble N top=true:=by as_aux_lemma=>kernel_rfl)(h1:m.all AV.cf=true:=by rfl):iu [] r (.cells N (Tr.fill l 0 .nil) [])<|.cells M (Tr.fill m 0 .nil) []:=by subst hN;subst hM;exact iu.cells (aM.1 hl) h h1
abbrev Yi(lo bz nx:Nat)(l0:List<|Nat×AV)(o0:List<|Nat×Option ab)(l1:List<|Nat×AV)(o1:List<|Nat×Option ab)(fr:AF)(s:AS):Prop:=(l0.map (fun q=>some q.2)=l0.map (fun q=>some q.2))/\((ar++o0).map (fun q=>q.2)=(ar++o0).map (fun q=>q.2))/\iV FU lo bz l0 (ar++o0) l1 (ar++o1) nx/\(fr=fr/\s=s)
end jT
end
section
open Go Go.Rn Go.RowKit Go.Proofs
namespace Eo
open cv wv fW gO fc jT
variable {a:bC} {c2 c1:cC} {x s:Int} {B:aL} {α:Type} {enc:α->List AV} {L:bV}
noncomputable section
def oU(a:bC)(s x:Int):bC:={a with aY:=a.aY.set s.toNat x}
theorem abu:a.aY.length=(oU a s x).aY.length:=by unfold oU;exact List.length_set.symm
theorem Ww(h:gU a):gU<|oU a s x:=by unfold gU oU at*;rw[List.length_set];exact h
def rT(a:bC)(s _x:Int):AV:=.int .i64 (if 0<=s/\s<a.aY.length then 0 else 5)
def rU(a:bC)(s x:Int):bC:=if 0<=s/\s<a.aY.length then oU a s x else a
theorem ahN(mc:Mt [] B)(h:gU a):oS B 12 (max Tryz.f12.ntmps 3) (az Tryz.f12) a c1 c2 [.int .i64 s,.int .i64 x] (rT a s x)<|aE<|rU a s x:=by
 exact mD mc (.st 8<|.rg<|.go 1<|.fk (.go 10<|.en<|.rt 4 .no)<|.go 5<|.ld [(.slice (some (272,0)) (a.aY.length) c2)]<|.go 1<|.fk (.go 2<|.en<|.rt 4 .no)<|.go 2<|.en<|.st 4<|.rg<|.go 3<|.ld [(.slice (some (272,0)) (a.aY.length) c2)]<|.go 2<|.ix<|.lh (aN bj<|a.aY.set s.toNat x)<|.en<|.rt 3 .no)
  (ax (s<0) (fun _=>(fE (a:=a) (nl:=a.aF.length) (nv:=a.aY.length) c1 c2 h rfl rfl (show(i6<|.ofNat 5)=rT a s x from by(unfold rT;repeat' split)<;>first|rfl|omega|(exfalso;omega)) (show aE (rU a s x)=aE a from by(unfold rU;repeat' split)<;>first|rfl|omega|(exfalso;omega)) 273))
  (fun _=>(ai (iO jz (show((iv a.aF.length a.aY.length c1 c2 a.ay a.dY))[3]? =some ((.slice (some (272,0)) (a.aY.length) c2)) from rfl))
  (ax (s>=(a.aY.length:Int)) (fun _=>(fE (a:=a) (nl:=a.aF.length) (nv:=a.aY.length) c1 c2 h rfl rfl (show(i6<|.ofNat 5)=rT a s x from by(unfold rT;repeat' split)<;>first|rfl|omega|(exfalso;omega)) (show aE (rU a s x)=aE a from by(unfold rU;repeat' split)<;>first|rfl|omega|(exfalso;omega)) 273))
  (fun _=>(ai (iO jz (show((iv a.aF.length a.aY.length c1 c2 a.ay a.dY))[3]? =some ((.slice (some (272,0)) (a.aY.length) c2)) from rfl))
  (dc s (a.aY.length:Int)
  (ai (oA eI.1 (VG h) (Ki (l:=a.aY) (z:=s) ae ae) (c':=x) (r:=[(i6 x)]) 0 rfl rfl rfl)
  (fE (a:=(oU a s x)) (nl:=a.aF.length) (nv:=a.aY.length) c1 c2 (Ww h) rfl abu (show i0=rT a s x from by(unfold rT;repeat' split)<;>first|rfl|omega|(exfalso;omega)) (show aE (rU a s x)=aE (oU a s x) from by(unfold rU;repeat' split)<;>first|rfl|omega|(exfalso;omega)) 273)))))))))
def KV:bC->List AV->Option (AV×bC)
 |a,[.int .i64 x0,.int .i64 x1]=>some (rT a x0 x1,rU a x0 x1)
 |_,_=>none
def Wx:FuncId×KE:=(12,.tok 2<|dG aE KV)
theorem acI(hP:bE pg)(h:aU L):aU<|Wx::L:=C3 hP h cJ Tryz.func12 fun a rest y a' e=>by unfold KV at e;split at e<;>cases e;exact⟨aM.1 aX,fun B c1 c2 mc hb=>ahN mc hb⟩
theorem aoI{l:List Int}{X:Prop}(h1:1<=l.length)(hl:l.length<=1000000)(x:X):
 ((.known 0:cC)= .known 0/\1<=l.length/\some (ab.cells 0 (Tr.fill [] 0 .nil) [])=some (.cells ([]:List AV).length (Tr.fill [] 0 .nil) [])/\some (aN bj l)=some (.cells (l.map bj).flatten.length (Tr.fill (l.map bj).flatten 0 .nil) [])/\([]:List AV).length<=top/\(l.map bj).flatten.length<=top/\0*1<=([]:List AV).length/\l.length*1<=(l.map bj).flatten.length/\([]:List AV).take (0*1)++(l.map bj).flatten.take (l.length*1)=(l.map bj).flatten/\(l.map bj).flatten.all AV.cf=true/\2*(0+l.length)*8+4096*8<=room/\(l.map bj).flatten.length<=top/\X):=by
 have ht:top=549755813888:=rfl;have e1:(l.map bj).flatten.length=l.length:=by rw[eI.length,Nat.mul_one]
 refine⟨rfl,h1,rfl,rfl,Nat.zero_le _,by rw[e1];omega,by show 0*1<=0;omega,by rw[e1];omega,?_,?_,?_,by rw[e1];omega,x⟩
 ·show(l.map bj).flatten.take (l.length*1)=_;exact List.take_of_length_le (by rw[e1];omega)
 ·rw[List.all_eq_true];intro c hc;obtain⟨y,hy,hc⟩:=List.mem_flatten.1 hc;obtain⟨g,_,rfl⟩:=List.mem_map.1 hy;rw[show bj g=[.int .i64 g] from rfl,List.mem_singleton] at hc;subst hc;rfl
 ·unfold room;omega
theorem acJ{fz:ng}{r:Nat->Nat}{l:List α}{n:Nat}(hm:(n,nm (l.map enc).flatten,(l.map enc).flatten)∈fz)(hr:∀k,top<=k->r k=k){e:Nat}:oM fz r (.slice (some (n,0)) (0+l.length)<|.aq (0+l.length) e)<|aS enc l:=by rw[Nat.zero_add];exact N5 hm hr rfl
theorem ahO{K:Nat}(he:mw K enc){l':List α}{n':Nat}(lZ:l'.length*K<=top)(eZ:270<=n'/\n'<top){ps:List<|Nat×Nat}{lo bz nx:Nat}{l0 l:List<|Nat×AV}{o0 o:List<|Nat×Option ab}(gm:270<=lo)(hb:sw ps lo bz nx (o.map (·.1))=true)(hi:G3 ps=true)(eg:(n',some<|aN enc l')∈o0)(amX:lo<=n')(Hr:(ps.all fun p=> !(Nat.beq p.2 n'))=true)(hl:∀r,r=hJ ps lo bz->(∀k,top<=k->r k=k)->∀p∈l,p.1<top/\∃x,(p.1,x)∈l0/\oM [(n',nm (l'.map enc).flatten,(l'.map enc).flatten)] r x p.2)(ho:∀r,r=hJ ps lo bz->(∀k,top<=k->r k=k)->yB r o0 o):
 iV FU lo bz l0 (ar++o0) l (ar++o) nx:=by
 unfold sw at hb;obtain⟨b1,hb⟩:=and_true.1 hb;obtain⟨b2,hb⟩:=and_true.1 hb;obtain⟨b3,hb⟩:=and_true.1 hb;obtain⟨b4,b5⟩:=and_true.1 hb;have b2:=aM.1 b2;have b3:=aM.1 b3;have b4:=(blt_eq _ _).mp b4;have n7:∀p∈ps,lo<=p.1/\p.1<nx/\lo<=p.2/\p.2<top:=fun p hp=>by have:=List.all_eq_true.1 b1 p hp;obtain⟨c1,c2⟩:=and_true.1 this;obtain⟨c2,c3⟩:=and_true.1 c2;obtain⟨c3,c4⟩:=and_true.1 c3;exact⟨aM.1 c1,(blt_eq _ _).mp c2,aM.1 c3,(blt_eq _ _).mp c4⟩
 have none_:∀k,(k<lo\/nx<=k)->(ps.find? fun p=>Nat.beq p.1 k)=none:=fun k hk=>by refine List.find?_eq_none.2 fun p hp=>?_;obtain⟨c1,c2,_⟩:=n7 p hp;rw[dT];omega
 let r:=hJ ps lo bz;have rl:∀k,k<lo->r k=k:=fun k hk=>by show hJ ps lo bz k=k;unfold hJ;rw[none_ k<|.inl hk];exact if_pos<|.inl hk
 have rt:∀k,top<=k->r k=k:=fun k hk=>by show hJ ps lo bz k=k;unfold hJ;rw[none_ k<|.inr ae];exact if_pos<|.inr hk
 have rn:∀k,nx<=k->k<top->bz<=r k/\r k<top:=fun k h1 h2=>by show bz<=hJ ps lo bz k/\hJ ps lo bz k<top;unfold hJ;rw[none_ k<|.inr h1];show bz<=(if _ then _ else _)/\(if _ then _ else _)<top;rw[if_neg ae];omega
 have EY:∀k∈o.map (·.1),(k<lo/\r k=k)\/∃p∈ps,p.1=k/\r k=p.2:=fun k hk=>by
  have:=List.all_eq_true.1 b5 k hk;rcases Bool.or_eq_true_iff.1 this with this|this
  ·have:=(blt_eq _ _).mp this;exact .inl ⟨this,rl k this⟩
  right;obtain⟨p,hp,e⟩:=List.any_eq_true.1 this;cases q:ps.find? fun p=>Nat.beq p.1 k with
  |none=>exact absurd e (by simpa using List.find?_eq_none.1 q p hp)
  |some p'=>have h1:=List.find?_some q;refine⟨p',List.mem_of_find?_eq_some q,dT.1 h1,?_⟩;show hJ ps lo bz k=_;unfold hJ;rw[q]
 have uB:∀p∈ar,p.1<270:=fun p hp=>by obtain⟨k,hk,e⟩:=List.mem_map.1 hp;rw[←e];exact ig k hk
 have t0:270<top:=by unfold top;omega
 refine⟨[(n',nm (l'.map enc).flatten,(l'.map enc).flatten)],r,rl,rn,rt,b3,hl r rfl rt,fun p hp=>?_,fun p hp q hq _ _ e=>?_,fun p hp=>(by rw[List.mem_singleton] at hp;subst hp;exact N6 he lZ n' eZ.2<|List.mem_append_right _ eg),fun p hp q hq _=>?_⟩
 ·rcases List.mem_append.1 hp with hp|hp
  ·have bB:=uB p hp;refine⟨by omega,fun y hy=>?_⟩;rw[rl _ ae];refine⟨by omega,NB p hp y hy,y,?_,gJ.refl _,(FG (nx:=270) (fun k hk=>rl k ae) cH p hp y hy).z⟩;refine List.mem_append_left _ ?_;rw[←hy];exact hp
  ·have bB:p.1<top/\r p.1<top:=by
    rcases EY p.1 (List.mem_map.2 ⟨p,hp,rfl⟩) with⟨c1,c2⟩|⟨p',h1,h2,h3⟩
    ·rw[c2];omega
    ·obtain⟨c1,c2,c3,c4⟩:=n7 p' h1;rw[h3];omega
   refine⟨bB.1,fun y hy=>?_⟩;obtain⟨d1,x,d2,d3,d4⟩:=(ho r rfl rt).mem p hp y hy;exact⟨bB.2,d1,x,List.mem_append_right _ d2,d3,fun ρ eY N o m h=>d4 ρ eY N o ⟨m.1,m.2.1,fun p hp=>by cases hp⟩ h⟩
 ·have key:∀p∈ar++o,(p.1<lo/\r p.1=p.1)\/∃q∈ps,q.1=p.1/\r p.1=q.2:=fun p hp=>by
   rcases List.mem_append.1 hp with hp|hp
   ·exact .inl ⟨by have:=uB p hp;omega,rl _ (by have:=uB p hp;omega)⟩
   ·exact EY p.1<|List.mem_map.2 ⟨p,hp,rfl⟩
  rcases key p hp with⟨a1,a2⟩|⟨a,a1,a2,a3⟩<;>rcases key q hq with⟨c1,c2⟩|⟨c,c1,c2,c3⟩
  ·rw[a2,c2] at e;exact e
  ·have:=(n7 c c1).2.2.1;rw[a2,c3] at e;omega
  ·have:=(n7 a a1).2.2.1;rw[a3,c2] at e;omega
  ·rw[a3,c3] at e;have h1:=List.all_eq_true.1 (List.all_eq_true.1 hi a a1) c c1;rw[Bool.or_eq_true] at h1;rcases h1 with h1|h1
   ·rw[e,show Nat.beq c.2 c.2=true from Nat.beq_refl _] at h1;cases h1
   ·rw[←a2, ←c2];exact Nat.eq_of_beq_eq_true h1
 ·rw[List.mem_singleton] at hp;subst hp;show r q.1≠n';rcases List.mem_append.1 hq with hq|hq
  ·have:=uB q hq;rw[rl _ ae];omega
  ·rcases EY q.1 (List.mem_map.2 ⟨q,hq,rfl⟩) with⟨c1,c2⟩|⟨p',h1,h2,h3⟩
   ·rw[c2];omega
   ·rw[h3];have:=List.all_eq_true.1 Hr p' h1;intro e;rw[e,show Nat.beq n' n'=true from Nat.beq_refl _] at this;cases this
noncomputable abbrev Dt(a:bC)(c1 c2:cC):List<|Nat×Option ab:=ar++[(270,some<|DT a.aF.length a.aY.length c1 c2 a.ay a.dY),(271,some<|aN lu a.aF),(272,some<|aN bj a.aY)]
noncomputable abbrev JM(a:bC)(c1 c2:cC):List<|Nat×Option ab:=[(270,some<|DT a.aF.length a.aY.length c1 c2 a.ay a.dY),(271,some<|aN lu a.aF),(272,some<|aN bj a.aY),(274,some<|aN bj a.aY)]
noncomputable abbrev JN(a:bC):List<|Nat×AV:=[(2,(.slice (some (274,0)) ((0+a.aY.length))<|.aq (0+a.aY.length) 1))]
theorem aep(h:gU a):(((JN a):List<|Nat×AV).map (fun q=>some q.2)=((JN a):List<|Nat×AV).map (fun q=>some q.2))/\((ar++(JM a c1 c2):List<|Nat×Option ab).map (fun q=>q.2)=(ar++(JM a c1 c2):List<|Nat×Option ab).map (fun q=>q.2))/\iV FU 271 275 (JN a) (ar++(JM a c1 c2)) [(2,(aS bj a.aY))] (Dt a c1 c2) 273/\((⟨8,aQ [(2,(aS bj a.aY))],max Tryz.f8.ntmps 1,(dv 8 [1,1,1]),[],none⟩:AF)=⟨8,aQ [(2,(aS bj a.aY))],max Tryz.f8.ntmps 1,(dv 8 [1,1,1]),[],none⟩/\ak (Dt a c1 c2) 273=ak (Dt a c1 c2) 273):=by
 have ht:top=549755813888:=rfl;have h1:=h.1.2;have h2:=h.2.1.2;refine⟨rfl,rfl,ahO (ps:=[(271,271),(272,272)]) (n':=274) (l':=a.aY) (lo:=271) (bz:=275) eI ae ae ae cH cH (.tail _<|.tail _<|.tail _<|.head _) ae cH (fun r hr ht p hp=>?_) fun r hr ht=>?_,rfl,rfl⟩
 ·rw[List.mem_singleton] at hp;subst hp;exact⟨by show 2<top;unfold top;omega,_,.head _,acJ (.head _) ht⟩
 ·have e0:r 270=270:=by rw[hr];kernel_rfl
  have e1:r 271=271:=by rw[hr];kernel_rfl
  have e2:r 272=272:=by rw[hr];kernel_rfl
  refine⟨fun y hy=>?_,fun y hy=>?_,fun y hy=>?_,trivial⟩
  ·cases hy;refine⟨rfl,DT a.aF.length a.aY.length c1 c2 a.ay a.dY,?_,gJ.refl _,?_⟩
   ·show(r 270,_)∈_;rw[e0];exact .head _
   ·exact iu.cells (l:=[.slice (some (271,0)) a.aF.length c1,.int .i64 a.ay,.int .i64 a.dY,.slice (some (272,0)) a.aY.length c2]) (m:=[.slice (some (271,0)) a.aF.length c1,.int .i64 a.ay,.int .i64 a.dY,.slice (some (272,0)) a.aY.length c2]) (by show 4<=top;unfold top;omega) ⟨(bw.slice e1).z,(bw.int _ _).z,(bw.int _ _).z,(bw.slice e2).z,trivial⟩ rfl
  ·cases hy;refine⟨rfl,aN lu a.aF,?_,gJ.refl _,?_⟩
   ·show(r 271,_)∈_;rw[e1];exact .tail _<|.head _
   ·exact(mu.aN (enc:=lu) (l:=a.aF) (fun x=>⟨rfl,rfl⟩) (by rw[uN (K:=2) fun _=>rfl];omega)).z
  ·cases hy;refine⟨rfl,aN bj a.aY,?_,gJ.refl _,?_⟩
   ·show(r 272,_)∈_;rw[e2];exact .tail _<|.tail _<|.head _
   ·exact(mu.aN (enc:=bj) (l:=a.aY) (fun x=>⟨rfl,rfl⟩) (by rw[uN (K:=1) fun _=>rfl];omega)).z
theorem aeq(mc:Mt [] B)(h:gU a):au pg B 271 (iD XT pg (az Tryz.f8) 2 (aS bj a.aY)<|aE a) ⟨8,aQ [(2,(aS bj a.aY))],max Tryz.f8.ntmps 1,(dv 8 [1,1,1]),[],none⟩<|ak (Dt a c1 c2) 273:=by exact mD mc (.rt 1 .no)<|fE (a:=a) (nl:=a.aF.length) (nv:=a.aY.length) c1 c2 h rfl rfl (rX<|aS bj a.aY) (rX<|aE a) 273
theorem acK(mc:Mt [] B)(h:gU a):oS B 8 (max Tryz.f8.ntmps 1) (az Tryz.f8) a c1 c2 [] (aS bj a.aY)<|aE a:=by
 exact Ls mc (C:=(fun fr s1 _=>fr=⟨8,aQ [(2,(aS bj a.aY))],max Tryz.f8.ntmps 1,(dv 8 [1,1,1]),[],none⟩/\s1=ak (Dt a c1 c2) 273)) (fun fr s1 p hC=>by obtain⟨rfl,rfl⟩:=hC;exact aeq mc h) (.st 8<|.rg<|.go 3<|.ld [(.slice (some (272,0)) (a.aY.length) c2)]<|.il<|.st 8<|.rg<|.go 2<|.ao [] ((a.aY.map bj).flatten) ((a.aY.map bj).flatten)<|.go 1<|.en<|.rt 1<|.go 1<|.en<|.rn (JN a) (ar++(JM a c1 c2)) [(2,(aS bj a.aY))] (Dt a c1 c2) 275 273 .no)
  (ai (iO jz (show((iv a.aF.length a.aY.length c1 c2 a.ay a.dY))[3]? =some ((.slice (some (272,0)) (a.aY.length) c2)) from rfl))
  (aoI (l:=a.aY) h.2.1.1 (by have:=h.2.1.2;omega)
  (aep (a:=a) (c1:=c1) (c2:=c2) h)))
def aer(a:bC):AV:=(aS bj a.aY)
def aes(a:bC):bC:=a
def yT:bC->List AV->Option (AV×bC)
 |a,[]=>some (aer a,aes a)
 |_,_=>none
def Ua:FuncId×KE:=(8,.tok 2<|dG aE yT)
theorem ZN(hP:bE pg)(h:aU L):aU<|Ua::L:=C3 hP h cJ Tryz.func8 fun a rest y a' e=>by unfold yT at e;split at e<;>cases e;exact⟨aM.1 aX,fun B c1 c2 mc hb=>acK mc hb⟩
end
end Eo
end
section
open Go Go.Rn Go.RowKit Go.Proofs
namespace EZ
open cv
variable {a:jq} {ve ow st rv:Int} {B:aL} {L:bV}
noncomputable section
def pA(a:jq)(ow ve:Int):AV:=.int .u8 (if ow≠ -1 then 1 else if ve>a.rv then 2 else 0)
theorem ahP(h1:ow≠ -1):AV.int .u8 (.ofNat 1)=pA a ow ve:=by unfold pA;rw[if_pos h1];rfl
theorem ahQ(h1:¬(ow≠ -1))(h2:ve>a.rv):AV.int .u8 (.ofNat 2)=pA a ow ve:=by unfold pA;rw[if_neg h1,if_pos h2];rfl
theorem ahR(h1:¬(ow≠ -1))(h2:¬(ve>a.rv)):AV.int .u8 (.ofNat 0)=pA a ow ve:=by unfold pA;rw[if_neg h1,if_neg h2];rfl
def BD:jq->List AV->Option (AV×jq)
 |a,[.int .i64 ow,.int .i64 ve]=>some (pA a ow ve,a)
 |_,_=>none
def hasB(a:jq)(n:Int):Bool:=a.has.getD n.toNat false
theorem acL{n:Int}(h:pz a)(h1:0<=n)(h2:n<32):(nP a)[2+n.toNat]? =some (AV.bool<|hasB a n):=by
 have hl:=h.2.2;have bB:n.toNat<a.has.length:=by omega
 unfold nP hasB;rw[List.getElem?_append_right (by show 2<=2+n.toNat;omega)];show(a.has.map AV.bool)[2+n.toNat - 2]? =_;rw[show 2+n.toNat - 2=n.toNat by omega,List.getElem?_map,List.getElem?_eq_getElem bB,List.getD_eq_getElem?_getD,List.getElem?_eq_getElem bB];rfl
def G4(a:jq)(n:Int):jq:={a with has:=a.has.set n.toNat true}
theorem acM{n:Int}:nP (G4 a n)=(nP a).set (2+n.toNat) (AV.bool true):=by unfold nP G4;rw[List.set_append_right _ _ (by show 2<=2+n.toNat;omega)];show _++(a.has.set n.toNat true).map AV.bool=_++(a.has.map AV.bool).set (2+n.toNat - 2) (AV.bool true);rw[show 2+n.toNat - 2=n.toNat by omega,List.map_set]
theorem U0{n:Int}(h:pz a):pz<|G4 a n:=⟨h.1,h.2.1,by show(a.has.set n.toNat true).length=32;rw[List.length_set];exact h.2.2⟩
def zQ(a:jq)(n:Int):AV:=.int .i64 (if n<0\/n>=a.rk then 1 else 0)
def oZ(a:jq)(n:Int):jq:=if n<0\/n>=a.rk then a else G4 a n
theorem Wy{n:Int}(h:pz a)(q:n<0\/n>=a.rk):pJ 1 (zQ a n) (jG<|oZ a n) (ak (ar++[(270,some<|BP a)]) 271)<|AV.int .i64<|.ofNat 1:=by unfold zQ oZ;rw[if_pos q,if_pos q];exact Eh (.set a h) rfl 271
theorem af8{n:Int}(h:pz a)(h1:n<0):pJ 1 (zQ a n) (jG<|oZ a n) (ak (ar++[(270,some<|BP a)]) 271)<|AV.int .i64<|.ofNat 1:=Wy h<|.inl h1
theorem af9{n:Int}(h:pz a)(_:¬(n<0))(h2:n>=a.rk):pJ 1 (zQ a n) (jG<|oZ a n) (ak (ar++[(270,some<|BP a)]) 271)<|AV.int .i64<|.ofNat 1:=Wy h<|.inr h2
theorem ahS{n:Int}(h:pz a)(h1:¬(n<0))(h2:¬(n>=a.rk)):pJ 1 (zQ a n) (jG<|oZ a n) (ak (ar++[(270,some<|aN lU<|(nP a).set (2+n.toNat)<|.bool true)]) 271)<|AV.int .i64<|.ofNat 0:=by unfold zQ oZ;rw[if_neg ae,if_neg ae, ←acM];exact Eh (.set (G4 a n)<|U0 h) rfl 271
def G5:jq->List AV->Option (AV×jq)
 |a,[.int .i64 n]=>some (zQ a n,oZ a n)
 |_,_=>none
def oY(rv st:Int):jq:=⟨rv,st,List.replicate 32 false⟩
theorem ahT(hi:zn rv)(dq:¬(rv<0\/rv>1099511627776\/st<1\/st>32)):pJ 1 (.tuple [.ptr<|some (270,0),.int .i64 0]) (jG<|oY rv st) (ak (ar++[(270,some<|BP<|oY rv st)]) 271)<|.tuple [.ptr<|some (270,0),.int .i64<|.ofNat 0]:=Eh (.set (oY rv st) ⟨hi,by show 1<=st/\st<=32;omega,rfl⟩) rfl 271
def Dd:List AV->Option (Option AV×(AV->AV))
 |[.int .i64 rv,.int .i64 st]=>if rv<0\/rv>1099511627776\/st<1\/st>32 then some (none,fun p=>.tuple [p,.int .i64 1]) else some (some<|jG<|oY rv st,fun p=>.tuple [p,.int .i64 0])
 |_=>none
theorem aga(mc:Mt [] B)(h:pz a):Wk B 46 (max Tryz.f46.ntmps 3) (az Tryz.f46) 1 (BP a) [.int .i64 ow,.int .i64 ve] (pA a ow ve)<|jG a:=by
 exact mD mc (.st 8<|.rg<|.go 1<|.fk (.go 1<|.en<|.rt 4 .no)<|.go 1<|.en<|.st 2<|.rg<|.go 4<|.ld [(i6 a.rv)]<|.fk (.go 1<|.en<|.rt 4 .no)<|.go 1<|.en<|.rt 6 .no)
  (ax (ow≠(-1)) (fun h1=>(Eh (.set a h) (ahP (a:=a) (ow:=ow) (ve:=ve) h1) 271))
  (fun h1=>(ai (iO (Nv h) (show(nP a)[0]? =some (AV.int .i64 a.rv) from rfl))
  (ax (ve>a.rv) (fun h2=>(Eh (.set a h) (ahQ (a:=a) (ow:=ow) (ve:=ve) h1 h2) 271))
  (fun h2=>(Eh (.set a h) (ahR (a:=a) (ow:=ow) (ve:=ve) h1 h2) 271))))))
theorem ahU(mc:Mt [] B){n:Int}(h:pz a):Wk B 52 (max Tryz.f52.ntmps 2) (az Tryz.f52) 1 (BP a) [.int .i64 n] (zQ a n)<|jG<|oZ a n:=by
 exact mD mc (.st 8<|.rg<|.go 1<|.fk (.go 9<|.en<|.rt 4 .no)<|.go 5<|.ld [(i6 a.rk)]<|.fk (.go 2<|.en<|.rt 4 .no)<|.go 2<|.en<|.st 4<|.rg<|.go 4<|.Hv<|.lh (aN lU<|(nP a).set (2+n.toNat)<|.bool true)<|.en<|.rt 3 .no)
  (ax (n<0) (fun h1=>(af8 h h1))
  (fun h1=>(ai (iO (Nv h) (show(nP a)[1]? =some (AV.int .i64 a.rk) from rfl))
  (ax (n>=a.rk) (fun h2=>(af9 h h1 h2))
  (fun h2=>(ix2 n (Int.ofNat 32) ae (by have:=h.2.1;have q:n<32:=ae;exact q)
  (ai (Nu (c':=(.bool true)) (Nv h) (acL (n:=n) h ae (by have:=h.2.1;omega)) rfl)
  (ahS h h1 h2))))))))
theorem aet(mc:Mt [] B)(dq:rv<0\/rv>1099511627776\/st<1\/st>32):au pg B 270 (Fin pg (az Tryz.f23) fun y _=>y= .tuple [.ptr none,.int .i64 1]) (sF 23 Tryz.f23 [.int .i64 rv,.int .i64 st])<|ak ar 270:=by exact wS mc (.st 4<|.rg<|.go 1<|.fk (.go 12<|.en<|.rt 4 .no)<|.go 2<|.fk (.go 9<|.en<|.rt 4 .no)<|.go 3<|.fk (.go 5<|.en<|.rt 4 .no)<|.go 3<|.fk (.go 1<|.en<|.rt 4 .no)<|.no)<|ax (rv<0) KK fun _=>(ax (rv>1099511627776) KK fun _=>(ax (st<1) KK fun _=>(ax (st>32) KK bF)))
theorem ahV(mc:Mt [] B)(hi:zn rv)(dq:¬(rv<0\/rv>1099511627776\/st<1\/st>32)):au pg B 270 (iD XT pg (az Tryz.f23) 1 (.tuple [.ptr<|some (270,0),.int .i64 0])<|jG<|oY rv st) (sF 23 Tryz.f23 [.int .i64 rv,.int .i64 st])<|ak ar 270:=by exact wS mc (.st 4<|.rg<|.go 1<|.fk (.no)<|.go 2<|.fk (.no)<|.go 3<|.fk (.no)<|.go 3<|.fk (.no)<|.go 1<|.en<|.rt 5 .no)<|ax (rv<0) bF fun _=>(ax (rv>1099511627776) bF fun _=>(ax (st<1) bF fun _=>(ax (st>32) bF fun _=>(ahT hi dq))))
def Wz:FuncId×KE:=(46,.tok 1<|dG jG BD)
theorem acN(hP:bE pg)(h:aU L):aU<|Wz::L:=by
 refine C8 sj hP hZ qk iS ig lV lC h cJ Tryz.func46 (body:=a9 pg 46 []) aX aX fun v rest y v' e=>?_;obtain⟨a,a',rfl,e1,rfl⟩:=AK e;unfold BD at e1;split at e1
 ·injection e1 with e1
  injection e1 with e2 e3
  subst e2;subst e3;refine⟨aM.1 aX,fun L hx=>?_⟩;generalize hv:jG a=v at hx;cases hx with
  |set b hb=>have:=C2 _ _ hv;subst this;exact⟨271,by omega,aM.1 aX,fun p hp=>W6,fun B mc=>aga mc hb⟩
 ·cases e1
def Xg:FuncId×KE:=(52,.tok 1<|dG jG G5)
theorem aeu(hP:bE pg)(h:aU L):aU<|Xg::L:=by
 refine C8 sj hP hZ qk iS ig lV lC h cJ Tryz.func52 (body:=a9 pg 52 []) aX aX fun v rest y v' e=>?_;obtain⟨a,a',rfl,e1,rfl⟩:=AK e;unfold G5 at e1;split at e1
 ·injection e1 with e1
  injection e1 with e2 e3
  subst e2;subst e3;refine⟨aM.1 aX,fun L hx=>?_⟩;generalize hv:jG a=v at hx;cases hx with
  |set b hb=>have:=C2 _ _ hv;subst this;exact⟨271,by omega,aM.1 aX,fun p hp=>W6,fun B mc=>ahU mc hb⟩
 ·cases e1
def U1:FuncId×KE:=(23,.new 1 Dd)
theorem aaA(hP:bE pg)(h:aU L):aU<|U1::L:=by
 refine I3 sj hP hZ (aM.1 aX) iS ig h cJ Tryz.func23 (body:=a9 pg 23 []) aX aX fun args p e=>?_;unfold Dd at e;split at e
 ·rename_i rv st;refine⟨aM.1 aX,fun e0 B mc=>?_,fun v e0=>?_⟩
  ·split at e
   ·rename_i dq;injection e with e;subst e
    rw[←gY];exact aet mc dq
   ·injection e with e;subst e;cases e0
  ·split at e
   ·injection e with e;subst e;cases e0
   ·rename_i dq;injection e with e;subst e
    injection e0 with e0
    subst e0;refine⟨vx.QJ rfl,fun B mc=>?_⟩;rw[←gY];exact ahV mc (by unfold zn;omega) dq
 ·cases e
end
end EZ
end
section
open Go Go.Rn Go.RowKit Go.Proofs
namespace Xh
open cv cR fW eH gO jT wv pL cG
variable {S o N:Nat} {r:Nat->Nat} {dA:Int} {B:aL} {init:List Int}
noncomputable section
def AN(S:Nat):ab:=(.cells (S*2) (Tr.fill ((List.replicate S (⟨-1,0⟩:Lk)).map lu).flatten 0 .nil) [.int .i64 0,.int .i64 0])
def hR:Tr ab:=gd<|ar++[(270,some<|.cells 2 (Tr.fill [.int .i64<|-1,.int .i64 0] 0 .nil) [])]
def ahX(S:Nat)(v:AV)(st:AS):Prop:=v= .slice (some (271,0)) S (.known S)/\st.h=GM hR [(271,some<|AN S)]/\st.nx=272/\st.mark=0/\st.rd=[]/\st.wr=[]
def ahY(S k:Nat):Pl:=.st 8<|.rg<|.go 2<|.vl (.int .u64<|.ofNat 1)<|.go 1<|.vl (.int .u64<|.ofNat S)<|.il<|.st 6<|.rg<|.go 2<|.il<|.rt 25<|.go 5<|.en<|.rt 3<|.go 5<|.en<|.st 6<|.rg<|.go 1<|.vl (i6<|.ofNat S)<|.go 2<|.en<|.rt k .no
def ahZ(_:1<=S/\S<=32):Pl:=ahY S<|[0,13,22,31,31,40,40,40,40,49,49,49,49,49,49,49,49,58,58,58,58,58,58,58,58,58,58,58,58,58,58,58,58].getD S 0
abbrev Xi:Env:=x9 pg 270 eK dX [] 270 false
theorem ajv(S:Nat):AV.int .u64 (.ofNat 1)= .int .u64 (.ofNat 1)/\AV.int .u64 (.ofNat S)= .int .u64 (.ofNat S)/\AV.int .i64 (.ofNat S)= .int .i64 (.ofNat S)/\AV.slice (some (271,0)) S (.known S)= .slice (some (271,0)) S (.known S)/\GM hR [(271,some<|AN S)]=GM hR [(271,some<|AN S)]/\272=272/\0=0/\([]:List Nat)=[]/\([]:List Nat)=[]:=⟨rfl,rfl,rfl,rfl,rfl,rfl,rfl,rfl,rfl⟩
theorem agd(hS:1<=S/\S<=32):pV Xi 5 (az Tryz.f20) (ahX S) (sF 20 Tryz.f20 [.slice (some (270,0)) 1<|.known 1,.int .i64<|.ofNat S]) ⟨hR,271,0,[],[]⟩:=by
 have h:S=1\/S=2\/S=3\/S=4\/S=5\/S=6\/S=7\/S=8\/S=9\/S=10\/S=11\/S=12\/S=13\/S=14\/S=15\/S=16\/S=17\/S=18\/S=19\/S=20\/S=21\/S=22\/S=23\/S=24\/S=25\/S=26\/S=27\/S=28\/S=29\/S=30\/S=31\/S=32:=by omega
 have T:=ajv S;rcases h with rfl|rfl|rfl|rfl|rfl|rfl|rfl|rfl|rfl|rfl|rfl|rfl|rfl|rfl|rfl|rfl|rfl|rfl|rfl|rfl|rfl|rfl|rfl|rfl|rfl|rfl|rfl|rfl|rfl|rfl|rfl|rfl
 all_goals exact DO (C:=fun _ _ _=>False) fm rfl (fun _ _ _ h=>h.elim) 2000 (ahZ hS) T
abbrev Xj(S:Nat):AS:=⟨GM hR [(271,some<|AN S)],272,0,[],[]⟩
theorem acR(hS:1<=S/\S<=32):bh pg (sp []) FU 6 (.fn 20) [.slice (some (270,0)) 1<|.known 1,.int .i64<|.ofNat S] ⟨hR,271,0,[],[]⟩= .ok (.slice (some (271,0)) S<|.known S) (Xj S):=by obtain⟨v1,s2,q1,q2⟩:=pV.call (E:=Xi) Tryz.func20 (CV Tryz.func20 cH)<|agd hS;obtain⟨h2,nx2,amO,zW,wr2⟩:=s2;obtain⟨rfl,b1,b2,b3,b4,b5⟩:=q2;simp only at b1 b2 b3 b4 b5;subst b1;subst b2;subst b3;subst b4;subst b5;exact q1
theorem Ub{l z:List AV}(hr:∀k,top<=k->r k=k)(hl:l.length<=top)(hh:l.all AV.bG=true):iu [] r (.cells l.length (Tr.fill l 0 .nil) z)<|.cells l.length (Tr.fill l 0 .nil) []:=fun ρ eY N o m h=>by
 have key:OR ρ N (bU l) o:=by simp only[OR,bU] at h ⊢;obtain⟨c,e,rfl,h1,h2,h3⟩:=h;refine⟨c,e,rfl,h1,h2,fun i hi=>?_⟩;obtain⟨x,v,k1,k2,k3,k4⟩:=h3 i hi;refine⟨x,v,?_,k2,k3,k4⟩;unfold cellAt at k1 ⊢;rw[Tr.sO _ _ _ _ ae,if_pos ae] at k1 ⊢;rw[List.getElem?_eq_getElem ae] at k1 ⊢;exact k1
 exact DW (ρ:=ρ) (fun k x hk e=>by show eY (r k)=some x;rw[hr k hk];exact m.1 _ _ e) hl hh key
theorem acS{l:List Int}(hr:∀k,top<=k->r k=k)(hl:l.length<=32):iu [] r (aN bj l)<|aN bj l:=by
 refine Ub hr ?_ ?_
 ·rw[eI.length];have:top=549755813888:=rfl;omega
 ·rw[List.all_eq_true];intro c hc;obtain⟨y,hy,hc⟩:=List.mem_flatten.1 hc;obtain⟨g,_,rfl⟩:=List.mem_map.1 hy;rw[show bj g=[.int .i64 g] from rfl,List.mem_singleton] at hc;subst hc;rfl
theorem U3(S:Nat):((List.replicate S (⟨-1,0⟩:Lk)).map lu).flatten.length=S*2:=by
 have:=sL (K:=2) (l:=(List.replicate S (⟨-1,0⟩:Lk)).map lu) fun c hc=>by obtain⟨a,_,rfl⟩:=List.mem_map.1 hc;rfl
 rw[this,List.length_map,List.length_replicate]
theorem aex(hr:∀k,top<=k->r k=k)(hl:S<=32):iu [] r (AN S)<|aN lu<|List.replicate S (⟨-1,0⟩:Lk):=by unfold AN aN;rw[←U3 S];refine Ub hr (by rw[U3];have:top=549755813888:=rfl;omega) ?_;rw[List.all_eq_true];intro c hc;obtain⟨y,hy,hc⟩:=List.mem_flatten.1 hc;obtain⟨g,_,rfl⟩:=List.mem_map.1 hy;rw[show lu g=[.int .i64 g.owner,.int .i64 g.version] from rfl] at hc;simp only[List.mem_cons,List.not_mem_nil,or_false] at hc;rcases hc with rfl|rfl<;>rfl
theorem aey{m:Nat}{st:Int}(mc:Mt [] B)(hv:(m:Int)<1\/(m:Int)>32\/st<1\/st>(m:Int)\/dA<0\/dA>1099511627776):au pg B 270 (Rn.Fin pg (az Tryz.f6) fun y _=>y= .tuple [.ptr none,.int .i64 1]) (sF 6 Tryz.f6 [(.U N o m),(i6 st),(i6 dA)])<|ak ar 270:=by exact wS mc (.st 4<|.rg<|.go 2<|.fk (.go 23<|.en<|.rt 4 .no)<|.go 3<|.fk (.go 19<|.en<|.rt 4 .no)<|.go 3<|.fk (.go 15<|.en<|.rt 4 .no)<|.go 5<|.fk (.go 9<|.en<|.rt 4 .no)<|.go 3<|.fk (.go 5<|.en<|.rt 4 .no)<|.go 3<|.fk (.go 1<|.en<|.rt 4 .no)<|.no)<|ax ((m:Int)<1) (fun _=>(show((.tuple [(.ptr none),(i6<|.ofNat 1)]):AV)= .tuple [.ptr none,.int .i64 1] from rfl)) fun _=>(ax ((m:Int)>32) (fun _=>(show((.tuple [(.ptr none),(i6<|.ofNat 1)]):AV)= .tuple [.ptr none,.int .i64 1] from rfl)) fun _=>(ax (st<1) (fun _=>(show((.tuple [(.ptr none),(i6<|.ofNat 1)]):AV)= .tuple [.ptr none,.int .i64 1] from rfl)) fun _=>(ax (st>(m:Int)) (fun _=>(show((.tuple [(.ptr none),(i6<|.ofNat 1)]):AV)= .tuple [.ptr none,.int .i64 1] from rfl)) fun _=>(ax (dA<0) (fun _=>(show((.tuple [(.ptr none),(i6<|.ofNat 1)]):AV)= .tuple [.ptr none,.int .i64 1] from rfl)) fun _=>(ax (dA>1099511627776) (fun _=>(show((.tuple [(.ptr none),(i6<|.ofNat 1)]):AV)= .tuple [.ptr none,.int .i64 1] from rfl)) bF)))))
noncomputable abbrev Du(S:Nat)(dA:Int)(init:List Int):List<|Nat×Option ab:=ar++[(270,some<|.cells 4 (Tr.fill [(.slice (some (271,0)) (S)<|.known S),i0,(i6 dA),(.slice (some (272,0)) (init.length)<|.aq init.length 1)] 0 .nil) []),(271,some<|aN lu<|List.replicate S (⟨-1,0⟩:Lk)),(272,some<|aN bj init)]
theorem acT(mc:Mt [] B)(dq:gU (⟨(List.replicate S (⟨-1,0⟩:Lk)),0,dA,init⟩:bC)):au pg B 270 (iD XT pg (az Tryz.f6) 2 (.tuple [.ptr<|some (270,0),.int .i64 0])<|aE (⟨(List.replicate S (⟨-1,0⟩:Lk)),0,dA,init⟩:bC)) (⟨6,aQ [(6,(.ptr<|some (270,0))),(7,i0)],44,(dv 6 [1,1,1]),[],none⟩:AF)<|ak (Du S dA init) 273:=by exact wS mc (.rt 1 .no)<|fE (a:=(⟨(List.replicate S (⟨-1,0⟩:Lk)),0,dA,init⟩:bC)) (nl:=S) (nv:=init.length) (.known S) (.aq init.length 1) dq (by rw[List.length_replicate]) rfl (show((.tuple [(.ptr<|some (270,0)),i0]):AV)= .tuple [.ptr<|some (270,0),.int .i64 0] from rfl) rfl 273
noncomputable abbrev OG(S:Nat)(init:List Int)(dA:Int):List<|Nat×Option ab:=ar++[(271,(some<|AN S)),(273,(some<|aN bj init)),(274,some<|.cells 4 (Tr.fill [(.slice (some (271,0)) (S)<|.known S),i0,(i6 dA),(.slice (some (273,0)) (init.length)<|.aq init.length 1)] 0 .nil) [])]
theorem aez{m:Nat}(hS:1<=S/\S<=32)(hl:init.length<=32)(hSm:S<=m+1)(amY:0<=dA/\dA<=1099511627776)(hn:top<=N)(hf:top<=N/\cT FU N o ((m+1)*1)=some (init.map bj).flatten/\m+1=init.length)(mc:Mt [] B)(dq:gU (⟨(List.replicate S (⟨-1,0⟩:Lk)),0,dA,init⟩:bC)):au pg B 270 (iD XT pg (az Tryz.f6) 2 (.tuple [.ptr<|some (270,0),.int .i64 0])<|aE (⟨(List.replicate S (⟨-1,0⟩:Lk)),0,dA,init⟩:bC)) (sF 6 Tryz.f6 [(.U N o<|m+1),(i6<|(S:Int)),(i6 dA)])<|ak ar 270:=by exact wC mc (C:=(fun fr s1 _=>fr=(⟨6,aQ [(6,(.ptr<|some (270,0))),(7,i0)],44,(dv 6 [1,1,1]),[],none⟩:AF)/\s1=(ak (Du S dA init) 273))) (fun fr s1 p hC=>by obtain⟨rfl,rfl⟩:=hC;exact acT mc dq) (.st 4<|.rg<|.go 2<|.fk (.no)<|.go 3<|.fk (.no)<|.go 3<|.fk (.no)<|.go 5<|.fk (.no)<|.go 3<|.fk (.no)<|.go 3<|.fk (.no)<|.go 1<|.en<|.st 3<|.rg<|.go 3<|.cu (.slice (some (271,0)) (S)<|.known S) (Xj S)<|.go 3<|.il<|.st 8<|.rg<|.go 2<|.al Int bj [] init<|.go 1<|.en<|.rt 1<|.go 4<|.en<|.rn [(6,(.ptr<|some (274,0))),(7,i0)] (OG S init dA) [(6,(.ptr<|some (270,0))),(7,i0)] (Du S dA init) 275 273 .no)<|ax ((((m+1):Nat):Int)<1) bF fun _=>(ax ((((m+1):Nat):Int)>32) bF fun _=>(ax ((S:Int)<1) bF fun _=>(ax ((S:Int)>(((m+1):Nat):Int)) bF fun _=>(ax (dA<0) bF fun _=>(ax (dA>1099511627776) bF fun _=>(ai (acR hS)<|Lw bj [] init (K:=1) (pW:=8) hf (fun x=>⟨rfl,rfl⟩) PW PX<|ai (mS [(6,(.ptr<|some (274,0))),(7,i0)])<|ai (mO<|OG S init dA)<|ai (show iV FU 270 275 [(6,(.ptr<|some (274,0))),(7,i0)] (OG S init dA) [(6,(.ptr<|some (270,0))),(7,i0)] (Du S dA init) 273 from BC (ps:=[(270,274),(271,271),(272,273)]) (lo:=270) (bz:=275) ae cw cw (fun r hr ht=>⟨⟨by unfold top;omega,_,(mi 0),((bw.ptr<|rq hr)).z⟩,⟨⟨by unfold top;omega,_,(mi 1),vi⟩,trivial⟩⟩) fun r hr ht=>⟨pc (mi 2) (rq hr) rp<|VQ (l:=[(.slice (some (271,0)) (S)<|.known S),i0,(i6 dA),(.slice (some (273,0)) (init.length)<|.aq init.length 1)]) (m:=[(.slice (some (271,0)) (S)<|.known S),i0,(i6 dA),(.slice (some (272,0)) (init.length)<|.aq init.length 1)]) ⟨((bw.slice<|rq hr)).z,⟨vi,⟨vi,⟨((bw.slice<|rq hr)).z,trivial⟩⟩⟩⟩,⟨pc (mi 0) (rq hr) rp<|aex ht hS.2,⟨pc (mi 1) (rq hr) (gJ.refl _)<|acS ht hl,trivial⟩⟩⟩) (show(⟨6,aQ [(6,(.ptr<|some (270,0))),(7,i0)],44,(dv 6 [1,1,1]),[],none⟩:AF)=(⟨6,aQ [(6,(.ptr<|some (270,0))),(7,i0)],44,(dv 6 [1,1,1]),[],none⟩:AF)/\(ak (Du S dA init) 273)=(ak (Du S dA init) 273) from⟨rfl,rfl⟩)))))))
end
end Xh
end
section
open Go Go.Rn Go.RowKit Go.Proofs
namespace gg
open cv fc fW gO Xd jT ue
variable {v x:Int} {r:Nat->Nat} {g nt i:Nat} {w2 w1:AV} {p:Option Code} {o0:List<|Nat×Option ab} {jX:bO} {nR:cC}
noncomputable section
section
variable {B:aL} {ms:bO} {cap:cC}
theorem gy{l:bO}(h:1<=l.length/\l.length<=6):(∃m0,l=[m0])\/(∃m0 m1,l=[m0,m1])\/(∃m0 m1 m2,l=[m0,m1,m2])\/(∃m0 m1 m2 m3,l=[m0,m1,m2,m3])\/(∃m0 m1 m2 m3 m4,l=[m0,m1,m2,m3,m4])\/∃m0 m1 m2 m3 m4 m5,l=[m0,m1,m2,m3,m4,m5]:=by
 match l,h with
 |[a],_=>exact .inl ⟨_,rfl⟩
 |[a,b],_=>exact .inr<|.inl ⟨_,_,rfl⟩
 |[a,b,c],_=>exact .inr<|.inr<|.inl ⟨_,_,_,rfl⟩
 |[a,b,c,d],_=>exact .inr<|.inr<|.inr<|.inl ⟨_,_,_,_,rfl⟩
 |[a,b,c,d,e],_=>exact .inr<|.inr<|.inr<|.inr<|.inl ⟨_,_,_,_,_,rfl⟩
 |[a,b,c,d,e,f],_=>exact .inr<|.inr<|.inr<|.inr<|.inr ⟨_,_,_,_,_,_,rfl⟩
 |[],h=>simp at h
 |_::_::_::_::_::_::_::_,h=>simp at h
theorem WB{l:bO}(h:1<=l.length/\l.length<=7):l.length<=6\/∃m0 m1 m2 m3 m4 m5 m6,l=[m0,m1,m2,m3,m4,m5,m6]:=by
 match l,h with
 |[a,b,c,d,e,f,g],_=>exact .inr ⟨_,_,_,_,_,_,_,rfl⟩
 |[],_|[_],_|[_,_],_|[_,_,_],_|[_,_,_,_],_|[_,_,_,_,_],_|[_,_,_,_,_,_],_=>exact .inl (by simp)
 |_::_::_::_::_::_::_::_::l,h=>simp only[List.length_cons] at h;omega
theorem aeA(h:fq ms){nx:Nat}:∀m p,(m,p)∈gC ms cap->(ak (ar++bx (gC ms cap)) nx).h.get m=some p:=fun m p hm=>by
 rcases(WB h.1).imp (fun q=>gy ⟨h.1.1,q⟩) id with(⟨m0,rfl⟩|⟨m0,m1,rfl⟩|⟨m0,m1,m2,rfl⟩|⟨m0,m1,m2,m3,rfl⟩|⟨m0,m1,m2,m3,m4,rfl⟩|⟨m0,m1,m2,m3,m4,m5,rfl⟩)|⟨m0,m1,m2,m3,m4,m5,m6,rfl⟩
 all_goals
  simp only[gC,qv,List.mem_cons,List.not_mem_nil,or_false] at hm
  repeat' (rcases hm with hm|hm)
  all_goals kernel_rfl
theorem P7(nx:Nat)(h:fq ms)(hc:uc ms.length cap)(y:AV):pJ 3 y (bZ ms) (ak (ar++bx (gC ms cap)) nx) y:=⟨rfl,_,.buf _ h cap hc,aeA h⟩
def ml:bO->Int->Int->bO
 |[],_,_=>[]
 |[m],v,x=>[gA m v x]
 |m::m'::l,v,x=>m::ml (m'::l) v x
def gR:bO->bO
 |[]=>[]
 |[m]=>[m]
 |[m,m']=>[je m m']
 |m::m'::HG::l=>m::gR (m'::HG::l)
def xN:bO->List (Int×Int)
 |[]=>[]
 |[m]=>m
 |_::l=>xN l
def gB(ms:bO)(v:Int):Nat->Option Int
 |0=>none
 |n+1=>if lA (ms.getD n []) v=true then some (getM (ms.getD n []) v) else gB ms v n
def ky(ms:bO)(v:Int):Int×Bool:=((gB ms v ms.length).getD 0,(gB ms v ms.length).isSome)
theorem aeB{l:bO}{m:List<|Int×Int}(h:fq<|l++[m]):fq<|l++[gA m v x]:=by
 obtain⟨h1,h2⟩:=h;rw[List.length_append] at h1;refine⟨by rw[List.length_append];exact h1,fun q hq=>?_⟩;rcases List.mem_append.1 hq with hq|hq
 ·exact h2 q<|List.mem_append_left _ hq
 ·rw[List.mem_singleton] at hq;subst hq;exact fR.set (h2 m<|List.mem_append_right _<|List.mem_singleton.2 rfl) v x
theorem Sz{l:bO}{m:List<|Int×Int}:ml (l++[m]) v x=l++[gA m v x]:=by
 induction l with
 |nil=>rfl
 |cons y l ih=>
  cases l with
  |nil=>rfl
  |cons z l=>show y::ml (z::(l++[m])) v x=_;rw[show(z::(l++[m]):bO)=(z::l)++[m] from rfl,ih];rfl
theorem M4{b:bO}(h:fq b)(v x:Int):fq<|ml b v x:=by
 have ct:b≠[]:=fun e=>by have:=h.1.1;rw[e] at this;simp only[List.length_nil] at this;omega
 rw[←List.dropLast_concat_getLast ct] at h ⊢;rw[Sz];exact aeB h
theorem Ic:∀(b:bO) (v x:Int),(ml b v x).length=b.length
 |[],_,_|[_],_,_=>rfl
 |m::m'::l,v,x=>congrArg (· +1)<|Ic (m'::l) v x
theorem Of(h:fq ms)(h6:ms.length<7):fq<|ms++[[]]:=by
 refine⟨by rw[List.length_append];show 1<=ms.length+1/\ms.length+1<=7;omega,fun m hm=>?_⟩;rcases List.mem_append.1 hm with hm|hm
 ·exact h.2 m hm
 ·rw[List.mem_singleton] at hm;subst hm;exact List.nodup_nil
theorem Og(h:fq ms)(h2:2<=ms.length):fq ms.dropLast:=by refine⟨by rw[List.length_dropLast];have:=h.1.2;omega,fun m hm=>h.2 m<|List.dropLast_subset _ hm⟩
theorem HW:∀ms:bO,2<=ms.length->(gR ms).length+1=ms.length
 |[],h=>by simp at h
 |[_],h=>by simp at h
 |[_,_],_=>rfl
 |m::m'::HG::l,_=>by have:=HW (m'::HG::l) (by simp);show(gR<|m'::HG::l).length+1+1=(m'::HG::l).length+1;rw[this]
theorem Ru:∀ms:bO,(∀m∈ms,fR m)->∀m∈gR ms,fR m
 |[],h,m,hm=>by cases hm
 |[a],h,m,hm=>h m hm
 |[a,b],h,m,hm=>by rw[show gR [a,b]=[je a b] from rfl,List.mem_singleton] at hm;subst hm;exact fR.merge (h a<|by simp)
 |a::b::c::l,h,m,hm=>by
  have hm:m∈a::gR (b::c::l):=hm;rcases List.mem_cons.1 hm with rfl|hm
  ·exact h _ (by simp)
  ·exact Ru (b::c::l) (fun q hq=>h q<|List.mem_cons_of_mem _ hq) m hm
theorem IP(h:fq ms)(h2:2<=ms.length):fq<|gR ms:=⟨by have:=HW ms h2;have:=h.1.2;omega,Ru ms h.2⟩
theorem acU(h:fq ms):∀p∈gC ms cap,p.1<279:=fun p hp=>by
 have h6:=h.1.2;rcases List.mem_cons.1 hp with rfl|hp
 ·show 270<279;omega
 rcases List.mem_cons.1 hp with rfl|hp
 ·show 271<279;omega
 ·have:=(MT hp).2.1;omega
abbrev SB(B:aL)(g nt:Nat)(rs:List ResultVar)(args:List AV)(ms:bO)(cap:cC)(y:AV)(jX:bO):Prop:=au pg B 271 (iD XT pg rs 3 y<|bZ jX) ⟨g,ep<|.ptr (some (270,0))::args,nt,[.code<|a9 pg g []],[],none⟩<|ak (ar++bx (gC ms cap)) 279
theorem ajw(mc:Mt [] B)(h:fq ms)(hc:uc ms.length cap)(k:((some (bL<|xN ms)=some (bL<|xN ms))/\pJ 3 (.int .i64 0) (bZ<|ml ms v x) (ak (ar++bx (gC (ml ms v x) cap)) 279) (.int .i64 0))=wp (yw []) 900 6 (.fr 88 (max Tryz.f88.ntmps 3) (dv 88 []) (ep [.ptr<|some (270,0),.int .i64 v,.int .i64 x])<|ak (ar++bx (gC ms cap)) 279) (.st 8<|.rg<|.go 14<|.Lh (xN ms)<|.en<|.rt 3 .no) (az Tryz.f88) (fun y s _=>pJ 3 (.int .i64 0) (bZ<|ml ms v x) s y) (fun _ _ _=>False):=by as_aux_lemma=>kernel_rfl):
 SB B 88 (max Tryz.f88.ntmps 3) (az Tryz.f88) [.int .i64 v,.int .i64 x] ms cap (.int .i64 0) (ml ms v x):=
 mD mc _ ⟨rfl,P7 279 (M4 h v x) (by rw[Ic];exact hc)<|.int .i64 0⟩ k cH
theorem acV(mc:Mt [] B)(h:fq ms)(hc:uc ms.length cap)(h6:ms.length<=6):SB B 88 (max Tryz.f88.ntmps 3) (az Tryz.f88) [.int .i64 v,.int .i64 x] ms cap (.int .i64 0)<|ml ms v x:=by rcases gy ⟨h.1.1,h6⟩ with⟨m0,rfl⟩|⟨m0,m1,rfl⟩|⟨m0,m1,m2,rfl⟩|⟨m0,m1,m2,m3,rfl⟩|⟨m0,m1,m2,m3,m4,rfl⟩|⟨m0,m1,m2,m3,m4,m5,rfl⟩<;>exact ajw mc h hc
abbrev KA(L:bV)(g:Nat)(f:Func)(ms:bO)(cap:cC)(path:List Nat)(jX:bO)(nR:cC)(p:Pl):Prop:=wp (yw L) 900 6 (.fr g (max f.ntmps 1) [.code<|a9 pg g []] (ep [.ptr<|some (270,0)])<|ak (ar++bx (gC ms cap)) 279) p f.results.toList (fun y s _=>pJ 3 (.int .i64 0) (bZ jX) s y) fun fr s1 _=>fr=⟨g,aQ [(2,i0)],max f.ntmps 1,[.code<|a9 pg g path],[],none⟩/\s1=ak (ar++bx (gC jX nR)) 279
abbrev Lz(jX:bO)(nR:cC):Prop:=pJ 3 (.int .i64 0) (bZ jX) (ak (ar++bx (gC jX nR)) 279)<|.int .i64 0
abbrev KB(L:bV)(g:Nat)(f:Func)(path:List Nat)(jX:bO)(nR:cC):Prop:=wp (yw L) 900 6 (.fr g (max f.ntmps 1) [.code<|a9 pg g path] (aQ [(2,i0)])<|ak (ar++bx (gC jX nR)) 279) (.rt 1 .no) f.results.toList (fun y s _=>pJ 3 (.int .i64 0) (bZ jX) s y) fun _ _ _=>False
theorem OH{L:bV}{f:Func}(path:List Nat)(mc:Mt L B)(h':fq jX)(QY:uc jX.length nR)(p:Pl){T:Prop}(x:T)(k:T=KA L g f ms cap path jX nR p:=by as_aux_lemma=>kernel_rfl)(k2:Lz jX nR=KB L g f path jX nR:=by as_aux_lemma=>kernel_rfl):
 SB B g (max f.ntmps 1) f.results.toList [] ms cap (.int .i64 0) jX:=
 Ls mc (fun fr s1 _ hC=>by obtain⟨rfl,rfl⟩:=hC;exact mD mc _ (P7 279 h' QY _) k2 cH) p x k cH
abbrev HH(bz:Nat)(o0:List<|Nat×Option ab)(jX:bO)(nR:cC)(g nt:Nat)(path:List Nat):Prop:=Yi 271 bz 279 [(2,i0)] o0 [(2,i0)] (bx<|gC jX nR) ⟨g,aQ [(2,i0)],nt,[.code<|a9 pg g path],[],none⟩<|ak (ar++bx (gC jX nR)) 279
theorem Xk{ps:List<|Nat×Nat}{bz:Nat}{path:List Nat}(h:∀r,r=hJ ps 271 bz->yB r o0 (bx<|gC jX nR))(h1:sw ps 271 bz 279 ((bx<|gC jX nR).map (·.1))=true:=by as_aux_lemma=>kernel_rfl)(h2:G3 ps=true:=by as_aux_lemma=>kernel_rfl):HH bz o0 jX nR g nt path:=⟨rfl,rfl,BC (ps:=ps) ae h1 h2 (fun r hr ht=>⟨⟨by unfold top;omega,_,mi 0,vi⟩,trivial⟩) fun r hr _=>h r hr,rfl,rfl⟩
def E3(n:Nat):List<|Nat×Nat:=(271,281)::(272+n,279)::(List.range n).map fun i=>(272+i,272+i)
def QZ(ms:bO):List<|Nat×Option ab:=(270,some<|aN jZ [.slice (some (281,0)) (ms.length+1)<|.aq (ms.length+1) 1])::(281,some<|aN jZ<|mo ms.length++[.map<|some 279])::(279,some<|GL [])::bx (qv 272 ms)
theorem JO(l:List AV):(l.map jZ).flatten=l:=DU l
theorem G8{l m:List AV}(h:mH [] r l m)(hl:l.length<=8)(h1:m.all AV.cf=true):iu [] r (aN jZ l)<|aN jZ m:=by show iu [] r (.cells (l.map jZ).flatten.length (Tr.fill (l.map jZ).flatten 0 .nil) [])<|.cells (m.map jZ).flatten.length (Tr.fill (m.map jZ).flatten 0 .nil) [];rw[JO,JO];exact iu.cells iy h h1
theorem Uc(n:Nat):(mo n).all AV.cf=true:=by rw[mo,List.all_map,List.all_eq_true];exact fun _ _=>rfl
theorem Ud(n:Nat):(mo n).length=n:=by rw[mo,List.length_map,List.length_range]
theorem Yp{m:Nat}{l:List<|Int×Int}(q:r m=m)(hm:(m,some<|bL l)∈o0:=by repeat first|exact List.mem_cons_self|apply List.mem_cons_of_mem):∀z,some (bL l)=some z->z.pk=true/\∃x,(r m,some x)∈o0/\gJ x z/\iu [] r x z:=pc hm q ahM ajt
theorem ah0(mc:Mt [] B)(h:fq<|ms++[[]])(w1:∀r,r=hJ (E3 ms.length) 271 282->mH [] r (mo ms.length++[.map<|some 279]) (mo (ms++[[]]).length))(w2:∀r,r=hJ (E3 ms.length) 271 282->yB r (QZ ms) (bx<|qv 272<|ms++[[]]))(k:HH 282 (QZ ms) (ms++[[]]) (.aq (ms.length+1) 1) 90 (max Tryz.f90.ntmps 1) [1,1,1,1]=KA [] 90 Tryz.f90 ms cap [1,1,1,1] (ms++[[]]) (.aq (ms.length+1) 1) (.st 11<|.rn [(2,i0)] (ar++QZ ms) [(2,i0)] (ar++bx (gC (ms++[[]])<|.aq (ms.length+1) 1)) 282 279 .no):=by as_aux_lemma=>kernel_rfl)(h1:sw (E3 ms.length) 271 282 279 ((bx<|gC (ms++[[]])<|.aq (ms.length+1) 1).map (·.1))=true:=by as_aux_lemma=>kernel_rfl)(h2:G3 (E3 ms.length)=true:=by as_aux_lemma=>kernel_rfl)(q0:hJ (E3 ms.length) 271 282 270=270:=by as_aux_lemma=>kernel_rfl)(q1:hJ (E3 ms.length) 271 282 271=281:=by as_aux_lemma=>kernel_rfl)(k2:Lz (ms++[[]]) (.aq (ms.length+1) 1)=KB [] 90 Tryz.f90 [1,1,1,1] (ms++[[]]) (.aq (ms.length+1) 1):=by as_aux_lemma=>kernel_rfl):
 SB B 90 (max Tryz.f90.ntmps 1) (az Tryz.f90) [] ms cap (.int .i64 0) (ms++[[]]):=by
 have hl:(ms++[[]]).length=ms.length+1:=by rw[List.length_append];rfl
 have h7:=h.1.2;refine OH [1,1,1,1] mc h (.inl<|by rw[hl]) _ (Xk (fun r hr=>⟨pc (mi 0) (rq hr q0) rp<|G8 (l:=[.slice (some (281,0)) (ms.length+1)<|.aq (ms.length+1) 1]) ⟨?_,trivial⟩ (by simp) rfl,pc (mi 1) (rq hr q1) rp<|G8 (w1 r hr) ?_<|Uc _,w2 r hr⟩) h1 h2) k k2
 ·rw[hl];exact(bw.slice<|rq hr q1).z
 ·rw[List.length_append,Ud];show ms.length+1<=8;omega
theorem abx(mc:Mt [] B)(h:fq ms)(hc:uc ms.length cap)(h6:ms.length<=6):SB B 90 (max Tryz.f90.ntmps 1) (az Tryz.f90) [] ms cap (.int .i64 0)<|ms++[[]]:=by
  have h2:=Of h ae
  rcases gy ⟨h.1.1,h6⟩ with⟨m0,rfl⟩|⟨m0,m1,rfl⟩|⟨m0,m1,m2,rfl⟩|⟨m0,m1,m2,m3,rfl⟩|⟨m0,m1,m2,m3,m4,rfl⟩|⟨m0,m1,m2,m3,m4,m5,rfl⟩
  all_goals rcases hc with rfl|⟨e,rfl⟩
  all_goals first
    |(cases e;done)
    | (refine ah0 mc h2 (fun r hr=>?_) fun r hr=>?_
       · repeat' first|exact trivial|refine⟨(bw.map<|rq hr).z,?_⟩
       · repeat' first|exact trivial|refine⟨pc (n:=279) (mi 2) (rq hr) VP<|Wv List.nodup_nil,?_⟩|refine⟨Yp<|rq hr,?_⟩)
theorem Ue{α:Type}{f g:α->AV}:∀{l:List α},(∀i∈l,oM [] r (f i)<|g i)->mH [] r (l.map f) (l.map g)
 |[],_=>trivial
 |_::_,h=>⟨h _ List.mem_cons_self,Ue fun i hi=>h i<|List.mem_cons_of_mem _ hi⟩
theorem Xl{r:Nat->Nat}{o0:List<|Nat×Option ab}:∀{ms:bO} {k:Nat},(∀p∈qv k ms,(p.1,some p.2)∈o0)->(∀i,i<ms.length->r (k+i)=k+i)->yB r o0 (bx<|qv k ms)
 |[],_,_,_=>trivial
 |m::ms,k,h,q=>⟨Yp (m:=k) (q 0<|Nat.succ_pos _)<|h _ List.mem_cons_self,Xl (fun p hp=>h p<|List.mem_cons_of_mem _ hp) fun i hi=>by have:=q (i+1)<|Nat.succ_lt_succ hi;rwa[show k+1+i=k+(i+1) by omega]⟩
theorem Uf:∀{l:List<|Nat×ab} {p:Nat×ab},p∈l->(p.1,some p.2)∈bx l
 |_::l,p,h=>by
  rcases List.mem_cons.1 h with rfl|h
  ·exact List.mem_cons_self
  ·exact List.mem_cons_of_mem _<|Uf h
def LA:List<|Nat×Nat:=[(271,271),(272,272),(273,273),(274,274),(275,275),(276,276),(277,277)]
theorem WC(hr:r=hJ LA 271 279)(i:Nat)(h:i<6):r (272+i)=272+i:=by rcases(by omega:i=0\/i=1\/i=2\/i=3\/i=4\/i=5) with rfl|rfl|rfl|rfl|rfl|rfl<;>exact rq hr
def HI(ms:bO):List<|Nat×Option ab:=(270,some<|aN jZ [.slice (some (271,0)) ms.length<|.aq (ms.length+1) 1])::(271,some<|aN jZ<|mo<|ms.length+1)::bx (qv 272 ms)
theorem U4{path:List Nat}(h:fq ms)(h6:ms.length<=6)(h1:sw LA 271 279 279 ((bx<|gC ms<|.aq ms.length 1).map (·.1))=true:=by as_aux_lemma=>kernel_rfl):HH 279 (HI ms) ms (.aq ms.length 1) g nt path:=by refine Xk (fun r hr=>⟨pc (mi 0) (rq hr) rp<|G8 (l:=[.slice (some (271,0)) ms.length<|.aq (ms.length+1) 1]) ⟨(aeo (rq hr) ae ae).z,trivial⟩ (by simp) rfl,pc (mi 1) (rq hr) rp ?_,Xl (fun p hp=>List.mem_cons_of_mem _<|List.mem_cons_of_mem _<|Uf hp) fun i hi=>WC hr i ae⟩) h1;show iu [] r (.cells ((mo<|ms.length+1).map jZ).flatten.length (Tr.fill ((mo<|ms.length+1).map jZ).flatten 0 .nil) [])<|.cells ((mo ms.length).map jZ).flatten.length (Tr.fill ((mo ms.length).map jZ).flatten 0 .nil) [];rw[JO,JO,show mo (ms.length+1)=mo ms.length++[.map<|some<|272+ms.length] by rw[mo,List.range_succ,List.map_append];rfl];exact Iu (by rw[List.length_append,Ud];show ms.length+1<=top;unfold top;omega) (Ue fun i hi=>(bw.map<|WC hr i (by have:=List.mem_range.1 hi;omega)).z)<|Uc _
theorem ah1(mc:Mt [] B)(h:fq ms.dropLast)(h6:ms.dropLast.length<=6)(h1:sw LA 271 279 279 ((bx<|gC ms.dropLast<|.aq ms.dropLast.length 1).map (·.1))=true:=by as_aux_lemma=>kernel_rfl)(k:HH 279 (HI ms.dropLast) ms.dropLast (.aq ms.dropLast.length 1) 89 (max Tryz.f89.ntmps 1) [1,1,1]=KA [] 89 Tryz.f89 ms cap [1,1,1] ms.dropLast (.aq ms.dropLast.length 1) (.st 3<|.rg<|.go 1<|.il<|.rt 19<|.go 5<|.en<|.st 2<|.rn [(2,i0)] (ar++HI ms.dropLast) [(2,i0)] (ar++bx (gC ms.dropLast<|.aq ms.dropLast.length 1)) 279 279 .no):=by as_aux_lemma=>kernel_rfl)(k2:Lz ms.dropLast (.aq ms.dropLast.length 1)=KB [] 89 Tryz.f89 [1,1,1] ms.dropLast (.aq ms.dropLast.length 1):=by as_aux_lemma=>kernel_rfl):
 SB B 89 (max Tryz.f89.ntmps 1) (az Tryz.f89) [] ms cap (.int .i64 0) ms.dropLast:=
 OH [1,1,1] mc h (.inl rfl) _ (U4 h h6 h1) k k2
theorem aby(mc:Mt [] B)(h:fq ms)(hc:uc ms.length cap)(h2:2<=ms.length)(h6:ms.length<=6):SB B 89 (max Tryz.f89.ntmps 1) (az Tryz.f89) [] ms cap (.int .i64 0) ms.dropLast:=by
 have q:=Og h h2;have q6:ms.dropLast.length<=6:=by rw[List.length_dropLast];omega
 rcases hc with rfl|⟨e,_⟩
 rotate_left
 ·omega
 rcases gy ⟨h.1.1,h6⟩ with⟨m0,rfl⟩|⟨m0,m1,rfl⟩|⟨m0,m1,m2,rfl⟩|⟨m0,m1,m2,m3,rfl⟩|⟨m0,m1,m2,m3,m4,rfl⟩|⟨m0,m1,m2,m3,m4,m5,rfl⟩
 ·simp at h2
 all_goals exact ah1 mc q q6
def mcS(a b:Nat)(m1 m2:List<|Int×Int)(s:AS):AS:=fF b (some<|bL m2)<|fF a (some<|bL<|je m1 m2)<|aZ b<|aZ a<|dP 270 dX eK s
def Cz(ms:bO):AS:=⟨gd<|ar++(270,some<|aN jZ [.slice (some (271,0)) (ms.length - 1)<|.aq ms.length 1])::(271,some<|aN jZ<|mo ms.length)::bx (qv 272 ms),279,279,[],[]⟩
abbrev Yq(ms:bO):AS:=mcS (272+(ms.length - 2)) (272+(ms.length - 1)) (xN ms.dropLast) (xN ms)<|Cz ms
theorem M5:∀{ms:bO},(∀m∈ms,fR m)->fR (xN ms)
 |[],_=>List.nodup_nil
 |[m],h=>h m List.mem_cons_self
 |_::m::l,h=>M5 (ms:=m::l) fun q hq=>h q<|List.mem_cons_of_mem _ hq
theorem age(mc:Mt [Cx] B)(h0:fq ms)(hn:2<=ms.length)(h:fq<|gR ms)(h6:(gR ms).length<=6)(h1:sw LA 271 279 279 ((bx<|gC (gR ms)<|.aq (gR ms).length 1).map (·.1))=true:=by as_aux_lemma=>kernel_rfl)(hk:qG 270 dX eK (Cz ms)=true:=by as_aux_lemma=>kernel_rfl)(ha:Nat.blt (272+(ms.length - 2)) (dP 270 dX eK<|Cz ms).nx=true:=by as_aux_lemma=>kernel_rfl)(hb:Nat.blt (272+(ms.length - 1)) (dP 270 dX eK<|Cz ms).nx=true:=by as_aux_lemma=>kernel_rfl)(g1:(dP 270 dX eK<|Cz ms).h.get (272+(ms.length - 2))=some (bL<|xN ms.dropLast):=by as_aux_lemma=>kernel_rfl)(g2:(dP 270 dX eK<|Cz ms).h.get (272+(ms.length - 1))=some (bL<|xN ms):=by as_aux_lemma=>kernel_rfl)(k:(bh pg (sp [Cx]) FU 6 (.fn 99) [.map<|some<|272+(ms.length - 2),.map<|some<|272+(ms.length - 1)] (Cz ms)= .ok (.tuple []) (Yq ms)/\HH 279 (HI<|gR ms) (gR ms) (.aq (gR ms).length 1) 86 (max Tryz.f86.ntmps 1) [1,1,1,1])=KA [Cx] 86 Tryz.f86 ms cap [1,1,1,1] (gR ms) (.aq (gR ms).length 1) (.st 3<|.rg<|.go 1<|.il<|.rt 19<|.go 5<|.en<|.st 4<|.rg<|.go 13<|.cu (.tuple []) (Yq ms)<|.en<|.st 2<|.rn [(2,i0)] (ar++HI (gR ms)) [(2,i0)] (ar++bx (gC (gR ms)<|.aq (gR ms).length 1)) 279 279 .no):=by as_aux_lemma=>kernel_rfl)(k2:Lz (gR ms) (.aq (gR ms).length 1)=KB [Cx] 86 Tryz.f86 [1,1,1,1] (gR ms) (.aq (gR ms).length 1):=by as_aux_lemma=>kernel_rfl):
 SB B 86 (max Tryz.f86.ntmps 1) (az Tryz.f86) [] ms cap (.int .i64 0) (gR ms):=
 have h7:=h0.1.2
 OH [1,1,1,1] mc h (.inl rfl) _ ⟨adO (P:=pg) (sp:=sp [Cx]) aX hk ae ha hb (by rw[blt_eq];unfold top;omega) (by rw[blt_eq];unfold top;omega) g1 g2 (M5 fun m hm=>h0.2 m<|List.dropLast_subset _ hm)<|M5 h0.2,U4 h h6 h1⟩ k k2
theorem Mn(mc:Mt [Cx] B)(h:fq ms)(hc:uc ms.length cap)(h2:2<=ms.length):SB B 86 (max Tryz.f86.ntmps 1) (az Tryz.f86) [] ms cap (.int .i64 0)<|gR ms:=by
 have q:=IP h h2;have q6:(gR ms).length<=6:=by have:=HW ms h2;have:=h.1.2;omega
 rcases hc with rfl|⟨e,_⟩
 rotate_left
 ·omega
 rcases(WB h.1).imp (fun q=>gy ⟨h.1.1,q⟩) id with(⟨m0,rfl⟩|⟨m0,m1,rfl⟩|⟨m0,m1,m2,rfl⟩|⟨m0,m1,m2,m3,rfl⟩|⟨m0,m1,m2,m3,m4,rfl⟩|⟨m0,m1,m2,m3,m4,m5,rfl⟩)|⟨m0,m1,m2,m3,m4,m5,m6,rfl⟩
 ·simp at h2
 all_goals exact age mc h h2 q q6
def HJ:Code:=a9 pg 57 [1,1,0,1,0,0]
def CA:Code:=a9 pg 57 [1,1,0,1,0,1]
def sC:List<|Nat×AV:=[(3,(.ptr<|some (279,0))),(4,(.ptr<|some (280,0))),(5,(.ptr<|some (281,0))),(12,(.func (.func 95) [] [(.ptr<|some (282,0))]))]
def oG(n:Nat)(cap:cC)(x:Nat->Option ab)(v:Int)(w1 w2:AV):List<|Nat×Option ab:=ar++[(270,some<|W8 n cap),(271,some<|aN jZ<|mo n),(272,x 0),(273,x 1),(274,x 2),(275,x 3),(276,x 4),(277,x 5),(279,some<|eM<|.int .i64 v),(280,some<|eM w1),(281,some<|eM w2),(282,some<|.cells 1 (Tr.fill [.ptr<|some (270,0)] 0 .nil) [])]
def sG(n:Nat)(cap:cC)(x:Nat->Option ab)(v:Int)(w1 w2:AV)(st:LoopState)(p:Option Code):AS:=ak (oG n cap x v w1 w2++[(283,some .defs),(284,some<|.loop st p 57 (aQ sC) 22 [13] HJ CA 283)]) 285
abbrev qT(n:Nat)(cap:cC)(x:Nat->Option ab)(v:Int):AS:=sG n cap x v (.int .i64 0) (.bool false) .ready none
def pd(n:Nat)(cap:cC)(x:Nat->Option ab)(v:Int):Option Int->AS
 |none=>qT n cap x v
 |some z=>sG n cap x v (.int .i64 z) (.bool true) .done<|some .ret
def oI(b:Bool)(z:Int):Option Int:=match b with
 |true=>some z
 |false=>none
def bP(b:Bool)(p q:Prop):Prop:=match b with
 |true=>p
 |false=>q
theorem rgT{A L:Prop}{m:List<|Int×Int}(b:Bool)(a:A)(hh:lA m v=b)(l:L):A/\((lA m v=true->bP b L False)/\(lA m v=false->bP b False L)):=by subst hh;refine⟨a,fun h=>?_,fun h=>?_⟩<;>(rw[h];exact l)
abbrev yx(n:Nat)(cap:cC)(x:Nat->Option ab)(v:Int)(i:Nat)(s:AS)(y:AV):Prop:=bh pg (sp []) FU 5 (.round 284) [.map<|some<|272+i] (qT n cap x v)= .ok y s
theorem rgW{n:Nat}{cap:cC}{x:Nat->Option ab}{m:List<|Int×Int}(b:Bool)(hx:x i=some (bL m))(hh:lA m v=b)(k1:getLoop 284 (qT n cap x v)= .ok (.loop .ready none 57 (aQ sC) 22 [13] HJ CA 283) (qT n cap x v):=by as_aux_lemma=>kernel_rfl)(k2:dZ pg (bh pg (sp []) FU 4) 2 ⟨57,jy [13] [.map<|some<|272+i]<|aQ sC,22,[.code HJ,.beginRound,.code CA],[],some 284⟩ (qT n cap x v)= .ok (.go ⟨57,((jy [13] [.map<|some<|272+i]<|aQ sC).put 6<|some<|.map<|some<|272+i),22,[.code CA],[],some 284⟩) (sG n cap x v (.int .i64 0) (.bool false) .busy none):=by as_aux_lemma=>kernel_rfl)(k:((x i=some (bL m))/\((lA m v=true->bP b ((none:Option Nat)=none/\([]:List Nat)=[]/\(some (.bool !b,pd n cap x v<|oI b<|getM m v):Option<|AV×AS)=some (.bool !b,pd n cap x v<|oI b<|getM m v)) False)/\(lA m v=false->bP b False ((none:Option Nat)=none/\([]:List Nat)=[]/\(some (.bool !b,pd n cap x v<|oI b<|getM m v):Option<|AV×AS)=some (.bool !b,pd n cap x v<|oI b<|getM m v)))))=wp (ko []) 900 4 (.fr 57 22 [.code CA] ((jy [13] [.map<|some<|272+i]<|aQ sC).put 6<|some<|.map<|some<|272+i)<|sG n cap x v (.int .i64 0) (.bool false) .busy none) (.st 2<|.rg<|.go 2<|.XP m (@Bool.rec (fun _=>Pl) .no (.go 5<|.en<|.st 5<|.cut .no) b)<|@Bool.rec (fun _=>Pl) (.go 5<|.en<|.st 5<|.cut .no) .no b) [] (fun _ _ _=>False)
 (fun fr s1 _=>fr.round=none/\fr.defers=[]/\AY pg (bh pg (sp []) FU 4) 284 fr s1=some (.bool !b,pd n cap x v<|oI b<|getM m v)):=by as_aux_lemma=>kernel_rfl):yx n cap x v i (pd n cap x v<|oI b<|getM m v)<|.bool !b:=
 Fe k1 rfl (Chunk.ev 2 _ _ _ _ k2<|C1 (E:=ko []) fm rfl (fun fr s p h=>Fc h.1 h.2.1 h.2.2) 900 _ (rgT b hx hh<|Hz _ _) k)
theorem U5{n:Nat}{cap:cC}{x:Nat->Option ab}{m:List<|Int×Int}(b:Bool)(hi:i<6)(hx:x i=some (bL m))(hh:lA m v=b):yx n cap x v i (pd n cap x v<|oI b<|getM m v)<|.bool !b:=by rcases(by omega:i=0\/i=1\/i=2\/i=3\/i=4\/i=5) with rfl|rfl|rfl|rfl|rfl|rfl<;>cases b<;>exact rgW _ hx hh
def pD(s0 sE:AS)(b:Bool):Nat->Nat->Pl
 |j,0=> @Bool.rec (fun _=>Pl) (.rt 11 .no) (.st j<|.rg<|.go 8<|.cy (.bool false) sE<|.go 1<|.en<|.rt 2 .no) b
 |j,k+1=>.st j<|.rg<|.go 8<|.cy (.bool true) s0<|.go 1<|.en<|pD s0 sE b 13 k
def TD(n:Nat)(cap:cC)(x:Nat->Option ab)(v z:Int)(b:Bool):Nat->Nat->Prop
 |i,0=>bP b (yx n cap x v (i - 1) (pd n cap x v<|some z) (.bool false)/\(AV.tuple []= .tuple []/\pd n cap x v (some z)=pd n cap x v (some z)))<|AV.tuple []= .tuple []/\qT n cap x v=qT n cap x v
 |i,k+1=>yx n cap x v (i - 1) (qT n cap x v) (.bool true)/\TD n cap x v z b (i - 1) k
def xB(ms:bO)(i:Nat):Option ab:=(ms[i]?).map bL
theorem U6{n:Nat}{v:Int}(h6:ms.length<=6):∀i,i<=ms.length->∃k b z,((b=true/\k<i)\/(b=false/\k=i))/\gB ms v i=oI b z/\TD n cap (xB ms) v z b i k
 |0,_=>⟨0,false,0,.inr ⟨rfl,rfl⟩,rfl,rfl,rfl⟩
 |i+1,hi=>by
  have hx:xB ms i=some (bL<|ms.getD i []):=by unfold xB;rw[List.getD_eq_getElem?_getD,List.getElem?_eq_getElem ae];rfl
  cases hh:lA (ms.getD i []) v with
  |true=>exact⟨0,true,getM (ms.getD i []) v,.inl ⟨rfl,by omega⟩,by unfold gB;rw[hh];rfl,U5 true ae hx hh,rfl,rfl⟩
  |false=>obtain⟨k,b,z,h1,h2,h3⟩:=U6 (n:=n) h6 i ae;exact⟨k+1,b,z,h1.imp (fun h=>⟨h.1,by omega⟩) fun h=>⟨h.1,by omega⟩,by rw[←h2,gB,hh];rfl,U5 false ae hx hh,h3⟩
abbrev Q0(s0 sE:AS):Prop:=bh pg (sp []) FU 6 (.fn 95) [.yield 284,.ptr<|some (282,0)] s0= .ok (.tuple []) sE
theorem Yr{n:Nat}{x:Nat->Option ab}{z:Int}{b:Bool}{k:Nat}(h:TD n cap x v z b n k)(q:TD n cap x v z b n k=wp (ko []) 900 5 (.fr 95 (max Tryz.f95.ntmps 2) (dv 95 []) (ep [.yield 284,.ptr<|some (282,0)])<|qT n cap x v) (pD (qT n cap x v) (pd n cap x v<|some z) b 12 k) (az Tryz.f95) (fun y s _=>y= .tuple []/\s=pd n cap x v (oI b z)) (fun _ _ _=>False):=by as_aux_lemma=>kernel_rfl):Q0 (qT n cap x v)<|pd n cap x v<|oI b z:=by obtain⟨y,s2,q1,rfl,rfl⟩:=pV.call (E:=ko []) (n:=5) (args:=[.yield 284,.ptr<|some (282,0)]) Tryz.func95 (CV Tryz.func95 cH)<|DO (R:=fun y s=>y= .tuple []/\s=pd n cap x v (oI b z)) (C:=fun _ _ _=>False) fm rfl (fun _ _ _ h=>h.elim) 900 _ h q;exact q1
theorem aeC(h:1<=ms.length/\ms.length<=6):Q0 (qT ms.length cap (xB ms) v)<|pd ms.length cap (xB ms) v<|gB ms v ms.length:=by
 obtain⟨k,b,z,h1,h2,h3⟩:=U6 (n:=ms.length) (cap:=cap) (v:=v) h.2 ms.length<|Nat.le_refl _;rw[h2];revert h1 h3;generalize xB ms=x;generalize ms.length=n at h;intro h1 h3;rcases(by omega:n=1\/n=2\/n=3\/n=4\/n=5\/n=6) with rfl|rfl|rfl|rfl|rfl|rfl<;>rcases h1 with⟨rfl,h1⟩|⟨rfl,rfl⟩
 all_goals first
  |(rcases(by omega:k=0\/k=1\/k=2\/k=3\/k=4\/k=5) with rfl|rfl|rfl|rfl|rfl|rfl<;>first|(exfalso;omega)|exact Yr h3)
  |exact Yr h3
def Q1:List Item:=[.inBlock 0,.code<|a9 pg 57 [1,1,1]]
def CB:AF:=⟨57,aQ sC,max Tryz.f57.ntmps 2,.code (a9 pg 57 [1,1,0,1,0])::Q1,[],none⟩
theorem ah2:a9 pg 57 [1,1,0,1,0]= .rangeFunc (.tmp 12) #[13] HJ CA:=by kernel_rfl
def sZ(n:Nat)(cap:cC)(x:Nat->Option ab)(v:Int)(w1 w2:AV)(o:Option ab)(p:Option Code):AS:=ak (oG n cap x v w1 w2++[(283,o),(284,some<|.loop .exhausted p 57 (aQ sC) 22 [13] HJ CA 283)]) 285
theorem aeD{o:Option ab}(h:1<=ms.length/\ms.length<=6):∀m q,(m,q)∈gC ms cap->(sZ ms.length cap (xB ms) v w1 w2 o p).h.get m=some q:=fun m q hm=>by
 rcases gy h with⟨m0,rfl⟩|⟨m0,m1,rfl⟩|⟨m0,m1,m2,rfl⟩|⟨m0,m1,m2,m3,rfl⟩|⟨m0,m1,m2,m3,m4,rfl⟩|⟨m0,m1,m2,m3,m4,m5,rfl⟩
 all_goals
  simp only[gC,qv,List.mem_cons,List.not_mem_nil,or_false] at hm
  repeat' (rcases hm with hm|hm)
  all_goals kernel_rfl
theorem Ys{Y:AV}(mc:Mt [] B)(hb:fq ms)(h6:ms.length<=6)(hc:uc ms.length cap){sE:AS}(dn:Q0 (qT ms.length cap (xB ms) v) sE)(h5:lN 284 sE= .ok p (sZ ms.length cap (xB ms) v w1 w2 (some .defs) p))(hd:G0 pg (bh pg (sp []) FU 6) (az Tryz.f57) 8 283 ⟨57,aQ sC,max Tryz.f57.ntmps 2,andThen p Q1,[],none⟩ (sZ ms.length cap (xB ms) v w1 w2 (some .defs) p)=some (Y,sZ ms.length cap (xB ms) v w1 w2 none p)):
 au pg B 271 (iD XT pg (az Tryz.f57) 3 Y<|bZ ms) CB (ak (oG ms.length cap (xB ms) v (.int .i64 0)<|.bool false) 283):=by
 unfold CB;rw[ah2];exact au.chunk bY mc.2.2.1 mc.2.2.2 (II (gv:=.func (.func 95) [] [.ptr<|some (282,0)]) (s1:=ak (oG ms.length cap (xB ms) v (.int .i64 0) (.bool false)++[(283,some .defs)]) 284) cH cH cH dn h5) (by show 271<=283;omega)<|(Nz (l:=283) (k:=8) (fr:=⟨57,aQ sC,max Tryz.f57.ntmps 2,andThen p Q1,[],none⟩) bY mc.2.2.1 mc.2.2.2 rfl rfl hd ⟨rfl,_,.buf _ hb cap hc,aeD ⟨hb.1.1,h6⟩⟩).2.2 (by show 271<=285;omega)
theorem goG{y v':AV}(mc:Mt [] B)(H:au pg B 271 (iD XT pg (az Tryz.f57) 3 y v') CB<|ak (oG ms.length cap (xB ms) v (.int .i64 0)<|.bool false) 283)(k:((sC.map (fun q=>some q.2)=sC.map (fun q=>some q.2))/\((oG ms.length cap (xB ms) v (.int .i64 0)<|.bool false).map (fun q=>q.2)=(oG ms.length cap (xB ms) v (.int .i64 0)<|.bool false).map (fun q=>q.2))/\(CB=CB/\ak (oG ms.length cap (xB ms) v (.int .i64 0)<|.bool false) 283=ak (oG ms.length cap (xB ms) v (.int .i64 0)<|.bool false) 283))=wp (yw []) 900 6 (.fr 57 (max Tryz.f57.ntmps 2) (dv 57 []) (ep [.ptr<|some (270,0),.int .i64 v])<|ak (ar++bx (gC ms cap)) 279)
 (.st 9<|.rg<|.go 1<|.il<|.rt 5<|.en<|.st 1<|.ls sC (oG ms.length cap (xB ms) v (.int .i64 0)<|.bool false) 283 .no) (az Tryz.f57) (fun Y s _=>pJ 3 y v' s Y) (fun fr s1 _=>fr=CB/\s1=ak (oG ms.length cap (xB ms) v (.int .i64 0)<|.bool false) 283):=by as_aux_lemma=>kernel_rfl):
 au pg B 271 (iD XT pg (az Tryz.f57) 3 y v') (sF 57 Tryz.f57 [.ptr<|some (270,0),.int .i64 v]) (ak (ar++bx (gC ms cap)) 279):=
 Ls mc (fun fr s1 _ hC=>by obtain⟨rfl,rfl⟩:=hC;exact H) _ ⟨rfl,rfl,rfl,rfl⟩ k cH
theorem acW(mc:Mt [] B)(hb:fq ms)(hc:uc ms.length cap)(h6:ms.length<=6):SB B 57 (max Tryz.f57.ntmps 2) (az Tryz.f57) [.int .i64 v] ms cap (.tuple [.int .i64 (ky ms v).1,.bool (ky ms v).2]) ms:=by
 have dn:=aeC (cap:=cap) (v:=v) ⟨hb.1.1,h6⟩;have H:au pg B 271 (iD XT pg (az Tryz.f57) 3 (.tuple [.int .i64 (ky ms v).1,.bool (ky ms v).2])<|bZ ms) CB<|ak (oG ms.length cap (xB ms) v (.int .i64 0)<|.bool false) 283:=by
  unfold ky;revert dn;cases gB ms v ms.length with
  |none=>exact fun dn=>Ys mc hb h6 hc dn (w1:=.int .i64 0) (w2:=.bool false) (p:=none) cH cH
  |some z=>exact fun dn=>Ys mc hb h6 hc dn (w1:=.int .i64 z) (w2:=.bool true) (p:=some .ret) cH cH
 rcases gy ⟨hb.1.1,h6⟩ with⟨m0,rfl⟩|⟨m0,m1,rfl⟩|⟨m0,m1,m2,rfl⟩|⟨m0,m1,m2,m3,rfl⟩|⟨m0,m1,m2,m3,m4,rfl⟩|⟨m0,m1,m2,m3,m4,m5,rfl⟩<;>exact goG mc H
end
section
variable {L:bV}
theorem FT{L0:bV}{fn:Func}{F:bO->List AV->Option (AV×bO)}(hP:bE pg)(h:aU L)(h0:aU L0)(cq:Tryz.prog.funcs[g]? =some fn)(H:∀a rest y a',F a rest=some (y,a')->max fn.ntmps (rest.length+1)<=top/\∀B cap,Mt L0 B->fq a->uc a.length cap->SB B g (max fn.ntmps<|rest.length+1) fn.results.toList rest a cap y a')(cx:fn.body=some (a9 pg g []):=by kernel_rfl)(hn:(fn.name == "runtime.NumGoroutine")=false:=by kernel_rfl):aU<|(g,.tok 3<|dG bZ F)::L:=by
 refine C8 sj hP hZ qk iS ig lV lC h h0 cq cx hn fun v rest y v' e=>?_;obtain⟨a,a',rfl,e1,rfl⟩:=AK e;obtain⟨q1,q2⟩:=H a rest y a' e1;refine⟨q1,fun L hx=>?_⟩;generalize hv:bZ a=v at hx;cases hx with
 |buf b hb cap hc=>have:=wW _ _ hv;subst this;exact⟨279,by omega,aM.1 aX,acU hb,fun B mc=>q2 B cap mc hb hc⟩
def Gw:bO->List AV->Option (AV×bO)
 |a,[.int .i64 v,.int .i64 x]=>if a.length<=6 then some (.int .i64 0,ml a v x) else none
 |_,_=>none
def BE:bO->List AV->Option (AV×bO)
 |a,[.int .i64 v]=>if a.length<=6 then some (.tuple [.int .i64 (ky a v).1,.bool (ky a v).2],a) else none
 |_,_=>none
def JP:bO->List AV->Option (AV×bO)
 |a,[]=>if a.length<7 then some (.int .i64 0,a++[[]]) else none
 |_,_=>none
def JQ:bO->List AV->Option (AV×bO)
 |a,[]=>if 2<=a.length/\a.length<=6 then some (.int .i64 0,a.dropLast) else none
 |_,_=>none
def Jb:bO->List AV->Option (AV×bO)
 |a,[]=>if 2<=a.length then some (.int .i64 0,gR a) else none
 |_,_=>none
def Gx:FuncId×KE:=(88,.tok 3<|dG bZ Gw)
def OI:FuncId×KE:=(90,.tok 3<|dG bZ JP)
def OJ:FuncId×KE:=(89,.tok 3<|dG bZ JQ)
def De:FuncId×KE:=(86,.tok 3<|dG bZ Jb)
def kP:FuncId×KE:=(57,.tok 3<|dG bZ BE)
theorem acX(hP:bE pg)(h:aU L):aU<|Gx::L:=FT hP h cJ Tryz.func88 fun a rest y a' e=>by unfold Gw at e;split at e<;>(try split at e)<;>cases e;exact⟨aM.1 aX,fun B cap mc hb hc=>acV mc hb hc ‹_›⟩
theorem abz(hP:bE pg)(h:aU L):aU<|OI::L:=FT hP h cJ Tryz.func90 fun a rest y a' e=>by unfold JP at e;split at e<;>(try split at e)<;>cases e;exact⟨aM.1 aX,fun B cap mc hb hc=>abx mc hb hc<|Nat.le_of_lt_succ ‹_›⟩
theorem abA(hP:bE pg)(h:aU L):aU<|OJ::L:=FT hP h cJ Tryz.func89 fun a rest y a' e=>by unfold JQ at e;split at e<;>(try split at e)<;>cases e;rename_i q;exact⟨aM.1 aX,fun B cap mc hb hc=>aby mc hb hc q.1 q.2⟩
theorem aaB(hP:bE pg)(h:aU L):aU<|De::L:=FT hP h (af7 hP cJ) Tryz.func86 fun a rest y a' e=>by unfold Jb at e;split at e<;>(try split at e)<;>cases e;exact⟨aM.1 aX,fun B cap mc hb hc=>Mn mc hb hc ‹_›⟩
theorem IQ(hP:bE pg)(h:aU L):aU<|kP::L:=FT hP h cJ Tryz.func57 fun a rest y a' e=>by unfold BE at e;split at e<;>(try split at e)<;>cases e;exact⟨aM.1 aX,fun B cap mc hb hc=>acW mc hb hc ‹_›⟩
def Ps:List AV->Option (Option AV×(AV->AV))
 |[]=>some (some<|bZ [[]],fun p=>p)
 |_=>none
def DX:FuncId×KE:=(38,.new 3 Ps)
def oN:List<|Nat×Option ab:=[(270,some<|GL []),(271,some<|aN jZ [.map<|some 270]),(272,some<|aN jZ [.slice (some (271,0)) 1<|.known 1])]
theorem OK:fq [[]]:=⟨by show 1<=1/\1<=7;omega,fun m hm=>by rw[List.mem_singleton] at hm;subst hm;exact List.nodup_nil⟩
theorem agf:Yi 270 273 279 [(0,.ptr<|some (272,0))] oN [(0,.ptr<|some (270,0))] (bx<|gC [[]]<|.known 1) ⟨38,aQ [(0,.ptr<|some (270,0))],max Tryz.f38.ntmps 0,(dv 38 [1,1]),[],none⟩<|ak (ar++bx (gC [[]]<|.known 1)) 279:=⟨rfl,rfl,BC (ps:=[(270,272),(271,271),(272,270)]) ae cH cH (fun r hr _=>⟨⟨by unfold top;omega,_,mi 0,(bw.ptr<|rq hr).z⟩,trivial⟩) fun r hr _=>⟨pc (mi 2) (rq hr) rp<|G8 (l:=[.slice (some (271,0)) 1<|.known 1]) ⟨(bw.slice<|rq hr).z,trivial⟩ (by simp) rfl,pc (mi 1) (rq hr) rp<|G8 (l:=[.map<|some 270]) ⟨(bw.map<|rq hr).z,trivial⟩ (by simp) rfl,pc (mi 0) (rq hr) VP<|Wv List.nodup_nil,trivial⟩,rfl,rfl⟩
theorem acY(hP:bE pg)(h:aU L):aU<|DX::L:=by
 refine I3 sj hP hZ (aM.1 aX) iS ig h cJ Tryz.func38 (body:=a9 pg 38 []) aX aX fun args p e=>?_;unfold Ps at e;split at e<;>cases e;refine⟨aM.1 aX,fun e0=>(by cases e0),fun v e0=>?_⟩;injection e0 with e0;subst e0
 refine⟨vx.ptr,fun B mc=>?_⟩;rw[←gY];exact wC mc (C:=fun fr s1 _=>fr=⟨38,aQ [(0,.ptr<|some (270,0))],max Tryz.f38.ntmps 0,(dv 38 [1,1]),[],none⟩/\s1=ak (ar++bx (gC [[]]<|.known 1)) 279) (fun fr s1 _ hC=>by obtain⟨rfl,rfl⟩:=hC;exact wS mc (.rt 1 .no)<|P7 (ms:=[[]]) (cap:=.known 1) 279 OK (.inr ⟨rfl,rfl⟩)<|.ptr<|some (270,0)) (.st 4<|.rn [(0,.ptr<|some (272,0))] (ar++oN) [(0,.ptr<|some (270,0))] (ar++bx (gC [[]]<|.known 1)) 273 279 .no) agf
end
end
end gg
end
section
open Go Go.Rn Go.RowKit Go.Proofs
namespace fT
open cv fc cG cR cW fw eV fL fN fS
variable {st:VS} {T:Prop} {v:AV} {x7 x6 x5 x4 x3 x2 x1 x0:Int} {s:AS} {rest:List AV} {q lg G:Nat} {cap:cC} {L:bV}
noncomputable section
abbrev qU(L:bV):Env:=x9 pg 270 eK dX L 273 true
def G9:FuncId×KE:=(75,.raw fun a b c=>vU a b c<|aW zu)
def l8(x0 x1 x2 x3 x4 x5 x6 x7:Int):List Int:=[x0,x1,x2,x3,x4,x5,x6,x7]
theorem evU{n m off len:Nat}{cs:List AV}{a b:AV}(h1:(a.hi&&(b.hi&&Gs len cap))=true)(hk:qG 270 dX eK s=true)(hm:Nat.blt m (dP 270 dX eK s).nx=true)(ht:Nat.blt m top=true)(h2:cellsOf ((dP 270 dX eK s).h.get m) off len=some cs)(h3:cs.all AV.ga=true)(h4:aW zu [a,.U (nm cs) 0 len,b]=some v)(h5:v.xL=true):
 bh pg (sp [G9]) FU (n+1) (.fn 75) [a,.slice (some (m,off)) len cap,b] s= .ok v (aZ m<|dP 270 dX eK s):=
 acP (P:=pg) (sp:=sp [G9]) aX h1 hk hm ht h2 h3 h4 h5
theorem nL{y Y:AV}(e:Y=y)(h1:s.h.get 270=some (bU<|dQ st.R 271 272))(h2:s.h.get 271=some (.tok 3 st.u))(h3:s.h.get 272=some (bU st.row)):Y=y/\∀m o,(m,o)∈dD 270 3 st->s.h.get m=some o:=by
 refine⟨e,fun m o hm=>?_⟩;simp only[dD,List.mem_cons,List.not_mem_nil,or_false] at hm;rcases hm with hm|hm|hm<;>(injection hm with a b;subst a;subst b)
 ·exact h1
 ·exact h2
 ·exact h3
theorem agh{e:Ex}{aO:List Int}(hg:eh bj 1 (.U G q lg) aO):aW zu [.agg<|aD e,.U (nm [.int .i64 x0,.int .i64 x1,.int .i64 x2,.int .i64 x3,.int .i64 x4,.int .i64 x5,.int .i64 x6,.int .i64 x7]) 0 8,.U G q lg]=some (Ei<|zt e (l8 x0 x1 x2 x3 x4 x5 x6 x7) aO):=fB zu.bW ⟨e,_,0,8,G,q,lg,l8 x0 x1 x2 x3 x4 x5 x6 x7,aO,rfl,eh.aS eI<|l8 x0 x1 x2 x3 x4 x5 x6 x7,hg,rfl⟩
noncomputable abbrev OL(vars:Int)(G q lg:Nat)(x0 x1 x2 x3 x4 x5 x6 x7:Int)(len:Nat)(cap:cC)(steps:Int)(u:AV)(row:List AV)(op n:Int)(N L:Nat):List<|Nat×Option ab:=ar++[(270,some<|.cells 13 (Tr.fill [(i6 vars),(.U G q lg),(i6 x0),(i6 x1),(i6 x2),(i6 x3),(i6 x4),(i6 x5),(i6 x6),(i6 x7),(.ptr<|some (271,0)),(.slice (some (272,0)) (len) cap),(i6 steps)] 0 .nil) []),(271,(some<|.tok 3 u)),(272,(some<|bU row)),(273,some<|.cells 3 (Tr.fill [(u8<|op),(i6 n),(.U N 0 L)] 0 .nil) [])]
theorem ah3{B:aL}{vars steps:Int}{len:Nat}{u:AV}{row:List AV}{N L:Nat}{op n z f:Int}(mc:Mt [G9] B)(hG:(((.agg [(u8<|op),(i6 n),(.U N 0 L)]):AV).hi&&((.U G q lg:AV).hi&&Gs 8 (.known 8)))=true)(he:aW zu [(.agg [(u8<|op),(i6 n),(.U N 0 L)]),.U (nm [.int .i64 x0,.int .i64 x1,.int .i64 x2,.int .i64 x3,.int .i64 x4,.int .i64 x5,.int .i64 x6,.int .i64 x7]) 0 8,.U G q lg]=some (.tuple [.int .i64 z,.int .i64 f])):au pg B 273 (gW 270 3 pg (az Tryz.f54) (.int .i64 z) (⟨(⟨[.int .i64 vars,.U G q lg,.int .i64 x0,.int .i64 x1,.int .i64 x2,.int .i64 x3,.int .i64 x4,.int .i64 x5,.int .i64 x6,.int .i64 x7],len,cap,[.int .i64 steps]⟩:RS),u,row⟩:VS)) (sF 54 Tryz.f54 [(.ptr<|some (270,0)),(.agg [(u8<|op),(i6 n),(.U N 0 L)])])<|ak (ar++bx (dD 270 3 (⟨(⟨[.int .i64 vars,.U G q lg,.int .i64 x0,.int .i64 x1,.int .i64 x2,.int .i64 x3,.int .i64 x4,.int .i64 x5,.int .i64 x6,.int .i64 x7],len,cap,[.int .i64 steps]⟩:RS),u,row⟩:VS))) 273:=by exact mh (E:=qU [G9]) fm rfl bY mc.2.2.1 mc.2.2.2 900 (.st 3<|.rg<|.go 9<|.cu (.tuple [(i6 z),(i6 f)]) (aZ 270<|dP 270 dX eK (⟨gd<|OL vars G q lg x0 x1 x2 x3 x4 x5 x6 x7 len cap steps u row op n N L,274,274,[],[]⟩:AS))<|.go 5<|.en<|.rt 3 .no)<|ai (evU (n:=5) (m:=270) (off:=2) (len:=8) (cap:=.known 8) (cs:=[.int .i64 x0,.int .i64 x1,.int .i64 x2,.int .i64 x3,.int .i64 x4,.int .i64 x5,.int .i64 x6,.int .i64 x7]) (s:=(⟨gd<|OL vars G q lg x0 x1 x2 x3 x4 x5 x6 x7 len cap steps u row op n N L,274,274,[],[]⟩:AS)) hG cw cw cw cw cw he cw)<|nL (st:=(⟨(⟨[.int .i64 vars,.U G q lg,.int .i64 x0,.int .i64 x1,.int .i64 x2,.int .i64 x3,.int .i64 x4,.int .i64 x5,.int .i64 x6,.int .i64 x7],len,cap,[.int .i64 steps]⟩:RS),u,row⟩:VS)) (s:=ak (OL vars G q lg x0 x1 x2 x3 x4 x5 x6 x7 len cap steps u row op n N L) 274) (show((i6 z):AV)=(.int .i64 z) from rfl) cw cw cw
open Classical in
def vR(R:VS->List AV->AV->Prop)(st:VS)(rest:List AV):Option AV:=if h:∃v,R st rest v then some h.choose else none
theorem Ga{R:VS->List AV->AV->Prop}(h:vR R st rest=some v):R st rest v:=by
 unfold vR at h;split at h
 ·rename_i q;injection h with h;rw[←h];exact q.choose_spec
 ·cases h
theorem DY{R:VS->List AV->AV->Prop}(hd:∀st rest v v',R st rest v->R st rest v'->v=v')(h:R st rest v):vR R st rest=some v:=by unfold vR;have q:∃v,R st rest v:=⟨v,h⟩;rw[dif_pos q,hd _ _ _ _ q.choose_spec h]
structure MN where
 vars:Int
 G:Nat
 q:Nat
 lg:Nat
 aO:List Int
 x0:Int
 x1:Int
 x2:Int
 x3:Int
 x4:Int
 x5:Int
 x6:Int
 x7:Int
 steps:Int
def MN.l(a:MN):List Int:=l8 a.x0 a.x1 a.x2 a.x3 a.x4 a.x5 a.x6 a.x7
def MN.pre(a:MN):List AV:=[.int .i64 a.vars,.U a.G a.q a.lg,.int .i64 a.x0,.int .i64 a.x1,.int .i64 a.x2,.int .i64 a.x3,.int .i64 a.x4,.int .i64 a.x5,.int .i64 a.x6,.int .i64 a.x7]
def MN.row(a:MN)(x y z:AV):List AV:=a.pre++[x,y,z]
abbrev vG(r:Nat):AS->AS:=WA 270 dX eK 270 271 r
abbrev vF(r:Nat)(st:VS):AS->AS:=Kn 270 dX eK 3 270 271 r st
abbrev vQ(r:Nat)(st:VS):AS->Prop:=Gv 270 dX eK 3 270 271 r st
abbrev LB(st:VS)(r:Nat)(T:Prop):Prop:=(true=true/\true=true/\some (bU<|dQ st.R 271 r)=some (bU<|dQ st.R 271 r)/\some (ab.tok 3 st.u)=some (.tok 3 st.u)/\some (bU st.row)=some (bU st.row))/\T
abbrev LC(r:Nat):Bool:= !Nat.beq 270 271&&(!Nat.beq 270 r&& !Nat.beq 271 r)
abbrev LD(r:Nat):Bool:=Nat.blt 270 top&&(Nat.blt 271 top&&Nat.blt r top)
theorem jK(L:bV)(g r:Nat)(val:VS->List AV->Option AV)(rest:List AV)(st:VS)(y:AV)(ho:bH 10 st=true)(hv:val st rest=some y)(hr:rest.all AV.hi=true)(hy:y.hi=true)(t:T)(h1:sp L g=some (nd 10 3 val 270 eK dX):=by as_aux_lemma=>kernel_rfl)(h2:LC r=true:=by as_aux_lemma=>kernel_rfl)(h3:LD r=true:=by as_aux_lemma=>kernel_rfl)(h4:st.R.pre.length=10:=by rfl):(∀s,vQ r st s->bh pg (sp L) FU 6 (.fn g) (.ptr (some (270,0))::rest) s= .ok y (vG r s))/\LB st r T:=⟨acZ (P:=pg) (F:=FU) (n:=5) h1 hr h2 h3 h4 ho hv hy,⟨rfl,rfl,rfl,rfl,rfl⟩,t⟩
theorem yC(L:bV)(g r:Nat)(val:VS->List AV->Option AV)(rest:List AV)(st:VS)(y:AV)(ho:bH 10 st=true)(hv:val st rest=some y)(t:T)(hr:rest.all AV.hi=true:=by as_aux_lemma=>kernel_rfl)(hy:y.hi=true:=by as_aux_lemma=>kernel_rfl)(h1:sp L g=some (nd 10 3 val 270 eK dX):=by as_aux_lemma=>kernel_rfl)(h2:LC r=true:=by as_aux_lemma=>kernel_rfl)(h3:LD r=true:=by as_aux_lemma=>kernel_rfl)(h4:st.R.pre.length=10:=by rfl):(∀s,vQ r st s->bh pg (sp L) FU 6 (.fn g) (.ptr (some (270,0))::rest) s= .ok y (vG r s))/\LB st r T:=jK L g r val rest st y ho hv hr hy t h1 h2 h3 h4
theorem Yt(L:bV)(g r:Nat)(val:VS->List AV->Option (AV×VS))(rest:List AV)(st ba:VS)(ho:bH 10 st=true)(hv:val st rest=some (.tuple [],ba))(kD:bH 10 ba=true)(hr:rest.all AV.hi=true)(t:T)(h1:sp L g=some (m9 10 3 val 270 eK dX):=by as_aux_lemma=>kernel_rfl)(h2:LC r=true:=by as_aux_lemma=>kernel_rfl)(h3:LD r=true:=by as_aux_lemma=>kernel_rfl)(h4:st.R.pre.length=10:=by rfl):(∀s,vQ r st s->bh pg (sp L) FU 6 (.fn g) (.ptr (some (270,0))::rest) s= .ok (.tuple []) (vF r ba s))/\LB st r T:=⟨Oe (P:=pg) (F:=FU) (n:=5) h1 hr h2 h3 h4 ho hv rfl kD,⟨rfl,rfl,rfl,rfl,rfl⟩,t⟩
theorem wm(L:bV)(g r:Nat)(val:VS->List AV->Option (AV×VS))(rest:List AV)(st ba:VS)(ho:bH 10 st=true)(hv:val st rest=some (.tuple [],ba))(kD:bH 10 ba=true)(t:T)(hr:rest.all AV.hi=true:=by as_aux_lemma=>kernel_rfl)(h1:sp L g=some (m9 10 3 val 270 eK dX):=by as_aux_lemma=>kernel_rfl)(h2:LC r=true:=by as_aux_lemma=>kernel_rfl)(h3:LD r=true:=by as_aux_lemma=>kernel_rfl)(h4:st.R.pre.length=10:=by rfl):(∀s,vQ r st s->bh pg (sp L) FU 6 (.fn g) (.ptr (some (270,0))::rest) s= .ok (.tuple []) (vF r ba s))/\LB st r T:=Yt L g r val rest st ba ho hv kD hr t h1 h2 h3 h4
def sD(st:VS)(a:MN):Prop:=st.R.pre=a.pre/\st.R.post=[.int .i64 a.steps]/\eh bj 1 (.U a.G a.q a.lg) a.aO
theorem sD.inj{a b:MN}(h:sD st a)(k:sD st b):a=b:=by obtain⟨h1,h2,h3⟩:=h;obtain⟨k1,k2,k3⟩:=k;rw[h1] at k1;rw[h2] at k2;obtain⟨a1,a2,a3,a4,a5,c0,c1,c2,c3,c4,c5,c6,c7,a6⟩:=a;obtain⟨b1,b2,b3,b4,b5,d0,d1,d2,d3,d4,d5,d6,d7,b6⟩:=b;simp only[MN.pre,List.cons.injEq,AV.int.injEq,AV.U.injEq,true_and,_root_.and_true] at k1 k2;obtain⟨rfl,⟨rfl,rfl,rfl⟩,rfl,rfl,rfl,rfl,rfl,rfl,rfl,rfl⟩:=k1;subst k2;have e5:a5=b5:=eh.inj wX h3 k3;subst e5;rfl
def jo(st:VS)(rest:List AV)(v:AV):Prop:=∃(a:MN) (e:Ex),sD st a/\rest=[.agg<|aD e]/\v= .int .i64 (zt e a.l a.aO).1
theorem jo.bW(st:VS)(rest:List AV)(v v':AV)(h:jo st rest v)(h':jo st rest v'):v=v':=by obtain⟨a,e,h1,rfl,rfl⟩:=h;obtain⟨a',e',k1,h2,rfl⟩:=h';simp only[List.cons.injEq,AV.agg.injEq,_root_.and_true] at h2;rw[nw _ _ h2,h1.inj k1]
def iE:FuncId×KE:=(54,.raw<|nd 10 3<|vR jo)
theorem ya:270+3<=top:=aM.1 aX
theorem aeE(hP:bE pg)(h:aU L):aU<|G9::L:=by
 refine aew hP hZ qk iS ig h (UR hP<|T5 hP 6 cJ) Tryz.func75 (body:=a9 pg 75 []) aX aX fun args v e=>?_;obtain⟨⟨op,n,l⟩,M,p,lm,G,q,lg,lo,aO,rfl,i1,i2,rfl⟩:=gH e;refine⟨aM.1 aX,fun B mc=>?_⟩;rw[←gY];have c:=OB (e:=.mk op n l);have d:bit (eN 6<|.mk op n l)=1->_:=fun h=>Oa (k:=6) (e:=.mk op n l) i1 i2 (by rw[←xc (eN 6<|.mk op n l)];exact decide_eq_true h);have key:=afN (x:=bit<|eN 6<|.mk op n l) (u:=(lz 6 (.mk op n l) lo aO).1) (f:=(lz 6 (.mk op n l) lo aO).2) (N:=nm<|cN l) (L:=l.length) (op:=op) (n:=n) mc (by rw[xc];rw[aD] at c;exact c) (fun h=>by have:=d h;rw[aD] at this;exact this);unfold zt;rw[aD];cases q:eN 6 (.mk op n l) with
 |true=>rw[q,if_pos (show bit true=1 from rfl)] at key;rw[if_pos rfl];exact key
 |false=>rw[q,if_neg (show ¬(bit false=1) by decide)] at key;rw[if_neg (by intro h;cases h)];exact key
theorem Df(hP:bE pg)(h:aU L):aU<|iE::L:=by refine Fs hP hZ ya iS ig lV lC h (aeE hP cJ) Tryz.func54 (body:=a9 pg 54 []) aX aX fun st rest y e _=>?_;obtain⟨a,⟨op,n,l⟩,⟨h1,h2,h3⟩,rfl,rfl⟩:=Ga e;refine⟨aM.1 aX,fun B mc=>?_⟩;obtain⟨⟨pre,len,cap,post⟩,u,row⟩:=st;simp only at h1 h2;subst h1;subst h2;have q:=agh (e:=.mk op n l) (x0:=a.x0) (x1:=a.x1) (x2:=a.x2) (x3:=a.x3) (x4:=a.x4) (x5:=a.x5) (x6:=a.x6) (x7:=a.x7) h3;rw[aD] at q ⊢;exact ah3 mc (and_true.2 ⟨by rw[←aD];exact By _,and_true.2 ⟨h3.hi,rfl⟩⟩) q
end
end fT
end
section
open Go Go.Rn Go.RowKit Go.Proofs
namespace gh
open cv fc cG cR cW fw eV fL fN fS fT
noncomputable abbrev Bq(a:MN)(len:Nat)(cap:cC)(u:AV)(row:List AV):VS:=(⟨(⟨a.pre,len,cap,[.int .i64 a.steps]⟩:RS),u,row⟩:VS)
theorem ah4{B:aL}{a:MN}{len:Nat}{cap:cC}{u:AV}{row:List AV}{N L:Nat}{op n z v f:Int}(mc:Mt [iE,KS] B)(hO:bH 10 (Bq a len cap u row)=true)(hA:([(.agg [(u8<|op),(i6 n),(.U N 0 L)])]:List AV).all AV.hi=true)(hz:vR jo (Bq a len cap u row) [(.agg [(u8<|op),(i6 n),(.U N 0 L)])]=some (.int .i64 z))(hv:bg (aW BR) [.int .i64 z,.int .i64 a.vars]=some (.tuple [.int .i64 v,.int .i64 f])):au pg B 273 (gW 270 3 pg (az Tryz.f56) (.int .i64 v)<|Bq a len cap u row) (sF 56 Tryz.f56 [(.ptr<|some (270,0)),(.agg [(u8<|op),(i6 n),(.U N 0 L)])])<|ak (ar++bx (dD 270 3<|Bq a len cap u row)) 273:=by exact mh (E:=qU [iE,KS]) fm rfl bY mc.2.2.1 mc.2.2.2 900 (.st 3<|.rg<|.go 2<|.cg (i6 z) (vG 272) (vQ 272<|Bq a len cap u row)<|.go 4<|.kn (.tuple [(i6 v),(i6 f)])<|.go 5<|.en<|.rt 3 .no)<|jK [iE,KS] 54 272 (vR jo) [(.agg [(u8<|op),(i6 n),(.U N 0 L)])] (Bq a len cap u row) (i6 z) hO hz hA cw<|ai hv<|nL (st:=(Bq a len cap u row)) (s:=ak (ar++[(270,some<|.cells 13 (Tr.fill (a.row (.ptr<|some (271,0)) (.slice (some (272,0)) (len) cap)<|i6 a.steps) 0 .nil) []),(271,(some<|.tok 3 u)),(272,(some<|bU row)),(273,some<|.cells 3 (Tr.fill [(u8<|op),(i6 n),(.U N 0 L)] 0 .nil) [])]) 274) (show((i6 v):AV)=(.int .i64 v) from rfl) cw cw cw
def nM(st:VS)(rest:List AV)(v:AV):Prop:=∃(a:MN) (e:Ex) (x f:Int),sD st a/\rest=[.agg<|aD e]/\a.vars<=1099511627776/\ud (zt e a.l a.aO).1 a.vars= .tuple [.int .i64 x,.int .i64 f]/\v= .int .i64 x
theorem nM.bW(st:VS)(rest:List AV)(v v':AV)(h:nM st rest v)(h':nM st rest v'):v=v':=by obtain⟨a,e,x,f,h1,rfl,_,h2,rfl⟩:=h;obtain⟨a',e',x',f',k1,k0,_,k2,rfl⟩:=h';simp only[List.cons.injEq,AV.agg.injEq,_root_.and_true] at k0;have e1:=h1.inj k1;subst e1;rw[←nw _ _ k0,h2] at k2;simp only[AV.tuple.injEq,List.cons.injEq,AV.int.injEq,true_and] at k2;rw[k2.1]
noncomputable def jF:FuncId×KE:=(56,.raw<|nd 10 3<|vR nM)
theorem FV(hP:bE pg){L:bV}(h:aU L):aU<|jF::L:=by
 refine Fs hP hZ ya iS ig lV lC h (Df hP<|ad1 hP cJ) Tryz.func56 (body:=a9 pg 56 []) aX aX fun st rest y e eo=>?_;obtain⟨a,⟨op,n,l⟩,x,f,hM,rfl,hm,hx,rfl⟩:=Ga e;refine⟨aM.1 aX,fun B mc=>?_⟩;have hz:vR jo st [.agg<|aD<|.mk op n l]=some _:=DY jo.bW ⟨a,_,hM,rfl,rfl⟩;obtain⟨h1,h2,h3⟩:=hM;obtain⟨⟨pre,len,cap,post⟩,u,row⟩:=st;simp only at h1 h2;subst h1;subst h2;have hA:([AV.agg<|aD<|.mk op n l]:List AV).all AV.hi=true:=by rw[List.all_cons,By];rfl
 have hv:bg (aW BR) [.int .i64 (zt (.mk op n l) a.l a.aO).1,.int .i64 a.vars]=some (.tuple [.int .i64 x,.int .i64 f]):=fH (fB BR.bW ⟨_,_,rfl,hm,hx.symm⟩) rfl rfl;rw[aD] at hz hA ⊢;exact ah4 mc eo hA hz hv
end gh
end
