import Derived.Test.YthjiifomjmdjbaaGreatDoorAtGJ
import Derived.Test.YthjiifomjmdjbaaGreatDoorRnGH
import Derived.Test.YthjiifomjmdjbaaGreatDoorAtGI
set_option maxRecDepth 100000
set_option maxHeartbeats 8000000
set_option linter.unusedSimpArgs false
set_option linter.unusedVariables false
section
open Go Go.Rn Go.RowKit Go.Proofs
namespace gU
open cq cz cO cT eH fx dj gw qF vC xo qp Gv JV
variable {k N L K:Nat} {B:aJ} {to ob oa nb na kd i:Int} {lb la:List Ex} {el bd W:List St} {v x:AV} {α:Type} {r:Nat->Nat} {enc:α->List AV}
noncomputable section
theorem TC:∀p∈ar,∀y,p.2=some y->y.o5=true:=by
 have h:(ar.all fun p=>I4 p.2)=true:=by kernel_rfl
 intro p hp y hy;have:=List.all_eq_true.1 h p hp;rw[hy] at this;exact this
def qq:Nat->List St->Bool
 |0,_=>false
 |k+1,l=>decide (l.length<=10000)&&l.all fun s=>oS 6 (iq s)&&(oS 6 (ir s)&&(qq k (bF s)&&qq k (bB s)))
theorem aaP(x:St):(aM x).all AV.cj=true:=List.all_eq_true.2 fun y hy=>HN<|List.all_eq_true.1 (mB.gb x) y hy
theorem FH(hr:∀k,top<=k->r k=k)(h:x.hi=true):bR r x x:=fun ρ v hv=>AV.pd (fun k y hk e=>by rw[hr k hk];exact e) h hv
theorem aaQ(h:x.gb=true):x.hi=true:=by have:=CK h;cases x<;>first|exact this|cases h
theorem ID(he:ng K enc)(l:List α)(hl:l.length*K<=top){fz:nJ}(hr:∀k,top<=k->r k=k):iE fz r (aN enc l)<|aN enc l:=by
 have hz:∀(m:List AV),m.all AV.gb=true->mG fz r m m:=by
  intro m;induction m with
  |nil=>intro _;trivial
  |cons a m ih=>intro h;rw[List.all_cons,Bool.and_eq_true] at h;exact⟨(FH hr<|aaQ h.1).z,ih h.2⟩
 exact iE.cells (by rw[he.length];exact hl) (hz _<|he.all l)<|List.all_eq_true.2 fun y hy=>HN<|List.all_eq_true.1 (he.all l) y hy
theorem VT(he:ng K enc)(W:List α){n bQ:Nat}{l0 l:List<|Nat×AV}(hl:W.length*K<=top)(hn:270<=n)(iZ:n<top)(hs:bQ<top)(h:∀r:Nat->Nat,r 270=n->(∀k,top<=k->r k=k)->∀p∈l,p.1<top/\∃x,(p.1,x)∈l0/\qk [] r x p.2):
 jF FU 270 bQ l0 (ar++[(n,some<|aN enc W)]) l (ar++[(270,some<|aN enc W)]) 271:=by
 let r:Nat->Nat:=fun k=>if k=270 then n else if k<270\/top<=k then k else max k bQ
 have r0:r 270=n:=if_pos rfl;have rl:∀k,k<270->r k=k:=fun k hk=>by show(if _ then _ else _)=_;rw[if_neg ab,if_pos<|.inl hk]
 have t0:270<top:=by unfold top;omega
 have rt:∀k,top<=k->r k=k:=fun k hk=>by show(if _ then _ else _)=_;rw[if_neg ab,if_pos<|.inr hk]
 have Ez:∀p∈ar,p.1<270:=fun p hp=>by obtain⟨k,hk,e⟩:=List.mem_map.1 hp;rw[←e];exact iz k hk
 refine⟨[],r,rl,fun k h1 h2=>?_,rt,by unfold top;omega,h r r0 rt,fun p hp=>?_,fun p hp q hq _ _ e=>?_,fun p hp=>nP,fun p hp=>nP⟩
 ·show bQ<=(if _ then _ else _)/\(if _ then _ else _)<top;rw[if_neg ab,if_neg ab];omega
 ·rcases List.mem_append.1 hp with hp|hp
  ·have bJ:=Ez p hp;refine⟨by omega,fun y hy=>?_⟩;rw[rl _ bJ];refine⟨by omega,?_,y,?_,iv.refl _,(H6 (nx:=270) rl cN p hp y hy).z⟩
   ·exact TC p hp y hy
   ·refine List.mem_append_left _ ?_;rw[←hy];exact hp
  ·rw[List.mem_singleton] at hp;subst hp;refine⟨t0,fun y hy=>?_⟩;cases hy;refine⟨by rw[r0];exact iZ,rfl,_,by rw[r0];exact List.mem_append_right _<|List.mem_singleton.2 rfl,iv.refl _,ID he W hl rt⟩
 ·have nm:∀p∈ar++[(270,some<|aN enc W)],p.1<270\/p.1=270:=fun p hp=>by
   rcases List.mem_append.1 hp with hp|hp
   ·exact .inl<|Ez p hp
   ·rw[List.mem_singleton] at hp;subst hp;exact .inr rfl
  rcases nm p hp with a|a<;>rcases nm q hq with b|b
  ·rw[rl _ a,rl _ b] at e;exact e
  ·rw[b,r0,rl _ a] at e;omega
  ·rw[a,r0,rl _ b] at e;omega
  ·rw[a,b]
def qe(k:Nat)(args:List AV)(v:AV):Prop:=∃l:List St,args=[.U (nm<|bw l) 0 l.length]/\qq k l=true/\v= .U (nm<|bw l) 0 l.length
theorem qe.bT(args:List AV)(v v':AV)(h:qe k args v)(h':qe k args v'):v=v':=by obtain⟨l,rfl,_,rfl⟩:=h;obtain⟨l',h1,_,rfl⟩:=h';injection h1 with h1 _
def oq(k:Nat):FuncId×KE:=(37,.val<|aU<|qe k)
def Kl(N L:Nat):List<|Nat×AV:=[(3,(.slice none 0<|.known 0)),(6,(.U N 0 L)),(7,(i6<|(L:Int))),(8,i0)]
def D4(N L:Nat):AF:=⟨37,aS<|Kl N L,max Tryz.f37.ntmps 1,[.code<|a9 pg 37 [1,1,0,1,0,0],.inLoop<|a9 pg 37 [1,1,0,1,0,0],.inBlock 0,.code<|a9 pg 37 [1,1,1]],[],none⟩
def BN(N L:Nat)(W:List St)(i:Int):List<|Nat×AV:=[(3,(.slice (some (270,0)) (W.length)<|.ak W.length 10)),(6,(.U N 0 L)),(7,(i6<|(L:Int))),(8,(i6 i))]
def tT(N L:Nat)(W:List St)(i:Int):AF:=⟨37,aS<|BN N L W i,max Tryz.f37.ntmps 1,[.code<|a9 pg 37 [1,1,0,1,0,0],.inLoop<|a9 pg 37 [1,1,0,1,0,0],.inBlock 0,.code<|a9 pg 37 [1,1,1]],[],none⟩
theorem aiw(N L:Nat):((Kl N L).map (fun q=>some q.2)=(Kl N L).map (fun q=>some q.2))/\(ar.map (fun q=>q.2)=ar.map (fun q=>q.2))/\(D4 N L=D4 N L/\aq ar 270=aq ar 270):=⟨rfl,rfl,rfl,rfl⟩
theorem aix(mc:Mt [rA 6,oq k] B)(H:au pg B 270 (Fin pg (az Tryz.f37) fun y _=>y=v) (D4 N L)<|aq ar 270):au pg B 270 (Fin pg (az Tryz.f37) fun y _=>y=v) (sF 37 Tryz.f37 [(.U N 0 L)])<|aq ar 270:=by exact wC mc (C:=(fun fr s1 _=>fr=D4 N L/\s1=aq ar 270)) np (.st 9<|.ls (Kl N L) ar 270 .no)<|aiw N L
noncomputable abbrev Jh(N L:Nat):List<|Nat×AV:=[(3,(.slice (some (272,0)) (1)<|.ak 1 10)),(6,(.U N 0 L)),(7,(i6<|(L:Int))),(8,(i6<|.ofNat 1))]
noncomputable abbrev C7(kd to oa na:Int)(la:List Ex)(ob nb:Int)(lb:List Ex)(bd el:List St):List<|Nat×Option ae:=ar++[(270,some<|aN aM<|[(St.mk kd to (Ex.mk oa na la) (Ex.mk ob nb lb) bd el)])]
theorem aiy(hn:top<=N)(hW:[(St.mk kd to (Ex.mk oa na la) (Ex.mk ob nb lb) bd el)].length<=20000):(((Jh N L):List<|Nat×AV).map (fun q=>some q.2)=((Jh N L):List<|Nat×AV).map (fun q=>some q.2))/\((ar++[(272,some<|aN aM [(St.mk kd to (Ex.mk oa na la) (Ex.mk ob nb lb) bd el)])]:List<|Nat×Option ae).map (fun q=>q.2)=(ar++[(272,some<|aN aM [(St.mk kd to (Ex.mk oa na la) (Ex.mk ob nb lb) bd el)])]:List<|Nat×Option ae).map (fun q=>q.2))/\jF FU 270 273 (Jh N L) (ar++[(272,some<|aN aM [(St.mk kd to (Ex.mk oa na la) (Ex.mk ob nb lb) bd el)])]) (BN N L ([(St.mk kd to (Ex.mk oa na la) (Ex.mk ob nb lb) bd el)]) 1) (C7 kd to oa na la ob nb lb bd el) 271/\(tT N L ([(St.mk kd to (Ex.mk oa na la) (Ex.mk ob nb lb) bd el)]) 1=tT N L ([(St.mk kd to (Ex.mk oa na la) (Ex.mk ob nb lb) bd el)]) 1/\aq (C7 kd to oa na la ob nb lb bd el) 271=aq (C7 kd to oa na la ob nb lb bd el) 271):=
 ⟨rfl,rfl,VT mB [(St.mk kd to (Ex.mk oa na la) (Ex.mk ob nb lb) bd el)] (n:=272) (bQ:=273) iy ab iy iy (fun r r0 r2 p hp=>by
  simp only[BN,List.mem_cons,List.not_mem_nil,or_false] at hp;rcases hp with rfl|rfl|rfl|rfl
  ·exact⟨by unfold top;omega,_,List.mem_cons_self,(bR.slice r0).z⟩
  ·exact⟨by unfold top;omega,_,(List.mem_cons_of_mem _ List.mem_cons_self),(bR.U (r2 _ hn) r2).z⟩
  ·exact⟨by unfold top;omega,_,(List.mem_cons_of_mem _<|List.mem_cons_of_mem _ List.mem_cons_self),(bR.int _ _).z⟩
  ·exact⟨by unfold top;omega,_,(List.mem_cons_of_mem _<|List.mem_cons_of_mem _<|List.mem_cons_of_mem _ List.mem_cons_self),(bR.int _ _).z⟩),rfl,rfl⟩
noncomputable abbrev Ji(kd to oa na:Int)(la:List Ex)(ob nb:Int)(lb:List Ex)(bd el:List St):List AV:=[(u8<|kd),(i6 to),(u8<|oa),(i6 na),(.U (nm<|cI la) 0 la.length),(u8<|ob),(i6 nb),(.U (nm<|cI lb) 0 lb.length),(.U (nm<|bw bd) 0 bd.length),(.U (nm<|bw el) 0 el.length)]
noncomputable abbrev C8(oa na:Int)(la:List Ex):AV:=.agg [(u8<|oa),(i6 na),(.U (nm<|cI la) 0 la.length)]
noncomputable abbrev C9(ob nb:Int)(lb:List Ex):AV:=.agg [(u8<|ob),(i6 nb),(.U (nm<|cI lb) 0 lb.length)]
theorem aiz(mc:Mt [rA 6,oq k] B)(hn:top<=N)(hL:L<=10000)(hx:cX FU N (0+(0:Int).toNat*10+0) 10=some (Ji kd to oa na la ob nb lb bd el))(hA:bf (aU<|rz 6) [(C8 oa na la)]=some (C8 oa na la))(hB:bf (aU<|rz 6) [(C9 ob nb lb)]=some (C9 ob nb lb))(hD:bf (aU<|qe k) [(.U (nm<|bw bd) 0 bd.length)]=some (.U (nm<|bw bd) 0 bd.length))(hE:bf (aU<|qe k) [(.U (nm<|bw el) 0 el.length)]=some (.U (nm<|bw el) 0 el.length))(hW:[(St.mk kd to (Ex.mk oa na la) (Ex.mk ob nb lb) bd el)].length<=20000)(h1:(0:Int)<(L:Int))(H:au pg B 270 (Fin pg (az Tryz.f37) fun y _=>y=v) (tT N L ([(St.mk kd to (Ex.mk oa na la) (Ex.mk ob nb lb) bd el)]) 1)<|aq (C7 kd to oa na la ob nb lb bd el) 271):au pg B 270 (Fin pg (az Tryz.f37) fun y _=>y=v) (D4 N L)<|aq ar 270:=by exact wC mc (C:=(fun fr s1 _=>fr=tT N L ([(St.mk kd to (Ex.mk oa na la) (Ex.mk ob nb lb) bd el)]) 1/\s1=aq (C7 kd to oa na la ob nb lb bd el) 271)) np (.st 1<|.rg<|.fk (.en<|.st 6<|.rg<|.fF<|.fG (Ji kd to oa na la ob nb lb bd el)<|.go 2<|.en<|.st 1<|.rg<|.go 2<|.kn (C8 oa na la)<|.go 2<|.kn (C9 ob nb lb)<|.go 2<|.kn (.U (nm<|bw bd) 0 bd.length)<|.go 2<|.kn (.U (nm<|bw el) 0 el.length)<|.go 8<|.en<|.st 4<|.rn (Jh N L) (ar++[(272,(some<|aN aM [(St.mk kd to (Ex.mk oa na la) (Ex.mk ob nb lb) bd el)]))]) (BN N L ([(St.mk kd to (Ex.mk oa na la) (Ex.mk ob nb lb) bd el)]) 1) (C7 kd to oa na la ob nb lb bd el) 273 271 .no)<|.no)<|ax ((0:Int)<(L:Int)) (fun _=>(dq (0:Int) (L:Int)<|ai hn<|ai hx<|ai hA<|ai hB<|ai hD<|ai hE<|aiy (N:=N) (L:=L) (kd:=kd) (to:=to) (oa:=oa) (na:=na) (la:=la) (ob:=ob) (nb:=nb) (lb:=lb) (bd:=bd) (el:=el) hn hW)) bh
noncomputable abbrev Jj(W:List St)(kd to oa na:Int)(la:List Ex)(ob nb:Int)(lb:List Ex)(bd el:List St)(N L:Nat)(i:Int):List<|Nat×AV:=[(3,(.slice (some (273,0)) ((W++[(St.mk kd to (Ex.mk oa na la) (Ex.mk ob nb lb) bd el)]).length)<|.ak (W++[(St.mk kd to (Ex.mk oa na la) (Ex.mk ob nb lb) bd el)]).length 10)),(6,(.U N 0 L)),(7,(i6<|(L:Int))),(8,(i6<|(i+1)))]
noncomputable abbrev Da(W:List St)(kd to oa na:Int)(la:List Ex)(ob nb:Int)(lb:List Ex)(bd el:List St):List<|Nat×Option ae:=ar++[(270,some<|aN aM<|W++[(St.mk kd to (Ex.mk oa na la) (Ex.mk ob nb lb) bd el)])]
theorem aiA(hn:top<=N)(hW:(W++[(St.mk kd to (Ex.mk oa na la) (Ex.mk ob nb lb) bd el)]).length<=20000):(((Jj W kd to oa na la ob nb lb bd el N L i):List<|Nat×AV).map (fun q=>some q.2)=((Jj W kd to oa na la ob nb lb bd el N L i):List<|Nat×AV).map (fun q=>some q.2))/\((ar++[(273,some<|aN aM<|W++[(St.mk kd to (Ex.mk oa na la) (Ex.mk ob nb lb) bd el)])]:List<|Nat×Option ae).map (fun q=>q.2)=(ar++[(273,some<|aN aM<|W++[(St.mk kd to (Ex.mk oa na la) (Ex.mk ob nb lb) bd el)])]:List<|Nat×Option ae).map (fun q=>q.2))/\jF FU 270 274 (Jj W kd to oa na la ob nb lb bd el N L i) (ar++[(273,some<|aN aM<|W++[(St.mk kd to (Ex.mk oa na la) (Ex.mk ob nb lb) bd el)])]) (BN N L (W++[(St.mk kd to (Ex.mk oa na la) (Ex.mk ob nb lb) bd el)])<|i+1) (Da W kd to oa na la ob nb lb bd el) 271/\(tT N L (W++[(St.mk kd to (Ex.mk oa na la) (Ex.mk ob nb lb) bd el)]) (i+1)=tT N L (W++[(St.mk kd to (Ex.mk oa na la) (Ex.mk ob nb lb) bd el)]) (i+1)/\aq (Da W kd to oa na la ob nb lb bd el) 271=aq (Da W kd to oa na la ob nb lb bd el) 271):=
 ⟨rfl,rfl,VT mB (W++[(St.mk kd to (Ex.mk oa na la) (Ex.mk ob nb lb) bd el)]) (n:=273) (bQ:=274) iy ab iy iy (fun r r0 r2 p hp=>by
  simp only[BN,List.mem_cons,List.not_mem_nil,or_false] at hp;rcases hp with rfl|rfl|rfl|rfl
  ·exact⟨by unfold top;omega,_,List.mem_cons_self,(bR.slice r0).z⟩
  ·exact⟨by unfold top;omega,_,(List.mem_cons_of_mem _ List.mem_cons_self),(bR.U (r2 _ hn) r2).z⟩
  ·exact⟨by unfold top;omega,_,(List.mem_cons_of_mem _<|List.mem_cons_of_mem _ List.mem_cons_self),(bR.int _ _).z⟩
  ·exact⟨by unfold top;omega,_,(List.mem_cons_of_mem _<|List.mem_cons_of_mem _<|List.mem_cons_of_mem _ List.mem_cons_self),(bR.int _ _).z⟩),rfl,rfl⟩
theorem aiB(mc:Mt [rA 6,oq k] B)(hn:top<=N)(hi:0<=i)(hL:L<=10000)(hx:cX FU N (0+i.toNat*10+0) 10=some (Ji kd to oa na la ob nb lb bd el))(hA:bf (aU<|rz 6) [(C8 oa na la)]=some (C8 oa na la))(hB:bf (aU<|rz 6) [(C9 ob nb lb)]=some (C9 ob nb lb))(hD:bf (aU<|qe k) [(.U (nm<|bw bd) 0 bd.length)]=some (.U (nm<|bw bd) 0 bd.length))(hE:bf (aU<|qe k) [(.U (nm<|bw el) 0 el.length)]=some (.U (nm<|bw el) 0 el.length))(hW:(W++[(St.mk kd to (Ex.mk oa na la) (Ex.mk ob nb lb) bd el)]).length<=20000)(h1:i<(L:Int))(H:au pg B 270 (Fin pg (az Tryz.f37) fun y _=>y=v) (tT N L (W++[(St.mk kd to (Ex.mk oa na la) (Ex.mk ob nb lb) bd el)])<|i+1)<|aq (Da W kd to oa na la ob nb lb bd el) 271):au pg B 270 (Fin pg (az Tryz.f37) fun y _=>y=v) (tT N L W i)<|aq (ar++[(270,some<|aN aM W)]) 271:=by exact wC mc (C:=(fun fr s1 _=>fr=tT N L (W++[(St.mk kd to (Ex.mk oa na la) (Ex.mk ob nb lb) bd el)]) (i+1)/\s1=aq (Da W kd to oa na la ob nb lb bd el) 271)) np (.st 1<|.rg<|.fk (.en<|.st 6<|.rg<|.fF<|.fG (Ji kd to oa na la ob nb lb bd el)<|.go 2<|.en<|.st 1<|.rg<|.go 2<|.kn (C8 oa na la)<|.go 2<|.kn (C9 ob nb lb)<|.go 2<|.kn (.U (nm<|bw bd) 0 bd.length)<|.go 2<|.kn (.U (nm<|bw el) 0 el.length)<|.go 8<|.en<|.rg<|.go 3<|.ap St aM W (St.mk kd to (Ex.mk oa na la) (Ex.mk ob nb lb) bd el)<|.go 1<|.en<|.st 1<|.rg<|.vl (i6<|i+1)<|.go 1<|.en<|.st 1<|.rn (Jj W kd to oa na la ob nb lb bd el N L i) (ar++[(273,(some<|aN aM<|W++[(St.mk kd to (Ex.mk oa na la) (Ex.mk ob nb lb) bd el)]))]) (BN N L (W++[(St.mk kd to (Ex.mk oa na la) (Ex.mk ob nb lb) bd el)])<|i+1) (Da W kd to oa na la ob nb lb bd el) 274 271 .no)<|.no)<|ax (i<(L:Int)) (fun _=>(dq i (L:Int)<|ai hn<|ai hx<|ai hA<|ai hB<|ai hD<|ai hE<|apI aM W (St.mk kd to (Ex.mk oa na la) (Ex.mk ob nb lb) bd el) (K:=10) (pM:=144) (fun x=>⟨mB.len x,aaP x⟩) (by rw[List.length_append] at hW;unfold room;omega) (by rw[List.length_append] at hW;unfold top;omega)<|ai (wI<|i+1)<|aiA (N:=N) (L:=L) (W:=W) (i:=i) (kd:=kd) (to:=to) (oa:=oa) (na:=na) (la:=la) (ob:=ob) (nb:=nb) (lb:=lb) (bd:=bd) (el:=el) hn hW)) bh
theorem aiC:(([(2,(.slice none 0<|.known 0))]:List<|Nat×AV).map (fun q=>some q.2)=([(2,(.slice none 0<|.known 0))]:List<|Nat×AV).map (fun q=>some q.2))/\(([]:List<|Nat×Option ae).map (fun q=>q.2)=([]:List<|Nat×Option ae).map (fun q=>q.2))/\jF FU 270 270 [(2,(.slice none 0<|.known 0))] [] [(2,aX aM ([]:List St))] [] 270/\((⟨37,aS [(2,aX aM ([]:List St))],max Tryz.f37.ntmps 1,(dF 37 [1,1,1,1]),[],none⟩:AF)=⟨37,aS [(2,aX aM ([]:List St))],max Tryz.f37.ntmps 1,(dF 37 [1,1,1,1]),[],none⟩/\aq [] 270=aq [] 270):=⟨rfl,rfl,(N9 (enc:=aM) (j:=2) (bQ:=270) iy iy),rfl,rfl⟩
theorem aiD(mc:Mt [rA 6,oq k] B):au pg B 270 (Fin pg (az Tryz.f37) fun y _=>y=(aX aM ([]:List St))) ⟨37,aS [(2,aX aM ([]:List St))],max Tryz.f37.ntmps 1,(dF 37 [1,1,1,1]),[],none⟩<|aq [] 270:=by exact wS mc (.rt 1 .no)<|wa<|aX aM ([]:List St)
theorem aiE(mc:Mt [rA 6,oq k] B)(h1:(L:Int)<=0):au pg B 270 (Fin pg (az Tryz.f37) fun y _=>y=(aX aM ([]:List St))) (D4 N L)<|aq ar 270:=by exact wC mc (C:=(fun fr s1 _=>fr=⟨37,aS [(2,aX aM ([]:List St))],max Tryz.f37.ntmps 1,(dF 37 [1,1,1,1]),[],none⟩/\s1=aq [] 270)) (fun fr s1 p hC=>by obtain⟨rfl,rfl⟩:=hC;exact aiD mc) (.st 1<|.rg<|.fk (.no)<|.en<|.st 5<|.rn [(2,(.slice none 0<|.known 0))] [] [(2,aX aM ([]:List St))] [] 270 270 .no)<|ax ((0:Int)<(L:Int)) bh fun _=>(aiC)
theorem aiF(W:List St)(hW:W.length<=20000):(([(2,(.slice (some (270,0)) (W.length)<|.ak W.length 10))]:List<|Nat×AV).map (fun q=>some q.2)=([(2,(.slice (some (270,0)) (W.length)<|.ak W.length 10))]:List<|Nat×AV).map (fun q=>some q.2))/\(([(270,some<|aN aM W)]:List<|Nat×Option ae).map (fun q=>q.2)=([(270,some<|aN aM W)]:List<|Nat×Option ae).map (fun q=>q.2))/\jF FU 270 271 [(2,(.slice (some (270,0)) (W.length)<|.ak W.length 10))] [(270,some<|aN aM W)] [(2,aX aM W)] [] 270/\((⟨37,aS [(2,aX aM W)],max Tryz.f37.ntmps 1,(dF 37 [1,1,1,1]),[],none⟩:AF)=⟨37,aS [(2,aX aM W)],max Tryz.f37.ntmps 1,(dF 37 [1,1,1,1]),[],none⟩/\aq [] 270=aq [] 270):=⟨rfl,rfl,(N8 (j:=2) (n:=270) (bQ:=271) mB W rfl iy iy iy iy),rfl,rfl⟩
theorem aiG(mc:Mt [rA 6,oq k] B)(W:List St):au pg B 270 (Fin pg (az Tryz.f37) fun y _=>y=(aX aM W)) ⟨37,aS [(2,aX aM W)],max Tryz.f37.ntmps 1,(dF 37 [1,1,1,1]),[],none⟩<|aq [] 270:=by exact wS mc (.rt 1 .no)<|wa<|aX aM W
theorem aiH(mc:Mt [rA 6,oq k] B)(h1:(L:Int)<=i)(hW:W.length<=20000):au pg B 270 (Fin pg (az Tryz.f37) fun y _=>y=(aX aM W)) (tT N L W i)<|aq (ar++[(270,some<|aN aM W)]) 271:=by exact wC mc (C:=(fun fr s1 _=>fr=⟨37,aS [(2,aX aM W)],max Tryz.f37.ntmps 1,(dF 37 [1,1,1,1]),[],none⟩/\s1=aq [] 270)) (fun fr s1 p hC=>by obtain⟨rfl,rfl⟩:=hC;exact aiG mc W) (.st 1<|.rg<|.fk (.no)<|.en<|.st 5<|.rn [(2,(.slice (some (270,0)) (W.length)<|.ak W.length 10))] [(270,some<|aN aM W)] [(2,aX aM W)] [] 271 270 .no)<|ax (i<(L:Int)) bh fun _=>(aiF W hW)
end
end gU
end
section
open Go Go.Rn Go.RowKit Go.Proofs
namespace Bu
open cq cz cO cT eH fx xR dj gw qF vC xo qp m7 Gv JV gU
variable {k:Nat}
theorem UA(l:List St):AV.U (nm<|bw l) 0 l.length=aX aM l:=by rw[uA];rfl
theorem Ie{l:List St}(h:qq k l=true):bf (aU<|qe k) [.U (nm<|bw l) 0 l.length]=some (.U (nm<|bw l) 0 l.length):=fA (eZ qe.bT ⟨l,rfl,h,rfl⟩) (by rw[List.all_cons,sY];rfl)<|sY l
theorem ZZ(hP:bE pg)(h':aV [rA 6,oq k]){L:bY}(h:aV L):aV<|oq (k+1)::L:=by
 refine ig hP h h' Tryz.func37 fun args v e=>?_;obtain⟨l,rfl,hg,rfl⟩:=gI e;refine⟨aL.1 aW,fun B mc=>?_⟩;rw[←gX];have hg:(decide (l.length<=10000)&&l.all fun s=>oS 6 (iq s)&&(oS 6 (ir s)&&(qq k (bF s)&&qq k (bB s))))=true:=hg;rw[Bool.and_eq_true,decide_eq_true_eq,List.all_eq_true] at hg;obtain⟨hlen,hd⟩:=hg;have pB:∀s∈l,oS 6 (iq s)=true/\oS 6 (ir s)=true/\qq k (bF s)=true/\qq k (bB s)=true:=fun s hs=>by have:=hd s hs;rw[Bool.and_eq_true,Bool.and_eq_true,Bool.and_eq_true] at this;exact this
 refine aix mc ?_;cases l with
 |nil=>have:=aiE (N:=nm<|bw []) (L:=0) mc ab;rw[←UA] at this;exact this
 |cons a0 l0=>
  have key:∀(r:List St) (i:Nat),(a0::l0).drop i=r->1<=i->i<=(a0::l0).length->au pg B 270 (Fin pg (az Tryz.f37) fun y _=>y= .U (nm<|bw<|a0::l0) 0 (a0::l0).length) (tT (nm<|bw<|a0::l0) (a0::l0).length ((a0::l0).take i) i) (aq (ar++[(270,some<|aN aM<|(a0::l0).take i)]) 271):=by
   generalize hl:a0::l0=l at*;intro r;induction r with
   |nil=>intro i hr _ hle;have hi:l.length<=i:=List.drop_eq_nil_iff.1 hr;have e:l.take i=l:=List.take_of_length_le hi;rw[e];have:=aiH (N:=nm<|bw l) (L:=l.length) (W:=l) (i:=(i:Int)) mc ab ab;rw[←UA] at this;exact this
   |cons a r ih=>
    intro i hr h1 hle;have bJ:i<l.length:=by
     by_cases q:i<l.length
     ·exact q
     ·rw[List.drop_of_length_le ab] at hr;cases hr
    have ha:l[i]? =some a:=by have:=congrArg (fun q=>q[0]?) hr;simp only[List.getElem?_drop,List.getElem?_cons_zero,Nat.add_zero] at this;exact this
    have hm:a∈l:=List.mem_of_getElem? ha;have lF:l.drop (i+1)=r:=by have:=congrArg (List.drop 1) hr;rw[List.drop_drop] at this;exact this
    have tE:=ih (i+1) lF ab ab;rw[List.take_add_one,ha] at tE;obtain⟨g1,g2,g3,g4⟩:=pB a hm;have hx:=Fh ha (z:=(i:Int)) ab;obtain⟨kd,to,⟨oa,na,la⟩,⟨ob,nb,lb⟩,bd,el⟩:=a;have cA:=CV (k:=6) g1;have cB:=CV (k:=6) g2;have cD:=Ie g3;have cE:=Ie g4;simp only[iq,ir,bF,bB] at cA cB cD cE;rw[aB] at cA cB;rw[aM,aB,aB] at hx;exact aiB (i:=(i:Int)) (W:=l.take i) mc (dU _) ab hlen hx cA cB cD cE (by rw[List.length_append,List.length_take];show _+1<=20000;omega) ab tE
  have tE:=key l0 1 rfl ab (by show 1<=l0.length+1;omega);rw[List.take_succ_cons,List.take_zero] at tE;obtain⟨g1,g2,g3,g4⟩:=pB a0 List.mem_cons_self;have hx:=Fh (l:=a0::l0) (i:=0) (a:=a0) rfl (z:=(0:Int)) rfl;obtain⟨kd,to,⟨oa,na,la⟩,⟨ob,nb,lb⟩,bd,el⟩:=a0;have cA:=CV (k:=6) g1;have cB:=CV (k:=6) g2;have cD:=Ie g3;have cE:=Ie g4;simp only[iq,ir,bF,bB] at cA cB cD cE;rw[aB] at cA cB;rw[show aM (St.mk kd to (Ex.mk oa na la) (Ex.mk ob nb lb) bd el)=_ from by rw[aM,aB,aB]] at hx;exact aiz mc (dU _) hlen hx cA cB cD cE (by show 1<=20000;omega) (by show(0:Int)<((l0.length+1:Nat):Int);omega) tE
theorem SU(hP:bE pg):∀(k:Nat) {L:bY},aV L->aV (oq k::L)
 |0,L,h=>by refine ig hP h cP Tryz.func37 fun args v e=>?_;obtain⟨_,_,hd,_⟩:=gI e;cases hd
 |k+1,L,h=>ZZ hP (Nc hP 6<|SU hP k cP) h
end Bu
end
section
open Go Go.Rn Go.RowKit Go.Proofs
namespace WH
open cq gw gU
variable {left:List<|Int×Int} {cur:Option<|AV×AV} {v0 k0:Int}
noncomputable section
def l0:List<|Nat×AV:=[(0,.map<|some 270),(1,.map<|some 271),(6,.map<|some 271),(7,.ptr<|some (272,0))]
def lx(k v:Int):List<|Nat×AV:=[(0,.map<|some 270),(1,.map<|some 271),(4,.int .i64 k),(5,.int .i64 v),(6,.map<|some 271),(7,.ptr<|some (272,0)),(8,.tuple [.bool true,.int .i64 k,.int .i64 v]),(9,.bool true),(10,.tuple [.int .i64 k,.int .i64 v]),(11,.int .i64 k),(12,.int .i64 v),(13,.map<|some 270),(14,.int .i64 k),(15,.int .i64 v)]
def KN:List Item:=[.code<|a9 pg 96 [1,0,0,1],.inLoop<|a9 pg 96 [1,0,0],.inBlock 0]
def n7(t:Tr AV):AF:=⟨96,t,max Tryz.f96.ntmps 2,.code (a9 pg 96 [1,0,0,0])::KN,[],none⟩
def j0(m2 d left:List<|Int×Int)(cur:Option<|AV×AV):AS:=aq (ar++[(270,some<|bG d),(271,some .kB),(272,some<|.iter 271 (cY m2) false (cY left) cur)]) 273
def G6:Oper:=(opsOf<|a9 pg 96 [1,0,0,0]).toList.headD default
def Gw:Array Oper:=opsOf<|a9 pg 96 [1,0,0,0]
def F0:List Oper:=(opsOf<|a9 pg 96 [1,0,0,0]).toList.tail
def Ab(t:Tr AV)(v:AV)(b:Bool):AF:=⟨96,(t.put 8<|some v).put 9<|some<|.bool b,max Tryz.f96.ntmps 2,KN,[],none⟩
def Qn:Env:=xQ pg 270 eK dV [] 272 true
theorem asks(t:Tr AV):yz (n7 t)=some (.tmp 7,G6,Gw,F0,KN):=by kernel_rfl
theorem ag3{m2 d:List<|Int×Int}:qV (n7<|aS l0) (.tmp 7) (j0 m2 d left cur)= .ok (272,.iter 271 (cY m2) false (cY left) cur) (j0 m2 d left cur):=by kernel_rfl
theorem VV{m2 d:List<|Int×Int}{k v:Int}:qV (n7<|aS<|lx k v) (.tmp 7) (j0 m2 d left cur)= .ok (272,.iter 271 (cY m2) false (cY left) cur) (j0 m2 d left cur):=by kernel_rfl
theorem ag4{m2 d:List<|Int×Int}{Ye:aI}:pX pg Ye (n7<|aS l0) 272 271 (cY m2) false G6 Gw F0 KN (j0 m2 d left cur)= .ok (Ab (aS l0) (.tuple [.bool false]) false) (aq (ar++[(270,some<|bG d),(271,some<|bG m2),(272,none)]) 273):=by kernel_rfl
theorem JI{m2 d:List<|Int×Int}{Ye:aI}{k v:Int}:pX pg Ye (n7<|aS<|lx k v) 272 271 (cY m2) false G6 Gw F0 KN (j0 m2 d left cur)= .ok (Ab (aS<|lx k v) (.tuple [.bool false]) false) (aq (ar++[(270,some<|bG d),(271,some<|bG m2),(272,none)]) 273):=by kernel_rfl
theorem is0{m2 d r:List<|Int×Int}{Ye:aI}{k v:Int}:p9 pg Ye (n7<|aS l0) 272 (.iter 271 (cY m2) false (cY r)<|some (.int .i64 k,.int .i64 v)) G6 Gw F0 KN (.tuple [.bool true,.int .i64 k,.int .i64 v]) (j0 m2 d left cur)= .ok (Ab (aS l0) (.tuple [.bool true,.int .i64 k,.int .i64 v]) true) (j0 m2 d r<|some (.int .i64 k,.int .i64 v)):=by kernel_rfl
theorem isX{m2 d r:List<|Int×Int}{Ye:aI}{k v:Int}:p9 pg Ye (n7<|aS<|lx k0 v0) 272 (.iter 271 (cY m2) false (cY r)<|some (.int .i64 k,.int .i64 v)) G6 Gw F0 KN (.tuple [.bool true,.int .i64 k,.int .i64 v]) (j0 m2 d left cur)= .ok (Ab (aS<|lx k0 v0) (.tuple [.bool true,.int .i64 k,.int .i64 v]) true) (j0 m2 d r<|some (.int .i64 k,.int .i64 v)):=by kernel_rfl
abbrev FM(m1 m2:List<|Int×Int):=Pz 270 pg (az Tryz.f96) m1 m2
theorem Jk:fN<=272:=Nat.le_trans hJ ab
theorem WI(m2 d r:List<|Int×Int)(k v:Int)(fr:AF):(some (bG d)=some (bG d))/\(fr=fr/\j0 m2 (gA d k v) r (some (.int .i64 k,.int .i64 v))=j0 m2 (gA d k v) r (some (.int .i64 k,.int .i64 v))):=⟨rfl,rfl,rfl⟩
section
variable {B:aJ} {m1 m2 d r:List<|Int×Int} {k v:Int}
theorem ag5(mc:Mt [] B)(H:au pg B 272 (FM m1 m2) (n7<|aS<|lx k v)<|j0 m2 (gA d k v) r<|some (.int .i64 k,.int .i64 v)):
 au pg B 272 (FM m1 m2) (Ab (aS l0) (.tuple [.bool true,.int .i64 k,.int .i64 v]) true) (j0 m2 d r<|some (.int .i64 k,.int .i64 v)):=
 wZ (E:=Qn) (C:=fun fr s1 _=>fr=n7 (aS<|lx k v)/\s1=j0 m2 (gA d k v) r (some (.int .i64 k,.int .i64 v))) eY rfl bV mc.2.2.1 mc.2.2.2 Jk rfl mc.1 np 900 (.st 6<|.rg<|.go 3<|.KK d<|.en<|.st 3<|.cut .no) (WI m2 d r k v<|n7<|aS<|lx k v)
theorem ag6(mc:Mt [] B)(H:au pg B 272 (FM m1 m2) (n7<|aS<|lx k v)<|j0 m2 (gA d k v) r<|some (.int .i64 k,.int .i64 v)):
 au pg B 272 (FM m1 m2) (Ab (aS<|lx k0 v0) (.tuple [.bool true,.int .i64 k,.int .i64 v]) true) (j0 m2 d r<|some (.int .i64 k,.int .i64 v)):=
 wZ (E:=Qn) (C:=fun fr s1 _=>fr=n7 (aS<|lx k v)/\s1=j0 m2 (gA d k v) r (some (.int .i64 k,.int .i64 v))) eY rfl bV mc.2.2.1 mc.2.2.2 Jk rfl mc.1 np 900 (.st 6<|.rg<|.go 3<|.KK d<|.en<|.st 3<|.cut .no) (WI m2 d r k v<|n7<|aS<|lx k v)
theorem VW{m1 m2 d:List<|Int×Int}(hk:fS m1)(hp:d.Perm<|jf m1 m2):jF FU 272 273 [(9,.bool false)] [(270,some<|bG d),(271,some<|bG m2)] [(9,.bool false)] [(270,some<|bG<|jf m1 m2),(271,some<|bG m2)] 272:=by
 let r:Nat->Nat:=fun k=>if k<272\/top<=k then k else max k 273
 have t0:272<top:=by unfold top;omega
 have rl:∀k,k<272->r k=k:=fun k hk=>if_pos<|.inl hk;refine⟨[],r,rl,fun k h1 h2=>?_,fun k hk=>if_pos<|.inr hk,by omega,fun p hp=>?_,fun p hp=>?_,fun p hp q hq _ _ e=>?_,fun p hp=>nP,fun p hp=>nP⟩
 ·show 273<=(if _ then _ else _)/\(if _ then _ else _)<top;rw[if_neg ab];have:273<top:=by unfold top;omega
  omega
 ·rw[List.mem_singleton] at hp;subst hp;exact⟨by show 9<top;omega,_,List.mem_singleton.2 rfl,(bR.bool _).z⟩
 ·rcases List.mem_cons.1 hp with rfl|hp
  ·refine⟨by show 270<top;omega,fun y hy=>?_⟩;cases hy;rw[rl 270 ab];exact⟨by omega,rfl,_,List.mem_cons_self,⟨fun _=>rfl,(fun e=>by cases e),fun e=>by cases e⟩,fun ρ fq N o _ h=>ZM hk.merge (by assumption) h⟩
  ·rw[List.mem_singleton] at hp;subst hp;refine⟨by show 271<top;omega,fun y hy=>?_⟩;cases hy;rw[rl 271 ab];exact⟨by omega,rfl,_,List.mem_cons_of_mem _ List.mem_cons_self,iv.refl _,fun ρ fq N o _ h=>wA h⟩
 ·rcases List.mem_cons.1 hp with rfl|hp<;>rcases List.mem_cons.1 hq with rfl|hq
  ·rfl
  ·rw[List.mem_singleton] at hq;subst hq;rw[rl _ ab,rl _ ab] at e;exact e
  ·rw[List.mem_singleton] at hp;subst hp;rw[rl _ ab,rl _ ab] at e;exact e
  ·rw[List.mem_singleton] at hp hq;subst hp;subst hq;rfl
def aiJ(m1 m2:List<|Int×Int)(s':AS)(y:AV):Prop:=y= .tuple []/\s'.h.get 270=some (bG<|jf m1 m2)/\s'.h.get 271=some (bG m2)
theorem aiK(m1 m2:List<|Int×Int):aiJ m1 m2 (aq [(270,some<|bG<|jf m1 m2),(271,some<|bG m2)] 272)<|.tuple []:=⟨rfl,by kernel_rfl,by kernel_rfl⟩
theorem WJ(mc:Mt [] B):au pg B 272 (FM m1 m2) ⟨96,aS [(9,.bool false)],max Tryz.f96.ntmps 2,KN,[],none⟩<|aq [(270,some<|bG<|jf m1 m2),(271,some<|bG m2)] 272:=mh (E:=Qn) eY rfl bV mc.2.2.1 mc.2.2.2 900 (.rt 4 .no)<|aiK m1 m2
theorem ag7(mc:Mt [] B)(hk:fS m1)(hp:d.Perm<|jf m1 m2):au pg B 272 (FM m1 m2) (Ab (aS l0) (.tuple [.bool false]) false)<|aq (ar++[(270,some<|bG d),(271,some<|bG m2),(272,none)]) 273:=au.rn (l0:=[(9,.bool false)]) (o0:=[(270,some<|bG d),(271,some<|bG m2)]) Jk cN cN (by rw[mc.1];exact VW hk hp)<|WJ mc
theorem ag8(mc:Mt [] B)(hk:fS m1)(hp:d.Perm<|jf m1 m2):au pg B 272 (FM m1 m2) (Ab (aS<|lx k0 v0) (.tuple [.bool false]) false)<|aq (ar++[(270,some<|bG d),(271,some<|bG m2),(272,none)]) 273:=au.rn (l0:=[(9,.bool false)]) (o0:=[(270,some<|bG d),(271,some<|bG m2)]) Jk cN cN (by rw[mc.1];exact VW hk hp)<|WJ mc
theorem Fx(h:cY left=[]):left=[]:=by cases left with|nil=>rfl|cons _ _=>cases h
theorem ag9(mc:Mt [] B)(hk:fS m1)(K2:fS m2):∀(n:Nat) (left EA d:List<|Int×Int) (k v:Int) (cur:Option<|AV×AV),left.length=n->m2.Perm (EA++left)->d=jf m1 EA->
 au pg B 272 (FM m1 m2) (n7<|aS<|lx k v) (j0 m2 d left cur):=by
 intro n;induction n with
 |zero=>intro left EA d k v cur hn hp hd;have hl:=List.eq_nil_of_length_eq_zero hn;subst hl;refine au.next mc.2.2.1 mc.2.2.2 (asks _) (by show 272<=273;omega) VV (fun _=>⟨_,_,JI,ag8 mc hk ?_⟩) (fun x r h=>by cases h);rw[hd,List.append_nil] at*;exact ZK hk ((hp.map (·.1)).nodup_iff.1 K2) hp.symm
 |succ n ih=>intro left EA d k v cur hn hp hd;refine au.next mc.2.2.1 mc.2.2.2 (asks _) (by show 272<=273;omega) VV (fun h=>by rw[Fx h] at hn;cases hn) fun x r h=>?_;obtain⟨p,l',rfl,rfl,K3⟩:=Mr h;refine⟨_,_,isX,ag6 mc ?_⟩;refine ih l' (EA++[p]) _ _ _ _ (by have:=K3.length_eq;rw[List.length_cons] at this;omega) ?_ (by rw[ZL,hd]);rw[List.append_assoc];exact hp.trans<|K3.append_left EA
theorem aha(mc:Mt [] B)(hk:fS m1)(K2:fS m2):au pg B 272 (FM m1 m2) (n7<|aS l0)<|j0 m2 m1 m2 none:=by
 refine au.next mc.2.2.1 mc.2.2.2 (asks _) (by show 272<=273;omega) ag3 (fun h=>⟨_,_,ag4,ag7 mc hk ?_⟩) fun x r h=>?_
 ·rw[Fx h];exact List.Perm.refl _
 ·obtain⟨p,l',rfl,rfl,K3⟩:=Mr h;refine⟨_,_,is0,ag5 mc ?_⟩;exact ag9 mc hk K2 l'.length l' [p] _ _ _ _ rfl K3 rfl
end
def Ck:FuncId×KE:=(96,.raw vY)
theorem afu(hP:bE pg){L:bY}(h:aV L):aV<|Ck::L:=by refine aeU hP hJ (aL.1 aW) iT iz lT lB h cP Tryz.func96 (body:=a9 pg 96 []) aW aW fun m1 m2 k1 k2=>?_;refine⟨aL.1 aW,fun B mc=>?_⟩;exact au.chunk (k:=5) (aT:=n7<|aS l0) (s1:=j0 m2 m1 m2 none) bV mc.2.2.1 mc.2.2.2 cN (by show 272<=272;omega)<|aha mc k1 k2
end
end WH
end
section
open Go Go.Rn Go.RowKit Go.Proofs
namespace kF
open cq gw gU eX
variable {r:Nat->Nat} {o0:List<|Nat×Option ae} {lo bQ:Nat} {ps:List<|Nat×Nat} {b a:List<|Int×Int}
def l7(ps:List<|Nat×Nat)(lo bQ k:Nat):Nat:=match ps.find? fun p=>Nat.beq p.1 k with
 |some p=>p.2
 |none=>if k<lo\/top<=k then k else max k bQ
def wc(ps:List<|Nat×Nat)(lo bQ nx:Nat)(names:List Nat):Bool:=ps.all (fun p=>Nat.ble lo p.1&&(Nat.blt p.1 nx&&(Nat.ble lo p.2&&Nat.blt p.2 top)))&&(Nat.ble lo nx&&(Nat.ble nx top&&(Nat.blt bQ top&&(names.all fun m=>Nat.blt m lo||ps.any fun p=>Nat.beq p.1 m))))
def Km(ps:List<|Nat×Nat):Bool:=ps.all fun p=>ps.all fun q=> !(Nat.beq p.2 q.2)||Nat.beq p.1 q.1
def G7(r:Nat->Nat)(l0:List<|Nat×AV):List (Nat×AV)->Prop
 |[]=>True
 |p::l=>(p.1<top/\∃x,(p.1,x)∈l0/\qk [] r x p.2)/\G7 r l0 l
def Ac(r:Nat->Nat)(o0:List<|Nat×Option ae):List (Nat×Option ae)->Prop
 |[]=>True
 |p::l=>(∀y,p.2=some y->y.o5=true/\∃x,(r p.1,some x)∈o0/\iv x y/\iE [] r x y)/\Ac r o0 l
theorem G7.mem{l0:List<|Nat×AV}:∀{l:List<|Nat×AV},G7 r l0 l->∀p∈l,p.1<top/\∃x,(p.1,x)∈l0/\qk [] r x p.2
 |[],_,p,hp=>by cases hp
 |a::l,h,p,hp=>by
  rcases List.mem_cons.1 hp with rfl|hp
  ·exact h.1
  ·exact G7.mem h.2 p hp
theorem Ac.mem:∀{l:List<|Nat×Option ae},Ac r o0 l->∀p∈l,∀y,p.2=some y->y.o5=true/\∃x,(r p.1,some x)∈o0/\iv x y/\iE [] r x y
 |[],_,p,hp=>by cases hp
 |a::l,h,p,hp=>by
  rcases List.mem_cons.1 hp with rfl|hp
  ·exact h.1
  ·exact Ac.mem h.2 p hp
theorem Bv{nx:Nat}{l0 l:List<|Nat×AV}{o:List<|Nat×Option ae}(gF:270<=lo)(hb:wc ps lo bQ nx (o.map (·.1))=true)(hi:Km ps=true)(hl:∀r,r=l7 ps lo bQ->(∀k,top<=k->r k=k)->G7 r l0 l)(ho:∀r,r=l7 ps lo bQ->(∀k,top<=k->r k=k)->Ac r o0 o):
 jF FU lo bQ l0 (ar++o0) l (ar++o) nx:=by
 unfold wc at hb;obtain⟨b1,hb⟩:=and_true.1 hb;obtain⟨b2,hb⟩:=and_true.1 hb;obtain⟨b3,hb⟩:=and_true.1 hb;obtain⟨b4,b5⟩:=and_true.1 hb;have b2:=aL.1 b2;have b3:=aL.1 b3;have b4:=(blt_eq _ _).mp b4;have uf:∀p∈ps,lo<=p.1/\p.1<nx/\lo<=p.2/\p.2<top:=fun p hp=>by have:=List.all_eq_true.1 b1 p hp;obtain⟨c1,c2⟩:=and_true.1 this;obtain⟨c2,c3⟩:=and_true.1 c2;obtain⟨c3,c4⟩:=and_true.1 c3;exact⟨aL.1 c1,(blt_eq _ _).mp c2,aL.1 c3,(blt_eq _ _).mp c4⟩
 have none_:∀k,(k<lo\/nx<=k)->(ps.find? fun p=>Nat.beq p.1 k)=none:=fun k hk=>by refine List.find?_eq_none.2 fun p hp=>?_;obtain⟨c1,c2,_⟩:=uf p hp;rw[eg];omega
 let r:=l7 ps lo bQ;have rl:∀k,k<lo->r k=k:=fun k hk=>by show l7 ps lo bQ k=k;unfold l7;rw[none_ k<|.inl hk];exact if_pos<|.inl hk
 have rt:∀k,top<=k->r k=k:=fun k hk=>by show l7 ps lo bQ k=k;unfold l7;rw[none_ k<|.inr ab];exact if_pos<|.inr hk
 have rn:∀k,nx<=k->k<top->bQ<=r k/\r k<top:=fun k h1 h2=>by show bQ<=l7 ps lo bQ k/\l7 ps lo bQ k<top;unfold l7;rw[none_ k<|.inr h1];show bQ<=(if _ then _ else _)/\(if _ then _ else _)<top;rw[if_neg ab];omega
 have XI:∀k∈o.map (·.1),(k<lo/\r k=k)\/∃p∈ps,p.1=k/\r k=p.2:=fun k hk=>by
  have:=List.all_eq_true.1 b5 k hk;rcases Bool.or_eq_true_iff.1 this with this|this
  ·have:=(blt_eq _ _).mp this;exact .inl ⟨this,rl k this⟩
  right;obtain⟨p,hp,e⟩:=List.any_eq_true.1 this;cases q:ps.find? fun p=>Nat.beq p.1 k with
  |none=>exact absurd e (by simpa using List.find?_eq_none.1 q p hp)
  |some p'=>have h1:=List.find?_some q;refine⟨p',List.mem_of_find?_eq_some q,eg.1 h1,?_⟩;show l7 ps lo bQ k=_;unfold l7;rw[q]
 have Ez:∀p∈ar,p.1<270:=fun p hp=>by obtain⟨k,hk,e⟩:=List.mem_map.1 hp;rw[←e];exact iz k hk
 have t0:270<top:=by unfold top;omega
 refine⟨[],r,rl,rn,rt,b3,(hl r rfl rt).mem,fun p hp=>?_,fun p hp q hq _ _ e=>?_,fun p hp=>nP,fun p hp=>nP⟩
 ·rcases List.mem_append.1 hp with hp|hp
  ·have bJ:=Ez p hp;refine⟨by omega,fun y hy=>?_⟩;rw[rl _ ab];refine⟨by omega,TC p hp y hy,y,?_,iv.refl _,(H6 (nx:=270) (fun k hk=>rl k ab) cN p hp y hy).z⟩;refine List.mem_append_left _ ?_;rw[←hy];exact hp
  ·have bJ:p.1<top/\r p.1<top:=by
    rcases XI p.1 (List.mem_map.2 ⟨p,hp,rfl⟩) with⟨c1,c2⟩|⟨p',h1,h2,h3⟩
    ·rw[c2];omega
    ·obtain⟨c1,c2,c3,c4⟩:=uf p' h1;rw[h3];omega
   refine⟨bJ.1,fun y hy=>?_⟩;obtain⟨d1,x,d2,d3,d4⟩:=(ho r rfl rt).mem p hp y hy;exact⟨bJ.2,d1,x,List.mem_append_right _ d2,d3,d4⟩
 ·have key:∀p∈ar++o,(p.1<lo/\r p.1=p.1)\/∃q∈ps,q.1=p.1/\r p.1=q.2:=fun p hp=>by
   rcases List.mem_append.1 hp with hp|hp
   ·exact .inl ⟨by have:=Ez p hp;omega,rl _ (by have:=Ez p hp;omega)⟩
   ·exact XI p.1<|List.mem_map.2 ⟨p,hp,rfl⟩
  rcases key p hp with⟨a1,a2⟩|⟨a,a1,a2,a3⟩<;>rcases key q hq with⟨c1,c2⟩|⟨c,c1,c2,c3⟩
  ·rw[a2,c2] at e;exact e
  ·have:=(uf c c1).2.2.1;rw[a2,c3] at e;omega
  ·have:=(uf a a1).2.2.1;rw[a3,c2] at e;omega
  ·rw[a3,c3] at e;have h1:=List.all_eq_true.1 (List.all_eq_true.1 hi a a1) c c1;rw[Bool.or_eq_true] at h1;rcases h1 with h1|h1
   ·rw[e,show Nat.beq c.2 c.2=true from Nat.beq_refl _] at h1;cases h1
   ·rw[←a2, ←c2];exact Nat.eq_of_beq_eq_true h1
theorem SV{l m:List AV}{rest:List AV}(hl:(l++rest).length<=top)(h:mG [] r l m)(h1:m.all AV.cj=true):iE [] r (.cells (l++rest).length (Tr.fill (l++rest) 0 .nil) [])<|.cells m.length (Tr.fill m 0 .nil) []:=by
 have hlen:=h.length;have x8:l.length<=(l++rest).length:=by rw[List.length_append];omega
 intro ρ fq N o yf k;refine iE.cells ab h h1 ρ fq N o yf ?_;obtain⟨c,e,rfl,k1,k2,k3⟩:=k;refine⟨c,e,rfl,k1,by omega,fun i hi=>?_⟩;obtain⟨x,v,a1,a2,a3,a4⟩:=k3 i ab;refine⟨x,v,?_,a2,a3,a4⟩;unfold cellAt at a1 ⊢;rw[Tr.wq _ _ _ _ ab,if_pos ab,Nat.sub_zero] at a1;rw[Tr.wq _ _ _ _ ab,if_pos ab,Nat.sub_zero];rw[List.getElem?_append_left hi] at a1;exact a1
theorem adJ{n m o len nX e:Nat}(h:r m=n)(h1:nX<=lo)(h2:len<=nX):bR r (.slice (some (n,o)) len<|.ak lo e)<|.slice (some (m,o)) len<|.ak nX e:=by intro ρ v hv;simp only[VR] at hv ⊢;obtain⟨b,N,c,q1,q2,q3,q4,q5⟩:=hv;exact⟨b,N,c,by rw[h];exact q1,q2,by omega,q4,q5⟩
theorem aiL{m:List<|Int×Int}:iE [] r (bG m)<|bG m:=fun _ _ _ _ _ h=>wA h
theorem VX{m:List<|Int×Int}(hk:fS m):iE [] r (Gf m)<|bG m:=fun _ _ _ _ _ h=>abR hk h
theorem ahb:iv (bG a)<|bG b:=⟨fun _=>rfl,(fun e=>by cases e),fun e=>by cases e⟩
theorem Vl:iv (Gf a)<|bG b:=⟨fun _=>rfl,(fun e=>by cases e),fun e=>by cases e⟩
theorem qX{a b:Nat}{s t:Tr AV}{z w:List AV}:iv (.cells a s z)<|.cells b t w:=⟨fun _=>rfl,(fun e=>by cases e),fun e=>by cases e⟩
theorem mi{α:Type}{l:List α}{a:α}(j:Nat)(h:l[j]? =some a:=by rfl):a∈l:=List.mem_of_getElem? h
theorem rq{m n:Nat}(hr:r=l7 ps lo bQ)(h:l7 ps lo bQ m=n:=by as_aux_lemma=>kernel_rfl):r m=n:=by rw[hr];exact h
theorem vi{k:IntKind}{n:Int}:qk [] r (.int k n)<|.int k n:=(bR.int _ _).z
theorem kP{m n:Nat}{x y:ae}(hm:(n,some x)∈o0)(hr:r m=n)(kp:iv x y)(ent:iE [] r x y)(pl:y.o5=true:=by rfl):∀z,some y=some z->z.o5=true/\∃x,(r m,some x)∈o0/\iv x z/\iE [] r x z:=fun z e=>by cases e;exact⟨pl,x,by rw[hr];exact hm,kp,ent⟩
theorem Jl{N M:Nat}{l m:List AV}(h:mG [] r l m)(hN:l.length=N:=by rfl)(hM:m.length=M:=by rfl)(hl:Nat.ble N top=true:=by as_aux_lemma=>kernel_rfl)(h1:m.all AV.cj=true:=by rfl):iE [] r (.cells N (Tr.fill l 0 .nil) [])<|.cells M (Tr.fill m 0 .nil) []:=by subst hN;subst hM;exact iE.cells (aL.1 hl) h h1
abbrev XJ(lo bQ nx:Nat)(l0:List<|Nat×AV)(o0:List<|Nat×Option ae)(l1:List<|Nat×AV)(o1:List<|Nat×Option ae)(fr:AF)(s:AS):Prop:=(l0.map (fun q=>some q.2)=l0.map (fun q=>some q.2))/\((ar++o0).map (fun q=>q.2)=(ar++o0).map (fun q=>q.2))/\jF FU lo bQ l0 (ar++o0) l1 (ar++o1) nx/\(fr=fr/\s=s)
end kF
end
section
open Go Go.Rn Go.RowKit Go.Proofs
namespace WK
open cq cO gw eH gU kF z6 qF cz
variable {S o N:Nat} {r:Nat->Nat} {dL:Int} {B:aJ} {init:List Int}
noncomputable section
def AG(S:Nat):ae:=(.cells (S*2) (Tr.fill ((List.replicate S (⟨-1,0⟩:Lk)).map nB).flatten 0 .nil) [.int .i64 0,.int .i64 0])
def hR:Tr ae:=gf<|ar++[(270,some<|.cells 2 (Tr.fill [.int .i64<|-1,.int .i64 0] 0 .nil) [])]
def ahd(S:Nat)(v:AV)(st:AS):Prop:=v= .slice (some (271,0)) S (.known S)/\st.h=Gg hR [(271,some<|AG S)]/\st.nx=272/\st.mark=0/\st.rd=[]/\st.wr=[]
def ahe(S k:Nat):Pl:=.st 8<|.rg<|.go 2<|.vl (.int .u64<|.ofNat 1)<|.go 1<|.vl (.int .u64<|.ofNat S)<|.il<|.st 6<|.rg<|.go 2<|.il<|.rt 25<|.go 5<|.en<|.rt 3<|.go 5<|.en<|.st 6<|.rg<|.go 1<|.vl (i6<|.ofNat S)<|.go 2<|.en<|.rt k .no
def ahf(_:1<=S/\S<=32):Pl:=ahe S<|[0,13,22,31,31,40,40,40,40,49,49,49,49,49,49,49,49,58,58,58,58,58,58,58,58,58,58,58,58,58,58,58,58].getD S 0
abbrev WL:Env:=xQ pg 270 eK dV [] 270 false
theorem aiN(S:Nat):AV.int .u64 (.ofNat 1)= .int .u64 (.ofNat 1)/\AV.int .u64 (.ofNat S)= .int .u64 (.ofNat S)/\AV.int .i64 (.ofNat S)= .int .i64 (.ofNat S)/\AV.slice (some (271,0)) S (.known S)= .slice (some (271,0)) S (.known S)/\Gg hR [(271,some<|AG S)]=Gg hR [(271,some<|AG S)]/\272=272/\0=0/\([]:List Nat)=[]/\([]:List Nat)=[]:=⟨rfl,rfl,rfl,rfl,rfl,rfl,rfl,rfl,rfl⟩
theorem afx(hS:1<=S/\S<=32):pL WL 5 (az Tryz.f17) (ahd S) (sF 17 Tryz.f17 [.slice (some (270,0)) 1<|.known 1,.int .i64<|.ofNat S]) ⟨hR,271,0,[],[]⟩:=by
 have h:S=1\/S=2\/S=3\/S=4\/S=5\/S=6\/S=7\/S=8\/S=9\/S=10\/S=11\/S=12\/S=13\/S=14\/S=15\/S=16\/S=17\/S=18\/S=19\/S=20\/S=21\/S=22\/S=23\/S=24\/S=25\/S=26\/S=27\/S=28\/S=29\/S=30\/S=31\/S=32:=by omega
 have T:=aiN S;rcases h with rfl|rfl|rfl|rfl|rfl|rfl|rfl|rfl|rfl|rfl|rfl|rfl|rfl|rfl|rfl|rfl|rfl|rfl|rfl|rfl|rfl|rfl|rfl|rfl|rfl|rfl|rfl|rfl|rfl|rfl|rfl|rfl
 all_goals exact Dv (C:=fun _ _ _=>False) eY rfl (fun _ _ _ h=>h.elim) 2000 (ahf hS) T
abbrev WM(S:Nat):AS:=⟨Gg hR [(271,some<|AG S)],272,0,[],[]⟩
theorem ab6(hS:1<=S/\S<=32):bg pg (sp []) FU 6 (.fn 17) [.slice (some (270,0)) 1<|.known 1,.int .i64<|.ofNat S] ⟨hR,271,0,[],[]⟩= .ok (.slice (some (271,0)) S<|.known S) (WM S):=by obtain⟨v1,s2,q1,q2⟩:=pL.call (E:=WL) Tryz.func17 (CG Tryz.func17 cN)<|afx hS;obtain⟨h2,nx2,al4,zM,wr2⟩:=s2;obtain⟨rfl,b1,b2,b3,b4,b5⟩:=q2;simp only at b1 b2 b3 b4 b5;subst b1;subst b2;subst b3;subst b4;subst b5;exact q1
theorem TE{l z:List AV}(hr:∀k,top<=k->r k=k)(hl:l.length<=top)(hh:l.all AV.bZ=true):iE [] r (.cells l.length (Tr.fill l 0 .nil) z)<|.cells l.length (Tr.fill l 0 .nil) []:=fun ρ fq N o m h=>by
 have key:OR ρ N (bO l) o:=by simp only[OR,bO] at h ⊢;obtain⟨c,e,rfl,h1,h2,h3⟩:=h;refine⟨c,e,rfl,h1,h2,fun i hi=>?_⟩;obtain⟨x,v,k1,k2,k3,k4⟩:=h3 i hi;refine⟨x,v,?_,k2,k3,k4⟩;unfold cellAt at k1 ⊢;rw[Tr.wq _ _ _ _ ab,if_pos ab] at k1 ⊢;rw[List.getElem?_eq_getElem ab] at k1 ⊢;exact k1
 exact DE (ρ:=ρ) (fun k x hk e=>by show fq (r k)=some x;rw[hr k hk];exact m.1 _ _ e) hl hh key
theorem ab7{l:List Int}(hr:∀k,top<=k->r k=k)(hl:l.length<=32):iE [] r (aN bS l)<|aN bS l:=by
 refine TE hr ?_ ?_
 ·rw[eI.length];have:top=549755813888:=rfl;omega
 ·rw[List.all_eq_true];intro c hc;obtain⟨y,hy,hc⟩:=List.mem_flatten.1 hc;obtain⟨g,_,rfl⟩:=List.mem_map.1 hy;rw[show bS g=[.int .i64 g] from rfl,List.mem_singleton] at hc;subst hc;rfl
theorem UC(S:Nat):((List.replicate S (⟨-1,0⟩:Lk)).map nB).flatten.length=S*2:=by
 have:=sq (K:=2) (l:=(List.replicate S (⟨-1,0⟩:Lk)).map nB) fun c hc=>by obtain⟨a,_,rfl⟩:=List.mem_map.1 hc;rfl
 rw[this,List.length_map,List.length_replicate]
theorem adM(hr:∀k,top<=k->r k=k)(hl:S<=32):iE [] r (AG S)<|aN nB<|List.replicate S (⟨-1,0⟩:Lk):=by unfold AG aN;rw[←UC S];refine TE hr (by rw[UC];have:top=549755813888:=rfl;omega) ?_;rw[List.all_eq_true];intro c hc;obtain⟨y,hy,hc⟩:=List.mem_flatten.1 hc;obtain⟨g,_,rfl⟩:=List.mem_map.1 hy;rw[show nB g=[.int .i64 g.owner,.int .i64 g.version] from rfl] at hc;simp only[List.mem_cons,List.not_mem_nil,or_false] at hc;rcases hc with rfl|rfl<;>rfl
theorem adN{m:Nat}{st:Int}(mc:Mt [] B)(hv:(m:Int)<1\/(m:Int)>32\/st<1\/st>(m:Int)\/dL<0\/dL>1099511627776):au pg B 270 (Rn.Fin pg (az Tryz.f6) fun y _=>y= .tuple [.ptr none,.int .i64 1]) (sF 6 Tryz.f6 [(.U N o m),(i6 st),(i6 dL)])<|aq ar 270:=by exact wS mc (.st 4<|.rg<|.go 2<|.fk (.go 23<|.en<|.rt 4 .no)<|.go 3<|.fk (.go 19<|.en<|.rt 4 .no)<|.go 3<|.fk (.go 15<|.en<|.rt 4 .no)<|.go 5<|.fk (.go 9<|.en<|.rt 4 .no)<|.go 3<|.fk (.go 5<|.en<|.rt 4 .no)<|.go 3<|.fk (.go 1<|.en<|.rt 4 .no)<|.no)<|ax ((m:Int)<1) (fun _=>(show((.tuple [(.ptr none),(i6<|.ofNat 1)]):AV)= .tuple [.ptr none,.int .i64 1] from rfl)) fun _=>(ax ((m:Int)>32) (fun _=>(show((.tuple [(.ptr none),(i6<|.ofNat 1)]):AV)= .tuple [.ptr none,.int .i64 1] from rfl)) fun _=>(ax (st<1) (fun _=>(show((.tuple [(.ptr none),(i6<|.ofNat 1)]):AV)= .tuple [.ptr none,.int .i64 1] from rfl)) fun _=>(ax (st>(m:Int)) (fun _=>(show((.tuple [(.ptr none),(i6<|.ofNat 1)]):AV)= .tuple [.ptr none,.int .i64 1] from rfl)) fun _=>(ax (dL<0) (fun _=>(show((.tuple [(.ptr none),(i6<|.ofNat 1)]):AV)= .tuple [.ptr none,.int .i64 1] from rfl)) fun _=>(ax (dL>1099511627776) (fun _=>(show((.tuple [(.ptr none),(i6<|.ofNat 1)]):AV)= .tuple [.ptr none,.int .i64 1] from rfl)) bh)))))
noncomputable abbrev Db(S:Nat)(dL:Int)(init:List Int):List<|Nat×Option ae:=ar++[(270,some<|.cells 4 (Tr.fill [(.slice (some (271,0)) (S)<|.known S),i0,(i6 dL),(.slice (some (272,0)) (init.length)<|.ak init.length 1)] 0 .nil) []),(271,some<|aN nB<|List.replicate S (⟨-1,0⟩:Lk)),(272,some<|aN bS init)]
theorem ab8(mc:Mt [] B)(dz:kf (⟨(List.replicate S (⟨-1,0⟩:Lk)),0,dL,init⟩:cr)):au pg B 270 (iW XT pg (az Tryz.f6) 2 (.tuple [.ptr<|some (270,0),.int .i64 0])<|aC (⟨(List.replicate S (⟨-1,0⟩:Lk)),0,dL,init⟩:cr)) (⟨6,aS [(6,(.ptr<|some (270,0))),(7,i0)],44,(dF 6 [1,1,1]),[],none⟩:AF)<|aq (Db S dL init) 273:=by exact wS mc (.rt 1 .no)<|ia (a:=(⟨(List.replicate S (⟨-1,0⟩:Lk)),0,dL,init⟩:cr)) (nl:=S) (nv:=init.length) (.known S) (.ak init.length 1) dz (by rw[List.length_replicate]) rfl (show((.tuple [(.ptr<|some (270,0)),i0]):AV)= .tuple [.ptr<|some (270,0),.int .i64 0] from rfl) rfl 273
noncomputable abbrev Ob(S:Nat)(init:List Int)(dL:Int):List<|Nat×Option ae:=ar++[(271,(some<|AG S)),(273,(some<|aN bS init)),(274,some<|.cells 4 (Tr.fill [(.slice (some (271,0)) (S)<|.known S),i0,(i6 dL),(.slice (some (273,0)) (init.length)<|.ak init.length 1)] 0 .nil) [])]
theorem adO{m:Nat}(hS:1<=S/\S<=32)(hl:init.length<=32)(hSm:S<=m+1)(ame:0<=dL/\dL<=1099511627776)(hn:top<=N)(hf:top<=N/\cX FU N o ((m+1)*1)=some (init.map bS).flatten/\m+1=init.length)(mc:Mt [] B)(dz:kf (⟨(List.replicate S (⟨-1,0⟩:Lk)),0,dL,init⟩:cr)):au pg B 270 (iW XT pg (az Tryz.f6) 2 (.tuple [.ptr<|some (270,0),.int .i64 0])<|aC (⟨(List.replicate S (⟨-1,0⟩:Lk)),0,dL,init⟩:cr)) (sF 6 Tryz.f6 [(.U N o<|m+1),(i6<|(S:Int)),(i6 dL)])<|aq ar 270:=by exact wC mc (C:=(fun fr s1 _=>fr=(⟨6,aS [(6,(.ptr<|some (270,0))),(7,i0)],44,(dF 6 [1,1,1]),[],none⟩:AF)/\s1=(aq (Db S dL init) 273))) (fun fr s1 p hC=>by obtain⟨rfl,rfl⟩:=hC;exact ab8 mc dz) (.st 4<|.rg<|.go 2<|.fk (.no)<|.go 3<|.fk (.no)<|.go 3<|.fk (.no)<|.go 5<|.fk (.no)<|.go 3<|.fk (.no)<|.go 3<|.fk (.no)<|.go 1<|.en<|.st 3<|.rg<|.go 3<|.cu (.slice (some (271,0)) (S)<|.known S) (WM S)<|.go 3<|.il<|.st 8<|.rg<|.go 2<|.al Int bS [] init<|.go 1<|.en<|.rt 1<|.go 4<|.en<|.rn [(6,(.ptr<|some (274,0))),(7,i0)] (Ob S init dL) [(6,(.ptr<|some (270,0))),(7,i0)] (Db S dL init) 275 273 .no)<|ax ((((m+1):Nat):Int)<1) bh fun _=>(ax ((((m+1):Nat):Int)>32) bh fun _=>(ax ((S:Int)<1) bh fun _=>(ax ((S:Int)>(((m+1):Nat):Int)) bh fun _=>(ax (dL<0) bh fun _=>(ax (dL>1099511627776) bh fun _=>(ai (ab6 hS)<|K0 bS [] init (K:=1) (pM:=8) hf (fun x=>⟨rfl,rfl⟩) Pt Pu<|ai (mS [(6,(.ptr<|some (274,0))),(7,i0)])<|ai (mO<|Ob S init dL)<|ai (show jF FU 270 275 [(6,(.ptr<|some (274,0))),(7,i0)] (Ob S init dL) [(6,(.ptr<|some (270,0))),(7,i0)] (Db S dL init) 273 from Bv (ps:=[(270,274),(271,271),(272,273)]) (lo:=270) (bQ:=275) ab ct ct (fun r hr ht=>⟨⟨by unfold top;omega,_,(mi 0),((bR.ptr<|rq hr)).z⟩,⟨⟨by unfold top;omega,_,(mi 1),vi⟩,trivial⟩⟩) fun r hr ht=>⟨kP (mi 2) (rq hr) qX<|Jl (l:=[(.slice (some (271,0)) (S)<|.known S),i0,(i6 dL),(.slice (some (273,0)) (init.length)<|.ak init.length 1)]) (m:=[(.slice (some (271,0)) (S)<|.known S),i0,(i6 dL),(.slice (some (272,0)) (init.length)<|.ak init.length 1)]) ⟨((bR.slice<|rq hr)).z,⟨vi,⟨vi,⟨((bR.slice<|rq hr)).z,trivial⟩⟩⟩⟩,⟨kP (mi 0) (rq hr) qX<|adM ht hS.2,⟨kP (mi 1) (rq hr) (iv.refl _)<|ab7 ht hl,trivial⟩⟩⟩) (show(⟨6,aS [(6,(.ptr<|some (270,0))),(7,i0)],44,(dF 6 [1,1,1]),[],none⟩:AF)=(⟨6,aS [(6,(.ptr<|some (270,0))),(7,i0)],44,(dF 6 [1,1,1]),[],none⟩:AF)/\(aq (Db S dL init) 273)=(aq (Db S dL init) 273) from⟨rfl,rfl⟩)))))))
end
end WK
end
section
open Go Go.Rn Go.RowKit Go.Proofs
namespace gh
open cq eX gw gU WH kF tP
variable {v x:Int} {r:Nat->Nat} {g nt i:Nat} {w2 w1:AV} {p:Option Code} {o0:List<|Nat×Option ae} {j8:bz} {nR:cL}
noncomputable section
section
variable {B:aJ} {ms:bz} {cap:cL}
theorem gy{l:bz}(h:1<=l.length/\l.length<=6):(∃m0,l=[m0])\/(∃m0 m1,l=[m0,m1])\/(∃m0 m1 m2,l=[m0,m1,m2])\/(∃m0 m1 m2 m3,l=[m0,m1,m2,m3])\/(∃m0 m1 m2 m3 m4,l=[m0,m1,m2,m3,m4])\/∃m0 m1 m2 m3 m4 m5,l=[m0,m1,m2,m3,m4,m5]:=by
 match l,h with
 |[a],_=>exact .inl ⟨_,rfl⟩
 |[a,b],_=>exact .inr<|.inl ⟨_,_,rfl⟩
 |[a,b,c],_=>exact .inr<|.inr<|.inl ⟨_,_,_,rfl⟩
 |[a,b,c,d],_=>exact .inr<|.inr<|.inr<|.inl ⟨_,_,_,_,rfl⟩
 |[a,b,c,d,e],_=>exact .inr<|.inr<|.inr<|.inr<|.inl ⟨_,_,_,_,_,rfl⟩
 |[a,b,c,d,e,f],_=>exact .inr<|.inr<|.inr<|.inr<|.inr ⟨_,_,_,_,_,_,rfl⟩
 |[],h=>simp at h
 |_::_::_::_::_::_::_::_,h=>simp at h
theorem VZ{l:bz}(h:1<=l.length/\l.length<=7):l.length<=6\/∃m0 m1 m2 m3 m4 m5 m6,l=[m0,m1,m2,m3,m4,m5,m6]:=by
 match l,h with
 |[a,b,c,d,e,f,g],_=>exact .inr ⟨_,_,_,_,_,_,_,rfl⟩
 |[],_|[_],_|[_,_],_|[_,_,_],_|[_,_,_,_],_|[_,_,_,_,_],_|[_,_,_,_,_,_],_=>exact .inl (by simp)
 |_::_::_::_::_::_::_::_::l,h=>simp only[List.length_cons] at h;omega
theorem adP(h:fe ms){nx:Nat}:∀m p,(m,p)∈gC ms cap->(aq (ar++bu (gC ms cap)) nx).h.get m=some p:=fun m p hm=>by
 rcases(VZ h.1).imp (fun q=>gy ⟨h.1.1,q⟩) id with(⟨m0,rfl⟩|⟨m0,m1,rfl⟩|⟨m0,m1,m2,rfl⟩|⟨m0,m1,m2,m3,rfl⟩|⟨m0,m1,m2,m3,m4,rfl⟩|⟨m0,m1,m2,m3,m4,m5,rfl⟩)|⟨m0,m1,m2,m3,m4,m5,m6,rfl⟩
 all_goals
  simp only[gC,qm,List.mem_cons,List.not_mem_nil,or_false] at hm
  repeat' (rcases hm with hm|hm)
  all_goals kernel_rfl
theorem PE(nx:Nat)(h:fe ms)(hc:tN ms.length cap)(y:AV):px 3 y (bW ms) (aq (ar++bu (gC ms cap)) nx) y:=⟨rfl,_,.buf _ h cap hc,adP h⟩
def ml:bz->Int->Int->bz
 |[],_,_=>[]
 |[m],v,x=>[gA m v x]
 |m::m'::l,v,x=>m::ml (m'::l) v x
def gQ:bz->bz
 |[]=>[]
 |[m]=>[m]
 |[m,m']=>[jf m m']
 |m::m'::Ha::l=>m::gQ (m'::Ha::l)
def xu:bz->List (Int×Int)
 |[]=>[]
 |[m]=>m
 |_::l=>xu l
def gB(ms:bz)(v:Int):Nat->Option Int
 |0=>none
 |n+1=>if lA (ms.getD n []) v=true then some (getM (ms.getD n []) v) else gB ms v n
def kG(ms:bz)(v:Int):Int×Bool:=((gB ms v ms.length).getD 0,(gB ms v ms.length).isSome)
theorem adQ{l:bz}{m:List<|Int×Int}(h:fe<|l++[m]):fe<|l++[gA m v x]:=by
 obtain⟨h1,h2⟩:=h;rw[List.length_append] at h1;refine⟨by rw[List.length_append];exact h1,fun q hq=>?_⟩;rcases List.mem_append.1 hq with hq|hq
 ·exact h2 q<|List.mem_append_left _ hq
 ·rw[List.mem_singleton] at hq;subst hq;exact fS.set (h2 m<|List.mem_append_right _<|List.mem_singleton.2 rfl) v x
theorem R2{l:bz}{m:List<|Int×Int}:ml (l++[m]) v x=l++[gA m v x]:=by
 induction l with
 |nil=>rfl
 |cons y l ih=>
  cases l with
  |nil=>rfl
  |cons z l=>show y::ml (z::(l++[m])) v x=_;rw[show(z::(l++[m]):bz)=(z::l)++[m] from rfl,ih];rfl
theorem MB{b:bz}(h:fe b)(v x:Int):fe<|ml b v x:=by
 have cn:b≠[]:=fun e=>by have:=h.1.1;rw[e] at this;simp only[List.length_nil] at this;omega
 rw[←List.dropLast_concat_getLast cn] at h ⊢;rw[R2];exact adQ h
theorem HB:∀(b:bz) (v x:Int),(ml b v x).length=b.length
 |[],_,_|[_],_,_=>rfl
 |m::m'::l,v,x=>congrArg (· +1)<|HB (m'::l) v x
theorem NJ(h:fe ms)(h6:ms.length<7):fe<|ms++[[]]:=by
 refine⟨by rw[List.length_append];show 1<=ms.length+1/\ms.length+1<=7;omega,fun m hm=>?_⟩;rcases List.mem_append.1 hm with hm|hm
 ·exact h.2 m hm
 ·rw[List.mem_singleton] at hm;subst hm;exact List.nodup_nil
theorem NK(h:fe ms)(h2:2<=ms.length):fe ms.dropLast:=by refine⟨by rw[List.length_dropLast];have:=h.1.2;omega,fun m hm=>h.2 m<|List.dropLast_subset _ hm⟩
theorem Ho:∀ms:bz,2<=ms.length->(gQ ms).length+1=ms.length
 |[],h=>by simp at h
 |[_],h=>by simp at h
 |[_,_],_=>rfl
 |m::m'::Ha::l,_=>by have:=Ho (m'::Ha::l) (by simp);show(gQ<|m'::Ha::l).length+1+1=(m'::Ha::l).length+1;rw[this]
theorem QY:∀ms:bz,(∀m∈ms,fS m)->∀m∈gQ ms,fS m
 |[],h,m,hm=>by cases hm
 |[a],h,m,hm=>h m hm
 |[a,b],h,m,hm=>by rw[show gQ [a,b]=[jf a b] from rfl,List.mem_singleton] at hm;subst hm;exact fS.merge (h a<|by simp)
 |a::b::c::l,h,m,hm=>by
  have hm:m∈a::gQ (b::c::l):=hm;rcases List.mem_cons.1 hm with rfl|hm
  ·exact h _ (by simp)
  ·exact QY (b::c::l) (fun q hq=>h q<|List.mem_cons_of_mem _ hq) m hm
theorem Ih(h:fe ms)(h2:2<=ms.length):fe<|gQ ms:=⟨by have:=Ho ms h2;have:=h.1.2;omega,QY ms h.2⟩
theorem ab9(h:fe ms):∀p∈gC ms cap,p.1<279:=fun p hp=>by
 have h6:=h.1.2;rcases List.mem_cons.1 hp with rfl|hp
 ·show 270<279;omega
 rcases List.mem_cons.1 hp with rfl|hp
 ·show 271<279;omega
 ·have:=(Ms hp).2.1;omega
abbrev SB(B:aJ)(g nt:Nat)(rs:List ResultVar)(args:List AV)(ms:bz)(cap:cL)(y:AV)(j8:bz):Prop:=au pg B 271 (iW XT pg rs 3 y<|bW j8) ⟨g,eh<|.ptr (some (270,0))::args,nt,[.code<|a9 pg g []],[],none⟩<|aq (ar++bu (gC ms cap)) 279
theorem aiO(mc:Mt [] B)(h:fe ms)(hc:tN ms.length cap)(k:((some (bG<|xu ms)=some (bG<|xu ms))/\px 3 (.int .i64 0) (bW<|ml ms v x) (aq (ar++bu (gC (ml ms v x) cap)) 279) (.int .i64 0))=wp (yj []) 900 6 (.fr 85 (max Tryz.f85.ntmps 3) (dF 85 []) (eh [.ptr<|some (270,0),.int .i64 v,.int .i64 x])<|aq (ar++bu (gC ms cap)) 279) (.st 8<|.rg<|.go 14<|.KK (xu ms)<|.en<|.rt 3 .no) (az Tryz.f85) (fun y s _=>px 3 (.int .i64 0) (bW<|ml ms v x) s y) (fun _ _ _=>False):=by as_aux_lemma=>kernel_rfl):
 SB B 85 (max Tryz.f85.ntmps 3) (az Tryz.f85) [.int .i64 v,.int .i64 x] ms cap (.int .i64 0) (ml ms v x):=
 nY mc _ ⟨rfl,PE 279 (MB h v x) (by rw[HB];exact hc)<|.int .i64 0⟩ k cN
theorem aca(mc:Mt [] B)(h:fe ms)(hc:tN ms.length cap)(h6:ms.length<=6):SB B 85 (max Tryz.f85.ntmps 3) (az Tryz.f85) [.int .i64 v,.int .i64 x] ms cap (.int .i64 0)<|ml ms v x:=by rcases gy ⟨h.1.1,h6⟩ with⟨m0,rfl⟩|⟨m0,m1,rfl⟩|⟨m0,m1,m2,rfl⟩|⟨m0,m1,m2,m3,rfl⟩|⟨m0,m1,m2,m3,m4,rfl⟩|⟨m0,m1,m2,m3,m4,m5,rfl⟩<;>exact aiO mc h hc
abbrev KA(L:bY)(g:Nat)(f:Func)(ms:bz)(cap:cL)(path:List Nat)(j8:bz)(nR:cL)(p:Pl):Prop:=wp (yj L) 900 6 (.fr g (max f.ntmps 1) [.code<|a9 pg g []] (eh [.ptr<|some (270,0)])<|aq (ar++bu (gC ms cap)) 279) p f.results.toList (fun y s _=>px 3 (.int .i64 0) (bW j8) s y) fun fr s1 _=>fr=⟨g,aS [(2,i0)],max f.ntmps 1,[.code<|a9 pg g path],[],none⟩/\s1=aq (ar++bu (gC j8 nR)) 279
abbrev K4(j8:bz)(nR:cL):Prop:=px 3 (.int .i64 0) (bW j8) (aq (ar++bu (gC j8 nR)) 279)<|.int .i64 0
abbrev KB(L:bY)(g:Nat)(f:Func)(path:List Nat)(j8:bz)(nR:cL):Prop:=wp (yj L) 900 6 (.fr g (max f.ntmps 1) [.code<|a9 pg g path] (aS [(2,i0)])<|aq (ar++bu (gC j8 nR)) 279) (.rt 1 .no) f.results.toList (fun y s _=>px 3 (.int .i64 0) (bW j8) s y) fun _ _ _=>False
theorem Oc{L:bY}{f:Func}(path:List Nat)(mc:Mt L B)(h':fe j8)(Qw:tN j8.length nR)(p:Pl){T:Prop}(x:T)(k:T=KA L g f ms cap path j8 nR p:=by as_aux_lemma=>kernel_rfl)(k2:K4 j8 nR=KB L g f path j8 nR:=by as_aux_lemma=>kernel_rfl):
 SB B g (max f.ntmps 1) f.results.toList [] ms cap (.int .i64 0) j8:=
 Qk mc (fun fr s1 _ hC=>by obtain⟨rfl,rfl⟩:=hC;exact nY mc _ (PE 279 h' Qw _) k2 cN) p x k cN
abbrev Hb(bQ:Nat)(o0:List<|Nat×Option ae)(j8:bz)(nR:cL)(g nt:Nat)(path:List Nat):Prop:=XJ 271 bQ 279 [(2,i0)] o0 [(2,i0)] (bu<|gC j8 nR) ⟨g,aS [(2,i0)],nt,[.code<|a9 pg g path],[],none⟩<|aq (ar++bu (gC j8 nR)) 279
theorem WN{ps:List<|Nat×Nat}{bQ:Nat}{path:List Nat}(h:∀r,r=l7 ps 271 bQ->Ac r o0 (bu<|gC j8 nR))(h1:wc ps 271 bQ 279 ((bu<|gC j8 nR).map (·.1))=true:=by as_aux_lemma=>kernel_rfl)(h2:Km ps=true:=by as_aux_lemma=>kernel_rfl):Hb bQ o0 j8 nR g nt path:=⟨rfl,rfl,Bv (ps:=ps) ab h1 h2 (fun r hr ht=>⟨⟨by unfold top;omega,_,mi 0,vi⟩,trivial⟩) fun r hr _=>h r hr,rfl,rfl⟩
def EB(n:Nat):List<|Nat×Nat:=(271,281)::(272+n,279)::(List.range n).map fun i=>(272+i,272+i)
def Qx(ms:bz):List<|Nat×Option ae:=(270,some<|aN kg [.slice (some (281,0)) (ms.length+1)<|.ak (ms.length+1) 1])::(281,some<|aN kg<|mq ms.length++[.map<|some 279])::(279,some<|Gf [])::bu (qm 272 ms)
theorem Jm(l:List AV):(l.map kg).flatten=l:=DA l
theorem Gz{l m:List AV}(h:mG [] r l m)(hl:l.length<=8)(h1:m.all AV.cj=true):iE [] r (aN kg l)<|aN kg m:=by show iE [] r (.cells (l.map kg).flatten.length (Tr.fill (l.map kg).flatten 0 .nil) [])<|.cells (m.map kg).flatten.length (Tr.fill (m.map kg).flatten 0 .nil) [];rw[Jm,Jm];exact iE.cells iy h h1
theorem TF(n:Nat):(mq n).all AV.cj=true:=by rw[mq,List.all_map,List.all_eq_true];exact fun _ _=>rfl
theorem TG(n:Nat):(mq n).length=n:=by rw[mq,List.length_map,List.length_range]
theorem XP{m:Nat}{l:List<|Int×Int}(q:r m=m)(hm:(m,some<|bG l)∈o0:=by repeat first|exact List.mem_cons_self|apply List.mem_cons_of_mem):∀z,some (bG l)=some z->z.o5=true/\∃x,(r m,some x)∈o0/\iv x z/\iE [] r x z:=kP hm q ahb aiL
theorem ahg(mc:Mt [] B)(h:fe<|ms++[[]])(w1:∀r,r=l7 (EB ms.length) 271 282->mG [] r (mq ms.length++[.map<|some 279]) (mq (ms++[[]]).length))(w2:∀r,r=l7 (EB ms.length) 271 282->Ac r (Qx ms) (bu<|qm 272<|ms++[[]]))(k:Hb 282 (Qx ms) (ms++[[]]) (.ak (ms.length+1) 1) 87 (max Tryz.f87.ntmps 1) [1,1,1,1]=KA [] 87 Tryz.f87 ms cap [1,1,1,1] (ms++[[]]) (.ak (ms.length+1) 1) (.st 11<|.rn [(2,i0)] (ar++Qx ms) [(2,i0)] (ar++bu (gC (ms++[[]])<|.ak (ms.length+1) 1)) 282 279 .no):=by as_aux_lemma=>kernel_rfl)(h1:wc (EB ms.length) 271 282 279 ((bu<|gC (ms++[[]])<|.ak (ms.length+1) 1).map (·.1))=true:=by as_aux_lemma=>kernel_rfl)(h2:Km (EB ms.length)=true:=by as_aux_lemma=>kernel_rfl)(q0:l7 (EB ms.length) 271 282 270=270:=by as_aux_lemma=>kernel_rfl)(q1:l7 (EB ms.length) 271 282 271=281:=by as_aux_lemma=>kernel_rfl)(k2:K4 (ms++[[]]) (.ak (ms.length+1) 1)=KB [] 87 Tryz.f87 [1,1,1,1] (ms++[[]]) (.ak (ms.length+1) 1):=by as_aux_lemma=>kernel_rfl):
 SB B 87 (max Tryz.f87.ntmps 1) (az Tryz.f87) [] ms cap (.int .i64 0) (ms++[[]]):=by
 have hl:(ms++[[]]).length=ms.length+1:=by rw[List.length_append];rfl
 have h7:=h.1.2;refine Oc [1,1,1,1] mc h (.inl<|by rw[hl]) _ (WN (fun r hr=>⟨kP (mi 0) (rq hr q0) qX<|Gz (l:=[.slice (some (281,0)) (ms.length+1)<|.ak (ms.length+1) 1]) ⟨?_,trivial⟩ (by simp) rfl,kP (mi 1) (rq hr q1) qX<|Gz (w1 r hr) ?_<|TF _,w2 r hr⟩) h1 h2) k k2
 ·rw[hl];exact(bR.slice<|rq hr q1).z
 ·rw[List.length_append,TG];show ms.length+1<=8;omega
theorem aaT(mc:Mt [] B)(h:fe ms)(hc:tN ms.length cap)(h6:ms.length<=6):SB B 87 (max Tryz.f87.ntmps 1) (az Tryz.f87) [] ms cap (.int .i64 0)<|ms++[[]]:=by
  have h2:=NJ h ab
  rcases gy ⟨h.1.1,h6⟩ with⟨m0,rfl⟩|⟨m0,m1,rfl⟩|⟨m0,m1,m2,rfl⟩|⟨m0,m1,m2,m3,rfl⟩|⟨m0,m1,m2,m3,m4,rfl⟩|⟨m0,m1,m2,m3,m4,m5,rfl⟩
  all_goals rcases hc with rfl|⟨e,rfl⟩
  all_goals first
    |(cases e;done)
    | (refine ahg mc h2 (fun r hr=>?_) fun r hr=>?_
       · repeat' first|exact trivial|refine⟨(bR.map<|rq hr).z,?_⟩
       · repeat' first|exact trivial|refine⟨kP (n:=279) (mi 2) (rq hr) Vl<|VX List.nodup_nil,?_⟩|refine⟨XP<|rq hr,?_⟩)
theorem TH{α:Type}{f g:α->AV}:∀{l:List α},(∀i∈l,qk [] r (f i)<|g i)->mG [] r (l.map f) (l.map g)
 |[],_=>trivial
 |_::_,h=>⟨h _ List.mem_cons_self,TH fun i hi=>h i<|List.mem_cons_of_mem _ hi⟩
theorem WO{r:Nat->Nat}{o0:List<|Nat×Option ae}:∀{ms:bz} {k:Nat},(∀p∈qm k ms,(p.1,some p.2)∈o0)->(∀i,i<ms.length->r (k+i)=k+i)->Ac r o0 (bu<|qm k ms)
 |[],_,_,_=>trivial
 |m::ms,k,h,q=>⟨XP (m:=k) (q 0<|Nat.succ_pos _)<|h _ List.mem_cons_self,WO (fun p hp=>h p<|List.mem_cons_of_mem _ hp) fun i hi=>by have:=q (i+1)<|Nat.succ_lt_succ hi;rwa[show k+1+i=k+(i+1) by omega]⟩
theorem TI:∀{l:List<|Nat×ae} {p:Nat×ae},p∈l->(p.1,some p.2)∈bu l
 |_::l,p,h=>by
  rcases List.mem_cons.1 h with rfl|h
  ·exact List.mem_cons_self
  ·exact List.mem_cons_of_mem _<|TI h
def K5:List<|Nat×Nat:=[(271,271),(272,272),(273,273),(274,274),(275,275),(276,276),(277,277)]
theorem V4(hr:r=l7 K5 271 279)(i:Nat)(h:i<6):r (272+i)=272+i:=by rcases(by omega:i=0\/i=1\/i=2\/i=3\/i=4\/i=5) with rfl|rfl|rfl|rfl|rfl|rfl<;>exact rq hr
def Hc(ms:bz):List<|Nat×Option ae:=(270,some<|aN kg [.slice (some (271,0)) ms.length<|.ak (ms.length+1) 1])::(271,some<|aN kg<|mq<|ms.length+1)::bu (qm 272 ms)
theorem UD{path:List Nat}(h:fe ms)(h6:ms.length<=6)(h1:wc K5 271 279 279 ((bu<|gC ms<|.ak ms.length 1).map (·.1))=true:=by as_aux_lemma=>kernel_rfl):Hb 279 (Hc ms) ms (.ak ms.length 1) g nt path:=by refine WN (fun r hr=>⟨kP (mi 0) (rq hr) qX<|Gz (l:=[.slice (some (271,0)) ms.length<|.ak (ms.length+1) 1]) ⟨(adJ (rq hr) ab ab).z,trivial⟩ (by simp) rfl,kP (mi 1) (rq hr) qX ?_,WO (fun p hp=>List.mem_cons_of_mem _<|List.mem_cons_of_mem _<|TI hp) fun i hi=>V4 hr i ab⟩) h1;show iE [] r (.cells ((mq<|ms.length+1).map kg).flatten.length (Tr.fill ((mq<|ms.length+1).map kg).flatten 0 .nil) [])<|.cells ((mq ms.length).map kg).flatten.length (Tr.fill ((mq ms.length).map kg).flatten 0 .nil) [];rw[Jm,Jm,show mq (ms.length+1)=mq ms.length++[.map<|some<|272+ms.length] by rw[mq,List.range_succ,List.map_append];rfl];exact SV (by rw[List.length_append,TG];show ms.length+1<=top;unfold top;omega) (TH fun i hi=>(bR.map<|V4 hr i (by have:=List.mem_range.1 hi;omega)).z)<|TF _
theorem ahh(mc:Mt [] B)(h:fe ms.dropLast)(h6:ms.dropLast.length<=6)(h1:wc K5 271 279 279 ((bu<|gC ms.dropLast<|.ak ms.dropLast.length 1).map (·.1))=true:=by as_aux_lemma=>kernel_rfl)(k:Hb 279 (Hc ms.dropLast) ms.dropLast (.ak ms.dropLast.length 1) 86 (max Tryz.f86.ntmps 1) [1,1,1]=KA [] 86 Tryz.f86 ms cap [1,1,1] ms.dropLast (.ak ms.dropLast.length 1) (.st 3<|.rg<|.go 1<|.il<|.rt 19<|.go 5<|.en<|.st 2<|.rn [(2,i0)] (ar++Hc ms.dropLast) [(2,i0)] (ar++bu (gC ms.dropLast<|.ak ms.dropLast.length 1)) 279 279 .no):=by as_aux_lemma=>kernel_rfl)(k2:K4 ms.dropLast (.ak ms.dropLast.length 1)=KB [] 86 Tryz.f86 [1,1,1] ms.dropLast (.ak ms.dropLast.length 1):=by as_aux_lemma=>kernel_rfl):
 SB B 86 (max Tryz.f86.ntmps 1) (az Tryz.f86) [] ms cap (.int .i64 0) ms.dropLast:=
 Oc [1,1,1] mc h (.inl rfl) _ (UD h h6 h1) k k2
theorem aaU(mc:Mt [] B)(h:fe ms)(hc:tN ms.length cap)(h2:2<=ms.length)(h6:ms.length<=6):SB B 86 (max Tryz.f86.ntmps 1) (az Tryz.f86) [] ms cap (.int .i64 0) ms.dropLast:=by
 have q:=NK h h2;have q6:ms.dropLast.length<=6:=by rw[List.length_dropLast];omega
 rcases hc with rfl|⟨e,_⟩
 rotate_left
 ·omega
 rcases gy ⟨h.1.1,h6⟩ with⟨m0,rfl⟩|⟨m0,m1,rfl⟩|⟨m0,m1,m2,rfl⟩|⟨m0,m1,m2,m3,rfl⟩|⟨m0,m1,m2,m3,m4,rfl⟩|⟨m0,m1,m2,m3,m4,m5,rfl⟩
 ·simp at h2
 all_goals exact ahh mc q q6
def mcS(a b:Nat)(m1 m2:List<|Int×Int)(s:AS):AS:=fE b (some<|bG m2)<|fE a (some<|bG<|jf m1 m2)<|aY b<|aY a<|dP 270 dV eK s
def Cm(ms:bz):AS:=⟨gf<|ar++(270,some<|aN kg [.slice (some (271,0)) (ms.length - 1)<|.ak ms.length 1])::(271,some<|aN kg<|mq ms.length)::bu (qm 272 ms),279,279,[],[]⟩
abbrev XQ(ms:bz):AS:=mcS (272+(ms.length - 2)) (272+(ms.length - 1)) (xu ms.dropLast) (xu ms)<|Cm ms
theorem MC:∀{ms:bz},(∀m∈ms,fS m)->fS (xu ms)
 |[],_=>List.nodup_nil
 |[m],h=>h m List.mem_cons_self
 |_::m::l,h=>MC (ms:=m::l) fun q hq=>h q<|List.mem_cons_of_mem _ hq
theorem afy(mc:Mt [Ck] B)(h0:fe ms)(hn:2<=ms.length)(h:fe<|gQ ms)(h6:(gQ ms).length<=6)(h1:wc K5 271 279 279 ((bu<|gC (gQ ms)<|.ak (gQ ms).length 1).map (·.1))=true:=by as_aux_lemma=>kernel_rfl)(hk:qB 270 dV eK (Cm ms)=true:=by as_aux_lemma=>kernel_rfl)(ha:Nat.blt (272+(ms.length - 2)) (dP 270 dV eK<|Cm ms).nx=true:=by as_aux_lemma=>kernel_rfl)(hb:Nat.blt (272+(ms.length - 1)) (dP 270 dV eK<|Cm ms).nx=true:=by as_aux_lemma=>kernel_rfl)(g1:(dP 270 dV eK<|Cm ms).h.get (272+(ms.length - 2))=some (bG<|xu ms.dropLast):=by as_aux_lemma=>kernel_rfl)(g2:(dP 270 dV eK<|Cm ms).h.get (272+(ms.length - 1))=some (bG<|xu ms):=by as_aux_lemma=>kernel_rfl)(k:(bg pg (sp [Ck]) FU 6 (.fn 96) [.map<|some<|272+(ms.length - 2),.map<|some<|272+(ms.length - 1)] (Cm ms)= .ok (.tuple []) (XQ ms)/\Hb 279 (Hc<|gQ ms) (gQ ms) (.ak (gQ ms).length 1) 83 (max Tryz.f83.ntmps 1) [1,1,1,1])=KA [Ck] 83 Tryz.f83 ms cap [1,1,1,1] (gQ ms) (.ak (gQ ms).length 1) (.st 3<|.rg<|.go 1<|.il<|.rt 19<|.go 5<|.en<|.st 4<|.rg<|.go 13<|.cu (.tuple []) (XQ ms)<|.en<|.st 2<|.rn [(2,i0)] (ar++Hc (gQ ms)) [(2,i0)] (ar++bu (gC (gQ ms)<|.ak (gQ ms).length 1)) 279 279 .no):=by as_aux_lemma=>kernel_rfl)(k2:K4 (gQ ms) (.ak (gQ ms).length 1)=KB [Ck] 83 Tryz.f83 [1,1,1,1] (gQ ms) (.ak (gQ ms).length 1):=by as_aux_lemma=>kernel_rfl):
 SB B 83 (max Tryz.f83.ntmps 1) (az Tryz.f83) [] ms cap (.int .i64 0) (gQ ms):=
 have h7:=h0.1.2
 Oc [1,1,1,1] mc h (.inl rfl) _ ⟨ac6 (P:=pg) (sp:=sp [Ck]) aW hk ab ha hb (by rw[blt_eq];unfold top;omega) (by rw[blt_eq];unfold top;omega) g1 g2 (MC fun m hm=>h0.2 m<|List.dropLast_subset _ hm)<|MC h0.2,UD h h6 h1⟩ k k2
theorem LR(mc:Mt [Ck] B)(h:fe ms)(hc:tN ms.length cap)(h2:2<=ms.length):SB B 83 (max Tryz.f83.ntmps 1) (az Tryz.f83) [] ms cap (.int .i64 0)<|gQ ms:=by
 have q:=Ih h h2;have q6:(gQ ms).length<=6:=by have:=Ho ms h2;have:=h.1.2;omega
 rcases hc with rfl|⟨e,_⟩
 rotate_left
 ·omega
 rcases(VZ h.1).imp (fun q=>gy ⟨h.1.1,q⟩) id with(⟨m0,rfl⟩|⟨m0,m1,rfl⟩|⟨m0,m1,m2,rfl⟩|⟨m0,m1,m2,m3,rfl⟩|⟨m0,m1,m2,m3,m4,rfl⟩|⟨m0,m1,m2,m3,m4,m5,rfl⟩)|⟨m0,m1,m2,m3,m4,m5,m6,rfl⟩
 ·simp at h2
 all_goals exact afy mc h h2 q q6
def Hd:Code:=a9 pg 54 [1,1,0,1,0,0]
def Cn:Code:=a9 pg 54 [1,1,0,1,0,1]
def sg:List<|Nat×AV:=[(3,(.ptr<|some (279,0))),(4,(.ptr<|some (280,0))),(5,(.ptr<|some (281,0))),(12,(.func (.func 92) [] [(.ptr<|some (282,0))]))]
def oG(n:Nat)(cap:cL)(x:Nat->Option ae)(v:Int)(w1 w2:AV):List<|Nat×Option ae:=ar++[(270,some<|Wz n cap),(271,some<|aN kg<|mq n),(272,x 0),(273,x 1),(274,x 2),(275,x 3),(276,x 4),(277,x 5),(279,some<|eL<|.int .i64 v),(280,some<|eL w1),(281,some<|eL w2),(282,some<|.cells 1 (Tr.fill [.ptr<|some (270,0)] 0 .nil) [])]
def sG(n:Nat)(cap:cL)(x:Nat->Option ae)(v:Int)(w1 w2:AV)(st:LoopState)(p:Option Code):AS:=aq (oG n cap x v w1 w2++[(283,some .defs),(284,some<|.loop st p 54 (aS sg) 22 [13] Hd Cn 283)]) 285
abbrev qO(n:Nat)(cap:cL)(x:Nat->Option ae)(v:Int):AS:=sG n cap x v (.int .i64 0) (.bool false) .ready none
def oT(n:Nat)(cap:cL)(x:Nat->Option ae)(v:Int):Option Int->AS
 |none=>qO n cap x v
 |some z=>sG n cap x v (.int .i64 z) (.bool true) .done<|some .ret
def oI(b:Bool)(z:Int):Option Int:=match b with
 |true=>some z
 |false=>none
def bP(b:Bool)(p q:Prop):Prop:=match b with
 |true=>p
 |false=>q
theorem rgT{A L:Prop}{m:List<|Int×Int}(b:Bool)(a:A)(hh:lA m v=b)(l:L):A/\((lA m v=true->bP b L False)/\(lA m v=false->bP b False L)):=by subst hh;refine⟨a,fun h=>?_,fun h=>?_⟩<;>(rw[h];exact l)
abbrev yk(n:Nat)(cap:cL)(x:Nat->Option ae)(v:Int)(i:Nat)(s:AS)(y:AV):Prop:=bg pg (sp []) FU 5 (.round 284) [.map<|some<|272+i] (qO n cap x v)= .ok y s
theorem rgW{n:Nat}{cap:cL}{x:Nat->Option ae}{m:List<|Int×Int}(b:Bool)(hx:x i=some (bG m))(hh:lA m v=b)(k1:getLoop 284 (qO n cap x v)= .ok (.loop .ready none 54 (aS sg) 22 [13] Hd Cn 283) (qO n cap x v):=by as_aux_lemma=>kernel_rfl)(k2:dW pg (bg pg (sp []) FU 4) 2 ⟨54,jB [13] [.map<|some<|272+i]<|aS sg,22,[.code Hd,.beginRound,.code Cn],[],some 284⟩ (qO n cap x v)= .ok (.go ⟨54,((jB [13] [.map<|some<|272+i]<|aS sg).put 6<|some<|.map<|some<|272+i),22,[.code Cn],[],some 284⟩) (sG n cap x v (.int .i64 0) (.bool false) .busy none):=by as_aux_lemma=>kernel_rfl)(k:((x i=some (bG m))/\((lA m v=true->bP b ((none:Option Nat)=none/\([]:List Nat)=[]/\(some (.bool !b,oT n cap x v<|oI b<|getM m v):Option<|AV×AS)=some (.bool !b,oT n cap x v<|oI b<|getM m v)) False)/\(lA m v=false->bP b False ((none:Option Nat)=none/\([]:List Nat)=[]/\(some (.bool !b,oT n cap x v<|oI b<|getM m v):Option<|AV×AS)=some (.bool !b,oT n cap x v<|oI b<|getM m v)))))=wp (kv []) 900 4 (.fr 54 22 [.code Cn] ((jB [13] [.map<|some<|272+i]<|aS sg).put 6<|some<|.map<|some<|272+i)<|sG n cap x v (.int .i64 0) (.bool false) .busy none) (.st 2<|.rg<|.go 2<|.Xh m (@Bool.rec (fun _=>Pl) .no (.go 5<|.en<|.st 5<|.cut .no) b)<|@Bool.rec (fun _=>Pl) (.go 5<|.en<|.st 5<|.cut .no) .no b) [] (fun _ _ _=>False)
 (fun fr s1 _=>fr.round=none/\fr.defers=[]/\AP pg (bg pg (sp []) FU 4) 284 fr s1=some (.bool !b,oT n cap x v<|oI b<|getM m v)):=by as_aux_lemma=>kernel_rfl):yk n cap x v i (oT n cap x v<|oI b<|getM m v)<|.bool !b:=
 EK k1 rfl (Chunk.ev 2 _ _ _ _ k2<|CM (E:=kv []) eY rfl (fun fr s p h=>EJ h.1 h.2.1 h.2.2) 900 _ (rgT b hx hh<|G3 _ _) k)
theorem UE{n:Nat}{cap:cL}{x:Nat->Option ae}{m:List<|Int×Int}(b:Bool)(hi:i<6)(hx:x i=some (bG m))(hh:lA m v=b):yk n cap x v i (oT n cap x v<|oI b<|getM m v)<|.bool !b:=by rcases(by omega:i=0\/i=1\/i=2\/i=3\/i=4\/i=5) with rfl|rfl|rfl|rfl|rfl|rfl<;>cases b<;>exact rgW _ hx hh
def pD(s0 sE:AS)(b:Bool):Nat->Nat->Pl
 |j,0=> @Bool.rec (fun _=>Pl) (.rt 11 .no) (.st j<|.rg<|.go 8<|.cy (.bool false) sE<|.go 1<|.en<|.rt 2 .no) b
 |j,k+1=>.st j<|.rg<|.go 8<|.cy (.bool true) s0<|.go 1<|.en<|pD s0 sE b 13 k
def TD(n:Nat)(cap:cL)(x:Nat->Option ae)(v z:Int)(b:Bool):Nat->Nat->Prop
 |i,0=>bP b (yk n cap x v (i - 1) (oT n cap x v<|some z) (.bool false)/\(AV.tuple []= .tuple []/\oT n cap x v (some z)=oT n cap x v (some z)))<|AV.tuple []= .tuple []/\qO n cap x v=qO n cap x v
 |i,k+1=>yk n cap x v (i - 1) (qO n cap x v) (.bool true)/\TD n cap x v z b (i - 1) k
def xB(ms:bz)(i:Nat):Option ae:=(ms[i]?).map bG
theorem UF{n:Nat}{v:Int}(h6:ms.length<=6):∀i,i<=ms.length->∃k b z,((b=true/\k<i)\/(b=false/\k=i))/\gB ms v i=oI b z/\TD n cap (xB ms) v z b i k
 |0,_=>⟨0,false,0,.inr ⟨rfl,rfl⟩,rfl,rfl,rfl⟩
 |i+1,hi=>by
  have hx:xB ms i=some (bG<|ms.getD i []):=by unfold xB;rw[List.getD_eq_getElem?_getD,List.getElem?_eq_getElem ab];rfl
  cases hh:lA (ms.getD i []) v with
  |true=>exact⟨0,true,getM (ms.getD i []) v,.inl ⟨rfl,by omega⟩,by unfold gB;rw[hh];rfl,UE true ab hx hh,rfl,rfl⟩
  |false=>obtain⟨k,b,z,h1,h2,h3⟩:=UF (n:=n) h6 i ab;exact⟨k+1,b,z,h1.imp (fun h=>⟨h.1,by omega⟩) fun h=>⟨h.1,by omega⟩,by rw[←h2,gB,hh];rfl,UE false ab hx hh,h3⟩
abbrev Qy(s0 sE:AS):Prop:=bg pg (sp []) FU 6 (.fn 92) [.yield 284,.ptr<|some (282,0)] s0= .ok (.tuple []) sE
theorem XR{n:Nat}{x:Nat->Option ae}{z:Int}{b:Bool}{k:Nat}(h:TD n cap x v z b n k)(q:TD n cap x v z b n k=wp (kv []) 900 5 (.fr 92 (max Tryz.f92.ntmps 2) (dF 92 []) (eh [.yield 284,.ptr<|some (282,0)])<|qO n cap x v) (pD (qO n cap x v) (oT n cap x v<|some z) b 12 k) (az Tryz.f92) (fun y s _=>y= .tuple []/\s=oT n cap x v (oI b z)) (fun _ _ _=>False):=by as_aux_lemma=>kernel_rfl):Qy (qO n cap x v)<|oT n cap x v<|oI b z:=by obtain⟨y,s2,q1,rfl,rfl⟩:=pL.call (E:=kv []) (n:=5) (args:=[.yield 284,.ptr<|some (282,0)]) Tryz.func92 (CG Tryz.func92 cN)<|Dv (R:=fun y s=>y= .tuple []/\s=oT n cap x v (oI b z)) (C:=fun _ _ _=>False) eY rfl (fun _ _ _ h=>h.elim) 900 _ h q;exact q1
theorem adR(h:1<=ms.length/\ms.length<=6):Qy (qO ms.length cap (xB ms) v)<|oT ms.length cap (xB ms) v<|gB ms v ms.length:=by
 obtain⟨k,b,z,h1,h2,h3⟩:=UF (n:=ms.length) (cap:=cap) (v:=v) h.2 ms.length<|Nat.le_refl _;rw[h2];revert h1 h3;generalize xB ms=x;generalize ms.length=n at h;intro h1 h3;rcases(by omega:n=1\/n=2\/n=3\/n=4\/n=5\/n=6) with rfl|rfl|rfl|rfl|rfl|rfl<;>rcases h1 with⟨rfl,h1⟩|⟨rfl,rfl⟩
 all_goals first
  |(rcases(by omega:k=0\/k=1\/k=2\/k=3\/k=4\/k=5) with rfl|rfl|rfl|rfl|rfl|rfl<;>first|(exfalso;omega)|exact XR h3)
  |exact XR h3
def Qz:List Item:=[.inBlock 0,.code<|a9 pg 54 [1,1,1]]
def Co:AF:=⟨54,aS sg,max Tryz.f54.ntmps 2,.code (a9 pg 54 [1,1,0,1,0])::Qz,[],none⟩
theorem ahi:a9 pg 54 [1,1,0,1,0]= .rangeFunc (.tmp 12) #[13] Hd Cn:=by kernel_rfl
def sZ(n:Nat)(cap:cL)(x:Nat->Option ae)(v:Int)(w1 w2:AV)(o:Option ae)(p:Option Code):AS:=aq (oG n cap x v w1 w2++[(283,o),(284,some<|.loop .exhausted p 54 (aS sg) 22 [13] Hd Cn 283)]) 285
theorem adS{o:Option ae}(h:1<=ms.length/\ms.length<=6):∀m q,(m,q)∈gC ms cap->(sZ ms.length cap (xB ms) v w1 w2 o p).h.get m=some q:=fun m q hm=>by
 rcases gy h with⟨m0,rfl⟩|⟨m0,m1,rfl⟩|⟨m0,m1,m2,rfl⟩|⟨m0,m1,m2,m3,rfl⟩|⟨m0,m1,m2,m3,m4,rfl⟩|⟨m0,m1,m2,m3,m4,m5,rfl⟩
 all_goals
  simp only[gC,qm,List.mem_cons,List.not_mem_nil,or_false] at hm
  repeat' (rcases hm with hm|hm)
  all_goals kernel_rfl
theorem XS{Y:AV}(mc:Mt [] B)(hb:fe ms)(h6:ms.length<=6)(hc:tN ms.length cap){sE:AS}(dn:Qy (qO ms.length cap (xB ms) v) sE)(h5:lN 284 sE= .ok p (sZ ms.length cap (xB ms) v w1 w2 (some .defs) p))(hd:Gu pg (bg pg (sp []) FU 6) (az Tryz.f54) 8 283 ⟨54,aS sg,max Tryz.f54.ntmps 2,andThen p Qz,[],none⟩ (sZ ms.length cap (xB ms) v w1 w2 (some .defs) p)=some (Y,sZ ms.length cap (xB ms) v w1 w2 none p)):
 au pg B 271 (iW XT pg (az Tryz.f54) 3 Y<|bW ms) Co (aq (oG ms.length cap (xB ms) v (.int .i64 0)<|.bool false) 283):=by
 unfold Co;rw[ahi];exact au.chunk bV mc.2.2.1 mc.2.2.2 (H8 (gv:=.func (.func 92) [] [.ptr<|some (282,0)]) (s1:=aq (oG ms.length cap (xB ms) v (.int .i64 0) (.bool false)++[(283,some .defs)]) 284) cN cN cN dn h5) (by show 271<=283;omega)<|(M9 (l:=283) (k:=8) (fr:=⟨54,aS sg,max Tryz.f54.ntmps 2,andThen p Qz,[],none⟩) bV mc.2.2.1 mc.2.2.2 rfl rfl hd ⟨rfl,_,.buf _ hb cap hc,adS ⟨hb.1.1,h6⟩⟩).2.2 (by show 271<=285;omega)
theorem goG{y v':AV}(mc:Mt [] B)(H:au pg B 271 (iW XT pg (az Tryz.f54) 3 y v') Co<|aq (oG ms.length cap (xB ms) v (.int .i64 0)<|.bool false) 283)(k:((sg.map (fun q=>some q.2)=sg.map (fun q=>some q.2))/\((oG ms.length cap (xB ms) v (.int .i64 0)<|.bool false).map (fun q=>q.2)=(oG ms.length cap (xB ms) v (.int .i64 0)<|.bool false).map (fun q=>q.2))/\(Co=Co/\aq (oG ms.length cap (xB ms) v (.int .i64 0)<|.bool false) 283=aq (oG ms.length cap (xB ms) v (.int .i64 0)<|.bool false) 283))=wp (yj []) 900 6 (.fr 54 (max Tryz.f54.ntmps 2) (dF 54 []) (eh [.ptr<|some (270,0),.int .i64 v])<|aq (ar++bu (gC ms cap)) 279)
 (.st 9<|.rg<|.go 1<|.il<|.rt 5<|.en<|.st 1<|.ls sg (oG ms.length cap (xB ms) v (.int .i64 0)<|.bool false) 283 .no) (az Tryz.f54) (fun Y s _=>px 3 y v' s Y) (fun fr s1 _=>fr=Co/\s1=aq (oG ms.length cap (xB ms) v (.int .i64 0)<|.bool false) 283):=by as_aux_lemma=>kernel_rfl):
 au pg B 271 (iW XT pg (az Tryz.f54) 3 y v') (sF 54 Tryz.f54 [.ptr<|some (270,0),.int .i64 v]) (aq (ar++bu (gC ms cap)) 279):=
 Qk mc (fun fr s1 _ hC=>by obtain⟨rfl,rfl⟩:=hC;exact H) _ ⟨rfl,rfl,rfl,rfl⟩ k cN
theorem acb(mc:Mt [] B)(hb:fe ms)(hc:tN ms.length cap)(h6:ms.length<=6):SB B 54 (max Tryz.f54.ntmps 2) (az Tryz.f54) [.int .i64 v] ms cap (.tuple [.int .i64 (kG ms v).1,.bool (kG ms v).2]) ms:=by
 have dn:=adR (cap:=cap) (v:=v) ⟨hb.1.1,h6⟩;have H:au pg B 271 (iW XT pg (az Tryz.f54) 3 (.tuple [.int .i64 (kG ms v).1,.bool (kG ms v).2])<|bW ms) Co<|aq (oG ms.length cap (xB ms) v (.int .i64 0)<|.bool false) 283:=by
  unfold kG;revert dn;cases gB ms v ms.length with
  |none=>exact fun dn=>XS mc hb h6 hc dn (w1:=.int .i64 0) (w2:=.bool false) (p:=none) cN cN
  |some z=>exact fun dn=>XS mc hb h6 hc dn (w1:=.int .i64 z) (w2:=.bool true) (p:=some .ret) cN cN
 rcases gy ⟨hb.1.1,h6⟩ with⟨m0,rfl⟩|⟨m0,m1,rfl⟩|⟨m0,m1,m2,rfl⟩|⟨m0,m1,m2,m3,rfl⟩|⟨m0,m1,m2,m3,m4,rfl⟩|⟨m0,m1,m2,m3,m4,m5,rfl⟩<;>exact goG mc H
end
section
variable {L:bY}
theorem Fq{L0:bY}{fn:Func}{F:bz->List AV->Option (AV×bz)}(hP:bE pg)(h:aV L)(h0:aV L0)(cm:Tryz.prog.funcs[g]? =some fn)(H:∀a rest y a',F a rest=some (y,a')->max fn.ntmps (rest.length+1)<=top/\∀B cap,Mt L0 B->fe a->tN a.length cap->SB B g (max fn.ntmps<|rest.length+1) fn.results.toList rest a cap y a')(cv:fn.body=some (a9 pg g []):=by kernel_rfl)(hn:(fn.name == "runtime.NumGoroutine")=false:=by kernel_rfl):aV<|(g,.tok 3<|dX bW F)::L:=by
 refine CR rZ hP hJ qd iT iz lT lB h h0 cm cv hn fun v rest y v' e=>?_;obtain⟨a,a',rfl,e1,rfl⟩:=AB e;obtain⟨q1,q2⟩:=H a rest y a' e1;refine⟨q1,fun L hx=>?_⟩;generalize hv:bW a=v at hx;cases hx with
 |buf b hb cap hc=>have:=wB _ _ hv;subst this;exact⟨279,by omega,aL.1 aW,ab9 hb,fun B mc=>q2 B cap mc hb hc⟩
def F5:bz->List AV->Option (AV×bz)
 |a,[.int .i64 v,.int .i64 x]=>if a.length<=6 then some (.int .i64 0,ml a v x) else none
 |_,_=>none
def Bw:bz->List AV->Option (AV×bz)
 |a,[.int .i64 v]=>if a.length<=6 then some (.tuple [.int .i64 (kG a v).1,.bool (kG a v).2],a) else none
 |_,_=>none
def Jn:bz->List AV->Option (AV×bz)
 |a,[]=>if a.length<7 then some (.int .i64 0,a++[[]]) else none
 |_,_=>none
def Jo:bz->List AV->Option (AV×bz)
 |a,[]=>if 2<=a.length/\a.length<=6 then some (.int .i64 0,a.dropLast) else none
 |_,_=>none
def IF:bz->List AV->Option (AV×bz)
 |a,[]=>if 2<=a.length then some (.int .i64 0,gQ a) else none
 |_,_=>none
def F6:FuncId×KE:=(85,.tok 3<|dX bW F5)
def Od:FuncId×KE:=(87,.tok 3<|dX bW Jn)
def Oe:FuncId×KE:=(86,.tok 3<|dX bW Jo)
def CW:FuncId×KE:=(83,.tok 3<|dX bW IF)
def lf:FuncId×KE:=(54,.tok 3<|dX bW Bw)
theorem acd(hP:bE pg)(h:aV L):aV<|F6::L:=Fq hP h cP Tryz.func85 fun a rest y a' e=>by unfold F5 at e;split at e<;>(try split at e)<;>cases e;exact⟨aL.1 aW,fun B cap mc hb hc=>aca mc hb hc ‹_›⟩
theorem aaV(hP:bE pg)(h:aV L):aV<|Od::L:=Fq hP h cP Tryz.func87 fun a rest y a' e=>by unfold Jn at e;split at e<;>(try split at e)<;>cases e;exact⟨aL.1 aW,fun B cap mc hb hc=>aaT mc hb hc<|Nat.le_of_lt_succ ‹_›⟩
theorem aaW(hP:bE pg)(h:aV L):aV<|Oe::L:=Fq hP h cP Tryz.func86 fun a rest y a' e=>by unfold Jo at e;split at e<;>(try split at e)<;>cases e;rename_i q;exact⟨aL.1 aW,fun B cap mc hb hc=>aaU mc hb hc q.1 q.2⟩
theorem Z0(hP:bE pg)(h:aV L):aV<|CW::L:=Fq hP h (afu hP cP) Tryz.func83 fun a rest y a' e=>by unfold IF at e;split at e<;>(try split at e)<;>cases e;exact⟨aL.1 aW,fun B cap mc hb hc=>LR mc hb hc ‹_›⟩
theorem Ii(hP:bE pg)(h:aV L):aV<|lf::L:=Fq hP h cP Tryz.func54 fun a rest y a' e=>by unfold Bw at e;split at e<;>(try split at e)<;>cases e;exact⟨aL.1 aW,fun B cap mc hb hc=>acb mc hb hc ‹_›⟩
def O0:List AV->Option (Option AV×(AV->AV))
 |[]=>some (some<|bW [[]],fun p=>p)
 |_=>none
def DF:FuncId×KE:=(35,.new 3 O0)
def oN:List<|Nat×Option ae:=[(270,some<|Gf []),(271,some<|aN kg [.map<|some 270]),(272,some<|aN kg [.slice (some (271,0)) 1<|.known 1])]
theorem Of:fe [[]]:=⟨by show 1<=1/\1<=7;omega,fun m hm=>by rw[List.mem_singleton] at hm;subst hm;exact List.nodup_nil⟩
theorem afz:XJ 270 273 279 [(0,.ptr<|some (272,0))] oN [(0,.ptr<|some (270,0))] (bu<|gC [[]]<|.known 1) ⟨35,aS [(0,.ptr<|some (270,0))],max Tryz.f35.ntmps 0,(dF 35 [1,1]),[],none⟩<|aq (ar++bu (gC [[]]<|.known 1)) 279:=⟨rfl,rfl,Bv (ps:=[(270,272),(271,271),(272,270)]) ab cN cN (fun r hr _=>⟨⟨by unfold top;omega,_,mi 0,(bR.ptr<|rq hr).z⟩,trivial⟩) fun r hr _=>⟨kP (mi 2) (rq hr) qX<|Gz (l:=[.slice (some (271,0)) 1<|.known 1]) ⟨(bR.slice<|rq hr).z,trivial⟩ (by simp) rfl,kP (mi 1) (rq hr) qX<|Gz (l:=[.map<|some 270]) ⟨(bR.map<|rq hr).z,trivial⟩ (by simp) rfl,kP (mi 0) (rq hr) Vl<|VX List.nodup_nil,trivial⟩,rfl,rfl⟩
theorem ace(hP:bE pg)(h:aV L):aV<|DF::L:=by
 refine Iy rZ hP hJ (aL.1 aW) iT iz h cP Tryz.func35 (body:=a9 pg 35 []) aW aW fun args p e=>?_;unfold O0 at e;split at e<;>cases e;refine⟨aL.1 aW,fun e0=>(by cases e0),fun v e0=>?_⟩;injection e0 with e0;subst e0
 refine⟨u0.ptr,fun B mc=>?_⟩;rw[←gX];exact wC mc (C:=fun fr s1 _=>fr=⟨35,aS [(0,.ptr<|some (270,0))],max Tryz.f35.ntmps 0,(dF 35 [1,1]),[],none⟩/\s1=aq (ar++bu (gC [[]]<|.known 1)) 279) (fun fr s1 _ hC=>by obtain⟨rfl,rfl⟩:=hC;exact wS mc (.rt 1 .no)<|PE (ms:=[[]]) (cap:=.known 1) 279 Of (.inr ⟨rfl,rfl⟩)<|.ptr<|some (270,0)) (.st 4<|.rn [(0,.ptr<|some (272,0))] (ar++oN) [(0,.ptr<|some (270,0))] (ar++bu (gC [[]]<|.known 1)) 273 279 .no) afz
end
end
end gh
end
section
open Go Go.Rn Go.RowKit Go.Proofs
namespace fV
open cq eX cz cO cT fm eR fM fO fU
variable {st:VS} {T:Prop} {v:AV} {x7 x6 x5 x4 x3 x2 x1 x0:Int} {s:AS} {rest:List AV} {q lg G:Nat} {cap:cL} {L:bY}
noncomputable section
abbrev qP(L:bY):Env:=xQ pg 270 eK dV L 273 true
def GA:FuncId×KE:=(72,.raw fun a b c=>vD a b c<|aU zk)
def l8(x0 x1 x2 x3 x4 x5 x6 x7:Int):List Int:=[x0,x1,x2,x3,x4,x5,x6,x7]
theorem evU{n m off len:Nat}{cs:List AV}{a b:AV}(h1:(a.hi&&(b.hi&&F1 len cap))=true)(hk:qB 270 dV eK s=true)(hm:Nat.blt m (dP 270 dV eK s).nx=true)(ht:Nat.blt m top=true)(h2:cellsOf ((dP 270 dV eK s).h.get m) off len=some cs)(h3:cs.all AV.gb=true)(h4:aU zk [a,.U (nm cs) 0 len,b]=some v)(h5:v.xp=true):
 bg pg (sp [GA]) FU (n+1) (.fn 72) [a,.slice (some (m,off)) len cap,b] s= .ok v (aY m<|dP 270 dV eK s):=
 ab4 (P:=pg) (sp:=sp [GA]) aW h1 hk hm ht h2 h3 h4 h5
theorem nM{y Y:AV}(e:Y=y)(h1:s.h.get 270=some (bO<|dQ st.R 271 272))(h2:s.h.get 271=some (.tok 3 st.u))(h3:s.h.get 272=some (bO st.row)):Y=y/\∀m o,(m,o)∈dC 270 3 st->s.h.get m=some o:=by
 refine⟨e,fun m o hm=>?_⟩;simp only[dC,List.mem_cons,List.not_mem_nil,or_false] at hm;rcases hm with hm|hm|hm<;>(injection hm with a b;subst a;subst b)
 ·exact h1
 ·exact h2
 ·exact h3
theorem afA{e:Ex}{aK:List Int}(hg:eC bS 1 (.U G q lg) aK):aU zk [.agg<|aB e,.U (nm [.int .i64 x0,.int .i64 x1,.int .i64 x2,.int .i64 x3,.int .i64 x4,.int .i64 x5,.int .i64 x6,.int .i64 x7]) 0 8,.U G q lg]=some (DZ<|zj e (l8 x0 x1 x2 x3 x4 x5 x6 x7) aK):=eZ zk.bT ⟨e,_,0,8,G,q,lg,l8 x0 x1 x2 x3 x4 x5 x6 x7,aK,rfl,eC.aX eI<|l8 x0 x1 x2 x3 x4 x5 x6 x7,hg,rfl⟩
noncomputable abbrev Og(vars:Int)(G q lg:Nat)(x0 x1 x2 x3 x4 x5 x6 x7:Int)(len:Nat)(cap:cL)(steps:Int)(u:AV)(row:List AV)(op n:Int)(N L:Nat):List<|Nat×Option ae:=ar++[(270,some<|.cells 13 (Tr.fill [(i6 vars),(.U G q lg),(i6 x0),(i6 x1),(i6 x2),(i6 x3),(i6 x4),(i6 x5),(i6 x6),(i6 x7),(.ptr<|some (271,0)),(.slice (some (272,0)) (len) cap),(i6 steps)] 0 .nil) []),(271,(some<|.tok 3 u)),(272,(some<|bO row)),(273,some<|.cells 3 (Tr.fill [(u8<|op),(i6 n),(.U N 0 L)] 0 .nil) [])]
theorem ahj{B:aJ}{vars steps:Int}{len:Nat}{u:AV}{row:List AV}{N L:Nat}{op n z f:Int}(mc:Mt [GA] B)(hG:(((.agg [(u8<|op),(i6 n),(.U N 0 L)]):AV).hi&&((.U G q lg:AV).hi&&F1 8 (.known 8)))=true)(he:aU zk [(.agg [(u8<|op),(i6 n),(.U N 0 L)]),.U (nm [.int .i64 x0,.int .i64 x1,.int .i64 x2,.int .i64 x3,.int .i64 x4,.int .i64 x5,.int .i64 x6,.int .i64 x7]) 0 8,.U G q lg]=some (.tuple [.int .i64 z,.int .i64 f])):au pg B 273 (gV 270 3 pg (az Tryz.f51) (.int .i64 z) (⟨(⟨[.int .i64 vars,.U G q lg,.int .i64 x0,.int .i64 x1,.int .i64 x2,.int .i64 x3,.int .i64 x4,.int .i64 x5,.int .i64 x6,.int .i64 x7],len,cap,[.int .i64 steps]⟩:RS),u,row⟩:VS)) (sF 51 Tryz.f51 [(.ptr<|some (270,0)),(.agg [(u8<|op),(i6 n),(.U N 0 L)])])<|aq (ar++bu (dC 270 3 (⟨(⟨[.int .i64 vars,.U G q lg,.int .i64 x0,.int .i64 x1,.int .i64 x2,.int .i64 x3,.int .i64 x4,.int .i64 x5,.int .i64 x6,.int .i64 x7],len,cap,[.int .i64 steps]⟩:RS),u,row⟩:VS))) 273:=by exact mh (E:=qP [GA]) eY rfl bV mc.2.2.1 mc.2.2.2 900 (.st 3<|.rg<|.go 9<|.cu (.tuple [(i6 z),(i6 f)]) (aY 270<|dP 270 dV eK (⟨gf<|Og vars G q lg x0 x1 x2 x3 x4 x5 x6 x7 len cap steps u row op n N L,274,274,[],[]⟩:AS))<|.go 5<|.en<|.rt 3 .no)<|ai (evU (n:=5) (m:=270) (off:=2) (len:=8) (cap:=.known 8) (cs:=[.int .i64 x0,.int .i64 x1,.int .i64 x2,.int .i64 x3,.int .i64 x4,.int .i64 x5,.int .i64 x6,.int .i64 x7]) (s:=(⟨gf<|Og vars G q lg x0 x1 x2 x3 x4 x5 x6 x7 len cap steps u row op n N L,274,274,[],[]⟩:AS)) hG ct ct ct ct ct he ct)<|nM (st:=(⟨(⟨[.int .i64 vars,.U G q lg,.int .i64 x0,.int .i64 x1,.int .i64 x2,.int .i64 x3,.int .i64 x4,.int .i64 x5,.int .i64 x6,.int .i64 x7],len,cap,[.int .i64 steps]⟩:RS),u,row⟩:VS)) (s:=aq (Og vars G q lg x0 x1 x2 x3 x4 x5 x6 x7 len cap steps u row op n N L) 274) (show((i6 z):AV)=(.int .i64 z) from rfl) ct ct ct
open Classical in
def vR(R:VS->List AV->AV->Prop)(st:VS)(rest:List AV):Option AV:=if h:∃v,R st rest v then some h.choose else none
theorem FI{R:VS->List AV->AV->Prop}(h:vR R st rest=some v):R st rest v:=by
 unfold vR at h;split at h
 ·rename_i q;injection h with h;rw[←h];exact q.choose_spec
 ·cases h
theorem DG{R:VS->List AV->AV->Prop}(hd:∀st rest v v',R st rest v->R st rest v'->v=v')(h:R st rest v):vR R st rest=some v:=by unfold vR;have q:∃v,R st rest v:=⟨v,h⟩;rw[dif_pos q,hd _ _ _ _ q.choose_spec h]
structure MN where
 vars:Int
 G:Nat
 q:Nat
 lg:Nat
 aK:List Int
 x0:Int
 x1:Int
 x2:Int
 x3:Int
 x4:Int
 x5:Int
 x6:Int
 x7:Int
 steps:Int
def MN.l(a:MN):List Int:=l8 a.x0 a.x1 a.x2 a.x3 a.x4 a.x5 a.x6 a.x7
def MN.pre(a:MN):List AV:=[.int .i64 a.vars,.U a.G a.q a.lg,.int .i64 a.x0,.int .i64 a.x1,.int .i64 a.x2,.int .i64 a.x3,.int .i64 a.x4,.int .i64 a.x5,.int .i64 a.x6,.int .i64 a.x7]
def MN.row(a:MN)(x y z:AV):List AV:=a.pre++[x,y,z]
abbrev vG(r:Nat):AS->AS:=VY 270 dV eK 270 271 r
abbrev vF(r:Nat)(st:VS):AS->AS:=JW 270 dV eK 3 270 271 r st
abbrev vQ(r:Nat)(st:VS):AS->Prop:=F4 270 dV eK 3 270 271 r st
abbrev K6(st:VS)(r:Nat)(T:Prop):Prop:=(true=true/\true=true/\some (bO<|dQ st.R 271 r)=some (bO<|dQ st.R 271 r)/\some (ae.tok 3 st.u)=some (.tok 3 st.u)/\some (bO st.row)=some (bO st.row))/\T
abbrev K7(r:Nat):Bool:= !Nat.beq 270 271&&(!Nat.beq 270 r&& !Nat.beq 271 r)
abbrev K8(r:Nat):Bool:=Nat.blt 270 top&&(Nat.blt 271 top&&Nat.blt r top)
theorem jL(L:bY)(g r:Nat)(val:VS->List AV->Option AV)(rest:List AV)(st:VS)(y:AV)(ho:bA 10 st=true)(hv:val st rest=some y)(hr:rest.all AV.hi=true)(hy:y.hi=true)(t:T)(h1:sp L g=some (m9 10 3 val 270 eK dV):=by as_aux_lemma=>kernel_rfl)(h2:K7 r=true:=by as_aux_lemma=>kernel_rfl)(h3:K8 r=true:=by as_aux_lemma=>kernel_rfl)(h4:st.R.pre.length=10:=by rfl):(∀s,vQ r st s->bg pg (sp L) FU 6 (.fn g) (.ptr (some (270,0))::rest) s= .ok y (vG r s))/\K6 st r T:=⟨acf (P:=pg) (F:=FU) (n:=5) h1 hr h2 h3 h4 ho hv hy,⟨rfl,rfl,rfl,rfl,rfl⟩,t⟩
theorem yo(L:bY)(g r:Nat)(val:VS->List AV->Option AV)(rest:List AV)(st:VS)(y:AV)(ho:bA 10 st=true)(hv:val st rest=some y)(t:T)(hr:rest.all AV.hi=true:=by as_aux_lemma=>kernel_rfl)(hy:y.hi=true:=by as_aux_lemma=>kernel_rfl)(h1:sp L g=some (m9 10 3 val 270 eK dV):=by as_aux_lemma=>kernel_rfl)(h2:K7 r=true:=by as_aux_lemma=>kernel_rfl)(h3:K8 r=true:=by as_aux_lemma=>kernel_rfl)(h4:st.R.pre.length=10:=by rfl):(∀s,vQ r st s->bg pg (sp L) FU 6 (.fn g) (.ptr (some (270,0))::rest) s= .ok y (vG r s))/\K6 st r T:=jL L g r val rest st y ho hv hr hy t h1 h2 h3 h4
theorem XU(L:bY)(g r:Nat)(val:VS->List AV->Option (AV×VS))(rest:List AV)(st aZ:VS)(ho:bA 10 st=true)(hv:val st rest=some (.tuple [],aZ))(kJ:bA 10 aZ=true)(hr:rest.all AV.hi=true)(t:T)(h1:sp L g=some (m8 10 3 val 270 eK dV):=by as_aux_lemma=>kernel_rfl)(h2:K7 r=true:=by as_aux_lemma=>kernel_rfl)(h3:K8 r=true:=by as_aux_lemma=>kernel_rfl)(h4:st.R.pre.length=10:=by rfl):(∀s,vQ r st s->bg pg (sp L) FU 6 (.fn g) (.ptr (some (270,0))::rest) s= .ok (.tuple []) (vF r aZ s))/\K6 st r T:=⟨NI (P:=pg) (F:=FU) (n:=5) h1 hr h2 h3 h4 ho hv rfl kJ,⟨rfl,rfl,rfl,rfl,rfl⟩,t⟩
theorem vV(L:bY)(g r:Nat)(val:VS->List AV->Option (AV×VS))(rest:List AV)(st aZ:VS)(ho:bA 10 st=true)(hv:val st rest=some (.tuple [],aZ))(kJ:bA 10 aZ=true)(t:T)(hr:rest.all AV.hi=true:=by as_aux_lemma=>kernel_rfl)(h1:sp L g=some (m8 10 3 val 270 eK dV):=by as_aux_lemma=>kernel_rfl)(h2:K7 r=true:=by as_aux_lemma=>kernel_rfl)(h3:K8 r=true:=by as_aux_lemma=>kernel_rfl)(h4:st.R.pre.length=10:=by rfl):(∀s,vQ r st s->bg pg (sp L) FU 6 (.fn g) (.ptr (some (270,0))::rest) s= .ok (.tuple []) (vF r aZ s))/\K6 st r T:=XU L g r val rest st aZ ho hv kJ hr t h1 h2 h3 h4
def si(st:VS)(a:MN):Prop:=st.R.pre=a.pre/\st.R.post=[.int .i64 a.steps]/\eC bS 1 (.U a.G a.q a.lg) a.aK
theorem si.inj{a b:MN}(h:si st a)(k:si st b):a=b:=by obtain⟨h1,h2,h3⟩:=h;obtain⟨k1,k2,k3⟩:=k;rw[h1] at k1;rw[h2] at k2;obtain⟨a1,a2,a3,a4,a5,c0,c1,c2,c3,c4,c5,c6,c7,a6⟩:=a;obtain⟨b1,b2,b3,b4,b5,d0,d1,d2,d3,d4,d5,d6,d7,b6⟩:=b;simp only[MN.pre,List.cons.injEq,AV.int.injEq,AV.U.injEq,true_and,_root_.and_true] at k1 k2;obtain⟨rfl,⟨rfl,rfl,rfl⟩,rfl,rfl,rfl,rfl,rfl,rfl,rfl,rfl⟩:=k1;subst k2;have e5:a5=b5:=eC.inj wD h3 k3;subst e5;rfl
def jr(st:VS)(rest:List AV)(v:AV):Prop:=∃(a:MN) (e:Ex),si st a/\rest=[.agg<|aB e]/\v= .int .i64 (zj e a.l a.aK).1
theorem jr.bT(st:VS)(rest:List AV)(v v':AV)(h:jr st rest v)(h':jr st rest v'):v=v':=by obtain⟨a,e,h1,rfl,rfl⟩:=h;obtain⟨a',e',k1,h2,rfl⟩:=h';simp only[List.cons.injEq,AV.agg.injEq,_root_.and_true] at h2;rw[nu _ _ h2,h1.inj k1]
def iG:FuncId×KE:=(51,.raw<|m9 10 3<|vR jr)
theorem xU:270+3<=top:=aL.1 aW
theorem adT(hP:bE pg)(h:aV L):aV<|GA::L:=by
 refine adL hP hJ qd iT iz h (Us hP<|Ty hP 6 cP) Tryz.func72 (body:=a9 pg 72 []) aW aW fun args v e=>?_;obtain⟨⟨op,n,l⟩,M,p,lm,G,q,lg,lo,aK,rfl,i1,i2,rfl⟩:=gI e;refine⟨aL.1 aW,fun B mc=>?_⟩;rw[←gX];have c:=N6 (e:=.mk op n l);have d:bit (eM 6<|.mk op n l)=1->_:=fun h=>ND (k:=6) (e:=.mk op n l) i1 i2 (by rw[←wN (eM 6<|.mk op n l)];exact decide_eq_true h);have key:=afa (x:=bit<|eM 6<|.mk op n l) (u:=(lz 6 (.mk op n l) lo aK).1) (f:=(lz 6 (.mk op n l) lo aK).2) (N:=nm<|cI l) (L:=l.length) (op:=op) (n:=n) mc (by rw[wN];rw[aB] at c;exact c) (fun h=>by have:=d h;rw[aB] at this;exact this);unfold zj;rw[aB];cases q:eM 6 (.mk op n l) with
 |true=>rw[q,if_pos (show bit true=1 from rfl)] at key;rw[if_pos rfl];exact key
 |false=>rw[q,if_neg (show ¬(bit false=1) by decide)] at key;rw[if_neg (by intro h;cases h)];exact key
theorem CX(hP:bE pg)(h:aV L):aV<|iG::L:=by refine EY hP hJ xU iT iz lT lB h (adT hP cP) Tryz.func51 (body:=a9 pg 51 []) aW aW fun st rest y e _=>?_;obtain⟨a,⟨op,n,l⟩,⟨h1,h2,h3⟩,rfl,rfl⟩:=FI e;refine⟨aL.1 aW,fun B mc=>?_⟩;obtain⟨⟨pre,len,cap,post⟩,u,row⟩:=st;simp only at h1 h2;subst h1;subst h2;have q:=afA (e:=.mk op n l) (x0:=a.x0) (x1:=a.x1) (x2:=a.x2) (x3:=a.x3) (x4:=a.x4) (x5:=a.x5) (x6:=a.x6) (x7:=a.x7) h3;rw[aB] at q ⊢;exact ahj mc (and_true.2 ⟨by rw[←aB];exact Bq _,and_true.2 ⟨h3.hi,rfl⟩⟩) q
end
end fV
end
section
open Go Go.Rn Go.RowKit Go.Proofs
namespace gi
open cq eX cz cO cT fm eR fM fO fU fV
noncomputable abbrev Bi(a:MN)(len:Nat)(cap:cL)(u:AV)(row:List AV):VS:=(⟨(⟨a.pre,len,cap,[.int .i64 a.steps]⟩:RS),u,row⟩:VS)
theorem ahk{B:aJ}{a:MN}{len:Nat}{cap:cL}{u:AV}{row:List AV}{N L:Nat}{op n z v f:Int}(mc:Mt [iG,Kj] B)(hO:bA 10 (Bi a len cap u row)=true)(hA:([(.agg [(u8<|op),(i6 n),(.U N 0 L)])]:List AV).all AV.hi=true)(hz:vR jr (Bi a len cap u row) [(.agg [(u8<|op),(i6 n),(.U N 0 L)])]=some (.int .i64 z))(hv:bf (aU BJ) [.int .i64 z,.int .i64 a.vars]=some (.tuple [.int .i64 v,.int .i64 f])):au pg B 273 (gV 270 3 pg (az Tryz.f53) (.int .i64 v)<|Bi a len cap u row) (sF 53 Tryz.f53 [(.ptr<|some (270,0)),(.agg [(u8<|op),(i6 n),(.U N 0 L)])])<|aq (ar++bu (dC 270 3<|Bi a len cap u row)) 273:=by exact mh (E:=qP [iG,Kj]) eY rfl bV mc.2.2.1 mc.2.2.2 900 (.st 3<|.rg<|.go 2<|.cg (i6 z) (vG 272) (vQ 272<|Bi a len cap u row)<|.go 4<|.kn (.tuple [(i6 v),(i6 f)])<|.go 5<|.en<|.rt 3 .no)<|jL [iG,Kj] 51 272 (vR jr) [(.agg [(u8<|op),(i6 n),(.U N 0 L)])] (Bi a len cap u row) (i6 z) hO hz hA ct<|ai hv<|nM (st:=(Bi a len cap u row)) (s:=aq (ar++[(270,some<|.cells 13 (Tr.fill (a.row (.ptr<|some (271,0)) (.slice (some (272,0)) (len) cap)<|i6 a.steps) 0 .nil) []),(271,(some<|.tok 3 u)),(272,(some<|bO row)),(273,some<|.cells 3 (Tr.fill [(u8<|op),(i6 n),(.U N 0 L)] 0 .nil) [])]) 274) (show((i6 v):AV)=(.int .i64 v) from rfl) ct ct ct
def nN(st:VS)(rest:List AV)(v:AV):Prop:=∃(a:MN) (e:Ex) (x f:Int),si st a/\rest=[.agg<|aB e]/\a.vars<=1099511627776/\tO (zj e a.l a.aK).1 a.vars= .tuple [.int .i64 x,.int .i64 f]/\v= .int .i64 x
theorem nN.bT(st:VS)(rest:List AV)(v v':AV)(h:nN st rest v)(h':nN st rest v'):v=v':=by obtain⟨a,e,x,f,h1,rfl,_,h2,rfl⟩:=h;obtain⟨a',e',x',f',k1,k0,_,k2,rfl⟩:=h';simp only[List.cons.injEq,AV.agg.injEq,_root_.and_true] at k0;have e1:=h1.inj k1;subst e1;rw[←nu _ _ k0,h2] at k2;simp only[AV.tuple.injEq,List.cons.injEq,AV.int.injEq,true_and] at k2;rw[k2.1]
noncomputable def jG:FuncId×KE:=(53,.raw<|m9 10 3<|vR nN)
theorem Fs(hP:bE pg){L:bY}(h:aV L):aV<|jG::L:=by
 refine EY hP hJ xU iT iz lT lB h (CX hP<|adn hP cP) Tryz.func53 (body:=a9 pg 53 []) aW aW fun st rest y e eo=>?_;obtain⟨a,⟨op,n,l⟩,x,f,hM,rfl,hm,hx,rfl⟩:=FI e;refine⟨aL.1 aW,fun B mc=>?_⟩;have hz:vR jr st [.agg<|aB<|.mk op n l]=some _:=DG jr.bT ⟨a,_,hM,rfl,rfl⟩;obtain⟨h1,h2,h3⟩:=hM;obtain⟨⟨pre,len,cap,post⟩,u,row⟩:=st;simp only at h1 h2;subst h1;subst h2;have hA:([AV.agg<|aB<|.mk op n l]:List AV).all AV.hi=true:=by rw[List.all_cons,Bq];rfl
 have hv:bf (aU BJ) [.int .i64 (zj (.mk op n l) a.l a.aK).1,.int .i64 a.vars]=some (.tuple [.int .i64 x,.int .i64 f]):=fA (eZ BJ.bT ⟨_,_,rfl,hm,hx.symm⟩) rfl rfl;rw[aB] at hz hA ⊢;exact ahk mc eo hA hz hv
end gi
end
section
open Go Go.Rn Go.RowKit Go.Proofs
namespace gO
open cq eX cz dj cO cT fm eR fM fO fU fV gi gh
variable {cap:cL} {u:AV} {to aE n2 kind v:Int} {a:MN} {N4 N3 N2 N L4 L3 L2 L:Nat} {B:aJ}
theorem Uk(l:List AV){k:Nat}(h:k<13)(hl:l.length=13:=by rfl):l[k]? =some (l.getD k<|.tuple []):=by rw[List.getD_eq_getElem?_getD,List.getElem?_eq_getElem ab];rfl
theorem Ul{pre post:List AV}{len i r1 r2:Nat}{c:AV}(h:i<pre.length):aN lS ((dQ ⟨pre,len,cap,post⟩ r1 r2).set i c)=bO (dQ ⟨pre.set i c,len,cap,post⟩ r1 r2):=by
 have e:(dQ ⟨pre,len,cap,post⟩ r1 r2).set i c=dQ ⟨pre.set i c,len,cap,post⟩ r1 r2:=by unfold dQ;exact List.set_append_left _ _ h
 rw[e];unfold aN bO;rw[DA]
noncomputable abbrev Vd(a:MN)(len:Nat)(cap:cL)(to z:Int)(u:AV)(row:List AV)(kind op n:Int)(N L:Nat)(aE n2:Int)(N2 L2 N3 L3 N4 L4:Nat):List<|Nat×Option ae:=ar++[(270,(some<|aN lS<|((a.row (.ptr<|some (271,0)) (.slice (some (272,0)) (len) cap)<|i6 a.steps):List AV).set (2+to.toNat)<|i6 z)),(271,(some<|.tok 3 u)),(272,(some<|bO row)),(273,some<|.cells 10 (Tr.fill [(u8<|kind),(i6 to),(u8<|op),(i6 n),(.U N 0 L),(u8<|aE),(i6 n2),(.U N2 0 L2),(.U N3 0 L3),(.U N4 0 L4)] 0 .nil) [])]
noncomputable abbrev mH(a:MN)(len:Nat)(cap:cL)(u:AV)(row:List AV):VS:=(⟨(⟨a.pre,len,cap,[.int .i64 a.steps]⟩:RS),u,row⟩:VS)
noncomputable abbrev xe(op n:Int)(N L:Nat):List AV:=[(.agg [(u8<|op),(i6 n),(.U N 0 L)])]
theorem ahl{len:Nat}{row:List AV}{op n:Int}{z:Int}(mc:Mt [iG] B)(hO:bA 10 (mH a len cap u row)=true)(h0:0<=to)(h8:to<8)(hA:((xe op n N L):List AV).all AV.hi=true)(hz:vR jr (mH a len cap u row) (xe op n N L)=some (.int .i64 z)):au pg B 273 (gV 270 3 pg (az Tryz.f64) (.tuple []) (⟨⟨(a.pre:List AV).set (2+to.toNat)<|.int .i64 z,len,cap,[.int .i64 a.steps]⟩,u,row⟩:VS)) (sF 64 Tryz.f64 [(.ptr<|some (270,0)),(.agg [(u8<|kind),(i6 to),(u8<|op),(i6 n),(.U N 0 L),(u8<|aE),(i6 n2),(.U N2 0 L2),(.U N3 0 L3),(.U N4 0 L4)])])<|aq (ar++bu (dC 270 3<|mH a len cap u row)) 273:=by exact mh (E:=qP [iG]) eY rfl bV mc.2.2.1 mc.2.2.2 900 (.st 2<|.rg<|.go 6<|.cg (i6 z) (vG 272) (vQ 272<|mH a len cap u row)<|.go 2<|.GY<|.l6 (aN lS<|((a.row (.ptr<|some (271,0)) (.slice (some (272,0)) (len) cap)<|i6 a.steps):List AV).set (2+to.toNat)<|i6 z)<|.en<|.rt 1 .no)<|jL [iG] 51 272 (vR jr) (xe op n N L) (mH a len cap u row) (i6 z) hO hz hA ct Xs
theorem afB{len:Nat}{row:List AV}{op n:Int}{z:Int}{fb:Bool}(mc:Mt [jG,lf] B)(hO:bA 10 (mH a len cap u row)=true)(h0:0<=to)(h8:to<8)(hA:((xe op n N L):List AV).all AV.hi=true)(hv:vR nN (mH a len cap u row) (xe op n N L)=some (.int .i64 v))(hg:fj (dX bW Bw) u [.int .i64 v]=some (.tuple [.int .i64 z,.bool fb],u)):au pg B 273 (gV 270 3 pg (az Tryz.f65) (.tuple []) (⟨⟨(a.pre:List AV).set (2+to.toNat)<|.int .i64 z,len,cap,[.int .i64 a.steps]⟩,u,row⟩:VS)) (sF 65 Tryz.f65 [(.ptr<|some (270,0)),(.agg [(u8<|kind),(i6 to),(u8<|op),(i6 n),(.U N 0 L),(u8<|aE),(i6 n2),(.U N2 0 L2),(.U N3 0 L3),(.U N4 0 L4)])])<|aq (ar++bu (dC 270 3<|mH a len cap u row)) 273:=by exact mh (E:=qP [jG,lf]) eY rfl bV mc.2.2.1 mc.2.2.2 900 (.st 2<|.rg<|.go 6<|.ld [(.ptr<|some (271,0))]<|.go 3<|.cg (i6 v) (vG 272) (vQ 272<|mH a len cap u row)<|.kt (.tuple [(i6 z),(.bool fb)]) u<|.go 5<|.GY<|.l6 (aN lS<|((a.row (.ptr<|some (271,0)) (.slice (some (272,0)) (len) cap)<|i6 a.steps):List AV).set (2+to.toNat)<|i6 z)<|.en<|.rt 1 .no)<|ai Wt<|jL [jG,lf] 53 272 (vR nN) (xe op n N L) (mH a len cap u row) (i6 v) hO hv hA ct<|ai hg Xs
theorem adU{len:Nat}{row:List AV}{op n:Int}{z:Int}{u':AV}(mc:Mt [jG,iG,F6] B)(hO:bA 10 (mH a len cap u row)=true)(hA:((xe op n N L):List AV).all AV.hi=true)(hB:([(.agg [(u8<|aE),(i6 n2),(.U N2 0 L2)])]:List AV).all AV.hi=true)(hv:vR nN (mH a len cap u row) (xe op n N L)=some (.int .i64 v))(hz:vR jr (mH a len cap u row) [(.agg [(u8<|aE),(i6 n2),(.U N2 0 L2)])]=some (.int .i64 z))(hp:fj (dX bW F5) u [.int .i64 v,.int .i64 z]=some ((.int .i64 0:AV),u')):au pg B 273 (gV 270 3 pg (az Tryz.f66) (.tuple []) (⟨(⟨a.pre,len,cap,[.int .i64 a.steps]⟩:RS),u',row⟩:VS)) (sF 66 Tryz.f66 [(.ptr<|some (270,0)),(.agg [(u8<|kind),(i6 to),(u8<|op),(i6 n),(.U N 0 L),(u8<|aE),(i6 n2),(.U N2 0 L2),(.U N3 0 L3),(.U N4 0 L4)])])<|aq (ar++bu (dC 270 3<|mH a len cap u row)) 273:=by exact mh (E:=qP [jG,iG,F6]) eY rfl bV mc.2.2.1 mc.2.2.2 900 (.st 2<|.rg<|.go 3<|.ld [(.ptr<|some (271,0))]<|.go 3<|.cg (i6 v) (vG 272) (vQ 272<|mH a len cap u row)<|.go 3<|.cg (i6 z) (vG 272) (vQ 272<|mH a len cap u row)<|.kt i0 u'<|.en<|.rt 1 .no)<|ai Wt<|jL [jG,iG,F6] 53 272 (vR nN) (xe op n N L) (mH a len cap u row) (i6 v) hO hv hA ct<|jL [jG,iG,F6] 51 272 (vR jr) [(.agg [(u8<|aE),(i6 n2),(.U N2 0 L2)])] (mH a len cap u row) (i6 z) hO hz hB ct<|ai hp<|nM (st:=(⟨(⟨a.pre,len,cap,[.int .i64 a.steps]⟩:RS),u',row⟩:VS)) (s:=aq (ar++[(270,(some<|aN lS<|a.row (.ptr<|some (271,0)) (.slice (some (272,0)) (len) cap)<|i6 a.steps)),(271,(some<|.tok 3 u')),(272,(some<|bO row)),(273,some<|.cells 10 (Tr.fill [(u8<|kind),(i6 to),(u8<|op),(i6 n),(.U N 0 L),(u8<|aE),(i6 n2),(.U N2 0 L2),(.U N3 0 L3),(.U N4 0 L4)] 0 .nil) [])]) 274) (show((.tuple []):AV)= .tuple [] from rfl) (ct) ct ct
end gO
end
section
open Go Go.Rn Go.RowKit Go.Proofs
namespace gP
open cq eX cz dj cO cT fm eR fM fO fU fV gi gO gh
variable {L:bY} {v:AV×VS} {st:VS} {rest:List AV}
noncomputable section
open Classical in
def dH(R:VS->List AV->AV×VS->Prop)(st:VS)(rest:List AV):Option<|AV×VS:=if h:∃v,R st rest v then some h.choose else none
theorem IG{R:VS->List AV->AV×VS->Prop}(h:dH R st rest=some v):R st rest v:=by
 unfold dH at h;split at h
 ·rename_i q;injection h with h;rw[←h];exact q.choose_spec
 ·cases h
theorem Jp{R:VS->List AV->AV×VS->Prop}(hd:∀st rest v v',R st rest v->R st rest v'->v=v')(h:R st rest v):dH R st rest=some v:=by unfold dH;have q:∃v,R st rest v:=⟨v,h⟩;rw[dif_pos q,hd _ _ _ _ q.choose_spec h]
def vw(st:VS)(i z:Int):VS:=⟨⟨st.R.pre.set (2+i.toNat)<|.int .i64 z,st.R.len,st.R.cap,st.R.post⟩,st.u,st.row⟩
def aiP(st:VS)(u:AV):VS:=⟨st.R,u,st.row⟩
def zG(st:VS)(rest:List AV)(p:AV×VS):Prop:=∃(a:MN) (kind to:Int) (ea eb:Ex) (body other:List St) (z:Int),bA 10 st=true/\si st a/\rest=[.agg<|aM<|.mk kind to ea eb body other]/\0<=to/\to<8/\vR jr st [.agg<|aB ea]=some (.int .i64 z)/\p=(.tuple [],vw st to z)
def zo(st:VS)(rest:List AV)(p:AV×VS):Prop:=∃(a:MN) (kind to:Int) (ea eb:Ex) (body other:List St) (v z:Int) (fb:Bool),bA 10 st=true/\si st a/\rest=[.agg<|aM<|.mk kind to ea eb body other]/\0<=to/\to<8/\vR nN st [.agg<|aB ea]=some (.int .i64 v)/\fj (dX bW Bw) st.u [.int .i64 v]=some (.tuple [.int .i64 z,.bool fb],st.u)/\p=(.tuple [],vw st to z)
def yX(st:VS)(rest:List AV)(p:AV×VS):Prop:=∃(a:MN) (kind to:Int) (ea eb:Ex) (body other:List St) (v z:Int) (u':AV),bA 10 st=true/\si st a/\rest=[.agg<|aM<|.mk kind to ea eb body other]/\vR nN st [.agg<|aB ea]=some (.int .i64 v)/\vR jr st [.agg<|aB eb]=some (.int .i64 z)/\fj (dX bW F5) st.u [.int .i64 v,.int .i64 z]=some ((.int .i64 0:AV),u')/\p=(.tuple [],aiP st u')
theorem NL{k t k' t':Int}{a b a' b':Ex}{l m l' m':List St}(h:([.agg<|aM<|.mk k t a b l m]:List AV)=[.agg<|aM<|.mk k' t' a' b' l' m']):St.mk k t a b l m= .mk k' t' a' b' l' m':=by simp only[List.cons.injEq,AV.agg.injEq,_root_.and_true] at h;exact Mp _ _ h
theorem zG.bT(st:VS)(rest:List AV)(v v':AV×VS)(h:zG st rest v)(h':zG st rest v'):v=v':=by
 obtain⟨a,k,t,ea,eb,l,m,z,_,_,rfl,_,_,h1,rfl⟩:=h;obtain⟨a',k',t',XV,XW,l',m',z',_,_,k0,_,_,k1,rfl⟩:=h';have e:=NL k0;injection e with e1 e2 e3 e4 e5 e6
 subst e2;subst e3;rw[h1] at k1;simp only[Option.some.injEq,AV.int.injEq,true_and] at k1;rw[k1]
theorem zo.bT(st:VS)(rest:List AV)(v v':AV×VS)(h:zo st rest v)(h':zo st rest v'):v=v':=by
 obtain⟨a,k,t,ea,eb,l,m,x,z,fb,_,_,rfl,_,_,h1,h2,rfl⟩:=h;obtain⟨a',k',t',XV,XW,l',m',x',z',fb',_,_,k0,_,_,k1,k2,rfl⟩:=h';have e:=NL k0;injection e with e1 e2 e3 e4 e5 e6
 subst e2;subst e3;rw[h1] at k1;simp only[Option.some.injEq,AV.int.injEq,true_and] at k1;subst k1;rw[h2] at k2;simp only[Option.some.injEq,Prod.mk.injEq,AV.tuple.injEq,List.cons.injEq,AV.int.injEq,true_and,_root_.and_true] at k2;rw[k2.1]
theorem yX.bT(st:VS)(rest:List AV)(v v':AV×VS)(h:yX st rest v)(h':yX st rest v'):v=v':=by
 obtain⟨a,k,t,ea,eb,l,m,x,z,u,_,_,rfl,h1,h2,h3,rfl⟩:=h;obtain⟨a',k',t',XV,XW,l',m',x',z',u',_,_,k0,k1,k2,k3,rfl⟩:=h';have e:=NL k0;injection e with e1 e2 e3 e4 e5 e6
 subst e3;subst e4;rw[h1] at k1;rw[h2] at k2;simp only[Option.some.injEq,AV.int.injEq,true_and] at k1 k2;subst k1;subst k2;rw[h3] at k3;simp only[Option.some.injEq,Prod.mk.injEq,true_and] at k3;rw[k3]
def PF:FuncId×KE:=(64,.raw<|m8 10 3<|dH zG)
def O1:FuncId×KE:=(65,.raw<|m8 10 3<|dH zo)
def Oh:FuncId×KE:=(66,.raw<|m8 10 3<|dH yX)
theorem qf(e:Ex):([AV.agg<|aB e]:List AV).all AV.hi=true:=by rw[List.all_cons,Bq];rfl
theorem adV(hP:bE pg)(h:aV L):aV<|PF::L:=by
 refine Ig hP hJ xU iT iz lT lB h (CX hP cP) Tryz.func64 (body:=a9 pg 64 []) aW aW fun st rest y aZ e=>?_;obtain⟨a,kind,to,⟨op,n,l⟩,⟨aE,n2,l2⟩,body,other,z,ho,⟨h1,h2,h3⟩,rfl,h0,h8,hz,hp⟩:=IG e;injection hp with jd fL
 subst jd;subst fL;refine⟨aL.1 aW,fun B mc=>?_⟩;have hA:=qf<|.mk op n l;obtain⟨⟨pre,len,cap,post⟩,u,row⟩:=st;simp only at h1 h2;subst h1;subst h2;rw[aB] at hz hA;rw[aM,aB,aB];exact ahl mc ho h0 h8 hA hz
theorem acg(hP:bE pg)(h:aV L):aV<|O1::L:=by
 refine Ig hP hJ xU iT iz lT lB h (Fs hP<|Ii hP cP) Tryz.func65 (body:=a9 pg 65 []) aW aW fun st rest y aZ e=>?_;obtain⟨a,kind,to,⟨op,n,l⟩,⟨aE,n2,l2⟩,body,other,v,z,fb,ho,⟨h1,h2,h3⟩,rfl,h0,h8,hv,hg,hp⟩:=IG e;injection hp with jd fL
 subst jd;subst fL;refine⟨aL.1 aW,fun B mc=>?_⟩;have hA:=qf<|.mk op n l;obtain⟨⟨pre,len,cap,post⟩,u,row⟩:=st;simp only at h1 h2;subst h1;subst h2;rw[aB] at hv hA;rw[aM,aB,aB];exact afB mc ho h0 h8 hA hv hg
theorem aaY(hP:bE pg)(h:aV L):aV<|Oh::L:=by
 refine Ig hP hJ xU iT iz lT lB h (Fs hP<|CX hP<|acd hP cP) Tryz.func66 (body:=a9 pg 66 []) aW aW fun st rest y aZ e=>?_;obtain⟨a,kind,to,⟨op,n,l⟩,⟨aE,n2,l2⟩,body,other,v,z,u',ho,⟨h1,h2,h3⟩,rfl,hv,hz,hq,hp⟩:=IG e;injection hp with jd fL
 subst jd;subst fL;refine⟨aL.1 aW,fun B mc=>?_⟩;have hA:=qf<|.mk op n l;have hB:=qf<|.mk aE n2 l2;obtain⟨⟨pre,len,cap,post⟩,u,row⟩:=st;simp only at h1 h2;subst h1;subst h2;rw[aB] at hv hA hz hB;rw[aM,aB,aB];exact adU mc ho hA hB hv hz hq
end
end gP
end
