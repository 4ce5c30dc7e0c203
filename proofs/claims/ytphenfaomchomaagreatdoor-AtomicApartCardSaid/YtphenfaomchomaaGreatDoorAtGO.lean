import Derived.Test.YtphenfaomchomaaGreatDoorAtGN
import Derived.Test.YtphenfaomchomaaGreatDoorAtGK
import Derived.Test.YtphenfaomchomaaGreatDoorAtGJ
import Derived.Test.YtphenfaomchomaaGreatDoorRnGH
set_option maxRecDepth 100000
set_option maxHeartbeats 8000000
set_option linter.unusedSimpArgs false
set_option linter.unusedVariables false
section
open Go Go.Rn Go.RowKit Go.Proofs
namespace Kz
open cj eR cH dq fW kF nV qH D3 yf D4 D5 Br
variable {x an xn e:Int} {ws:List<|Int×Int} {bx xo xl gl X G a:Nat} {r:Nat->Nat} {fz:lF} {b:Bool} {t:Tr AV} {s:AS} {q:Int×Int} {T:Prop} {K:List Item}
noncomputable section
abbrev kP:bO:=[WB,VP,Wz,Xl,Xr,Xs,WD]
abbrev z0:AV:=.int .i64<|.ofNat 0
abbrev nl:AV:=.slice none 0<|.known 0
def Lx:List AV:=[z0,.bool false,nl,nl,nl,z0]
def p8(M val rt rd ws:AV):List AV:=[M,.ptr<|some (271,0),val,rt,rd,ws,nl,z0]
def ph(um:AV)(c:List AV):List<|Nat×Option ae:=ak++[(270,some<|.cells 6 (Tr.fill Lx 0 .nil) []),(271,some<|.tok 4 um),(272,some<|.cells 8 (Tr.fill c 0 .nil) [])]
def Hm:List (Int×Int)->AV
 |[]=>nl
 |p::r=>.slice (some (273,0)) (p::r).length<|.aq (p::r).length 2
def oR:List (Int×Int)->List (Nat×Option ae)
 |[]=>[]
 |p::r=>[(273,some<|aD aS<|p::r)]
def nR:List (Int×Int)->Nat
 |[]=>273
 |_::_=>274
def jP:List<|Nat×AV:=[(6,.ptr<|some (270,0)),(8,.ptr<|some (271,0)),(10,.ptr<|some (272,0))]
abbrev pj:Nat:=max Tryz.f6.ntmps 3
def nu:AF:=⟨6,aC jP,pj,[.code<|aQ pg 6 [1,1,1,1,0,0],.inLoop<|aQ pg 6 [1,1,1,1,0,0],.inBlock 0],[],none⟩
abbrev oD(um M:AV)(reads:List<|Int×Int):List<|Nat×Option ae:=ph um (p8 M z0 (.bool false) (Hm reads) nl)++oR reads
abbrev fA(um M:AV)(reads:List<|Int×Int):AS:=ah (oD um M reads)<|nR reads
abbrev kQ(B:aI)(v:AV)(fr:AF)(s:AS):Prop:=au pg B 270 (Fin pg (az Tryz.f6) fun y _=>y=v) fr s
theorem Re{nx:Nat}{l0 l:List<|Nat×AV}{o0 o:List<|Nat×Option ae}(hs:273<=bx/\bx<top)(ha:273<=a/\a<top)(hn:nx=274\/nx=273/\bx<=a)(hl:∀r:Nat->Nat,(∀k,k<273->r k=k)->(∀k,top<=k->r k=k)->r 273=a->∀p∈l,p.1<top/\∃x,(p.1,x)∈l0/\jF fz r x p.2)(ho:∀r:Nat->Nat,(∀k,k<273->r k=k)->(∀k,top<=k->r k=k)->r 273=a->∀p∈o,p.1<nx/\∀y,p.2=some y->y.kj=true/\∃x,(r p.1,some x)∈o0/\fM x y/\fD fz r x y)(hz:∀p∈fz,nx=273/\273<=p.1/\p.1<top/\FU p.2.1=some p.2.2/\∃N t z,(p.1,some<|.cells N t z)∈o0/\∀i x,p.2.2[i]? =some x->i<N/\cellAt t z i=some x/\x.bR=true/\x.cP=true):hU FU 270 bx l0 o0 l o nx:=by
 let r:Nat->Nat:=fun k=>if k<273\/top<=k then k else if k=273 then a else max k bx
 have r1:∀k,k<273->r k=k:=fun k hk=>if_pos<|.inl hk;have r2:∀k,top<=k->r k=k:=fun k hk=>if_pos<|.inr hk;have r3:r 273=a:=by show(if _ then _ else _)=_;rw[if_neg eH,if_pos rfl]
 have t0:274<top:=by unfold top;omega
 refine⟨fz,r,fun k hk=>r1 k ab,fun k c d=>?_,r2,by omega,hl r r1 r2 r3,fun p hp=>?_,fun p hp q hq _ _ e=>?_,fun p hp=>?_,fun p hp q hq _ e=>?_⟩
 ·by_cases q:k=273
  ·rw[q,r3];omega
  ·show bx<=(if _ then _ else _)/\(if _ then _ else _)<top;rw[if_neg ab,if_neg q];omega
 ·obtain⟨c,d⟩:=ho r r1 r2 r3 p hp;refine⟨by omega,fun y hy=>?_⟩;obtain⟨e1,x,e2,e3,e4⟩:=d y hy;refine⟨?_,e1,x,e2,e3,e4⟩;by_cases q:p.1=273
  ·rw[q,r3];exact ha.2
  ·rw[r1 _ ab];omega
 ·have c:=(ho r r1 r2 r3 p hp).1;have d:=(ho r r1 r2 r3 q hq).1;by_cases e1:p.1=273<;>by_cases e2:q.1=273
  ·rw[e1,e2]
  ·rw[e1,r3,r1 _ ab] at e;omega
  ·rw[e2,r3,r1 _ ab] at e;omega
  ·rw[r1 _ ab,r1 _ ab] at e;exact e
 ·exact(hz p hp).2.2
 ·have c:=(ho r r1 r2 r3 q hq).1;have d:=hz p hp;rw[r1 _ ab] at e;omega
theorem OU(hr:∀k,k<273->r k=k){um:AV}{c c':List AV}(hc:ly fz r c c')(h8:c'.length=8)(h1:c'.all AV.bR=true):∀p∈ph um c',p.1<273/\∀y,p.2=some y->y.kj=true/\∃x,(r p.1,some x)∈ph um c/\fM x y/\fD fz r x y:=fun p hp=>by
 unfold ph at hp ⊢;rcases List.mem_append.1 hp with hp|hp
 ·obtain⟨a,b⟩:=DI (fz:=fz) (fun k hk=>hr k ab) p hp;refine⟨by omega,fun y hy=>?_⟩;obtain⟨d,e⟩:=b y hy;rw[hr _ ab];exact⟨d,y,List.mem_append_left _ (by rw[←hy];exact hp),fM.refl _,e⟩
 ·simp only[List.mem_cons,List.not_mem_nil,or_false] at hp;rcases hp with rfl|rfl|rfl
  ·refine⟨by show 270<273;omega,fun y hy=>?_⟩;cases hy;rw[show r (270,some<|ae.cells 6 (Tr.fill Lx 0 .nil) []).1=270 from hr 270 ab];exact⟨rfl,_,List.mem_append_right _ List.mem_cons_self,fM.refl _,fD.cells (l:=Lx) (m:=Lx) (by show 6<=top;unfold top;omega) ⟨(bp.int _ _).z,(bp.bool _).z,bp.yN.z,bp.yN.z,bp.yN.z,(bp.int _ _).z,trivial⟩ rfl⟩
  ·refine⟨by show 271<273;omega,fun y hy=>?_⟩;cases hy;rw[show r (271,some<|ae.tok 4 um).1=271 from hr 271 ab];exact⟨rfl,_,List.mem_append_right _<|List.mem_cons_of_mem _ List.mem_cons_self,fM.refl _,fun _ _ _ _ _ _=>trivial⟩
  ·refine⟨by show 272<273;omega,fun y hy=>?_⟩;cases hy;rw[show r (272,some<|ae.cells 8 (Tr.fill c' 0 .nil) []).1=272 from hr 272 ab];have e8:c.length=8:=hc.length.trans h8;refine⟨rfl,.cells 8 (Tr.fill c 0 .nil) [],List.mem_append_right _<|List.mem_cons_of_mem _<|List.mem_cons_of_mem _ List.mem_cons_self,xc,?_⟩;have:=fD.cells (fz:=fz) (r:=r) (l:=c) (m:=c') (by rw[e8];unfold top;omega) hc h1;rw[e8,h8] at this;exact this
abbrev Rf(o0:List<|Nat×Option ae)(um M:AV)(reads:List<|Int×Int)(bx:Nat):Prop:=(jP.map (fun q=>some q.2)=jP.map (fun q=>some q.2))/\(o0.map (fun q=>q.2)=o0.map (fun q=>q.2))/\hU FU 270 bx jP o0 jP (oD um M reads) (nR reads)/\(nu=nu/\fA um M reads=fA um M reads)
theorem OV(hr:∀k,k<273->r k=k):∀p∈jP,p.1<top/\∃x,(p.1,x)∈jP/\jF fz r x p.2:=fun p hp=>by
 simp only[jP,List.mem_cons,List.not_mem_nil,or_false] at hp;rcases hp with rfl|rfl|rfl
 ·exact⟨by show 6<top;unfold top;omega,_,mi 0,(bp.ptr<|hr 270 ab).z⟩
 ·exact⟨by show 8<top;unfold top;omega,_,mi 1,(bp.ptr<|hr 271 ab).z⟩
 ·exact⟨by show 10<top;unfold top;omega,_,mi 2,(bp.ptr<|hr 272 ab).z⟩
section
variable {B:aI} {v um lq:AV} {N o L:Nat} {reads:List<|Int×Int}
theorem OW(hr:∀k,k<273->r k=k)(ht:∀k,top<=k->r k=k)(hN:top<=N){val rt rd YE ws Rc:AV}(h1:jF fz r val val)(h2:jF fz r rt rt)(h3:jF fz r rd YE)(h4:jF fz r ws Rc):ly fz r (p8 (.U N o L) val rt rd ws)<|p8 (.U N o L) val rt YE Rc:=⟨(bp.U (ht _ hN) ht).z,(bp.ptr<|hr 271 ab).z,h1,h2,h3,h4,bp.yN.z,(bp.int _ _).z,trivial⟩
theorem afT(hN:top<=N)(hs:273<=bx/\bx<290):Rf (oD um (.U N o L) []) um (.U N o L) [] bx:=⟨rfl,rfl,Re (a:=bx) (fz:=[]) ⟨hs.1,by unfold top;omega⟩ ⟨hs.1,by unfold top;omega⟩ (.inr ⟨rfl,Nat.le_refl _⟩) (fun r r1 r2 r3=>OV r1) (fun r r1 r2 r3 p hp=>by rw[show oD um (.U N o L) []=ph um (p8 (.U N o L) z0 (.bool false) nl nl) from List.append_nil _] at hp ⊢;exact OU r1 (OW r1 r2 hN (bp.int _ _).z (bp.bool _).z bp.yN.z bp.yN.z) rfl rfl p hp) (fun p hp=>by cases hp),rfl,rfl⟩
theorem OX{r:List<|Int×Int}(hN:top<=N)(ha:273<=a/\a<290)(hs:273<=bx/\bx<290)(hl:(q::r).length<=1000000):Rf (ph um (p8 (.U N o L) z0 (.bool false) (.slice (some (a,0)) (q::r).length<|.aq (q::r).length 2) nl)++[(a,some<|aD aS<|q::r)]) um (.U N o L) (q::r) bx:=
 ⟨rfl,rfl,Re (a:=a) (fz:=[]) ⟨hs.1,by unfold top;omega⟩ ⟨ha.1,by unfold top;omega⟩ (.inl rfl) (fun r r1 r2 r3=>OV r1) (fun f r1 r2 r3 p hp=>by
  rcases List.mem_append.1 hp with hp|hp
  ·obtain⟨c1,c2⟩:=OU r1 (OW r1 r2 hN (bp.int _ _).z (bp.bool _).z (bp.slice (n:=a) r3).z bp.yN.z) rfl rfl p hp;refine⟨by show p.1<274;omega,fun y hy=>?_⟩;obtain⟨d1,x,d2,d3,d4⟩:=c2 y hy;exact⟨d1,x,List.mem_append_left _ d2,d3,d4⟩
  ·rw[oR,List.mem_singleton] at hp;subst hp;refine⟨by show 273<274;omega,fun y hy=>?_⟩;cases hy;exact⟨rfl,_,List.mem_append_right _ (by show(f 273,_)∈_;rw[r3];exact List.mem_singleton.2 rfl),fM.refl _,(lW.aD (fun x=>⟨rfl,rfl⟩)<|Fs hl).z⟩) (fun p hp=>by cases hp),rfl,rfl⟩
abbrev pk(k:Int)(an xn:Int):AV:=.agg [.int .u8 k,.int .i64 an,.int .i64 xn]
abbrev uF:AV->List AV->Option AV:=oK ep fun a rest=>(Ky a rest).map (·.1)
theorem cD(mc:Mt kP B){M:AV}(H:kQ B v nu<|fA lq M reads)(p:Pl)(x:T)(h:T=wp (en kP) 900 6 (.fr 6 pj K t s) p (az Tryz.f6) (fun y _ _=>y=v) (fun fr s1 _=>fr=nu/\s1=fA lq M reads))(h0:Nat.ble 270 s.nx=true):kQ B v ⟨6,t,pj,K,[],none⟩ s:=wC mc (C:=fun fr s1 _=>fr=nu/\s1=fA lq M reads) BC p x h h0
theorem jy(mc:Mt kP B)(hN:top<=N)(hl:reads.length<=100000)(k1:uF um []=some (pk 1 an xn))(k2:iK (gV ep Gi) um []=some (.int .i64 0,lq))(H:kQ B v nu<|fA lq (.U N o L) reads):kQ B v nu<|fA um (.U N o L) reads:=by
 have rn:Rf (oD lq (.U N o L) reads) lq (.U N o L) reads<|nR reads+1:=by
  cases reads with
  |nil=>exact afT hN (by show 273<=274/\274<290;omega)
  |cons q r=>exact OX (a:=273) hN ab (by show 273<=275/\275<290;omega) ab
 have T:=tR kP 14 4 271 uF [] um (pk 1 an xn) k1 (ai k2 rn) rfl;clear k1 k2 rn;exact cD mc H (.st 3<|.rg<|.go 1<|.cg (pk 1 an xn) (tG 271) (tQ 4 271 um)<|.go 2<|.en<|.st 7<|.rg<|.go 1<|.kt (.int .i64 0) lq<|.en<|.st 2<|.rn jP (oD lq (.U N o L) reads) jP (oD lq (.U N o L) reads) (nR reads+1) (nR reads) .no) T (by clear T H;cases reads<;>kernel_rfl) (by cases reads<;>kernel_rfl)
theorem aiO(mc:Mt kP B)(hN:top<=N)(k1:uF um []=some (pk 2 an xn))(ha:0<=an/\an<(L:Int))(hx:cG FU N (o+an.toNat*1+0) 1=some [.int .i64 x])(k2:iK (gV ep zL) um [.int .i64 x]=some (.int .i64 0,lq))(H:kQ B v nu<|fA lq (.U N o L) [(an,x)]):kQ B v nu<|fA um (.U N o L) []:=cD mc H (.st 3<|.rg<|.go 1<|.cg (pk 2 an xn) (tG 271) (tQ 4 271 um)<|.go 2<|.en<|.st 10<|.rg<|.go 3<|.il<|.st 1<|.rg<|.go 5<|.eF<|.eG [.int .i64 x]<|.go 1<|.en<|.st 2<|.rg<|.go 5<|.kt (.int .i64 0) lq<|.en<|.rt 1<|.en<|.st 2<|.rn jP (ph lq (p8 (.U N o L) z0 (.bool false) (.slice (some (275,0)) [(an,x)].length<|.aq [(an,x)].length 2) nl)++[(275,some<|aD aS [(an,x)])]) jP (oD lq (.U N o L) [(an,x)]) 276 274 .no) (tR kP 14 4 271 uF [] um (pk 2 an xn) k1 (ai (show(0:Int)<=an from ha.1)<|ai (show an<(L:Int) from ha.2)<|ai hN<|ai hx<|ai k2<|OX (um:=lq) (o:=o) (L:=L) (q:=(an,x)) (r:=[]) (a:=275) (bx:=276) hN ab ab<|by simp) rfl) bW bW
theorem aiP{r:List<|Int×Int}(mc:Mt kP B)(hN:top<=N)(hl:(q::r).length<=100000)(k1:uF um []=some (pk 2 an xn))(ha:0<=an/\an<(L:Int))(hx:cG FU N (o+an.toNat*1+0) 1=some [.int .i64 x])(k2:iK (gV ep zL) um [.int .i64 x]=some (.int .i64 0,lq))(H:kQ B v nu<|fA lq (.U N o L)<|q::(r++[(an,x)])):kQ B v nu<|fA um (.U N o L)<|q::r:=cD mc H (.st 3<|.rg<|.go 1<|.cg (pk 2 an xn) (tG 271) (tQ 4 271 um)<|.go 2<|.en<|.st 10<|.rg<|.go 3<|.il<|.st 1<|.rg<|.go 5<|.eF<|.eG [.int .i64 x]<|.go 1<|.en<|.st 1<|.rg<|.go 10<|.ap (Int×Int) aS (q::r) (an,x)<|.go 4<|.en<|.rg<|.go 5<|.kt (.int .i64 0) lq<|.en<|.rt 1<|.en<|.st 2<|.rn jP (ph lq (p8 (.U N o L) z0 (.bool false) (.slice (some (276,0)) (q::(r++[(an,x)])).length<|.aq (q::(r++[(an,x)])).length 2) nl)++[(276,some<|aD aS<|q::(r++[(an,x)]))]) jP (oD lq (.U N o L)<|q::(r++[(an,x)])) 277 274 .no) (tR kP 14 4 271 uF [] um (pk 2 an xn) k1 (ai (show(0:Int)<=an from ha.1)<|ai (show an<(L:Int) from ha.2)<|ai hN<|ai hx<|QI aS (q::r) (an,x) (K:=2) (nY:=16) Xp (by unfold room;omega) eH<|ai k2<|OX (um:=lq) (o:=o) (L:=L) (q:=q) (r:=r++[(an,x)]) (a:=276) (bx:=277) hN ab ab (by have e:(q::(r++[(an,x)])).length=(q::r).length+1:=(by simp only[List.length_cons,List.length_append,List.length_nil]);omega)) rfl) bW bW
def fH:AF:=⟨6,aC jP,pj,[.code<|aQ pg 6 [1,1,1,1,0,0,0,1,0],.code<|aQ pg 6 [1,1,1,1,0,0,0,1,1],.inBlock 1,.inLoop<|aQ pg 6 [1,1,1,1,0,0],.inBlock 0],[],none⟩
abbrev yG(um M:AV)(x:Int)(b:Bool)(reads ws:List<|Int×Int):AS:=ah (ph um<|p8 M (.int .i64 x) (.bool b) (aw aS reads)<|aw aS ws) 273
abbrev EG(o0:List<|Nat×Option ae)(um M:AV)(x:Int)(b:Bool)(reads ws:List<|Int×Int)(bx:Nat):Prop:=(jP.map (fun q=>some q.2)=jP.map (fun q=>some q.2))/\(o0.map (fun q=>q.2)=o0.map (fun q=>q.2))/\hU FU 270 bx jP o0 jP (ph um<|p8 M (.int .i64 x) (.bool b) (aw aS reads)<|aw aS ws) 273/\(fH=fH/\yG um M x b reads ws=yG um M x b reads ws)
def Ly:List (Int×Int)->lF
 |[]=>[]
 |p::r=>[(273,nm ((p::r).map aS).flatten,((p::r).map aS).flatten)]
theorem afU(ht:∀k,top<=k->r k=k):jF (Ly reads) r (Hm reads)<|aw aS reads:=by
 cases reads with
 |nil=>exact Fv
 |cons p l=>exact IL (List.mem_singleton.2 rfl) ht rfl
theorem VX{w0:AV}(hN:top<=N)(hs:273<=bx/\bx<290)(hl:reads.length<=100000)(hw:∀r:Nat->Nat,(∀k,top<=k->r k=k)->jF (Ly reads) r w0 (aw aS ws)):EG (ph um (p8 (.U N o L) (.int .i64 x) (.bool b) (Hm reads) w0)++oR reads) um (.U N o L) x b reads ws bx:=
 ⟨rfl,rfl,Re (a:=bx) (fz:=Ly reads) ⟨hs.1,by unfold top;omega⟩ ⟨hs.1,by unfold top;omega⟩ (.inr ⟨rfl,Nat.le_refl _⟩) (fun r r1 r2 r3=>OV r1) (fun r r1 r2 r3 p hp=>by
  obtain⟨c1,c2⟩:=OU r1 (OW r1 r2 hN (bp.int _ _).z (bp.bool _).z (afU r2)<|hw r r2) rfl rfl p hp;refine⟨c1,fun y hy=>?_⟩;obtain⟨d1,x,d2,d3,d4⟩:=c2 y hy;exact⟨d1,x,List.mem_append_left _ d2,d3,d4⟩) (fun p hp=>by
  cases reads with
  |nil=>cases hp
  |cons q l=>rw[Ly,List.mem_singleton] at hp;subst hp;exact⟨rfl,Nat.le_refl _,IM yf.yg eH 273 eH<|List.mem_append_right _ List.mem_cons_self⟩),rfl,rfl⟩
theorem cT(mc:Mt kP B){M:AV}(H:kQ B v fH<|yG um M x b reads ws)(p:Pl)(z:T)(h:T=wp (en kP) 900 6 (.fr 6 pj K t s) p (az Tryz.f6) (fun y _ _=>y=v) (fun fr s1 _=>fr=fH/\s1=yG um M x b reads ws))(h0:Nat.ble 270 s.nx=true):kQ B v ⟨6,t,pj,K,[],none⟩ s:=wC mc (C:=fun fr s1 _=>fr=fH/\s1=yG um M x b reads ws) BC p z h h0
theorem WE:273<=nR reads+1/\nR reads+1<290:=by
 cases reads with
 |nil=>show 273<=274/\274<290;omega
 |cons _ _=>show 273<=275/\275<290;omega
theorem oe(mc:Mt kP B)(hN:top<=N)(hl:reads.length<=100000)(k1:uF um []=some (pk 3 an x))(k2:oK ep Hl um []=some (aw aS ws))(H:kQ B v fH<|yG um (.U N o L) x false reads ws):kQ B v nu<|fA um (.U N o L) reads:=by have T:=tR kP 14 4 271 uF [] um (pk 3 an x) k1 (tR kP 17 4 271 (oK ep Hl) [] um (aw aS ws) k2 (VX (um:=um) (o:=o) (L:=L) (x:=x) (b:=false) (ws:=ws) (w0:=aw aS ws) hN (WE (reads:=reads)) hl fun r ht=>adk ht)<|aK.2<|cN _) rfl;clear k1 k2;exact cT mc H (.st 3<|.rg<|.go 1<|.cg (pk 3 an x) (tG 271) (tQ 4 271 um)<|.go 2<|.en<|.st 12<|.rg<|.go 5<|.cg (aw aS ws) (tG 271) (tQ 4 271 um)<|.go 8<|.en<|.st 2<|.rn jP (ph um (p8 (.U N o L) (.int .i64 x) (.bool false) (Hm reads)<|aw aS ws)++oR reads) jP (ph um<|p8 (.U N o L) (.int .i64 x) (.bool false) (aw aS reads)<|aw aS ws) (nR reads+1) 273 .no) T (by clear T H;cases reads<;>kernel_rfl) (by cases reads<;>kernel_rfl)
theorem EH(mc:Mt kP B)(hN:top<=N)(hl:reads.length<=100000)(k1:uF um []=some (pk 4 an xn))(H:kQ B v fH<|yG um (.U N o L) 0 true reads []):kQ B v nu<|fA um (.U N o L) reads:=by have T:=tR kP 14 4 271 uF [] um (pk 4 an xn) k1 (VX (um:=um) (o:=o) (L:=L) (x:=0) (b:=true) (ws:=[]) (w0:=nl) hN (WE (reads:=reads)) hl fun r _=>Fv) rfl;clear k1;exact cT mc H (.st 3<|.rg<|.go 1<|.cg (pk 4 an xn) (tG 271) (tQ 4 271 um)<|.go 2<|.en<|.st 15<|.rn jP (ph um (p8 (.U N o L) (.int .i64 0) (.bool true) (Hm reads) nl)++oR reads) jP (ph um<|p8 (.U N o L) (.int .i64 0) (.bool true) (aw aS reads)<|aw aS []) (nR reads+1) 273 .no) T (by clear T H;cases reads<;>kernel_rfl) (by cases reads<;>kernel_rfl)
abbrev GM(x:Int)(b:Bool)(reads ws:List<|Int×Int)(mm:List Int)(st:Int):AV:=.tuple [.agg [.int .i64 x,.bool b,aw aS reads,aw aS ws,aw encI mm,.int .i64 st],.int .i64 0]
theorem tlD(mc:Mt kP B){st:Int}{mm:List Int}(k1:oK ep D4.EH um []=some (.int .i64 st))(k2:bj (aR DL) [.U N o L,aw aS ws]=some (aw encI mm)):kQ B (GM x b reads ws mm st) fH<|yG um (.U N o L) x b reads ws:=wS mc (R:=fun y _=>y=GM x b reads ws mm st) (.rg<|.go 3<|.cg (.int .i64 st) (tG 271) (tQ 4 271 um)<|.go 9<|.kn (aw encI mm)<|.go 8<|.en<|.rt 3 .no)<|tR kP 18 4 271 (oK ep D4.EH) [] um (.int .i64 st) k1 (ai k2<|rX<|GM x b reads ws mm st) rfl
abbrev wF(e:Int):AV:=.tuple [.agg [z0,.bool false,nl,nl,nl,z0],.int .i64 e]
theorem YF{go:Nat}(mc:Mt kP B)(k:rL xT [.U X xo xl,.int .i64 (L:Int),.U G go gl]=some (none,yh e))(h:(rL xT [.U X xo xl,.int .i64 (L:Int),.U G go gl]=some (none,yh e)/\wF e=wF e)=wp (en kP) 900 6 (.fr 6 pj (cv 6 []) (dc [.U X xo xl,.U N o L,.U G go gl])<|ah ak 270) (.st 3<|.rg<|.go 4<|.nt none (yh e)<|.go 5<|.en<|.rt 7 .no) (az Tryz.f6) (fun y _ _=>y=wF e) (fun _ _ _=>False):=by as_aux_lemma=>kernel_rfl):kQ B (wF e) ⟨6,dc [.U X xo xl,.U N o L,.U G go gl],pj,(cv 6 []),[],none⟩<|ah ak 270:=wS mc (R:=fun y _=>y=wF e) _ ⟨k,rfl⟩ h bW
theorem YG{go:Nat}(mc:Mt kP B)(he:e=1\/e=4)(k:rL xT [.U X xo xl,.int .i64 (L:Int),.U G go gl]=some (none,yh e)):kQ B (wF e) ⟨6,dc [.U X xo xl,.U N o L,.U G go gl],pj,(cv 6 []),[],none⟩<|ah ak 270:=by
 rcases he with rfl|rfl
 ·exact YF mc k
 ·exact YF mc k
theorem EJ{go:Nat}(mc:Mt kP B)(k:rL xT [.U X xo xl,.int .i64 (L:Int),.U G go gl]=some (some um,yh 0))(H:kQ B v nu<|fA um (.U N o L) []):kQ B v ⟨6,dc [.U X xo xl,.U N o L,.U G go gl],pj,(cv 6 []),[],none⟩<|ah ak 270:=cD mc H (.st 3<|.rg<|.go 4<|.nt (some um) (yh 0)<|.go 5<|.en<|.st 9<|.ls jP (oD um (.U N o L) []) 273 .no) (ai k (show(jP.map (fun q=>some q.2)=jP.map (fun q=>some q.2))/\((oD um (.U N o L) []).map (fun q=>q.2)=(oD um (.U N o L) []).map (fun q=>q.2))/\(nu=nu/\fA um (.U N o L) []=fA um (.U N o L) []) from⟨rfl,rfl,rfl,rfl⟩)) bW bW
end
end
end Kz
end
section
open Go Go.Rn Go.RowKit Go.Proofs
namespace D6
open cj cH cU dm eZ fQ iA dq uw mQ mI tW rD
variable {k N L N0 L0:Nat} {v:AV} {dp i bQ n0 c:Int} {B:aI}
noncomputable section
def rP(f:Ex->Int×Bool):List Ex->Int->Int×Bool
 |[],m=>(m,false)
 |a::r,m=>if(f a).2=true then(0,true) else if m+(f a).1>1000 then(0,true) else rP f r (m+(f a).1)
def dK:Nat->Ex->Int×Bool
 |0,_=>(0,true)
 |k+1,.mk _ _ args=>if k=0\/args.length>10 then(0,true) else rP (dK k) args 1
def pz(k:Nat)(args:List AV)(v:AV):Prop:=∃e:Ex,args=[.agg<|aB e,.int .i64<|22 - (k:Int)]/\(1<=k/\k<=22)/\v= .tuple [.int .i64 (dK k e).1,.bool (dK k e).2]
theorem pz.bM(args:List AV)(v v':AV)(h:pz k args v)(h':pz k args v'):v=v':=by obtain⟨e,rfl,_,rfl⟩:=h;obtain⟨e',h1,_,rfl⟩:=h';simp only[List.cons.injEq,AV.agg.injEq,_root_.and_true] at h1;rw[ny _ _ h1]
def ow(k:Nat):FuncId×KE:=(20,.val<|aR<|pz k)
def kr(f:List St->Int×Bool):List St->Int->Int×Bool
  |[],m=>(m,false)
  | s::r,m=>if(dK 22<|cV s).2=true\/(dK 22<|iv s).2=true\/(f<|bG s).2=true\/(f<|bF s).2=true then(0,true)
    else if m+1+(dK 22<|cV s).1+(dK 22<|iv s).1+(f<|bG s).1+(f<|bF s).1>3000 then(0,true)
    else kr f r (m+1+(dK 22<|cV s).1+(dK 22<|iv s).1+(f<|bG s).1+(f<|bF s).1)
def cR:Nat->List St->Int×Bool
 |0,_=>(0,true)
 |k+1,l=>if k=0\/l.length>500 then(0,true) else kr (cR k) l 0
def rG(k:Nat)(args:List AV)(v:AV):Prop:=∃l:List St,args=[.U (nm<|bz l) 0 l.length,.int .i64<|22 - (k:Int)]/\(1<=k/\k<=22)/\v= .tuple [.int .i64 (cR k l).1,.bool (cR k l).2]
theorem rG.bM(args:List AV)(v v':AV)(h:rG k args v)(h':rG k args v'):v=v':=by obtain⟨e,rfl,_,rfl⟩:=h;obtain⟨e',h1,_,rfl⟩:=h';simp only[List.cons.injEq,AV.U.injEq,true_and,_root_.and_true] at h1;rw[sD _ _<|te (lO _) (lO _) h1.1]
def vE(k:Nat):FuncId×KE:=(9,.val<|aR<|rG k)
def D7(dp m i:Int):List<|Nat×AV:=[(1,(i6 dp)),(2,(.ptr<|some (270,0))),(6,(i6 m)),(7,(i6 i))]
def rQ(dp m i:Int):AF:=⟨20,aC<|D7 dp m i,(max Tryz.f20.ntmps 2),[.code<|aQ pg 20 [1,1,1,0,1,0,0],.inLoop<|aQ pg 20 [1,1,1,0,1,0,0],.inBlock 0,.code<|aQ pg 20 [1,1,1,1]],[],none⟩
def nw(op n:Int)(N L:Nat):List<|Nat×Option ae:=(ak++[(270,some<|.cells 3 (Tr.fill [(u8<|op),(i6 n),(.U N 0 L)] 0 .nil) [])])
theorem aiQ(dp m i op n:Int)(N L:Nat):((D7 dp m i).map (fun q=>some q.2)=(D7 dp m i).map (fun q=>some q.2))/\((nw op n N L).map (fun q=>q.2)=(nw op n N L).map (fun q=>q.2))/\(rQ dp m i=rQ dp m i/\ah (nw op n N L) 271=ah (nw op n N L) 271):=⟨rfl,rfl,rfl,rfl⟩
theorem sdT{op n m:Int}(mc:Mt [ow k] B)(hn:top<=N)(hi:0<=i)(hL:L<=10)(hm:0<=m/\m<=1000)(jr:0<=c/\c<=1000)(hd:0<=dp/\dp<=20)(hx:cG FU N (0+i.toNat*3+0) 3=some [(u8<|bQ),(i6 n0),(.U N0 0 L0)])(h1:i<(L:Int))(hc:bj (aR<|pz k) [(.agg [(u8<|bQ),(i6 n0),(.U N0 0 L0)]),.int .i64<|dp+1]=some (.tuple [.int .i64 c,.bool true]))(hv:(.tuple [.int .i64 0,.bool true])=v):au pg B 270 (Fin pg (az Tryz.f20) fun y _=>y=v) (rQ dp m i)<|ah (nw op n N L) 271:=by exact wS mc (.st 2<|.rg<|.go 4<|.fk (.en<|.st 5<|.rg<|.go 3<|.eF<|.eG [(u8<|bQ),(i6 n0),(.U N0 0 L0)]<|.go 1<|.vl (i6<|dp+1)<|.kn (.tuple [(i6 c),(.bool true)])<|.go 5<|.en<|.st 1<|.rg<|.go 2<|.vl (i6<|m+c)<|.go 1<|.en<|.rt 6 .no)<|.no)<|aT (i<(L:Int)) (fun _=>(dU i (L:Int)<|ai hn<|ai hx<|ai (wI<|dp+1)<|ai hc<|ai (wI<|m+c) (show(.tuple [i0,(.bool true)])=v from hv))) gb
theorem sdF{op n m:Int}(mc:Mt [ow k] B)(hn:top<=N)(hi:0<=i)(hL:L<=10)(hm:0<=m/\m<=1000)(jr:0<=c/\c<=1000)(hd:0<=dp/\dp<=20)(hx:cG FU N (0+i.toNat*3+0) 3=some [(u8<|bQ),(i6 n0),(.U N0 0 L0)])(h1:i<(L:Int))(hc:bj (aR<|pz k) [(.agg [(u8<|bQ),(i6 n0),(.U N0 0 L0)]),.int .i64<|dp+1]=some (.tuple [.int .i64 c,.bool false]))(hv:m+c>1000->(.tuple [.int .i64 0,.bool true])=v)(H:¬((m+c)>(1000:Int))->au pg B 270 (Fin pg (az Tryz.f20) fun y _=>y=v) (rQ dp (m+c)<|i+1) (ah (nw op n N L) 271)):au pg B 270 (Fin pg (az Tryz.f20) fun y _=>y=v) (rQ dp m i)<|ah (nw op n N L) 271:=by exact wC mc (C:=(fun fr s1 _=>fr=rQ dp (m+c) (i+1)/\s1=ah (nw op n N L) 271/\¬((m+c)>(1000:Int)))) (fun fr s1 p hC=>by obtain⟨rfl,rfl,hq⟩:=hC;exact H hq) (.st 2<|.rg<|.go 4<|.fk (.en<|.st 5<|.rg<|.go 3<|.eF<|.eG [(u8<|bQ),(i6 n0),(.U N0 0 L0)]<|.go 1<|.vl (i6<|dp+1)<|.kn (.tuple [(i6 c),(.bool false)])<|.go 5<|.en<|.st 1<|.rg<|.go 2<|.vl (i6<|m+c)<|.go 1<|.en<|.st 1<|.rg<|.go 3<|.fk (.go 1<|.en<|.rt 4 .no)<|.go 1<|.en<|.st 3<|.rg<|.go 1<|.vl (i6<|i+1)<|.go 1<|.en<|.st 1<|.ls (D7 dp (m+c)<|i+1) (nw op n N L) 271 .no)<|.no)<|aT (i<(L:Int)) (fun _=>(dU i (L:Int)<|ai hn<|ai hx<|ai (wI<|dp+1)<|ai hc<|ai (wI<|m+c)<|aT ((m+c)>1000) (fun _=>(show(.tuple [i0,(.bool true)])=v from hv ab)) fun _=>(ai (wI<|i+1)<|ai (mS<|D7 dp (m+c)<|i+1)<|ai (mO<|nw op n N L) (show(rQ dp (m+c)<|i+1)=(rQ dp (m+c)<|i+1)/\(ah (nw op n N L) 271)=(ah (nw op n N L) 271)/\¬((m+c)>(1000:Int)) from⟨rfl,rfl,by omega⟩)))) gb
theorem sdE{op n m:Int}(mc:Mt [ow k] B)(h1:(L:Int)<=i)(hv:(.tuple [.int .i64 m,.bool false])=v):au pg B 270 (Fin pg (az Tryz.f20) fun y _=>y=v) (rQ dp m i)<|ah (nw op n N L) 271:=by exact wS mc (.st 2<|.rg<|.go 4<|.fk (.no)<|.en<|.rt 5 .no) W1
theorem sdG{op n:Int}(mc:Mt [ow k] B)(hd:dp<=20)(hL:L<=10)(H:au pg B 270 (Fin pg (az Tryz.f20) fun y _=>y=v) (rQ dp 1 0)<|ah (nw op n N L) 271):au pg B 270 (Fin pg (az Tryz.f20) fun y _=>y=v) (sF 20 Tryz.f20 [(.agg [(u8<|op),(i6 n),(.U N 0 L)]),(i6 dp)])<|ah ak 270:=by exact wC mc (C:=(fun fr s1 _=>fr=rQ dp 1 0/\s1=ah (nw op n N L) 271)) mT (.st 4<|.rg<|.go 1<|.fk (.no)<|.go 4<|.fk (.no)<|.go 1<|.en<|.st 9<|.ls (D7 dp 1 0) (nw op n N L) 271 .no)<|aT (dp>20) gb fun _=>(aT ((L:Int)>10) gb fun _=>(aiQ dp 1 0 op n N L))
theorem sdB{op n:Int}(mc:Mt [ow k] B)(hd:dp>20\/(L:Int)>10)(hv:(.tuple [.int .i64 0,.bool true])=v):au pg B 270 (Fin pg (az Tryz.f20) fun y _=>y=v) (sF 20 Tryz.f20 [(.agg [(u8<|op),(i6 n),(.U N 0 L)]),(i6 dp)])<|ah ak 270:=by exact wS mc (.st 4<|.rg<|.go 1<|.fk (.go 6<|.en<|.rt 4 .no)<|.go 4<|.fk (.go 1<|.en<|.rt 4 .no)<|.no)<|aT (dp>20) (fun _=>(show(.tuple [i0,(.bool true)])=v from hv)) fun _=>(aT ((L:Int)>10) (fun _=>(show(.tuple [i0,(.bool true)])=v from hv)) gb)
def D8(N L:Nat)(dp m i:Int):List<|Nat×AV:=[(0,(.U N 0 L)),(1,(i6 dp)),(6,(i6 m)),(7,(i6 i))]
def rR(N L:Nat)(dp m i:Int):AF:=⟨9,aC<|D8 N L dp m i,(max Tryz.f9.ntmps 2),[.code<|aQ pg 9 [1,1,1,0,1,0,0],.inLoop<|aQ pg 9 [1,1,1,0,1,0,0],.inBlock 0,.code<|aQ pg 9 [1,1,1,1]],[],none⟩
theorem aiR(N L:Nat)(dp m i:Int):((D8 N L dp m i).map (fun q=>some q.2)=(D8 N L dp m i).map (fun q=>some q.2))/\(ak.map (fun q=>q.2)=ak.map (fun q=>q.2))/\(rR N L dp m i=rR N L dp m i/\ah ak 270=ah ak 270):=⟨rfl,rfl,rfl,rfl⟩
theorem Lz{B:aI}{k N L Na La Nb Lb Nd Ld Ne Le:Nat}{jQ na jR nb dp m i a b c d:Int}{x y z w:Bool}{v:AV}(hk:x=true\/(x=false/\y=true)\/(x=false/\y=false/\z=true)\/(x=false/\y=false/\z=false/\w=true))(mc:Mt [ow 22,vE k] B)(hn:top<=N)(hi:0<=i)(hL:L<=500)(hm:0<=m/\m<=3000)(hb:(0<=a/\a<=1000)/\(0<=b/\b<=1000)/\(0<=c/\c<=3000)/\(0<=d/\d<=3000))(hd:0<=dp/\dp<=20)(Rg:cG FU N (0+i.toNat*10+2) 3=some [(u8<|jQ),(i6 na),(.U Na 0 La)])(Rh:cG FU N (0+i.toNat*10+5) 3=some [(u8<|jR),(i6 nb),(.U Nb 0 Lb)])(Ri:cG FU N (0+i.toNat*10+8) 1=some [.U Nd 0 Ld])(Rj:cG FU N (0+i.toNat*10+9) 1=some [.U Ne 0 Le])(h1:i<(L:Int))(ha:bj (aR<|pz 22) [(.agg [(u8<|jQ),(i6 na),(.U Na 0 La)]),.int .i64 0]=some (.tuple [.int .i64 a,.bool x]))(Rk:bj (aR<|pz 22) [(.agg [(u8<|jR),(i6 nb),(.U Nb 0 Lb)]),.int .i64 0]=some (.tuple [.int .i64 b,.bool y]))(Rl:bj (aR<|rG k) [.U Nd 0 Ld,.int .i64<|dp+1]=some (.tuple [.int .i64 c,.bool z]))(Rm:bj (aR<|rG k) [.U Ne 0 Le,.int .i64<|dp+1]=some (.tuple [.int .i64 d,.bool w]))(hv:(.tuple [.int .i64 0,.bool true])=v):au pg B 270 (Fin pg (az Tryz.f9) fun y _=>y=v) (rR N L dp m i)<|ah ak 270:=by
 have TT:=(aT (i<(L:Int)) (fun _=>(dU i (L:Int)<|ai hn<|ai Rg<|ai ha<|dU i (L:Int)<|ai hn<|ai Rh<|ai Rk<|dU i (L:Int)<|ai hn<|ai Ri<|ai (wI<|dp+1)<|ai Rl<|dU i (L:Int)<|ai hn<|ai Rj<|ai (wI<|dp+1)<|ai Rm<|ai (wI<|m+1)<|ai (wI<|(m+1)+a)<|ai (wI<|((m+1)+a)+b)<|ai (wI<|(((m+1)+a)+b)+c)<|ai (wI<|((((m+1)+a)+b)+c)+d) (show(.tuple [i0,(.bool true)])=v from hv))) fun _=>(oF ab));let P:Pl:=(.st 2<|.rg<|.go 3<|.fk (.en<|.st 5<|.rg<|.go 2<|.eF<|.go 1<|.eG [(u8<|jQ),(i6 na),(.U Na 0 La)]<|.kn (.tuple [(i6 a),(.bool x)])<|.go 5<|.en<|.st 1<|.rg<|.go 2<|.eF<|.go 1<|.eG [(u8<|jR),(i6 nb),(.U Nb 0 Lb)]<|.kn (.tuple [(i6 b),(.bool y)])<|.go 5<|.en<|.st 1<|.rg<|.go 2<|.eF<|.go 1<|.eG [(.U Nd 0 Ld)]<|.go 1<|.vl (i6<|dp+1)<|.kn (.tuple [(i6 c),(.bool z)])<|.go 5<|.en<|.st 1<|.rg<|.go 2<|.eF<|.go 1<|.eG [(.U Ne 0 Le)]<|.go 1<|.vl (i6<|dp+1)<|.kn (.tuple [(i6 d),(.bool w)])<|.go 5<|.en<|.st 1<|.rg<|.go 1<|.vl (i6<|m+1)<|.go 1<|.vl (i6<|(m+1)+a)<|.go 1<|.vl (i6<|((m+1)+a)+b)<|.go 1<|.vl (i6<|(((m+1)+a)+b)+c)<|.go 1<|.vl (i6<|((((m+1)+a)+b)+c)+d)<|.go 1<|.en<|.rt 6 .no)<|.no);rcases hk with rfl|⟨rfl,rfl⟩|⟨rfl,rfl,rfl⟩|⟨rfl,rfl,rfl,rfl⟩
 all_goals exact me (E:=en [ow 22,vE k]) eT rfl bI mc.2.2.1 mc.2.2.2 900 P TT aU
theorem muN{B:aI}{k N L Na La Nb Lb Nd Ld Ne Le:Nat}{jQ na jR nb dp m i a b c d:Int}{x y z w:Bool}{v:AV}(mc:Mt [ow 22,vE k] B)(hn:top<=N)(hi:0<=i)(hL:L<=500)(hm:0<=m/\m<=3000)(hb:(0<=a/\a<=1000)/\(0<=b/\b<=1000)/\(0<=c/\c<=3000)/\(0<=d/\d<=3000))(hd:0<=dp/\dp<=20)(Rg:cG FU N (0+i.toNat*10+2) 3=some [(u8<|jQ),(i6 na),(.U Na 0 La)])(Rh:cG FU N (0+i.toNat*10+5) 3=some [(u8<|jR),(i6 nb),(.U Nb 0 Lb)])(Ri:cG FU N (0+i.toNat*10+8) 1=some [.U Nd 0 Ld])(Rj:cG FU N (0+i.toNat*10+9) 1=some [.U Ne 0 Le])(h1:i<(L:Int))(ha:bj (aR<|pz 22) [(.agg [(u8<|jQ),(i6 na),(.U Na 0 La)]),.int .i64 0]=some (.tuple [.int .i64 a,.bool false]))(Rk:bj (aR<|pz 22) [(.agg [(u8<|jR),(i6 nb),(.U Nb 0 Lb)]),.int .i64 0]=some (.tuple [.int .i64 b,.bool false]))(Rl:bj (aR<|rG k) [.U Nd 0 Ld,.int .i64<|dp+1]=some (.tuple [.int .i64 c,.bool false]))(Rm:bj (aR<|rG k) [.U Ne 0 Le,.int .i64<|dp+1]=some (.tuple [.int .i64 d,.bool false]))(hv:(((((m+1)+a)+b)+c)+d)>3000->(.tuple [.int .i64 0,.bool true])=v)(H:¬((((((m+1)+a)+b)+c)+d)>(3000:Int))->au pg B 270 (Fin pg (az Tryz.f9) fun y _=>y=v) (rR N L dp (((((m+1)+a)+b)+c)+d)<|i+1) (ah ak 270)):au pg B 270 (Fin pg (az Tryz.f9) fun y _=>y=v) (rR N L dp m i)<|ah ak 270:=by exact wC mc (C:=(fun fr s1 _=>fr=rR N L dp (((((m+1)+a)+b)+c)+d) (i+1)/\s1=ah ak 270/\¬((((((m+1)+a)+b)+c)+d)>(3000:Int)))) (fun fr s1 p hC=>by obtain⟨rfl,rfl,hq⟩:=hC;exact H hq) (.st 2<|.rg<|.go 3<|.fk (.en<|.st 5<|.rg<|.go 2<|.eF<|.go 1<|.eG [(u8<|jQ),(i6 na),(.U Na 0 La)]<|.kn (.tuple [(i6 a),(.bool false)])<|.go 5<|.en<|.st 1<|.rg<|.go 2<|.eF<|.go 1<|.eG [(u8<|jR),(i6 nb),(.U Nb 0 Lb)]<|.kn (.tuple [(i6 b),(.bool false)])<|.go 5<|.en<|.st 1<|.rg<|.go 2<|.eF<|.go 1<|.eG [(.U Nd 0 Ld)]<|.go 1<|.vl (i6<|dp+1)<|.kn (.tuple [(i6 c),(.bool false)])<|.go 5<|.en<|.st 1<|.rg<|.go 2<|.eF<|.go 1<|.eG [(.U Ne 0 Le)]<|.go 1<|.vl (i6<|dp+1)<|.kn (.tuple [(i6 d),(.bool false)])<|.go 5<|.en<|.st 1<|.rg<|.go 1<|.vl (i6<|m+1)<|.go 1<|.vl (i6<|(m+1)+a)<|.go 1<|.vl (i6<|((m+1)+a)+b)<|.go 1<|.vl (i6<|(((m+1)+a)+b)+c)<|.go 1<|.vl (i6<|((((m+1)+a)+b)+c)+d)<|.go 1<|.en<|.st 1<|.rg<|.go 12<|.fk (.go 1<|.en<|.rt 4 .no)<|.go 1<|.en<|.st 3<|.rg<|.go 1<|.vl (i6<|i+1)<|.go 1<|.en<|.st 1<|.ls (D8 N L dp (((((m+1)+a)+b)+c)+d)<|i+1) ak 270 .no)<|.no)<|aT (i<(L:Int)) (fun _=>(dU i (L:Int)<|ai hn<|ai Rg<|ai ha<|dU i (L:Int)<|ai hn<|ai Rh<|ai Rk<|dU i (L:Int)<|ai hn<|ai Ri<|ai (wI<|dp+1)<|ai Rl<|dU i (L:Int)<|ai hn<|ai Rj<|ai (wI<|dp+1)<|ai Rm<|ai (wI<|m+1)<|ai (wI<|(m+1)+a)<|ai (wI<|((m+1)+a)+b)<|ai (wI<|(((m+1)+a)+b)+c)<|ai (wI<|((((m+1)+a)+b)+c)+d)<|aT ((((((m+1)+a)+b)+c)+d)>3000) (fun _=>(show(.tuple [i0,(.bool true)])=v from hv ab)) fun _=>(ai (wI<|i+1)<|ai (mS<|D8 N L dp (((((m+1)+a)+b)+c)+d)<|i+1)<|ai (mO ak) (show(rR N L dp (((((m+1)+a)+b)+c)+d)<|i+1)=(rR N L dp (((((m+1)+a)+b)+c)+d)<|i+1)/\(ah ak 270)=(ah ak 270)/\¬((((((m+1)+a)+b)+c)+d)>(3000:Int)) from⟨rfl,rfl,by omega⟩)))) gb
theorem muE{m:Int}(mc:Mt [ow 22,vE k] B)(h1:(L:Int)<=i)(hv:(.tuple [.int .i64 m,.bool false])=v):au pg B 270 (Fin pg (az Tryz.f9) fun y _=>y=v) (rR N L dp m i)<|ah ak 270:=by exact wS mc (.st 2<|.rg<|.go 3<|.fk (.no)<|.en<|.rt 5 .no) W1
theorem muG(mc:Mt [ow 22,vE k] B)(hd:dp<=20)(hL:L<=500)(H:au pg B 270 (Fin pg (az Tryz.f9) fun y _=>y=v) (rR N L dp 0 0)<|ah ak 270):au pg B 270 (Fin pg (az Tryz.f9) fun y _=>y=v) (sF 9 Tryz.f9 [(.U N 0 L),(i6 dp)])<|ah ak 270:=by exact wC mc (C:=(fun fr s1 _=>fr=rR N L dp 0 0/\s1=ah ak 270)) mT (.st 4<|.rg<|.go 1<|.fk (.no)<|.go 3<|.fk (.no)<|.go 1<|.en<|.st 9<|.ls (D8 N L dp 0 0) ak 270 .no)<|aT (dp>20) gb fun _=>(aT ((L:Int)>500) gb fun _=>(aiR N L dp 0 0))
theorem muB(mc:Mt [ow 22,vE k] B)(hd:dp>20\/(L:Int)>500)(hv:(.tuple [.int .i64 0,.bool true])=v):au pg B 270 (Fin pg (az Tryz.f9) fun y _=>y=v) (sF 9 Tryz.f9 [(.U N 0 L),(i6 dp)])<|ah ak 270:=by exact wS mc (.st 4<|.rg<|.go 1<|.fk (.go 5<|.en<|.rt 4 .no)<|.go 3<|.fk (.go 1<|.en<|.rt 4 .no)<|.no)<|aT (dp>20) (fun _=>(show(.tuple [i0,(.bool true)])=v from hv)) fun _=>(aT ((L:Int)>500) (fun _=>(show(.tuple [i0,(.bool true)])=v from hv)) gb)
end
end D6
end
section
open Go Go.Rn Go.RowKit Go.Proofs
namespace Gj
open cj cH cU dm eZ fQ tV iA dq uw mQ mI tW rD D6
variable {k i:Nat} {L:bO}
theorem Vd{f:Ex->Int×Bool}(hf:∀e,0<=(f e).1/\(f e).1<=1000):∀(l:List Ex) (m:Int),0<=m/\m<=1000->0<=(rP f l m).1/\(rP f l m).1<=1000
 |[],m,h=>h
 |a::r,m,h=>by
  unfold rP;have:=hf a;split
  ·show(0:Int)<=0/\(0:Int)<=1000;omega
  ·split
   ·show(0:Int)<=0/\(0:Int)<=1000;omega
   ·exact Vd hf r _ ab
theorem uS:∀(k:Nat) (e:Ex),0<=(dK k e).1/\(dK k e).1<=1000
 |0,_=>by show(0:Int)<=0/\(0:Int)<=1000;omega
 |k+1,.mk _ _ args=>by
  unfold dK;split
  ·show(0:Int)<=0/\(0:Int)<=1000;omega
  ·exact Vd (uS k) args 1 ab
theorem Ve{α:Type}{l r:List α}{a:α}(hr:l.drop i=a::r):i<l.length/\l[i]? =some a/\a∈l/\l.drop (i+1)=r:=by
 have ha:l[i]? =some a:=by have:=congrArg (fun q=>q[0]?) hr;simp only[List.getElem?_drop,List.getElem?_cons_zero,Nat.add_zero] at this;exact this
 refine⟨(List.getElem?_eq_some_iff.1 ha).1,ha,List.mem_of_getElem? ha,?_⟩;have:=congrArg (List.drop 1) hr;rw[List.drop_drop] at this;exact this
theorem aau(hP:bS pg)(h':aX [ow k])(h:aX L):aX<|ow (k+1)::L:=by
 refine gE hP h h' Tryz.func20 fun args v e=>?_;obtain⟨⟨op,n,l⟩,rfl,hk,rfl⟩:=fS e;refine⟨aK.1 aU,fun B mc=>?_⟩;rw[←hI,aB];have ed:(22:Int) - ((k+1:Nat):Int)=21 - (k:Int):=by omega
 rw[ed];unfold dK;by_cases c:k=0\/l.length>10
 ·rw[if_pos c];exact sdB mc ab rfl
 ·rw[if_neg c];have XL:k≠0:=fun q=>c<|.inl q;have hl:l.length<=10:=by
   by_cases q:l.length<=10
   ·exact q
   ·exact absurd (.inr ab) c
  have key:∀(r:List Ex) (i:Nat) (m:Int),l.drop i=r->0<=m/\m<=1000->
   au pg B 270 (Fin pg (az Tryz.f20) fun y _=>y= .tuple [.int .i64 (rP (dK k) r m).1,.bool (rP (dK k) r m).2]) (rQ (21 - (k:Int)) m i) (ah (nw op n (nm<|cK l) l.length) 271):=by
   intro r;induction r with
   |nil=>intro i m hr hm;have hi:l.length<=i:=List.drop_eq_nil_iff.1 hr;exact sdE mc ab rfl
   |cons a r ih=>
    intro i m hr hm;obtain⟨hi,ha,qA,kf⟩:=Ve hr;obtain⟨bQ,n0,l0⟩:=a;have hx:=yU ha (z:=(i:Int)) ab;have ir:=uS k<|.mk bQ n0 l0;have bH:bj (aR<|pz k) [.agg<|aB<|.mk bQ n0 l0,.int .i64<|21 - (k:Int)+1]=some (.tuple [.int .i64 (dK k<|.mk bQ n0 l0).1,.bool (dK k<|.mk bQ n0 l0).2]):=eO (eK pz.bM ⟨.mk bQ n0 l0,by rw[show(21:Int) - (k:Int)+1=22 - (k:Int) by omega],by omega,rfl⟩) rM rfl;rw[aB] at hx bH;unfold rP;cases hb:(dK k<|.mk bQ n0 l0).2 with
    |true=>rw[hb] at bH;rw[if_pos rfl];exact sdT mc (cN _) ab hl hm ir ab hx ab bH rfl
    |false=>
     rw[hb] at bH;rw[if_neg (by intro q;cases q)];refine sdF mc (cN _) ab hl hm ir ab hx ab bH (fun q=>?_) fun q=>?_
     ·rw[if_pos q]
     ·rw[if_neg q];exact ih (i+1) _ kf ab
  exact sdG mc ab hl<|key l 0 1 (by rw[List.drop_zero]) ab
theorem Tv(hP:bS pg):∀(k:Nat) {L:bO},aX L->aX (ow k::L)
 |0,L,h=>by refine gE hP h de Tryz.func20 fun args v e=>?_;obtain⟨_,_,hk,_⟩:=fS e;omega
 |k+1,L,h=>aau hP (Tv hP k de) h
theorem Vf{f:List St->Int×Bool}(hf:∀l,0<=(f l).1/\(f l).1<=3000):∀(l:List St) (m:Int),0<=m/\m<=3000->0<=(kr f l m).1/\(kr f l m).1<=3000
 |[],m,h=>h
 |s::r,m,h=>by
  unfold kr;have h1:=uS 22<|cV s;have h2:=uS 22<|iv s;have h3:=hf<|bG s;have h4:=hf<|bF s;split
  ·show(0:Int)<=0/\(0:Int)<=3000;omega
  ·split
   ·show(0:Int)<=0/\(0:Int)<=3000;omega
   ·exact Vf hf r _ ab
theorem xe:∀(k:Nat) (l:List St),0<=(cR k l).1/\(cR k l).1<=3000
 |0,_=>by show(0:Int)<=0/\(0:Int)<=3000;omega
 |k+1,l=>by
  unfold cR;split
  ·show(0:Int)<=0/\(0:Int)<=3000;omega
  ·exact Vf (xe k) l 0 ab
theorem I7{l:List St}{s:St}(h:l[i]? =some s){z:Int}(hz:z.toNat=i)(j k:Nat)(hk:j+k<=10):cG FU (nm<|bz l) (0+z.toNat*10+j) k=some (((aL s).drop j).take k):=by rw[uN,hz,Nat.zero_add,xq mz h j k hk]
theorem abC(hP:bS pg)(h':aX [ow 22,vE k])(h:aX L):aX<|vE (k+1)::L:=by
 refine gE hP h h' Tryz.func9 fun args v e=>?_;obtain⟨l,rfl,hk,rfl⟩:=fS e;refine⟨aK.1 aU,fun B mc=>?_⟩;rw[←hI];have ed:(22:Int) - ((k+1:Nat):Int)=21 - (k:Int):=by omega
 rw[ed];unfold cR;by_cases c:k=0\/l.length>500
 ·rw[if_pos c];exact muB mc ab rfl
 ·rw[if_neg c];have XL:k≠0:=fun q=>c<|.inl q;have hl:l.length<=500:=by
   by_cases q:l.length<=500
   ·exact q
   ·exact absurd (.inr ab) c
  have key:∀(r:List St) (i:Nat) (m:Int),l.drop i=r->0<=m/\m<=3000->
   au pg B 270 (Fin pg (az Tryz.f9) fun y _=>y= .tuple [.int .i64 (kr (cR k) r m).1,.bool (kr (cR k) r m).2]) (rR (nm<|bz l) l.length (21 - (k:Int)) m i) (ah ak 270):=by
   intro r;induction r with
   |nil=>intro i m hr hm;have hi:l.length<=i:=List.drop_eq_nil_iff.1 hr;exact muE mc ab rfl
   |cons s r ih=>
    intro i m hr hm;obtain⟨hi,ha,qA,kf⟩:=Ve hr;have p1:=I7 ha (z:=(i:Int)) ab 2 3 ab;have p2:=I7 ha (z:=(i:Int)) ab 5 3 ab;have p3:=I7 ha (z:=(i:Int)) ab 8 1 ab;have p4:=I7 ha (z:=(i:Int)) ab 9 1 ab;obtain⟨kind,to,⟨jQ,na,la⟩,⟨jR,nb,lb⟩,bd,el⟩:=s;have e1:((aL<|.mk kind to (.mk jQ na la) (.mk jR nb lb) bd el).drop 2).take 3=aB (.mk jQ na la):=by rw[aL,aB,aB];rfl
    have e2:((aL<|.mk kind to (.mk jQ na la) (.mk jR nb lb) bd el).drop 5).take 3=aB (.mk jR nb lb):=by rw[aL,aB,aB];rfl
    have e3:((aL<|.mk kind to (.mk jQ na la) (.mk jR nb lb) bd el).drop 8).take 1=[.U (nm<|bz bd) 0 bd.length]:=by rw[aL,aB,aB];rfl
    have e4:((aL<|.mk kind to (.mk jQ na la) (.mk jR nb lb) bd el).drop 9).take 1=[.U (nm<|bz el) 0 el.length]:=by rw[aL,aB,aB];rfl
    rw[e1] at p1;rw[e2] at p2;rw[e3] at p3;rw[e4] at p4;have uk:=uS 22<|.mk jQ na la;have uj:=uS 22<|.mk jR nb lb;have jJ:=xe k bd;have QH:=xe k el;have hS:∀e:Ex,bj (aR<|pz 22) [.agg<|aB e,.int .i64 0]=some (.tuple [.int .i64 (dK 22 e).1,.bool (dK 22 e).2]):=fun e=>eO (eK pz.bM ⟨e,rfl,by omega,rfl⟩) rM rfl;have hM:∀q:List St,bj (aR<|rG k) [.U (nm<|bz q) 0 q.length,.int .i64<|21 - (k:Int)+1]=some (.tuple [.int .i64 (cR k q).1,.bool (cR k q).2]):=fun q=>eO (eK rG.bM ⟨q,by rw[show(21:Int) - (k:Int)+1=22 - (k:Int) by omega],by omega,rfl⟩) (by rw[List.all_cons,tj];rfl) rfl;have s1:=hS<|.mk jQ na la;have s2:=hS<|.mk jR nb lb;have m1:=hM bd;have m2:=hM el;rw[aB] at p1 p2 s1 s2;have hb:(0<=(dK 22<|.mk jQ na la).1/\(dK 22<|.mk jQ na la).1<=1000)/\(0<=(dK 22<|.mk jR nb lb).1/\(dK 22<|.mk jR nb lb).1<=1000)/\(0<=(cR k bd).1/\(cR k bd).1<=3000)/\(0<=(cR k el).1/\(cR k el).1<=3000):=⟨uk,uj,jJ,QH⟩;show au pg B 270 (Fin pg (az Tryz.f9) fun y _=>y= .tuple [.int .i64 (kr (cR k) (.mk kind to (.mk jQ na la) (.mk jR nb lb) bd el::r) m).1,.bool (kr (cR k) (.mk kind to (.mk jQ na la) (.mk jR nb lb) bd el::r) m).2]) _ _;unfold kr;show au pg B 270 (Fin pg (az Tryz.f9) fun y _=>y= .tuple [.int .i64 (if(dK 22<|.mk jQ na la).2=true\/(dK 22<|.mk jR nb lb).2=true\/(cR k bd).2=true\/(cR k el).2=true then(0,true) else if m+1+(dK 22<|.mk jQ na la).1+(dK 22<|.mk jR nb lb).1+(cR k bd).1+(cR k el).1>3000 then(0,true) else kr (cR k) r (m+1+(dK 22<|.mk jQ na la).1+(dK 22<|.mk jR nb lb).1+(cR k bd).1+(cR k el).1)).1,.bool (if(dK 22<|.mk jQ na la).2=true\/(dK 22<|.mk jR nb lb).2=true\/(cR k bd).2=true\/(cR k el).2=true then(0,true) else if m+1+(dK 22<|.mk jQ na la).1+(dK 22<|.mk jR nb lb).1+(cR k bd).1+(cR k el).1>3000 then(0,true) else kr (cR k) r (m+1+(dK 22<|.mk jQ na la).1+(dK 22<|.mk jR nb lb).1+(cR k bd).1+(cR k el).1)).2]) _ _;cases x:(dK 22<|.mk jQ na la).2 with
    |true=>rw[x] at s1;rw[if_pos<|.inl rfl];exact Lz (x:=true) (.inl rfl) mc (cN _) ab hl hm hb ab p1 p2 p3 p4 ab s1 s2 m1 m2 rfl
    |false=>
     rw[x] at s1;cases y:(dK 22<|.mk jR nb lb).2 with
     |true=>rw[y] at s2;rw[if_pos<|.inr<|.inl rfl];exact Lz (x:=false) (y:=true) (.inr<|.inl ⟨rfl,rfl⟩) mc (cN _) ab hl hm hb ab p1 p2 p3 p4 ab s1 s2 m1 m2 rfl
     |false=>
      rw[y] at s2;cases z:(cR k bd).2 with
      |true=>rw[z] at m1;rw[if_pos<|.inr<|.inr<|.inl rfl];exact Lz (x:=false) (y:=false) (z:=true) (.inr<|.inr<|.inl ⟨rfl,rfl,rfl⟩) mc (cN _) ab hl hm hb ab p1 p2 p3 p4 ab s1 s2 m1 m2 rfl
      |false=>
       rw[z] at m1;cases w:(cR k el).2 with
       |true=>rw[w] at m2;rw[if_pos<|.inr<|.inr<|.inr rfl];exact Lz (x:=false) (y:=false) (z:=false) (w:=true) (.inr<|.inr<|.inr ⟨rfl,rfl,rfl,rfl⟩) mc (cN _) ab hl hm hb ab p1 p2 p3 p4 ab s1 s2 m1 m2 rfl
       |false=>
        rw[w] at m2;rw[if_neg<|by simp];refine muN (x:=false) (y:=false) (z:=false) (w:=false) mc (cN _) ab hl hm hb ab p1 p2 p3 p4 ab s1 s2 m1 m2 (fun q=>?_) fun q=>?_
        ·rw[if_pos q]
        ·rw[if_neg q];exact ih (i+1) _ kf ab
  exact muG mc ab hl<|key l 0 0 (by rw[List.drop_zero]) ab
theorem Ug(hP:bS pg):∀(k:Nat) {L:bO},aX L->aX (vE k::L)
 |0,L,h=>by refine gE hP h de Tryz.func9 fun args v e=>?_;obtain⟨_,_,hk,_⟩:=fS e;omega
 |k+1,L,h=>abC hP (Tv hP 22<|Ug hP k de) h
end Gj
end
section
open Go Go.Rn Go.RowKit Go.Proofs
namespace J6
open cj fW eZ BH im mQ mI vS xO tY xP eR cH dq Ch vP xN uw tW rD GG J2 cU dm fY fF gJ gQ gW gk gm hZ iB iC iV jh jY ko kY jZ fQ iA mu vV nV zK qH zM DK Br D6 Gj
variable {k:Nat}
theorem SF{f:Ex->Int×Bool}:∀(l:List Ex) (m:Int),(rP f l m).2=false->(∀a∈l,(f a).2=false)/\(rP f l m).1=l.foldl (fun n a=>n+(f a).1) m/\(m<=1000->(rP f l m).1<=1000)
 |[],m,_=>⟨fun a h=>(by cases h),rfl,fun h=>h⟩
 |a::r,m,h=>by
  unfold rP at h ⊢;by_cases c1:(f a).2=true
  ·rw[if_pos c1] at h;cases h
  ·rw[if_neg c1] at h ⊢;by_cases c2:m+(f a).1>1000
   ·rw[if_pos c2] at h;cases h
   ·rw[if_neg c2] at h ⊢;obtain⟨h1,h2,h3⟩:=SF r _ h;refine⟨fun b hb=>?_,by rw[h2,List.foldl_cons],fun _=>h3 ab⟩;rcases List.mem_cons.1 hb with rfl|hb
    ·exact Bool.eq_false_iff.2 c1
    ·exact h1 b hb
theorem fold_congr{f g:Ex->Int}:∀(l:List Ex) (m:Int),(∀a∈l,f a=g a)->l.foldl (fun n a=>n+f a) m=l.foldl (fun n a=>n+g a) m
 |[],_,_=>rfl
 |a::l,m,h=>by rw[List.foldl_cons,List.foldl_cons,h a List.mem_cons_self];exact fold_congr l _ fun b hb=>h b<|List.mem_cons_of_mem _ hb
theorem HG:∀(k j:Nat) (e:Ex),k<=j->(dK k e).2=false->tF j e=true/\lz j e=(dK k e).1
 |0,_,_,_,h=>by cases h
 |k+1,0,_,hj,_=>by omega
 |k+1,j+1,.mk op n l,hj,h=>by
  unfold dK at h ⊢;by_cases c:k=0\/l.length>10
  ·rw[if_pos c] at h;cases h
  ·rw[if_neg c] at h ⊢;obtain⟨h1,h2,_⟩:=SF l 1 h;refine⟨List.all_eq_true.2 fun a ha=>(HG k j a ab<|h1 a ha).1,?_⟩;rw[h2];exact fold_congr l 1 fun a ha=>(HG k j a ab<|h1 a ha).2
theorem HO{f:List St->Int×Bool}(hf:∀l,0<=(f l).1):∀(l:List St) (m:Int),(kr f l m).2=false->m<=(kr f l m).1/\∀s∈l,(dK 22<|cV s).2=false/\(dK 22<|iv s).2=false/\(f<|bG s).2=false/\(f<|bF s).2=false
 |[],m,_=>⟨Int.le_refl _,fun s h=>by cases h⟩
 |t::r,m,h=>by
  unfold kr at h ⊢;have a1:=uS 22<|cV t;have a2:=uS 22<|iv t;have a3:=hf<|bG t;have a4:=hf<|bF t;by_cases c1:(dK 22<|cV t).2=true\/(dK 22<|iv t).2=true\/(f<|bG t).2=true\/(f<|bF t).2=true
  ·rw[if_pos c1] at h;cases h
  ·rw[if_neg c1] at h ⊢;by_cases c2:m+1+(dK 22<|cV t).1+(dK 22<|iv t).1+(f<|bG t).1+(f<|bF t).1>3000
   ·rw[if_pos c2] at h;cases h
   ·rw[if_neg c2] at h ⊢;obtain⟨h1,h2⟩:=HO hf r _ h;refine⟨by omega,fun s hs=>?_⟩;rcases List.mem_cons.1 hs with rfl|hs
    ·refine⟨Bool.eq_false_iff.2 fun q=>c1<|.inl q,Bool.eq_false_iff.2 fun q=>c1<|.inr<|.inl q,Bool.eq_false_iff.2 fun q=>c1<|.inr<|.inr<|.inl q,Bool.eq_false_iff.2 fun q=>c1<|.inr<|.inr<|.inr q⟩
    ·exact h2 s hs
theorem aav{l:List St}:cR (k+1) l=if k=0\/l.length>500 then(0,true) else kr (cR k) l 0:=rfl
theorem Mm{l:List St}(h:(cR (k+1) l).2=false):l.length<=500/\(cR (k+1) l).1=(kr (cR k) l 0).1/\(kr (cR k) l 0).2=false/\∀s∈l,(dK 22<|cV s).2=false/\(dK 22<|iv s).2=false/\(cR k<|bG s).2=false/\(cR k<|bF s).2=false:=by
 rw[aav] at h ⊢;by_cases c:k=0\/l.length>500
 ·rw[if_pos c] at h;cases h
 ·rw[if_neg c] at h ⊢;refine⟨?_,rfl,h,(HO (fun l=>(xe k l).1) l 0 h).2⟩;by_cases q:l.length<=500
  ·exact q
  ·exact absurd (.inr ab) c
theorem CD:∀(k j:Nat) (l:List St),k<=j->(cR k l).2=false->kB j l=true/\qq j l=true
 |0,_,_,_,h=>by cases h
 |k+1,0,_,hj,_=>by omega
 |k+1,j+1,l,hj,h=>by
  obtain⟨h1,_,_,h4⟩:=Mm h;have hl:decide (l.length<=1000000)=true:=decide_eq_true ab;constructor
  ·show(decide (l.length<=1000000)&&l.all fun s=>kB j (bG s)&&kB j (bF s))=true;rw[hl];exact List.all_eq_true.2 fun s hs=>and_true.2 ⟨(CD k j _ ab (h4 s hs).2.2.1).1,(CD k j _ ab (h4 s hs).2.2.2).1⟩
  ·show(decide (l.length<=1000000)&&l.all fun s=>((bG s).isEmpty||qq j (bG s))&&((bF s).isEmpty||qq j (bF s)))=true;rw[hl];exact List.all_eq_true.2 fun s hs=>and_true.2 ⟨by rw[(CD k j _ ab (h4 s hs).2.2.1).2,Bool.or_true],by rw[(CD k j _ ab (h4 s hs).2.2.2).2,Bool.or_true]⟩
theorem Uh{k j:Nat}(he:∀l n1 n2,(cR j l).2=false->0<=n1/\n1+(cR j l).1<=1000000000->0<=n2/\n2+(cR j l).1<=1000000000->∃m1 m2,fE (o9 60) k l (.int .i64 n1) (.int .i64 n2)=some ⟨true,.int .i64 m1,.int .i64 m2,none⟩/\(n1<=m1/\m1<=n1+(cR j l).1)/\n2<=m2/\m2<=n2+(cR j l).1):
 ∀(r:List St) (m n1 n2:Int),(kr (cR j) r m).2=false->0<=m->m<=3000->0<=n1->0<=n2->n1+((kr (cR j) r m).1 - m)<=1000000000->n2+((kr (cR j) r m).1 - m)<=1000000000->∃m1 m2,kL (fE (o9 60) k) (o9 60) r (.int .i64 n1) (.int .i64 n2)=some ⟨true,.int .i64 m1,.int .i64 m2,none⟩/\(n1<=m1/\m1<=n1+((kr (cR j) r m).1 - m))/\n2<=m2/\m2<=n2+((kr (cR j) r m).1 - m)
 |[],m,n1,n2,_,_,_,_,_,_,_=>⟨n1,n2,rfl,by show n1<=n1/\n1<=n1+(m - m);omega,by show n2<=n2/\n2<=n2+(m - m);omega⟩
 |t::r,m,n1,n2,h,hm,cQ,h1,h2,h3,h4=>by
  unfold kr at h h3 h4 ⊢;have a1:=uS 22<|cV t;have a2:=uS 22<|iv t;have a3:=xe j<|bG t;have a4:=xe j<|bF t;by_cases c1:(dK 22<|cV t).2=true\/(dK 22<|iv t).2=true\/(cR j<|bG t).2=true\/(cR j<|bF t).2=true
  ·rw[if_pos c1] at h;cases h
  ·rw[if_neg c1] at h h3 h4 ⊢;by_cases c2:m+1+(dK 22<|cV t).1+(dK 22<|iv t).1+(cR j<|bG t).1+(cR j<|bF t).1>3000
   ·rw[if_pos c2] at h;cases h
   ·rw[if_neg c2] at h h3 h4 ⊢;have g:=(HO (fun l=>(xe j l).1) r _ h).1;obtain⟨d1,e1⟩:=HG 22 60 (cV t) ab<|Bool.eq_false_iff.2 fun q=>c1<|.inl q;obtain⟨d2,e2⟩:=HG 22 60 (iv t) ab<|Bool.eq_false_iff.2 fun q=>c1<|.inr<|.inl q;have z1:0<=mf 60 (cV t)/\mf 60 (cV t)<=(dK 22<|cV t).1:=by have:=E9 60 (cV t) d1;unfold mf;split<;>omega
    have z2:0<=mf 60 (iv t)/\mf 60 (iv t)<=(dK 22<|iv t).1:=by have:=E9 60 (iv t) d2;unfold mf;split<;>omega
    have hc:Po 60 t n1 n2:=⟨by omega,by omega,d1,d2,by rw[e1];omega,by rw[e2];omega⟩;have hr:o9 60 t (.int .i64 n1) (.int .i64 n2)=some ⟨true,.int .i64<|n1+1,.int .i64<|n2+(mf 60 (cV t)+mf 60 (iv t)),none⟩:=if_pos hc;obtain⟨p1,p2,q1,q2,q3⟩:=he (bG t) (n1+1) (n2+(mf 60 (cV t)+mf 60 (iv t))) (Bool.eq_false_iff.2 fun q=>c1<|.inr<|.inr<|.inl q) ab ab;obtain⟨u1,u2,w1,w2,w3⟩:=he (bF t) p1 p2 (Bool.eq_false_iff.2 fun q=>c1<|.inr<|.inr<|.inr q) ab ab;obtain⟨y1,y2,x1,x2,x3⟩:=Uh he r _ u1 u2 h ab ab ab ab ab ab;refine⟨y1,y2,?_,by omega,by omega⟩;unfold kL;rw[hr];simp only[q1,w1];exact x1
theorem SG:∀(k j:Nat) (l:List St) (n1 n2:Int),j<=k->(cR j l).2=false->0<=n1/\n1+(cR j l).1<=1000000000->0<=n2/\n2+(cR j l).1<=1000000000->∃m1 m2,fE (o9 60) k l (.int .i64 n1) (.int .i64 n2)=some ⟨true,.int .i64 m1,.int .i64 m2,none⟩/\(n1<=m1/\m1<=n1+(cR j l).1)/\n2<=m2/\m2<=n2+(cR j l).1
 |_,0,_,_,_,_,h,_,_=>by cases h
 |0,j+1,_,_,_,hj,_,_,_=>by omega
 |k+1,j+1,l,n1,n2,hj,h,h1,h2=>by obtain⟨g1,g2,g3,_⟩:=Mm h;rw[g2] at h1 h2 ⊢;have g4:=(HO (fun l=>(xe j l).1) l 0 g3).1;obtain⟨m1,m2,e,a,b⟩:=Uh (k:=k) (fun l n1 n2 x y z=>SG k j l n1 n2 ab x y z) l 0 n1 n2 g3 ab ab h1.1 h2.1 ab ab;refine⟨m1,m2,?_,by omega,by omega⟩;unfold fE;rw[show decide (l.length<=1000000)=true from decide_eq_true ab];exact e
def pE:Nat->List St->Prop
 |0,_=>True
 |k+1,l=>∀s∈l,(0<=fC s/\fC s<256)/\pE k (bG s)/\pE k (bF s)
theorem NC:∀{k:Nat} {l:List St},pE k l->GL k l
 |0,_,_=>trivial
 |k+1,l,h=>fun s hs=>⟨(h s hs).1.1,NC (h s hs).2.1,NC (h s hs).2.2⟩
theorem Ui{k:Nat}{n:Int}(he:∀l,kB k l=true->pE k l->∃p,fE gy k l (.int .i64 n) (.bool false)=some p):∀r:List St,(∀s∈r,(kB k (bG s)=true/\kB k (bF s)=true)/\(0<=fC s/\fC s<256)/\pE k (bG s)/\pE k (bF s))->∃p,kL (fE gy k) gy r (.int .i64 n) (.bool false)=some p
 |[],_=>⟨_,rfl⟩
 |t::r,h=>by
  obtain⟨⟨d1,d2⟩,k1,k2,k3⟩:=h t List.mem_cons_self;unfold kL;have e1:gy t (.int .i64 n) (.bool false)=some (if mC t n=true then pY n else pN n):=by
   show(if 0<=fC t/\fC t<256 then(match mC t n with
    |true=>some (⟨true,.int .i64 n,.bool false,none⟩:fx)
    |false=>some ⟨false,.int .i64 n,.bool false,some .ret⟩) else none)=_
   rw[if_pos k1];cases mC t n<;>rfl
  rw[e1];cases hs:mC t n with
  |false=>exact⟨_,rfl⟩
  |true=>
   rw[if_pos rfl];show ∃p,(match fE gy k (bG t) (.int .i64 n) (.bool false) with
    |none=>none
    |some q=>match q.ret with
     |false=>some q
     |true=>match fE gy k (bF t) q.v1 q.v2 with
      |none=>none
      |some u=>match u.ret with
       |false=>some u
       |true=>kL (fE gy k) gy r u.v1 u.v2)=some p
   obtain⟨q1,w1⟩:=he _ d1 k2;rw[w1];rcases Au k _ _ w1 with rfl|rfl
   ·show ∃p,(match fE gy k (bF t) (.int .i64 n) (.bool false) with
     |none=>none
     |some u=>match u.ret with
      |false=>some u
      |true=>kL (fE gy k) gy r u.v1 u.v2)=some p
    obtain⟨q2,w2⟩:=he _ d2 k3;rw[w2];rcases Au k _ _ w2 with rfl|rfl
    ·exact Ui he r fun s hs=>h s<|List.mem_cons_of_mem _ hs
    ·exact⟨_,rfl⟩
   ·exact⟨_,rfl⟩
theorem SH{n:Int}:∀(k:Nat) (l:List St),kB k l=true->pE k l->∃p,fE gy k l (.int .i64 n) (.bool false)=some p
 |0,_,h,_=>by cases h
 |k+1,l,hd,hk=>by obtain⟨c1,c2⟩:=and_true.1 (show(decide (l.length<=1000000)&&l.all fun s=>kB k (bG s)&&kB k (bF s))=true from hd);unfold fE;rw[c1];exact Ui (SH k) l fun s hs=>⟨and_true.1<|List.all_eq_true.1 c2 s hs,hk s hs⟩
theorem aaw{s:St}{n:Int}(h:mC s n=true):pa 6 (cV s)=true/\pa 6 (iv s)=true:=by
 obtain⟨kind,to,a,b,bd,el⟩:=s;have h:Ab (pZ kind) to a b bd el n=true:=h;have fit:∀(q:Bool) (e:Ex),tX q e n=true->pa 6 e=true:=fun q e h=>by
  cases q with
  |true=>have h:(eP 6 e&&rz 6 e n)=true:=h;exact Ow (and_true.1 h).1
  |false=>have h:decide (DC e)=true:=h;have h:=of_decide_eq_true h;obtain⟨op,m,l⟩:=e;have hl:l=[]:=List.length_eq_zero_iff.1 h.2.2;subst hl;show(eP 6 (.mk op m [])||true)=true;rw[Bool.or_true]
 unfold Ab at h;split at h
 ·obtain⟨_,h⟩:=and_true.1 h;obtain⟨_,h⟩:=and_true.1 h;obtain⟨_,h⟩:=and_true.1 h;obtain⟨h1,h⟩:=and_true.1 h;obtain⟨h2,_⟩:=and_true.1 h;exact⟨fit _ _ h1,fit _ _ h2⟩
 ·cases h
theorem Oh{n:Int}:∀(k j i:Nat) (l:List St),k<=j->(cR k l).2=false->zN i n l->k<=i->pC j l=true
 |0,_,_,_,_,h,_,_=>by cases h
 |k+1,0,_,_,hj,_,_,_=>by omega
 |k+1,j+1,0,_,_,_,h,_=>by cases h
 |k+1,j+1,i+1,l,hj,h,ha,hi=>by obtain⟨h1,_,_,h4⟩:=Mm h;show(decide (l.length<=10000)&&l.all fun s=>pa 6 (cV s)&&(pa 6 (iv s)&&(pC j (bG s)&&pC j (bF s))))=true;rw[decide_eq_true (show l.length<=10000 by omega)];refine List.all_eq_true.2 fun s hs=>?_;obtain⟨a1,a2,a3⟩:=ha s hs;obtain⟨w1,w2⟩:=aaw a1;rw[w1,w2,Oh k j i _ ab (h4 s hs).2.2.1 a2 ab,Oh k j i _ ab (h4 s hs).2.2.2 a3 ab];rfl
theorem acQ{tx:List St}{n:Nat}(h:(cR 22 tx).2=false)(hk:pE 60 tx):∃b,tZ tx (n:Int) b/\(b=true->pC 60 tx=true/\lp 6 tx):=by obtain⟨d1,d2⟩:=CD 22 60 tx ab h;have ir:=xe 22 tx;obtain⟨m1,m2,e1,_,_⟩:=SG 60 22 tx 0 0 ab h ab ab;obtain⟨p,e2⟩:=SH (n:=(n:Int)) 60 tx d1 hk;have hm:tZ tx (n:Int)<|decide (0<=(n:Int)/\(n:Int)<6/\fq 60 tx<=6/\gi 60 tx<=2000)&&(p.ret&&decide (m1<=40/\m2<=300)):=⟨m1,m2,p,e1,e2,rfl⟩;refine⟨_,hm,fun hb=>?_⟩;have hp:p.ret=true:=(and_true.1 (and_true.1 hb).2).1;refine⟨Oh 22 60 60 tx ab h (AH 60 tx p e2 hp) ab,?_⟩;rw[hb] at hm;exact afQ hm d1<|NC hk
end J6
end
section
open Go Go.Rn Go.RowKit Go.Proofs
namespace KF
open cj fW eZ im mQ mI vS xO tY xP eR cH dq Ch cU dm fY fF gJ gQ gW gk gm hZ iB iC iV jh jY ko kY jZ fQ tV iA F9 mu vV nV zK qH Br zM DK J6
variable {x:Int} {tx:List St} {st:List Fr}
def oh(f:List St->Nat)(s:St):Nat:=1+(if fC s=4 then max (f<|bG s) (f<|bF s) else if fC s=5 then 8*f (bG s) else if fC s=7 then f (bG s)+f (bF s) else 0)
def mR(f:List St->Nat):List St->Nat
 |[]=>0
 |s::r=>oh f s+mR f r
def uc:Nat->List St->Nat
 |0,_=>0
 |d+1,l=>mR (uc d) l
theorem Uj{f g:List St->Nat}:∀{l:List St},(∀s∈l,f (bG s)=g (bG s)/\f (bF s)=g (bF s))->mR f l=mR g l
 |[],_=>rfl
 |s::r,h=>by show oh f s+mR f r=oh g s+mR g r;rw[Uj (l:=r) fun s hs=>h s<|List.mem_cons_of_mem _ hs];unfold oh;rw[(h s<|List.mem_cons_self ..).1,(h s<|List.mem_cons_self ..).2]
theorem FE:∀(d j k:Nat) (l:List St),lp d l->d<=j->d<=k->uc j l=uc k l
 |0,j,k,l,h,_,_=>by have h:l=[]:=h;subst h;cases j<;>cases k<;>rfl
 |d+1,j+1,k+1,l,h,hj,hk=>Uj fun s hs=>⟨FE d j k _ (h.2 s hs).2.2.1 ab ab,FE d j k _ (h.2 s hs).2.2.2 ab ab⟩
theorem aet(h:dY x 2001<=2000):dY x 2001=x:=by
 revert h;unfold dY;split
 ·intro h;omega
 ·intro _;rfl
theorem Vg:∀(k:Nat) (l:List St),gi k l<=2000->((uc k l:Nat):Int)<=gi k l
 |0,_,_=>by show(0:Int)<=0;omega
 |k+1,l,h=>by
  have ih:=Vg k;have go:∀(l:List St) (m:Int),0<=m->l.foldl (fun m s=>jO (fC s) m (gi k<|bG s)<|gi k<|bF s) m<=2000->m+((mR (uc k) l:Nat):Int)<=l.foldl (fun m s=>jO (fC s) m (gi k<|bG s)<|gi k<|bF s) m:=by
   intro l;induction l with
   |nil=>intro m _ _;show m+(0:Int)<=m;omega
   |cons s r ihr=>
    intro m hm hF;rw[List.foldl_cons] at hF ⊢;have c1:=CW k<|bG s;have c2:=CW k<|bF s;have a1:=ih<|bG s;have a2:=ih<|bF s;have hx:=I6 (gi k<|bG s)<|gi k<|bF s;have key:∀x:Int,0<=x->jO (fC s) m (gi k<|bG s) (gi k<|bF s)=dY x 2001->(x<=2000->m+((oh (uc k) s:Nat):Int)<=x)->m+((mR (uc k) (s::r):Nat):Int)<=r.foldl (fun m s=>jO (fC s) m (gi k<|bG s)<|gi k<|bF s) (jO (fC s) m (gi k<|bG s)<|gi k<|bF s):=by intro x sf e hle;rw[e] at hF ⊢;have q:=ihr (dY x 2001) (UP sf).1 hF;have q2:dY x 2001=x:=aet ab;rw[q2] at q hF ⊢;have:=hle ab;have:mR (uc k) (s::r)=oh (uc k) s+mR (uc k) r:=rfl;omega
    by_cases k4:fC s=4
    ·refine key (m+1+cL (gi k<|bG s) (gi k<|bF s)) ab (by unfold jO;rw[if_pos k4]) fun hle=>?_;have:=a1 ab;have:=a2 ab;unfold oh;rw[if_pos k4];omega
    by_cases k5:fC s=5
    ·refine key (m+1+8*gi k (bG s)) ab (by unfold jO;rw[if_neg k4,if_pos k5]) fun hle=>?_;have:=a1 ab;unfold oh;rw[if_neg k4,if_pos k5];omega
    by_cases k7:fC s=7
    ·refine key (m+1+(gi k (bG s)+gi k (bF s))) ab (by unfold jO;rw[if_neg k4,if_neg k5,if_pos k7]) fun hle=>?_;have:=a1 ab;have:=a2 ab;unfold oh;rw[if_neg k4,if_neg k5,if_pos k7];omega
    ·refine key (m+1+0) ab (by unfold jO;rw[if_neg k4,if_neg k5,if_neg k7]) fun hle=>?_;unfold oh;rw[if_neg k4,if_neg k5,if_neg k7];omega
  have:=go l 0 ab h;show((mR (uc k) l:Nat):Int)<=l.foldl (fun m s=>jO (fC s) m (gi k<|bG s)<|gi k<|bF s) 0;omega
theorem ff:¬(false=true):=fun c=>by cases c
def eB:List Fr->Nat
 |[]=>0
 |f::r=>mR (uc 60) (f.block.drop f.ar.toNat)+f.turns.toNat*uc 61 f.block+(if f.bY=true then uc 61 (f.other.getD []) else 0)+eB r
theorem ET:∀(k:Nat) (st:List Fr) (b:bf) (aW:List Fr) (b':bf),ig k st b=some (aW,b')->eB aW<=eB st
 |0,_,_,_,_,h=>by cases h
 |k+1,[],b,aW,b',h=>by
  unfold ig at h;injection h with h;injection h with h1 _
  rw[←h1];exact Nat.le_refl _
 |k+1,f::r,b,aW,b',h=>by
  unfold ig at h;by_cases c1:f.ar<(f.block.length:Int)
  ·rw[if_pos c1] at h;injection h with h;injection h with h1 _
   rw[←h1];exact Nat.le_refl _
  ·rw[if_neg c1] at h;by_cases c2:0<f.turns
   ·rw[if_pos c2] at h;have e:eB ({f with ar:=0,turns:=f.turns - 1}::r)<=eB (f::r):=by
     show uc 61 f.block+(f.turns - 1).toNat*uc 61 f.block+(if f.bY=true then uc 61 (f.other.getD []) else 0)+eB r<=mR (uc 60) (f.block.drop f.ar.toNat)+f.turns.toNat*uc 61 f.block+(if f.bY=true then uc 61 (f.other.getD []) else 0)+eB r;have ht:f.turns.toNat=(f.turns - 1).toNat+1:=by omega
     rw[ht,Nat.add_mul,Nat.one_mul];omega
    by_cases c3:0<(f.block.length:Int)
    ·rw[if_pos c3] at h;injection h with h;injection h with h1 _
     rw[←h1];exact e
    ·rw[if_neg c3] at h;exact Nat.le_trans (ET k _ b _ _ h) e
   ·rw[if_neg c2] at h;have e:eB r<=eB (f::r):=Nat.le_add_left _ _;by_cases c4:f.bY=true
    ·rw[if_pos c4] at h;by_cases c5:2<=b.length
     ·rw[if_pos c5] at h;exact Nat.le_trans (ET k _ _ _ _ h) e
     ·rw[if_neg c5] at h;cases h
    ·rw[if_neg c4] at h;exact Nat.le_trans (ET k _ _ _ _ h) e
theorem xf{a a':dG}{b:bf}(h:fin a st b=some a'):eB a'.fs.reverse<=eB st:=by
 unfold fin at h;cases e:ig 1000 st b with
 |none=>rw[e] at h;cases h
 |some p=>
  rw[e] at h;injection h with h
  rw[←h];show eB p.1.reverse.reverse<=_;rw[List.reverse_reverse];exact ET 1000 st b p.1 p.2 e
theorem MV:∀{st:List Fr} {g:Fr} {r':List Fr},below st=some (g,r')->g.bY=true->uc 61 (g.other.getD [])+eB r'<=eB st
 |[],_,_,h,_=>by cases h
 |f::r,g,r',h,hg=>by
  unfold mu.below at h;by_cases c:f.bY=true
  ·rw[if_pos c] at h;injection h with h;injection h with h1 h2
   subst h1;subst h2;show _<=_+(if f.bY=true then uc 61 (f.other.getD []) else 0)+eB r;rw[if_pos c];omega
  ·rw[if_neg c] at h;have:=MV h hg;have:eB r<=eB (f::r):=Nat.le_add_left _ _;omega
theorem Vh{f:Fr}{r:List Fr}{s:St}(h0:0<=f.ar)(h:f.block[f.ar.toNat]? =some s):eB (f::r)=oh (uc 60) s+eB ({f with ar:=f.ar+1}::r):=by
 have hl:f.ar.toNat<f.block.length:=by
  rcases Nat.lt_or_ge f.ar.toNat f.block.length with q|q
  ·exact q
  ·rw[List.getElem?_eq_none q] at h;cases h
 have e:f.block.drop f.ar.toNat=s::f.block.drop (f.ar.toNat+1):=by
  rw[List.drop_eq_getElem_cons hl];rw[List.getElem?_eq_getElem hl] at h;injection h with h
  rw[h]
 show mR (uc 60) (f.block.drop f.ar.toNat)+_+_+_=oh (uc 60) s+(mR (uc 60) (f.block.drop (f.ar+1).toNat)+_+_+_);rw[e,show(f.ar+1).toNat=f.ar.toNat+1 by omega];show oh (uc 60) s+mR (uc 60) (f.block.drop<|f.ar.toNat+1)+f.turns.toNat*uc 61 f.block+(if f.bY=true then uc 61 (f.other.getD []) else 0)+eB r=oh (uc 60) s+(mR (uc 60) (f.block.drop<|f.ar.toNat+1)+f.turns.toNat*uc 61 f.block+(if f.bY=true then uc 61 (f.other.getD []) else 0)+eB r);omega
theorem Iz:∀{st:List Fr} {g:Fr} {r':List Fr},below st=some (g,r')->g.bY=true
 |[],_,_,h=>by cases h
 |f::r,g,r',h=>by
  unfold mu.below at h;by_cases c:f.bY=true
  ·rw[if_pos c] at h;injection h with h;injection h with h1 h2
   rw[←h1];exact c
  ·rw[if_neg c] at h;exact Iz h
section
variable {a a':dG}
theorem acR(h:mw a)(hk:dZ a=(1,0,0))(hs:qv a=some a'):eB a'.fs.reverse+1<=eB a.fs.reverse:=by
 rcases h.top with e|⟨f,r,e,ht⟩
 ·exfalso;unfold dZ at hk;rw[e] at hk;injection hk with q _;omega
 have hw:=h.inv.wf;rw[e] at hw;obtain⟨d,⟨kind,to,ea,eb,bd,el⟩,hd,q,k1,_,k3,k4⟩:=Bi hw ht;have k3:lp d bd:=k3;have k4:lp d el:=k4;have u3:uc 61 bd=uc 60 bd:=FE d 61 60 bd k3 ab ab;have u4:uc 61 el=uc 60 el:=FE d 61 60 el k4 ab ab;have tp:=Vh (r:=r) hw.2.1.1 q;unfold qv at hs;rw[e] at hs ⊢;simp only[q] at hs;have hC:oh (uc 60) (.mk kind to ea eb bd el)=1+(if kind=4 then max (uc 60 bd) (uc 60 el) else if kind=5 then 8*uc 60 bd else if kind=7 then uc 60 bd+uc 60 el else 0):=rfl;have KG:∀(g:Fr) (r':List Fr),g.ar=0->eB (g::r')=uc 61 g.block+g.turns.toNat*uc 61 g.block+(if g.bY=true then uc 61 (g.other.getD []) else 0)+eB r':=fun g r' hg=>by show mR (uc 60) (g.block.drop g.ar.toNat)+_+_+_=_;rw[hg];rfl
 by_cases c1:kind=1
 ·rw[if_pos c1] at hs;have:=xf hs;omega
 rw[if_neg c1] at hs;by_cases c2:kind=2
 ·rw[if_pos c2] at hs;have:=xf hs;omega
 rw[if_neg c2] at hs;by_cases c3:kind=3
 ·rw[if_pos c3] at hs;have:=xf hs;omega
 rw[if_neg c3] at hs;by_cases c4:kind=4
 ·rw[if_pos c4] at hs;have p:=xf hs;rw[KG _ _ rfl] at p;rw[if_pos c4] at hC;have p:eB a'.fs.reverse<=uc 61 (if dx a ea≠0 then bd else el)+(0:Int).toNat*uc 61 (if dx a ea≠0 then bd else el)+(if false=true then _ else 0)+eB ({f with ar:=f.ar+1}::r):=p;rw[if_neg ff,show(0:Int).toNat=0 from rfl,Nat.zero_mul] at p;by_cases z:dx a ea≠0
  ·rw[if_pos z] at p;omega
  ·rw[if_neg z] at p;omega
 rw[if_neg c4] at hs;by_cases c5:kind=5
 ·rw[if_pos c5] at hs;rw[if_neg c4,if_pos c5] at hC;by_cases z:0<kS (dx a ea)
  ·rw[if_pos z] at hs;have t8:=Nx<|dx a ea;have p:=xf hs;rw[KG _ _ rfl] at p;have p:eB a'.fs.reverse<=uc 61 bd+(kS (dx a ea) - 1).toNat*uc 61 bd+(if false=true then _ else 0)+eB ({f with ar:=f.ar+1}::r):=p;rw[if_neg ff,u3] at p;have m:(kS (dx a ea) - 1).toNat*uc 60 bd<=7*uc 60 bd:=Nat.mul_le_mul_right _ ab;omega
  ·rw[if_neg z] at hs;have:=xf hs;omega
 rw[if_neg c5] at hs;by_cases c6:kind=6
 ·rw[if_pos c6] at hs;cases hb:below (f::r) with
  |none=>rw[hb] at hs;cases hs
  |some p=>
   obtain⟨⟨fb,fa,ft,fo,kept,Q8⟩,r'⟩:=p;rw[hb] at hs;have ho:=Iz hb;cases Q8 with
   |none=>cases hs
   |some ol=>
    have p:=xf hs;rw[KG _ _ rfl] at p;have p:eB a'.fs.reverse<=uc 61 ol+(0:Int).toNat*uc 61 ol+(if false=true then _ else 0)+eB r':=p;rw[if_neg ff,show(0:Int).toNat=0 from rfl,Nat.zero_mul] at p;have fm:below ({f with ar:=f.ar+1}::r)=some (⟨fb,fa,ft,fo,kept,some ol⟩,r')\/∃g':Fr,below ({f with ar:=f.ar+1}::r)=some (g',r')/\g'.other=some ol:=by
     unfold mu.below at hb ⊢;by_cases c:f.bY=true
     ·rw[if_pos c] at hb;injection hb with hb;injection hb with h1 h2
      refine .inr ⟨{f with ar:=f.ar+1},by rw[←h2];exact if_pos c,by show f.other=_;rw[h1]⟩
     ·rw[if_neg c] at hb;exact .inl (by rw[←hb];exact if_neg c)
    have:uc 61 ol+eB r'<=eB ({f with ar:=f.ar+1}::r):=by
     rcases fm with fm|⟨g',fm,eo⟩
     ·exact MV fm<|Iz fm
     ·have:=MV fm<|Iz fm;rw[eo] at this;exact this
    omega
 rw[if_neg c6] at hs;by_cases c7:kind=7
 ·rw[if_pos c7] at hs;rw[if_neg c4,if_neg c5,if_pos c7] at hC;have p:=xf hs;rw[KG _ _ rfl] at p;have p:eB a'.fs.reverse<=uc 61 bd+(0:Int).toNat*uc 61 bd+(if true=true then uc 61 el else 0)+eB ({f with ar:=f.ar+1}::r):=p;rw[if_pos rfl,show(0:Int).toNat=0 from rfl,Nat.zero_mul] at p;omega
 ·rw[if_neg c7] at hs;cases hs
theorem aeu(h:mw a){v:Int}(hk:dZ a=(2,v,0))(hs:nA a x=some a'):eB a'.fs.reverse+1<=eB a.fs.reverse:=by
 rcases h.top with e|⟨f,r,e,ht⟩
 ·exfalso;unfold dZ at hk;rw[e] at hk;injection hk with q _;omega
 have hw:=h.inv.wf;rw[e] at hw;obtain⟨d,⟨kind,to,ea,eb,bd,el⟩,hd,q,_⟩:=Bi hw ht;have tp:=Vh (r:=r) hw.2.1.1 q;unfold nA at hs;rw[e] at hs ⊢;simp only[q] at hs;have:=xf hs;have:1<=oh (uc 60) (.mk kind to ea eb bd el):=Nat.le_add_right _ _;omega
end
theorem aev(hw:lp 6 tx)(hc:gi 60 tx<=2000){bb:bf}(h:ig 1000 [tK tx] [[]]=some (st,bb)):((eB st:Nat):Int)<=gi 60 tx:=by
 have p:=ET 1000 _ _ _ _ h;have e:eB [tK tx]=uc 61 tx:=by show uc 61 tx+(0:Int).toNat*uc 61 tx+(if false=true then _ else 0)+0=_;rw[if_neg ff,show(0:Int).toNat=0 from rfl,Nat.zero_mul];rfl
 have s:=FE 6 61 60 tx hw ab ab;have:=Vg 60 tx hc;omega
theorem acS{n:Int}(h:tZ tx n true):gi 60 tx<=2000:=by obtain⟨_,_,_,_,_,e⟩:=h;obtain⟨h1,_⟩:=and_true.1 e.symm;exact(of_decide_eq_true h1).2.2.2
end KF
end
section
open Go Go.Rn Go.RowKit Go.Proofs
namespace KH
open cj fW eZ im eR cH dq cU gk gm jZ mu nV qH zM DK KF yf D5
variable {a a':dG}
def vH(n:Int)(m:List<|Int×Int):Prop:=∀p∈m,0<=p.1/\p.1<n
def mK(n:Int)(b:bf):Prop:=∀m∈b,vH n m
section
variable {n:Int} {b b':bf} {m:List<|Int×Int} {k v:Int}
theorem OY:∀{m:List<|Int×Int},vH n m->0<=k/\k<n->vH n (fO m k v)
 |[],_,hk,p,hp=>by rw[fO,List.mem_singleton] at hp;subst hp;exact hk
 |q::l,h,hk,p,hp=>by
  unfold fO at hp;split at hp
  ·rcases List.mem_cons.1 hp with rfl|hp
   ·exact hk
   ·exact h p<|List.mem_cons_of_mem _ hp
  ·rcases List.mem_cons.1 hp with rfl|hp
   ·exact h _ List.mem_cons_self
   ·exact OY (fun x hx=>h x<|List.mem_cons_of_mem _ hx) hk p hp
theorem ND:∀{s d:List<|Int×Int},vH n d->vH n s->vH n (fj d s)
 |[],d,hd,_=>hd
 |p::s,d,hd,hs=>ND (s:=s) (OY hd<|hs p List.mem_cons_self) fun q hq=>hs q<|List.mem_cons_of_mem _ hq
theorem VY:∀{b:bf},mK n b->0<=k/\k<n->mK n (kU b k v)
 |[],h,_=>h
 |[m],h,hk=>fun q hq=>by rw[show kU [m] k v=[fO m k v] from rfl,List.mem_singleton] at hq;subst hq;exact OY (h m List.mem_cons_self) hk
 |m::m'::l,h,hk=>fun q hq=>by
  rcases List.mem_cons.1 (show q∈m::kU (m'::l) k v from hq) with rfl|hq
  ·exact h _ List.mem_cons_self
  ·exact VY (b:=m'::l) (fun x hx=>h x<|List.mem_cons_of_mem _ hx) hk q hq
theorem Vi:∀{b:bf},mK n b->mK n (gd b)
 |[],h=>h
 |[m],h=>h
 |[m,m'],h=>fun q hq=>by rw[show gd [m,m']=[fj m m'] from rfl,List.mem_singleton] at hq;subst hq;exact ND (h m List.mem_cons_self)<|h m'<|List.mem_cons_of_mem _ List.mem_cons_self
 |m::m'::Ag::l,h=>fun q hq=>by
  rcases List.mem_cons.1 (show q∈m::gd (m'::Ag::l) from hq) with rfl|hq
  ·exact h _ List.mem_cons_self
  ·exact Vi (b:=m'::Ag::l) (fun x hx=>h x<|List.mem_cons_of_mem _ hx) q hq
theorem Fc:∀(j:Nat) (st:List Fr) (b:bf) (aW:List Fr) (b':bf),ig j st b=some (aW,b')->mK n b->mK n b'
 |0,_,_,_,_,h,_=>by cases h
 |j+1,[],b,aW,b',h,hb=>by
  unfold ig at h;injection h with h;injection h with _ h
  rw[←h];exact hb
 |j+1,f::r,b,aW,b',h,hb=>by
  unfold ig at h;split at h
  ·injection h with h;injection h with _ h
   rw[←h];exact hb
  split at h
  ·split at h
   ·injection h with h;injection h with _ h
    rw[←h];exact hb
   ·exact Fc j _ b _ _ h hb
  split at h
  ·split at h
   ·exact Fc j _ _ _ _ h<|Vi hb
   ·cases h
  ·exact Fc j _ b _ _ h hb
theorem FZ{st:List Fr}(h:fin a st b=some a')(hb:mK n b):mK n a'.b:=by
 unfold fin at h;cases e:ig 1000 st b with
 |none=>rw[e] at h;cases h
 |some p=>
  rw[e] at h;injection h with h
  rw[←h];exact Fc 1000 st b p.1 p.2 e hb
end
theorem aew{n:Int}{b:bf}(hb:mK n b):mK n<|b++[[]]:=fun m hm=>by
 rcases List.mem_append.1 hm with hm|hm
 ·exact hb m hm
 ·rw[List.mem_singleton] at hm;subst hm;intro p hp;cases hp
theorem aex(hv:1<=a.vars)(hs:qv a=some a')(hb:mK a.vars a.b):mK a.vars a'.b:=by
 unfold qv at hs;split at hs
 ·cases hs
 split at hs
 ·cases hs
 repeat' split at hs
 all_goals first|(cases hs;done)|exact FZ hs hb|exact FZ hs (VY hb<|U4 hv)|exact FZ hs (fun m hm=>hb m<|List.dropLast_subset _ hm)|exact FZ hs<|aew hb
theorem afV{x:Int}(hs:nA a x=some a')(hb:mK a.vars a.b):mK a.vars a'.b:=by
 unfold nA at hs;split at hs
 ·cases hs
 split at hs
 ·cases hs
 exact FZ hs hb
theorem VZ{n:Int}{b:bf}(h:mK n b):∀{d:List<|Int×Int},vH n d->vH n (b.foldl fj d):=by
 induction b with
 |nil=>exact fun hd=>hd
 |cons m b ih=>exact fun hd=>ih (fun x hx=>h x<|List.mem_cons_of_mem _ hx)<|ND hd<|h m List.mem_cons_self
theorem V4:∀(n:Nat) (l:List Int),l.Nodup->(∀x∈l,0<=x/\x<(n:Int))->l.length<=n
 |0,[],_,_=>Nat.le_refl _
 |0,x::l,_,h=>by have:=h x List.mem_cons_self;omega
 |n+1,l,hn,h=>by
  have e:l.length<=(l.erase (n:Int)).length+1:=by
   by_cases q:(n:Int)∈l
   ·rw[List.length_erase_of_mem q];omega
   ·rw[List.erase_of_not_mem q];omega
  have:=V4 n (l.erase (n:Int)) (hn.erase _) fun x hx=>by
   have h1:=h x<|List.mem_of_mem_erase hx;have h2:x≠(n:Int):=fun e=>by rw[e] at hx;exact(List.Nodup.not_mem_erase hn) hx
   omega
  omega
theorem Vj{n:Nat}{b:bf}(h:mK (n:Int) b):(allM b).length<=n:=by
 have hk:dW<|allM b:=Ml List.nodup_nil;have hi:vH (n:Int)<|allM b:=VZ h fun p hp=>by cases hp
 have:=V4 n ((allM b).map (·.1)) hk fun x hx=>by obtain⟨p,hp,rfl⟩:=List.mem_map.1 hx;exact hi p hp
 rw[List.length_map] at this;exact this
structure Al where
 m:dG
 rs:List<|Int×Int
 re:Bool
 x:Int
def kl(mem:List Int)(v:Int):Int:=mem.getD v.toNat 0
def rH(mem:List Int):Nat->dG->List (Int×Int)->Option Al
  |0,_,_=>none
  | n+1,a,rs=>if(dZ a).1=1 then(qv a).bind fun a'=>rH mem n a' rs
    else if(dZ a).1=2 then(nA a<|kl mem (dZ a).2.1).bind fun a'=>rH mem n a'<|rs++[((dZ a).2.1,kl mem (dZ a).2.1)]
    else if(dZ a).1=3 then some ⟨a,rs,false,(dZ a).2.2⟩ else some ⟨a,rs,true,0⟩
def lr(d:Al):List<|Int×Int:=if d.re=true then[] else dR (allM d.m.b)
structure rJ (mem:List Int) (a:dG) (rs:List<|Int×Int):Prop where
 mi:mw a
 va:a.vars=(mem.length:Int)
 bi:mK a.vars a.b
 st:(rs.length:Int)<=a.steps
 rd:∀p∈rs,0<=p.1/\p.1<(mem.length:Int)/\p.2=kl mem p.1
theorem Uk{mem:List Int}{rs:List<|Int×Int}(h:rJ mem a rs)(hs:a.steps<=1000000000000):(dZ a=(1,0,0)/\∃a',qv a=some a'/\Iv a/\rJ mem a' rs/\a'.steps=a.steps+1/\eB a'.fs.reverse+1<=eB a.fs.reverse)\/
 (∃v a',dZ a=(2,v,0)/\(0<=v/\v<(mem.length:Int))/\nA a (kl mem v)=some a'/\JH a/\rJ mem a' (rs++[(v,kl mem v)])/\a'.steps=a.steps+1/\eB a'.fs.reverse+1<=eB a.fs.reverse)\/(∃x,dZ a=(3,0,x))\/dZ a=(4,0,0):=by
 obtain⟨hm,hv,hb,cC,YH⟩:=h;have h1:=hm.vars;rcases abz hm with e|⟨v,e,b1,b2⟩|e|e
 ·obtain⟨hd,a',q1,q2,q3,q4,_⟩:=M9 hm ab e;exact .inl ⟨e,a',q1,hd,⟨q2,q4.trans hv,by rw[q4];exact aex h1.1 q1 hb,by omega,YH⟩,q3,acR hm e q1⟩
 ·obtain⟨hd,a',q1,q2,q3,q4,_⟩:=aeo hm ab e<|kl mem v;refine .inr<|.inl ⟨v,a',e,by omega,q1,hd,⟨q2,q4.trans hv,by rw[q4];exact afV q1 hb,by rw[List.length_append];show((rs.length+1:Nat):Int)<=_;omega,fun p hp=>?_⟩,q3,aeu hm e q1⟩;rcases List.mem_append.1 hp with hp|hp
  ·exact YH p hp
  ·rw[List.mem_singleton] at hp;subst hp;exact⟨b1,by show v<_;omega,rfl⟩
 ·exact .inr<|.inr<|.inl e
 ·exact .inr<|.inr<|.inr e
theorem NF{mem:List Int}:∀(n:Nat) (a:dG) (rs:List<|Int×Int),rJ mem a rs->eB a.fs.reverse<n->a.steps+n<=1000000->∃d,rH mem n a rs=some d/\rJ mem d.m d.rs/\(d.re=true->d.x=0)/\d.m.steps<=a.steps+n
 |0,_,_,_,h,_=>by omega
 |n+1,a,rs,h,hp,hn=>by
  unfold rH;rcases Uk h ab with⟨e,a',e1,_,ok,e2,e3⟩|⟨v,a',e,hv,e1,_,ok,e2,e3⟩|⟨x,e⟩|e
  ·rw[e,if_pos rfl,e1];obtain⟨d,h1,h2,h3,h4⟩:=NF n a' rs ok ab ab;exact⟨d,h1,h2,h3,by omega⟩
  ·rw[e,if_neg (by show ¬((2:Int)=1);omega),if_pos rfl];show ∃d,(nA a<|kl mem v).bind _=some d/\_;rw[e1];obtain⟨d,h1,h2,h3,h4⟩:=NF n a' _ ok ab ab;exact⟨d,h1,h2,h3,by omega⟩
  ·rw[e,if_neg (by show ¬((3:Int)=1);omega),if_neg (by show ¬((3:Int)=2);omega),if_pos rfl];exact⟨_,rfl,h,(fun q=>by cases q),by show a.steps<=_;omega⟩
  ·rw[e,if_neg (by show ¬((4:Int)=1);omega),if_neg (by show ¬((4:Int)=2);omega),if_neg (by show ¬((4:Int)=3);omega)];exact⟨_,rfl,h,fun _=>rfl,by show a.steps<=_;omega⟩
theorem NG{mem zO:List Int}:∀(n:Nat) (a:dG) (rs:List<|Int×Int) (d:Al),rH mem n a rs=some d->(∀p∈rs,p∈d.rs)/\((∀p∈d.rs,kl zO p.1=p.2)->rH zO n a rs=some d)
 |0,_,_,_,h=>by cases h
 |n+1,a,rs,d,h=>by
  unfold rH at h ⊢;by_cases c1:(dZ a).1=1
  ·rw[if_pos c1] at h ⊢;cases e:qv a with
   |none=>rw[e] at h;cases h
   |some a'=>rw[e] at h;exact NG n a' rs d h
  rw[if_neg c1] at h ⊢;by_cases c2:(dZ a).1=2
  ·rw[if_pos c2] at h ⊢;cases e:nA a (kl mem (dZ a).2.1) with
   |none=>rw[e] at h;cases h
   |some a'=>rw[e] at h;obtain⟨i1,i2⟩:=NG (zO:=zO) n a' _ d h;refine⟨fun p hp=>i1 p<|List.mem_append_left _ hp,fun q=>?_⟩;have:=q _<|i1 _<|List.mem_append_right _<|List.mem_singleton.2 rfl;have this:kl zO (dZ a).2.1=kl mem (dZ a).2.1:=this;rw[this,e];exact i2 q
  rw[if_neg c2] at h ⊢;by_cases c3:(dZ a).1=3
  ·rw[if_pos c3] at h ⊢;injection h with h';subst h'
   exact⟨fun p hp=>hp,fun _=>rfl⟩
  ·rw[if_neg c3] at h ⊢;injection h with h';subst h'
   exact⟨fun p hp=>hp,fun _=>rfl⟩
theorem PE{mem:List Int}{d:Al}(h:rJ mem d.m d.rs):(lr d).Pairwise (fun a b=>a.1<b.1)/\(∀p∈lr d,0<=p.1/\p.1<(mem.length:Int))/\(lr d).length<=mem.length:=by
 unfold lr;split
 ·exact⟨List.Pairwise.nil,(fun p hp=>by cases hp),Nat.zero_le _⟩
 ·have hb:=h.bi;rw[h.va] at hb;have hk:dW<|allM d.m.b:=Ml List.nodup_nil;have hi:vH _<|allM d.m.b:=VZ hb fun p hp=>by cases hp
  refine⟨?_,(fun p hp=>hi p<|(Cz _).subset hp),by rw[Aw];exact Vj hb⟩;have h1:=Ny<|allM d.m.b;have h2:((dR<|allM d.m.b).map (·.1)).Nodup:=(((Cz<|allM d.m.b).map (·.1)).nodup_iff).2 hk;rw[List.Nodup,List.pairwise_map] at h2;exact(h1.and h2).imp fun q=>by have:=q.1;have:=q.2;omega
end KH
end
section
open Go Go.Rn Go.RowKit Go.Proofs
namespace J7
open cj fW eZ im fQ tV iA F9 eR cH dq cU gk vT gm jZ mu nV qH D3 zM DK Br KF yf D4 D5 KH Kz tY xP mQ mI vS xO
noncomputable section
abbrev EK(mem:List Int)(d:Al):AV:=GM d.x d.re d.rs (lr d) (kO mem<|lr d) d.m.steps
theorem afW{x st:Int}{b:Bool}{rs ws:List<|Int×Int}{mm:List Int}:(GM x b rs ws mm st).hi=true:=by show([AV.int .i64 x,.bool b,aw aS rs,aw aS ws,aw encI mm,.int .i64 st].all AV.cP&&true)=true;have h1:∀l:List<|Int×Int,(aw aS l).cP=true:=fun l=>aK.2<|cN _;have h2:(aw encI mm).cP=true:=aK.2<|cN _;show((true&&(true&&((aw aS rs).cP&&((aw aS ws).cP&&((aw encI mm).cP&&(true&&true))))))&&true)=true;rw[h1,h1,h2];rfl
theorem Xt{S:Type}{enc:S->AV}(inj:∀a b,enc a=enc b->a=b){f:S->List AV->Option (AV×S)}{a a':S}{rest:List AV}{y:AV}(h:f a rest=some (y,a'))(h1:rest.all AV.hi=true)(h2:y.hi=true):iK (gV enc f) (enc a) rest=some (y,enc a'):=adm ((AP inj).trans (by rw[h];rfl)) h1 h2
theorem aiS{m:dG}(hm:mw m)(hs:0<=m.steps/\m.steps<=1000000000000):uF (ep m) []=some (BM<|dZ m):=by refine(Ix uO).trans ?_;unfold Ky;rw[if_pos ⟨rfl,hm.ask hs⟩];rfl
theorem OZ{B:aI}(mc:Mt kP B){mem:List Int}{N o:Nat}(hl:du encI 1 (.U N o mem.length) mem)(h1:1<=mem.length/\mem.length<=1000):∀(n:Nat) (a:dG) (rs:List<|Int×Int),rJ mem a rs->eB a.fs.reverse<n->a.steps+n<=50000->rs.length+n<=50000->
 ∃d,rH mem n a rs=some d/\rJ mem d.m d.rs/\(d.re=true->d.x=0)/\kQ B (EK mem d) nu (fA (ep a) (.U N o mem.length) rs)
 |0,_,_,_,h,_,_=>by omega
 |n+1,a,rs,h,hp,hn,hr=>by
  have hN:=hl.len.2.1;have s0:0<=a.steps/\a.steps<=1000000000000:=by have:=h.st;omega
  have hx:=aiS h.mi s0;unfold rH;have fin:∀(d:Al),d.m=a->d.rs=rs->(d.re=true->d.x=0)->oK ep Hl (ep a) []=some (aw aS<|dR<|allM a.b)/\kQ B (EK mem d) fH (yG (ep a) (.U N o mem.length) d.x d.re rs<|lr d):=by rintro ⟨m,YI,re,x⟩ rfl rfl hre;obtain⟨w1,w2,w3⟩:=PE (d:=⟨m,YI,re,x⟩) h;have hb:=h.bi;rw[h.va] at hb;refine⟨(Ix uO).trans<|if_pos (by have:=Vj hb;omega),tlD mc (Ix uO)<|eO (eK DL.bM ⟨N,o,mem,_,rfl,hl,⟨h1.1,by omega,by omega⟩,w2,rfl⟩) ?_<|aK.2<|cN _⟩;rw[List.all_cons,hl.hi,List.all_cons,show(aw aS<|lr ⟨m,YI,re,x⟩).hi=true from aK.2<|cN _];rfl
  rcases Uk h ab with⟨e,a',e1,hd,ok,e2,e3⟩|⟨v,a',e,hv,e1,hd,ok,e2,e3⟩|⟨x,e⟩|e
  ·rw[e,if_pos rfl,e1];rw[e] at hx;obtain⟨d,d1,d2,d3,d4⟩:=OZ mc hl h1 n a' rs ok ab ab ab;refine⟨d,d1,d2,d3,jy mc hN ab (an:=0) (xn:=0) hx (Xt uO (f:=Gi) ?_ rfl rfl) d4⟩;unfold Gi;rw[if_pos ⟨rfl,hd⟩,e1];rfl
  ·rw[e,if_neg (by show ¬((2:Int)=1);omega),if_pos rfl];rw[e] at hx;show ∃d,(nA a<|kl mem v).bind _=some d/\_;rw[e1];obtain⟨d,d1,d2,d3,d4⟩:=OZ mc hl h1 n a' _ ok ab ab (by rw[List.length_append];show rs.length+1+n<=_;omega);have hg:mem[v.toNat]? =some (kl mem v):=by unfold kl;rw[List.getD_eq_getElem?_getD,List.getElem?_eq_getElem ab];rfl
   have hf:cG FU N (o+v.toNat*1+0) 1=some [.int .i64<|kl mem v]:=hl.len.2.2 v.toNat _ hg;have kT:iK (gV ep zL) (ep a) [.int .i64<|kl mem v]=some (.int .i64 0,ep a'):=by
    refine Xt uO (f:=zL) ?_ rfl rfl;have e0:zL a [.int .i64<|kl mem v]=(nA a<|kl mem v).map fun a'=>(AV.int .i64 0,a'):=by unfold zL;exact if_pos hd
    rw[e0,e1];rfl
   refine⟨d,d1,d2,d3,?_⟩;cases rs with
   |nil=>exact aiO mc hN hx hv hf kT d4
   |cons q r=>exact aiP mc hN ab hx hv hf kT d4
  ·rw[e,if_neg (by show ¬((3:Int)=1);omega),if_neg (by show ¬((3:Int)=2);omega),if_pos rfl];rw[e] at hx;obtain⟨f1,f2⟩:=fin ⟨a,rs,false,x⟩ rfl rfl (fun q=>by cases q);exact⟨_,rfl,h,(fun q=>by cases q),oe mc hN ab hx f1 f2⟩
  ·rw[e,if_neg (by show ¬((4:Int)=1);omega),if_neg (by show ¬((4:Int)=2);omega),if_neg (by show ¬((4:Int)=3);omega)];rw[e] at hx;obtain⟨f1,f2⟩:=fin ⟨a,rs,true,0⟩ rfl rfl fun _=>rfl;exact⟨_,rfl,h,fun _=>rfl,EH mc hN ab hx f2⟩
def EL(tx:List St)(mem aM:List Int):Option Al:=match ig 1000 [tK tx] [[]] with
 |some (st,bb)=>rH mem 3000 ⟨(mem.length:Int),aM,Z8,bb,st.reverse,0⟩ []
 |none=>none
def Ho(tx:List St)(mem aM:List Int):AV:=match EL tx mem aM with
 |some d=>EK mem d
 |none=>wF 0
def yH(args:List AV)(v:AV):Prop:=∃(tx:List St) (mem:List Int) (N o:Nat),args=[.U (nm (tx.map aL).flatten) 0 tx.length,.U N o mem.length,nl]/\du encI 1 (.U N o mem.length) mem/\((¬(1<=mem.length/\mem.length<=32)/\v=wF 1)\/((1<=mem.length/\mem.length<=32)/\qq 60 tx=true/\kB 60 tx=true/\∃b,tZ tx 0 b/\((b=false/\v=wF 4)\/(b=true/\pC 60 tx=true/\lp 6 tx/\v=Ho tx mem []))))
theorem yH.bM(args:List AV)(v v':AV)(h:yH args v)(h':yH args v'):v=v':=by
 obtain⟨tx,mem,N,o,rfl,i1,h⟩:=h;obtain⟨YD,zO,N',o',e,j1,h'⟩:=h';injection e with e1 e;injection e with e2 e
 have e1:tx=YD:=H4 e1;rw[e2] at i1;have e2:mem=zO:=i1.inj sO j1;subst e1;subst e2;rcases h with⟨a,rfl⟩|⟨a,_,_,b,m,h⟩<;>rcases h' with⟨a',rfl⟩|⟨a',_,_,b',m',h'⟩
 ·rfl
 ·exact absurd a' a
 ·exact absurd a a'
 ·have:=Uf m m';subst this;rcases h with⟨rfl,rfl⟩|⟨rfl,_,_,rfl⟩<;>rcases h' with⟨h1,rfl⟩|⟨h1,_,_,rfl⟩
  ·rfl
  ·cases h1
  ·cases h1
  ·rfl
def YJ:FuncId×KE:=(6,.val<|aR yH)
theorem Vk{tx:List St}{mem aM:List Int}(hm:1<=mem.length/\mem.length<=32)(hg:aM.length<=1000)(pO:tZ tx (aM.length:Int) true)(wf:lp 6 tx):∃st bb d,ig 1000 [tK tx] [[]]=some (st,bb)/\rJ mem ⟨(mem.length:Int),aM,Z8,bb,st.reverse,0⟩ []/\eB (st.reverse).reverse<=2000/\
 EL tx mem aM=some d/\rJ mem d.m d.rs/\(d.re=true->d.x=0)/\d.rs.length<=3000:=by
 obtain⟨st,bb,hs,hmi⟩:=aeq (aM:=aM) (vars:=(mem.length:Int)) wf hg ab;have hc:=acS pO;have al6:=aev wf hc hs;have hb:mK (mem.length:Int) bb:=Fc 1000 _ _ _ _ hs fun m hm=>by rw[List.mem_singleton] at hm;subst hm;intro p hp;cases hp
 have ok:rJ mem ⟨(mem.length:Int),aM,Z8,bb,st.reverse,0⟩ []:=⟨hmi,rfl,hb,Int.le_refl _,fun p hp=>by cases hp⟩;have fe:eB (st.reverse).reverse<=2000:=by rw[List.reverse_reverse];omega
 obtain⟨d,d1,d2,d3,d4⟩:=NF 3000 _ _ ok (by show eB (st.reverse).reverse<3000;omega) (by show(0:Int)+3000<=_;omega);exact⟨st,bb,d,hs,ok,fe,by unfold EL;rw[hs];exact d1,d2,d3,by have:=d2.st;have d4:d.m.steps<=(0:Int)+(3000:Nat):=d4;omega⟩
abbrev uG(X xl N o L:Nat)(g:AV):List<|Nat×AV:=[(0,.U X 0 xl),(1,.U N o L),(2,g)]
theorem s0Z{B:aI}{v:AV}{X xl N o L:Nat}(mc:Mt kP B)(hX:top<=X)(hN:top<=N)(H:kQ B v ⟨6,dc [.U X 0 xl,.U N o L,aw encI []],pj,(cv 6 []),[],none⟩<|ah ak 270):
 kQ B v ⟨6,dc [.U X 0 xl,.U N o L,nl],pj,(cv 6 []),[],none⟩ (ah ak 270):=
 wC mc (C:=fun fr s1 _=>fr=⟨6,aC<|uG X xl N o L<|aw encI [],pj,(cv 6 []),[],none⟩/\s1=ah ak 270) (fun fr s1 _ hC=>by obtain⟨rfl,rfl⟩:=hC;rw[show aC (uG X xl N o L<|aw encI [])=dc [.U X 0 xl,.U N o L,aw encI []] by kernel_rfl];exact H) (.rn (uG X xl N o L nl) ak (uG X xl N o L<|aw encI []) ak 270 270 .no) (show((uG X xl N o L nl).map (fun q=>some q.2)=(uG X xl N o L nl).map (fun q=>some q.2))/\(ak.map (fun q=>q.2)=ak.map (fun q=>q.2))/\hU FU 270 270 (uG X xl N o L nl) ak (uG X xl N o L<|aw encI []) ak 270/\((⟨6,aC<|uG X xl N o L<|aw encI [],pj,(cv 6 []),[],none⟩:AF)=⟨6,aC<|uG X xl N o L<|aw encI [],pj,(cv 6 []),[],none⟩/\ah ak 270=ah ak 270) from
  ⟨rfl,rfl,J5 (fz:=[]) (Nat.le_refl _) (Nat.le_refl _) eH (fun r hr ht p hp=>by
   simp only[uG,List.mem_cons,List.not_mem_nil,or_false] at hp;rcases hp with rfl|rfl|rfl
   ·exact⟨by show 0<top;unfold top;omega,_,kF.mi 0,(bp.U (ht _ hX) ht).z⟩
   ·exact⟨by show 1<top;unfold top;omega,_,kF.mi 1,(bp.U (ht _ hN) ht).z⟩
   ·exact⟨by show 2<top;unfold top;omega,_,kF.mi 2,Fv⟩) (fun r hr ht p hp=>by
   obtain⟨a,b⟩:=DI (fz:=[]) hr p hp;refine⟨a,fun y hy=>?_⟩;obtain⟨c,d⟩:=b y hy;exact⟨c,y,by rw[←hy];exact hp,fM.refl _,d⟩) (fun p hp=>by cases hp),rfl,rfl⟩) bW bW
theorem afX(hP:bS pg)(hs:Di pg 61 62){L:bO}(h:aX L):aX<|YJ::L:=by
 refine gE hP h (acO hP<|abr hP<|acG hP<|aei hP<|aer hP hs<|aes hP<|acP hP de) Tryz.func6 fun args v e=>?_;obtain⟨tx,mem,N,o,rfl,i1,h⟩:=fS e;have i2:=du.aw eI [];refine⟨aK.1 aU,fun B mc=>?_⟩;rw[←hI];have hi:[AV.U (nm (tx.map aL).flatten) 0 tx.length,.int .i64 (mem.length:Int),aw encI []].all AV.hi=true:=by rw[List.all_cons, ←vp,tj,List.all_cons,List.all_cons,i2.hi];rfl
 refine s0Z mc (cN _) i1.len.2.1 ?_;rcases h with⟨a,rfl⟩|⟨a,d1,d2,b,m,h⟩
 ·exact YG mc (.inl rfl)<|UH (NB ⟨tx,_,[],_,_,rfl,i2,Nat.zero_le _,.inl ⟨by omega,rfl⟩⟩) hi rfl
 ·rcases h with⟨rfl,rfl⟩|⟨rfl,gc,wf,rfl⟩
  ·exact YG mc (.inr rfl)<|UH (NB ⟨tx,_,[],_,_,rfl,i2,Nat.zero_le _,.inr ⟨by omega,d1,d2,false,m,.inl ⟨rfl,rfl⟩⟩⟩) hi rfl
  ·obtain⟨st,bb,_,e1,ok,hp,_⟩:=Vk (aM:=[]) a (Nat.zero_le _) m wf;obtain⟨d,k1,_,_,k4⟩:=OZ mc i1 ab 3000 _ [] ok (by show eB (st.reverse).reverse<3000;omega) (by show(0:Int)+3000<=_;omega) (by show 0+3000<=_;omega);have e2:Ho tx mem []=EK mem d:=by unfold Ho EL;rw[e1];show(match rH mem 3000 _ [] with|some d=>EK mem d|none=>wF 0)=_;rw[k1]
   rw[e2];exact EJ mc (adn (NB ⟨tx,_,[],_,_,rfl,i2,Nat.zero_le _,.inr ⟨by omega,d1,d2,true,m,.inr ⟨rfl,gc,st,bb,e1,rfl⟩⟩⟩) hi) k4
end
end J7
end
section
open Go Go.Rn Go.RowKit Go.Proofs
namespace KJ
open cj
noncomputable section
def Dk(args:List AV)(v:AV):Prop:=args=[]/\v= .bool true
theorem Dk.bM(args:List AV)(v v':AV)(h:Dk args v)(h':Dk args v'):v=v':=by rw[h.2,h'.2]
def V5:FuncId×KE:=(5,.val<|aR Dk)
def isT(r:R AV):Bool:=match r with| .ok (.bool true) _=>true|_=>false
def j9(f:FuncId):Nat:= @Bool.rec (fun _=>Nat) (@Bool.rec (fun _=>Nat) 0 1<|Nat.beq f 60) 1<|Nat.beq f 42
theorem aey:isT (zA pg j9 60 (.fn 5) [] ⟨dH,270,0,[],[]⟩)=true:=by as_aux_lemma=>kernel_rfl
theorem abD(hP:bS pg){L:bO}(h:aX L):aX<|V5::L:=by
 refine aax (j9:=j9) (fun _=>trivial) hP gT ry jT jq h Tryz.func5 (body:=aQ pg 5 []) aU aU fun args v e=>?_;obtain⟨rfl,rfl⟩:=fS e;have q:=aey;revert q;cases e:zA pg j9 60 (.fn 5) [] ⟨dH,270,0,[],[]⟩ with
 |bad=>intro q;cases q
 |ok x s1=>
  intro q;refine⟨60,s1,e.trans ?_⟩;cases x with
  |bool b=>cases b with
   |true=>rfl
   |false=>cases q
  |_=>cases q
end
end KJ
end
section
open Go Go.Rn Go.RowKit Go.Proofs
namespace KK
open cj
noncomputable section
def KI:List Item:=[.code<|aQ pg 8 [1,1,0,1,0,0],.inLoop<|aQ pg 8 [1,1,0,1,0,0],.inBlock 0,.code<|aQ pg 8 [1,1,1]]
abbrev EM:Nat:=max Tryz.f8.ntmps 2
def pc(A C L:Nat)(i:Int):List<|Nat×AV:=[(0,.U A 0 L),(1,.U C 0 L),(5,.int .i64 i)]
def pd(A C L:Nat)(i:Int):AF:=⟨8,aC<|pc A C L i,EM,KI,[],none⟩
abbrev uH(B:aI)(b:Bool)(fr:AF)(s:AS):Prop:=au pg B 270 (Fin pg (az Tryz.f8) fun y _=>y= .bool b) fr s
abbrev YK(A C L:Nat)(i:Int):Prop:=((pc A C L i).map (fun q=>some q.2)=(pc A C L i).map (fun q=>some q.2))/\(ak.map (fun q=>q.2)=ak.map (fun q=>q.2))/\(pd A C L i=pd A C L i/\ah ak 270=ah ak 270)
section
variable {B:aI} {b:Bool} {A C L:Nat} {i x y:Int}
theorem cI(mc:Mt [] B){t:Tr AV}{K:List Item}(H:uH B b (pd A C L i)<|ah ak 270)(p:Pl){T:Prop}(z:T)(h:T=wp (en []) 900 6 (.fr 8 EM K t<|ah ak 270) p (az Tryz.f8) (fun y _ _=>y= .bool b) (fun fr s1 _=>fr=pd A C L i/\s1=ah ak 270):=by as_aux_lemma=>kernel_rfl):uH B b ⟨8,t,EM,K,[],none⟩<|ah ak 270:=wC mc (L:=[]) (C:=fun fr s1 _=>fr=pd A C L i/\s1=ah ak 270) BC p z h bU
theorem s0(mc:Mt [] B)(H:uH B b (pd A C L 0)<|ah ak 270):uH B b ⟨8,dc [.U A 0 L,.U C 0 L],EM,(cv 8 []),[],none⟩<|ah ak 270:=cI mc H (.st 4<|.rg<|.go 4<|.fk .no<|.en<|.st 7<|.ls (pc A C L 0) ak 270 .no)<|aT ((L:Int)≠(L:Int)) (fun h=>show False from h rfl) (fun _=>show YK A C L 0 from⟨rfl,rfl,rfl,rfl⟩)
theorem sN{L':Nat}(mc:Mt [] B)(hn:L≠L'):uH B false ⟨8,dc [.U A 0 L,.U C 0 L'],EM,(cv 8 []),[],none⟩<|ah ak 270:=wS mc (L:=[]) (R:=fun y _=>y= .bool false) (.st 4<|.rg<|.go 4<|.fk (.en<|.rt 5 .no) .no) (aT ((L:Int)≠(L':Int)) (fun _=>show(AV.bool false)= .bool false from rfl) (fun h=>show False by omega)) bU bU
theorem stp(mc:Mt [] B)(hA:top<=A)(hC:top<=C)(hL:L<=1000000)(h0:0<=i)(h1:i<(L:Int))(hx:cG FU A (0+i.toNat*1+0) 1=some [.int .i64 x])(hy:cG FU C (0+i.toNat*1+0) 1=some [.int .i64 x])(H:uH B b (pd A C L<|i+1)<|ah ak 270):uH B b (pd A C L i)<|ah ak 270:=cI mc H (.st 2<|.rg<|.go 3<|.fk (.en<|.st 5<|.rg<|.go 2<|.eF<|.eG [.int .i64 x]<|.go 2<|.eF<|.eG [.int .i64 x]<|.fk .no<|.en<|.st 3<|.rg<|.go 1<|.vl (i6<|i+1)<|.go 1<|.en<|.st 1<|.ls (pc A C L<|i+1) ak 270 .no) .no)<|aT (i<(L:Int)) (fun _=>And.intro (show(0:Int)<=i from h0)<|ai (show i<(L:Int) from h1)<|ai hA<|ai hx<|ai (show(0:Int)<=i from h0)<|ai (show i<(L:Int) from h1)<|ai hC<|ai hy<|aT (x≠x) (fun h=>show False from h rfl) fun _=>And.intro (congrArg (AV.int .i64) (show IntKind.wrap .i64 (i+1)=i+1 from EO ab)) (show YK A C L (i+1) from⟨rfl,rfl,rfl,rfl⟩)) (fun h=>show False from h h1)
theorem stN(mc:Mt [] B)(hA:top<=A)(hC:top<=C)(h0:0<=i)(h1:i<(L:Int))(hx:cG FU A (0+i.toNat*1+0) 1=some [.int .i64 x])(hy:cG FU C (0+i.toNat*1+0) 1=some [.int .i64 y])(ch:x≠y):uH B false (pd A C L i)<|ah ak 270:=wS mc (L:=[]) (R:=fun y _=>y= .bool false) (.st 2<|.rg<|.go 3<|.fk (.en<|.st 5<|.rg<|.go 2<|.eF<|.eG [.int .i64 x]<|.go 2<|.eF<|.eG [.int .i64 y]<|.fk (.en<|.rt 4 .no) .no) .no) (aT (i<(L:Int)) (fun _=>And.intro (show(0:Int)<=i from h0)<|ai (show i<(L:Int) from h1)<|ai hA<|ai hx<|ai (show(0:Int)<=i from h0)<|ai (show i<(L:Int) from h1)<|ai hC<|ai hy<|aT (x≠y) (fun _=>show(AV.bool false)= .bool false from rfl) (fun h=>show False from h ch)) (fun h=>show False from h h1)) bU bU
theorem sE(mc:Mt [] B)(h1:(L:Int)<=i):uH B true (pd A C L i)<|ah ak 270:=wS mc (L:=[]) (R:=fun y _=>y= .bool true) (.st 2<|.rg<|.go 3<|.fk .no<|.en<|.rt 5 .no) (aT (i<(L:Int)) (fun h=>show False by omega) (fun _=>show(AV.bool true)= .bool true from rfl)) bU bU
end
def DM(args:List AV)(v:AV):Prop:=∃l m:List Int,args=[aw encI l,aw encI m]/\l.length<=1000000/\v= .bool (decide<|l=m)
theorem Ul{l m:List Int}(h:aw encI l=aw encI m):l=m:=by
 have e:du encI 1 (aw encI l) m:=by rw[h];exact du.aw eI m
 exact du.inj sO (du.aw eI l) e
theorem DM.bM(args:List AV)(v v':AV)(h:DM args v)(h':DM args v'):v=v':=by
 obtain⟨l,m,rfl,_,rfl⟩:=h;obtain⟨l',m',e,_,rfl⟩:=h';injection e with e1 e;injection e with e2 _
 rw[Ul e1,Ul e2]
def WG:FuncId×KE:=(8,.val<|aR DM)
theorem acT(hP:bS pg){L:bO}(h:aX L):aX<|WG::L:=by
 refine gE hP h de Tryz.func8 fun args v e=>?_;obtain⟨l,m,rfl,hl,rfl⟩:=fS e;refine⟨aK.1 aU,fun B mc=>?_⟩;rw[←hI];by_cases hn:l.length=m.length
 ·have key:∀(n i:Nat),l.length - i=n->i<=l.length->l.take i=m.take i->uH B (decide<|l=m) (pd (nm (l.map encI).flatten) (nm (m.map encI).flatten) l.length i) (ah ak 270):=by
   intro n;induction n with
   |zero=>
    intro i h1 h2 h3;have:l=m:=by rw[List.take_of_length_le ab,List.take_of_length_le ab] at h3;exact h3
    rw[decide_eq_true this];exact sE mc ab
   |succ n ih=>
    intro i h1 h2 h3;have hi:i<l.length:=by omega
    have hx:=xq eI (List.getElem?_eq_getElem hi) 0 1 ab;have hy:=xq eI (List.getElem?_eq_getElem (show i<m.length by omega)) 0 1 ab;have ei:0+(i:Int).toNat*1+0=i*1+0:=by omega
    rw[←ei] at hx hy;by_cases q:l[i]=m[i]'ab
    ·rw[←q] at hy;have:=ih (i+1) ab ab (by rw[List.take_add_one,List.take_add_one,h3,List.getElem?_eq_getElem hi,List.getElem?_eq_getElem (show i<m.length by omega),q]);rw[show(((i+1:Nat)):Int)=(i:Int)+1 by omega] at this;exact stp mc (cN _) (cN _) hl ab ab hx hy this
    ·have:l≠m:=fun e=>q (by subst e;rfl);rw[decide_eq_false this];exact stN mc (cN _) (cN _) ab ab hx hy q
  have:=s0 mc<|key _ 0 rfl (Nat.zero_le _) rfl;show uH B (decide<|l=m) ⟨8,dc [.U (nm (l.map encI).flatten) 0 l.length,.U (nm (m.map encI).flatten) 0 m.length],EM,(cv 8 []),[],none⟩<|ah ak 270;rw[←hn];exact this
 ·have:l≠m:=fun e=>hn (by rw[e]);rw[decide_eq_false this];exact sN mc hn
end
end KK
end
section
open Go Go.Rn Go.RowKit Go.Proofs
namespace KL
open cj yf
variable {t:Tr AV} {T:Prop} {K:List Item}
noncomputable section
def KT:List Item:=[.inLoop<|aQ pg 7 [1,0,1,0,0],.inBlock 0,.code<|aQ pg 7 [1,1]]
abbrev Cp:Nat:=max Tryz.f7.ntmps 2
abbrev nP(l:List<|Int×Int):Nat:=nm (l.map aS).flatten
def jb(a b:List<|Int×Int)(i:Int):List<|Nat×AV:=[(0,aw aS a),(1,aw aS b),(5,.int .i64 i)]
def Hp(a b:List<|Int×Int)(i k:Int):List<|Nat×AV:=[(0,aw aS a),(1,aw aS b),(5,.int .i64 i),(6,.int .i64 k)]
def Cq(a b:List<|Int×Int)(i:Int):AF:=⟨7,aC<|jb a b i,Cp,.code (aQ pg 7 [1,0,1,0,0])::KT,[],none⟩
def eh(a b:List<|Int×Int)(i k:Int):AF:=⟨7,aC<|Hp a b i k,Cp,.code (aQ pg 7 [1,0,1,0,0,1,0,0,1,0,0]):: .inLoop (aQ pg 7 [1,0,1,0,0,1,0,0,1,0,0]):: .inBlock 2:: .inBlock 1:: .code (aQ pg 7 [1,0,1,0,0,1,1])::KT,[],none⟩
abbrev pn(B:aI)(r:Bool)(fr:AF)(s:AS):Prop:=au pg B 270 (Fin pg (az Tryz.f7) fun y _=>y= .bool r) fr s
abbrev LB(l:List<|Nat×AV)(fr:AF):Prop:=(l.map (fun q=>some q.2)=l.map (fun q=>some q.2))/\(ak.map (fun q=>q.2)=ak.map (fun q=>q.2))/\(fr=fr/\ah ak 270=ah ak 270)
section
variable {B:aI} {r:Bool} {a b:List<|Int×Int} {i k x y:Int}
theorem cM(mc:Mt [] B){F:AF}(H:pn B r F<|ah ak 270)(p:Pl)(z:T)(h:T=wp (en []) 900 6 (.fr 7 Cp K t<|ah ak 270) p (az Tryz.f7) (fun y _ _=>y= .bool r) (fun fr s1 _=>fr=F/\s1=ah ak 270):=by as_aux_lemma=>kernel_rfl):pn B r ⟨7,t,Cp,K,[],none⟩<|ah ak 270:=wC mc (L:=[]) (C:=fun fr s1 _=>fr=F/\s1=ah ak 270) BC p z h bU
theorem eM(mc:Mt [] B)(p:Pl)(z:T)(h:T=wp (en []) 900 6 (.fr 7 Cp K t<|ah ak 270) p (az Tryz.f7) (fun y _ _=>y= .bool r) (fun _ _ _=>False):=by as_aux_lemma=>kernel_rfl):pn B r ⟨7,t,Cp,K,[],none⟩<|ah ak 270:=wS mc (L:=[]) (R:=fun y _=>y= .bool r) p z h bU
theorem s0(mc:Mt [] B)(H:pn B r (Cq a b 0)<|ah ak 270):pn B r ⟨7,dc [aw aS a,aw aS b],Cp,(cv 7 []),[],none⟩<|ah ak 270:=cM mc H (.st 7<|.ls (jb a b 0) ak 270 .no) (show LB (jb a b 0) (Cq a b 0) from⟨rfl,rfl,rfl,rfl⟩)
theorem oN(mc:Mt [] B)(h:(a.length:Int)<=i):pn B false (Cq a b i)<|ah ak 270:=eM mc (.st 2<|.rg<|.go 3<|.fk .no<|.en<|.rt 5 .no)<|aT (i<(a.length:Int)) (fun h=>show False by omega) (fun _=>show AV.bool false= .bool false from rfl)
theorem oY(mc:Mt [] B)(h:i<(a.length:Int))(H:pn B r (eh a b i 0)<|ah ak 270):pn B r (Cq a b i)<|ah ak 270:=cM mc H (.st 2<|.rg<|.go 3<|.fk (.en<|.st 8<|.ls (Hp a b i 0) ak 270 .no) .no)<|aT (i<(a.length:Int)) (fun _=>show LB (Hp a b i 0) (eh a b i 0) from⟨rfl,rfl,rfl,rfl⟩) (fun h=>show False by omega)
theorem iN(mc:Mt [] B)(ha:a.length<=1000000)(hi:0<=i/\i<(a.length:Int))(h:(b.length:Int)<=k)(H:pn B r (Cq a b<|i+1)<|ah ak 270):pn B r (eh a b i k)<|ah ak 270:=cM mc H (.st 2<|.rg<|.go 3<|.fk .no<|.en<|.st 3<|.rg<|.go 1<|.vl (i6<|i+1)<|.go 1<|.en<|.st 1<|.ls (jb a b<|i+1) ak 270 .no)<|aT (k<(b.length:Int)) (fun h=>show False by omega) fun _=>And.intro (congrArg (AV.int .i64) (show IntKind.wrap .i64 (i+1)=i+1 from EO ab)) (show LB (jb a b<|i+1) (Cq a b<|i+1) from⟨rfl,rfl,rfl,rfl⟩)
theorem iT(mc:Mt [] B)(hi:0<=i/\i<(a.length:Int))(hk:0<=k/\k<(b.length:Int))(hx:cG FU (nP a) (0+i.toNat*2+0) 1=some [.int .i64 x])(hy:cG FU (nP b) (0+k.toNat*2+0) 1=some [.int .i64 x]):pn B true (eh a b i k)<|ah ak 270:=eM mc (.st 2<|.rg<|.go 3<|.fk (.en<|.st 5<|.rg<|.go 2<|.eF<|.go 1<|.eG [.int .i64 x]<|.go 2<|.eF<|.go 1<|.eG [.int .i64 x]<|.fk (.en<|.rt 4 .no) .no) .no)<|aT (k<(b.length:Int)) (fun _=>And.intro (show(0:Int)<=i from hi.1)<|ai (show i<(a.length:Int) from hi.2)<|ai (cN (a.map aS).flatten)<|ai hx<|ai (show(0:Int)<=k from hk.1)<|ai (show k<(b.length:Int) from hk.2)<|ai (cN (b.map aS).flatten)<|ai hy<|aT (x=x) (fun _=>show AV.bool true= .bool true from rfl) (fun h=>show False from h rfl)) (fun h=>show False by omega)
theorem iF(mc:Mt [] B)(hb:b.length<=1000000)(hi:0<=i/\i<(a.length:Int))(hk:0<=k/\k<(b.length:Int))(hx:cG FU (nP a) (0+i.toNat*2+0) 1=some [.int .i64 x])(hy:cG FU (nP b) (0+k.toNat*2+0) 1=some [.int .i64 y])(hn:x≠y)(H:pn B r (eh a b i<|k+1)<|ah ak 270):pn B r (eh a b i k)<|ah ak 270:=cM mc H (.st 2<|.rg<|.go 3<|.fk (.en<|.st 5<|.rg<|.go 2<|.eF<|.go 1<|.eG [.int .i64 x]<|.go 2<|.eF<|.go 1<|.eG [.int .i64 y]<|.fk .no<|.en<|.st 3<|.rg<|.go 1<|.vl (i6<|k+1)<|.go 1<|.en<|.st 1<|.ls (Hp a b i<|k+1) ak 270 .no) .no)<|aT (k<(b.length:Int)) (fun _=>And.intro (show(0:Int)<=i from hi.1)<|ai (show i<(a.length:Int) from hi.2)<|ai (cN (a.map aS).flatten)<|ai hx<|ai (show(0:Int)<=k from hk.1)<|ai (show k<(b.length:Int) from hk.2)<|ai (cN (b.map aS).flatten)<|ai hy<|aT (x=y) (fun h=>show False from hn h) fun _=>And.intro (congrArg (AV.int .i64) (show IntKind.wrap .i64 (k+1)=k+1 from EO ab)) (show LB (Hp a b i<|k+1) (eh a b i<|k+1) from⟨rfl,rfl,rfl,rfl⟩)) (fun h=>show False by omega)
end
def xE(a b:List<|Int×Int):Bool:=a.any fun p=>b.any fun q=>decide<|p.1=q.1
def Dl(args:List AV)(v:AV):Prop:=∃a b:List<|Int×Int,args=[aw aS a,aw aS b]/\a.length<=1000000/\b.length<=1000000/\v= .bool (xE a b)
theorem Um{l m:List<|Int×Int}(h:aw aS l=aw aS m):l=m:=by
 have e:du aS 2 (aw aS l) m:=by rw[h];exact du.aw yg m
 exact du.inj Tu (du.aw yg l) e
theorem Dl.bM(args:List AV)(v v':AV)(h:Dl args v)(h':Dl args v'):v=v':=by
 obtain⟨l,m,rfl,_,_,rfl⟩:=h;obtain⟨l',m',e,_,_,rfl⟩:=h';injection e with e1 e;injection e with e2 _
 rw[Um e1,Um e2]
def V6:FuncId×KE:=(7,.val<|aR Dl)
theorem KO{l:List<|Int×Int}{i:Nat}(h:i<l.length):cG FU (nP l) (0+(i:Int).toNat*2+0) 1=some [.int .i64 l[i].1]:=by rw[show 0+(i:Int).toNat*2+0=i*2+0 by omega];exact xq yg (List.getElem?_eq_getElem h) 0 1 ab
theorem abE(hP:bS pg){L:bO}(h:aX L):aX<|V6::L:=by
 refine gE hP h de Tryz.func7 fun args v e=>?_;obtain⟨a,b,rfl,ha,hb,rfl⟩:=fS e;refine⟨aK.1 aU,fun B mc=>?_⟩;rw[←hI];have key:∀(n i:Nat),a.length - i=n->pn B (xE (a.drop i) b) (Cq a b i) (ah ak 270):=by
  intro n;induction n with
  |zero=>intro i hi;rw[List.drop_of_length_le ab];exact oN mc ab
  |succ n ih=>
   intro i hi;have hl:i<a.length:=by omega
   have inner:∀(m k:Nat),b.length - k=m->pn B ((b.drop k).any (fun q=>decide<|a[i].1=q.1)||xE (a.drop<|i+1) b) (eh a b i k) (ah ak 270):=by
    intro m;induction m with
    |zero=>intro k hk;rw[List.drop_of_length_le ab];exact iN mc ha ab ab<|ih (i+1) ab
    |succ m ihm=>
     intro k hk;have Ro:k<b.length:=by omega
     rw[List.drop_eq_getElem_cons Ro,List.any_cons];by_cases q:a[i].1=b[k].1
     ·rw[decide_eq_true q];have hy:=KO Ro;rw[←q] at hy;exact iT mc ab ab (KO hl) hy
     ·rw[decide_eq_false q];exact iF mc hb ab ab (KO hl) (KO Ro) q<|ihm (k+1) ab
   rw[List.drop_eq_getElem_cons hl];exact oY mc ab<|inner _ 0 rfl
 exact s0 mc<|key _ 0 rfl
end
end KL
end
section
open Go Go.Rn Go.RowKit Go.Proofs
namespace Qd
open cj eR fW kF D6 Gj yf D5 KH Kz J7 KJ KK KL
variable {t:Tr AV} {s:AS} {K:List Item}
noncomputable section
abbrev LJ:bO:=[vE 22,V5,YJ,V6,WG]
abbrev Cr:Nat:=max Tryz.f3.ntmps 3
abbrev po(B:aI)(fr:AF)(s:AS):Prop:=au pg B 270 (Fin pg (az Tryz.f3) fun y _=>y= .bool true) fr s
def LC(S sl T tl N L:Nat)(e f:Int):List<|Nat×AV:=[(0,.U S 0 sl),(1,.U T 0 tl),(2,.U N 0 L),(7,.ptr<|some (270,0)),(8,.int .i64 e),(9,.ptr<|some (271,0)),(10,.int .i64 f)]
def qU(cs ds:List AV):List<|Nat×Option ae:=ak++[(270,some<|.cells 6 (Tr.fill cs 0 .nil) []),(271,some<|.cells 6 (Tr.fill ds 0 .nil) [])]
def wG(S sl T tl N L:Nat)(e f:Int):AF:=⟨3,aC<|LC S sl T tl N L e f,Cr,(cv 3 [1,1,1,1]),[],none⟩
def qV(x:Int)(b:Bool)(rs ws:List<|Int×Int)(mm:List Int)(st:Int):List AV:=[.int .i64 x,.bool b,aw aS rs,aw aS ws,aw encI mm,.int .i64 st]
def YL:List AV:=[z0,.bool false,nl,nl,nl,z0]
section
variable {B:aI} {N L S sl T tl:Nat} {cs ds:List AV} {m m2 e f:Int}
theorem cJ(mc:Mt LJ B){F:AF}{S:AS}(H:po B F S)(p:Pl){T:Prop}(z:T)(h:T=wp (en LJ) 900 6 (.fr 3 Cr K t s) p (az Tryz.f3) (fun y _ _=>y= .bool true) (fun fr s1 _=>fr=F/\s1=S):=by as_aux_lemma=>kernel_rfl)(h0:Nat.ble 270 s.nx=true:=by as_aux_lemma=>kernel_rfl):po B ⟨3,t,Cr,K,[],none⟩ s:=wC mc (C:=fun fr s1 _=>fr=F/\s1=S) BC p z h h0
theorem eJ{L0:bO}(mc:Mt L0 B)(p:Pl){T:Prop}(z:T)(h:T=wp (en L0) 900 6 (.fr 3 Cr K t s) p (az Tryz.f3) (fun y _ _=>y= .bool true) (fun _ _ _=>False):=by as_aux_lemma=>kernel_rfl)(h0:Nat.ble 270 s.nx=true:=by as_aux_lemma=>kernel_rfl):po B ⟨3,t,Cr,K,[],none⟩ s:=wS mc (R:=fun y _=>y= .bool true) p z h h0
abbrev Hr(S sl T tl N L:Nat):AF:=⟨3,dc [.U S 0 sl,.U T 0 tl,.U N 0 L],Cr,(cv 3 []),[],none⟩
abbrev ok:Prop:=AV.bool true= .bool true
abbrev KM(S sl:Nat)(m:Int)(b:Bool):Prop:=bj (aR<|rG 22) [.U S 0 sl,.int .i64<|.ofNat 0]=some (.tuple [.int .i64 m,.bool b])
abbrev KA:Prop:=bj (aR Dk) []=some (.bool true)
abbrev KD(S sl N L:Nat)(cs:List AV)(e:Int):Prop:=bj (aR yH) [.U S 0 sl,.U N 0 L,nl]=some (.tuple [.agg cs,.int .i64 e])
theorem s0L(mc:Mt LJ B)(kM:KM S sl m true)(kA:KA):po B (Hr S sl T tl N L)<|ah ak 270:=eJ mc (.st 4<|.rg<|.go 1<|.il<|.st 3<|.rg<|.go 1<|.kn (.tuple [.int .i64 m,.bool true])<|.go 5<|.en<|.rt 3<|.go 13<|.en<|.st 2<|.rg<|.kn (.bool true)<|.go 1<|.en<|.rt 1 .no)<|ai kM<|ai kA (show ok from rfl)
theorem s0M(mc:Mt LJ B)(kM:KM S sl m false)(kN:KM T tl m2 true)(kA:KA):po B (Hr S sl T tl N L)<|ah ak 270:=eJ mc (.st 4<|.rg<|.go 1<|.il<|.st 3<|.rg<|.go 1<|.kn (.tuple [.int .i64 m,.bool false])<|.go 5<|.en<|.rt 3<|.go 2<|.il<|.st 3<|.rg<|.go 1<|.kn (.tuple [.int .i64 m2,.bool true])<|.go 5<|.en<|.rt 3<|.go 10<|.en<|.st 2<|.rg<|.kn (.bool true)<|.go 1<|.en<|.rt 1 .no)<|ai kM<|ai kN<|ai kA (show ok from rfl)
theorem s0B(mc:Mt LJ B)(hb:L>32)(kM:KM S sl m false)(kN:KM T tl m2 false)(kA:KA):po B (Hr S sl T tl N L)<|ah ak 270:=eJ mc (.st 4<|.rg<|.go 1<|.il<|.st 3<|.rg<|.go 1<|.kn (.tuple [.int .i64 m,.bool false])<|.go 5<|.en<|.rt 3<|.go 2<|.il<|.st 3<|.rg<|.go 1<|.kn (.tuple [.int .i64 m2,.bool false])<|.go 5<|.en<|.rt 3<|.go 4<|.fk (.go 5<|.en<|.st 2<|.rg<|.kn (.bool true)<|.go 1<|.en<|.rt 1 .no) .no)<|ai kM<|ai kN<|aT ((L:Int)>32) (fun _=>And.intro kA (show ok from rfl)) (fun h=>show False by omega)
theorem EJ(mc:Mt LJ B)(hb:L<=32)(kM:KM S sl m false)(kN:KM T tl m2 false)(kA:KA)(kD:KD S sl N L cs e)(kE:KD T tl N L ds f)(H:po B (wG S sl T tl N L e f)<|ah (qU cs ds) 272)(h:(KM S sl m false/\KM T tl m2 false/\(((L:Int)>32->False)/\(¬(L:Int)>32->KA/\KD S sl N L cs e/\KD T tl N L ds f/\((LC S sl T tl N L e f).map (fun q=>some q.2)=(LC S sl T tl N L e f).map (fun q=>some q.2))/\((qU cs ds).map (fun q=>q.2)=(qU cs ds).map (fun q=>q.2))/\(wG S sl T tl N L e f=wG S sl T tl N L e f/\ah (qU cs ds) 272=ah (qU cs ds) 272))))=wp (en LJ) 900 6 (.fr 3 Cr (cv 3 []) (dc [.U S 0 sl,.U T 0 tl,.U N 0 L])<|ah ak 270) (.st 4<|.rg<|.go 1<|.il<|.st 3<|.rg<|.go 1<|.kn (.tuple [.int .i64 m,.bool false])<|.go 5<|.en<|.rt 3<|.go 2<|.il<|.st 3<|.rg<|.go 1<|.kn (.tuple [.int .i64 m2,.bool false])<|.go 5<|.en<|.rt 3<|.go 4<|.fk .no<|.go 2<|.kn (.bool true)<|.go 2<|.en<|.st 3<|.rg<|.go 2<|.kn (.tuple [.agg cs,.int .i64 e])<|.go 6<|.en<|.st 1<|.rg<|.go 2<|.kn (.tuple [.agg ds,.int .i64 f])<|.go 6<|.en<|.ls (LC S sl T tl N L e f) (qU cs ds) 272 .no) (az Tryz.f3) (fun y _ _=>y= .bool true) (fun fr s1 _=>fr=wG S sl T tl N L e f/\s1=ah (qU cs ds) 272):=by as_aux_lemma=>kernel_rfl):po B (Hr S sl T tl N L)<|ah ak 270:=cJ mc H _ ⟨kM,kN,(fun h=>by omega),fun _=>⟨kA,kD,kE,rfl,rfl,rfl,rfl⟩⟩ h
theorem Xu(mc:Mt [] B)(he:e=1\/e=4):po B (wG S sl T tl N L e f)<|ah (qU cs ds) 272:=by
 rcases he with rfl|rfl
 ·exact eJ mc (.rt 7 .no) (show ok from rfl)
 ·exact eJ mc (.rt 7 .no) (show ok from rfl)
theorem aiT(mc:Mt [] B)(he:f=1\/f=4):po B (wG S sl T tl N L 0 f)<|ah (qU cs ds) 272:=by
 rcases he with rfl|rfl
 ·exact eJ mc (.rt 7 .no) (show ok from rfl)
 ·exact eJ mc (.rt 7 .no) (show ok from rfl)
abbrev KT(a b:List<|Int×Int)(r:Bool):Prop:=bj (aR Dl) [aw aS a,aw aS b]=some (.bool r)
variable {xa xb sa sb:Int} {ba bb:Bool} {ra rb wa wb:List<|Int×Int} {ma mb Rp md:List Int}
theorem mT1(mc:Mt LJ B)(k1:KT wa rb true):po B (wG S sl T tl N L 0 0)<|ah (qU (qV xa ba ra wa ma sa)<|qV xb bb rb wb mb sb) 272:=eJ mc (.st 2<|.rg<|.go 11<|.kn (.bool true)<|.go 15<|.en<|.rt 4 .no)<|ai k1 (show ok from rfl)
theorem mT2(mc:Mt LJ B)(k1:KT wa rb false)(k2:KT wb ra true):po B (wG S sl T tl N L 0 0)<|ah (qU (qV xa ba ra wa ma sa)<|qV xb bb rb wb mb sb) 272:=eJ mc (.st 2<|.rg<|.go 11<|.kn (.bool false)<|.go 6<|.kn (.bool true)<|.go 8<|.en<|.rt 4 .no)<|ai k1<|ai k2 (show ok from rfl)
theorem mT3(mc:Mt LJ B)(k1:KT wa rb false)(k2:KT wb ra false)(k3:KT wa wb true):po B (wG S sl T tl N L 0 0)<|ah (qU (qV xa ba ra wa ma sa)<|qV xb bb rb wb mb sb) 272:=eJ mc (.st 2<|.rg<|.go 11<|.kn (.bool false)<|.go 6<|.kn (.bool false)<|.go 6<|.kn (.bool true)<|.go 1<|.en<|.rt 4 .no)<|ai k1<|ai k2<|ai k3 (show ok from rfl)
abbrev KC(S sl:Nat)(w:List Int)(cs:List AV):Prop:=bj (aR yH) [.U S 0 sl,aw encI w,nl]=some (.tuple [.agg cs,.int .i64 0])
theorem enJ(mc:Mt LJ B)(k1:KT wa rb false)(k2:KT wb ra false)(k3:KT wa wb false)(kC:KC T tl ma<|qV xb bb rb wb Rp sb)(kD:KC S sl mb<|qV xa ba ra wa md sa)(kI:bj (aR DM) [aw encI Rp,aw encI md]=some (.bool true)):po B (wG S sl T tl N L 0 0)<|ah (qU (qV xa ba ra wa ma sa)<|qV xb bb rb wb mb sb) 272:=by
 have TT:=And.intro k1<|ai k2<|ai k3<|ai kC<|ai kD<|aT (xb=xb) (fun _=>aT (xa=xa) (fun _=>And.intro kI (show ok from rfl)) (fun h=>show False from h rfl)) (fun h=>show False from h rfl);let P:Bool->Bool->Pl:=fun ba bb=>(.st 2<|.rg<|.go 11<|.kn (.bool false)<|.go 6<|.kn (.bool false)<|.go 6<|.kn (.bool false)<|.go 1<|.en<|.st 3<|.rg<|.go 3<|.kn (.tuple [.agg<|qV xb bb rb wb Rp sb,.int .i64 0])<|.go 6<|.en<|.st 1<|.rg<|.go 3<|.kn (.tuple [.agg<|qV xa ba ra wa md sa,.int .i64 0])<|.go 6<|.en<|.st 1<|.rg<|.go 11<|.fk (.go 6<|.fk (.go 20<|.kn (.bool true)<|.go 2<|.en<|.rt 1 .no) .no) .no);cases ba<;>cases bb
 ·exact eJ mc (P false false) TT aU
 ·exact eJ mc (P false true) TT aU
 ·exact eJ mc (P true false) TT aU
 ·exact eJ mc (P true true) TT aU
end
end
end Qd
end
section
open Go Go.Rn Go.RowKit Go.Proofs
namespace WH
open cj fW eZ im fQ tV iA F9 eR cH dq cU gk vT gm jZ mu nV qH D3 zM DK Br KF yf D4 D5 KH Kz J7 tY xP mQ mI vS xO D6 Gj J6 KJ KK KL Qd
noncomputable section
abbrev nI(l:List Int):Nat:=nm (l.map encI).flatten
abbrev nS(l:List St):Nat:=nm (l.map aL).flatten
theorem V7:∀(l:List<|Int×Int) (w:List Int) {v:Int},0<=v->(∀q∈l,0<=q.1/\q.1≠v)->kl (kO w l) v=kl w v
 |[],w,v,_,_=>rfl
 |p::l,w,v,hv,h=>by obtain⟨a1,a2⟩:=h p List.mem_cons_self;refine(V7 l (w.set p.1.toNat p.2) hv fun q hq=>h q<|List.mem_cons_of_mem _ hq).trans ?_;unfold kl;rw[List.getD_eq_getElem?_getD,List.getD_eq_getElem?_getD,List.getElem?_set_ne ab]
theorem V8:∀(l:List<|Int×Int) (w:List Int) {k:Nat} {x:Int},(∀q∈l,q.1.toNat≠k)->kO (w.set k x) l=(kO w l).set k x
 |[],w,_,_,_=>rfl
 |p::l,w,k,x,h=>by show kO ((w.set k x).set p.1.toNat p.2) l=_;rw[List.set_comm _ _ fun e=>h p List.mem_cons_self e.symm];exact V8 l _ fun q hq=>h q<|List.mem_cons_of_mem _ hq
theorem Vl:∀(l m:List<|Int×Int) (w:List Int),(∀p∈l,∀q∈m,q.1.toNat≠p.1.toNat)->kO (kO w l) m=kO (kO w m) l
 |[],m,w,_=>rfl
 |p::l,m,w,h=>by show kO (kO (w.set p.1.toNat p.2) l) m=kO ((kO w m).set p.1.toNat p.2) l;rw[Vl l m _ fun a ha=>h a<|List.mem_cons_of_mem _ ha,V8 m w fun q hq=>h p List.mem_cons_self q hq]
theorem apart{a b:List<|Int×Int}(h:xE a b=false):∀p∈a,∀q∈b,p.1≠q.1:=fun p hp q hq e=>by have:=List.any_eq_false.1 h p hp;exact this<|List.any_eq_true.2 ⟨q,hq,decide_eq_true e⟩
theorem V9{tx:List St}{mem:List Int}(hm:(cR 22 tx).2=false)(hk:pE 60 tx)(hl:mem.length<=32):(∃e,KD (nS tx) tx.length (nI mem) mem.length YL e/\(e=1\/e=4))\/
 ∃d:Al,(∀w:List Int,w.length=mem.length->(∀p∈d.rs,kl w p.1=p.2)->KD (nS tx) tx.length (nI w) w.length (qV d.x d.re d.rs (lr d) (kO w<|lr d) d.m.steps) 0)/\rJ mem d.m d.rs/\d.rs.length<=3000:=by
 have htx:(AV.U (nS tx) 0 tx.length).hi=true:=aK.2<|cN _;have ux:∀w:List Int,[AV.U (nS tx) 0 tx.length,.U (nI w) 0 w.length,nl].all AV.hi=true:=fun w=>by rw[List.all_cons,htx,List.all_cons,show(AV.U (nI w) 0 w.length).hi=true from aK.2<|cN _];rfl
 by_cases hq:1<=mem.length/\mem.length<=32;rotate_left
 ·exact .inl ⟨_,eO (eK yH.bM ⟨tx,mem,_,_,rfl,du.aw eI mem,.inl ⟨hq,rfl⟩⟩) (ux mem) rfl,.inl rfl⟩
 obtain⟨d1,d2⟩:=CD 22 60 tx ab hm;obtain⟨b,pO,ahv⟩:=acQ (n:=0) hm hk;cases b with
 |false=>exact .inl ⟨_,eO (eK yH.bM ⟨tx,mem,_,_,rfl,du.aw eI mem,.inr ⟨hq,d2,d1,false,pO,.inl ⟨rfl,rfl⟩⟩⟩) (ux mem) rfl,.inr rfl⟩
 |true=>
  obtain⟨gc,wf⟩:=ahv rfl;obtain⟨st,bb,d,hs,_,_,hd,ok,hre,GU⟩:=Vk (aM:=[]) hq (Nat.zero_le _) pO wf;refine .inr ⟨d,fun w hw hr=>?_,ok,GU⟩;have Eg:EL tx w []=some d:=by unfold EL at hd ⊢;rw[hs] at hd ⊢;show rH _ _ ⟨(w.length:Int),[],Z8,bb,st.reverse,0⟩ []=some d;rw[hw];exact(NG (zO:=w) _ _ _ _ hd).2 hr
  have hv:Ho tx w []=EK w d:=by unfold Ho;rw[Eg]
  refine eO (eK yH.bM ⟨tx,w,_,_,rfl,du.aw eI w,.inr ⟨by omega,d2,d1,true,pO,.inr ⟨rfl,gc,wf,?_⟩⟩⟩) (ux w) afW;rw[hv];rfl
theorem aay{B:aI}(mc:Mt LJ B)(Rq:Mt [] B){s t:List St}{mem:List Int}(hs:pE 60 s)(ht:pE 60 t):
 po B (Hr (nS s) s.length (nS t) t.length (nI mem) mem.length) (ah ak 270):=by
 have kA:KA:=eO (eK Dk.bM ⟨rfl,rfl⟩) rfl rfl;have kM:∀tx:List St,KM (nS tx) tx.length (cR 22 tx).1 (cR 22 tx).2:=fun tx=>eO (eK rG.bM ⟨tx,by rw[vp];rfl,by omega,rfl⟩) (by rw[List.all_cons,show(AV.U (nS tx) 0 tx.length).hi=true from aK.2<|cN _];rfl) rfl;have k1:=kM s;have k2:=kM t;cases hm:(cR 22 s).2 with
 |true=>rw[hm] at k1;exact s0L mc k1 kA
 |false=>
 cases hn:(cR 22 t).2 with
 |true=>rw[hm] at k1;rw[hn] at k2;exact s0M mc k1 k2 kA
 |false=>
 rw[hm] at k1;rw[hn] at k2;by_cases hb:mem.length>32
 ·exact s0B mc hb k1 k2 kA
 have fm:mem.length<=32:=by omega
 rcases V9 (mem:=mem) hm hs fm with⟨e,c1,c2⟩|⟨a,a1,a2,a3⟩<;>rcases V9 (mem:=mem) hn ht fm with⟨f,d1,d2⟩|⟨b,b1,b2,b3⟩
 ·exact EJ mc fm k1 k2 kA c1 d1<|Xu Rq c2
 ·exact EJ mc fm k1 k2 kA c1 (b1 mem rfl fun p hp=>(b2.rd p hp).2.2.symm)<|Xu Rq c2
 ·exact EJ mc fm k1 k2 kA (a1 mem rfl fun p hp=>(a2.rd p hp).2.2.symm) d1<|aiT Rq d2
 ·obtain⟨w1,w2,w3⟩:=PE a2;obtain⟨v1,v2,v3⟩:=PE b2;refine EJ mc fm k1 k2 kA (a1 mem rfl fun p hp=>(a2.rd p hp).2.2.symm) (b1 mem rfl fun p hp=>(b2.rd p hp).2.2.symm) ?_;have kT:∀l m:List<|Int×Int,l.length<=1000000->m.length<=1000000->KT l m (xE l m):=fun l m hl hm=>eO (eK Dl.bM ⟨l,m,rfl,hl,hm,rfl⟩) (by rw[List.all_cons,show(aw aS l).hi=true from aK.2<|cN _,List.all_cons,show(aw aS m).hi=true from aK.2<|cN _];rfl) rfl;have t1:=kT (lr a) b.rs ab ab;have t2:=kT (lr b) a.rs ab ab;have t3:=kT (lr a) (lr b) ab ab;cases q1:xE (lr a) b.rs with
  |true=>rw[q1] at t1;exact mT1 mc t1
  |false=>
  cases q2:xE (lr b) a.rs with
  |true=>rw[q1] at t1;rw[q2] at t2;exact mT2 mc t1 t2
  |false=>
  cases q3:xE (lr a) (lr b) with
  |true=>rw[q1] at t1;rw[q2] at t2;rw[q3] at t3;exact mT3 mc t1 t2 t3
  |false=>rw[q1] at t1;rw[q2] at t2;rw[q3] at t3;have same:∀{l r:List<|Int×Int},(∀p∈l,0<=p.1/\p.1<(mem.length:Int))->(∀p∈r,0<=p.1/\p.1<(mem.length:Int)/\p.2=kl mem p.1)->xE l r=false->∀p∈r,kl (kO mem l) p.1=p.2:=fun h1 h2 h p hp=>(V7 _ mem (h2 p hp).1 fun q hq=>⟨(h1 q hq).1,apart h q hq p hp⟩).trans (h2 p hp).2.2.symm;have kC:=b1 (kO mem<|lr a) (FD _ _)<|same w2 b2.rd q1;have kD:=a1 (kO mem<|lr b) (FD _ _)<|same v2 a2.rd q2;refine enJ mc t1 t2 t3 kC kD ?_;rw[Vl (lr a) (lr b) mem fun p hp q hq e=>apart q3 p hp q hq (by have:=(w2 p hp).1;have:=(v2 q hq).1;omega)];exact eO (eK DM.bM ⟨_,_,rfl,by rw[FD,FD];omega,by rw[decide_eq_true rfl]⟩) (by rw[List.all_cons,(du.aw eI _).hi,List.all_cons,(du.aw eI _).hi];rfl) rfl
end
end WH
end
