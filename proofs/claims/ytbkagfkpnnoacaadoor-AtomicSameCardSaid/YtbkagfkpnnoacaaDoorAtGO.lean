import Derived.Test.YtbkagfkpnnoacaaDoorAtGN
import Derived.Test.YtbkagfkpnnoacaaDoorAtGK
import Derived.Test.YtbkagfkpnnoacaaDoorAtGJ
import Derived.Test.YtbkagfkpnnoacaaDoorRnGH
set_option maxRecDepth 100000
set_option maxHeartbeats 8000000
set_option linter.unusedSimpArgs false
set_option linter.unusedVariables false
section
open Go Go.Rn Go.RowKit Go.Proofs
namespace Kp
open ch eO cG dj fT lV nT qC DT tW DU DV Bj
variable {x an xn e:Int} {ws:List<|Int×Int} {bw xo xl gl X G a:Nat} {r:Nat->Nat} {fz:kR} {b:Bool} {t:Tr AV} {s:AS} {q:Int×Int} {T:Prop} {K:List Item}
noncomputable section
abbrev ll:bO:=[Wm,VE,Wk,W7,Xd,Xe,Wo]
abbrev z0:AV:=.int .i64<|.ofNat 0
abbrev nl:AV:=.slice none 0<|.known 0
def Lj:List AV:=[z0,.bool false,nl,nl,nl,z0]
def pZ(M val rt rd ws:AV):List AV:=[M,.ptr<|some (271,0),val,rt,rd,ws,nl,z0]
def pj(um:AV)(c:List AV):List<|Nat×Option ae:=ar++[(270,some<|.cells 6 (Tr.fill Lj 0 .nil) []),(271,some<|.tok 4 um),(272,some<|.cells 8 (Tr.fill c 0 .nil) [])]
def Hf:List (Int×Int)->AV
 |[]=>nl
 |p::r=>.slice (some (273,0)) (p::r).length<|.aq (p::r).length 2
def oR:List (Int×Int)->List (Nat×Option ae)
 |[]=>[]
 |p::r=>[(273,some<|aC aS<|p::r)]
def nR:List (Int×Int)->Nat
 |[]=>273
 |_::_=>274
def iy:List<|Nat×AV:=[(6,.ptr<|some (270,0)),(8,.ptr<|some (271,0)),(10,.ptr<|some (272,0))]
abbrev wx:Nat:=max Tryd.f6.ntmps 3
def kx:AF:=⟨6,aE iy,wx,[.code<|aR pg 6 [1,1,1,1,0,0],.inLoop<|aR pg 6 [1,1,1,1,0,0],.inBlock 0],[],none⟩
abbrev oD(um M:AV)(reads:List<|Int×Int):List<|Nat×Option ae:=pj um (pZ M z0 (.bool false) (Hf reads) nl)++oR reads
abbrev fy(um M:AV)(reads:List<|Int×Int):AS:=ah (oD um M reads)<|nR reads
abbrev lI(B:aJ)(v:AV)(fr:AF)(s:AS):Prop:=au pg B 270 (Fin pg (az Tryd.f6) fun y _=>y=v) fr s
theorem Q3{nx:Nat}{l0 l:List<|Nat×AV}{o0 o:List<|Nat×Option ae}(hs:273<=bw/\bw<top)(ha:273<=a/\a<top)(hn:nx=274\/nx=273/\bw<=a)(hl:∀r:Nat->Nat,(∀k,k<273->r k=k)->(∀k,top<=k->r k=k)->r 273=a->∀p∈l,p.1<top/\∃x,(p.1,x)∈l0/\jC fz r x p.2)(ho:∀r:Nat->Nat,(∀k,k<273->r k=k)->(∀k,top<=k->r k=k)->r 273=a->∀p∈o,p.1<nx/\∀y,p.2=some y->y.jP=true/\∃x,(r p.1,some x)∈o0/\fK x y/\fj fz r x y)(hz:∀p∈fz,nx=273/\273<=p.1/\p.1<top/\FU p.2.1=some p.2.2/\∃N t z,(p.1,some<|.cells N t z)∈o0/\∀i x,p.2.2[i]? =some x->i<N/\cellAt t z i=some x/\x.bR=true/\x.cM=true):hJ FU 270 bw l0 o0 l o nx:=by
 let r:Nat->Nat:=fun k=>if k<273\/top<=k then k else if k=273 then a else max k bw
 have r1:∀k,k<273->r k=k:=fun k hk=>if_pos<|.inl hk;have r2:∀k,top<=k->r k=k:=fun k hk=>if_pos<|.inr hk;have r3:r 273=a:=by show(if _ then _ else _)=_;rw[if_neg dZ,if_pos rfl]
 have t0:274<top:=by unfold top;omega
 refine⟨fz,r,fun k hk=>r1 k ab,fun k c d=>?_,r2,by omega,hl r r1 r2 r3,fun p hp=>?_,fun p hp q hq _ _ e=>?_,fun p hp=>?_,fun p hp q hq _ e=>?_⟩
 ·by_cases q:k=273
  ·rw[q,r3];omega
  ·show bw<=(if _ then _ else _)/\(if _ then _ else _)<top;rw[if_neg ab,if_neg q];omega
 ·obtain⟨c,d⟩:=ho r r1 r2 r3 p hp;refine⟨by omega,fun y hy=>?_⟩;obtain⟨e1,x,e2,e3,e4⟩:=d y hy;refine⟨?_,e1,x,e2,e3,e4⟩;by_cases q:p.1=273
  ·rw[q,r3];exact ha.2
  ·rw[r1 _ ab];omega
 ·have c:=(ho r r1 r2 r3 p hp).1;have d:=(ho r r1 r2 r3 q hq).1;by_cases e1:p.1=273<;>by_cases e2:q.1=273
  ·rw[e1,e2]
  ·rw[e1,r3,r1 _ ab] at e;omega
  ·rw[e2,r3,r1 _ ab] at e;omega
  ·rw[r1 _ ab,r1 _ ab] at e;exact e
 ·exact(hz p hp).2.2
 ·have c:=(ho r r1 r2 r3 q hq).1;have d:=hz p hp;rw[r1 _ ab] at e;omega
theorem OK(hr:∀k,k<273->r k=k){um:AV}{c c':List AV}(hc:kK fz r c c')(h8:c'.length=8)(h1:c'.all AV.bR=true):∀p∈pj um c',p.1<273/\∀y,p.2=some y->y.jP=true/\∃x,(r p.1,some x)∈pj um c/\fK x y/\fj fz r x y:=fun p hp=>by
 unfold pj at hp ⊢;rcases List.mem_append.1 hp with hp|hp
 ·obtain⟨a,b⟩:=Dy (fz:=fz) (fun k hk=>hr k ab) p hp;refine⟨by omega,fun y hy=>?_⟩;obtain⟨d,e⟩:=b y hy;rw[hr _ ab];exact⟨d,y,List.mem_append_left _ (by rw[←hy];exact hp),fK.refl _,e⟩
 ·simp only[List.mem_cons,List.not_mem_nil,or_false] at hp;rcases hp with rfl|rfl|rfl
  ·refine⟨by show 270<273;omega,fun y hy=>?_⟩;cases hy;rw[show r (270,some<|ae.cells 6 (Tr.fill Lj 0 .nil) []).1=270 from hr 270 ab];exact⟨rfl,_,List.mem_append_right _ List.mem_cons_self,fK.refl _,fj.cells (l:=Lj) (m:=Lj) (by show 6<=top;unfold top;omega) ⟨(bg.int _ _).z,(bg.bool _).z,bg.yD.z,bg.yD.z,bg.yD.z,(bg.int _ _).z,trivial⟩ rfl⟩
  ·refine⟨by show 271<273;omega,fun y hy=>?_⟩;cases hy;rw[show r (271,some<|ae.tok 4 um).1=271 from hr 271 ab];exact⟨rfl,_,List.mem_append_right _<|List.mem_cons_of_mem _ List.mem_cons_self,fK.refl _,fun _ _ _ _ _ _=>trivial⟩
  ·refine⟨by show 272<273;omega,fun y hy=>?_⟩;cases hy;rw[show r (272,some<|ae.cells 8 (Tr.fill c' 0 .nil) []).1=272 from hr 272 ab];have e8:c.length=8:=hc.length.trans h8;refine⟨rfl,.cells 8 (Tr.fill c 0 .nil) [],List.mem_append_right _<|List.mem_cons_of_mem _<|List.mem_cons_of_mem _ List.mem_cons_self,wW,?_⟩;have:=fj.cells (fz:=fz) (r:=r) (l:=c) (m:=c') (by rw[e8];unfold top;omega) hc h1;rw[e8,h8] at this;exact this
abbrev Q4(o0:List<|Nat×Option ae)(um M:AV)(reads:List<|Int×Int)(bw:Nat):Prop:=(iy.map (fun q=>some q.2)=iy.map (fun q=>some q.2))/\(o0.map (fun q=>q.2)=o0.map (fun q=>q.2))/\hJ FU 270 bw iy o0 iy (oD um M reads) (nR reads)/\(kx=kx/\fy um M reads=fy um M reads)
theorem OL(hr:∀k,k<273->r k=k):∀p∈iy,p.1<top/\∃x,(p.1,x)∈iy/\jC fz r x p.2:=fun p hp=>by
 simp only[iy,List.mem_cons,List.not_mem_nil,or_false] at hp;rcases hp with rfl|rfl|rfl
 ·exact⟨by show 6<top;unfold top;omega,_,mi 0,(bg.ptr<|hr 270 ab).z⟩
 ·exact⟨by show 8<top;unfold top;omega,_,mi 1,(bg.ptr<|hr 271 ab).z⟩
 ·exact⟨by show 10<top;unfold top;omega,_,mi 2,(bg.ptr<|hr 272 ab).z⟩
section
variable {B:aJ} {v um ln:AV} {N o L:Nat} {reads:List<|Int×Int}
theorem OM(hr:∀k,k<273->r k=k)(ht:∀k,top<=k->r k=k)(hN:top<=N){val rt rd Yq ws Q2:AV}(h1:jC fz r val val)(h2:jC fz r rt rt)(h3:jC fz r rd Yq)(h4:jC fz r ws Q2):kK fz r (pZ (.U N o L) val rt rd ws)<|pZ (.U N o L) val rt Yq Q2:=⟨(bg.U (ht _ hN) ht).z,(bg.ptr<|hr 271 ab).z,h1,h2,h3,h4,bg.yD.z,(bg.int _ _).z,trivial⟩
theorem afN(hN:top<=N)(hs:273<=bw/\bw<290):Q4 (oD um (.U N o L) []) um (.U N o L) [] bw:=⟨rfl,rfl,Q3 (a:=bw) (fz:=[]) ⟨hs.1,by unfold top;omega⟩ ⟨hs.1,by unfold top;omega⟩ (.inr ⟨rfl,Nat.le_refl _⟩) (fun r r1 r2 r3=>OL r1) (fun r r1 r2 r3 p hp=>by rw[show oD um (.U N o L) []=pj um (pZ (.U N o L) z0 (.bool false) nl nl) from List.append_nil _] at hp ⊢;exact OK r1 (OM r1 r2 hN (bg.int _ _).z (bg.bool _).z bg.yD.z bg.yD.z) rfl rfl p hp) (fun p hp=>by cases hp),rfl,rfl⟩
theorem ON{r:List<|Int×Int}(hN:top<=N)(ha:273<=a/\a<290)(hs:273<=bw/\bw<290)(hl:(q::r).length<=1000000):Q4 (pj um (pZ (.U N o L) z0 (.bool false) (.slice (some (a,0)) (q::r).length<|.aq (q::r).length 2) nl)++[(a,some<|aC aS<|q::r)]) um (.U N o L) (q::r) bw:=
 ⟨rfl,rfl,Q3 (a:=a) (fz:=[]) ⟨hs.1,by unfold top;omega⟩ ⟨ha.1,by unfold top;omega⟩ (.inl rfl) (fun r r1 r2 r3=>OL r1) (fun f r1 r2 r3 p hp=>by
  rcases List.mem_append.1 hp with hp|hp
  ·obtain⟨c1,c2⟩:=OK r1 (OM r1 r2 hN (bg.int _ _).z (bg.bool _).z (bg.slice (n:=a) r3).z bg.yD.z) rfl rfl p hp;refine⟨by show p.1<274;omega,fun y hy=>?_⟩;obtain⟨d1,x,d2,d3,d4⟩:=c2 y hy;exact⟨d1,x,List.mem_append_left _ d2,d3,d4⟩
  ·rw[oR,List.mem_singleton] at hp;subst hp;refine⟨by show 273<274;omega,fun y hy=>?_⟩;cases hy;exact⟨rfl,_,List.mem_append_right _ (by show(f 273,_)∈_;rw[r3];exact List.mem_singleton.2 rfl),fK.refl _,(lS.aC (fun x=>⟨rfl,rfl⟩)<|Fe hl).z⟩) (fun p hp=>by cases hp),rfl,rfl⟩
abbrev pk(k:Int)(an xn:Int):AV:=.agg [.int .u8 k,.int .i64 an,.int .i64 xn]
abbrev uA:AV->List AV->Option AV:=oK eh fun a rest=>(Ko a rest).map (·.1)
theorem cD(mc:Mt ll B){M:AV}(H:lI B v kx<|fy ln M reads)(p:Pl)(x:T)(h:T=wp (en ll) 900 6 (.fr 6 wx K t s) p (az Tryd.f6) (fun y _ _=>y=v) (fun fr s1 _=>fr=kx/\s1=fy ln M reads))(h0:Nat.ble 270 s.nx=true):lI B v ⟨6,t,wx,K,[],none⟩ s:=wC mc (C:=fun fr s1 _=>fr=kx/\s1=fy ln M reads) DJ p x h h0
theorem ju(mc:Mt ll B)(hN:top<=N)(hl:reads.length<=100000)(k1:uA um []=some (pk 1 an xn))(k2:iK (gV eh Ga) um []=some (.int .i64 0,ln))(H:lI B v kx<|fy ln (.U N o L) reads):lI B v kx<|fy um (.U N o L) reads:=by
 have rn:Q4 (oD ln (.U N o L) reads) ln (.U N o L) reads<|nR reads+1:=by
  cases reads with
  |nil=>exact afN hN (by show 273<=274/\274<290;omega)
  |cons q r=>exact ON (a:=273) hN ab (by show 273<=275/\275<290;omega) ab
 have T:=tR ll 13 4 271 uA [] um (pk 1 an xn) k1 (ai k2 rn) rfl;clear k1 k2 rn;exact cD mc H (.st 3<|.rg<|.go 1<|.cg (pk 1 an xn) (tG 271) (tQ 4 271 um)<|.go 2<|.en<|.st 7<|.rg<|.go 1<|.kt (.int .i64 0) ln<|.en<|.st 2<|.rn iy (oD ln (.U N o L) reads) iy (oD ln (.U N o L) reads) (nR reads+1) (nR reads) .no) T (by clear T H;cases reads<;>kernel_rfl) (by cases reads<;>kernel_rfl)
theorem aiP(mc:Mt ll B)(hN:top<=N)(k1:uA um []=some (pk 2 an xn))(ha:0<=an/\an<(L:Int))(hx:cv FU N (o+an.toNat*1+0) 1=some [.int .i64 x])(k2:iK (gV eh zB) um [.int .i64 x]=some (.int .i64 0,ln))(H:lI B v kx<|fy ln (.U N o L) [(an,x)]):lI B v kx<|fy um (.U N o L) []:=cD mc H (.st 3<|.rg<|.go 1<|.cg (pk 2 an xn) (tG 271) (tQ 4 271 um)<|.go 2<|.en<|.st 10<|.rg<|.go 3<|.il<|.st 1<|.rg<|.go 5<|.eB<|.eC [.int .i64 x]<|.go 1<|.en<|.st 2<|.rg<|.go 5<|.kt (.int .i64 0) ln<|.en<|.rt 1<|.en<|.st 2<|.rn iy (pj ln (pZ (.U N o L) z0 (.bool false) (.slice (some (275,0)) [(an,x)].length<|.aq [(an,x)].length 2) nl)++[(275,some<|aC aS [(an,x)])]) iy (oD ln (.U N o L) [(an,x)]) 276 274 .no) (tR ll 13 4 271 uA [] um (pk 2 an xn) k1 (ai (show(0:Int)<=an from ha.1)<|ai (show an<(L:Int) from ha.2)<|ai hN<|ai hx<|ai k2<|ON (um:=ln) (o:=o) (L:=L) (q:=(an,x)) (r:=[]) (a:=275) (bw:=276) hN ab ab<|by simp) rfl) bY bY
theorem aiQ{r:List<|Int×Int}(mc:Mt ll B)(hN:top<=N)(hl:(q::r).length<=100000)(k1:uA um []=some (pk 2 an xn))(ha:0<=an/\an<(L:Int))(hx:cv FU N (o+an.toNat*1+0) 1=some [.int .i64 x])(k2:iK (gV eh zB) um [.int .i64 x]=some (.int .i64 0,ln))(H:lI B v kx<|fy ln (.U N o L)<|q::(r++[(an,x)])):lI B v kx<|fy um (.U N o L)<|q::r:=cD mc H (.st 3<|.rg<|.go 1<|.cg (pk 2 an xn) (tG 271) (tQ 4 271 um)<|.go 2<|.en<|.st 10<|.rg<|.go 3<|.il<|.st 1<|.rg<|.go 5<|.eB<|.eC [.int .i64 x]<|.go 1<|.en<|.st 1<|.rg<|.go 10<|.ap (Int×Int) aS (q::r) (an,x)<|.go 4<|.en<|.rg<|.go 5<|.kt (.int .i64 0) ln<|.en<|.rt 1<|.en<|.st 2<|.rn iy (pj ln (pZ (.U N o L) z0 (.bool false) (.slice (some (276,0)) (q::(r++[(an,x)])).length<|.aq (q::(r++[(an,x)])).length 2) nl)++[(276,some<|aC aS<|q::(r++[(an,x)]))]) iy (oD ln (.U N o L)<|q::(r++[(an,x)])) 277 274 .no) (tR ll 13 4 271 uA [] um (pk 2 an xn) k1 (ai (show(0:Int)<=an from ha.1)<|ai (show an<(L:Int) from ha.2)<|ai hN<|ai hx<|Qy aS (q::r) (an,x) (K:=2) (nj:=16) Xb (by unfold room;omega) dZ<|ai k2<|ON (um:=ln) (o:=o) (L:=L) (q:=q) (r:=r++[(an,x)]) (a:=276) (bw:=277) hN ab ab (by have e:(q::(r++[(an,x)])).length=(q::r).length+1:=(by simp only[List.length_cons,List.length_append,List.length_nil]);omega)) rfl) bY bY
def fF:AF:=⟨6,aE iy,wx,[.code<|aR pg 6 [1,1,1,1,0,0,0,1,0],.code<|aR pg 6 [1,1,1,1,0,0,0,1,1],.inBlock 1,.inLoop<|aR pg 6 [1,1,1,1,0,0],.inBlock 0],[],none⟩
abbrev yx(um M:AV)(x:Int)(b:Bool)(reads ws:List<|Int×Int):AS:=ah (pj um<|pZ M (.int .i64 x) (.bool b) (aw aS reads)<|aw aS ws) 273
abbrev Et(o0:List<|Nat×Option ae)(um M:AV)(x:Int)(b:Bool)(reads ws:List<|Int×Int)(bw:Nat):Prop:=(iy.map (fun q=>some q.2)=iy.map (fun q=>some q.2))/\(o0.map (fun q=>q.2)=o0.map (fun q=>q.2))/\hJ FU 270 bw iy o0 iy (pj um<|pZ M (.int .i64 x) (.bool b) (aw aS reads)<|aw aS ws) 273/\(fF=fF/\yx um M x b reads ws=yx um M x b reads ws)
def Ll:List (Int×Int)->kR
 |[]=>[]
 |p::r=>[(273,nm ((p::r).map aS).flatten,((p::r).map aS).flatten)]
theorem afO(ht:∀k,top<=k->r k=k):jC (Ll reads) r (Hf reads)<|aw aS reads:=by
 cases reads with
 |nil=>exact ID
 |cons p l=>exact Fi (List.mem_singleton.2 rfl) ht rfl
theorem VK{w0:AV}(hN:top<=N)(hs:273<=bw/\bw<290)(hl:reads.length<=100000)(hw:∀r:Nat->Nat,(∀k,top<=k->r k=k)->jC (Ll reads) r w0 (aw aS ws)):Et (pj um (pZ (.U N o L) (.int .i64 x) (.bool b) (Hf reads) w0)++oR reads) um (.U N o L) x b reads ws bw:=
 ⟨rfl,rfl,Q3 (a:=bw) (fz:=Ll reads) ⟨hs.1,by unfold top;omega⟩ ⟨hs.1,by unfold top;omega⟩ (.inr ⟨rfl,Nat.le_refl _⟩) (fun r r1 r2 r3=>OL r1) (fun r r1 r2 r3 p hp=>by
  obtain⟨c1,c2⟩:=OK r1 (OM r1 r2 hN (bg.int _ _).z (bg.bool _).z (afO r2)<|hw r r2) rfl rfl p hp;refine⟨c1,fun y hy=>?_⟩;obtain⟨d1,x,d2,d3,d4⟩:=c2 y hy;exact⟨d1,x,List.mem_append_left _ d2,d3,d4⟩) (fun p hp=>by
  cases reads with
  |nil=>cases hp
  |cons q l=>rw[Ll,List.mem_singleton] at hp;subst hp;exact⟨rfl,Nat.le_refl _,Fj tW.rG dZ 273 dZ<|List.mem_append_right _ List.mem_cons_self⟩),rfl,rfl⟩
theorem cT(mc:Mt ll B){M:AV}(H:lI B v fF<|yx um M x b reads ws)(p:Pl)(z:T)(h:T=wp (en ll) 900 6 (.fr 6 wx K t s) p (az Tryd.f6) (fun y _ _=>y=v) (fun fr s1 _=>fr=fF/\s1=yx um M x b reads ws))(h0:Nat.ble 270 s.nx=true):lI B v ⟨6,t,wx,K,[],none⟩ s:=wC mc (C:=fun fr s1 _=>fr=fF/\s1=yx um M x b reads ws) DJ p z h h0
theorem Wp:273<=nR reads+1/\nR reads+1<290:=by
 cases reads with
 |nil=>show 273<=274/\274<290;omega
 |cons _ _=>show 273<=275/\275<290;omega
theorem nZ(mc:Mt ll B)(hN:top<=N)(hl:reads.length<=100000)(k1:uA um []=some (pk 3 an x))(k2:oK eh He um []=some (aw aS ws))(H:lI B v fF<|yx um (.U N o L) x false reads ws):lI B v kx<|fy um (.U N o L) reads:=by have T:=tR ll 13 4 271 uA [] um (pk 3 an x) k1 (tR ll 16 4 271 (oK eh He) [] um (aw aS ws) k2 (VK (um:=um) (o:=o) (L:=L) (x:=x) (b:=false) (ws:=ws) (w0:=aw aS ws) hN (Wp (reads:=reads)) hl fun r ht=>IE ht)<|aL.2<|cF _) rfl;clear k1 k2;exact cT mc H (.st 3<|.rg<|.go 1<|.cg (pk 3 an x) (tG 271) (tQ 4 271 um)<|.go 2<|.en<|.st 12<|.rg<|.go 5<|.cg (aw aS ws) (tG 271) (tQ 4 271 um)<|.go 8<|.en<|.st 2<|.rn iy (pj um (pZ (.U N o L) (.int .i64 x) (.bool false) (Hf reads)<|aw aS ws)++oR reads) iy (pj um<|pZ (.U N o L) (.int .i64 x) (.bool false) (aw aS reads)<|aw aS ws) (nR reads+1) 273 .no) T (by clear T H;cases reads<;>kernel_rfl) (by cases reads<;>kernel_rfl)
theorem Eu(mc:Mt ll B)(hN:top<=N)(hl:reads.length<=100000)(k1:uA um []=some (pk 4 an xn))(H:lI B v fF<|yx um (.U N o L) 0 true reads []):lI B v kx<|fy um (.U N o L) reads:=by have T:=tR ll 13 4 271 uA [] um (pk 4 an xn) k1 (VK (um:=um) (o:=o) (L:=L) (x:=0) (b:=true) (ws:=[]) (w0:=nl) hN (Wp (reads:=reads)) hl fun r _=>ID) rfl;clear k1;exact cT mc H (.st 3<|.rg<|.go 1<|.cg (pk 4 an xn) (tG 271) (tQ 4 271 um)<|.go 2<|.en<|.st 15<|.rn iy (pj um (pZ (.U N o L) (.int .i64 0) (.bool true) (Hf reads) nl)++oR reads) iy (pj um<|pZ (.U N o L) (.int .i64 0) (.bool true) (aw aS reads)<|aw aS []) (nR reads+1) 273 .no) T (by clear T H;cases reads<;>kernel_rfl) (by cases reads<;>kernel_rfl)
abbrev GF(x:Int)(b:Bool)(reads ws:List<|Int×Int)(mm:List Int)(st:Int):AV:=.tuple [.agg [.int .i64 x,.bool b,aw aS reads,aw aS ws,aw encI mm,.int .i64 st],.int .i64 0]
theorem tlD(mc:Mt ll B){st:Int}{mm:List Int}(k1:oK eh DU.Eu um []=some (.int .i64 st))(k2:ba (aP DB) [.U N o L,aw aS ws]=some (aw encI mm)):lI B (GF x b reads ws mm st) fF<|yx um (.U N o L) x b reads ws:=wS mc (R:=fun y _=>y=GF x b reads ws mm st) (.rg<|.go 3<|.cg (.int .i64 st) (tG 271) (tQ 4 271 um)<|.go 9<|.kn (aw encI mm)<|.go 8<|.en<|.rt 3 .no)<|tR ll 17 4 271 (oK eh DU.Eu) [] um (.int .i64 st) k1 (ai k2<|rX<|GF x b reads ws mm st) rfl
abbrev wy(e:Int):AV:=.tuple [.agg [z0,.bool false,nl,nl,nl,z0],.int .i64 e]
theorem Yr{go:Nat}(mc:Mt ll B)(k:rC xM [.U X xo xl,.int .i64 (L:Int),.U G go gl]=some (none,xZ e))(h:(rC xM [.U X xo xl,.int .i64 (L:Int),.U G go gl]=some (none,xZ e)/\wy e=wy e)=wp (en ll) 900 6 (.fr 6 wx (cO 6 []) (dt [.U X xo xl,.U N o L,.U G go gl])<|ah ar 270) (.st 3<|.rg<|.go 4<|.nt none (xZ e)<|.go 5<|.en<|.rt 7 .no) (az Tryd.f6) (fun y _ _=>y=wy e) (fun _ _ _=>False):=by as_aux_lemma=>kernel_rfl):lI B (wy e) ⟨6,dt [.U X xo xl,.U N o L,.U G go gl],wx,(cO 6 []),[],none⟩<|ah ar 270:=wS mc (R:=fun y _=>y=wy e) _ ⟨k,rfl⟩ h bY
theorem Ys{go:Nat}(mc:Mt ll B)(he:e=1\/e=4)(k:rC xM [.U X xo xl,.int .i64 (L:Int),.U G go gl]=some (none,xZ e)):lI B (wy e) ⟨6,dt [.U X xo xl,.U N o L,.U G go gl],wx,(cO 6 []),[],none⟩<|ah ar 270:=by
 rcases he with rfl|rfl
 ·exact Yr mc k
 ·exact Yr mc k
theorem Hg{go:Nat}(mc:Mt ll B)(k:rC xM [.U X xo xl,.int .i64 (L:Int),.U G go gl]=some (some um,xZ 0))(H:lI B v kx<|fy um (.U N o L) []):lI B v ⟨6,dt [.U X xo xl,.U N o L,.U G go gl],wx,(cO 6 []),[],none⟩<|ah ar 270:=cD mc H (.st 3<|.rg<|.go 4<|.nt (some um) (xZ 0)<|.go 5<|.en<|.st 9<|.ls iy (oD um (.U N o L) []) 273 .no) (ai k (show(iy.map (fun q=>some q.2)=iy.map (fun q=>some q.2))/\((oD um (.U N o L) []).map (fun q=>q.2)=(oD um (.U N o L) []).map (fun q=>q.2))/\(kx=kx/\fy um (.U N o L) []=fy um (.U N o L) []) from⟨rfl,rfl,rfl,rfl⟩)) bY bY
end
end
end Kp
end
section
open Go Go.Rn Go.RowKit Go.Proofs
namespace DW
open ch cG cQ di eX fO iB dj uo mN mG tO rr
variable {k N L N0 L0:Nat} {v:AV} {dp i bN n0 c:Int} {B:aJ}
noncomputable section
def rH(f:Ex->Int×Bool):List Ex->Int->Int×Bool
 |[],m=>(m,false)
 |a::r,m=>if(f a).2=true then(0,true) else if m+(f a).1>1000 then(0,true) else rH f r (m+(f a).1)
def dI:Nat->Ex->Int×Bool
 |0,_=>(0,true)
 |k+1,.mk _ _ args=>if k=0\/args.length>10 then(0,true) else rH (dI k) args 1
def py(k:Nat)(args:List AV)(v:AV):Prop:=∃e:Ex,args=[.agg<|aD e,.int .i64<|22 - (k:Int)]/\(1<=k/\k<=22)/\v= .tuple [.int .i64 (dI k e).1,.bool (dI k e).2]
theorem py.bM(args:List AV)(v v':AV)(h:py k args v)(h':py k args v'):v=v':=by obtain⟨e,rfl,_,rfl⟩:=h;obtain⟨e',h1,_,rfl⟩:=h';simp only[List.cons.injEq,AV.agg.injEq,_root_.and_true] at h1;rw[nr _ _ h1]
def ow(k:Nat):FuncId×KE:=(19,.val<|aP<|py k)
def km(f:List St->Int×Bool):List St->Int->Int×Bool
  |[],m=>(m,false)
  | s::r,m=>if(dI 22<|cR s).2=true\/(dI 22<|iw s).2=true\/(f<|bF s).2=true\/(f<|bE s).2=true then(0,true)
    else if m+1+(dI 22<|cR s).1+(dI 22<|iw s).1+(f<|bF s).1+(f<|bE s).1>3000 then(0,true)
    else km f r (m+1+(dI 22<|cR s).1+(dI 22<|iw s).1+(f<|bF s).1+(f<|bE s).1)
def cS:Nat->List St->Int×Bool
 |0,_=>(0,true)
 |k+1,l=>if k=0\/l.length>500 then(0,true) else km (cS k) l 0
def nG(k:Nat)(args:List AV)(v:AV):Prop:=∃l:List St,args=[.U (nm<|bx l) 0 l.length,.int .i64<|22 - (k:Int)]/\(1<=k/\k<=22)/\v= .tuple [.int .i64 (cS k l).1,.bool (cS k l).2]
theorem nG.bM(args:List AV)(v v':AV)(h:nG k args v)(h':nG k args v'):v=v':=by obtain⟨e,rfl,_,rfl⟩:=h;obtain⟨e',h1,_,rfl⟩:=h';simp only[List.cons.injEq,AV.U.injEq,true_and,_root_.and_true] at h1;rw[sk _ _<|sU (lK _) (lK _) h1.1]
def vx(k:Nat):FuncId×KE:=(8,.val<|aP<|nG k)
def DX(dp m i:Int):List<|Nat×AV:=[(1,(i6 dp)),(2,(.ptr<|some (270,0))),(6,(i6 m)),(7,(i6 i))]
def rJ(dp m i:Int):AF:=⟨19,aE<|DX dp m i,(max Tryd.f19.ntmps 2),[.code<|aR pg 19 [1,1,1,0,1,0,0],.inLoop<|aR pg 19 [1,1,1,0,1,0,0],.inBlock 0,.code<|aR pg 19 [1,1,1,1]],[],none⟩
def nq(op n:Int)(N L:Nat):List<|Nat×Option ae:=(ar++[(270,some<|.cells 3 (Tr.fill [(u8<|op),(i6 n),(.U N 0 L)] 0 .nil) [])])
theorem aiR(dp m i op n:Int)(N L:Nat):((DX dp m i).map (fun q=>some q.2)=(DX dp m i).map (fun q=>some q.2))/\((nq op n N L).map (fun q=>q.2)=(nq op n N L).map (fun q=>q.2))/\(rJ dp m i=rJ dp m i/\ah (nq op n N L) 271=ah (nq op n N L) 271):=⟨rfl,rfl,rfl,rfl⟩
theorem sdT{op n m:Int}(mc:Mt [ow k] B)(hn:top<=N)(hi:0<=i)(hL:L<=10)(hm:0<=m/\m<=1000)(jk:0<=c/\c<=1000)(hd:0<=dp/\dp<=20)(hx:cv FU N (0+i.toNat*3+0) 3=some [(u8<|bN),(i6 n0),(.U N0 0 L0)])(h1:i<(L:Int))(hc:ba (aP<|py k) [(.agg [(u8<|bN),(i6 n0),(.U N0 0 L0)]),.int .i64<|dp+1]=some (.tuple [.int .i64 c,.bool true]))(hv:(.tuple [.int .i64 0,.bool true])=v):au pg B 270 (Fin pg (az Tryd.f19) fun y _=>y=v) (rJ dp m i)<|ah (nq op n N L) 271:=by exact wS mc (.st 2<|.rg<|.go 4<|.fk (.en<|.st 5<|.rg<|.go 3<|.eB<|.eC [(u8<|bN),(i6 n0),(.U N0 0 L0)]<|.go 1<|.vl (i6<|dp+1)<|.kn (.tuple [(i6 c),(.bool true)])<|.go 5<|.en<|.st 1<|.rg<|.go 2<|.vl (i6<|m+c)<|.go 1<|.en<|.rt 6 .no)<|.no)<|aT (i<(L:Int)) (fun _=>(dS i (L:Int)<|ai hn<|ai hx<|ai (wI<|dp+1)<|ai hc<|ai (wI<|m+c) (show(.tuple [i0,(.bool true)])=v from hv))) fZ
theorem sdF{op n m:Int}(mc:Mt [ow k] B)(hn:top<=N)(hi:0<=i)(hL:L<=10)(hm:0<=m/\m<=1000)(jk:0<=c/\c<=1000)(hd:0<=dp/\dp<=20)(hx:cv FU N (0+i.toNat*3+0) 3=some [(u8<|bN),(i6 n0),(.U N0 0 L0)])(h1:i<(L:Int))(hc:ba (aP<|py k) [(.agg [(u8<|bN),(i6 n0),(.U N0 0 L0)]),.int .i64<|dp+1]=some (.tuple [.int .i64 c,.bool false]))(hv:m+c>1000->(.tuple [.int .i64 0,.bool true])=v)(H:¬((m+c)>(1000:Int))->au pg B 270 (Fin pg (az Tryd.f19) fun y _=>y=v) (rJ dp (m+c)<|i+1) (ah (nq op n N L) 271)):au pg B 270 (Fin pg (az Tryd.f19) fun y _=>y=v) (rJ dp m i)<|ah (nq op n N L) 271:=by exact wC mc (C:=(fun fr s1 _=>fr=rJ dp (m+c) (i+1)/\s1=ah (nq op n N L) 271/\¬((m+c)>(1000:Int)))) (fun fr s1 p hC=>by obtain⟨rfl,rfl,hq⟩:=hC;exact H hq) (.st 2<|.rg<|.go 4<|.fk (.en<|.st 5<|.rg<|.go 3<|.eB<|.eC [(u8<|bN),(i6 n0),(.U N0 0 L0)]<|.go 1<|.vl (i6<|dp+1)<|.kn (.tuple [(i6 c),(.bool false)])<|.go 5<|.en<|.st 1<|.rg<|.go 2<|.vl (i6<|m+c)<|.go 1<|.en<|.st 1<|.rg<|.go 3<|.fk (.go 1<|.en<|.rt 4 .no)<|.go 1<|.en<|.st 3<|.rg<|.go 1<|.vl (i6<|i+1)<|.go 1<|.en<|.st 1<|.ls (DX dp (m+c)<|i+1) (nq op n N L) 271 .no)<|.no)<|aT (i<(L:Int)) (fun _=>(dS i (L:Int)<|ai hn<|ai hx<|ai (wI<|dp+1)<|ai hc<|ai (wI<|m+c)<|aT ((m+c)>1000) (fun _=>(show(.tuple [i0,(.bool true)])=v from hv ab)) fun _=>(ai (wI<|i+1)<|ai (mS<|DX dp (m+c)<|i+1)<|ai (mO<|nq op n N L) (show(rJ dp (m+c)<|i+1)=(rJ dp (m+c)<|i+1)/\(ah (nq op n N L) 271)=(ah (nq op n N L) 271)/\¬((m+c)>(1000:Int)) from⟨rfl,rfl,by omega⟩)))) fZ
theorem sdE{op n m:Int}(mc:Mt [ow k] B)(h1:(L:Int)<=i)(hv:(.tuple [.int .i64 m,.bool false])=v):au pg B 270 (Fin pg (az Tryd.f19) fun y _=>y=v) (rJ dp m i)<|ah (nq op n N L) 271:=by exact wS mc (.st 2<|.rg<|.go 4<|.fk (.no)<|.en<|.rt 5 .no) WN
theorem sdG{op n:Int}(mc:Mt [ow k] B)(hd:dp<=20)(hL:L<=10)(H:au pg B 270 (Fin pg (az Tryd.f19) fun y _=>y=v) (rJ dp 1 0)<|ah (nq op n N L) 271):au pg B 270 (Fin pg (az Tryd.f19) fun y _=>y=v) (sF 19 Tryd.f19 [(.agg [(u8<|op),(i6 n),(.U N 0 L)]),(i6 dp)])<|ah ar 270:=by exact wC mc (C:=(fun fr s1 _=>fr=rJ dp 1 0/\s1=ah (nq op n N L) 271)) mQ (.st 4<|.rg<|.go 1<|.fk (.no)<|.go 4<|.fk (.no)<|.go 1<|.en<|.st 9<|.ls (DX dp 1 0) (nq op n N L) 271 .no)<|aT (dp>20) fZ fun _=>(aT ((L:Int)>10) fZ fun _=>(aiR dp 1 0 op n N L))
theorem sdB{op n:Int}(mc:Mt [ow k] B)(hd:dp>20\/(L:Int)>10)(hv:(.tuple [.int .i64 0,.bool true])=v):au pg B 270 (Fin pg (az Tryd.f19) fun y _=>y=v) (sF 19 Tryd.f19 [(.agg [(u8<|op),(i6 n),(.U N 0 L)]),(i6 dp)])<|ah ar 270:=by exact wS mc (.st 4<|.rg<|.go 1<|.fk (.go 6<|.en<|.rt 4 .no)<|.go 4<|.fk (.go 1<|.en<|.rt 4 .no)<|.no)<|aT (dp>20) (fun _=>(show(.tuple [i0,(.bool true)])=v from hv)) fun _=>(aT ((L:Int)>10) (fun _=>(show(.tuple [i0,(.bool true)])=v from hv)) fZ)
def DY(N L:Nat)(dp m i:Int):List<|Nat×AV:=[(0,(.U N 0 L)),(1,(i6 dp)),(6,(i6 m)),(7,(i6 i))]
def rK(N L:Nat)(dp m i:Int):AF:=⟨8,aE<|DY N L dp m i,(max Tryd.f8.ntmps 2),[.code<|aR pg 8 [1,1,1,0,1,0,0],.inLoop<|aR pg 8 [1,1,1,0,1,0,0],.inBlock 0,.code<|aR pg 8 [1,1,1,1]],[],none⟩
theorem aiS(N L:Nat)(dp m i:Int):((DY N L dp m i).map (fun q=>some q.2)=(DY N L dp m i).map (fun q=>some q.2))/\(ar.map (fun q=>q.2)=ar.map (fun q=>q.2))/\(rK N L dp m i=rK N L dp m i/\ah ar 270=ah ar 270):=⟨rfl,rfl,rfl,rfl⟩
theorem Lm{B:aJ}{k N L Na La Nb Lb Nd Ld Ne Le:Nat}{jN na jO nb dp m i a b c d:Int}{x y z w:Bool}{v:AV}(hk:x=true\/(x=false/\y=true)\/(x=false/\y=false/\z=true)\/(x=false/\y=false/\z=false/\w=true))(mc:Mt [ow 22,vx k] B)(hn:top<=N)(hi:0<=i)(hL:L<=500)(hm:0<=m/\m<=3000)(hb:(0<=a/\a<=1000)/\(0<=b/\b<=1000)/\(0<=c/\c<=3000)/\(0<=d/\d<=3000))(hd:0<=dp/\dp<=20)(Q5:cv FU N (0+i.toNat*10+2) 3=some [(u8<|jN),(i6 na),(.U Na 0 La)])(Q6:cv FU N (0+i.toNat*10+5) 3=some [(u8<|jO),(i6 nb),(.U Nb 0 Lb)])(Q7:cv FU N (0+i.toNat*10+8) 1=some [.U Nd 0 Ld])(Q8:cv FU N (0+i.toNat*10+9) 1=some [.U Ne 0 Le])(h1:i<(L:Int))(ha:ba (aP<|py 22) [(.agg [(u8<|jN),(i6 na),(.U Na 0 La)]),.int .i64 0]=some (.tuple [.int .i64 a,.bool x]))(Q9:ba (aP<|py 22) [(.agg [(u8<|jO),(i6 nb),(.U Nb 0 Lb)]),.int .i64 0]=some (.tuple [.int .i64 b,.bool y]))(Ra:ba (aP<|nG k) [.U Nd 0 Ld,.int .i64<|dp+1]=some (.tuple [.int .i64 c,.bool z]))(Rb:ba (aP<|nG k) [.U Ne 0 Le,.int .i64<|dp+1]=some (.tuple [.int .i64 d,.bool w]))(hv:(.tuple [.int .i64 0,.bool true])=v):au pg B 270 (Fin pg (az Tryd.f8) fun y _=>y=v) (rK N L dp m i)<|ah ar 270:=by
 have TT:=(aT (i<(L:Int)) (fun _=>(dS i (L:Int)<|ai hn<|ai Q5<|ai ha<|dS i (L:Int)<|ai hn<|ai Q6<|ai Q9<|dS i (L:Int)<|ai hn<|ai Q7<|ai (wI<|dp+1)<|ai Ra<|dS i (L:Int)<|ai hn<|ai Q8<|ai (wI<|dp+1)<|ai Rb<|ai (wI<|m+1)<|ai (wI<|(m+1)+a)<|ai (wI<|((m+1)+a)+b)<|ai (wI<|(((m+1)+a)+b)+c)<|ai (wI<|((((m+1)+a)+b)+c)+d) (show(.tuple [i0,(.bool true)])=v from hv))) fun _=>(oF ab));let P:Pl:=(.st 2<|.rg<|.go 3<|.fk (.en<|.st 5<|.rg<|.go 2<|.eB<|.go 1<|.eC [(u8<|jN),(i6 na),(.U Na 0 La)]<|.kn (.tuple [(i6 a),(.bool x)])<|.go 5<|.en<|.st 1<|.rg<|.go 2<|.eB<|.go 1<|.eC [(u8<|jO),(i6 nb),(.U Nb 0 Lb)]<|.kn (.tuple [(i6 b),(.bool y)])<|.go 5<|.en<|.st 1<|.rg<|.go 2<|.eB<|.go 1<|.eC [(.U Nd 0 Ld)]<|.go 1<|.vl (i6<|dp+1)<|.kn (.tuple [(i6 c),(.bool z)])<|.go 5<|.en<|.st 1<|.rg<|.go 2<|.eB<|.go 1<|.eC [(.U Ne 0 Le)]<|.go 1<|.vl (i6<|dp+1)<|.kn (.tuple [(i6 d),(.bool w)])<|.go 5<|.en<|.st 1<|.rg<|.go 1<|.vl (i6<|m+1)<|.go 1<|.vl (i6<|(m+1)+a)<|.go 1<|.vl (i6<|((m+1)+a)+b)<|.go 1<|.vl (i6<|(((m+1)+a)+b)+c)<|.go 1<|.vl (i6<|((((m+1)+a)+b)+c)+d)<|.go 1<|.en<|.rt 6 .no)<|.no);rcases hk with rfl|⟨rfl,rfl⟩|⟨rfl,rfl,rfl⟩|⟨rfl,rfl,rfl,rfl⟩
 all_goals exact lZ (E:=en [ow 22,vx k]) eQ rfl bH mc.2.2.1 mc.2.2.2 900 P TT aW
theorem muN{B:aJ}{k N L Na La Nb Lb Nd Ld Ne Le:Nat}{jN na jO nb dp m i a b c d:Int}{x y z w:Bool}{v:AV}(mc:Mt [ow 22,vx k] B)(hn:top<=N)(hi:0<=i)(hL:L<=500)(hm:0<=m/\m<=3000)(hb:(0<=a/\a<=1000)/\(0<=b/\b<=1000)/\(0<=c/\c<=3000)/\(0<=d/\d<=3000))(hd:0<=dp/\dp<=20)(Q5:cv FU N (0+i.toNat*10+2) 3=some [(u8<|jN),(i6 na),(.U Na 0 La)])(Q6:cv FU N (0+i.toNat*10+5) 3=some [(u8<|jO),(i6 nb),(.U Nb 0 Lb)])(Q7:cv FU N (0+i.toNat*10+8) 1=some [.U Nd 0 Ld])(Q8:cv FU N (0+i.toNat*10+9) 1=some [.U Ne 0 Le])(h1:i<(L:Int))(ha:ba (aP<|py 22) [(.agg [(u8<|jN),(i6 na),(.U Na 0 La)]),.int .i64 0]=some (.tuple [.int .i64 a,.bool false]))(Q9:ba (aP<|py 22) [(.agg [(u8<|jO),(i6 nb),(.U Nb 0 Lb)]),.int .i64 0]=some (.tuple [.int .i64 b,.bool false]))(Ra:ba (aP<|nG k) [.U Nd 0 Ld,.int .i64<|dp+1]=some (.tuple [.int .i64 c,.bool false]))(Rb:ba (aP<|nG k) [.U Ne 0 Le,.int .i64<|dp+1]=some (.tuple [.int .i64 d,.bool false]))(hv:(((((m+1)+a)+b)+c)+d)>3000->(.tuple [.int .i64 0,.bool true])=v)(H:¬((((((m+1)+a)+b)+c)+d)>(3000:Int))->au pg B 270 (Fin pg (az Tryd.f8) fun y _=>y=v) (rK N L dp (((((m+1)+a)+b)+c)+d)<|i+1) (ah ar 270)):au pg B 270 (Fin pg (az Tryd.f8) fun y _=>y=v) (rK N L dp m i)<|ah ar 270:=by exact wC mc (C:=(fun fr s1 _=>fr=rK N L dp (((((m+1)+a)+b)+c)+d) (i+1)/\s1=ah ar 270/\¬((((((m+1)+a)+b)+c)+d)>(3000:Int)))) (fun fr s1 p hC=>by obtain⟨rfl,rfl,hq⟩:=hC;exact H hq) (.st 2<|.rg<|.go 3<|.fk (.en<|.st 5<|.rg<|.go 2<|.eB<|.go 1<|.eC [(u8<|jN),(i6 na),(.U Na 0 La)]<|.kn (.tuple [(i6 a),(.bool false)])<|.go 5<|.en<|.st 1<|.rg<|.go 2<|.eB<|.go 1<|.eC [(u8<|jO),(i6 nb),(.U Nb 0 Lb)]<|.kn (.tuple [(i6 b),(.bool false)])<|.go 5<|.en<|.st 1<|.rg<|.go 2<|.eB<|.go 1<|.eC [(.U Nd 0 Ld)]<|.go 1<|.vl (i6<|dp+1)<|.kn (.tuple [(i6 c),(.bool false)])<|.go 5<|.en<|.st 1<|.rg<|.go 2<|.eB<|.go 1<|.eC [(.U Ne 0 Le)]<|.go 1<|.vl (i6<|dp+1)<|.kn (.tuple [(i6 d),(.bool false)])<|.go 5<|.en<|.st 1<|.rg<|.go 1<|.vl (i6<|m+1)<|.go 1<|.vl (i6<|(m+1)+a)<|.go 1<|.vl (i6<|((m+1)+a)+b)<|.go 1<|.vl (i6<|(((m+1)+a)+b)+c)<|.go 1<|.vl (i6<|((((m+1)+a)+b)+c)+d)<|.go 1<|.en<|.st 1<|.rg<|.go 12<|.fk (.go 1<|.en<|.rt 4 .no)<|.go 1<|.en<|.st 3<|.rg<|.go 1<|.vl (i6<|i+1)<|.go 1<|.en<|.st 1<|.ls (DY N L dp (((((m+1)+a)+b)+c)+d)<|i+1) ar 270 .no)<|.no)<|aT (i<(L:Int)) (fun _=>(dS i (L:Int)<|ai hn<|ai Q5<|ai ha<|dS i (L:Int)<|ai hn<|ai Q6<|ai Q9<|dS i (L:Int)<|ai hn<|ai Q7<|ai (wI<|dp+1)<|ai Ra<|dS i (L:Int)<|ai hn<|ai Q8<|ai (wI<|dp+1)<|ai Rb<|ai (wI<|m+1)<|ai (wI<|(m+1)+a)<|ai (wI<|((m+1)+a)+b)<|ai (wI<|(((m+1)+a)+b)+c)<|ai (wI<|((((m+1)+a)+b)+c)+d)<|aT ((((((m+1)+a)+b)+c)+d)>3000) (fun _=>(show(.tuple [i0,(.bool true)])=v from hv ab)) fun _=>(ai (wI<|i+1)<|ai (mS<|DY N L dp (((((m+1)+a)+b)+c)+d)<|i+1)<|ai (mO ar) (show(rK N L dp (((((m+1)+a)+b)+c)+d)<|i+1)=(rK N L dp (((((m+1)+a)+b)+c)+d)<|i+1)/\(ah ar 270)=(ah ar 270)/\¬((((((m+1)+a)+b)+c)+d)>(3000:Int)) from⟨rfl,rfl,by omega⟩)))) fZ
theorem muE{m:Int}(mc:Mt [ow 22,vx k] B)(h1:(L:Int)<=i)(hv:(.tuple [.int .i64 m,.bool false])=v):au pg B 270 (Fin pg (az Tryd.f8) fun y _=>y=v) (rK N L dp m i)<|ah ar 270:=by exact wS mc (.st 2<|.rg<|.go 3<|.fk (.no)<|.en<|.rt 5 .no) WN
theorem muG(mc:Mt [ow 22,vx k] B)(hd:dp<=20)(hL:L<=500)(H:au pg B 270 (Fin pg (az Tryd.f8) fun y _=>y=v) (rK N L dp 0 0)<|ah ar 270):au pg B 270 (Fin pg (az Tryd.f8) fun y _=>y=v) (sF 8 Tryd.f8 [(.U N 0 L),(i6 dp)])<|ah ar 270:=by exact wC mc (C:=(fun fr s1 _=>fr=rK N L dp 0 0/\s1=ah ar 270)) mQ (.st 4<|.rg<|.go 1<|.fk (.no)<|.go 3<|.fk (.no)<|.go 1<|.en<|.st 9<|.ls (DY N L dp 0 0) ar 270 .no)<|aT (dp>20) fZ fun _=>(aT ((L:Int)>500) fZ fun _=>(aiS N L dp 0 0))
theorem muB(mc:Mt [ow 22,vx k] B)(hd:dp>20\/(L:Int)>500)(hv:(.tuple [.int .i64 0,.bool true])=v):au pg B 270 (Fin pg (az Tryd.f8) fun y _=>y=v) (sF 8 Tryd.f8 [(.U N 0 L),(i6 dp)])<|ah ar 270:=by exact wS mc (.st 4<|.rg<|.go 1<|.fk (.go 5<|.en<|.rt 4 .no)<|.go 3<|.fk (.go 1<|.en<|.rt 4 .no)<|.no)<|aT (dp>20) (fun _=>(show(.tuple [i0,(.bool true)])=v from hv)) fun _=>(aT ((L:Int)>500) (fun _=>(show(.tuple [i0,(.bool true)])=v from hv)) fZ)
end
end DW
end
section
open Go Go.Rn Go.RowKit Go.Proofs
namespace Gb
open ch cG cQ di eX fO tN iB dj uo mN mG tO rr DW
variable {k i:Nat} {L:bO}
theorem U2{f:Ex->Int×Bool}(hf:∀e,0<=(f e).1/\(f e).1<=1000):∀(l:List Ex) (m:Int),0<=m/\m<=1000->0<=(rH f l m).1/\(rH f l m).1<=1000
 |[],m,h=>h
 |a::r,m,h=>by
  unfold rH;have:=hf a;split
  ·show(0:Int)<=0/\(0:Int)<=1000;omega
  ·split
   ·show(0:Int)<=0/\(0:Int)<=1000;omega
   ·exact U2 hf r _ ab
theorem uM:∀(k:Nat) (e:Ex),0<=(dI k e).1/\(dI k e).1<=1000
 |0,_=>by show(0:Int)<=0/\(0:Int)<=1000;omega
 |k+1,.mk _ _ args=>by
  unfold dI;split
  ·show(0:Int)<=0/\(0:Int)<=1000;omega
  ·exact U2 (uM k) args 1 ab
theorem U3{α:Type}{l r:List α}{a:α}(hr:l.drop i=a::r):i<l.length/\l[i]? =some a/\a∈l/\l.drop (i+1)=r:=by
 have ha:l[i]? =some a:=by have:=congrArg (fun q=>q[0]?) hr;simp only[List.getElem?_drop,List.getElem?_cons_zero,Nat.add_zero] at this;exact this
 refine⟨(List.getElem?_eq_some_iff.1 ha).1,ha,List.mem_of_getElem? ha,?_⟩;have:=congrArg (List.drop 1) hr;rw[List.drop_drop] at this;exact this
theorem aaj(hP:bS pg)(h':aY [ow k])(h:aY L):aY<|ow (k+1)::L:=by
 refine gP hP h h' Tryd.func19 fun args v e=>?_;obtain⟨⟨op,n,l⟩,rfl,hk,rfl⟩:=fV e;refine⟨aL.1 aW,fun B mc=>?_⟩;rw[←ij,aD];have ed:(22:Int) - ((k+1:Nat):Int)=21 - (k:Int):=by omega
 rw[ed];unfold dI;by_cases c:k=0\/l.length>10
 ·rw[if_pos c];exact sdB mc ab rfl
 ·rw[if_neg c];have Xx:k≠0:=fun q=>c<|.inl q;have hl:l.length<=10:=by
   by_cases q:l.length<=10
   ·exact q
   ·exact absurd (.inr ab) c
  have key:∀(r:List Ex) (i:Nat) (m:Int),l.drop i=r->0<=m/\m<=1000->
   au pg B 270 (Fin pg (az Tryd.f19) fun y _=>y= .tuple [.int .i64 (rH (dI k) r m).1,.bool (rH (dI k) r m).2]) (rJ (21 - (k:Int)) m i) (ah (nq op n (nm<|cH l) l.length) 271):=by
   intro r;induction r with
   |nil=>intro i m hr hm;have hi:l.length<=i:=List.drop_eq_nil_iff.1 hr;exact sdE mc ab rfl
   |cons a r ih=>
    intro i m hr hm;obtain⟨hi,ha,qv,j8⟩:=U3 hr;obtain⟨bN,n0,l0⟩:=a;have hx:=yK ha (z:=(i:Int)) ab;have iu:=uM k<|.mk bN n0 l0;have bG:ba (aP<|py k) [.agg<|aD<|.mk bN n0 l0,.int .i64<|21 - (k:Int)+1]=some (.tuple [.int .i64 (dI k<|.mk bN n0 l0).1,.bool (dI k<|.mk bN n0 l0).2]):=eP (eK py.bM ⟨.mk bN n0 l0,by rw[show(21:Int) - (k:Int)+1=22 - (k:Int) by omega],by omega,rfl⟩) rD rfl;rw[aD] at hx bG;unfold rH;cases hb:(dI k<|.mk bN n0 l0).2 with
    |true=>rw[hb] at bG;rw[if_pos rfl];exact sdT mc (cF _) ab hl hm iu ab hx ab bG rfl
    |false=>
     rw[hb] at bG;rw[if_neg (by intro q;cases q)];refine sdF mc (cF _) ab hl hm iu ab hx ab bG (fun q=>?_) fun q=>?_
     ·rw[if_pos q]
     ·rw[if_neg q];exact ih (i+1) _ j8 ab
  exact sdG mc ab hl<|key l 0 1 (by rw[List.drop_zero]) ab
theorem Tj(hP:bS pg):∀(k:Nat) {L:bO},aY L->aY (ow k::L)
 |0,L,h=>by refine gP hP h dc Tryd.func19 fun args v e=>?_;obtain⟨_,_,hk,_⟩:=fV e;omega
 |k+1,L,h=>aaj hP (Tj hP k dc) h
theorem U4{f:List St->Int×Bool}(hf:∀l,0<=(f l).1/\(f l).1<=3000):∀(l:List St) (m:Int),0<=m/\m<=3000->0<=(km f l m).1/\(km f l m).1<=3000
 |[],m,h=>h
 |s::r,m,h=>by
  unfold km;have h1:=uM 22<|cR s;have h2:=uM 22<|iw s;have h3:=hf<|bF s;have h4:=hf<|bE s;split
  ·show(0:Int)<=0/\(0:Int)<=3000;omega
  ·split
   ·show(0:Int)<=0/\(0:Int)<=3000;omega
   ·exact U4 hf r _ ab
theorem wY:∀(k:Nat) (l:List St),0<=(cS k l).1/\(cS k l).1<=3000
 |0,_=>by show(0:Int)<=0/\(0:Int)<=3000;omega
 |k+1,l=>by
  unfold cS;split
  ·show(0:Int)<=0/\(0:Int)<=3000;omega
  ·exact U4 (wY k) l 0 ab
theorem IZ{l:List St}{s:St}(h:l[i]? =some s){z:Int}(hz:z.toNat=i)(j k:Nat)(hk:j+k<=10):cv FU (nm<|bx l) (0+z.toNat*10+j) k=some (((aM s).drop j).take k):=by rw[uH,hz,Nat.zero_add,sS mu h j k hk]
theorem abp(hP:bS pg)(h':aY [ow 22,vx k])(h:aY L):aY<|vx (k+1)::L:=by
 refine gP hP h h' Tryd.func8 fun args v e=>?_;obtain⟨l,rfl,hk,rfl⟩:=fV e;refine⟨aL.1 aW,fun B mc=>?_⟩;rw[←ij];have ed:(22:Int) - ((k+1:Nat):Int)=21 - (k:Int):=by omega
 rw[ed];unfold cS;by_cases c:k=0\/l.length>500
 ·rw[if_pos c];exact muB mc ab rfl
 ·rw[if_neg c];have Xx:k≠0:=fun q=>c<|.inl q;have hl:l.length<=500:=by
   by_cases q:l.length<=500
   ·exact q
   ·exact absurd (.inr ab) c
  have key:∀(r:List St) (i:Nat) (m:Int),l.drop i=r->0<=m/\m<=3000->
   au pg B 270 (Fin pg (az Tryd.f8) fun y _=>y= .tuple [.int .i64 (km (cS k) r m).1,.bool (km (cS k) r m).2]) (rK (nm<|bx l) l.length (21 - (k:Int)) m i) (ah ar 270):=by
   intro r;induction r with
   |nil=>intro i m hr hm;have hi:l.length<=i:=List.drop_eq_nil_iff.1 hr;exact muE mc ab rfl
   |cons s r ih=>
    intro i m hr hm;obtain⟨hi,ha,qv,j8⟩:=U3 hr;have p1:=IZ ha (z:=(i:Int)) ab 2 3 ab;have p2:=IZ ha (z:=(i:Int)) ab 5 3 ab;have p3:=IZ ha (z:=(i:Int)) ab 8 1 ab;have p4:=IZ ha (z:=(i:Int)) ab 9 1 ab;obtain⟨kind,to,⟨jN,na,la⟩,⟨jO,nb,lb⟩,bd,el⟩:=s;have e1:((aM<|.mk kind to (.mk jN na la) (.mk jO nb lb) bd el).drop 2).take 3=aD (.mk jN na la):=by rw[aM,aD,aD];rfl
    have e2:((aM<|.mk kind to (.mk jN na la) (.mk jO nb lb) bd el).drop 5).take 3=aD (.mk jO nb lb):=by rw[aM,aD,aD];rfl
    have e3:((aM<|.mk kind to (.mk jN na la) (.mk jO nb lb) bd el).drop 8).take 1=[.U (nm<|bx bd) 0 bd.length]:=by rw[aM,aD,aD];rfl
    have e4:((aM<|.mk kind to (.mk jN na la) (.mk jO nb lb) bd el).drop 9).take 1=[.U (nm<|bx el) 0 el.length]:=by rw[aM,aD,aD];rfl
    rw[e1] at p1;rw[e2] at p2;rw[e3] at p3;rw[e4] at p4;have uf:=uM 22<|.mk jN na la;have ue:=uM 22<|.mk jO nb lb;have jG:=wY k bd;have Qx:=wY k el;have hS:∀e:Ex,ba (aP<|py 22) [.agg<|aD e,.int .i64 0]=some (.tuple [.int .i64 (dI 22 e).1,.bool (dI 22 e).2]):=fun e=>eP (eK py.bM ⟨e,rfl,by omega,rfl⟩) rD rfl;have hM:∀q:List St,ba (aP<|nG k) [.U (nm<|bx q) 0 q.length,.int .i64<|21 - (k:Int)+1]=some (.tuple [.int .i64 (cS k q).1,.bool (cS k q).2]):=fun q=>eP (eK nG.bM ⟨q,by rw[show(21:Int) - (k:Int)+1=22 - (k:Int) by omega],by omega,rfl⟩) (by rw[List.all_cons,ri];rfl) rfl;have s1:=hS<|.mk jN na la;have s2:=hS<|.mk jO nb lb;have m1:=hM bd;have m2:=hM el;rw[aD] at p1 p2 s1 s2;have hb:(0<=(dI 22<|.mk jN na la).1/\(dI 22<|.mk jN na la).1<=1000)/\(0<=(dI 22<|.mk jO nb lb).1/\(dI 22<|.mk jO nb lb).1<=1000)/\(0<=(cS k bd).1/\(cS k bd).1<=3000)/\(0<=(cS k el).1/\(cS k el).1<=3000):=⟨uf,ue,jG,Qx⟩;show au pg B 270 (Fin pg (az Tryd.f8) fun y _=>y= .tuple [.int .i64 (km (cS k) (.mk kind to (.mk jN na la) (.mk jO nb lb) bd el::r) m).1,.bool (km (cS k) (.mk kind to (.mk jN na la) (.mk jO nb lb) bd el::r) m).2]) _ _;unfold km;show au pg B 270 (Fin pg (az Tryd.f8) fun y _=>y= .tuple [.int .i64 (if(dI 22<|.mk jN na la).2=true\/(dI 22<|.mk jO nb lb).2=true\/(cS k bd).2=true\/(cS k el).2=true then(0,true) else if m+1+(dI 22<|.mk jN na la).1+(dI 22<|.mk jO nb lb).1+(cS k bd).1+(cS k el).1>3000 then(0,true) else km (cS k) r (m+1+(dI 22<|.mk jN na la).1+(dI 22<|.mk jO nb lb).1+(cS k bd).1+(cS k el).1)).1,.bool (if(dI 22<|.mk jN na la).2=true\/(dI 22<|.mk jO nb lb).2=true\/(cS k bd).2=true\/(cS k el).2=true then(0,true) else if m+1+(dI 22<|.mk jN na la).1+(dI 22<|.mk jO nb lb).1+(cS k bd).1+(cS k el).1>3000 then(0,true) else km (cS k) r (m+1+(dI 22<|.mk jN na la).1+(dI 22<|.mk jO nb lb).1+(cS k bd).1+(cS k el).1)).2]) _ _;cases x:(dI 22<|.mk jN na la).2 with
    |true=>rw[x] at s1;rw[if_pos<|.inl rfl];exact Lm (x:=true) (.inl rfl) mc (cF _) ab hl hm hb ab p1 p2 p3 p4 ab s1 s2 m1 m2 rfl
    |false=>
     rw[x] at s1;cases y:(dI 22<|.mk jO nb lb).2 with
     |true=>rw[y] at s2;rw[if_pos<|.inr<|.inl rfl];exact Lm (x:=false) (y:=true) (.inr<|.inl ⟨rfl,rfl⟩) mc (cF _) ab hl hm hb ab p1 p2 p3 p4 ab s1 s2 m1 m2 rfl
     |false=>
      rw[y] at s2;cases z:(cS k bd).2 with
      |true=>rw[z] at m1;rw[if_pos<|.inr<|.inr<|.inl rfl];exact Lm (x:=false) (y:=false) (z:=true) (.inr<|.inr<|.inl ⟨rfl,rfl,rfl⟩) mc (cF _) ab hl hm hb ab p1 p2 p3 p4 ab s1 s2 m1 m2 rfl
      |false=>
       rw[z] at m1;cases w:(cS k el).2 with
       |true=>rw[w] at m2;rw[if_pos<|.inr<|.inr<|.inr rfl];exact Lm (x:=false) (y:=false) (z:=false) (w:=true) (.inr<|.inr<|.inr ⟨rfl,rfl,rfl,rfl⟩) mc (cF _) ab hl hm hb ab p1 p2 p3 p4 ab s1 s2 m1 m2 rfl
       |false=>
        rw[w] at m2;rw[if_neg<|by simp];refine muN (x:=false) (y:=false) (z:=false) (w:=false) mc (cF _) ab hl hm hb ab p1 p2 p3 p4 ab s1 s2 m1 m2 (fun q=>?_) fun q=>?_
        ·rw[if_pos q]
        ·rw[if_neg q];exact ih (i+1) _ j8 ab
  exact muG mc ab hl<|key l 0 0 (by rw[List.drop_zero]) ab
theorem T5(hP:bS pg):∀(k:Nat) {L:bO},aY L->aY (vx k::L)
 |0,L,h=>by refine gP hP h dc Tryd.func8 fun args v e=>?_;obtain⟨_,_,hk,_⟩:=fV e;omega
 |k+1,L,h=>abp hP (Tj hP 22<|T5 hP k dc) h
end Gb
end
section
open Go Go.Rn Go.RowKit Go.Proofs
namespace JX
open ch fT eX By iq mN mG vK xH tS xI eO cG dj B7 vJ xG uo tO rr Gx JT cQ di fW fD gH gQ gW gj gk hU iC iD iT jd jW kj kS jX fO iB mj vN nT zA qC zC DA Bj DW Gb
variable {k:Nat}
theorem Sr{f:Ex->Int×Bool}:∀(l:List Ex) (m:Int),(rH f l m).2=false->(∀a∈l,(f a).2=false)/\(rH f l m).1=l.foldl (fun n a=>n+(f a).1) m/\(m<=1000->(rH f l m).1<=1000)
 |[],m,_=>⟨fun a h=>(by cases h),rfl,fun h=>h⟩
 |a::r,m,h=>by
  unfold rH at h ⊢;by_cases c1:(f a).2=true
  ·rw[if_pos c1] at h;cases h
  ·rw[if_neg c1] at h ⊢;by_cases c2:m+(f a).1>1000
   ·rw[if_pos c2] at h;cases h
   ·rw[if_neg c2] at h ⊢;obtain⟨h1,h2,h3⟩:=Sr r _ h;refine⟨fun b hb=>?_,by rw[h2,List.foldl_cons],fun _=>h3 ab⟩;rcases List.mem_cons.1 hb with rfl|hb
    ·exact Bool.eq_false_iff.2 c1
    ·exact h1 b hb
theorem fold_congr{f g:Ex->Int}:∀(l:List Ex) (m:Int),(∀a∈l,f a=g a)->l.foldl (fun n a=>n+f a) m=l.foldl (fun n a=>n+g a) m
 |[],_,_=>rfl
 |a::l,m,h=>by rw[List.foldl_cons,List.foldl_cons,h a List.mem_cons_self];exact fold_congr l _ fun b hb=>h b<|List.mem_cons_of_mem _ hb
theorem HC:∀(k j:Nat) (e:Ex),k<=j->(dI k e).2=false->tz j e=true/\lr j e=(dI k e).1
 |0,_,_,_,h=>by cases h
 |k+1,0,_,hj,_=>by omega
 |k+1,j+1,.mk op n l,hj,h=>by
  unfold dI at h ⊢;by_cases c:k=0\/l.length>10
  ·rw[if_pos c] at h;cases h
  ·rw[if_neg c] at h ⊢;obtain⟨h1,h2,_⟩:=Sr l 1 h;refine⟨List.all_eq_true.2 fun a ha=>(HC k j a ab<|h1 a ha).1,?_⟩;rw[h2];exact fold_congr l 1 fun a ha=>(HC k j a ab<|h1 a ha).2
theorem HK{f:List St->Int×Bool}(hf:∀l,0<=(f l).1):∀(l:List St) (m:Int),(km f l m).2=false->m<=(km f l m).1/\∀s∈l,(dI 22<|cR s).2=false/\(dI 22<|iw s).2=false/\(f<|bF s).2=false/\(f<|bE s).2=false
 |[],m,_=>⟨Int.le_refl _,fun s h=>by cases h⟩
 |t::r,m,h=>by
  unfold km at h ⊢;have a1:=uM 22<|cR t;have a2:=uM 22<|iw t;have a3:=hf<|bF t;have a4:=hf<|bE t;by_cases c1:(dI 22<|cR t).2=true\/(dI 22<|iw t).2=true\/(f<|bF t).2=true\/(f<|bE t).2=true
  ·rw[if_pos c1] at h;cases h
  ·rw[if_neg c1] at h ⊢;by_cases c2:m+1+(dI 22<|cR t).1+(dI 22<|iw t).1+(f<|bF t).1+(f<|bE t).1>3000
   ·rw[if_pos c2] at h;cases h
   ·rw[if_neg c2] at h ⊢;obtain⟨h1,h2⟩:=HK hf r _ h;refine⟨by omega,fun s hs=>?_⟩;rcases List.mem_cons.1 hs with rfl|hs
    ·refine⟨Bool.eq_false_iff.2 fun q=>c1<|.inl q,Bool.eq_false_iff.2 fun q=>c1<|.inr<|.inl q,Bool.eq_false_iff.2 fun q=>c1<|.inr<|.inr<|.inl q,Bool.eq_false_iff.2 fun q=>c1<|.inr<|.inr<|.inr q⟩
    ·exact h2 s hs
theorem aak{l:List St}:cS (k+1) l=if k=0\/l.length>500 then(0,true) else km (cS k) l 0:=rfl
theorem Mc{l:List St}(h:(cS (k+1) l).2=false):l.length<=500/\(cS (k+1) l).1=(km (cS k) l 0).1/\(km (cS k) l 0).2=false/\∀s∈l,(dI 22<|cR s).2=false/\(dI 22<|iw s).2=false/\(cS k<|bF s).2=false/\(cS k<|bE s).2=false:=by
 rw[aak] at h ⊢;by_cases c:k=0\/l.length>500
 ·rw[if_pos c] at h;cases h
 ·rw[if_neg c] at h ⊢;refine⟨?_,rfl,h,(HK (fun l=>(wY k l).1) l 0 h).2⟩;by_cases q:l.length<=500
  ·exact q
  ·exact absurd (.inr ab) c
theorem Cu:∀(k j:Nat) (l:List St),k<=j->(cS k l).2=false->ky j l=true/\qk j l=true
 |0,_,_,_,h=>by cases h
 |k+1,0,_,hj,_=>by omega
 |k+1,j+1,l,hj,h=>by
  obtain⟨h1,_,_,h4⟩:=Mc h;have hl:decide (l.length<=1000000)=true:=decide_eq_true ab;constructor
  ·show(decide (l.length<=1000000)&&l.all fun s=>ky j (bF s)&&ky j (bE s))=true;rw[hl];exact List.all_eq_true.2 fun s hs=>and_true.2 ⟨(Cu k j _ ab (h4 s hs).2.2.1).1,(Cu k j _ ab (h4 s hs).2.2.2).1⟩
  ·show(decide (l.length<=1000000)&&l.all fun s=>((bF s).isEmpty||qk j (bF s))&&((bE s).isEmpty||qk j (bE s)))=true;rw[hl];exact List.all_eq_true.2 fun s hs=>and_true.2 ⟨by rw[(Cu k j _ ab (h4 s hs).2.2.1).2,Bool.or_true],by rw[(Cu k j _ ab (h4 s hs).2.2.2).2,Bool.or_true]⟩
theorem T6{k j:Nat}(he:∀l n1 n2,(cS j l).2=false->0<=n1/\n1+(cS j l).1<=1000000000->0<=n2/\n2+(cS j l).1<=1000000000->∃m1 m2,fC (pa 60) k l (.int .i64 n1) (.int .i64 n2)=some ⟨true,.int .i64 m1,.int .i64 m2,none⟩/\(n1<=m1/\m1<=n1+(cS j l).1)/\n2<=m2/\m2<=n2+(cS j l).1):
 ∀(r:List St) (m n1 n2:Int),(km (cS j) r m).2=false->0<=m->m<=3000->0<=n1->0<=n2->n1+((km (cS j) r m).1 - m)<=1000000000->n2+((km (cS j) r m).1 - m)<=1000000000->∃m1 m2,kG (fC (pa 60) k) (pa 60) r (.int .i64 n1) (.int .i64 n2)=some ⟨true,.int .i64 m1,.int .i64 m2,none⟩/\(n1<=m1/\m1<=n1+((km (cS j) r m).1 - m))/\n2<=m2/\m2<=n2+((km (cS j) r m).1 - m)
 |[],m,n1,n2,_,_,_,_,_,_,_=>⟨n1,n2,rfl,by show n1<=n1/\n1<=n1+(m - m);omega,by show n2<=n2/\n2<=n2+(m - m);omega⟩
 |t::r,m,n1,n2,h,hm,cN,h1,h2,h3,h4=>by
  unfold km at h h3 h4 ⊢;have a1:=uM 22<|cR t;have a2:=uM 22<|iw t;have a3:=wY j<|bF t;have a4:=wY j<|bE t;by_cases c1:(dI 22<|cR t).2=true\/(dI 22<|iw t).2=true\/(cS j<|bF t).2=true\/(cS j<|bE t).2=true
  ·rw[if_pos c1] at h;cases h
  ·rw[if_neg c1] at h h3 h4 ⊢;by_cases c2:m+1+(dI 22<|cR t).1+(dI 22<|iw t).1+(cS j<|bF t).1+(cS j<|bE t).1>3000
   ·rw[if_pos c2] at h;cases h
   ·rw[if_neg c2] at h h3 h4 ⊢;have g:=(HK (fun l=>(wY j l).1) r _ h).1;obtain⟨d1,e1⟩:=HC 22 60 (cR t) ab<|Bool.eq_false_iff.2 fun q=>c1<|.inl q;obtain⟨d2,e2⟩:=HC 22 60 (iw t) ab<|Bool.eq_false_iff.2 fun q=>c1<|.inr<|.inl q;have z1:0<=l6 60 (cR t)/\l6 60 (cR t)<=(dI 22<|cR t).1:=by have:=ER 60 (cR t) d1;unfold l6;split<;>omega
    have z2:0<=l6 60 (iw t)/\l6 60 (iw t)<=(dI 22<|iw t).1:=by have:=ER 60 (iw t) d2;unfold l6;split<;>omega
    have hc:Pd 60 t n1 n2:=⟨by omega,by omega,d1,d2,by rw[e1];omega,by rw[e2];omega⟩;have hr:pa 60 t (.int .i64 n1) (.int .i64 n2)=some ⟨true,.int .i64<|n1+1,.int .i64<|n2+(l6 60 (cR t)+l6 60 (iw t)),none⟩:=if_pos hc;obtain⟨p1,p2,q1,q2,q3⟩:=he (bF t) (n1+1) (n2+(l6 60 (cR t)+l6 60 (iw t))) (Bool.eq_false_iff.2 fun q=>c1<|.inr<|.inr<|.inl q) ab ab;obtain⟨u1,u2,w1,w2,w3⟩:=he (bE t) p1 p2 (Bool.eq_false_iff.2 fun q=>c1<|.inr<|.inr<|.inr q) ab ab;obtain⟨y1,y2,x1,x2,x3⟩:=T6 he r _ u1 u2 h ab ab ab ab ab ab;refine⟨y1,y2,?_,by omega,by omega⟩;unfold kG;rw[hr];simp only[q1,w1];exact x1
theorem Ss:∀(k j:Nat) (l:List St) (n1 n2:Int),j<=k->(cS j l).2=false->0<=n1/\n1+(cS j l).1<=1000000000->0<=n2/\n2+(cS j l).1<=1000000000->∃m1 m2,fC (pa 60) k l (.int .i64 n1) (.int .i64 n2)=some ⟨true,.int .i64 m1,.int .i64 m2,none⟩/\(n1<=m1/\m1<=n1+(cS j l).1)/\n2<=m2/\m2<=n2+(cS j l).1
 |_,0,_,_,_,_,h,_,_=>by cases h
 |0,j+1,_,_,_,hj,_,_,_=>by omega
 |k+1,j+1,l,n1,n2,hj,h,h1,h2=>by obtain⟨g1,g2,g3,_⟩:=Mc h;rw[g2] at h1 h2 ⊢;have g4:=(HK (fun l=>(wY j l).1) l 0 g3).1;obtain⟨m1,m2,e,a,b⟩:=T6 (k:=k) (fun l n1 n2 x y z=>Ss k j l n1 n2 ab x y z) l 0 n1 n2 g3 ab ab h1.1 h2.1 ab ab;refine⟨m1,m2,?_,by omega,by omega⟩;unfold fC;rw[show decide (l.length<=1000000)=true from decide_eq_true ab];exact e
def rz:Nat->List St->Prop
 |0,_=>True
 |k+1,l=>∀s∈l,(0<=fB s/\fB s<256)/\rz k (bF s)/\rz k (bE s)
theorem Ns:∀{k:Nat} {l:List St},rz k l->GC k l
 |0,_,_=>trivial
 |k+1,l,h=>fun s hs=>⟨(h s hs).1.1,Ns (h s hs).2.1,Ns (h s hs).2.2⟩
theorem T7{k:Nat}{n:Int}(he:∀l,ky k l=true->rz k l->∃p,fC gw k l (.int .i64 n) (.bool false)=some p):∀r:List St,(∀s∈r,(ky k (bF s)=true/\ky k (bE s)=true)/\(0<=fB s/\fB s<256)/\rz k (bF s)/\rz k (bE s))->∃p,kG (fC gw k) gw r (.int .i64 n) (.bool false)=some p
 |[],_=>⟨_,rfl⟩
 |t::r,h=>by
  obtain⟨⟨d1,d2⟩,k1,k2,k3⟩:=h t List.mem_cons_self;unfold kG;have e1:gw t (.int .i64 n) (.bool false)=some (if mA t n=true then pY n else pN n):=by
   show(if 0<=fB t/\fB t<256 then(match mA t n with
    |true=>some (⟨true,.int .i64 n,.bool false,none⟩:fw)
    |false=>some ⟨false,.int .i64 n,.bool false,some .ret⟩) else none)=_
   rw[if_pos k1];cases mA t n<;>rfl
  rw[e1];cases hs:mA t n with
  |false=>exact⟨_,rfl⟩
  |true=>
   rw[if_pos rfl];show ∃p,(match fC gw k (bF t) (.int .i64 n) (.bool false) with
    |none=>none
    |some q=>match q.ret with
     |false=>some q
     |true=>match fC gw k (bE t) q.v1 q.v2 with
      |none=>none
      |some u=>match u.ret with
       |false=>some u
       |true=>kG (fC gw k) gw r u.v1 u.v2)=some p
   obtain⟨q1,w1⟩:=he _ d1 k2;rw[w1];rcases Ak k _ _ w1 with rfl|rfl
   ·show ∃p,(match fC gw k (bE t) (.int .i64 n) (.bool false) with
     |none=>none
     |some u=>match u.ret with
      |false=>some u
      |true=>kG (fC gw k) gw r u.v1 u.v2)=some p
    obtain⟨q2,w2⟩:=he _ d2 k3;rw[w2];rcases Ak k _ _ w2 with rfl|rfl
    ·exact T7 he r fun s hs=>h s<|List.mem_cons_of_mem _ hs
    ·exact⟨_,rfl⟩
   ·exact⟨_,rfl⟩
theorem Su{n:Int}:∀(k:Nat) (l:List St),ky k l=true->rz k l->∃p,fC gw k l (.int .i64 n) (.bool false)=some p
 |0,_,h,_=>by cases h
 |k+1,l,hd,hk=>by obtain⟨c1,c2⟩:=and_true.1 (show(decide (l.length<=1000000)&&l.all fun s=>ky k (bF s)&&ky k (bE s))=true from hd);unfold fC;rw[c1];exact T7 (Su k) l fun s hs=>⟨and_true.1<|List.all_eq_true.1 c2 s hs,hk s hs⟩
theorem aal{s:St}{n:Int}(h:mA s n=true):pb 6 (cR s)=true/\pb 6 (iw s)=true:=by
 obtain⟨kind,to,a,b,bd,el⟩:=s;have h:zV (pU kind) to a b bd el n=true:=h;have fit:∀(q:Bool) (e:Ex),tP q e n=true->pb 6 e=true:=fun q e h=>by
  cases q with
  |true=>have h:(eL 6 e&&rh 6 e n)=true:=h;exact Oj (and_true.1 h).1
  |false=>have h:decide (Ds e)=true:=h;have h:=of_decide_eq_true h;obtain⟨op,m,l⟩:=e;have hl:l=[]:=List.length_eq_zero_iff.1 h.2.2;subst hl;show(eL 6 (.mk op m [])||true)=true;rw[Bool.or_true]
 unfold zV at h;split at h
 ·obtain⟨_,h⟩:=and_true.1 h;obtain⟨_,h⟩:=and_true.1 h;obtain⟨_,h⟩:=and_true.1 h;obtain⟨h1,h⟩:=and_true.1 h;obtain⟨h2,_⟩:=and_true.1 h;exact⟨fit _ _ h1,fit _ _ h2⟩
 ·cases h
theorem N8{n:Int}:∀(k j i:Nat) (l:List St),k<=j->(cS k l).2=false->zD i n l->k<=i->pC j l=true
 |0,_,_,_,_,h,_,_=>by cases h
 |k+1,0,_,_,hj,_,_,_=>by omega
 |k+1,j+1,0,_,_,_,h,_=>by cases h
 |k+1,j+1,i+1,l,hj,h,ha,hi=>by obtain⟨h1,_,_,h4⟩:=Mc h;show(decide (l.length<=10000)&&l.all fun s=>pb 6 (cR s)&&(pb 6 (iw s)&&(pC j (bF s)&&pC j (bE s))))=true;rw[decide_eq_true (show l.length<=10000 by omega)];refine List.all_eq_true.2 fun s hs=>?_;obtain⟨a1,a2,a3⟩:=ha s hs;obtain⟨w1,w2⟩:=aal a1;rw[w1,w2,N8 k j i _ ab (h4 s hs).2.2.1 a2 ab,N8 k j i _ ab (h4 s hs).2.2.2 a3 ab];rfl
theorem acF{tx:List St}{n:Nat}(h:(cS 22 tx).2=false)(hk:rz 60 tx):∃b,tT tx (n:Int) b/\(b=true->pC 60 tx=true/\lk 6 tx):=by obtain⟨d1,d2⟩:=Cu 22 60 tx ab h;have iu:=wY 22 tx;obtain⟨m1,m2,e1,_,_⟩:=Ss 60 22 tx 0 0 ab h ab ab;obtain⟨p,e2⟩:=Su (n:=(n:Int)) 60 tx d1 hk;have hm:tT tx (n:Int)<|decide (0<=(n:Int)/\(n:Int)<6/\fp 60 tx<=6/\gh 60 tx<=2000)&&(p.ret&&decide (m1<=40/\m2<=300)):=⟨m1,m2,p,e1,e2,rfl⟩;refine⟨_,hm,fun hb=>?_⟩;have hp:p.ret=true:=(and_true.1 (and_true.1 hb).2).1;refine⟨N8 22 60 60 tx ab h (Aw 60 tx p e2 hp) ab,?_⟩;rw[hb] at hm;exact afK hm d1<|Ns hk
end JX
end
section
open Go Go.Rn Go.RowKit Go.Proofs
namespace Kq
open ch fT eX iq mN mG vK xH tS xI eO cG dj B7 cQ di fW fD gH gQ gW gj gk hU iC iD iT jd jW kj kS jX fO tN iB F1 mj vN nT zA qC Bj zC DA JX
variable {x:Int} {tx:List St} {st:List Fr}
def oe(f:List St->Nat)(s:St):Nat:=1+(if fB s=4 then max (f<|bF s) (f<|bE s) else if fB s=5 then 8*f (bF s) else if fB s=7 then f (bF s)+f (bE s) else 0)
def mP(f:List St->Nat):List St->Nat
 |[]=>0
 |s::r=>oe f s+mP f r
def uc:Nat->List St->Nat
 |0,_=>0
 |d+1,l=>mP (uc d) l
theorem T8{f g:List St->Nat}:∀{l:List St},(∀s∈l,f (bF s)=g (bF s)/\f (bE s)=g (bE s))->mP f l=mP g l
 |[],_=>rfl
 |s::r,h=>by show oe f s+mP f r=oe g s+mP g r;rw[T8 (l:=r) fun s hs=>h s<|List.mem_cons_of_mem _ hs];unfold oe;rw[(h s<|List.mem_cons_self ..).1,(h s<|List.mem_cons_self ..).2]
theorem Ft:∀(d j k:Nat) (l:List St),lk d l->d<=j->d<=k->uc j l=uc k l
 |0,j,k,l,h,_,_=>by have h:l=[]:=h;subst h;cases j<;>cases k<;>rfl
 |d+1,j+1,k+1,l,h,hj,hk=>T8 fun s hs=>⟨Ft d j k _ (h.2 s hs).2.2.1 ab ab,Ft d j k _ (h.2 s hs).2.2.2 ab ab⟩
theorem aem(h:dW x 2001<=2000):dW x 2001=x:=by
 revert h;unfold dW;split
 ·intro h;omega
 ·intro _;rfl
theorem U5:∀(k:Nat) (l:List St),gh k l<=2000->((uc k l:Nat):Int)<=gh k l
 |0,_,_=>by show(0:Int)<=0;omega
 |k+1,l,h=>by
  have ih:=U5 k;have go:∀(l:List St) (m:Int),0<=m->l.foldl (fun m s=>jL (fB s) m (gh k<|bF s)<|gh k<|bE s) m<=2000->m+((mP (uc k) l:Nat):Int)<=l.foldl (fun m s=>jL (fB s) m (gh k<|bF s)<|gh k<|bE s) m:=by
   intro l;induction l with
   |nil=>intro m _ _;show m+(0:Int)<=m;omega
   |cons s r ihr=>
    intro m hm hF;rw[List.foldl_cons] at hF ⊢;have c1:=CO k<|bF s;have c2:=CO k<|bE s;have a1:=ih<|bF s;have a2:=ih<|bE s;have hx:=IY (gh k<|bF s)<|gh k<|bE s;have key:∀x:Int,0<=x->jL (fB s) m (gh k<|bF s) (gh k<|bE s)=dW x 2001->(x<=2000->m+((oe (uc k) s:Nat):Int)<=x)->m+((mP (uc k) (s::r):Nat):Int)<=r.foldl (fun m s=>jL (fB s) m (gh k<|bF s)<|gh k<|bE s) (jL (fB s) m (gh k<|bF s)<|gh k<|bE s):=by intro x rV e hle;rw[e] at hF ⊢;have q:=ihr (dW x 2001) (UE rV).1 hF;have q2:dW x 2001=x:=aem ab;rw[q2] at q hF ⊢;have:=hle ab;have:mP (uc k) (s::r)=oe (uc k) s+mP (uc k) r:=rfl;omega
    by_cases k4:fB s=4
    ·refine key (m+1+cK (gh k<|bF s) (gh k<|bE s)) ab (by unfold jL;rw[if_pos k4]) fun hle=>?_;have:=a1 ab;have:=a2 ab;unfold oe;rw[if_pos k4];omega
    by_cases k5:fB s=5
    ·refine key (m+1+8*gh k (bF s)) ab (by unfold jL;rw[if_neg k4,if_pos k5]) fun hle=>?_;have:=a1 ab;unfold oe;rw[if_neg k4,if_pos k5];omega
    by_cases k7:fB s=7
    ·refine key (m+1+(gh k (bF s)+gh k (bE s))) ab (by unfold jL;rw[if_neg k4,if_neg k5,if_pos k7]) fun hle=>?_;have:=a1 ab;have:=a2 ab;unfold oe;rw[if_neg k4,if_neg k5,if_pos k7];omega
    ·refine key (m+1+0) ab (by unfold jL;rw[if_neg k4,if_neg k5,if_neg k7]) fun hle=>?_;unfold oe;rw[if_neg k4,if_neg k5,if_neg k7];omega
  have:=go l 0 ab h;show((mP (uc k) l:Nat):Int)<=l.foldl (fun m s=>jL (fB s) m (gh k<|bF s)<|gh k<|bE s) 0;omega
theorem ff:¬(false=true):=fun c=>by cases c
def eA:List Fr->Nat
 |[]=>0
 |f::r=>mP (uc 60) (f.block.drop f.ak.toNat)+f.turns.toNat*uc 61 f.block+(if f.bV=true then uc 61 (f.other.getD []) else 0)+eA r
theorem EE:∀(k:Nat) (st:List Fr) (b:bf) (aV:List Fr) (b':bf),ig k st b=some (aV,b')->eA aV<=eA st
 |0,_,_,_,_,h=>by cases h
 |k+1,[],b,aV,b',h=>by
  unfold ig at h;injection h with h;injection h with h1 _
  rw[←h1];exact Nat.le_refl _
 |k+1,f::r,b,aV,b',h=>by
  unfold ig at h;by_cases c1:f.ak<(f.block.length:Int)
  ·rw[if_pos c1] at h;injection h with h;injection h with h1 _
   rw[←h1];exact Nat.le_refl _
  ·rw[if_neg c1] at h;by_cases c2:0<f.turns
   ·rw[if_pos c2] at h;have e:eA ({f with ak:=0,turns:=f.turns - 1}::r)<=eA (f::r):=by
     show uc 61 f.block+(f.turns - 1).toNat*uc 61 f.block+(if f.bV=true then uc 61 (f.other.getD []) else 0)+eA r<=mP (uc 60) (f.block.drop f.ak.toNat)+f.turns.toNat*uc 61 f.block+(if f.bV=true then uc 61 (f.other.getD []) else 0)+eA r;have ht:f.turns.toNat=(f.turns - 1).toNat+1:=by omega
     rw[ht,Nat.add_mul,Nat.one_mul];omega
    by_cases c3:0<(f.block.length:Int)
    ·rw[if_pos c3] at h;injection h with h;injection h with h1 _
     rw[←h1];exact e
    ·rw[if_neg c3] at h;exact Nat.le_trans (EE k _ b _ _ h) e
   ·rw[if_neg c2] at h;have e:eA r<=eA (f::r):=Nat.le_add_left _ _;by_cases c4:f.bV=true
    ·rw[if_pos c4] at h;by_cases c5:2<=b.length
     ·rw[if_pos c5] at h;exact Nat.le_trans (EE k _ _ _ _ h) e
     ·rw[if_neg c5] at h;cases h
    ·rw[if_neg c4] at h;exact Nat.le_trans (EE k _ _ _ _ h) e
theorem wZ{a a':dF}{b:bf}(h:fin a st b=some a'):eA a'.fs.reverse<=eA st:=by
 unfold fin at h;cases e:ig 1000 st b with
 |none=>rw[e] at h;cases h
 |some p=>
  rw[e] at h;injection h with h
  rw[←h];show eA p.1.reverse.reverse<=_;rw[List.reverse_reverse];exact EE 1000 st b p.1 p.2 e
theorem MK:∀{st:List Fr} {g:Fr} {r':List Fr},below st=some (g,r')->g.bV=true->uc 61 (g.other.getD [])+eA r'<=eA st
 |[],_,_,h,_=>by cases h
 |f::r,g,r',h,hg=>by
  unfold mj.below at h;by_cases c:f.bV=true
  ·rw[if_pos c] at h;injection h with h;injection h with h1 h2
   subst h1;subst h2;show _<=_+(if f.bV=true then uc 61 (f.other.getD []) else 0)+eA r;rw[if_pos c];omega
  ·rw[if_neg c] at h;have:=MK h hg;have:eA r<=eA (f::r):=Nat.le_add_left _ _;omega
theorem U6{f:Fr}{r:List Fr}{s:St}(h0:0<=f.ak)(h:f.block[f.ak.toNat]? =some s):eA (f::r)=oe (uc 60) s+eA ({f with ak:=f.ak+1}::r):=by
 have hl:f.ak.toNat<f.block.length:=by
  rcases Nat.lt_or_ge f.ak.toNat f.block.length with q|q
  ·exact q
  ·rw[List.getElem?_eq_none q] at h;cases h
 have e:f.block.drop f.ak.toNat=s::f.block.drop (f.ak.toNat+1):=by
  rw[List.drop_eq_getElem_cons hl];rw[List.getElem?_eq_getElem hl] at h;injection h with h
  rw[h]
 show mP (uc 60) (f.block.drop f.ak.toNat)+_+_+_=oe (uc 60) s+(mP (uc 60) (f.block.drop (f.ak+1).toNat)+_+_+_);rw[e,show(f.ak+1).toNat=f.ak.toNat+1 by omega];show oe (uc 60) s+mP (uc 60) (f.block.drop<|f.ak.toNat+1)+f.turns.toNat*uc 61 f.block+(if f.bV=true then uc 61 (f.other.getD []) else 0)+eA r=oe (uc 60) s+(mP (uc 60) (f.block.drop<|f.ak.toNat+1)+f.turns.toNat*uc 61 f.block+(if f.bV=true then uc 61 (f.other.getD []) else 0)+eA r);omega
theorem Iu:∀{st:List Fr} {g:Fr} {r':List Fr},below st=some (g,r')->g.bV=true
 |[],_,_,h=>by cases h
 |f::r,g,r',h=>by
  unfold mj.below at h;by_cases c:f.bV=true
  ·rw[if_pos c] at h;injection h with h;injection h with h1 h2
   rw[←h1];exact c
  ·rw[if_neg c] at h;exact Iu h
section
variable {a a':dF}
theorem acG(h:ml a)(hk:dX a=(1,0,0))(hs:qm a=some a'):eA a'.fs.reverse+1<=eA a.fs.reverse:=by
 rcases h.top with e|⟨f,r,e,ht⟩
 ·exfalso;unfold dX at hk;rw[e] at hk;injection hk with q _;omega
 have hw:=h.inv.wf;rw[e] at hw;obtain⟨d,⟨kind,to,ea,eb,bd,el⟩,hd,q,k1,_,k3,k4⟩:=Ba hw ht;have k3:lk d bd:=k3;have k4:lk d el:=k4;have u3:uc 61 bd=uc 60 bd:=Ft d 61 60 bd k3 ab ab;have u4:uc 61 el=uc 60 el:=Ft d 61 60 el k4 ab ab;have tp:=U6 (r:=r) hw.2.1.1 q;unfold qm at hs;rw[e] at hs ⊢;simp only[q] at hs;have hC:oe (uc 60) (.mk kind to ea eb bd el)=1+(if kind=4 then max (uc 60 bd) (uc 60 el) else if kind=5 then 8*uc 60 bd else if kind=7 then uc 60 bd+uc 60 el else 0):=rfl;have Kr:∀(g:Fr) (r':List Fr),g.ak=0->eA (g::r')=uc 61 g.block+g.turns.toNat*uc 61 g.block+(if g.bV=true then uc 61 (g.other.getD []) else 0)+eA r':=fun g r' hg=>by show mP (uc 60) (g.block.drop g.ak.toNat)+_+_+_=_;rw[hg];rfl
 by_cases c1:kind=1
 ·rw[if_pos c1] at hs;have:=wZ hs;omega
 rw[if_neg c1] at hs;by_cases c2:kind=2
 ·rw[if_pos c2] at hs;have:=wZ hs;omega
 rw[if_neg c2] at hs;by_cases c3:kind=3
 ·rw[if_pos c3] at hs;have:=wZ hs;omega
 rw[if_neg c3] at hs;by_cases c4:kind=4
 ·rw[if_pos c4] at hs;have p:=wZ hs;rw[Kr _ _ rfl] at p;rw[if_pos c4] at hC;have p:eA a'.fs.reverse<=uc 61 (if dx a ea≠0 then bd else el)+(0:Int).toNat*uc 61 (if dx a ea≠0 then bd else el)+(if false=true then _ else 0)+eA ({f with ak:=f.ak+1}::r):=p;rw[if_neg ff,show(0:Int).toNat=0 from rfl,Nat.zero_mul] at p;by_cases z:dx a ea≠0
  ·rw[if_pos z] at p;omega
  ·rw[if_neg z] at p;omega
 rw[if_neg c4] at hs;by_cases c5:kind=5
 ·rw[if_pos c5] at hs;rw[if_neg c4,if_pos c5] at hC;by_cases z:0<kJ (dx a ea)
  ·rw[if_pos z] at hs;have t8:=Nn<|dx a ea;have p:=wZ hs;rw[Kr _ _ rfl] at p;have p:eA a'.fs.reverse<=uc 61 bd+(kJ (dx a ea) - 1).toNat*uc 61 bd+(if false=true then _ else 0)+eA ({f with ak:=f.ak+1}::r):=p;rw[if_neg ff,u3] at p;have m:(kJ (dx a ea) - 1).toNat*uc 60 bd<=7*uc 60 bd:=Nat.mul_le_mul_right _ ab;omega
  ·rw[if_neg z] at hs;have:=wZ hs;omega
 rw[if_neg c5] at hs;by_cases c6:kind=6
 ·rw[if_pos c6] at hs;cases hb:below (f::r) with
  |none=>rw[hb] at hs;cases hs
  |some p=>
   obtain⟨⟨fb,fa,ft,fo,kept,QY⟩,r'⟩:=p;rw[hb] at hs;have ho:=Iu hb;cases QY with
   |none=>cases hs
   |some ol=>
    have p:=wZ hs;rw[Kr _ _ rfl] at p;have p:eA a'.fs.reverse<=uc 61 ol+(0:Int).toNat*uc 61 ol+(if false=true then _ else 0)+eA r':=p;rw[if_neg ff,show(0:Int).toNat=0 from rfl,Nat.zero_mul] at p;have fN:below ({f with ak:=f.ak+1}::r)=some (⟨fb,fa,ft,fo,kept,some ol⟩,r')\/∃g':Fr,below ({f with ak:=f.ak+1}::r)=some (g',r')/\g'.other=some ol:=by
     unfold mj.below at hb ⊢;by_cases c:f.bV=true
     ·rw[if_pos c] at hb;injection hb with hb;injection hb with h1 h2
      refine .inr ⟨{f with ak:=f.ak+1},by rw[←h2];exact if_pos c,by show f.other=_;rw[h1]⟩
     ·rw[if_neg c] at hb;exact .inl (by rw[←hb];exact if_neg c)
    have:uc 61 ol+eA r'<=eA ({f with ak:=f.ak+1}::r):=by
     rcases fN with fN|⟨g',fN,eo⟩
     ·exact MK fN<|Iu fN
     ·have:=MK fN<|Iu fN;rw[eo] at this;exact this
    omega
 rw[if_neg c6] at hs;by_cases c7:kind=7
 ·rw[if_pos c7] at hs;rw[if_neg c4,if_neg c5,if_pos c7] at hC;have p:=wZ hs;rw[Kr _ _ rfl] at p;have p:eA a'.fs.reverse<=uc 61 bd+(0:Int).toNat*uc 61 bd+(if true=true then uc 61 el else 0)+eA ({f with ak:=f.ak+1}::r):=p;rw[if_pos rfl,show(0:Int).toNat=0 from rfl,Nat.zero_mul] at p;omega
 ·rw[if_neg c7] at hs;cases hs
theorem aen(h:ml a){v:Int}(hk:dX a=(2,v,0))(hs:nw a x=some a'):eA a'.fs.reverse+1<=eA a.fs.reverse:=by
 rcases h.top with e|⟨f,r,e,ht⟩
 ·exfalso;unfold dX at hk;rw[e] at hk;injection hk with q _;omega
 have hw:=h.inv.wf;rw[e] at hw;obtain⟨d,⟨kind,to,ea,eb,bd,el⟩,hd,q,_⟩:=Ba hw ht;have tp:=U6 (r:=r) hw.2.1.1 q;unfold nw at hs;rw[e] at hs ⊢;simp only[q] at hs;have:=wZ hs;have:1<=oe (uc 60) (.mk kind to ea eb bd el):=Nat.le_add_right _ _;omega
end
theorem aeo(hw:lk 6 tx)(hc:gh 60 tx<=2000){bb:bf}(h:ig 1000 [tD tx] [[]]=some (st,bb)):((eA st:Nat):Int)<=gh 60 tx:=by
 have p:=EE 1000 _ _ _ _ h;have e:eA [tD tx]=uc 61 tx:=by show uc 61 tx+(0:Int).toNat*uc 61 tx+(if false=true then _ else 0)+0=_;rw[if_neg ff,show(0:Int).toNat=0 from rfl,Nat.zero_mul];rfl
 have s:=Ft 6 61 60 tx hw ab ab;have:=U5 60 tx hc;omega
theorem acH{n:Int}(h:tT tx n true):gh 60 tx<=2000:=by obtain⟨_,_,_,_,_,e⟩:=h;obtain⟨h1,_⟩:=and_true.1 e.symm;exact(of_decide_eq_true h1).2.2.2
end Kq
end
section
open Go Go.Rn Go.RowKit Go.Proofs
namespace Ks
open ch fT eX iq eO cG dj cQ gj gk jX mj nT qC zC DA Kq tW DV
variable {a a':dF}
def vy(n:Int)(m:List<|Int×Int):Prop:=∀p∈m,0<=p.1/\p.1<n
def mI(n:Int)(b:bf):Prop:=∀m∈b,vy n m
section
variable {n:Int} {b b':bf} {m:List<|Int×Int} {k v:Int}
theorem OO:∀{m:List<|Int×Int},vy n m->0<=k/\k<n->vy n (fM m k v)
 |[],_,hk,p,hp=>by rw[fM,List.mem_singleton] at hp;subst hp;exact hk
 |q::l,h,hk,p,hp=>by
  unfold fM at hp;split at hp
  ·rcases List.mem_cons.1 hp with rfl|hp
   ·exact hk
   ·exact h p<|List.mem_cons_of_mem _ hp
  ·rcases List.mem_cons.1 hp with rfl|hp
   ·exact h _ List.mem_cons_self
   ·exact OO (fun x hx=>h x<|List.mem_cons_of_mem _ hx) hk p hp
theorem Nt:∀{s d:List<|Int×Int},vy n d->vy n s->vy n (fe d s)
 |[],d,hd,_=>hd
 |p::s,d,hd,hs=>Nt (s:=s) (OO hd<|hs p List.mem_cons_self) fun q hq=>hs q<|List.mem_cons_of_mem _ hq
theorem VL:∀{b:bf},mI n b->0<=k/\k<n->mI n (kL b k v)
 |[],h,_=>h
 |[m],h,hk=>fun q hq=>by rw[show kL [m] k v=[fM m k v] from rfl,List.mem_singleton] at hq;subst hq;exact OO (h m List.mem_cons_self) hk
 |m::m'::l,h,hk=>fun q hq=>by
  rcases List.mem_cons.1 (show q∈m::kL (m'::l) k v from hq) with rfl|hq
  ·exact h _ List.mem_cons_self
  ·exact VL (b:=m'::l) (fun x hx=>h x<|List.mem_cons_of_mem _ hx) hk q hq
theorem U7:∀{b:bf},mI n b->mI n (ga b)
 |[],h=>h
 |[m],h=>h
 |[m,m'],h=>fun q hq=>by rw[show ga [m,m']=[fe m m'] from rfl,List.mem_singleton] at hq;subst hq;exact Nt (h m List.mem_cons_self)<|h m'<|List.mem_cons_of_mem _ List.mem_cons_self
 |m::m'::z6::l,h=>fun q hq=>by
  rcases List.mem_cons.1 (show q∈m::ga (m'::z6::l) from hq) with rfl|hq
  ·exact h _ List.mem_cons_self
  ·exact U7 (b:=m'::z6::l) (fun x hx=>h x<|List.mem_cons_of_mem _ hx) q hq
theorem EU:∀(j:Nat) (st:List Fr) (b:bf) (aV:List Fr) (b':bf),ig j st b=some (aV,b')->mI n b->mI n b'
 |0,_,_,_,_,h,_=>by cases h
 |j+1,[],b,aV,b',h,hb=>by
  unfold ig at h;injection h with h;injection h with _ h
  rw[←h];exact hb
 |j+1,f::r,b,aV,b',h,hb=>by
  unfold ig at h;split at h
  ·injection h with h;injection h with _ h
   rw[←h];exact hb
  split at h
  ·split at h
   ·injection h with h;injection h with _ h
    rw[←h];exact hb
   ·exact EU j _ b _ _ h hb
  split at h
  ·split at h
   ·exact EU j _ _ _ _ h<|U7 hb
   ·cases h
  ·exact EU j _ b _ _ h hb
theorem FN{st:List Fr}(h:fin a st b=some a')(hb:mI n b):mI n a'.b:=by
 unfold fin at h;cases e:ig 1000 st b with
 |none=>rw[e] at h;cases h
 |some p=>
  rw[e] at h;injection h with h
  rw[←h];exact EU 1000 st b p.1 p.2 e hb
end
theorem aep{n:Int}{b:bf}(hb:mI n b):mI n<|b++[[]]:=fun m hm=>by
 rcases List.mem_append.1 hm with hm|hm
 ·exact hb m hm
 ·rw[List.mem_singleton] at hm;subst hm;intro p hp;cases hp
theorem aeq(hv:1<=a.vars)(hs:qm a=some a')(hb:mI a.vars a.b):mI a.vars a'.b:=by
 unfold qm at hs;split at hs
 ·cases hs
 split at hs
 ·cases hs
 repeat' split at hs
 all_goals first|(cases hs;done)|exact FN hs hb|exact FN hs (VL hb<|US hv)|exact FN hs (fun m hm=>hb m<|List.dropLast_subset _ hm)|exact FN hs<|aep hb
theorem afP{x:Int}(hs:nw a x=some a')(hb:mI a.vars a.b):mI a.vars a'.b:=by
 unfold nw at hs;split at hs
 ·cases hs
 split at hs
 ·cases hs
 exact FN hs hb
theorem VM{n:Int}{b:bf}(h:mI n b):∀{d:List<|Int×Int},vy n d->vy n (b.foldl fe d):=by
 induction b with
 |nil=>exact fun hd=>hd
 |cons m b ih=>exact fun hd=>ih (fun x hx=>h x<|List.mem_cons_of_mem _ hx)<|Nt hd<|h m List.mem_cons_self
theorem VN:∀(n:Nat) (l:List Int),l.Nodup->(∀x∈l,0<=x/\x<(n:Int))->l.length<=n
 |0,[],_,_=>Nat.le_refl _
 |0,x::l,_,h=>by have:=h x List.mem_cons_self;omega
 |n+1,l,hn,h=>by
  have e:l.length<=(l.erase (n:Int)).length+1:=by
   by_cases q:(n:Int)∈l
   ·rw[List.length_erase_of_mem q];omega
   ·rw[List.erase_of_not_mem q];omega
  have:=VN n (l.erase (n:Int)) (hn.erase _) fun x hx=>by
   have h1:=h x<|List.mem_of_mem_erase hx;have h2:x≠(n:Int):=fun e=>by rw[e] at hx;exact(List.Nodup.not_mem_erase hn) hx
   omega
  omega
theorem U8{n:Nat}{b:bf}(h:mI (n:Int) b):(allM b).length<=n:=by
 have hk:dU<|allM b:=Mb List.nodup_nil;have hi:vy (n:Int)<|allM b:=VM h fun p hp=>by cases hp
 have:=VN n ((allM b).map (·.1)) hk fun x hx=>by obtain⟨p,hp,rfl⟩:=List.mem_map.1 hx;exact hi p hp
 rw[List.length_map] at this;exact this
structure Cg where
 m:dF
 rs:List<|Int×Int
 re:Bool
 x:Int
def kh(mem:List Int)(v:Int):Int:=mem.getD v.toNat 0
def rA(mem:List Int):Nat->dF->List (Int×Int)->Option Cg
  |0,_,_=>none
  | n+1,a,rs=>if(dX a).1=1 then(qm a).bind fun a'=>rA mem n a' rs
    else if(dX a).1=2 then(nw a<|kh mem (dX a).2.1).bind fun a'=>rA mem n a'<|rs++[((dX a).2.1,kh mem (dX a).2.1)]
    else if(dX a).1=3 then some ⟨a,rs,false,(dX a).2.2⟩ else some ⟨a,rs,true,0⟩
def qP(d:Cg):List<|Int×Int:=if d.re=true then[] else dP (allM d.m.b)
structure tE (mem:List Int) (a:dF) (rs:List<|Int×Int):Prop where
 mi:ml a
 va:a.vars=(mem.length:Int)
 bi:mI a.vars a.b
 st:(rs.length:Int)<=a.steps
 rd:∀p∈rs,0<=p.1/\p.1<(mem.length:Int)/\p.2=kh mem p.1
theorem T9{mem:List Int}{rs:List<|Int×Int}(h:tE mem a rs)(hs:a.steps<=1000000000000):(dX a=(1,0,0)/\∃a',qm a=some a'/\Ip a/\tE mem a' rs/\a'.steps=a.steps+1/\eA a'.fs.reverse+1<=eA a.fs.reverse)\/
 (∃v a',dX a=(2,v,0)/\(0<=v/\v<(mem.length:Int))/\nw a (kh mem v)=some a'/\Jy a/\tE mem a' (rs++[(v,kh mem v)])/\a'.steps=a.steps+1/\eA a'.fs.reverse+1<=eA a.fs.reverse)\/(∃x,dX a=(3,0,x))\/dX a=(4,0,0):=by
 obtain⟨hm,hv,hb,cz,Yt⟩:=h;have h1:=hm.vars;rcases abm hm with e|⟨v,e,b1,b2⟩|e|e
 ·obtain⟨hd,a',q1,q2,q3,q4,_⟩:=MV hm ab e;exact .inl ⟨e,a',q1,hd,⟨q2,q4.trans hv,by rw[q4];exact aeq h1.1 q1 hb,by omega,Yt⟩,q3,acG hm e q1⟩
 ·obtain⟨hd,a',q1,q2,q3,q4,_⟩:=aeh hm ab e<|kh mem v;refine .inr<|.inl ⟨v,a',e,by omega,q1,hd,⟨q2,q4.trans hv,by rw[q4];exact afP q1 hb,by rw[List.length_append];show((rs.length+1:Nat):Int)<=_;omega,fun p hp=>?_⟩,q3,aen hm e q1⟩;rcases List.mem_append.1 hp with hp|hp
  ·exact Yt p hp
  ·rw[List.mem_singleton] at hp;subst hp;exact⟨b1,by show v<_;omega,rfl⟩
 ·exact .inr<|.inr<|.inl e
 ·exact .inr<|.inr<|.inr e
theorem Nu{mem:List Int}:∀(n:Nat) (a:dF) (rs:List<|Int×Int),tE mem a rs->eA a.fs.reverse<n->a.steps+n<=1000000->∃d,rA mem n a rs=some d/\tE mem d.m d.rs/\(d.re=true->d.x=0)/\d.m.steps<=a.steps+n
 |0,_,_,_,h,_=>by omega
 |n+1,a,rs,h,hp,hn=>by
  unfold rA;rcases T9 h ab with⟨e,a',e1,_,ok,e2,e3⟩|⟨v,a',e,hv,e1,_,ok,e2,e3⟩|⟨x,e⟩|e
  ·rw[e,if_pos rfl,e1];obtain⟨d,h1,h2,h3,h4⟩:=Nu n a' rs ok ab ab;exact⟨d,h1,h2,h3,by omega⟩
  ·rw[e,if_neg (by show ¬((2:Int)=1);omega),if_pos rfl];show ∃d,(nw a<|kh mem v).bind _=some d/\_;rw[e1];obtain⟨d,h1,h2,h3,h4⟩:=Nu n a' _ ok ab ab;exact⟨d,h1,h2,h3,by omega⟩
  ·rw[e,if_neg (by show ¬((3:Int)=1);omega),if_neg (by show ¬((3:Int)=2);omega),if_pos rfl];exact⟨_,rfl,h,(fun q=>by cases q),by show a.steps<=_;omega⟩
  ·rw[e,if_neg (by show ¬((4:Int)=1);omega),if_neg (by show ¬((4:Int)=2);omega),if_neg (by show ¬((4:Int)=3);omega)];exact⟨_,rfl,h,fun _=>rfl,by show a.steps<=_;omega⟩
theorem Nv{mem zE:List Int}:∀(n:Nat) (a:dF) (rs:List<|Int×Int) (d:Cg),rA mem n a rs=some d->(∀p∈rs,p∈d.rs)/\((∀p∈d.rs,kh zE p.1=p.2)->rA zE n a rs=some d)
 |0,_,_,_,h=>by cases h
 |n+1,a,rs,d,h=>by
  unfold rA at h ⊢;by_cases c1:(dX a).1=1
  ·rw[if_pos c1] at h ⊢;cases e:qm a with
   |none=>rw[e] at h;cases h
   |some a'=>rw[e] at h;exact Nv n a' rs d h
  rw[if_neg c1] at h ⊢;by_cases c2:(dX a).1=2
  ·rw[if_pos c2] at h ⊢;cases e:nw a (kh mem (dX a).2.1) with
   |none=>rw[e] at h;cases h
   |some a'=>rw[e] at h;obtain⟨i1,i2⟩:=Nv (zE:=zE) n a' _ d h;refine⟨fun p hp=>i1 p<|List.mem_append_left _ hp,fun q=>?_⟩;have:=q _<|i1 _<|List.mem_append_right _<|List.mem_singleton.2 rfl;have this:kh zE (dX a).2.1=kh mem (dX a).2.1:=this;rw[this,e];exact i2 q
  rw[if_neg c2] at h ⊢;by_cases c3:(dX a).1=3
  ·rw[if_pos c3] at h ⊢;injection h with h';subst h'
   exact⟨fun p hp=>hp,fun _=>rfl⟩
  ·rw[if_neg c3] at h ⊢;injection h with h';subst h'
   exact⟨fun p hp=>hp,fun _=>rfl⟩
theorem Wq{mem:List Int}{d:Cg}(h:tE mem d.m d.rs):(qP d).Pairwise (fun a b=>a.1<b.1)/\(∀p∈qP d,0<=p.1/\p.1<(mem.length:Int))/\(qP d).length<=mem.length:=by
 unfold qP;split
 ·exact⟨List.Pairwise.nil,(fun p hp=>by cases hp),Nat.zero_le _⟩
 ·have hb:=h.bi;rw[h.va] at hb;have hk:dU<|allM d.m.b:=Mb List.nodup_nil;have hi:vy _<|allM d.m.b:=VM hb fun p hp=>by cases hp
  refine⟨?_,(fun p hp=>hi p<|(Cq _).subset hp),by rw[Am];exact U8 hb⟩;have h1:=No<|allM d.m.b;have h2:((dP<|allM d.m.b).map (·.1)).Nodup:=(((Cq<|allM d.m.b).map (·.1)).nodup_iff).2 hk;rw[List.Nodup,List.pairwise_map] at h2;exact(h1.and h2).imp fun q=>by have:=q.1;have:=q.2;omega
end Ks
end
section
open Go Go.Rn Go.RowKit Go.Proofs
namespace JY
open ch fT eX iq fO tN iB F1 eO cG dj cQ gj vL gk jX mj nT qC DT zC DA Bj Kq tW DU DV Ks Kp tS xI mN mG vK xH
noncomputable section
abbrev Ew(mem:List Int)(d:Cg):AV:=GF d.x d.re d.rs (qP d) (kH mem<|qP d) d.m.steps
theorem afQ{x st:Int}{b:Bool}{rs ws:List<|Int×Int}{mm:List Int}:(GF x b rs ws mm st).hi=true:=by show([AV.int .i64 x,.bool b,aw aS rs,aw aS ws,aw encI mm,.int .i64 st].all AV.cM&&true)=true;have h1:∀l:List<|Int×Int,(aw aS l).cM=true:=fun l=>aL.2<|cF _;have h2:(aw encI mm).cM=true:=aL.2<|cF _;show((true&&(true&&((aw aS rs).cM&&((aw aS ws).cM&&((aw encI mm).cM&&(true&&true))))))&&true)=true;rw[h1,h1,h2];rfl
theorem Xf{S:Type}{enc:S->AV}(inj:∀a b,enc a=enc b->a=b){f:S->List AV->Option (AV×S)}{a a':S}{rest:List AV}{y:AV}(h:f a rest=some (y,a'))(h1:rest.all AV.hi=true)(h2:y.hi=true):iK (gV enc f) (enc a) rest=some (y,enc a'):=adf ((AI inj).trans (by rw[h];rfl)) h1 h2
theorem aiT{m:dF}(hm:ml m)(hs:0<=m.steps/\m.steps<=1000000000000):uA (eh m) []=some (BD<|dX m):=by refine(Ir uI).trans ?_;unfold Ko;rw[if_pos ⟨rfl,hm.ask hs⟩];rfl
theorem OP{B:aJ}(mc:Mt ll B){mem:List Int}{N o:Nat}(hl:dv encI 1 (.U N o mem.length) mem)(h1:1<=mem.length/\mem.length<=1000):∀(n:Nat) (a:dF) (rs:List<|Int×Int),tE mem a rs->eA a.fs.reverse<n->a.steps+n<=50000->rs.length+n<=50000->
 ∃d,rA mem n a rs=some d/\tE mem d.m d.rs/\(d.re=true->d.x=0)/\lI B (Ew mem d) kx (fy (eh a) (.U N o mem.length) rs)
 |0,_,_,_,h,_,_=>by omega
 |n+1,a,rs,h,hp,hn,hr=>by
  have hN:=hl.len.2.1;have s0:0<=a.steps/\a.steps<=1000000000000:=by have:=h.st;omega
  have hx:=aiT h.mi s0;unfold rA;have fin:∀(d:Cg),d.m=a->d.rs=rs->(d.re=true->d.x=0)->oK eh He (eh a) []=some (aw aS<|dP<|allM a.b)/\lI B (Ew mem d) fF (yx (eh a) (.U N o mem.length) d.x d.re rs<|qP d):=by rintro ⟨m,Yu,re,x⟩ rfl rfl hre;obtain⟨w1,w2,w3⟩:=Wq (d:=⟨m,Yu,re,x⟩) h;have hb:=h.bi;rw[h.va] at hb;refine⟨(Ir uI).trans<|if_pos (by have:=U8 hb;omega),tlD mc (Ir uI)<|eP (eK DB.bM ⟨N,o,mem,_,rfl,hl,⟨h1.1,by omega,by omega⟩,w2,rfl⟩) ?_<|aL.2<|cF _⟩;rw[List.all_cons,hl.hi,List.all_cons,show(aw aS<|qP ⟨m,Yu,re,x⟩).hi=true from aL.2<|cF _];rfl
  rcases T9 h ab with⟨e,a',e1,hd,ok,e2,e3⟩|⟨v,a',e,hv,e1,hd,ok,e2,e3⟩|⟨x,e⟩|e
  ·rw[e,if_pos rfl,e1];rw[e] at hx;obtain⟨d,d1,d2,d3,d4⟩:=OP mc hl h1 n a' rs ok ab ab ab;refine⟨d,d1,d2,d3,ju mc hN ab (an:=0) (xn:=0) hx (Xf uI (f:=Ga) ?_ rfl rfl) d4⟩;unfold Ga;rw[if_pos ⟨rfl,hd⟩,e1];rfl
  ·rw[e,if_neg (by show ¬((2:Int)=1);omega),if_pos rfl];rw[e] at hx;show ∃d,(nw a<|kh mem v).bind _=some d/\_;rw[e1];obtain⟨d,d1,d2,d3,d4⟩:=OP mc hl h1 n a' _ ok ab ab (by rw[List.length_append];show rs.length+1+n<=_;omega);have hg:mem[v.toNat]? =some (kh mem v):=by unfold kh;rw[List.getD_eq_getElem?_getD,List.getElem?_eq_getElem ab];rfl
   have hf:cv FU N (o+v.toNat*1+0) 1=some [.int .i64<|kh mem v]:=hl.len.2.2 v.toNat _ hg;have kT:iK (gV eh zB) (eh a) [.int .i64<|kh mem v]=some (.int .i64 0,eh a'):=by
    refine Xf uI (f:=zB) ?_ rfl rfl;have e0:zB a [.int .i64<|kh mem v]=(nw a<|kh mem v).map fun a'=>(AV.int .i64 0,a'):=by unfold zB;exact if_pos hd
    rw[e0,e1];rfl
   refine⟨d,d1,d2,d3,?_⟩;cases rs with
   |nil=>exact aiP mc hN hx hv hf kT d4
   |cons q r=>exact aiQ mc hN ab hx hv hf kT d4
  ·rw[e,if_neg (by show ¬((3:Int)=1);omega),if_neg (by show ¬((3:Int)=2);omega),if_pos rfl];rw[e] at hx;obtain⟨f1,f2⟩:=fin ⟨a,rs,false,x⟩ rfl rfl (fun q=>by cases q);exact⟨_,rfl,h,(fun q=>by cases q),nZ mc hN ab hx f1 f2⟩
  ·rw[e,if_neg (by show ¬((4:Int)=1);omega),if_neg (by show ¬((4:Int)=2);omega),if_neg (by show ¬((4:Int)=3);omega)];rw[e] at hx;obtain⟨f1,f2⟩:=fin ⟨a,rs,true,0⟩ rfl rfl fun _=>rfl;exact⟨_,rfl,h,fun _=>rfl,Eu mc hN ab hx f2⟩
def Ch(tx:List St)(mem aA:List Int):Option Cg:=match ig 1000 [tD tx] [[]] with
 |some (st,bb)=>rA mem 3000 ⟨(mem.length:Int),aA,Z8,bb,st.reverse,0⟩ []
 |none=>none
def Hh(tx:List St)(mem aA:List Int):AV:=match Ch tx mem aA with
 |some d=>Ew mem d
 |none=>wy 0
def sg(args:List AV)(v:AV):Prop:=∃(tx:List St) (mem aA:List Int) (N o G q:Nat),args=[.U (nm (tx.map aM).flatten) 0 tx.length,.U N o mem.length,.U G q aA.length]/\dv encI 1 (.U N o mem.length) mem/\dv encI 1 (.U G q aA.length) aA/\aA.length<=1000/\((¬(1<=mem.length/\mem.length<=32)/\v=wy 1)\/((1<=mem.length/\mem.length<=32)/\qk 60 tx=true/\ky 60 tx=true/\∃b,tT tx (aA.length:Int) b/\((b=false/\v=wy 4)\/(b=true/\pC 60 tx=true/\lk 6 tx/\v=Hh tx mem aA))))
theorem sg.bM(args:List AV)(v v':AV)(h:sg args v)(h':sg args v'):v=v':=by
 obtain⟨tx,mem,aA,N,o,G,q,rfl,i1,i2,_,h⟩:=h;obtain⟨Yp,zE,Ki,N',o',G',q',e,j1,j2,_,h'⟩:=h';injection e with e1 e;injection e with e2 e;injection e with e3 _
 have e1:tx=Yp:=HW e1;rw[e2] at i1;rw[e3] at i2;have e2:mem=zE:=i1.inj sB j1;have e3:aA=Ki:=i2.inj sB j2;subst e1;subst e2;subst e3;rcases h with⟨a,rfl⟩|⟨a,_,_,b,m,h⟩<;>rcases h' with⟨a',rfl⟩|⟨a',_,_,b',m',h'⟩
 ·rfl
 ·exact absurd a' a
 ·exact absurd a a'
 ·have:=T4 m m';subst this;rcases h with⟨rfl,rfl⟩|⟨rfl,_,_,rfl⟩<;>rcases h' with⟨h1,rfl⟩|⟨h1,_,_,rfl⟩
  ·rfl
  ·cases h1
  ·cases h1
  ·rfl
def Hi:FuncId×KE:=(6,.val<|aP sg)
theorem U9{tx:List St}{mem aA:List Int}(hm:1<=mem.length/\mem.length<=32)(hg:aA.length<=1000)(pL:tT tx (aA.length:Int) true)(wf:lk 6 tx):∃st bb d,ig 1000 [tD tx] [[]]=some (st,bb)/\tE mem ⟨(mem.length:Int),aA,Z8,bb,st.reverse,0⟩ []/\eA (st.reverse).reverse<=2000/\
 Ch tx mem aA=some d/\tE mem d.m d.rs/\(d.re=true->d.x=0)/\d.rs.length<=3000:=by
 obtain⟨st,bb,hs,hmi⟩:=aej (aA:=aA) (vars:=(mem.length:Int)) wf hg ab;have hc:=acH pL;have al7:=aeo wf hc hs;have hb:mI (mem.length:Int) bb:=EU 1000 _ _ _ _ hs fun m hm=>by rw[List.mem_singleton] at hm;subst hm;intro p hp;cases hp
 have ok:tE mem ⟨(mem.length:Int),aA,Z8,bb,st.reverse,0⟩ []:=⟨hmi,rfl,hb,Int.le_refl _,fun p hp=>by cases hp⟩;have eZ:eA (st.reverse).reverse<=2000:=by rw[List.reverse_reverse];omega
 obtain⟨d,d1,d2,d3,d4⟩:=Nu 3000 _ _ ok (by show eA (st.reverse).reverse<3000;omega) (by show(0:Int)+3000<=_;omega);exact⟨st,bb,d,hs,ok,eZ,by unfold Ch;rw[hs];exact d1,d2,d3,by have:=d2.st;have d4:d.m.steps<=(0:Int)+(3000:Nat):=d4;omega⟩
theorem afR(hP:bS pg)(hs:Da pg 60 61){L:bO}(h:aY L):aY<|Hi::L:=by
 refine gP hP h (acD hP<|abf hP<|acv hP<|aeb hP<|aek hP hs<|ael hP<|acE hP dc) Tryd.func6 fun args v e=>?_;obtain⟨tx,mem,aA,N,o,G,q,rfl,i1,i2,hg,h⟩:=fV e;refine⟨aL.1 aW,fun B mc=>?_⟩;rw[←ij];have hi:[AV.U (nm (tx.map aM).flatten) 0 tx.length,.int .i64 (mem.length:Int),.U G q aA.length].all AV.hi=true:=by rw[List.all_cons, ←tg,ri,List.all_cons,List.all_cons,i2.hi];rfl
 rcases h with⟨a,rfl⟩|⟨a,d1,d2,b,m,h⟩
 ·exact Ys mc (.inl rfl)<|Uw (Nr ⟨tx,_,aA,G,q,rfl,i2,hg,.inl ⟨by omega,rfl⟩⟩) hi rfl
 ·rcases h with⟨rfl,rfl⟩|⟨rfl,gc,wf,rfl⟩
  ·exact Ys mc (.inr rfl)<|Uw (Nr ⟨tx,_,aA,G,q,rfl,i2,hg,.inr ⟨by omega,d1,d2,false,m,.inl ⟨rfl,rfl⟩⟩⟩) hi rfl
  ·obtain⟨st,bb,_,e1,ok,hp,_⟩:=U9 a hg m wf;obtain⟨d,k1,_,_,k4⟩:=OP mc i1 ab 3000 _ [] ok (by show eA (st.reverse).reverse<3000;omega) (by show(0:Int)+3000<=_;omega) (by show 0+3000<=_;omega);have e2:Hh tx mem aA=Ew mem d:=by unfold Hh Ch;rw[e1];show(match rA mem 3000 _ [] with|some d=>Ew mem d|none=>wy 0)=_;rw[k1]
   rw[e2];exact Hg mc (adg (Nr ⟨tx,_,aA,G,q,rfl,i2,hg,.inr ⟨by omega,d1,d2,true,m,.inr ⟨rfl,gc,st,bb,e1,rfl⟩⟩⟩) hi) k4
end
end JY
end
section
open Go Go.Rn Go.RowKit Go.Proofs
namespace Ku
open ch
noncomputable section
def u9(args:List AV)(v:AV):Prop:=args=[]/\v= .bool true
theorem u9.bM(args:List AV)(v v':AV)(h:u9 args v)(h':u9 args v'):v=v':=by rw[h.2,h'.2]
def VO:FuncId×KE:=(5,.val<|aP u9)
def isT(r:R AV):Bool:=match r with| .ok (.bool true) _=>true|_=>false
def j0(f:FuncId):Nat:= @Bool.rec (fun _=>Nat) (@Bool.rec (fun _=>Nat) 0 1<|Nat.beq f 59) 1<|Nat.beq f 41
theorem aer:isT (zn pg j0 60 (.fn 5) [] ⟨dG,270,0,[],[]⟩)=true:=by as_aux_lemma=>kernel_rfl
theorem abq(hP:bS pg){L:bO}(h:aY L):aY<|VO::L:=by
 refine aam (j0:=j0) (fun _=>trivial) hP gU rf jR jj h Tryd.func5 (body:=aR pg 5 []) aW aW fun args v e=>?_;obtain⟨rfl,rfl⟩:=fV e;have q:=aer;revert q;cases e:zn pg j0 60 (.fn 5) [] ⟨dG,270,0,[],[]⟩ with
 |bad=>intro q;cases q
 |ok x s1=>
  intro q;refine⟨60,s1,e.trans ?_⟩;cases x with
  |bool b=>cases b with
   |true=>rfl
   |false=>cases q
  |_=>cases q
end
end Ku
end
section
open Go Go.Rn Go.RowKit Go.Proofs
namespace Kv
open ch tW
noncomputable section
def KI:List Item:=[.code<|aR pg 7 [1,1,0,1,0,0],.inLoop<|aR pg 7 [1,1,0,1,0,0],.inBlock 0,.code<|aR pg 7 [1,1,1]]
abbrev Ey:Nat:=max Tryd.f7.ntmps 2
def pd(A C L:Nat)(i:Int):List<|Nat×AV:=[(0,.U A 0 L),(1,.U C 0 L),(5,.int .i64 i)]
def pe(A C L:Nat)(i:Int):AF:=⟨7,aE<|pd A C L i,Ey,KI,[],none⟩
abbrev uB(B:aJ)(b:Bool)(fr:AF)(s:AS):Prop:=au pg B 270 (Fin pg (az Tryd.f7) fun y _=>y= .bool b) fr s
abbrev Yv(A C L:Nat)(i:Int):Prop:=((pd A C L i).map (fun q=>some q.2)=(pd A C L i).map (fun q=>some q.2))/\(ar.map (fun q=>q.2)=ar.map (fun q=>q.2))/\(pe A C L i=pe A C L i/\ah ar 270=ah ar 270)
section
variable {B:aJ} {b:Bool} {A C L:Nat} {i x y x' y':Int}
theorem cI(mc:Mt [] B){t:Tr AV}{K:List Item}(H:uB B b (pe A C L i)<|ah ar 270)(p:Pl){T:Prop}(z:T)(h:T=wp (en []) 900 6 (.fr 7 Ey K t<|ah ar 270) p (az Tryd.f7) (fun y _ _=>y= .bool b) (fun fr s1 _=>fr=pe A C L i/\s1=ah ar 270):=by as_aux_lemma=>kernel_rfl):uB B b ⟨7,t,Ey,K,[],none⟩<|ah ar 270:=wC mc (L:=[]) (C:=fun fr s1 _=>fr=pe A C L i/\s1=ah ar 270) DJ p z h bU
theorem s0(mc:Mt [] B)(H:uB B b (pe A C L 0)<|ah ar 270):uB B b ⟨7,dt [.U A 0 L,.U C 0 L],Ey,(cO 7 []),[],none⟩<|ah ar 270:=cI mc H (.st 4<|.rg<|.go 4<|.fk .no<|.en<|.st 7<|.ls (pd A C L 0) ar 270 .no)<|aT ((L:Int)≠(L:Int)) (fun h=>show False from h rfl) (fun _=>show Yv A C L 0 from⟨rfl,rfl,rfl,rfl⟩)
theorem sN{L':Nat}(mc:Mt [] B)(hn:L≠L'):uB B false ⟨7,dt [.U A 0 L,.U C 0 L'],Ey,(cO 7 []),[],none⟩<|ah ar 270:=wS mc (L:=[]) (R:=fun y _=>y= .bool false) (.st 4<|.rg<|.go 4<|.fk (.en<|.rt 5 .no) .no) (aT ((L:Int)≠(L':Int)) (fun _=>show(AV.bool false)= .bool false from rfl) (fun h=>show False by omega)) bU bU
theorem Yw(x y x' y':Int){P Q:Prop}(h1:allEq [(x,y),(x',y')]=true->P)(h2:allEq [(x,y),(x',y')]=false->Q):(allEq [(x,y),(x',y')]=true->P)/\(allEq [(x,y),(x',y')]=false->Q):=⟨h1,h2⟩
theorem ahs{x x':Int}(h:allEq [(x,x),(x',x')]=false):False:=by simp[allEq] at h
theorem afS{x y x' y':Int}(h:allEq [(x,y),(x',y')]=true):x=y/\x'=y':=by simpa[allEq] using h
theorem stp(mc:Mt [] B)(hA:top<=A)(hC:top<=C)(hL:L<=1000000)(h0:0<=i)(h1:i<(L:Int))(hx:cv FU A (0+i.toNat*2+0) 2=some [.int .i64 x,.int .i64 x'])(hy:cv FU C (0+i.toNat*2+0) 2=some [.int .i64 x,.int .i64 x'])(H:uB B b (pe A C L<|i+1)<|ah ar 270):uB B b (pe A C L i)<|ah ar 270:=cI mc H (.st 2<|.rg<|.go 3<|.fk (.en<|.st 5<|.rg<|.go 2<|.eB<|.eC [.int .i64 x,.int .i64 x']<|.go 2<|.eB<|.eC [.int .i64 x,.int .i64 x']<|.ef (.en<|.st 3<|.rg<|.go 1<|.vl (i6<|i+1)<|.go 1<|.en<|.st 1<|.ls (pd A C L<|i+1) ar 270 .no) .no) .no)<|aT (i<(L:Int)) (fun _=>And.intro (show(0:Int)<=i from h0)<|ai (show i<(L:Int) from h1)<|ai hA<|ai hx<|ai (show(0:Int)<=i from h0)<|ai (show i<(L:Int) from h1)<|ai hC<|ai hy<|Yw x x x' x' (fun _=>And.intro (congrArg (AV.int .i64) (show IntKind.wrap .i64 (i+1)=i+1 from EA ab)) (show Yv A C L (i+1) from⟨rfl,rfl,rfl,rfl⟩)) (fun h=>show False from ahs h)) (fun h=>show False from h h1)
theorem stN(mc:Mt [] B)(hA:top<=A)(hC:top<=C)(h0:0<=i)(h1:i<(L:Int))(hx:cv FU A (0+i.toNat*2+0) 2=some [.int .i64 x,.int .i64 x'])(hy:cv FU C (0+i.toNat*2+0) 2=some [.int .i64 y,.int .i64 y'])(cf:¬(x=y/\x'=y')):uB B false (pe A C L i)<|ah ar 270:=wS mc (L:=[]) (R:=fun y _=>y= .bool false) (.st 2<|.rg<|.go 3<|.fk (.en<|.st 5<|.rg<|.go 2<|.eB<|.eC [.int .i64 x,.int .i64 x']<|.go 2<|.eB<|.eC [.int .i64 y,.int .i64 y']<|.ef .no<|.en<|.rt 4 .no) .no) (aT (i<(L:Int)) (fun _=>And.intro (show(0:Int)<=i from h0)<|ai (show i<(L:Int) from h1)<|ai hA<|ai hx<|ai (show(0:Int)<=i from h0)<|ai (show i<(L:Int) from h1)<|ai hC<|ai hy<|Yw x y x' y' (fun h=>show False from cf<|afS h) (fun _=>show(AV.bool false)= .bool false from rfl)) (fun h=>show False from h h1)) bU bU
theorem sE(mc:Mt [] B)(h1:(L:Int)<=i):uB B true (pe A C L i)<|ah ar 270:=wS mc (L:=[]) (R:=fun y _=>y= .bool true) (.st 2<|.rg<|.go 3<|.fk .no<|.en<|.rt 5 .no) (aT (i<(L:Int)) (fun h=>show False by omega) (fun _=>show(AV.bool true)= .bool true from rfl)) bU bU
end
def vd(args:List AV)(v:AV):Prop:=∃l m:List<|Int×Int,args=[aw aS l,aw aS m]/\l.length<=1000000/\v= .bool (decide<|l=m)
theorem Ua{l m:List<|Int×Int}(h:aw aS l=aw aS m):l=m:=by
 have e:dv aS 2 (aw aS l) m:=by rw[h];exact dv.aw rG m
 exact dv.inj Ti (dv.aw rG l) e
theorem vd.bM(args:List AV)(v v':AV)(h:vd args v)(h':vd args v'):v=v':=by
 obtain⟨l,m,rfl,_,rfl⟩:=h;obtain⟨l',m',e,_,rfl⟩:=h';injection e with e1 e;injection e with e2 _
 rw[Ua e1,Ua e2]
def VP:FuncId×KE:=(7,.val<|aP vd)
theorem abr(hP:bS pg){L:bO}(h:aY L):aY<|VP::L:=by
 refine gP hP h dc Tryd.func7 fun args v e=>?_;obtain⟨l,m,rfl,hl,rfl⟩:=fV e;refine⟨aL.1 aW,fun B mc=>?_⟩;rw[←ij];by_cases hn:l.length=m.length
 ·have key:∀(n i:Nat),l.length - i=n->i<=l.length->l.take i=m.take i->uB B (decide<|l=m) (pe (nm (l.map aS).flatten) (nm (m.map aS).flatten) l.length i) (ah ar 270):=by
   intro n;induction n with
   |zero=>
    intro i h1 h2 h3;have:l=m:=by rw[List.take_of_length_le ab,List.take_of_length_le ab] at h3;exact h3
    rw[decide_eq_true this];exact sE mc ab
   |succ n ih=>
    intro i h1 h2 h3;have hi:i<l.length:=by omega
    have hx:=sS rG (List.getElem?_eq_getElem hi) 0 2 ab;have hy:=sS rG (List.getElem?_eq_getElem (show i<m.length by omega)) 0 2 ab;have ei:0+(i:Int).toNat*2+0=i*2+0:=by omega
    rw[←ei] at hx hy;by_cases q:l[i]=m[i]'ab
    ·rw[←q] at hy;have:=ih (i+1) ab ab (by rw[List.take_add_one,List.take_add_one,h3,List.getElem?_eq_getElem hi,List.getElem?_eq_getElem (show i<m.length by omega),q]);rw[show(((i+1:Nat)):Int)=(i:Int)+1 by omega] at this;exact stp mc (cF _) (cF _) hl ab ab hx hy this
    ·have:l≠m:=fun e=>q (by subst e;rfl);rw[decide_eq_false this];exact stN mc (cF _) (cF _) ab ab hx hy fun e=>q<|Prod.ext e.1 e.2
  have:=s0 mc<|key _ 0 rfl (Nat.zero_le _) rfl;show uB B (decide<|l=m) ⟨7,dt [.U (nm (l.map aS).flatten) 0 l.length,.U (nm (m.map aS).flatten) 0 m.length],Ey,(cO 7 []),[],none⟩<|ah ar 270;rw[←hn];exact this
 ·have:l≠m:=fun e=>hn (by rw[e]);rw[decide_eq_false this];exact sN mc hn
end
end Kv
end
section
open Go Go.Rn Go.RowKit Go.Proofs
namespace P3
open ch eO fT lV DW Gb tW DV Ks Kp JY Ku Kv
variable {wl:Nat} {t:Tr AV} {s:AS} {r:Nat->Nat} {fz:kR} {c:Int} {T:Prop} {K:List Item}
noncomputable section
abbrev LJ:bO:=[vx 22,VO,Hi,VP]
abbrev wz:Nat:=max Tryd.f3.ntmps 4
abbrev jv(B:aJ)(fr:AF)(s:AS):Prop:=au pg B 270 (Fin pg (az Tryd.f3) fun y _=>y= .bool true) fr s
def Rc(X xl N L O oo ol G go gl:Nat)(e:Int):List<|Nat×AV:=[(0,.U X 0 xl),(1,.U N 0 L),(2,.U O oo ol),(3,.U G go gl),(9,.ptr<|some (270,0)),(10,.int .i64 e)]
def my(cs:List AV):List<|Nat×Option ae:=ar++[(270,some<|.cells 6 (Tr.fill cs 0 .nil) [])]
def Hj(X xl N L O oo ol G go gl:Nat)(e:Int):AF:=⟨3,aE<|Rc X xl N L O oo ol G go gl e,wz,[.code<|aR pg 3 [1,1,1,0,0],.code<|aR pg 3 [1,1,1,0,1],.code<|aR pg 3 [1,1,1,1]],[],none⟩
def Hk(X xl O oo ol G go gl wl:Nat)(i:Int):List<|Nat×AV:=[(0,.U X 0 xl),(2,.U O oo ol),(3,.U G go gl),(9,.ptr<|some (270,0)),(11,.slice (some (272,0)) wl<|.aq wl 1),(12,.int .i64 i)]
def gS(cs:List AV)(w:List Int):List<|Nat×Option ae:=ar++[(270,some<|.cells 6 (Tr.fill cs 0 .nil) []),(272,some<|aC encI w)]
def Ac(X xl O oo ol G go gl wl:Nat)(i:Int):AF:=⟨3,aE<|Hk X xl O oo ol G go gl wl i,wz,[.code<|aR pg 3 [1,1,1,1,1,0,1,0,0],.inLoop<|aR pg 3 [1,1,1,1,1,0,1,0,0],.inBlock 0,.code<|aR pg 3 [1,1,1,1,1,1]],[],none⟩
def Ci(X xl G go gl wl:Nat)(i:Int):List<|Nat×AV:=[(0,.U X 0 xl),(3,.U G go gl),(9,.ptr<|some (270,0)),(11,.slice (some (272,0)) wl<|.aq wl 1),(13,.int .i64 i)]
def wA(X xl G go gl wl:Nat)(i:Int):AF:=⟨3,aE<|Ci X xl G go gl wl i,wz,[.code<|aR pg 3 [1,1,1,1,1,1,0,1,0,0],.inLoop<|aR pg 3 [1,1,1,1,1,1,0,1,0,0],.inBlock 2,.code<|aR pg 3 [1,1,1,1,1,1,1]],[],none⟩
def Ln(X xl G go gl:Nat)(w:List Int):List<|Nat×AV:=[(0,.U X 0 xl),(3,.U G go gl),(9,.ptr<|some (270,0)),(11,.slice (some (272,0)) w.length<|.aq w.length 1)]
def iy(X xl G go gl:Nat)(w:List Int):List<|Nat×AV:=[(0,.U X 0 xl),(3,.U G go gl),(9,.ptr<|some (270,0)),(11,aw encI w)]
def kx(X xl G go gl:Nat)(w:List Int):AF:=⟨3,aE<|iy X xl G go gl w,wz,[.code<|aR pg 3 [1,1,1,1,1,1,1,0],.code<|aR pg 3 [1,1,1,1,1,1,1,1]],[],none⟩
def eg(x:Int)(b:Bool)(rs ws:List<|Int×Int)(mm:List Int)(st:Int):List AV:=[.int .i64 x,.bool b,aw aS rs,aw aS ws,aw encI mm,.int .i64 st]
abbrev Ls(l:List<|Nat×AV)(o:List<|Nat×Option ae)(fr:AF)(s:AS):Prop:=(l.map (fun q=>some q.2)=l.map (fun q=>some q.2))/\(o.map (fun q=>q.2)=o.map (fun q=>q.2))/\(fr=fr/\s=s)
section
variable {B:aJ} {N O oo ol L X xl G go gl:Nat} {cs:List AV} {m e x ak i st:Int} {b:Bool} {rs ws:List<|Int×Int} {mem mm Lo w:List Int}
theorem cJ(mc:Mt LJ B){F:AF}{S:AS}(H:jv B F S)(p:Pl)(z:T)(h:T=wp (en LJ) 900 6 (.fr 3 wz K t s) p (az Tryd.f3) (fun y _ _=>y= .bool true) (fun fr s1 _=>fr=F/\s1=S):=by as_aux_lemma=>kernel_rfl)(h0:Nat.ble 270 s.nx=true:=by as_aux_lemma=>kernel_rfl):jv B ⟨3,t,wz,K,[],none⟩ s:=wC mc (C:=fun fr s1 _=>fr=F/\s1=S) DJ p z h h0
theorem eJ{L0:bO}(mc:Mt L0 B)(p:Pl)(z:T)(h:T=wp (en L0) 900 6 (.fr 3 wz K t s) p (az Tryd.f3) (fun y _ _=>y= .bool true) (fun _ _ _=>False):=by as_aux_lemma=>kernel_rfl)(h0:Nat.ble 270 s.nx=true:=by as_aux_lemma=>kernel_rfl):jv B ⟨3,t,wz,K,[],none⟩ s:=wS mc (R:=fun y _=>y= .bool true) p z h h0
abbrev Yx(X xl N L O oo ol G go gl:Nat):List AV:=[.U X 0 xl,.U N 0 L,.U O oo ol,.U G go gl]
abbrev Lp(X xl N L O oo ol G go gl:Nat):AF:=⟨3,dt<|Yx X xl N L O oo ol G go gl,wz,(cO 3 []),[],none⟩
theorem s0L(mc:Mt LJ B)(kM:ba (aP<|nG 22) [.U X 0 xl,.int .i64<|.ofNat 0]=some (.tuple [.int .i64 m,.bool true]))(kA:ba (aP u9) []=some (.bool true)):jv B (Lp X xl N L O oo ol G go gl)<|ah ar 270:=eJ mc (.st 4<|.rg<|.go 1<|.il<|.st 3<|.rg<|.go 1<|.kn (.tuple [.int .i64 m,.bool true])<|.go 5<|.en<|.rt 3<|.go 14<|.en<|.st 2<|.rg<|.kn (.bool true)<|.go 1<|.en<|.rt 1 .no)<|ai kM<|ai kA (show AV.bool true= .bool true from rfl)
theorem s0B(mc:Mt LJ B)(hb:L>32\/gl>100)(kM:ba (aP<|nG 22) [.U X 0 xl,.int .i64<|.ofNat 0]=some (.tuple [.int .i64 m,.bool false]))(kA:ba (aP u9) []=some (.bool true)):jv B (Lp X xl N L O oo ol G go gl)<|ah ar 270:=eJ mc (.st 4<|.rg<|.go 1<|.il<|.st 3<|.rg<|.go 1<|.kn (.tuple [.int .i64 m,.bool false])<|.go 5<|.en<|.rt 3<|.go 3<|.fk (.go 10<|.en<|.st 2<|.rg<|.kn (.bool true)<|.go 1<|.en<|.rt 1 .no)<|.go 4<|.fk (.go 5<|.en<|.st 2<|.rg<|.kn (.bool true)<|.go 1<|.en<|.rt 1 .no) .no)<|ai kM<|aT ((L:Int)>32) (fun _=>And.intro kA (show AV.bool true= .bool true from rfl)) fun h=>aT ((gl:Int)>100) (fun _=>And.intro kA (show AV.bool true= .bool true from rfl)) (fun _=>show False by omega)
theorem Hg(mc:Mt LJ B)(hb:L<=32/\gl<=100)(kM:ba (aP<|nG 22) [.U X 0 xl,.int .i64<|.ofNat 0]=some (.tuple [.int .i64 m,.bool false]))(kA:ba (aP u9) []=some (.bool true))(kD:ba (aP sg) [.U X 0 xl,.U N 0 L,.U G go gl]=some (.tuple [.agg cs,.int .i64 e]))(H:jv B (Hj X xl N L O oo ol G go gl e)<|ah (my cs) 271)(h:(ba (aP<|nG 22) [.U X 0 xl,.int .i64<|.ofNat 0]=some (.tuple [.int .i64 m,.bool false])/\(((L:Int)>32->False)/\(¬(L:Int)>32->(((gl:Int)>100->False)/\(¬(gl:Int)>100->ba (aP u9) []=some (.bool true)/\ba (aP sg) [.U X 0 xl,.U N 0 L,.U G go gl]=some (.tuple [.agg cs,.int .i64 e])/\Ls (Rc X xl N L O oo ol G go gl e) (my cs) (Hj X xl N L O oo ol G go gl e) (ah (my cs) 271))))))=wp (en LJ) 900 6 (.fr 3 wz (cO 3 []) (dt<|Yx X xl N L O oo ol G go gl)<|ah ar 270) (.st 4<|.rg<|.go 1<|.il<|.st 3<|.rg<|.go 1<|.kn (.tuple [.int .i64 m,.bool false])<|.go 5<|.en<|.rt 3<|.go 3<|.fk .no<|.go 4<|.fk .no<|.go 2<|.kn (.bool true)<|.go 2<|.en<|.st 3<|.rg<|.go 3<|.kn (.tuple [.agg cs,.int .i64 e])<|.go 6<|.en<|.st 2<|.ls (Rc X xl N L O oo ol G go gl e) (my cs) 271 .no) (az Tryd.f3) (fun y _ _=>y= .bool true) (fun fr s1 _=>fr=Hj X xl N L O oo ol G go gl e/\s1=ah (my cs) 271):=by as_aux_lemma=>kernel_rfl):jv B (Lp X xl N L O oo ol G go gl)<|ah ar 270:=cJ mc H _ ⟨kM,(fun h=>by omega),fun _=>⟨(fun h=>by omega),fun _=>⟨kA,kD,rfl,rfl,rfl,rfl⟩⟩⟩ h
theorem okJ(mc:Mt LJ B)(hm:1<=mem.length/\mem.length<=1000)(hf:top<=N/\cv FU N 0 (mem.length*1)=some (mem.map encI).flatten/\mem.length=mem.length)(H:jv B (Ac X xl O oo ol G go gl ([]++mem).length 0)<|ah (gS (eg x b rs ws mm st)<|[]++mem) 273):jv B (Hj X xl N mem.length O oo ol G go gl 0)<|ah (my<|eg x b rs ws mm st) 271:=cJ mc H (.st 4<|.rg<|.go 2<|.al Int encI [] mem<|.go 1<|.en<|.st 5<|.ls (Hk X xl O oo ol G go gl ([]++mem).length 0) (gS (eg x b rs ws mm st)<|[]++mem) 273 .no)<|G5 encI [] mem (K:=1) (nj:=8) hf (fun x=>⟨rfl,rfl⟩) (by simp only[List.length_nil];unfold room;omega) (by simp only[List.length_nil];unfold top;omega) (show Ls (Hk X xl O oo ol G go gl ([]++mem).length 0) (gS (eg x b rs ws mm st)<|[]++mem) (Ac X xl O oo ol G go gl ([]++mem).length 0) (ah (gS (eg x b rs ws mm st)<|[]++mem) 273) from⟨rfl,rfl,rfl,rfl⟩)
theorem Xg(mc:Mt [] B)(he:e=1\/e=4):jv B (Hj X xl N L O oo ol G go gl e)<|ah (my [z0,.bool false,nl,nl,nl,z0]) 271:=by
 rcases he with rfl|rfl
 ·exact eJ mc (.rt 5 .no) (show AV.bool true= .bool true from rfl)
 ·exact eJ mc (.rt 5 .no) (show AV.bool true= .bool true from rfl)
variable {z:Int}
abbrev nP(l:List<|Int×Int):Nat:=nm (l.map aS).flatten
theorem c1(mc:Mt LJ B)(hw:w.length=wl/\wl<=1000)(hi:0<=i/\i<(wl:Int))(hj:i<(ol:Int))(hO:top<=O)(hx:cv FU O (oo+i.toNat*1+0) 1=some [.int .i64 x])(hc:w[i.toNat]? =some c)(H:jv B (Ac X xl O oo ol G go gl wl<|i+1)<|ah (gS (eg z b rs ws mm st)<|w.set i.toNat x) 273):jv B (Ac X xl O oo ol G go gl wl i)<|ah (gS (eg z b rs ws mm st) w) 273:=cJ mc H (.st 2<|.rg<|.go 3<|.fk (.go 4<|.fk (.go 1<|.en<|.st 4<|.rg<|.go 4<|.eB<|.eC [.int .i64 x]<|.ix<|.mr (aC encI<|w.set i.toNat x)<|.en<|.st 1<|.rg<|.go 1<|.vl (i6<|i+1)<|.go 1<|.en<|.st 1<|.ls (Hk X xl O oo ol G go gl wl<|i+1) (gS (eg z b rs ws mm st)<|w.set i.toNat x) 273 .no) .no) .no)<|aT (i<(wl:Int)) (fun _=>(aT (i<(ol:Int)) (fun _=>(ai (show(0:Int)<=i by omega)<|ai (show i<(ol:Int) by omega)<|ai hO<|ai hx<|ai (show(0:Int)<=i by omega)<|ai (show i<(wl:Int) by omega)<|ai (pv (enc:=encI) (K:=1) (fun _=>rfl) dZ hc (c':=x) (r:=[.int .i64 x]) 0 rfl rfl rfl)<|ai (congrArg (AV.int .i64) (show IntKind.wrap .i64 (i+1)=i+1 from EA ab)) (show Ls (Hk X xl O oo ol G go gl wl<|i+1) (gS (eg z b rs ws mm st)<|w.set i.toNat x) (Ac X xl O oo ol G go gl wl<|i+1) (ah (gS (eg z b rs ws mm st)<|w.set i.toNat x) 273) from⟨rfl,rfl,rfl,rfl⟩))) (fun h=>show False by omega))) (fun h=>show False by omega)
theorem e1(mc:Mt LJ B)(hi:(wl:Int)<=i)(H:jv B (wA X xl G go gl wl 0)<|ah (gS (eg z b rs ws mm st) w) 273):jv B (Ac X xl O oo ol G go gl wl i)<|ah (gS (eg z b rs ws mm st) w) 273:=cJ mc H (.st 2<|.rg<|.go 3<|.fk .no<|.go 6<|.en<|.st 7<|.ls (Ci X xl G go gl wl 0) (gS (eg z b rs ws mm st) w) 273 .no)<|aT (i<(wl:Int)) (fun h=>show False by omega) fun _=>(show Ls (Ci X xl G go gl wl 0) (gS (eg z b rs ws mm st) w) (wA X xl G go gl wl 0) (ah (gS (eg z b rs ws mm st) w) 273) from⟨rfl,rfl,rfl,rfl⟩)
theorem e2(mc:Mt LJ B)(hi:i<(wl:Int))(hj:(ol:Int)<=i)(H:jv B (wA X xl G go gl wl 0)<|ah (gS (eg z b rs ws mm st) w) 273):jv B (Ac X xl O oo ol G go gl wl i)<|ah (gS (eg z b rs ws mm st) w) 273:=cJ mc H (.st 2<|.rg<|.go 3<|.fk (.go 4<|.fk .no<|.go 1<|.en<|.st 7<|.ls (Ci X xl G go gl wl 0) (gS (eg z b rs ws mm st) w) 273 .no) .no)<|aT (i<(wl:Int)) (fun _=>(aT (i<(ol:Int)) (fun h=>show False by omega) fun _=>(show Ls (Ci X xl G go gl wl 0) (gS (eg z b rs ws mm st) w) (wA X xl G go gl wl 0) (ah (gS (eg z b rs ws mm st) w) 273) from⟨rfl,rfl,rfl,rfl⟩))) (fun h=>show False by omega)
theorem d2(mc:Mt LJ B)(hw:w.length=wl/\wl<=1000)(hi:0<=i/\i<(rs.length:Int))(hl:rs.length<=100000)(hZ:cv FU (nP rs) (0+i.toNat*2+0) 1=some [.int .i64 ak])(nW:cv FU (nP rs) (0+i.toNat*2+1) 1=some [.int .i64 x])(ha:0<=ak/\ak<(wl:Int))(hc:w[ak.toNat]? =some c)(H:jv B (wA X xl G go gl wl<|i+1)<|ah (gS (eg z b rs ws mm st)<|w.set ak.toNat x) 273):jv B (wA X xl G go gl wl i)<|ah (gS (eg z b rs ws mm st) w) 273:=cJ mc H (.st 2<|.rg<|.go 4<|.fk (.en<|.st 6<|.rg<|.go 3<|.eB<|.go 1<|.eC [.int .i64 ak]<|.fk .no<|.go 4<|.eB<|.go 1<|.eC [.int .i64 ak]<|.go 2<|.fk .no<|.go 1<|.en<|.st 2<|.rg<|.go 4<|.eB<|.go 1<|.eC [.int .i64 ak]<|.go 3<|.eB<|.go 1<|.eC [.int .i64 x]<|.ix<|.mr (aC encI<|w.set ak.toNat x)<|.en<|.st 1<|.rg<|.go 1<|.vl (i6<|i+1)<|.go 1<|.en<|.st 1<|.ls (Ci X xl G go gl wl<|i+1) (gS (eg z b rs ws mm st)<|w.set ak.toNat x) 273 .no) .no)<|aT (i<(rs.length:Int)) (fun _=>(ai (show(0:Int)<=i by omega)<|ai (show i<(rs.length:Int) by omega)<|ai (cF (rs.map aS).flatten)<|ai hZ<|aT (ak<0) (fun h=>show False by omega) fun _=>(ai (show(0:Int)<=i by omega)<|ai (show i<(rs.length:Int) by omega)<|ai (cF (rs.map aS).flatten)<|ai hZ<|aT (ak>=(wl:Int)) (fun h=>show False by omega) fun _=>(ai (show(0:Int)<=i by omega)<|ai (show i<(rs.length:Int) by omega)<|ai (cF (rs.map aS).flatten)<|ai hZ<|ai (show(0:Int)<=i by omega)<|ai (show i<(rs.length:Int) by omega)<|ai (cF (rs.map aS).flatten)<|ai nW<|ai (show(0:Int)<=ak by omega)<|ai (show ak<(wl:Int) by omega)<|ai (pv (enc:=encI) (K:=1) (fun _=>rfl) dZ hc (c':=x) (r:=[.int .i64 x]) 0 rfl rfl rfl)<|ai (congrArg (AV.int .i64) (show IntKind.wrap .i64 (i+1)=i+1 from EA ab)) (show Ls (Ci X xl G go gl wl<|i+1) (gS (eg z b rs ws mm st)<|w.set ak.toNat x) (wA X xl G go gl wl<|i+1) (ah (gS (eg z b rs ws mm st)<|w.set ak.toNat x) 273) from⟨rfl,rfl,rfl,rfl⟩))))) (fun h=>show False by omega)
theorem afT(ht:∀k,top<=k->r k=k):kK fz r (eg x b rs ws mm st)<|eg x b rs ws mm st:=⟨(bg.int _ _).z,(bg.bool _).z,IE ht,IE ht,IE ht,(bg.int _ _).z,trivial⟩
theorem aes(hr:∀k,k<271->r k=k)(ht:∀k,top<=k->r k=k):∀p∈my (eg x b rs ws mm st),p.1<271/\∀y,p.2=some y->y.jP=true/\fj fz r y y:=fun p hp=>by
 unfold my at hp;rcases List.mem_append.1 hp with hp|hp
 ·obtain⟨a,b⟩:=Dy (fz:=fz) (fun k hk=>hr k ab) p hp;exact⟨by omega,b⟩
 ·rw[List.mem_singleton] at hp;subst hp;refine⟨by show 270<271;omega,fun y hy=>?_⟩;cases hy;exact⟨rfl,fj.cells (l:=eg x b rs ws mm st) (m:=eg x b rs ws mm st) (by show 6<=top;unfold top;omega) (afT ht) rfl⟩
theorem afU:gS cs w=my cs++[(272,some<|aC encI w)]:=by unfold gS my;rw[List.append_assoc];rfl
theorem x1(mc:Mt LJ B)(hX:top<=X)(hG:top<=G)(hw:w.length<=1000)(hi:(rs.length:Int)<=i)(H:jv B (kx X xl G go gl w)<|ah (my<|eg z b rs ws mm st) 271):jv B (wA X xl G go gl w.length i)<|ah (gS (eg z b rs ws mm st) w) 273:=
 cJ mc H (.st 2<|.rg<|.go 4<|.fk .no<|.en<|.st 3<|.rn (Ln X xl G go gl w) (gS (eg z b rs ws mm st) w) (iy X xl G go gl w) (my<|eg z b rs ws mm st) 273 271 .no)
  (aT (i<(rs.length:Int)) (fun h=>show False by omega) (fun _=>show((Ln X xl G go gl w).map (fun q=>some q.2)=(Ln X xl G go gl w).map (fun q=>some q.2))/\((gS (eg z b rs ws mm st) w).map (fun q=>q.2)=(gS (eg z b rs ws mm st) w).map (fun q=>q.2))/\hJ FU 270 273 (Ln X xl G go gl w) (gS (eg z b rs ws mm st) w) (iy X xl G go gl w) (my<|eg z b rs ws mm st) 271/\(kx X xl G go gl w=kx X xl G go gl w/\ah (my<|eg z b rs ws mm st) 271=ah (my<|eg z b rs ws mm st) 271) from
   ⟨rfl,rfl,JW (fz:=[(272,nm (w.map encI).flatten,(w.map encI).flatten)]) ab ab dZ (fun r hr ht p hp=>by
    simp only[iy,List.mem_cons,List.not_mem_nil,or_false] at hp;rcases hp with rfl|rfl|rfl|rfl
    ·exact⟨by show 0<top;unfold top;omega,_,mi 0,(bg.U (ht _ hX) ht).z⟩
    ·exact⟨by show 3<top;unfold top;omega,_,mi 1,(bg.U (ht _ hG) ht).z⟩
    ·exact⟨by show 9<top;unfold top;omega,_,mi 2,(bg.ptr<|hr 270 ab).z⟩
    ·exact⟨by show 11<top;unfold top;omega,_,mi 3,Fi (List.mem_singleton.2 rfl) ht rfl⟩) (fun r hr ht p hp=>by
    obtain⟨q1,q2⟩:=aes (fz:=[(272,nm (w.map encI).flatten,(w.map encI).flatten)]) hr ht p hp;refine⟨q1,fun y hy=>?_⟩;obtain⟨c,d⟩:=q2 y hy;refine⟨c,y,?_,fK.refl _,d⟩;rw[afU];exact List.mem_append_left _ (by rw[←hy];exact hp)) (fun p hp=>by
    rw[List.mem_singleton] at hp;subst hp;exact⟨by show 271<=272;omega,Fj eI dZ 272 dZ<|List.mem_append_right _<|List.mem_cons_of_mem _ List.mem_cons_self⟩),rfl,rfl⟩))
theorem jM(mc:Mt LJ B)(kD:ba (aP sg) [.U X 0 xl,aw encI w,.U G go gl]=some (.tuple [.agg<|eg z false rs ws Lo st,.int .i64 0]))(kP:ba (aP vd) [aw aS rs,aw aS rs]=some (.bool true))(kQ:ba (aP vd) [aw aS ws,aw aS ws]=some (.bool true)):jv B (kx X xl G go gl w)<|ah (my<|eg z false rs ws mm st) 271:=eJ mc (.rg<|.go 3<|.kn (.tuple [.agg<|eg z false rs ws Lo st,.int .i64 0])<|.go 6<|.en<|.st 1<|.rg<|.go 7<|.fk (.go 13<|.fk (.go 6<|.kn (.bool true)<|.go 6<|.kn (.bool true)<|.go 2<|.en<|.rt 1 .no) .no) .no)<|ai kD<|aT (z=z) (fun _=>(aT (st=st) (fun _=>(ai kP<|ai kQ (show AV.bool true= .bool true from rfl))) (fun h=>show False from h rfl))) (fun h=>show False from h rfl)
theorem enT(mc:Mt LJ B)(kD:ba (aP sg) [.U X 0 xl,aw encI w,.U G go gl]=some (.tuple [.agg<|eg z true rs ws Lo st,.int .i64 0]))(kP:ba (aP vd) [aw aS rs,aw aS rs]=some (.bool true))(kQ:ba (aP vd) [aw aS ws,aw aS ws]=some (.bool true)):jv B (kx X xl G go gl w)<|ah (my<|eg z true rs ws mm st) 271:=eJ mc (.rg<|.go 3<|.kn (.tuple [.agg<|eg z true rs ws Lo st,.int .i64 0])<|.go 6<|.en<|.st 1<|.rg<|.go 7<|.fk (.go 13<|.fk (.go 6<|.kn (.bool true)<|.go 6<|.kn (.bool true)<|.go 2<|.en<|.rt 1 .no) .no) .no)<|ai kD<|aT (z=z) (fun _=>(aT (st=st) (fun _=>(ai kP<|ai kQ (show AV.bool true= .bool true from rfl))) (fun h=>show False from h rfl))) (fun h=>show False from h rfl)
end
end
end P3
end
section
open Go Go.Rn Go.RowKit Go.Proofs
namespace Ws
open ch fT eX iq fO tN iB F1 eO cG dj cQ gj vL gk jX mj nT qC DT zC DA Bj Kq tW DU DV Ks Kp JY tS xI mN mG vK xH DW Gb JX Ku Kv P3
variable {p:Int×Int} {i:Nat}
section
variable {B:aJ} {mem other mm w0:List Int} {z st:Int} {b:Bool} {rs ws:List<|Int×Int} {X xl G go gl:Nat}
noncomputable abbrev nI(l:List Int):Nat:=nm (l.map encI).flatten
theorem aht{l:List<|Int×Int}(h:l[i]? =some p){k:Int}(hk:k.toNat=i):cv FU (nP l) (0+k.toNat*2+0) 1=some [.int .i64 p.1]/\cv FU (nP l) (0+k.toNat*2+1) 1=some [.int .i64 p.2]:=by
 have e:0+k.toNat*2=i*2:=by omega
 rw[e];exact⟨sS tW.rG h 0 1 ab,sS tW.rG h 1 1 ab⟩
def qQ(mem other:List Int):Nat->List Int
 |0=>mem
 |i+1=>(qQ mem other i).set i<|other.getD i 0
theorem FO:∀i,(qQ mem other i).length=mem.length
 |0=>rfl
 |i+1=>by rw[qQ,List.length_set,FO i]
theorem ahu(mc:Mt LJ B)(hl:mem.length<=1000)(E:∀i,jv B (wA X xl G go gl mem.length 0)<|ah (gS (eg z b rs ws mm st)<|qQ mem other i) 273):
 ∀(n i:Nat),mem.length - i=n->jv B (Ac X xl (nI other) 0 other.length G go gl mem.length i) (ah (gS (eg z b rs ws mm st)<|qQ mem other i) 273):=by
 intro n;induction n with
 |zero=>exact fun i h=>e1 mc ab<|E i
 |succ n ih=>
  intro i h;have hi:i<mem.length:=by omega
  by_cases hj:i<other.length
  ·have hp:=List.getElem?_eq_getElem hj;have hx:cv FU (nI other) (0+(i:Int).toNat*1+0) 1=some [.int .i64<|other.getD i 0]:=by have:=sS eI hp 0 1 ab;rw[show 0+(i:Int).toNat*1+0=i*1+0 by omega,List.getD_eq_getElem?_getD,hp];exact this
   have hc:(qQ mem other i)[(i:Int).toNat]? =some ((qQ mem other i)[i]'(by rw[FO];exact hi)):=List.getElem?_eq_getElem (by rw[FO];exact hi);have:=ih (i+1) ab;rw[show(((i+1:Nat)):Int)=(i:Int)+1 by omega] at this;exact c1 mc ⟨FO i,hl⟩ ab ab (cF _) hx hc this
  ·exact e2 mc ab ab<|E i
theorem aet{l:List Int}(h:rs[i]? =some p):kH l (rs.take<|i+1)=(kH l<|rs.take i).set p.1.toNat p.2:=by rw[List.take_add_one,h];unfold kH;rw[List.foldl_append];rfl
theorem ahv(mc:Mt LJ B)(hX:top<=X)(hG:top<=G)(hl:w0.length<=1000)(hr:∀p∈rs,0<=p.1/\p.1<(w0.length:Int))(hs:rs.length<=100000)(E:jv B (kx X xl G go gl<|kH w0 rs)<|ah (my<|eg z b rs ws mm st) 271):
 ∀(n i:Nat),rs.length - i=n->jv B (wA X xl G go gl w0.length i) (ah (gS (eg z b rs ws mm st)<|kH w0<|rs.take i) 273):=by
 intro n;induction n with
 |zero=>intro i h;rw[List.take_of_length_le ab];have:=x1 (i:=(i:Int)) mc hX hG (by rw[Fs];exact hl) ab E;rw[Fs] at this;exact this
 |succ n ih=>
  intro i h;have hi:i<rs.length:=by omega
  have hp:=List.getElem?_eq_getElem hi;obtain⟨a1,a2⟩:=hr _<|List.mem_of_getElem? hp;obtain⟨q1,q2⟩:=aht hp (k:=(i:Int)) ab;have hlen:(kH w0<|rs.take i).length=w0.length:=Fs _ _;have hc:(kH w0<|rs.take i)[(rs[i]).1.toNat]? =some ((kH w0<|rs.take i)[(rs[i]).1.toNat]'ab):=List.getElem?_eq_getElem ab;have:=ih (i+1) ab;rw[aet hp,show(((i+1:Nat)):Int)=(i:Int)+1 by omega] at this;exact d2 mc ⟨hlen,hl⟩ ab hs q1 q2 ⟨a1,a2⟩ hc this
end
theorem Wt{f:Int->Int}:∀(l:List<|Int×Int) (w:List Int),(∀p∈l,0<=p.1/\p.1<(w.length:Int)/\p.2=f p.1)->∀v,0<=v->(kh w v=f v\/∃p∈l,p.1=v)->kh (kH w l) v=f v
 |[],w,_,v,_,h=>by
  rcases h with h|⟨p,hp,_⟩
  ·exact h
  ·cases hp
 |p::l,w,hl,v,hv,h=>by
  obtain⟨a1,a2,a3⟩:=hl p List.mem_cons_self;show kh (kH (w.set p.1.toNat p.2) l) v=f v;refine Wt l _ (fun q hq=>by rw[List.length_set];exact hl q<|List.mem_cons_of_mem _ hq) v hv ?_;by_cases e:v=p.1
  ·refine .inl ?_;rw[e];unfold kh;rw[List.getD_eq_getElem?_getD,List.getElem?_set_self ab,a3];rfl
  ·rcases h with h|⟨q,hq,Yy⟩
   ·refine .inl<|Eq.trans ?_ h;unfold kh;rw[List.getD_eq_getElem?_getD,List.getD_eq_getElem?_getD,List.getElem?_set_ne ab]
   ·rcases List.mem_cons.1 hq with rfl|hq
    ·exact absurd Yy.symm e
    ·exact .inr ⟨q,hq,Yy⟩
theorem abt{B:aJ}(mc:Mt LJ B)(Yz:Mt [] B){tx:List St}{mem other aA:List Int}(hk:rz 60 tx):
 jv B (Lp (nm (tx.map aM).flatten) tx.length (nI mem) mem.length (nI other) 0 other.length (nI aA) 0 aA.length) (ah ar 270):=by
 have YA:(AV.U (nm (tx.map aM).flatten) 0 tx.length).hi=true:=by rw[←tg];exact ri tx
 have kA:ba (aP u9) []=some (.bool true):=eP (eK u9.bM ⟨rfl,rfl⟩) rfl rfl;have kM:ba (aP<|nG 22) [.U (nm (tx.map aM).flatten) 0 tx.length,.int .i64<|.ofNat 0]=some (.tuple [.int .i64 (cS 22 tx).1,.bool (cS 22 tx).2]):=eP (eK nG.bM ⟨tx,by rw[tg];rfl,by omega,rfl⟩) (by rw[List.all_cons,YA];rfl) rfl;cases hm:(cS 22 tx).2 with
 |true=>rw[hm] at kM;exact s0L mc kM kA
 |false=>
  rw[hm] at kM;by_cases hb:mem.length>32\/aA.length>100
  ·exact s0B mc hb kM kA
  have fN:mem.length<=32/\aA.length<=100:=by omega
  have uq:∀w:List Int,[AV.U (nm (tx.map aM).flatten) 0 tx.length,.U (nI w) 0 w.length,.U (nI aA) 0 aA.length].all AV.hi=true:=fun w=>by rw[List.all_cons,YA,List.all_cons,show(AV.U (nI w) 0 w.length).hi=true from aL.2<|cF _,List.all_cons,show(AV.U (nI aA) 0 aA.length).hi=true from aL.2<|cF _];rfl
  by_cases hq:1<=mem.length/\mem.length<=32;rotate_left
  ·exact Hg mc fN kM kA (eP (eK sg.bM ⟨tx,mem,aA,_,_,_,_,rfl,dv.aw eI mem,dv.aw eI aA,by omega,.inl ⟨hq,rfl⟩⟩) (uq mem) rfl)<|Xg Yz<|.inl rfl
  obtain⟨d1,d2⟩:=Cu 22 60 tx ab hm;obtain⟨b,pL,ahw⟩:=acF (n:=aA.length) hm hk;cases b with
  |false=>exact Hg mc fN kM kA (eP (eK sg.bM ⟨tx,mem,aA,_,_,_,_,rfl,dv.aw eI mem,dv.aw eI aA,by omega,.inr ⟨hq,d2,d1,false,pL,.inl ⟨rfl,rfl⟩⟩⟩) (uq mem) rfl)<|Xg Yz<|.inr rfl
  |true=>
   obtain⟨gc,wf⟩:=ahw rfl;obtain⟨st,bb,d,hs,_,_,hd,ok,hre,Ky⟩:=U9 (aA:=aA) hq ab pL wf;have Hi:∀w:List Int,w.length=mem.length->Ch tx w aA=some d->ba (aP sg) [.U (nm (tx.map aM).flatten) 0 tx.length,.U (nI w) 0 w.length,.U (nI aA) 0 aA.length]=some (.tuple [.agg<|eg d.x d.re d.rs (qP d) (kH w<|qP d) d.m.steps,.int .i64 0]):=fun w hw hd=>by
    have hv:Hh tx w aA=Ew w d:=by unfold Hh;rw[hd]
    refine eP (eK sg.bM ⟨tx,w,aA,_,_,_,_,rfl,dv.aw eI w,dv.aw eI aA,by omega,.inr ⟨by omega,d2,d1,true,pL,.inr ⟨rfl,gc,wf,?_⟩⟩⟩) (uq w) afQ;rw[hv];rfl
   obtain⟨w1,w2,w3⟩:=Wq ok;have kP:∀l:List<|Int×Int,l.length<=1000000->ba (aP vd) [aw aS l,aw aS l]=some (.bool true):=fun l hl=>eP (eK vd.bM ⟨_,_,rfl,hl,by rw[decide_eq_true rfl]⟩) (by rw[List.all_cons,show(aw aS l).hi=true from aL.2<|cF _,List.all_cons,show(aw aS l).hi=true from aL.2<|cF _];rfl) rfl;refine Hg mc fN kM kA (Hi mem rfl hd)<|okJ mc ⟨hq.1,by omega⟩ ⟨cF _,?_,rfl⟩<|ahu (mem:=mem) (other:=other) mc ab (fun k=>?_) _ 0 rfl
   ·rcases Fh eI.len (dv.aw eI mem) with q|q
    ·exact q
    ·rw[q] at hq;exact absurd hq.1 (by decide)
   ·have hl:(qQ mem other k).length=mem.length:=FO k;have hw:(kH (qQ mem other k) d.rs).length=mem.length:=(Fs _ _).trans hl;have D5:Ch tx (kH (qQ mem other k) d.rs) aA=some d:=by
     unfold Ch at hd ⊢;rw[hs] at hd ⊢;have:=(Nv (zE:=kH (qQ mem other k) d.rs) _ _ _ _ hd).2 fun p hp=>by obtain⟨a1,a2,a3⟩:=ok.rd p hp;rw[a3];exact Wt (f:=kh mem) d.rs _ (fun q hq=>by rw[hl];exact ok.rd q hq) p.1 a1<|.inr ⟨p,hp,rfl⟩
     show rA _ _ ⟨(((kH (qQ mem other k) d.rs).length:Nat):Int),aA,Z8,bb,st.reverse,0⟩ []=some d;rw[hw];exact this
    have Hl:=Hi _ hw D5;have:=ahv (X:=nm (tx.map aM).flatten) (xl:=tx.length) (G:=nI aA) (go:=0) (gl:=aA.length) (w0:=qQ mem other k) (z:=d.x) (b:=d.re) (rs:=d.rs) (ws:=qP d) (mm:=kH mem<|qP d) (st:=d.m.steps) mc (cF _) (cF _) ab (fun p hp=>by obtain⟨a1,a2,_⟩:=ok.rd p hp;rw[hl];exact⟨a1,a2⟩) ab ?_ _ 0 rfl
    ·rw[hl] at this;exact this
    ·have k1:=kP d.rs ab;have k2:=kP (qP d) ab;revert Hl;cases d.re with
     |false=>exact fun Hl=>jM mc Hl k1 k2
     |true=>exact fun Hl=>enT mc Hl k1 k2
end Ws
end
