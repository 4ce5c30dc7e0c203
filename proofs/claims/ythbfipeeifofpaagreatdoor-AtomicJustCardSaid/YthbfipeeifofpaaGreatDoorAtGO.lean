import Derived.Test.YthbfipeeifofpaaGreatDoorAtGN
import Derived.Test.YthbfipeeifofpaaGreatDoorAtGK
import Derived.Test.YthbfipeeifofpaaGreatDoorAtGJ
import Derived.Test.YthbfipeeifofpaaGreatDoorRnGH
set_option maxRecDepth 100000
set_option maxHeartbeats 8000000
set_option linter.unusedSimpArgs false
set_option linter.unusedVariables false
section
open Go Go.Rn Go.RowKit Go.Proofs
namespace Kh
open ch eO cG dj fT lR nM qA DO vI DP DQ Bf
variable {x an xn e:Int} {ws:List<|Int×Int} {bw xo xl gl X G a:Nat} {r:Nat->Nat} {fz:kN} {b:Bool} {t:Tr AV} {s:AS} {q:Int×Int} {T:Prop} {K:List Item}
noncomputable section
abbrev kZ:bO:=[Wb,Vs,V9,WW,W2,W3,Wd]
abbrev z0:AV:=.int .i64<|.ofNat 0
abbrev nl:AV:=.slice none 0<|.known 0
def K8:List AV:=[z0,.bool false,nl,nl,nl,z0]
def pU(M val rt rd ws:AV):List AV:=[M,.ptr<|some (271,0),val,rt,rd,ws,nl,z0]
def o8(um:AV)(c:List AV):List<|Nat×Option ae:=ar++[(270,some<|.cells 6 (Tr.fill K8 0 .nil) []),(271,some<|.tok 4 um),(272,some<|.cells 8 (Tr.fill c 0 .nil) [])]
def G6:List (Int×Int)->AV
 |[]=>nl
 |p::r=>.slice (some (273,0)) (p::r).length<|.aq (p::r).length 2
def oR:List (Int×Int)->List (Nat×Option ae)
 |[]=>[]
 |p::r=>[(273,some<|aA aX<|p::r)]
def nR:List (Int×Int)->Nat
 |[]=>273
 |_::_=>274
def jL:List<|Nat×AV:=[(6,.ptr<|some (270,0)),(8,.ptr<|some (271,0)),(10,.ptr<|some (272,0))]
abbrev wm:Nat:=max Tryz.f6.ntmps 3
def ni:AF:=⟨6,aE jL,wm,[.code<|aS pg 6 [1,1,1,1,0,0],.inLoop<|aS pg 6 [1,1,1,1,0,0],.inBlock 0],[],none⟩
abbrev oD(um M:AV)(reads:List<|Int×Int):List<|Nat×Option ae:=o8 um (pU M z0 (.bool false) (G6 reads) nl)++oR reads
abbrev fy(um M:AV)(reads:List<|Int×Int):AS:=ah (oD um M reads)<|nR reads
abbrev lE(B:aJ)(v:AV)(fr:AF)(s:AS):Prop:=au pg B 270 (Fin pg (az Tryz.f6) fun y _=>y=v) fr s
theorem QV{nx:Nat}{l0 l:List<|Nat×AV}{o0 o:List<|Nat×Option ae}(hs:273<=bw/\bw<top)(ha:273<=a/\a<top)(hn:nx=274\/nx=273/\bw<=a)(hl:∀r:Nat->Nat,(∀k,k<273->r k=k)->(∀k,top<=k->r k=k)->r 273=a->∀p∈l,p.1<top/\∃x,(p.1,x)∈l0/\jz fz r x p.2)(ho:∀r:Nat->Nat,(∀k,k<273->r k=k)->(∀k,top<=k->r k=k)->r 273=a->∀p∈o,p.1<nx/\∀y,p.2=some y->y.jO=true/\∃x,(r p.1,some x)∈o0/\fK x y/\eZ fz r x y)(hz:∀p∈fz,nx=273/\273<=p.1/\p.1<top/\FU p.2.1=some p.2.2/\∃N t z,(p.1,some<|.cells N t z)∈o0/\∀i x,p.2.2[i]? =some x->i<N/\cellAt t z i=some x/\x.bQ=true/\x.cM=true):hI FU 270 bw l0 o0 l o nx:=by
 let r:Nat->Nat:=fun k=>if k<273\/top<=k then k else if k=273 then a else max k bw
 have r1:∀k,k<273->r k=k:=fun k hk=>if_pos<|.inl hk;have r2:∀k,top<=k->r k=k:=fun k hk=>if_pos<|.inr hk;have r3:r 273=a:=by show(if _ then _ else _)=_;rw[if_neg dZ,if_pos rfl]
 have t0:274<top:=by unfold top;omega
 refine⟨fz,r,fun k hk=>r1 k ab,fun k c d=>?_,r2,by omega,hl r r1 r2 r3,fun p hp=>?_,fun p hp q hq _ _ e=>?_,fun p hp=>?_,fun p hp q hq _ e=>?_⟩
 ·by_cases q:k=273
  ·rw[q,r3];omega
  ·show bw<=(if _ then _ else _)/\(if _ then _ else _)<top;rw[if_neg ab,if_neg q];omega
 ·obtain⟨c,d⟩:=ho r r1 r2 r3 p hp;refine⟨by omega,fun y hy=>?_⟩;obtain⟨e1,x,e2,e3,e4⟩:=d y hy;refine⟨?_,e1,x,e2,e3,e4⟩;by_cases q:p.1=273
  ·rw[q,r3];exact ha.2
  ·rw[r1 _ ab];omega
 ·have c:=(ho r r1 r2 r3 p hp).1;have d:=(ho r r1 r2 r3 q hq).1;by_cases e1:p.1=273<;>by_cases e2:q.1=273
  ·rw[e1,e2]
  ·rw[e1,r3,r1 _ ab] at e;omega
  ·rw[e2,r3,r1 _ ab] at e;omega
  ·rw[r1 _ ab,r1 _ ab] at e;exact e
 ·exact(hz p hp).2.2
 ·have c:=(ho r r1 r2 r3 q hq).1;have d:=hz p hp;rw[r1 _ ab] at e;omega
theorem OC(hr:∀k,k<273->r k=k){um:AV}{c c':List AV}(hc:kG fz r c c')(h8:c'.length=8)(h1:c'.all AV.bQ=true):∀p∈o8 um c',p.1<273/\∀y,p.2=some y->y.jO=true/\∃x,(r p.1,some x)∈o8 um c/\fK x y/\eZ fz r x y:=fun p hp=>by
 unfold o8 at hp ⊢;rcases List.mem_append.1 hp with hp|hp
 ·obtain⟨a,b⟩:=Dt (fz:=fz) (fun k hk=>hr k ab) p hp;refine⟨by omega,fun y hy=>?_⟩;obtain⟨d,e⟩:=b y hy;rw[hr _ ab];exact⟨d,y,List.mem_append_left _ (by rw[←hy];exact hp),fK.refl _,e⟩
 ·simp only[List.mem_cons,List.not_mem_nil,or_false] at hp;rcases hp with rfl|rfl|rfl
  ·refine⟨by show 270<273;omega,fun y hy=>?_⟩;cases hy;rw[show r (270,some<|ae.cells 6 (Tr.fill K8 0 .nil) []).1=270 from hr 270 ab];exact⟨rfl,_,List.mem_append_right _ List.mem_cons_self,fK.refl _,eZ.cells (l:=K8) (m:=K8) (by show 6<=top;unfold top;omega) ⟨(ba.int _ _).z,(ba.bool _).z,ba.yA.z,ba.yA.z,ba.yA.z,(ba.int _ _).z,trivial⟩ rfl⟩
  ·refine⟨by show 271<273;omega,fun y hy=>?_⟩;cases hy;rw[show r (271,some<|ae.tok 4 um).1=271 from hr 271 ab];exact⟨rfl,_,List.mem_append_right _<|List.mem_cons_of_mem _ List.mem_cons_self,fK.refl _,fun _ _ _ _ _ _=>trivial⟩
  ·refine⟨by show 272<273;omega,fun y hy=>?_⟩;cases hy;rw[show r (272,some<|ae.cells 8 (Tr.fill c' 0 .nil) []).1=272 from hr 272 ab];have e8:c.length=8:=hc.length.trans h8;refine⟨rfl,.cells 8 (Tr.fill c 0 .nil) [],List.mem_append_right _<|List.mem_cons_of_mem _<|List.mem_cons_of_mem _ List.mem_cons_self,wQ,?_⟩;have:=eZ.cells (fz:=fz) (r:=r) (l:=c) (m:=c') (by rw[e8];unfold top;omega) hc h1;rw[e8,h8] at this;exact this
abbrev QW(o0:List<|Nat×Option ae)(um M:AV)(reads:List<|Int×Int)(bw:Nat):Prop:=(jL.map (fun q=>some q.2)=jL.map (fun q=>some q.2))/\(o0.map (fun q=>q.2)=o0.map (fun q=>q.2))/\hI FU 270 bw jL o0 jL (oD um M reads) (nR reads)/\(ni=ni/\fy um M reads=fy um M reads)
theorem OD(hr:∀k,k<273->r k=k):∀p∈jL,p.1<top/\∃x,(p.1,x)∈jL/\jz fz r x p.2:=fun p hp=>by
 simp only[jL,List.mem_cons,List.not_mem_nil,or_false] at hp;rcases hp with rfl|rfl|rfl
 ·exact⟨by show 6<top;unfold top;omega,_,mi 0,(ba.ptr<|hr 270 ab).z⟩
 ·exact⟨by show 8<top;unfold top;omega,_,mi 1,(ba.ptr<|hr 271 ab).z⟩
 ·exact⟨by show 10<top;unfold top;omega,_,mi 2,(ba.ptr<|hr 272 ab).z⟩
section
variable {B:aJ} {v um lf:AV} {N o L:Nat} {reads:List<|Int×Int}
theorem OE(hr:∀k,k<273->r k=k)(ht:∀k,top<=k->r k=k)(hN:top<=N){val rt rd Yh ws QU:AV}(h1:jz fz r val val)(h2:jz fz r rt rt)(h3:jz fz r rd Yh)(h4:jz fz r ws QU):kG fz r (pU (.U N o L) val rt rd ws)<|pU (.U N o L) val rt Yh QU:=⟨(ba.U (ht _ hN) ht).z,(ba.ptr<|hr 271 ab).z,h1,h2,h3,h4,ba.yA.z,(ba.int _ _).z,trivial⟩
theorem afy(hN:top<=N)(hs:273<=bw/\bw<290):QW (oD um (.U N o L) []) um (.U N o L) [] bw:=⟨rfl,rfl,QV (a:=bw) (fz:=[]) ⟨hs.1,by unfold top;omega⟩ ⟨hs.1,by unfold top;omega⟩ (.inr ⟨rfl,Nat.le_refl _⟩) (fun r r1 r2 r3=>OD r1) (fun r r1 r2 r3 p hp=>by rw[show oD um (.U N o L) []=o8 um (pU (.U N o L) z0 (.bool false) nl nl) from List.append_nil _] at hp ⊢;exact OC r1 (OE r1 r2 hN (ba.int _ _).z (ba.bool _).z ba.yA.z ba.yA.z) rfl rfl p hp) (fun p hp=>by cases hp),rfl,rfl⟩
theorem OF{r:List<|Int×Int}(hN:top<=N)(ha:273<=a/\a<290)(hs:273<=bw/\bw<290)(hl:(q::r).length<=1000000):QW (o8 um (pU (.U N o L) z0 (.bool false) (.slice (some (a,0)) (q::r).length<|.aq (q::r).length 2) nl)++[(a,some<|aA aX<|q::r)]) um (.U N o L) (q::r) bw:=
 ⟨rfl,rfl,QV (a:=a) (fz:=[]) ⟨hs.1,by unfold top;omega⟩ ⟨ha.1,by unfold top;omega⟩ (.inl rfl) (fun r r1 r2 r3=>OD r1) (fun f r1 r2 r3 p hp=>by
  rcases List.mem_append.1 hp with hp|hp
  ·obtain⟨c1,c2⟩:=OC r1 (OE r1 r2 hN (ba.int _ _).z (ba.bool _).z (ba.slice (n:=a) r3).z ba.yA.z) rfl rfl p hp;refine⟨by show p.1<274;omega,fun y hy=>?_⟩;obtain⟨d1,x,d2,d3,d4⟩:=c2 y hy;exact⟨d1,x,List.mem_append_left _ d2,d3,d4⟩
  ·rw[oR,List.mem_singleton] at hp;subst hp;refine⟨by show 273<274;omega,fun y hy=>?_⟩;cases hy;exact⟨rfl,_,List.mem_append_right _ (by show(f 273,_)∈_;rw[r3];exact List.mem_singleton.2 rfl),fK.refl _,(kL.aA (fun x=>⟨rfl,rfl⟩)<|E4 hl).z⟩) (fun p hp=>by cases hp),rfl,rfl⟩
abbrev o9(k:Int)(an xn:Int):AV:=.agg [.int .u8 k,.int .i64 an,.int .i64 xn]
abbrev uu:AV->List AV->Option AV:=oy eg fun a rest=>(Kg a rest).map (·.1)
theorem cD(mc:Mt kZ B){M:AV}(H:lE B v ni<|fy lf M reads)(p:Pl)(x:T)(h:T=wp (en kZ) 900 6 (.fr 6 wm K t s) p (az Tryz.f6) (fun y _ _=>y=v) (fun fr s1 _=>fr=ni/\s1=fy lf M reads))(h0:Nat.ble 270 s.nx=true):lE B v ⟨6,t,wm,K,[],none⟩ s:=wC mc (C:=fun fr s1 _=>fr=ni/\s1=fy lf M reads) DE p x h h0
theorem jt(mc:Mt kZ B)(hN:top<=N)(hl:reads.length<=100000)(k1:uu um []=some (o9 1 an xn))(k2:iI (gU eg F1) um []=some (.int .i64 0,lf))(H:lE B v ni<|fy lf (.U N o L) reads):lE B v ni<|fy um (.U N o L) reads:=by
 have rn:QW (oD lf (.U N o L) reads) lf (.U N o L) reads<|nR reads+1:=by
  cases reads with
  |nil=>exact afy hN (by show 273<=274/\274<290;omega)
  |cons q r=>exact OF (a:=273) hN ab (by show 273<=275/\275<290;omega) ab
 have T:=tR kZ 14 4 271 uu [] um (o9 1 an xn) k1 (ai k2 rn) rfl;clear k1 k2 rn;exact cD mc H (.st 3<|.rg<|.go 1<|.cg (o9 1 an xn) (tG 271) (tQ 4 271 um)<|.go 2<|.en<|.st 7<|.rg<|.go 1<|.kt (.int .i64 0) lf<|.en<|.st 2<|.rn jL (oD lf (.U N o L) reads) jL (oD lf (.U N o L) reads) (nR reads+1) (nR reads) .no) T (by clear T H;cases reads<;>kernel_rfl) (by cases reads<;>kernel_rfl)
theorem aiw(mc:Mt kZ B)(hN:top<=N)(k1:uu um []=some (o9 2 an xn))(ha:0<=an/\an<(L:Int))(hx:cr FU N (o+an.toNat*1+0) 1=some [.int .i64 x])(k2:iI (gU eg zy) um [.int .i64 x]=some (.int .i64 0,lf))(H:lE B v ni<|fy lf (.U N o L) [(an,x)]):lE B v ni<|fy um (.U N o L) []:=cD mc H (.st 3<|.rg<|.go 1<|.cg (o9 2 an xn) (tG 271) (tQ 4 271 um)<|.go 2<|.en<|.st 10<|.rg<|.go 3<|.il<|.st 1<|.rg<|.go 5<|.eB<|.eC [.int .i64 x]<|.go 1<|.en<|.st 2<|.rg<|.go 5<|.kt (.int .i64 0) lf<|.en<|.rt 1<|.en<|.st 2<|.rn jL (o8 lf (pU (.U N o L) z0 (.bool false) (.slice (some (275,0)) [(an,x)].length<|.aq [(an,x)].length 2) nl)++[(275,some<|aA aX [(an,x)])]) jL (oD lf (.U N o L) [(an,x)]) 276 274 .no) (tR kZ 14 4 271 uu [] um (o9 2 an xn) k1 (ai (show(0:Int)<=an from ha.1)<|ai (show an<(L:Int) from ha.2)<|ai hN<|ai hx<|ai k2<|OF (um:=lf) (o:=o) (L:=L) (q:=(an,x)) (r:=[]) (a:=275) (bw:=276) hN ab ab<|by simp) rfl) bY bY
theorem aix{r:List<|Int×Int}(mc:Mt kZ B)(hN:top<=N)(hl:(q::r).length<=100000)(k1:uu um []=some (o9 2 an xn))(ha:0<=an/\an<(L:Int))(hx:cr FU N (o+an.toNat*1+0) 1=some [.int .i64 x])(k2:iI (gU eg zy) um [.int .i64 x]=some (.int .i64 0,lf))(H:lE B v ni<|fy lf (.U N o L)<|q::(r++[(an,x)])):lE B v ni<|fy um (.U N o L)<|q::r:=cD mc H (.st 3<|.rg<|.go 1<|.cg (o9 2 an xn) (tG 271) (tQ 4 271 um)<|.go 2<|.en<|.st 10<|.rg<|.go 3<|.il<|.st 1<|.rg<|.go 5<|.eB<|.eC [.int .i64 x]<|.go 1<|.en<|.st 1<|.rg<|.go 10<|.ap (Int×Int) aX (q::r) (an,x)<|.go 4<|.en<|.rg<|.go 5<|.kt (.int .i64 0) lf<|.en<|.rt 1<|.en<|.st 2<|.rn jL (o8 lf (pU (.U N o L) z0 (.bool false) (.slice (some (276,0)) (q::(r++[(an,x)])).length<|.aq (q::(r++[(an,x)])).length 2) nl)++[(276,some<|aA aX<|q::(r++[(an,x)]))]) jL (oD lf (.U N o L)<|q::(r++[(an,x)])) 277 274 .no) (tR kZ 14 4 271 uu [] um (o9 2 an xn) k1 (ai (show(0:Int)<=an from ha.1)<|ai (show an<(L:Int) from ha.2)<|ai hN<|ai hx<|Qq aX (q::r) (an,x) (K:=2) (nf:=16) W0 (by unfold room;omega) dZ<|ai k2<|OF (um:=lf) (o:=o) (L:=L) (q:=q) (r:=r++[(an,x)]) (a:=276) (bw:=277) hN ab ab (by have e:(q::(r++[(an,x)])).length=(q::r).length+1:=(by simp only[List.length_cons,List.length_append,List.length_nil]);omega)) rfl) bY bY
def fF:AF:=⟨6,aE jL,wm,[.code<|aS pg 6 [1,1,1,1,0,0,0,1,0],.code<|aS pg 6 [1,1,1,1,0,0,0,1,1],.inBlock 1,.inLoop<|aS pg 6 [1,1,1,1,0,0],.inBlock 0],[],none⟩
abbrev yq(um M:AV)(x:Int)(b:Bool)(reads ws:List<|Int×Int):AS:=ah (o8 um<|pU M (.int .i64 x) (.bool b) (ax aX reads)<|ax aX ws) 273
abbrev En(o0:List<|Nat×Option ae)(um M:AV)(x:Int)(b:Bool)(reads ws:List<|Int×Int)(bw:Nat):Prop:=(jL.map (fun q=>some q.2)=jL.map (fun q=>some q.2))/\(o0.map (fun q=>q.2)=o0.map (fun q=>q.2))/\hI FU 270 bw jL o0 jL (o8 um<|pU M (.int .i64 x) (.bool b) (ax aX reads)<|ax aX ws) 273/\(fF=fF/\yq um M x b reads ws=yq um M x b reads ws)
def K9:List (Int×Int)->kN
 |[]=>[]
 |p::r=>[(273,nm ((p::r).map aX).flatten,((p::r).map aX).flatten)]
theorem afz(ht:∀k,top<=k->r k=k):jz (K9 reads) r (G6 reads)<|ax aX reads:=by
 cases reads with
 |nil=>exact It
 |cons p l=>exact Fa (List.mem_singleton.2 rfl) ht rfl
theorem Vz{w0:AV}(hN:top<=N)(hs:273<=bw/\bw<290)(hl:reads.length<=100000)(hw:∀r:Nat->Nat,(∀k,top<=k->r k=k)->jz (K9 reads) r w0 (ax aX ws)):En (o8 um (pU (.U N o L) (.int .i64 x) (.bool b) (G6 reads) w0)++oR reads) um (.U N o L) x b reads ws bw:=
 ⟨rfl,rfl,QV (a:=bw) (fz:=K9 reads) ⟨hs.1,by unfold top;omega⟩ ⟨hs.1,by unfold top;omega⟩ (.inr ⟨rfl,Nat.le_refl _⟩) (fun r r1 r2 r3=>OD r1) (fun r r1 r2 r3 p hp=>by
  obtain⟨c1,c2⟩:=OC r1 (OE r1 r2 hN (ba.int _ _).z (ba.bool _).z (afz r2)<|hw r r2) rfl rfl p hp;refine⟨c1,fun y hy=>?_⟩;obtain⟨d1,x,d2,d3,d4⟩:=c2 y hy;exact⟨d1,x,List.mem_append_left _ d2,d3,d4⟩) (fun p hp=>by
  cases reads with
  |nil=>cases hp
  |cons q l=>rw[K9,List.mem_singleton] at hp;subst hp;exact⟨rfl,Nat.le_refl _,Fb vI.zA dZ 273 dZ<|List.mem_append_right _ List.mem_cons_self⟩),rfl,rfl⟩
theorem cT(mc:Mt kZ B){M:AV}(H:lE B v fF<|yq um M x b reads ws)(p:Pl)(z:T)(h:T=wp (en kZ) 900 6 (.fr 6 wm K t s) p (az Tryz.f6) (fun y _ _=>y=v) (fun fr s1 _=>fr=fF/\s1=yq um M x b reads ws))(h0:Nat.ble 270 s.nx=true):lE B v ⟨6,t,wm,K,[],none⟩ s:=wC mc (C:=fun fr s1 _=>fr=fF/\s1=yq um M x b reads ws) DE p z h h0
theorem We:273<=nR reads+1/\nR reads+1<290:=by
 cases reads with
 |nil=>show 273<=274/\274<290;omega
 |cons _ _=>show 273<=275/\275<290;omega
theorem nU(mc:Mt kZ B)(hN:top<=N)(hl:reads.length<=100000)(k1:uu um []=some (o9 3 an x))(k2:oy eg G5 um []=some (ax aX ws))(H:lE B v fF<|yq um (.U N o L) x false reads ws):lE B v ni<|fy um (.U N o L) reads:=by have T:=tR kZ 14 4 271 uu [] um (o9 3 an x) k1 (tR kZ 17 4 271 (oy eg G5) [] um (ax aX ws) k2 (Vz (um:=um) (o:=o) (L:=L) (x:=x) (b:=false) (ws:=ws) (w0:=ax aX ws) hN (We (reads:=reads)) hl fun r ht=>Iu ht)<|aM.2<|cF _) rfl;clear k1 k2;exact cT mc H (.st 3<|.rg<|.go 1<|.cg (o9 3 an x) (tG 271) (tQ 4 271 um)<|.go 2<|.en<|.st 12<|.rg<|.go 5<|.cg (ax aX ws) (tG 271) (tQ 4 271 um)<|.go 8<|.en<|.st 2<|.rn jL (o8 um (pU (.U N o L) (.int .i64 x) (.bool false) (G6 reads)<|ax aX ws)++oR reads) jL (o8 um<|pU (.U N o L) (.int .i64 x) (.bool false) (ax aX reads)<|ax aX ws) (nR reads+1) 273 .no) T (by clear T H;cases reads<;>kernel_rfl) (by cases reads<;>kernel_rfl)
theorem Eo(mc:Mt kZ B)(hN:top<=N)(hl:reads.length<=100000)(k1:uu um []=some (o9 4 an xn))(H:lE B v fF<|yq um (.U N o L) 0 true reads []):lE B v ni<|fy um (.U N o L) reads:=by have T:=tR kZ 14 4 271 uu [] um (o9 4 an xn) k1 (Vz (um:=um) (o:=o) (L:=L) (x:=0) (b:=true) (ws:=[]) (w0:=nl) hN (We (reads:=reads)) hl fun r _=>It) rfl;clear k1;exact cT mc H (.st 3<|.rg<|.go 1<|.cg (o9 4 an xn) (tG 271) (tQ 4 271 um)<|.go 2<|.en<|.st 15<|.rn jL (o8 um (pU (.U N o L) (.int .i64 0) (.bool true) (G6 reads) nl)++oR reads) jL (o8 um<|pU (.U N o L) (.int .i64 0) (.bool true) (ax aX reads)<|ax aX []) (nR reads+1) 273 .no) T (by clear T H;cases reads<;>kernel_rfl) (by cases reads<;>kernel_rfl)
abbrev Gt(x:Int)(b:Bool)(reads ws:List<|Int×Int)(mm:List Int)(st:Int):AV:=.tuple [.agg [.int .i64 x,.bool b,ax aX reads,ax aX ws,ax encI mm,.int .i64 st],.int .i64 0]
theorem tlD(mc:Mt kZ B){st:Int}{mm:List Int}(k1:oy eg DP.Eo um []=some (.int .i64 st))(k2:bf (aP Dw) [.U N o L,ax aX ws]=some (ax encI mm)):lE B (Gt x b reads ws mm st) fF<|yq um (.U N o L) x b reads ws:=wS mc (R:=fun y _=>y=Gt x b reads ws mm st) (.rg<|.go 3<|.cg (.int .i64 st) (tG 271) (tQ 4 271 um)<|.go 9<|.kn (ax encI mm)<|.go 8<|.en<|.rt 3 .no)<|tR kZ 18 4 271 (oy eg DP.Eo) [] um (.int .i64 st) k1 (ai k2<|rX<|Gt x b reads ws mm st) rfl
abbrev wq(e:Int):AV:=.tuple [.agg [z0,.bool false,nl,nl,nl,z0],.int .i64 e]
theorem Yi{go:Nat}(mc:Mt kZ B)(k:rz xH [.U X xo xl,.int .i64 (L:Int),.U G go gl]=some (none,xU e))(h:(rz xH [.U X xo xl,.int .i64 (L:Int),.U G go gl]=some (none,xU e)/\wq e=wq e)=wp (en kZ) 900 6 (.fr 6 wm (cO 6 []) (dt [.U X xo xl,.U N o L,.U G go gl])<|ah ar 270) (.st 3<|.rg<|.go 4<|.nt none (xU e)<|.go 5<|.en<|.rt 7 .no) (az Tryz.f6) (fun y _ _=>y=wq e) (fun _ _ _=>False):=by as_aux_lemma=>kernel_rfl):lE B (wq e) ⟨6,dt [.U X xo xl,.U N o L,.U G go gl],wm,(cO 6 []),[],none⟩<|ah ar 270:=wS mc (R:=fun y _=>y=wq e) _ ⟨k,rfl⟩ h bY
theorem Yj{go:Nat}(mc:Mt kZ B)(he:e=1\/e=4)(k:rz xH [.U X xo xl,.int .i64 (L:Int),.U G go gl]=some (none,xU e)):lE B (wq e) ⟨6,dt [.U X xo xl,.U N o L,.U G go gl],wm,(cO 6 []),[],none⟩<|ah ar 270:=by
 rcases he with rfl|rfl
 ·exact Yi mc k
 ·exact Yi mc k
theorem G7{go:Nat}(mc:Mt kZ B)(k:rz xH [.U X xo xl,.int .i64 (L:Int),.U G go gl]=some (some um,xU 0))(H:lE B v ni<|fy um (.U N o L) []):lE B v ⟨6,dt [.U X xo xl,.U N o L,.U G go gl],wm,(cO 6 []),[],none⟩<|ah ar 270:=cD mc H (.st 3<|.rg<|.go 4<|.nt (some um) (xU 0)<|.go 5<|.en<|.st 9<|.ls jL (oD um (.U N o L) []) 273 .no) (ai k (show(jL.map (fun q=>some q.2)=jL.map (fun q=>some q.2))/\((oD um (.U N o L) []).map (fun q=>q.2)=(oD um (.U N o L) []).map (fun q=>q.2))/\(ni=ni/\fy um (.U N o L) []=fy um (.U N o L) []) from⟨rfl,rfl,rfl,rfl⟩)) bY bY
end
end
end Kh
end
section
open Go Go.Rn Go.RowKit Go.Proofs
namespace DR
open ch cG cQ di eX fO iz dj uf mI mA tJ rk
variable {k N L N0 L0:Nat} {v:AV} {dp i bN n0 c:Int} {B:aJ}
noncomputable section
def rD(f:Ex->Int×Bool):List Ex->Int->Int×Bool
 |[],m=>(m,false)
 |a::r,m=>if(f a).2=true then(0,true) else if m+(f a).1>1000 then(0,true) else rD f r (m+(f a).1)
def dI:Nat->Ex->Int×Bool
 |0,_=>(0,true)
 |k+1,.mk _ _ args=>if k=0\/args.length>10 then(0,true) else rD (dI k) args 1
def pn(k:Nat)(args:List AV)(v:AV):Prop:=∃e:Ex,args=[.agg<|aC e,.int .i64<|22 - (k:Int)]/\(1<=k/\k<=22)/\v= .tuple [.int .i64 (dI k e).1,.bool (dI k e).2]
theorem pn.bM(args:List AV)(v v':AV)(h:pn k args v)(h':pn k args v'):v=v':=by obtain⟨e,rfl,_,rfl⟩:=h;obtain⟨e',h1,_,rfl⟩:=h';simp only[List.cons.injEq,AV.agg.injEq,_root_.and_true] at h1;rw[nk _ _ h1]
def oj(k:Nat):FuncId×KE:=(21,.val<|aP<|pn k)
def kl(f:List St->Int×Bool):List St->Int->Int×Bool
  |[],m=>(m,false)
  | s::r,m=>if(dI 22<|cR s).2=true\/(dI 22<|iu s).2=true\/(f<|bF s).2=true\/(f<|bE s).2=true then(0,true)
    else if m+1+(dI 22<|cR s).1+(dI 22<|iu s).1+(f<|bF s).1+(f<|bE s).1>3000 then(0,true)
    else kl f r (m+1+(dI 22<|cR s).1+(dI 22<|iu s).1+(f<|bF s).1+(f<|bE s).1)
def cS:Nat->List St->Int×Bool
 |0,_=>(0,true)
 |k+1,l=>if k=0\/l.length>500 then(0,true) else kl (cS k) l 0
def nB(k:Nat)(args:List AV)(v:AV):Prop:=∃l:List St,args=[.U (nm<|bx l) 0 l.length,.int .i64<|22 - (k:Int)]/\(1<=k/\k<=22)/\v= .tuple [.int .i64 (cS k l).1,.bool (cS k l).2]
theorem nB.bM(args:List AV)(v v':AV)(h:nB k args v)(h':nB k args v'):v=v':=by obtain⟨e,rfl,_,rfl⟩:=h;obtain⟨e',h1,_,rfl⟩:=h';simp only[List.cons.injEq,AV.U.injEq,true_and,_root_.and_true] at h1;rw[sf _ _<|sM (lG _) (lG _) h1.1]
def vj(k:Nat):FuncId×KE:=(9,.val<|aP<|nB k)
def DS(dp m i:Int):List<|Nat×AV:=[(1,(i6 dp)),(2,(.ptr<|some (270,0))),(6,(i6 m)),(7,(i6 i))]
def rE(dp m i:Int):AF:=⟨21,aE<|DS dp m i,(max Tryz.f21.ntmps 2),[.code<|aS pg 21 [1,1,1,0,1,0,0],.inLoop<|aS pg 21 [1,1,1,0,1,0,0],.inBlock 0,.code<|aS pg 21 [1,1,1,1]],[],none⟩
def nj(op n:Int)(N L:Nat):List<|Nat×Option ae:=(ar++[(270,some<|.cells 3 (Tr.fill [(u8<|op),(i6 n),(.U N 0 L)] 0 .nil) [])])
theorem aiy(dp m i op n:Int)(N L:Nat):((DS dp m i).map (fun q=>some q.2)=(DS dp m i).map (fun q=>some q.2))/\((nj op n N L).map (fun q=>q.2)=(nj op n N L).map (fun q=>q.2))/\(rE dp m i=rE dp m i/\ah (nj op n N L) 271=ah (nj op n N L) 271):=⟨rfl,rfl,rfl,rfl⟩
theorem sdT{op n m:Int}(mc:Mt [oj k] B)(hn:top<=N)(hi:0<=i)(hL:L<=10)(hm:0<=m/\m<=1000)(jj:0<=c/\c<=1000)(hd:0<=dp/\dp<=20)(hx:cr FU N (0+i.toNat*3+0) 3=some [(u8<|bN),(i6 n0),(.U N0 0 L0)])(h1:i<(L:Int))(hc:bf (aP<|pn k) [(.agg [(u8<|bN),(i6 n0),(.U N0 0 L0)]),.int .i64<|dp+1]=some (.tuple [.int .i64 c,.bool true]))(hv:(.tuple [.int .i64 0,.bool true])=v):au pg B 270 (Fin pg (az Tryz.f21) fun y _=>y=v) (rE dp m i)<|ah (nj op n N L) 271:=by exact wS mc (.st 2<|.rg<|.go 4<|.fk (.en<|.st 5<|.rg<|.go 3<|.eB<|.eC [(u8<|bN),(i6 n0),(.U N0 0 L0)]<|.go 1<|.vl (i6<|dp+1)<|.kn (.tuple [(i6 c),(.bool true)])<|.go 5<|.en<|.st 1<|.rg<|.go 2<|.vl (i6<|m+c)<|.go 1<|.en<|.rt 6 .no)<|.no)<|aR (i<(L:Int)) (fun _=>(dS i (L:Int)<|ai hn<|ai hx<|ai (wI<|dp+1)<|ai hc<|ai (wI<|m+c) (show(.tuple [i0,(.bool true)])=v from hv))) fZ
theorem sdF{op n m:Int}(mc:Mt [oj k] B)(hn:top<=N)(hi:0<=i)(hL:L<=10)(hm:0<=m/\m<=1000)(jj:0<=c/\c<=1000)(hd:0<=dp/\dp<=20)(hx:cr FU N (0+i.toNat*3+0) 3=some [(u8<|bN),(i6 n0),(.U N0 0 L0)])(h1:i<(L:Int))(hc:bf (aP<|pn k) [(.agg [(u8<|bN),(i6 n0),(.U N0 0 L0)]),.int .i64<|dp+1]=some (.tuple [.int .i64 c,.bool false]))(hv:m+c>1000->(.tuple [.int .i64 0,.bool true])=v)(H:¬((m+c)>(1000:Int))->au pg B 270 (Fin pg (az Tryz.f21) fun y _=>y=v) (rE dp (m+c)<|i+1) (ah (nj op n N L) 271)):au pg B 270 (Fin pg (az Tryz.f21) fun y _=>y=v) (rE dp m i)<|ah (nj op n N L) 271:=by exact wC mc (C:=(fun fr s1 _=>fr=rE dp (m+c) (i+1)/\s1=ah (nj op n N L) 271/\¬((m+c)>(1000:Int)))) (fun fr s1 p hC=>by obtain⟨rfl,rfl,hq⟩:=hC;exact H hq) (.st 2<|.rg<|.go 4<|.fk (.en<|.st 5<|.rg<|.go 3<|.eB<|.eC [(u8<|bN),(i6 n0),(.U N0 0 L0)]<|.go 1<|.vl (i6<|dp+1)<|.kn (.tuple [(i6 c),(.bool false)])<|.go 5<|.en<|.st 1<|.rg<|.go 2<|.vl (i6<|m+c)<|.go 1<|.en<|.st 1<|.rg<|.go 3<|.fk (.go 1<|.en<|.rt 4 .no)<|.go 1<|.en<|.st 3<|.rg<|.go 1<|.vl (i6<|i+1)<|.go 1<|.en<|.st 1<|.ls (DS dp (m+c)<|i+1) (nj op n N L) 271 .no)<|.no)<|aR (i<(L:Int)) (fun _=>(dS i (L:Int)<|ai hn<|ai hx<|ai (wI<|dp+1)<|ai hc<|ai (wI<|m+c)<|aR ((m+c)>1000) (fun _=>(show(.tuple [i0,(.bool true)])=v from hv ab)) fun _=>(ai (wI<|i+1)<|ai (mS<|DS dp (m+c)<|i+1)<|ai (mO<|nj op n N L) (show(rE dp (m+c)<|i+1)=(rE dp (m+c)<|i+1)/\(ah (nj op n N L) 271)=(ah (nj op n N L) 271)/\¬((m+c)>(1000:Int)) from⟨rfl,rfl,by omega⟩)))) fZ
theorem sdE{op n m:Int}(mc:Mt [oj k] B)(h1:(L:Int)<=i)(hv:(.tuple [.int .i64 m,.bool false])=v):au pg B 270 (Fin pg (az Tryz.f21) fun y _=>y=v) (rE dp m i)<|ah (nj op n N L) 271:=by exact wS mc (.st 2<|.rg<|.go 4<|.fk (.no)<|.en<|.rt 5 .no) WB
theorem sdG{op n:Int}(mc:Mt [oj k] B)(hd:dp<=20)(hL:L<=10)(H:au pg B 270 (Fin pg (az Tryz.f21) fun y _=>y=v) (rE dp 1 0)<|ah (nj op n N L) 271):au pg B 270 (Fin pg (az Tryz.f21) fun y _=>y=v) (sF 21 Tryz.f21 [(.agg [(u8<|op),(i6 n),(.U N 0 L)]),(i6 dp)])<|ah ar 270:=by exact wC mc (C:=(fun fr s1 _=>fr=rE dp 1 0/\s1=ah (nj op n N L) 271)) mK (.st 4<|.rg<|.go 1<|.fk (.no)<|.go 4<|.fk (.no)<|.go 1<|.en<|.st 9<|.ls (DS dp 1 0) (nj op n N L) 271 .no)<|aR (dp>20) fZ fun _=>(aR ((L:Int)>10) fZ fun _=>(aiy dp 1 0 op n N L))
theorem sdB{op n:Int}(mc:Mt [oj k] B)(hd:dp>20\/(L:Int)>10)(hv:(.tuple [.int .i64 0,.bool true])=v):au pg B 270 (Fin pg (az Tryz.f21) fun y _=>y=v) (sF 21 Tryz.f21 [(.agg [(u8<|op),(i6 n),(.U N 0 L)]),(i6 dp)])<|ah ar 270:=by exact wS mc (.st 4<|.rg<|.go 1<|.fk (.go 6<|.en<|.rt 4 .no)<|.go 4<|.fk (.go 1<|.en<|.rt 4 .no)<|.no)<|aR (dp>20) (fun _=>(show(.tuple [i0,(.bool true)])=v from hv)) fun _=>(aR ((L:Int)>10) (fun _=>(show(.tuple [i0,(.bool true)])=v from hv)) fZ)
def DT(N L:Nat)(dp m i:Int):List<|Nat×AV:=[(0,(.U N 0 L)),(1,(i6 dp)),(6,(i6 m)),(7,(i6 i))]
def rF(N L:Nat)(dp m i:Int):AF:=⟨9,aE<|DT N L dp m i,(max Tryz.f9.ntmps 2),[.code<|aS pg 9 [1,1,1,0,1,0,0],.inLoop<|aS pg 9 [1,1,1,0,1,0,0],.inBlock 0,.code<|aS pg 9 [1,1,1,1]],[],none⟩
theorem aiz(N L:Nat)(dp m i:Int):((DT N L dp m i).map (fun q=>some q.2)=(DT N L dp m i).map (fun q=>some q.2))/\(ar.map (fun q=>q.2)=ar.map (fun q=>q.2))/\(rF N L dp m i=rF N L dp m i/\ah ar 270=ah ar 270):=⟨rfl,rfl,rfl,rfl⟩
theorem Lc{B:aJ}{k N L Na La Nb Lb Nd Ld Ne Le:Nat}{jM na jN nb dp m i a b c d:Int}{x y z w:Bool}{v:AV}(hk:x=true\/(x=false/\y=true)\/(x=false/\y=false/\z=true)\/(x=false/\y=false/\z=false/\w=true))(mc:Mt [oj 22,vj k] B)(hn:top<=N)(hi:0<=i)(hL:L<=500)(hm:0<=m/\m<=3000)(hb:(0<=a/\a<=1000)/\(0<=b/\b<=1000)/\(0<=c/\c<=3000)/\(0<=d/\d<=3000))(hd:0<=dp/\dp<=20)(QX:cr FU N (0+i.toNat*10+2) 3=some [(u8<|jM),(i6 na),(.U Na 0 La)])(QY:cr FU N (0+i.toNat*10+5) 3=some [(u8<|jN),(i6 nb),(.U Nb 0 Lb)])(QZ:cr FU N (0+i.toNat*10+8) 1=some [.U Nd 0 Ld])(Q0:cr FU N (0+i.toNat*10+9) 1=some [.U Ne 0 Le])(h1:i<(L:Int))(ha:bf (aP<|pn 22) [(.agg [(u8<|jM),(i6 na),(.U Na 0 La)]),.int .i64 0]=some (.tuple [.int .i64 a,.bool x]))(Q1:bf (aP<|pn 22) [(.agg [(u8<|jN),(i6 nb),(.U Nb 0 Lb)]),.int .i64 0]=some (.tuple [.int .i64 b,.bool y]))(Q2:bf (aP<|nB k) [.U Nd 0 Ld,.int .i64<|dp+1]=some (.tuple [.int .i64 c,.bool z]))(Q3:bf (aP<|nB k) [.U Ne 0 Le,.int .i64<|dp+1]=some (.tuple [.int .i64 d,.bool w]))(hv:(.tuple [.int .i64 0,.bool true])=v):au pg B 270 (Fin pg (az Tryz.f9) fun y _=>y=v) (rF N L dp m i)<|ah ar 270:=by
 have TT:=(aR (i<(L:Int)) (fun _=>(dS i (L:Int)<|ai hn<|ai QX<|ai ha<|dS i (L:Int)<|ai hn<|ai QY<|ai Q1<|dS i (L:Int)<|ai hn<|ai QZ<|ai (wI<|dp+1)<|ai Q2<|dS i (L:Int)<|ai hn<|ai Q0<|ai (wI<|dp+1)<|ai Q3<|ai (wI<|m+1)<|ai (wI<|(m+1)+a)<|ai (wI<|((m+1)+a)+b)<|ai (wI<|(((m+1)+a)+b)+c)<|ai (wI<|((((m+1)+a)+b)+c)+d) (show(.tuple [i0,(.bool true)])=v from hv))) fun _=>(oF ab));let P:Pl:=(.st 2<|.rg<|.go 3<|.fk (.en<|.st 5<|.rg<|.go 2<|.eB<|.go 1<|.eC [(u8<|jM),(i6 na),(.U Na 0 La)]<|.kn (.tuple [(i6 a),(.bool x)])<|.go 5<|.en<|.st 1<|.rg<|.go 2<|.eB<|.go 1<|.eC [(u8<|jN),(i6 nb),(.U Nb 0 Lb)]<|.kn (.tuple [(i6 b),(.bool y)])<|.go 5<|.en<|.st 1<|.rg<|.go 2<|.eB<|.go 1<|.eC [(.U Nd 0 Ld)]<|.go 1<|.vl (i6<|dp+1)<|.kn (.tuple [(i6 c),(.bool z)])<|.go 5<|.en<|.st 1<|.rg<|.go 2<|.eB<|.go 1<|.eC [(.U Ne 0 Le)]<|.go 1<|.vl (i6<|dp+1)<|.kn (.tuple [(i6 d),(.bool w)])<|.go 5<|.en<|.st 1<|.rg<|.go 1<|.vl (i6<|m+1)<|.go 1<|.vl (i6<|(m+1)+a)<|.go 1<|.vl (i6<|((m+1)+a)+b)<|.go 1<|.vl (i6<|(((m+1)+a)+b)+c)<|.go 1<|.vl (i6<|((((m+1)+a)+b)+c)+d)<|.go 1<|.en<|.rt 6 .no)<|.no);rcases hk with rfl|⟨rfl,rfl⟩|⟨rfl,rfl,rfl⟩|⟨rfl,rfl,rfl,rfl⟩
 all_goals exact lW (E:=en [oj 22,vj k]) eQ rfl bH mc.2.2.1 mc.2.2.2 900 P TT aV
theorem muN{B:aJ}{k N L Na La Nb Lb Nd Ld Ne Le:Nat}{jM na jN nb dp m i a b c d:Int}{x y z w:Bool}{v:AV}(mc:Mt [oj 22,vj k] B)(hn:top<=N)(hi:0<=i)(hL:L<=500)(hm:0<=m/\m<=3000)(hb:(0<=a/\a<=1000)/\(0<=b/\b<=1000)/\(0<=c/\c<=3000)/\(0<=d/\d<=3000))(hd:0<=dp/\dp<=20)(QX:cr FU N (0+i.toNat*10+2) 3=some [(u8<|jM),(i6 na),(.U Na 0 La)])(QY:cr FU N (0+i.toNat*10+5) 3=some [(u8<|jN),(i6 nb),(.U Nb 0 Lb)])(QZ:cr FU N (0+i.toNat*10+8) 1=some [.U Nd 0 Ld])(Q0:cr FU N (0+i.toNat*10+9) 1=some [.U Ne 0 Le])(h1:i<(L:Int))(ha:bf (aP<|pn 22) [(.agg [(u8<|jM),(i6 na),(.U Na 0 La)]),.int .i64 0]=some (.tuple [.int .i64 a,.bool false]))(Q1:bf (aP<|pn 22) [(.agg [(u8<|jN),(i6 nb),(.U Nb 0 Lb)]),.int .i64 0]=some (.tuple [.int .i64 b,.bool false]))(Q2:bf (aP<|nB k) [.U Nd 0 Ld,.int .i64<|dp+1]=some (.tuple [.int .i64 c,.bool false]))(Q3:bf (aP<|nB k) [.U Ne 0 Le,.int .i64<|dp+1]=some (.tuple [.int .i64 d,.bool false]))(hv:(((((m+1)+a)+b)+c)+d)>3000->(.tuple [.int .i64 0,.bool true])=v)(H:¬((((((m+1)+a)+b)+c)+d)>(3000:Int))->au pg B 270 (Fin pg (az Tryz.f9) fun y _=>y=v) (rF N L dp (((((m+1)+a)+b)+c)+d)<|i+1) (ah ar 270)):au pg B 270 (Fin pg (az Tryz.f9) fun y _=>y=v) (rF N L dp m i)<|ah ar 270:=by exact wC mc (C:=(fun fr s1 _=>fr=rF N L dp (((((m+1)+a)+b)+c)+d) (i+1)/\s1=ah ar 270/\¬((((((m+1)+a)+b)+c)+d)>(3000:Int)))) (fun fr s1 p hC=>by obtain⟨rfl,rfl,hq⟩:=hC;exact H hq) (.st 2<|.rg<|.go 3<|.fk (.en<|.st 5<|.rg<|.go 2<|.eB<|.go 1<|.eC [(u8<|jM),(i6 na),(.U Na 0 La)]<|.kn (.tuple [(i6 a),(.bool false)])<|.go 5<|.en<|.st 1<|.rg<|.go 2<|.eB<|.go 1<|.eC [(u8<|jN),(i6 nb),(.U Nb 0 Lb)]<|.kn (.tuple [(i6 b),(.bool false)])<|.go 5<|.en<|.st 1<|.rg<|.go 2<|.eB<|.go 1<|.eC [(.U Nd 0 Ld)]<|.go 1<|.vl (i6<|dp+1)<|.kn (.tuple [(i6 c),(.bool false)])<|.go 5<|.en<|.st 1<|.rg<|.go 2<|.eB<|.go 1<|.eC [(.U Ne 0 Le)]<|.go 1<|.vl (i6<|dp+1)<|.kn (.tuple [(i6 d),(.bool false)])<|.go 5<|.en<|.st 1<|.rg<|.go 1<|.vl (i6<|m+1)<|.go 1<|.vl (i6<|(m+1)+a)<|.go 1<|.vl (i6<|((m+1)+a)+b)<|.go 1<|.vl (i6<|(((m+1)+a)+b)+c)<|.go 1<|.vl (i6<|((((m+1)+a)+b)+c)+d)<|.go 1<|.en<|.st 1<|.rg<|.go 12<|.fk (.go 1<|.en<|.rt 4 .no)<|.go 1<|.en<|.st 3<|.rg<|.go 1<|.vl (i6<|i+1)<|.go 1<|.en<|.st 1<|.ls (DT N L dp (((((m+1)+a)+b)+c)+d)<|i+1) ar 270 .no)<|.no)<|aR (i<(L:Int)) (fun _=>(dS i (L:Int)<|ai hn<|ai QX<|ai ha<|dS i (L:Int)<|ai hn<|ai QY<|ai Q1<|dS i (L:Int)<|ai hn<|ai QZ<|ai (wI<|dp+1)<|ai Q2<|dS i (L:Int)<|ai hn<|ai Q0<|ai (wI<|dp+1)<|ai Q3<|ai (wI<|m+1)<|ai (wI<|(m+1)+a)<|ai (wI<|((m+1)+a)+b)<|ai (wI<|(((m+1)+a)+b)+c)<|ai (wI<|((((m+1)+a)+b)+c)+d)<|aR ((((((m+1)+a)+b)+c)+d)>3000) (fun _=>(show(.tuple [i0,(.bool true)])=v from hv ab)) fun _=>(ai (wI<|i+1)<|ai (mS<|DT N L dp (((((m+1)+a)+b)+c)+d)<|i+1)<|ai (mO ar) (show(rF N L dp (((((m+1)+a)+b)+c)+d)<|i+1)=(rF N L dp (((((m+1)+a)+b)+c)+d)<|i+1)/\(ah ar 270)=(ah ar 270)/\¬((((((m+1)+a)+b)+c)+d)>(3000:Int)) from⟨rfl,rfl,by omega⟩)))) fZ
theorem muE{m:Int}(mc:Mt [oj 22,vj k] B)(h1:(L:Int)<=i)(hv:(.tuple [.int .i64 m,.bool false])=v):au pg B 270 (Fin pg (az Tryz.f9) fun y _=>y=v) (rF N L dp m i)<|ah ar 270:=by exact wS mc (.st 2<|.rg<|.go 3<|.fk (.no)<|.en<|.rt 5 .no) WB
theorem muG(mc:Mt [oj 22,vj k] B)(hd:dp<=20)(hL:L<=500)(H:au pg B 270 (Fin pg (az Tryz.f9) fun y _=>y=v) (rF N L dp 0 0)<|ah ar 270):au pg B 270 (Fin pg (az Tryz.f9) fun y _=>y=v) (sF 9 Tryz.f9 [(.U N 0 L),(i6 dp)])<|ah ar 270:=by exact wC mc (C:=(fun fr s1 _=>fr=rF N L dp 0 0/\s1=ah ar 270)) mK (.st 4<|.rg<|.go 1<|.fk (.no)<|.go 3<|.fk (.no)<|.go 1<|.en<|.st 9<|.ls (DT N L dp 0 0) ar 270 .no)<|aR (dp>20) fZ fun _=>(aR ((L:Int)>500) fZ fun _=>(aiz N L dp 0 0))
theorem muB(mc:Mt [oj 22,vj k] B)(hd:dp>20\/(L:Int)>500)(hv:(.tuple [.int .i64 0,.bool true])=v):au pg B 270 (Fin pg (az Tryz.f9) fun y _=>y=v) (sF 9 Tryz.f9 [(.U N 0 L),(i6 dp)])<|ah ar 270:=by exact wS mc (.st 4<|.rg<|.go 1<|.fk (.go 5<|.en<|.rt 4 .no)<|.go 3<|.fk (.go 1<|.en<|.rt 4 .no)<|.no)<|aR (dp>20) (fun _=>(show(.tuple [i0,(.bool true)])=v from hv)) fun _=>(aR ((L:Int)>500) (fun _=>(show(.tuple [i0,(.bool true)])=v from hv)) fZ)
end
end DR
end
section
open Go Go.Rn Go.RowKit Go.Proofs
namespace F2
open ch cG cQ di eX fO tI iz dj uf mI mA tJ rk DR
variable {k i:Nat} {L:bO}
theorem UR{f:Ex->Int×Bool}(hf:∀e,0<=(f e).1/\(f e).1<=1000):∀(l:List Ex) (m:Int),0<=m/\m<=1000->0<=(rD f l m).1/\(rD f l m).1<=1000
 |[],m,h=>h
 |a::r,m,h=>by
  unfold rD;have:=hf a;split
  ·show(0:Int)<=0/\(0:Int)<=1000;omega
  ·split
   ·show(0:Int)<=0/\(0:Int)<=1000;omega
   ·exact UR hf r _ ab
theorem uG:∀(k:Nat) (e:Ex),0<=(dI k e).1/\(dI k e).1<=1000
 |0,_=>by show(0:Int)<=0/\(0:Int)<=1000;omega
 |k+1,.mk _ _ args=>by
  unfold dI;split
  ·show(0:Int)<=0/\(0:Int)<=1000;omega
  ·exact UR (uG k) args 1 ab
theorem US{α:Type}{l r:List α}{a:α}(hr:l.drop i=a::r):i<l.length/\l[i]? =some a/\a∈l/\l.drop (i+1)=r:=by
 have ha:l[i]? =some a:=by have:=congrArg (fun q=>q[0]?) hr;simp only[List.getElem?_drop,List.getElem?_cons_zero,Nat.add_zero] at this;exact this
 refine⟨(List.getElem?_eq_some_iff.1 ha).1,ha,List.mem_of_getElem? ha,?_⟩;have:=congrArg (List.drop 1) hr;rw[List.drop_drop] at this;exact this
theorem Z9(hP:bR pg)(h':aY [oj k])(h:aY L):aY<|oj (k+1)::L:=by
 refine gO hP h h' Tryz.func21 fun args v e=>?_;obtain⟨⟨op,n,l⟩,rfl,hk,rfl⟩:=fV e;refine⟨aM.1 aV,fun B mc=>?_⟩;rw[←ib,aC];have ed:(22:Int) - ((k+1:Nat):Int)=21 - (k:Int):=by omega
 rw[ed];unfold dI;by_cases c:k=0\/l.length>10
 ·rw[if_pos c];exact sdB mc ab rfl
 ·rw[if_neg c];have Xo:k≠0:=fun q=>c<|.inl q;have hl:l.length<=10:=by
   by_cases q:l.length<=10
   ·exact q
   ·exact absurd (.inr ab) c
  have key:∀(r:List Ex) (i:Nat) (m:Int),l.drop i=r->0<=m/\m<=1000->
   au pg B 270 (Fin pg (az Tryz.f21) fun y _=>y= .tuple [.int .i64 (rD (dI k) r m).1,.bool (rD (dI k) r m).2]) (rE (21 - (k:Int)) m i) (ah (nj op n (nm<|cH l) l.length) 271):=by
   intro r;induction r with
   |nil=>intro i m hr hm;have hi:l.length<=i:=List.drop_eq_nil_iff.1 hr;exact sdE mc ab rfl
   |cons a r ih=>
    intro i m hr hm;obtain⟨hi,ha,qq,j0⟩:=US hr;obtain⟨bN,n0,l0⟩:=a;have hx:=yH ha (z:=(i:Int)) ab;have iq:=uG k<|.mk bN n0 l0;have bG:bf (aP<|pn k) [.agg<|aC<|.mk bN n0 l0,.int .i64<|21 - (k:Int)+1]=some (.tuple [.int .i64 (dI k<|.mk bN n0 l0).1,.bool (dI k<|.mk bN n0 l0).2]):=eP (eK pn.bM ⟨.mk bN n0 l0,by rw[show(21:Int) - (k:Int)+1=22 - (k:Int) by omega],by omega,rfl⟩) rA rfl;rw[aC] at hx bG;unfold rD;cases hb:(dI k<|.mk bN n0 l0).2 with
    |true=>rw[hb] at bG;rw[if_pos rfl];exact sdT mc (cF _) ab hl hm iq ab hx ab bG rfl
    |false=>
     rw[hb] at bG;rw[if_neg (by intro q;cases q)];refine sdF mc (cF _) ab hl hm iq ab hx ab bG (fun q=>?_) fun q=>?_
     ·rw[if_pos q]
     ·rw[if_neg q];exact ih (i+1) _ j0 ab
  exact sdG mc ab hl<|key l 0 1 (by rw[List.drop_zero]) ab
theorem S9(hP:bR pg):∀(k:Nat) {L:bO},aY L->aY (oj k::L)
 |0,L,h=>by refine gO hP h dc Tryz.func21 fun args v e=>?_;obtain⟨_,_,hk,_⟩:=fV e;omega
 |k+1,L,h=>Z9 hP (S9 hP k dc) h
theorem UT{f:List St->Int×Bool}(hf:∀l,0<=(f l).1/\(f l).1<=3000):∀(l:List St) (m:Int),0<=m/\m<=3000->0<=(kl f l m).1/\(kl f l m).1<=3000
 |[],m,h=>h
 |s::r,m,h=>by
  unfold kl;have h1:=uG 22<|cR s;have h2:=uG 22<|iu s;have h3:=hf<|bF s;have h4:=hf<|bE s;split
  ·show(0:Int)<=0/\(0:Int)<=3000;omega
  ·split
   ·show(0:Int)<=0/\(0:Int)<=3000;omega
   ·exact UT hf r _ ab
theorem wT:∀(k:Nat) (l:List St),0<=(cS k l).1/\(cS k l).1<=3000
 |0,_=>by show(0:Int)<=0/\(0:Int)<=3000;omega
 |k+1,l=>by
  unfold cS;split
  ·show(0:Int)<=0/\(0:Int)<=3000;omega
  ·exact UT (wT k) l 0 ab
theorem IN{l:List St}{s:St}(h:l[i]? =some s){z:Int}(hz:z.toNat=i)(j k:Nat)(hk:j+k<=10):cr FU (nm<|bx l) (0+z.toNat*10+j) k=some (((aL s).drop j).take k):=by rw[uB,hz,Nat.zero_add,sL ml h j k hk]
theorem abg(hP:bR pg)(h':aY [oj 22,vj k])(h:aY L):aY<|vj (k+1)::L:=by
 refine gO hP h h' Tryz.func9 fun args v e=>?_;obtain⟨l,rfl,hk,rfl⟩:=fV e;refine⟨aM.1 aV,fun B mc=>?_⟩;rw[←ib];have ed:(22:Int) - ((k+1:Nat):Int)=21 - (k:Int):=by omega
 rw[ed];unfold cS;by_cases c:k=0\/l.length>500
 ·rw[if_pos c];exact muB mc ab rfl
 ·rw[if_neg c];have Xo:k≠0:=fun q=>c<|.inl q;have hl:l.length<=500:=by
   by_cases q:l.length<=500
   ·exact q
   ·exact absurd (.inr ab) c
  have key:∀(r:List St) (i:Nat) (m:Int),l.drop i=r->0<=m/\m<=3000->
   au pg B 270 (Fin pg (az Tryz.f9) fun y _=>y= .tuple [.int .i64 (kl (cS k) r m).1,.bool (kl (cS k) r m).2]) (rF (nm<|bx l) l.length (21 - (k:Int)) m i) (ah ar 270):=by
   intro r;induction r with
   |nil=>intro i m hr hm;have hi:l.length<=i:=List.drop_eq_nil_iff.1 hr;exact muE mc ab rfl
   |cons s r ih=>
    intro i m hr hm;obtain⟨hi,ha,qq,j0⟩:=US hr;have p1:=IN ha (z:=(i:Int)) ab 2 3 ab;have p2:=IN ha (z:=(i:Int)) ab 5 3 ab;have p3:=IN ha (z:=(i:Int)) ab 8 1 ab;have p4:=IN ha (z:=(i:Int)) ab 9 1 ab;obtain⟨kind,to,⟨jM,na,la⟩,⟨jN,nb,lb⟩,bd,el⟩:=s;have e1:((aL<|.mk kind to (.mk jM na la) (.mk jN nb lb) bd el).drop 2).take 3=aC (.mk jM na la):=by rw[aL,aC,aC];rfl
    have e2:((aL<|.mk kind to (.mk jM na la) (.mk jN nb lb) bd el).drop 5).take 3=aC (.mk jN nb lb):=by rw[aL,aC,aC];rfl
    have e3:((aL<|.mk kind to (.mk jM na la) (.mk jN nb lb) bd el).drop 8).take 1=[.U (nm<|bx bd) 0 bd.length]:=by rw[aL,aC,aC];rfl
    have e4:((aL<|.mk kind to (.mk jM na la) (.mk jN nb lb) bd el).drop 9).take 1=[.U (nm<|bx el) 0 el.length]:=by rw[aL,aC,aC];rfl
    rw[e1] at p1;rw[e2] at p2;rw[e3] at p3;rw[e4] at p4;have tX:=uG 22<|.mk jM na la;have tW:=uG 22<|.mk jN nb lb;have jE:=wT k bd;have Qp:=wT k el;have hS:∀e:Ex,bf (aP<|pn 22) [.agg<|aC e,.int .i64 0]=some (.tuple [.int .i64 (dI 22 e).1,.bool (dI 22 e).2]):=fun e=>eP (eK pn.bM ⟨e,rfl,by omega,rfl⟩) rA rfl;have hM:∀q:List St,bf (aP<|nB k) [.U (nm<|bx q) 0 q.length,.int .i64<|21 - (k:Int)+1]=some (.tuple [.int .i64 (cS k q).1,.bool (cS k q).2]):=fun q=>eP (eK nB.bM ⟨q,by rw[show(21:Int) - (k:Int)+1=22 - (k:Int) by omega],by omega,rfl⟩) (by rw[List.all_cons,rf];rfl) rfl;have s1:=hS<|.mk jM na la;have s2:=hS<|.mk jN nb lb;have m1:=hM bd;have m2:=hM el;rw[aC] at p1 p2 s1 s2;have hb:(0<=(dI 22<|.mk jM na la).1/\(dI 22<|.mk jM na la).1<=1000)/\(0<=(dI 22<|.mk jN nb lb).1/\(dI 22<|.mk jN nb lb).1<=1000)/\(0<=(cS k bd).1/\(cS k bd).1<=3000)/\(0<=(cS k el).1/\(cS k el).1<=3000):=⟨tX,tW,jE,Qp⟩;show au pg B 270 (Fin pg (az Tryz.f9) fun y _=>y= .tuple [.int .i64 (kl (cS k) (.mk kind to (.mk jM na la) (.mk jN nb lb) bd el::r) m).1,.bool (kl (cS k) (.mk kind to (.mk jM na la) (.mk jN nb lb) bd el::r) m).2]) _ _;unfold kl;show au pg B 270 (Fin pg (az Tryz.f9) fun y _=>y= .tuple [.int .i64 (if(dI 22<|.mk jM na la).2=true\/(dI 22<|.mk jN nb lb).2=true\/(cS k bd).2=true\/(cS k el).2=true then(0,true) else if m+1+(dI 22<|.mk jM na la).1+(dI 22<|.mk jN nb lb).1+(cS k bd).1+(cS k el).1>3000 then(0,true) else kl (cS k) r (m+1+(dI 22<|.mk jM na la).1+(dI 22<|.mk jN nb lb).1+(cS k bd).1+(cS k el).1)).1,.bool (if(dI 22<|.mk jM na la).2=true\/(dI 22<|.mk jN nb lb).2=true\/(cS k bd).2=true\/(cS k el).2=true then(0,true) else if m+1+(dI 22<|.mk jM na la).1+(dI 22<|.mk jN nb lb).1+(cS k bd).1+(cS k el).1>3000 then(0,true) else kl (cS k) r (m+1+(dI 22<|.mk jM na la).1+(dI 22<|.mk jN nb lb).1+(cS k bd).1+(cS k el).1)).2]) _ _;cases x:(dI 22<|.mk jM na la).2 with
    |true=>rw[x] at s1;rw[if_pos<|.inl rfl];exact Lc (x:=true) (.inl rfl) mc (cF _) ab hl hm hb ab p1 p2 p3 p4 ab s1 s2 m1 m2 rfl
    |false=>
     rw[x] at s1;cases y:(dI 22<|.mk jN nb lb).2 with
     |true=>rw[y] at s2;rw[if_pos<|.inr<|.inl rfl];exact Lc (x:=false) (y:=true) (.inr<|.inl ⟨rfl,rfl⟩) mc (cF _) ab hl hm hb ab p1 p2 p3 p4 ab s1 s2 m1 m2 rfl
     |false=>
      rw[y] at s2;cases z:(cS k bd).2 with
      |true=>rw[z] at m1;rw[if_pos<|.inr<|.inr<|.inl rfl];exact Lc (x:=false) (y:=false) (z:=true) (.inr<|.inr<|.inl ⟨rfl,rfl,rfl⟩) mc (cF _) ab hl hm hb ab p1 p2 p3 p4 ab s1 s2 m1 m2 rfl
      |false=>
       rw[z] at m1;cases w:(cS k el).2 with
       |true=>rw[w] at m2;rw[if_pos<|.inr<|.inr<|.inr rfl];exact Lc (x:=false) (y:=false) (z:=false) (w:=true) (.inr<|.inr<|.inr ⟨rfl,rfl,rfl,rfl⟩) mc (cF _) ab hl hm hb ab p1 p2 p3 p4 ab s1 s2 m1 m2 rfl
       |false=>
        rw[w] at m2;rw[if_neg<|by simp];refine muN (x:=false) (y:=false) (z:=false) (w:=false) mc (cF _) ab hl hm hb ab p1 p2 p3 p4 ab s1 s2 m1 m2 (fun q=>?_) fun q=>?_
        ·rw[if_pos q]
        ·rw[if_neg q];exact ih (i+1) _ j0 ab
  exact muG mc ab hl<|key l 0 0 (by rw[List.drop_zero]) ab
theorem TU(hP:bR pg):∀(k:Nat) {L:bO},aY L->aY (vj k::L)
 |0,L,h=>by refine gO hP h dc Tryz.func9 fun args v e=>?_;obtain⟨_,_,hk,_⟩:=fV e;omega
 |k+1,L,h=>abg hP (S9 hP 22<|TU hP k dc) h
end F2
end
section
open Go Go.Rn Go.RowKit Go.Proofs
namespace JO
open ch fT eX Bv ij mI mA vC xC tL xD eO cG dj B5 vB xA uf tJ rk Gm JK cQ di fW fD gH gP gV gi gj hJ iA iB iR jc jV ki kO jW fO iz mf vH nM zx qA zB Dv Bf DR F2
variable {k:Nat}
theorem Sg{f:Ex->Int×Bool}:∀(l:List Ex) (m:Int),(rD f l m).2=false->(∀a∈l,(f a).2=false)/\(rD f l m).1=l.foldl (fun n a=>n+(f a).1) m/\(m<=1000->(rD f l m).1<=1000)
 |[],m,_=>⟨fun a h=>(by cases h),rfl,fun h=>h⟩
 |a::r,m,h=>by
  unfold rD at h ⊢;by_cases c1:(f a).2=true
  ·rw[if_pos c1] at h;cases h
  ·rw[if_neg c1] at h ⊢;by_cases c2:m+(f a).1>1000
   ·rw[if_pos c2] at h;cases h
   ·rw[if_neg c2] at h ⊢;obtain⟨h1,h2,h3⟩:=Sg r _ h;refine⟨fun b hb=>?_,by rw[h2,List.foldl_cons],fun _=>h3 ab⟩;rcases List.mem_cons.1 hb with rfl|hb
    ·exact Bool.eq_false_iff.2 c1
    ·exact h1 b hb
theorem fold_congr{f g:Ex->Int}:∀(l:List Ex) (m:Int),(∀a∈l,f a=g a)->l.foldl (fun n a=>n+f a) m=l.foldl (fun n a=>n+g a) m
 |[],_,_=>rfl
 |a::l,m,h=>by rw[List.foldl_cons,List.foldl_cons,h a List.mem_cons_self];exact fold_congr l _ fun b hb=>h b<|List.mem_cons_of_mem _ hb
theorem Hp:∀(k j:Nat) (e:Ex),k<=j->(dI k e).2=false->th j e=true/\ll j e=(dI k e).1
 |0,_,_,_,h=>by cases h
 |k+1,0,_,hj,_=>by omega
 |k+1,j+1,.mk op n l,hj,h=>by
  unfold dI at h ⊢;by_cases c:k=0\/l.length>10
  ·rw[if_pos c] at h;cases h
  ·rw[if_neg c] at h ⊢;obtain⟨h1,h2,_⟩:=Sg l 1 h;refine⟨List.all_eq_true.2 fun a ha=>(Hp k j a ab<|h1 a ha).1,?_⟩;rw[h2];exact fold_congr l 1 fun a ha=>(Hp k j a ab<|h1 a ha).2
theorem Hy{f:List St->Int×Bool}(hf:∀l,0<=(f l).1):∀(l:List St) (m:Int),(kl f l m).2=false->m<=(kl f l m).1/\∀s∈l,(dI 22<|cR s).2=false/\(dI 22<|iu s).2=false/\(f<|bF s).2=false/\(f<|bE s).2=false
 |[],m,_=>⟨Int.le_refl _,fun s h=>by cases h⟩
 |t::r,m,h=>by
  unfold kl at h ⊢;have a1:=uG 22<|cR t;have a2:=uG 22<|iu t;have a3:=hf<|bF t;have a4:=hf<|bE t;by_cases c1:(dI 22<|cR t).2=true\/(dI 22<|iu t).2=true\/(f<|bF t).2=true\/(f<|bE t).2=true
  ·rw[if_pos c1] at h;cases h
  ·rw[if_neg c1] at h ⊢;by_cases c2:m+1+(dI 22<|cR t).1+(dI 22<|iu t).1+(f<|bF t).1+(f<|bE t).1>3000
   ·rw[if_pos c2] at h;cases h
   ·rw[if_neg c2] at h ⊢;obtain⟨h1,h2⟩:=Hy hf r _ h;refine⟨by omega,fun s hs=>?_⟩;rcases List.mem_cons.1 hs with rfl|hs
    ·refine⟨Bool.eq_false_iff.2 fun q=>c1<|.inl q,Bool.eq_false_iff.2 fun q=>c1<|.inr<|.inl q,Bool.eq_false_iff.2 fun q=>c1<|.inr<|.inr<|.inl q,Bool.eq_false_iff.2 fun q=>c1<|.inr<|.inr<|.inr q⟩
    ·exact h2 s hs
theorem aaa{l:List St}:cS (k+1) l=if k=0\/l.length>500 then(0,true) else kl (cS k) l 0:=rfl
theorem LZ{l:List St}(h:(cS (k+1) l).2=false):l.length<=500/\(cS (k+1) l).1=(kl (cS k) l 0).1/\(kl (cS k) l 0).2=false/\∀s∈l,(dI 22<|cR s).2=false/\(dI 22<|iu s).2=false/\(cS k<|bF s).2=false/\(cS k<|bE s).2=false:=by
 rw[aaa] at h ⊢;by_cases c:k=0\/l.length>500
 ·rw[if_pos c] at h;cases h
 ·rw[if_neg c] at h ⊢;refine⟨?_,rfl,h,(Hy (fun l=>(wT k l).1) l 0 h).2⟩;by_cases q:l.length<=500
  ·exact q
  ·exact absurd (.inr ab) c
theorem Cq:∀(k j:Nat) (l:List St),k<=j->(cS k l).2=false->ks j l=true/\qi j l=true
 |0,_,_,_,h=>by cases h
 |k+1,0,_,hj,_=>by omega
 |k+1,j+1,l,hj,h=>by
  obtain⟨h1,_,_,h4⟩:=LZ h;have hl:decide (l.length<=1000000)=true:=decide_eq_true ab;constructor
  ·show(decide (l.length<=1000000)&&l.all fun s=>ks j (bF s)&&ks j (bE s))=true;rw[hl];exact List.all_eq_true.2 fun s hs=>and_true.2 ⟨(Cq k j _ ab (h4 s hs).2.2.1).1,(Cq k j _ ab (h4 s hs).2.2.2).1⟩
  ·show(decide (l.length<=1000000)&&l.all fun s=>((bF s).isEmpty||qi j (bF s))&&((bE s).isEmpty||qi j (bE s)))=true;rw[hl];exact List.all_eq_true.2 fun s hs=>and_true.2 ⟨by rw[(Cq k j _ ab (h4 s hs).2.2.1).2,Bool.or_true],by rw[(Cq k j _ ab (h4 s hs).2.2.2).2,Bool.or_true]⟩
theorem TV{k j:Nat}(he:∀l n1 n2,(cS j l).2=false->0<=n1/\n1+(cS j l).1<=1000000000->0<=n2/\n2+(cS j l).1<=1000000000->∃m1 m2,fC (oX 60) k l (.int .i64 n1) (.int .i64 n2)=some ⟨true,.int .i64 m1,.int .i64 m2,none⟩/\(n1<=m1/\m1<=n1+(cS j l).1)/\n2<=m2/\m2<=n2+(cS j l).1):
 ∀(r:List St) (m n1 n2:Int),(kl (cS j) r m).2=false->0<=m->m<=3000->0<=n1->0<=n2->n1+((kl (cS j) r m).1 - m)<=1000000000->n2+((kl (cS j) r m).1 - m)<=1000000000->∃m1 m2,kz (fC (oX 60) k) (oX 60) r (.int .i64 n1) (.int .i64 n2)=some ⟨true,.int .i64 m1,.int .i64 m2,none⟩/\(n1<=m1/\m1<=n1+((kl (cS j) r m).1 - m))/\n2<=m2/\m2<=n2+((kl (cS j) r m).1 - m)
 |[],m,n1,n2,_,_,_,_,_,_,_=>⟨n1,n2,rfl,by show n1<=n1/\n1<=n1+(m - m);omega,by show n2<=n2/\n2<=n2+(m - m);omega⟩
 |t::r,m,n1,n2,h,hm,cN,h1,h2,h3,h4=>by
  unfold kl at h h3 h4 ⊢;have a1:=uG 22<|cR t;have a2:=uG 22<|iu t;have a3:=wT j<|bF t;have a4:=wT j<|bE t;by_cases c1:(dI 22<|cR t).2=true\/(dI 22<|iu t).2=true\/(cS j<|bF t).2=true\/(cS j<|bE t).2=true
  ·rw[if_pos c1] at h;cases h
  ·rw[if_neg c1] at h h3 h4 ⊢;by_cases c2:m+1+(dI 22<|cR t).1+(dI 22<|iu t).1+(cS j<|bF t).1+(cS j<|bE t).1>3000
   ·rw[if_pos c2] at h;cases h
   ·rw[if_neg c2] at h h3 h4 ⊢;have g:=(Hy (fun l=>(wT j l).1) r _ h).1;obtain⟨d1,e1⟩:=Hp 22 60 (cR t) ab<|Bool.eq_false_iff.2 fun q=>c1<|.inl q;obtain⟨d2,e2⟩:=Hp 22 60 (iu t) ab<|Bool.eq_false_iff.2 fun q=>c1<|.inr<|.inl q;have z1:0<=lX 60 (cR t)/\lX 60 (cR t)<=(dI 22<|cR t).1:=by have:=EK 60 (cR t) d1;unfold lX;split<;>omega
    have z2:0<=lX 60 (iu t)/\lX 60 (iu t)<=(dI 22<|iu t).1:=by have:=EK 60 (iu t) d2;unfold lX;split<;>omega
    have hc:O5 60 t n1 n2:=⟨by omega,by omega,d1,d2,by rw[e1];omega,by rw[e2];omega⟩;have hr:oX 60 t (.int .i64 n1) (.int .i64 n2)=some ⟨true,.int .i64<|n1+1,.int .i64<|n2+(lX 60 (cR t)+lX 60 (iu t)),none⟩:=if_pos hc;obtain⟨p1,p2,q1,q2,q3⟩:=he (bF t) (n1+1) (n2+(lX 60 (cR t)+lX 60 (iu t))) (Bool.eq_false_iff.2 fun q=>c1<|.inr<|.inr<|.inl q) ab ab;obtain⟨u1,u2,w1,w2,w3⟩:=he (bE t) p1 p2 (Bool.eq_false_iff.2 fun q=>c1<|.inr<|.inr<|.inr q) ab ab;obtain⟨y1,y2,x1,x2,x3⟩:=TV he r _ u1 u2 h ab ab ab ab ab ab;refine⟨y1,y2,?_,by omega,by omega⟩;unfold kz;rw[hr];simp only[q1,w1];exact x1
theorem Sh:∀(k j:Nat) (l:List St) (n1 n2:Int),j<=k->(cS j l).2=false->0<=n1/\n1+(cS j l).1<=1000000000->0<=n2/\n2+(cS j l).1<=1000000000->∃m1 m2,fC (oX 60) k l (.int .i64 n1) (.int .i64 n2)=some ⟨true,.int .i64 m1,.int .i64 m2,none⟩/\(n1<=m1/\m1<=n1+(cS j l).1)/\n2<=m2/\m2<=n2+(cS j l).1
 |_,0,_,_,_,_,h,_,_=>by cases h
 |0,j+1,_,_,_,hj,_,_,_=>by omega
 |k+1,j+1,l,n1,n2,hj,h,h1,h2=>by obtain⟨g1,g2,g3,_⟩:=LZ h;rw[g2] at h1 h2 ⊢;have g4:=(Hy (fun l=>(wT j l).1) l 0 g3).1;obtain⟨m1,m2,e,a,b⟩:=TV (k:=k) (fun l n1 n2 x y z=>Sh k j l n1 n2 ab x y z) l 0 n1 n2 g3 ab ab h1.1 h2.1 ab ab;refine⟨m1,m2,?_,by omega,by omega⟩;unfold fC;rw[show decide (l.length<=1000000)=true from decide_eq_true ab];exact e
def ru:Nat->List St->Prop
 |0,_=>True
 |k+1,l=>∀s∈l,(0<=fB s/\fB s<256)/\ru k (bF s)/\ru k (bE s)
theorem Nj:∀{k:Nat} {l:List St},ru k l->Gs k l
 |0,_,_=>trivial
 |k+1,l,h=>fun s hs=>⟨(h s hs).1.1,Nj (h s hs).2.1,Nj (h s hs).2.2⟩
theorem TW{k:Nat}{n:Int}(he:∀l,ks k l=true->ru k l->∃p,fC gw k l (.int .i64 n) (.bool false)=some p):∀r:List St,(∀s∈r,(ks k (bF s)=true/\ks k (bE s)=true)/\(0<=fB s/\fB s<256)/\ru k (bF s)/\ru k (bE s))->∃p,kz (fC gw k) gw r (.int .i64 n) (.bool false)=some p
 |[],_=>⟨_,rfl⟩
 |t::r,h=>by
  obtain⟨⟨d1,d2⟩,k1,k2,k3⟩:=h t List.mem_cons_self;unfold kz;have e1:gw t (.int .i64 n) (.bool false)=some (if mr t n=true then pY n else pN n):=by
   show(if 0<=fB t/\fB t<256 then(match mr t n with
    |true=>some (⟨true,.int .i64 n,.bool false,none⟩:fx)
    |false=>some ⟨false,.int .i64 n,.bool false,some .ret⟩) else none)=_
   rw[if_pos k1];cases mr t n<;>rfl
  rw[e1];cases hs:mr t n with
  |false=>exact⟨_,rfl⟩
  |true=>
   rw[if_pos rfl];show ∃p,(match fC gw k (bF t) (.int .i64 n) (.bool false) with
    |none=>none
    |some q=>match q.ret with
     |false=>some q
     |true=>match fC gw k (bE t) q.v1 q.v2 with
      |none=>none
      |some u=>match u.ret with
       |false=>some u
       |true=>kz (fC gw k) gw r u.v1 u.v2)=some p
   obtain⟨q1,w1⟩:=he _ d1 k2;rw[w1];rcases Ah k _ _ w1 with rfl|rfl
   ·show ∃p,(match fC gw k (bE t) (.int .i64 n) (.bool false) with
     |none=>none
     |some u=>match u.ret with
      |false=>some u
      |true=>kz (fC gw k) gw r u.v1 u.v2)=some p
    obtain⟨q2,w2⟩:=he _ d2 k3;rw[w2];rcases Ah k _ _ w2 with rfl|rfl
    ·exact TW he r fun s hs=>h s<|List.mem_cons_of_mem _ hs
    ·exact⟨_,rfl⟩
   ·exact⟨_,rfl⟩
theorem Si{n:Int}:∀(k:Nat) (l:List St),ks k l=true->ru k l->∃p,fC gw k l (.int .i64 n) (.bool false)=some p
 |0,_,h,_=>by cases h
 |k+1,l,hd,hk=>by obtain⟨c1,c2⟩:=and_true.1 (show(decide (l.length<=1000000)&&l.all fun s=>ks k (bF s)&&ks k (bE s))=true from hd);unfold fC;rw[c1];exact TW (Si k) l fun s hs=>⟨and_true.1<|List.all_eq_true.1 c2 s hs,hk s hs⟩
theorem aab{s:St}{n:Int}(h:mr s n=true):oY 6 (cR s)=true/\oY 6 (iu s)=true:=by
 obtain⟨kind,to,a,b,bd,el⟩:=s;have h:zS (pQ kind) to a b bd el n=true:=h;have fit:∀(q:Bool) (e:Ex),tK q e n=true->oY 6 e=true:=fun q e h=>by
  cases q with
  |true=>have h:(eL 6 e&&ra 6 e n)=true:=h;exact Ob (and_true.1 h).1
  |false=>have h:decide (Dm e)=true:=h;have h:=of_decide_eq_true h;obtain⟨op,m,l⟩:=e;have hl:l=[]:=List.length_eq_zero_iff.1 h.2.2;subst hl;show(eL 6 (.mk op m [])||true)=true;rw[Bool.or_true]
 unfold zS at h;split at h
 ·obtain⟨_,h⟩:=and_true.1 h;obtain⟨_,h⟩:=and_true.1 h;obtain⟨_,h⟩:=and_true.1 h;obtain⟨h1,h⟩:=and_true.1 h;obtain⟨h2,_⟩:=and_true.1 h;exact⟨fit _ _ h1,fit _ _ h2⟩
 ·cases h
theorem NU{n:Int}:∀(k j i:Nat) (l:List St),k<=j->(cS k l).2=false->zC i n l->k<=i->pt j l=true
 |0,_,_,_,_,h,_,_=>by cases h
 |k+1,0,_,_,hj,_,_,_=>by omega
 |k+1,j+1,0,_,_,_,h,_=>by cases h
 |k+1,j+1,i+1,l,hj,h,ha,hi=>by obtain⟨h1,_,_,h4⟩:=LZ h;show(decide (l.length<=10000)&&l.all fun s=>oY 6 (cR s)&&(oY 6 (iu s)&&(pt j (bF s)&&pt j (bE s))))=true;rw[decide_eq_true (show l.length<=10000 by omega)];refine List.all_eq_true.2 fun s hs=>?_;obtain⟨a1,a2,a3⟩:=ha s hs;obtain⟨w1,w2⟩:=aab a1;rw[w1,w2,NU k j i _ ab (h4 s hs).2.2.1 a2 ab,NU k j i _ ab (h4 s hs).2.2.2 a3 ab];rfl
theorem acv{tx:List St}{n:Nat}(h:(cS 22 tx).2=false)(hk:ru 60 tx):∃b,tM tx (n:Int) b/\(b=true->pt 60 tx=true/\kY 6 tx):=by obtain⟨d1,d2⟩:=Cq 22 60 tx ab h;have iq:=wT 22 tx;obtain⟨m1,m2,e1,_,_⟩:=Sh 60 22 tx 0 0 ab h ab ab;obtain⟨p,e2⟩:=Si (n:=(n:Int)) 60 tx d1 hk;have hm:tM tx (n:Int)<|decide (0<=(n:Int)/\(n:Int)<6/\fq 60 tx<=6/\gg 60 tx<=2000)&&(p.ret&&decide (m1<=40/\m2<=300)):=⟨m1,m2,p,e1,e2,rfl⟩;refine⟨_,hm,fun hb=>?_⟩;have hp:p.ret=true:=(and_true.1 (and_true.1 hb).2).1;refine⟨NU 22 60 60 tx ab h (As 60 tx p e2 hp) ab,?_⟩;rw[hb] at hm;exact afv hm d1<|Nj hk
end JO
end
section
open Go Go.Rn Go.RowKit Go.Proofs
namespace Ki
open ch fT eX ij mI mA vC xC tL xD eO cG dj B5 cQ di fW fD gH gP gV gi gj hJ iA iB iR jc jV ki kO jW fO tI iz FP mf vH nM zx qA Bf zB Dv JO
variable {x:Int} {tx:List St} {st:List Fr}
def nW(f:List St->Nat)(s:St):Nat:=1+(if fB s=4 then max (f<|bF s) (f<|bE s) else if fB s=5 then 8*f (bF s) else if fB s=7 then f (bF s)+f (bE s) else 0)
def mJ(f:List St->Nat):List St->Nat
 |[]=>0
 |s::r=>nW f s+mJ f r
def uc:Nat->List St->Nat
 |0,_=>0
 |d+1,l=>mJ (uc d) l
theorem TY{f g:List St->Nat}:∀{l:List St},(∀s∈l,f (bF s)=g (bF s)/\f (bE s)=g (bE s))->mJ f l=mJ g l
 |[],_=>rfl
 |s::r,h=>by show nW f s+mJ f r=nW g s+mJ g r;rw[TY (l:=r) fun s hs=>h s<|List.mem_cons_of_mem _ hs];unfold nW;rw[(h s<|List.mem_cons_self ..).1,(h s<|List.mem_cons_self ..).2]
theorem Fk:∀(d j k:Nat) (l:List St),kY d l->d<=j->d<=k->uc j l=uc k l
 |0,j,k,l,h,_,_=>by have h:l=[]:=h;subst h;cases j<;>cases k<;>rfl
 |d+1,j+1,k+1,l,h,hj,hk=>TY fun s hs=>⟨Fk d j k _ (h.2 s hs).2.2.1 ab ab,Fk d j k _ (h.2 s hs).2.2.2 ab ab⟩
theorem ad7(h:dW x 2001<=2000):dW x 2001=x:=by
 revert h;unfold dW;split
 ·intro h;omega
 ·intro _;rfl
theorem UU:∀(k:Nat) (l:List St),gg k l<=2000->((uc k l:Nat):Int)<=gg k l
 |0,_,_=>by show(0:Int)<=0;omega
 |k+1,l,h=>by
  have ih:=UU k;have go:∀(l:List St) (m:Int),0<=m->l.foldl (fun m s=>jJ (fB s) m (gg k<|bF s)<|gg k<|bE s) m<=2000->m+((mJ (uc k) l:Nat):Int)<=l.foldl (fun m s=>jJ (fB s) m (gg k<|bF s)<|gg k<|bE s) m:=by
   intro l;induction l with
   |nil=>intro m _ _;show m+(0:Int)<=m;omega
   |cons s r ihr=>
    intro m hm hF;rw[List.foldl_cons] at hF ⊢;have c1:=CI k<|bF s;have c2:=CI k<|bE s;have a1:=ih<|bF s;have a2:=ih<|bE s;have hx:=IM (gg k<|bF s)<|gg k<|bE s;have key:∀x:Int,0<=x->jJ (fB s) m (gg k<|bF s) (gg k<|bE s)=dW x 2001->(x<=2000->m+((nW (uc k) s:Nat):Int)<=x)->m+((mJ (uc k) (s::r):Nat):Int)<=r.foldl (fun m s=>jJ (fB s) m (gg k<|bF s)<|gg k<|bE s) (jJ (fB s) m (gg k<|bF s)<|gg k<|bE s):=by intro x rR e hle;rw[e] at hF ⊢;have q:=ihr (dW x 2001) (Uu rR).1 hF;have q2:dW x 2001=x:=ad7 ab;rw[q2] at q hF ⊢;have:=hle ab;have:mJ (uc k) (s::r)=nW (uc k) s+mJ (uc k) r:=rfl;omega
    by_cases k4:fB s=4
    ·refine key (m+1+cK (gg k<|bF s) (gg k<|bE s)) ab (by unfold jJ;rw[if_pos k4]) fun hle=>?_;have:=a1 ab;have:=a2 ab;unfold nW;rw[if_pos k4];omega
    by_cases k5:fB s=5
    ·refine key (m+1+8*gg k (bF s)) ab (by unfold jJ;rw[if_neg k4,if_pos k5]) fun hle=>?_;have:=a1 ab;unfold nW;rw[if_neg k4,if_pos k5];omega
    by_cases k7:fB s=7
    ·refine key (m+1+(gg k (bF s)+gg k (bE s))) ab (by unfold jJ;rw[if_neg k4,if_neg k5,if_pos k7]) fun hle=>?_;have:=a1 ab;have:=a2 ab;unfold nW;rw[if_neg k4,if_neg k5,if_pos k7];omega
    ·refine key (m+1+0) ab (by unfold jJ;rw[if_neg k4,if_neg k5,if_neg k7]) fun hle=>?_;unfold nW;rw[if_neg k4,if_neg k5,if_neg k7];omega
  have:=go l 0 ab h;show((mJ (uc k) l:Nat):Int)<=l.foldl (fun m s=>jJ (fB s) m (gg k<|bF s)<|gg k<|bE s) 0;omega
theorem ff:¬(false=true):=fun c=>by cases c
def eA:List Fr->Nat
 |[]=>0
 |f::r=>mJ (uc 60) (f.block.drop f.ak.toNat)+f.turns.toNat*uc 61 f.block+(if f.bV=true then uc 61 (f.other.getD []) else 0)+eA r
theorem Ey:∀(k:Nat) (st:List Fr) (b:bg) (aU:List Fr) (b':bg),ia k st b=some (aU,b')->eA aU<=eA st
 |0,_,_,_,_,h=>by cases h
 |k+1,[],b,aU,b',h=>by
  unfold ia at h;injection h with h;injection h with h1 _
  rw[←h1];exact Nat.le_refl _
 |k+1,f::r,b,aU,b',h=>by
  unfold ia at h;by_cases c1:f.ak<(f.block.length:Int)
  ·rw[if_pos c1] at h;injection h with h;injection h with h1 _
   rw[←h1];exact Nat.le_refl _
  ·rw[if_neg c1] at h;by_cases c2:0<f.turns
   ·rw[if_pos c2] at h;have e:eA ({f with ak:=0,turns:=f.turns - 1}::r)<=eA (f::r):=by
     show uc 61 f.block+(f.turns - 1).toNat*uc 61 f.block+(if f.bV=true then uc 61 (f.other.getD []) else 0)+eA r<=mJ (uc 60) (f.block.drop f.ak.toNat)+f.turns.toNat*uc 61 f.block+(if f.bV=true then uc 61 (f.other.getD []) else 0)+eA r;have ht:f.turns.toNat=(f.turns - 1).toNat+1:=by omega
     rw[ht,Nat.add_mul,Nat.one_mul];omega
    by_cases c3:0<(f.block.length:Int)
    ·rw[if_pos c3] at h;injection h with h;injection h with h1 _
     rw[←h1];exact e
    ·rw[if_neg c3] at h;exact Nat.le_trans (Ey k _ b _ _ h) e
   ·rw[if_neg c2] at h;have e:eA r<=eA (f::r):=Nat.le_add_left _ _;by_cases c4:f.bV=true
    ·rw[if_pos c4] at h;by_cases c5:2<=b.length
     ·rw[if_pos c5] at h;exact Nat.le_trans (Ey k _ _ _ _ h) e
     ·rw[if_neg c5] at h;cases h
    ·rw[if_neg c4] at h;exact Nat.le_trans (Ey k _ _ _ _ h) e
theorem wU{a a':dE}{b:bg}(h:fin a st b=some a'):eA a'.fs.reverse<=eA st:=by
 unfold fin at h;cases e:ia 1000 st b with
 |none=>rw[e] at h;cases h
 |some p=>
  rw[e] at h;injection h with h
  rw[←h];show eA p.1.reverse.reverse<=_;rw[List.reverse_reverse];exact Ey 1000 st b p.1 p.2 e
theorem MC:∀{st:List Fr} {g:Fr} {r':List Fr},below st=some (g,r')->g.bV=true->uc 61 (g.other.getD [])+eA r'<=eA st
 |[],_,_,h,_=>by cases h
 |f::r,g,r',h,hg=>by
  unfold mf.below at h;by_cases c:f.bV=true
  ·rw[if_pos c] at h;injection h with h;injection h with h1 h2
   subst h1;subst h2;show _<=_+(if f.bV=true then uc 61 (f.other.getD []) else 0)+eA r;rw[if_pos c];omega
  ·rw[if_neg c] at h;have:=MC h hg;have:eA r<=eA (f::r):=Nat.le_add_left _ _;omega
theorem UW{f:Fr}{r:List Fr}{s:St}(h0:0<=f.ak)(h:f.block[f.ak.toNat]? =some s):eA (f::r)=nW (uc 60) s+eA ({f with ak:=f.ak+1}::r):=by
 have hl:f.ak.toNat<f.block.length:=by
  rcases Nat.lt_or_ge f.ak.toNat f.block.length with q|q
  ·exact q
  ·rw[List.getElem?_eq_none q] at h;cases h
 have e:f.block.drop f.ak.toNat=s::f.block.drop (f.ak.toNat+1):=by
  rw[List.drop_eq_getElem_cons hl];rw[List.getElem?_eq_getElem hl] at h;injection h with h
  rw[h]
 show mJ (uc 60) (f.block.drop f.ak.toNat)+_+_+_=nW (uc 60) s+(mJ (uc 60) (f.block.drop (f.ak+1).toNat)+_+_+_);rw[e,show(f.ak+1).toNat=f.ak.toNat+1 by omega];show nW (uc 60) s+mJ (uc 60) (f.block.drop<|f.ak.toNat+1)+f.turns.toNat*uc 61 f.block+(if f.bV=true then uc 61 (f.other.getD []) else 0)+eA r=nW (uc 60) s+(mJ (uc 60) (f.block.drop<|f.ak.toNat+1)+f.turns.toNat*uc 61 f.block+(if f.bV=true then uc 61 (f.other.getD []) else 0)+eA r);omega
theorem Ih:∀{st:List Fr} {g:Fr} {r':List Fr},below st=some (g,r')->g.bV=true
 |[],_,_,h=>by cases h
 |f::r,g,r',h=>by
  unfold mf.below at h;by_cases c:f.bV=true
  ·rw[if_pos c] at h;injection h with h;injection h with h1 h2
   rw[←h1];exact c
  ·rw[if_neg c] at h;exact Ih h
section
variable {a a':dE}
theorem acw(h:mg a)(hk:dX a=(1,0,0))(hs:qk a=some a'):eA a'.fs.reverse+1<=eA a.fs.reverse:=by
 rcases h.top with e|⟨f,r,e,ht⟩
 ·exfalso;unfold dX at hk;rw[e] at hk;injection hk with q _;omega
 have hw:=h.inv.wf;rw[e] at hw;obtain⟨d,⟨kind,to,ea,eb,bd,el⟩,hd,q,k1,_,k3,k4⟩:=A6 hw ht;have k3:kY d bd:=k3;have k4:kY d el:=k4;have u3:uc 61 bd=uc 60 bd:=Fk d 61 60 bd k3 ab ab;have u4:uc 61 el=uc 60 el:=Fk d 61 60 el k4 ab ab;have tp:=UW (r:=r) hw.2.1.1 q;unfold qk at hs;rw[e] at hs ⊢;simp only[q] at hs;have hC:nW (uc 60) (.mk kind to ea eb bd el)=1+(if kind=4 then max (uc 60 bd) (uc 60 el) else if kind=5 then 8*uc 60 bd else if kind=7 then uc 60 bd+uc 60 el else 0):=rfl;have Kj:∀(g:Fr) (r':List Fr),g.ak=0->eA (g::r')=uc 61 g.block+g.turns.toNat*uc 61 g.block+(if g.bV=true then uc 61 (g.other.getD []) else 0)+eA r':=fun g r' hg=>by show mJ (uc 60) (g.block.drop g.ak.toNat)+_+_+_=_;rw[hg];rfl
 by_cases c1:kind=1
 ·rw[if_pos c1] at hs;have:=wU hs;omega
 rw[if_neg c1] at hs;by_cases c2:kind=2
 ·rw[if_pos c2] at hs;have:=wU hs;omega
 rw[if_neg c2] at hs;by_cases c3:kind=3
 ·rw[if_pos c3] at hs;have:=wU hs;omega
 rw[if_neg c3] at hs;by_cases c4:kind=4
 ·rw[if_pos c4] at hs;have p:=wU hs;rw[Kj _ _ rfl] at p;rw[if_pos c4] at hC;have p:eA a'.fs.reverse<=uc 61 (if du a ea≠0 then bd else el)+(0:Int).toNat*uc 61 (if du a ea≠0 then bd else el)+(if false=true then _ else 0)+eA ({f with ak:=f.ak+1}::r):=p;rw[if_neg ff,show(0:Int).toNat=0 from rfl,Nat.zero_mul] at p;by_cases z:du a ea≠0
  ·rw[if_pos z] at p;omega
  ·rw[if_neg z] at p;omega
 rw[if_neg c4] at hs;by_cases c5:kind=5
 ·rw[if_pos c5] at hs;rw[if_neg c4,if_pos c5] at hC;by_cases z:0<kF (du a ea)
  ·rw[if_pos z] at hs;have t8:=Nc<|du a ea;have p:=wU hs;rw[Kj _ _ rfl] at p;have p:eA a'.fs.reverse<=uc 61 bd+(kF (du a ea) - 1).toNat*uc 61 bd+(if false=true then _ else 0)+eA ({f with ak:=f.ak+1}::r):=p;rw[if_neg ff,u3] at p;have m:(kF (du a ea) - 1).toNat*uc 60 bd<=7*uc 60 bd:=Nat.mul_le_mul_right _ ab;omega
  ·rw[if_neg z] at hs;have:=wU hs;omega
 rw[if_neg c5] at hs;by_cases c6:kind=6
 ·rw[if_pos c6] at hs;cases hb:below (f::r) with
  |none=>rw[hb] at hs;cases hs
  |some p=>
   obtain⟨⟨fb,fa,ft,fo,kept,QQ⟩,r'⟩:=p;rw[hb] at hs;have ho:=Ih hb;cases QQ with
   |none=>cases hs
   |some ol=>
    have p:=wU hs;rw[Kj _ _ rfl] at p;have p:eA a'.fs.reverse<=uc 61 ol+(0:Int).toNat*uc 61 ol+(if false=true then _ else 0)+eA r':=p;rw[if_neg ff,show(0:Int).toNat=0 from rfl,Nat.zero_mul] at p;have fN:below ({f with ak:=f.ak+1}::r)=some (⟨fb,fa,ft,fo,kept,some ol⟩,r')\/∃g':Fr,below ({f with ak:=f.ak+1}::r)=some (g',r')/\g'.other=some ol:=by
     unfold mf.below at hb ⊢;by_cases c:f.bV=true
     ·rw[if_pos c] at hb;injection hb with hb;injection hb with h1 h2
      refine .inr ⟨{f with ak:=f.ak+1},by rw[←h2];exact if_pos c,by show f.other=_;rw[h1]⟩
     ·rw[if_neg c] at hb;exact .inl (by rw[←hb];exact if_neg c)
    have:uc 61 ol+eA r'<=eA ({f with ak:=f.ak+1}::r):=by
     rcases fN with fN|⟨g',fN,eo⟩
     ·exact MC fN<|Ih fN
     ·have:=MC fN<|Ih fN;rw[eo] at this;exact this
    omega
 rw[if_neg c6] at hs;by_cases c7:kind=7
 ·rw[if_pos c7] at hs;rw[if_neg c4,if_neg c5,if_pos c7] at hC;have p:=wU hs;rw[Kj _ _ rfl] at p;have p:eA a'.fs.reverse<=uc 61 bd+(0:Int).toNat*uc 61 bd+(if true=true then uc 61 el else 0)+eA ({f with ak:=f.ak+1}::r):=p;rw[if_pos rfl,show(0:Int).toNat=0 from rfl,Nat.zero_mul] at p;omega
 ·rw[if_neg c7] at hs;cases hs
theorem ad8(h:mg a){v:Int}(hk:dX a=(2,v,0))(hs:nq a x=some a'):eA a'.fs.reverse+1<=eA a.fs.reverse:=by
 rcases h.top with e|⟨f,r,e,ht⟩
 ·exfalso;unfold dX at hk;rw[e] at hk;injection hk with q _;omega
 have hw:=h.inv.wf;rw[e] at hw;obtain⟨d,⟨kind,to,ea,eb,bd,el⟩,hd,q,_⟩:=A6 hw ht;have tp:=UW (r:=r) hw.2.1.1 q;unfold nq at hs;rw[e] at hs ⊢;simp only[q] at hs;have:=wU hs;have:1<=nW (uc 60) (.mk kind to ea eb bd el):=Nat.le_add_right _ _;omega
end
theorem ad9(hw:kY 6 tx)(hc:gg 60 tx<=2000){bb:bg}(h:ia 1000 [tu tx] [[]]=some (st,bb)):((eA st:Nat):Int)<=gg 60 tx:=by
 have p:=Ey 1000 _ _ _ _ h;have e:eA [tu tx]=uc 61 tx:=by show uc 61 tx+(0:Int).toNat*uc 61 tx+(if false=true then _ else 0)+0=_;rw[if_neg ff,show(0:Int).toNat=0 from rfl,Nat.zero_mul];rfl
 have s:=Fk 6 61 60 tx hw ab ab;have:=UU 60 tx hc;omega
theorem acx{n:Int}(h:tM tx n true):gg 60 tx<=2000:=by obtain⟨_,_,_,_,_,e⟩:=h;obtain⟨h1,_⟩:=and_true.1 e.symm;exact(of_decide_eq_true h1).2.2.2
end Ki
end
section
open Go Go.Rn Go.RowKit Go.Proofs
namespace Kk
open ch fT eX ij eO cG dj cQ gi gj jW mf nM qA zB Dv Ki vI DQ
variable {a a':dE}
def vp(n:Int)(m:List<|Int×Int):Prop:=∀p∈m,0<=p.1/\p.1<n
def mC(n:Int)(b:bg):Prop:=∀m∈b,vp n m
section
variable {n:Int} {b b':bg} {m:List<|Int×Int} {k v:Int}
theorem OG:∀{m:List<|Int×Int},vp n m->0<=k/\k<n->vp n (fM m k v)
 |[],_,hk,p,hp=>by rw[fM,List.mem_singleton] at hp;subst hp;exact hk
 |q::l,h,hk,p,hp=>by
  unfold fM at hp;split at hp
  ·rcases List.mem_cons.1 hp with rfl|hp
   ·exact hk
   ·exact h p<|List.mem_cons_of_mem _ hp
  ·rcases List.mem_cons.1 hp with rfl|hp
   ·exact h _ List.mem_cons_self
   ·exact OG (fun x hx=>h x<|List.mem_cons_of_mem _ hx) hk p hp
theorem Nk:∀{s d:List<|Int×Int},vp n d->vp n s->vp n (fj d s)
 |[],d,hd,_=>hd
 |p::s,d,hd,hs=>Nk (s:=s) (OG hd<|hs p List.mem_cons_self) fun q hq=>hs q<|List.mem_cons_of_mem _ hq
theorem VA:∀{b:bg},mC n b->0<=k/\k<n->mC n (kH b k v)
 |[],h,_=>h
 |[m],h,hk=>fun q hq=>by rw[show kH [m] k v=[fM m k v] from rfl,List.mem_singleton] at hq;subst hq;exact OG (h m List.mem_cons_self) hk
 |m::m'::l,h,hk=>fun q hq=>by
  rcases List.mem_cons.1 (show q∈m::kH (m'::l) k v from hq) with rfl|hq
  ·exact h _ List.mem_cons_self
  ·exact VA (b:=m'::l) (fun x hx=>h x<|List.mem_cons_of_mem _ hx) hk q hq
theorem UX:∀{b:bg},mC n b->mC n (ga b)
 |[],h=>h
 |[m],h=>h
 |[m,m'],h=>fun q hq=>by rw[show ga [m,m']=[fj m m'] from rfl,List.mem_singleton] at hq;subst hq;exact Nk (h m List.mem_cons_self)<|h m'<|List.mem_cons_of_mem _ List.mem_cons_self
 |m::m'::zX::l,h=>fun q hq=>by
  rcases List.mem_cons.1 (show q∈m::ga (m'::zX::l) from hq) with rfl|hq
  ·exact h _ List.mem_cons_self
  ·exact UX (b:=m'::zX::l) (fun x hx=>h x<|List.mem_cons_of_mem _ hx) q hq
theorem EN:∀(j:Nat) (st:List Fr) (b:bg) (aU:List Fr) (b':bg),ia j st b=some (aU,b')->mC n b->mC n b'
 |0,_,_,_,_,h,_=>by cases h
 |j+1,[],b,aU,b',h,hb=>by
  unfold ia at h;injection h with h;injection h with _ h
  rw[←h];exact hb
 |j+1,f::r,b,aU,b',h,hb=>by
  unfold ia at h;split at h
  ·injection h with h;injection h with _ h
   rw[←h];exact hb
  split at h
  ·split at h
   ·injection h with h;injection h with _ h
    rw[←h];exact hb
   ·exact EN j _ b _ _ h hb
  split at h
  ·split at h
   ·exact EN j _ _ _ _ h<|UX hb
   ·cases h
  ·exact EN j _ b _ _ h hb
theorem FE{st:List Fr}(h:fin a st b=some a')(hb:mC n b):mC n a'.b:=by
 unfold fin at h;cases e:ia 1000 st b with
 |none=>rw[e] at h;cases h
 |some p=>
  rw[e] at h;injection h with h
  rw[←h];exact EN 1000 st b p.1 p.2 e hb
end
theorem aea{n:Int}{b:bg}(hb:mC n b):mC n<|b++[[]]:=fun m hm=>by
 rcases List.mem_append.1 hm with hm|hm
 ·exact hb m hm
 ·rw[List.mem_singleton] at hm;subst hm;intro p hp;cases hp
theorem aeb(hv:1<=a.vars)(hs:qk a=some a')(hb:mC a.vars a.b):mC a.vars a'.b:=by
 unfold qk at hs;split at hs
 ·cases hs
 split at hs
 ·cases hs
 repeat' split at hs
 all_goals first|(cases hs;done)|exact FE hs hb|exact FE hs (VA hb<|UI hv)|exact FE hs (fun m hm=>hb m<|List.dropLast_subset _ hm)|exact FE hs<|aea hb
theorem afA{x:Int}(hs:nq a x=some a')(hb:mC a.vars a.b):mC a.vars a'.b:=by
 unfold nq at hs;split at hs
 ·cases hs
 split at hs
 ·cases hs
 exact FE hs hb
theorem VB{n:Int}{b:bg}(h:mC n b):∀{d:List<|Int×Int},vp n d->vp n (b.foldl fj d):=by
 induction b with
 |nil=>exact fun hd=>hd
 |cons m b ih=>exact fun hd=>ih (fun x hx=>h x<|List.mem_cons_of_mem _ hx)<|Nk hd<|h m List.mem_cons_self
theorem VC:∀(n:Nat) (l:List Int),l.Nodup->(∀x∈l,0<=x/\x<(n:Int))->l.length<=n
 |0,[],_,_=>Nat.le_refl _
 |0,x::l,_,h=>by have:=h x List.mem_cons_self;omega
 |n+1,l,hn,h=>by
  have e:l.length<=(l.erase (n:Int)).length+1:=by
   by_cases q:(n:Int)∈l
   ·rw[List.length_erase_of_mem q];omega
   ·rw[List.erase_of_not_mem q];omega
  have:=VC n (l.erase (n:Int)) (hn.erase _) fun x hx=>by
   have h1:=h x<|List.mem_of_mem_erase hx;have h2:x≠(n:Int):=fun e=>by rw[e] at hx;exact(List.Nodup.not_mem_erase hn) hx
   omega
  omega
theorem UY{n:Nat}{b:bg}(h:mC (n:Int) b):(allM b).length<=n:=by
 have hk:dU<|allM b:=LY List.nodup_nil;have hi:vp (n:Int)<|allM b:=VB h fun p hp=>by cases hp
 have:=VC n ((allM b).map (·.1)) hk fun x hx=>by obtain⟨p,hp,rfl⟩:=List.mem_map.1 hx;exact hi p hp
 rw[List.length_map] at this;exact this
structure Ce where
 m:dE
 rs:List<|Int×Int
 re:Bool
 x:Int
def lN(mem:List Int)(v:Int):Int:=mem.getD v.toNat 0
def tw(mem:List Int):Nat->dE->List (Int×Int)->Option Ce
  |0,_,_=>none
  | n+1,a,rs=>if(dX a).1=1 then(qk a).bind fun a'=>tw mem n a' rs
    else if(dX a).1=2 then(nq a<|lN mem (dX a).2.1).bind fun a'=>tw mem n a'<|rs++[((dX a).2.1,lN mem (dX a).2.1)]
    else if(dX a).1=3 then some ⟨a,rs,false,(dX a).2.2⟩ else some ⟨a,rs,true,0⟩
def pV(d:Ce):List<|Int×Int:=if d.re=true then[] else dP (allM d.m.b)
structure tz (mem:List Int) (a:dE) (rs:List<|Int×Int):Prop where
 mi:mg a
 va:a.vars=(mem.length:Int)
 bi:mC a.vars a.b
 st:(rs.length:Int)<=a.steps
 rd:∀p∈rs,0<=p.1/\p.1<(mem.length:Int)/\p.2=lN mem p.1
theorem TZ{mem:List Int}{rs:List<|Int×Int}(h:tz mem a rs)(hs:a.steps<=1000000000000):(dX a=(1,0,0)/\∃a',qk a=some a'/\Ib a/\tz mem a' rs/\a'.steps=a.steps+1/\eA a'.fs.reverse+1<=eA a.fs.reverse)\/
 (∃v a',dX a=(2,v,0)/\(0<=v/\v<(mem.length:Int))/\nq a (lN mem v)=some a'/\Jp a/\tz mem a' (rs++[(v,lN mem v)])/\a'.steps=a.steps+1/\eA a'.fs.reverse+1<=eA a.fs.reverse)\/(∃x,dX a=(3,0,x))\/dX a=(4,0,0):=by
 obtain⟨hm,hv,hb,cn,Yk⟩:=h;have h1:=hm.vars;rcases abd hm with e|⟨v,e,b1,b2⟩|e|e
 ·obtain⟨hd,a',q1,q2,q3,q4,_⟩:=MM hm ab e;exact .inl ⟨e,a',q1,hd,⟨q2,q4.trans hv,by rw[q4];exact aeb h1.1 q1 hb,by omega,Yk⟩,q3,acw hm e q1⟩
 ·obtain⟨hd,a',q1,q2,q3,q4,_⟩:=ad2 hm ab e<|lN mem v;refine .inr<|.inl ⟨v,a',e,by omega,q1,hd,⟨q2,q4.trans hv,by rw[q4];exact afA q1 hb,by rw[List.length_append];show((rs.length+1:Nat):Int)<=_;omega,fun p hp=>?_⟩,q3,ad8 hm e q1⟩;rcases List.mem_append.1 hp with hp|hp
  ·exact Yk p hp
  ·rw[List.mem_singleton] at hp;subst hp;exact⟨b1,by show v<_;omega,rfl⟩
 ·exact .inr<|.inr<|.inl e
 ·exact .inr<|.inr<|.inr e
theorem Nl{mem:List Int}:∀(n:Nat) (a:dE) (rs:List<|Int×Int),tz mem a rs->eA a.fs.reverse<n->a.steps+n<=1000000->∃d,tw mem n a rs=some d/\tz mem d.m d.rs/\(d.re=true->d.x=0)/\d.m.steps<=a.steps+n
 |0,_,_,_,h,_=>by omega
 |n+1,a,rs,h,hp,hn=>by
  unfold tw;rcases TZ h ab with⟨e,a',e1,_,ok,e2,e3⟩|⟨v,a',e,hv,e1,_,ok,e2,e3⟩|⟨x,e⟩|e
  ·rw[e,if_pos rfl,e1];obtain⟨d,h1,h2,h3,h4⟩:=Nl n a' rs ok ab ab;exact⟨d,h1,h2,h3,by omega⟩
  ·rw[e,if_neg (by show ¬((2:Int)=1);omega),if_pos rfl];show ∃d,(nq a<|lN mem v).bind _=some d/\_;rw[e1];obtain⟨d,h1,h2,h3,h4⟩:=Nl n a' _ ok ab ab;exact⟨d,h1,h2,h3,by omega⟩
  ·rw[e,if_neg (by show ¬((3:Int)=1);omega),if_neg (by show ¬((3:Int)=2);omega),if_pos rfl];exact⟨_,rfl,h,(fun q=>by cases q),by show a.steps<=_;omega⟩
  ·rw[e,if_neg (by show ¬((4:Int)=1);omega),if_neg (by show ¬((4:Int)=2);omega),if_neg (by show ¬((4:Int)=3);omega)];exact⟨_,rfl,h,fun _=>rfl,by show a.steps<=_;omega⟩
theorem T0{mem BB:List Int}:∀(n:Nat) (a:dE) (rs:List<|Int×Int) (d:Ce),tw mem n a rs=some d->(∀p∈rs,p∈d.rs)/\((∀p∈d.rs,lN BB p.1=p.2)->tw BB n a rs=some d)
 |0,_,_,_,h=>by cases h
 |n+1,a,rs,d,h=>by
  unfold tw at h ⊢;by_cases c1:(dX a).1=1
  ·rw[if_pos c1] at h ⊢;cases e:qk a with
   |none=>rw[e] at h;cases h
   |some a'=>rw[e] at h;exact T0 n a' rs d h
  rw[if_neg c1] at h ⊢;by_cases c2:(dX a).1=2
  ·rw[if_pos c2] at h ⊢;cases e:nq a (lN mem (dX a).2.1) with
   |none=>rw[e] at h;cases h
   |some a'=>rw[e] at h;obtain⟨i1,i2⟩:=T0 (BB:=BB) n a' _ d h;refine⟨fun p hp=>i1 p<|List.mem_append_left _ hp,fun q=>?_⟩;have:=q _<|i1 _<|List.mem_append_right _<|List.mem_singleton.2 rfl;have this:lN BB (dX a).2.1=lN mem (dX a).2.1:=this;rw[this,e];exact i2 q
  rw[if_neg c2] at h ⊢;by_cases c3:(dX a).1=3
  ·rw[if_pos c3] at h ⊢;injection h with h';subst h'
   exact⟨fun p hp=>hp,fun _=>rfl⟩
  ·rw[if_neg c3] at h ⊢;injection h with h';subst h'
   exact⟨fun p hp=>hp,fun _=>rfl⟩
theorem Wf{mem:List Int}{d:Ce}(h:tz mem d.m d.rs):(pV d).Pairwise (fun a b=>a.1<b.1)/\(∀p∈pV d,0<=p.1/\p.1<(mem.length:Int))/\(pV d).length<=mem.length:=by
 unfold pV;split
 ·exact⟨List.Pairwise.nil,(fun p hp=>by cases hp),Nat.zero_le _⟩
 ·have hb:=h.bi;rw[h.va] at hb;have hk:dU<|allM d.m.b:=LY List.nodup_nil;have hi:vp _<|allM d.m.b:=VB hb fun p hp=>by cases hp
  refine⟨?_,(fun p hp=>hi p<|(Cm _).subset hp),by rw[Aj];exact UY hb⟩;have h1:=Nf<|allM d.m.b;have h2:((dP<|allM d.m.b).map (·.1)).Nodup:=(((Cm<|allM d.m.b).map (·.1)).nodup_iff).2 hk;rw[List.Nodup,List.pairwise_map] at h2;exact(h1.and h2).imp fun q=>by have:=q.1;have:=q.2;omega
end Kk
end
section
open Go Go.Rn Go.RowKit Go.Proofs
namespace JP
open ch fT eX ij fO tI iz FP eO cG dj cQ gi vD gj jW mf nM qA DO zB Dv Bf Ki vI DP DQ Kk Kh tL xD mI mA vC xC
noncomputable section
abbrev Ep(mem:List Int)(d:Ce):AV:=Gt d.x d.re d.rs (pV d) (mM mem<|pV d) d.m.steps
theorem afB{x st:Int}{b:Bool}{rs ws:List<|Int×Int}{mm:List Int}:(Gt x b rs ws mm st).hi=true:=by show([AV.int .i64 x,.bool b,ax aX rs,ax aX ws,ax encI mm,.int .i64 st].all AV.cM&&true)=true;have h1:∀l:List<|Int×Int,(ax aX l).cM=true:=fun l=>aM.2<|cF _;have h2:(ax encI mm).cM=true:=aM.2<|cF _;show((true&&(true&&((ax aX rs).cM&&((ax aX ws).cM&&((ax encI mm).cM&&(true&&true))))))&&true)=true;rw[h1,h1,h2];rfl
theorem W4{S:Type}{enc:S->AV}(inj:∀a b,enc a=enc b->a=b){f:S->List AV->Option (AV×S)}{a a':S}{rest:List AV}{y:AV}(h:f a rest=some (y,a'))(h1:rest.all AV.hi=true)(h2:y.hi=true):iI (gU enc f) (enc a) rest=some (y,enc a'):=acY ((AB inj).trans (by rw[h];rfl)) h1 h2
theorem aiA{m:dE}(hm:mg m)(hs:0<=m.steps/\m.steps<=1000000000000):uu (eg m) []=some (BA<|dX m):=by refine(Ie uC).trans ?_;unfold Kg;rw[if_pos ⟨rfl,hm.ask hs⟩];rfl
theorem OH{B:aJ}(mc:Mt kZ B){mem:List Int}{N o:Nat}(hl:dm encI 1 (.U N o mem.length) mem)(h1:1<=mem.length/\mem.length<=1000):∀(n:Nat) (a:dE) (rs:List<|Int×Int),tz mem a rs->eA a.fs.reverse<n->a.steps+n<=50000->rs.length+n<=50000->
 ∃d,tw mem n a rs=some d/\tz mem d.m d.rs/\(d.re=true->d.x=0)/\lE B (Ep mem d) ni (fy (eg a) (.U N o mem.length) rs)
 |0,_,_,_,h,_,_=>by omega
 |n+1,a,rs,h,hp,hn,hr=>by
  have hN:=hl.len.2.1;have s0:0<=a.steps/\a.steps<=1000000000000:=by have:=h.st;omega
  have hx:=aiA h.mi s0;unfold tw;have fin:∀(d:Ce),d.m=a->d.rs=rs->(d.re=true->d.x=0)->oy eg G5 (eg a) []=some (ax aX<|dP<|allM a.b)/\lE B (Ep mem d) fF (yq (eg a) (.U N o mem.length) d.x d.re rs<|pV d):=by rintro ⟨m,Yl,re,x⟩ rfl rfl Ym;obtain⟨w1,w2,w3⟩:=Wf (d:=⟨m,Yl,re,x⟩) h;have hb:=h.bi;rw[h.va] at hb;refine⟨(Ie uC).trans<|if_pos (by have:=UY hb;omega),tlD mc (Ie uC)<|eP (eK Dw.bM ⟨N,o,mem,_,rfl,hl,⟨h1.1,by omega,by omega⟩,w2,rfl⟩) ?_<|aM.2<|cF _⟩;rw[List.all_cons,hl.hi,List.all_cons,show(ax aX<|pV ⟨m,Yl,re,x⟩).hi=true from aM.2<|cF _];rfl
  rcases TZ h ab with⟨e,a',e1,hd,ok,e2,e3⟩|⟨v,a',e,hv,e1,hd,ok,e2,e3⟩|⟨x,e⟩|e
  ·rw[e,if_pos rfl,e1];rw[e] at hx;obtain⟨d,d1,d2,d3,d4⟩:=OH mc hl h1 n a' rs ok ab ab ab;refine⟨d,d1,d2,d3,jt mc hN ab (an:=0) (xn:=0) hx (W4 uC (f:=F1) ?_ rfl rfl) d4⟩;unfold F1;rw[if_pos ⟨rfl,hd⟩,e1];rfl
  ·rw[e,if_neg (by show ¬((2:Int)=1);omega),if_pos rfl];rw[e] at hx;show ∃d,(nq a<|lN mem v).bind _=some d/\_;rw[e1];obtain⟨d,d1,d2,d3,d4⟩:=OH mc hl h1 n a' _ ok ab ab (by rw[List.length_append];show rs.length+1+n<=_;omega);have hg:mem[v.toNat]? =some (lN mem v):=by unfold lN;rw[List.getD_eq_getElem?_getD,List.getElem?_eq_getElem ab];rfl
   have hf:cr FU N (o+v.toNat*1+0) 1=some [.int .i64<|lN mem v]:=hl.len.2.2 v.toNat _ hg;have kT:iI (gU eg zy) (eg a) [.int .i64<|lN mem v]=some (.int .i64 0,eg a'):=by
    refine W4 uC (f:=zy) ?_ rfl rfl;have e0:zy a [.int .i64<|lN mem v]=(nq a<|lN mem v).map fun a'=>(AV.int .i64 0,a'):=by unfold zy;exact if_pos hd
    rw[e0,e1];rfl
   refine⟨d,d1,d2,d3,?_⟩;cases rs with
   |nil=>exact aiw mc hN hx hv hf kT d4
   |cons q r=>exact aix mc hN ab hx hv hf kT d4
  ·rw[e,if_neg (by show ¬((3:Int)=1);omega),if_neg (by show ¬((3:Int)=2);omega),if_pos rfl];rw[e] at hx;obtain⟨f1,f2⟩:=fin ⟨a,rs,false,x⟩ rfl rfl (fun q=>by cases q);exact⟨_,rfl,h,(fun q=>by cases q),nU mc hN ab hx f1 f2⟩
  ·rw[e,if_neg (by show ¬((4:Int)=1);omega),if_neg (by show ¬((4:Int)=2);omega),if_neg (by show ¬((4:Int)=3);omega)];rw[e] at hx;obtain⟨f1,f2⟩:=fin ⟨a,rs,true,0⟩ rfl rfl fun _=>rfl;exact⟨_,rfl,h,fun _=>rfl,Eo mc hN ab hx f2⟩
def Lf(tx:List St)(mem aD:List Int):Option Ce:=match ia 1000 [tu tx] [[]] with
 |some (st,bb)=>tw mem 3000 ⟨(mem.length:Int),aD,Z8,bb,st.reverse,0⟩ []
 |none=>none
def G8(tx:List St)(mem aD:List Int):AV:=match Lf tx mem aD with
 |some d=>Ep mem d
 |none=>wq 0
def wt(args:List AV)(v:AV):Prop:=∃(tx:List St) (mem aD:List Int) (N o G q:Nat),args=[.U (nm (tx.map aL).flatten) 0 tx.length,.U N o mem.length,.U G q aD.length]/\dm encI 1 (.U N o mem.length) mem/\dm encI 1 (.U G q aD.length) aD/\aD.length<=1000/\((¬(1<=mem.length/\mem.length<=32)/\v=wq 1)\/((1<=mem.length/\mem.length<=32)/\qi 60 tx=true/\ks 60 tx=true/\∃b,tM tx (aD.length:Int) b/\((b=false/\v=wq 4)\/(b=true/\pt 60 tx=true/\kY 6 tx/\v=G8 tx mem aD))))
theorem wt.bM(args:List AV)(v v':AV)(h:wt args v)(h':wt args v'):v=v':=by
 obtain⟨tx,mem,aD,N,o,G,q,rfl,i1,i2,_,h⟩:=h;obtain⟨Yg,BB,Ka,N',o',G',q',e,j1,j2,_,h'⟩:=h';injection e with e1 e;injection e with e2 e;injection e with e3 _
 have e1:tx=Yg:=HJ e1;rw[e2] at i1;rw[e3] at i2;have e2:mem=BB:=i1.inj qT j1;have e3:aD=Ka:=i2.inj qT j2;subst e1;subst e2;subst e3;rcases h with⟨a,rfl⟩|⟨a,_,_,b,m,h⟩<;>rcases h' with⟨a',rfl⟩|⟨a',_,_,b',m',h'⟩
 ·rfl
 ·exact absurd a' a
 ·exact absurd a a'
 ·have:=TS m m';subst this;rcases h with⟨rfl,rfl⟩|⟨rfl,_,_,rfl⟩<;>rcases h' with⟨h1,rfl⟩|⟨h1,_,_,rfl⟩
  ·rfl
  ·cases h1
  ·cases h1
  ·rfl
def Yn:FuncId×KE:=(6,.val<|aP wt)
theorem UZ{tx:List St}{mem aD:List Int}(hm:1<=mem.length/\mem.length<=32)(hg:aD.length<=1000)(pF:tM tx (aD.length:Int) true)(wf:kY 6 tx):∃st bb d,ia 1000 [tu tx] [[]]=some (st,bb)/\tz mem ⟨(mem.length:Int),aD,Z8,bb,st.reverse,0⟩ []/\eA (st.reverse).reverse<=2000/\
 Lf tx mem aD=some d/\tz mem d.m d.rs/\(d.re=true->d.x=0)/\d.rs.length<=3000:=by
 obtain⟨st,bb,hs,hmi⟩:=ad4 (aD:=aD) (vars:=(mem.length:Int)) wf hg ab;have hc:=acx pF;have alO:=ad9 wf hc hs;have hb:mC (mem.length:Int) bb:=EN 1000 _ _ _ _ hs fun m hm=>by rw[List.mem_singleton] at hm;subst hm;intro p hp;cases hp
 have ok:tz mem ⟨(mem.length:Int),aD,Z8,bb,st.reverse,0⟩ []:=⟨hmi,rfl,hb,Int.le_refl _,fun p hp=>by cases hp⟩;have fe:eA (st.reverse).reverse<=2000:=by rw[List.reverse_reverse];omega
 obtain⟨d,d1,d2,d3,d4⟩:=Nl 3000 _ _ ok (by show eA (st.reverse).reverse<3000;omega) (by show(0:Int)+3000<=_;omega);exact⟨st,bb,d,hs,ok,fe,by unfold Lf;rw[hs];exact d1,d2,d3,by have:=d2.st;have d4:d.m.steps<=(0:Int)+(3000:Nat):=d4;omega⟩
theorem afC(hP:bR pg)(hs:C5 pg 62 63){L:bO}(h:aY L):aY<|Yn::L:=by
 refine gO hP h (acs hP<|aa5 hP<|acj hP<|adW hP<|ad5 hP hs<|ad6 hP<|acu hP dc) Tryz.func6 fun args v e=>?_;obtain⟨tx,mem,aD,N,o,G,q,rfl,i1,i2,hg,h⟩:=fV e;refine⟨aM.1 aV,fun B mc=>?_⟩;rw[←ib];have hi:[AV.U (nm (tx.map aL).flatten) 0 tx.length,.int .i64 (mem.length:Int),.U G q aD.length].all AV.hi=true:=by rw[List.all_cons, ←sX,rf,List.all_cons,List.all_cons,i2.hi];rfl
 rcases h with⟨a,rfl⟩|⟨a,d1,d2,b,m,h⟩
 ·exact Yj mc (.inl rfl)<|Um (Ni ⟨tx,_,aD,G,q,rfl,i2,hg,.inl ⟨by omega,rfl⟩⟩) hi rfl
 ·rcases h with⟨rfl,rfl⟩|⟨rfl,gc,wf,rfl⟩
  ·exact Yj mc (.inr rfl)<|Um (Ni ⟨tx,_,aD,G,q,rfl,i2,hg,.inr ⟨by omega,d1,d2,false,m,.inl ⟨rfl,rfl⟩⟩⟩) hi rfl
  ·obtain⟨st,bb,_,e1,ok,hp,_⟩:=UZ a hg m wf;obtain⟨d,k1,_,_,k4⟩:=OH mc i1 ab 3000 _ [] ok (by show eA (st.reverse).reverse<3000;omega) (by show(0:Int)+3000<=_;omega) (by show 0+3000<=_;omega);have e2:G8 tx mem aD=Ep mem d:=by unfold G8 Lf;rw[e1];show(match tw mem 3000 _ [] with|some d=>Ep mem d|none=>wq 0)=_;rw[k1]
   rw[e2];exact G7 mc (acZ (Ni ⟨tx,_,aD,G,q,rfl,i2,hg,.inr ⟨by omega,d1,d2,true,m,.inr ⟨rfl,gc,st,bb,e1,rfl⟩⟩⟩) hi) k4
end
end JP
end
section
open Go Go.Rn Go.RowKit Go.Proofs
namespace Kl
open ch
noncomputable section
def uX(args:List AV)(v:AV):Prop:=args=[]/\v= .bool true
theorem uX.bM(args:List AV)(v v':AV)(h:uX args v)(h':uX args v'):v=v':=by rw[h.2,h'.2]
def VD:FuncId×KE:=(5,.val<|aP uX)
def isT(r:R AV):Bool:=match r with| .ok (.bool true) _=>true|_=>false
def jZ(f:FuncId):Nat:= @Bool.rec (fun _=>Nat) (@Bool.rec (fun _=>Nat) 0 1<|Nat.beq f 61) 1<|Nat.beq f 43
theorem aec:isT (zl pg jZ 60 (.fn 5) [] ⟨dF,270,0,[],[]⟩)=true:=by as_aux_lemma=>kernel_rfl
theorem abh(hP:bR pg){L:bO}(h:aY L):aY<|VD::L:=by
 refine aac (jZ:=jZ) (fun _=>trivial) hP gS qZ jQ ji h Tryz.func5 (body:=aS pg 5 []) aV aV fun args v e=>?_;obtain⟨rfl,rfl⟩:=fV e;have q:=aec;revert q;cases e:zl pg jZ 60 (.fn 5) [] ⟨dF,270,0,[],[]⟩ with
 |bad=>intro q;cases q
 |ok x s1=>
  intro q;refine⟨60,s1,e.trans ?_⟩;cases x with
  |bool b=>cases b with
   |true=>rfl
   |false=>cases q
  |_=>cases q
end
end Kl
end
section
open Go Go.Rn Go.RowKit Go.Proofs
namespace Km
open ch
noncomputable section
def KI:List Item:=[.code<|aS pg 8 [1,1,0,1,0,0],.inLoop<|aS pg 8 [1,1,0,1,0,0],.inBlock 0,.code<|aS pg 8 [1,1,1]]
abbrev Er:Nat:=max Tryz.f8.ntmps 2
def o5(A C L:Nat)(i:Int):List<|Nat×AV:=[(0,.U A 0 L),(1,.U C 0 L),(5,.int .i64 i)]
def o6(A C L:Nat)(i:Int):AF:=⟨8,aE<|o5 A C L i,Er,KI,[],none⟩
abbrev uv(B:aJ)(b:Bool)(fr:AF)(s:AS):Prop:=au pg B 270 (Fin pg (az Tryz.f8) fun y _=>y= .bool b) fr s
abbrev Yo(A C L:Nat)(i:Int):Prop:=((o5 A C L i).map (fun q=>some q.2)=(o5 A C L i).map (fun q=>some q.2))/\(ar.map (fun q=>q.2)=ar.map (fun q=>q.2))/\(o6 A C L i=o6 A C L i/\ah ar 270=ah ar 270)
section
variable {B:aJ} {b:Bool} {A C L:Nat} {i x y:Int}
theorem cI(mc:Mt [] B){t:Tr AV}{K:List Item}(H:uv B b (o6 A C L i)<|ah ar 270)(p:Pl){T:Prop}(z:T)(h:T=wp (en []) 900 6 (.fr 8 Er K t<|ah ar 270) p (az Tryz.f8) (fun y _ _=>y= .bool b) (fun fr s1 _=>fr=o6 A C L i/\s1=ah ar 270):=by as_aux_lemma=>kernel_rfl):uv B b ⟨8,t,Er,K,[],none⟩<|ah ar 270:=wC mc (L:=[]) (C:=fun fr s1 _=>fr=o6 A C L i/\s1=ah ar 270) DE p z h bU
theorem s0(mc:Mt [] B)(H:uv B b (o6 A C L 0)<|ah ar 270):uv B b ⟨8,dt [.U A 0 L,.U C 0 L],Er,(cO 8 []),[],none⟩<|ah ar 270:=cI mc H (.st 4<|.rg<|.go 4<|.fk .no<|.en<|.st 7<|.ls (o5 A C L 0) ar 270 .no)<|aR ((L:Int)≠(L:Int)) (fun h=>show False from h rfl) (fun _=>show Yo A C L 0 from⟨rfl,rfl,rfl,rfl⟩)
theorem sN{L':Nat}(mc:Mt [] B)(hn:L≠L'):uv B false ⟨8,dt [.U A 0 L,.U C 0 L'],Er,(cO 8 []),[],none⟩<|ah ar 270:=wS mc (L:=[]) (R:=fun y _=>y= .bool false) (.st 4<|.rg<|.go 4<|.fk (.en<|.rt 5 .no) .no) (aR ((L:Int)≠(L':Int)) (fun _=>show(AV.bool false)= .bool false from rfl) (fun h=>show False by omega)) bU bU
theorem stp(mc:Mt [] B)(hA:top<=A)(hC:top<=C)(hL:L<=1000000)(h0:0<=i)(h1:i<(L:Int))(hx:cr FU A (0+i.toNat*1+0) 1=some [.int .i64 x])(hy:cr FU C (0+i.toNat*1+0) 1=some [.int .i64 x])(H:uv B b (o6 A C L<|i+1)<|ah ar 270):uv B b (o6 A C L i)<|ah ar 270:=cI mc H (.st 2<|.rg<|.go 3<|.fk (.en<|.st 5<|.rg<|.go 2<|.eB<|.eC [.int .i64 x]<|.go 2<|.eB<|.eC [.int .i64 x]<|.fk .no<|.en<|.st 3<|.rg<|.go 1<|.vl (i6<|i+1)<|.go 1<|.en<|.st 1<|.ls (o5 A C L<|i+1) ar 270 .no) .no)<|aR (i<(L:Int)) (fun _=>And.intro (show(0:Int)<=i from h0)<|ai (show i<(L:Int) from h1)<|ai hA<|ai hx<|ai (show(0:Int)<=i from h0)<|ai (show i<(L:Int) from h1)<|ai hC<|ai hy<|aR (x≠x) (fun h=>show False from h rfl) fun _=>And.intro (congrArg (AV.int .i64) (show IntKind.wrap .i64 (i+1)=i+1 from Ab ab)) (show Yo A C L (i+1) from⟨rfl,rfl,rfl,rfl⟩)) (fun h=>show False from h h1)
theorem stN(mc:Mt [] B)(hA:top<=A)(hC:top<=C)(h0:0<=i)(h1:i<(L:Int))(hx:cr FU A (0+i.toNat*1+0) 1=some [.int .i64 x])(hy:cr FU C (0+i.toNat*1+0) 1=some [.int .i64 y])(cf:x≠y):uv B false (o6 A C L i)<|ah ar 270:=wS mc (L:=[]) (R:=fun y _=>y= .bool false) (.st 2<|.rg<|.go 3<|.fk (.en<|.st 5<|.rg<|.go 2<|.eB<|.eC [.int .i64 x]<|.go 2<|.eB<|.eC [.int .i64 y]<|.fk (.en<|.rt 4 .no) .no) .no) (aR (i<(L:Int)) (fun _=>And.intro (show(0:Int)<=i from h0)<|ai (show i<(L:Int) from h1)<|ai hA<|ai hx<|ai (show(0:Int)<=i from h0)<|ai (show i<(L:Int) from h1)<|ai hC<|ai hy<|aR (x≠y) (fun _=>show(AV.bool false)= .bool false from rfl) (fun h=>show False from h cf)) (fun h=>show False from h h1)) bU bU
theorem sE(mc:Mt [] B)(h1:(L:Int)<=i):uv B true (o6 A C L i)<|ah ar 270:=wS mc (L:=[]) (R:=fun y _=>y= .bool true) (.st 2<|.rg<|.go 3<|.fk .no<|.en<|.rt 5 .no) (aR (i<(L:Int)) (fun h=>show False by omega) (fun _=>show(AV.bool true)= .bool true from rfl)) bU bU
end
def zi(args:List AV)(v:AV):Prop:=∃l m:List Int,args=[ax encI l,ax encI m]/\l.length<=1000000/\v= .bool (decide<|l=m)
theorem T1{l m:List Int}(h:ax encI l=ax encI m):l=m:=by
 have e:dm encI 1 (ax encI l) m:=by rw[h];exact dm.ax eI m
 exact dm.inj qT (dm.ax eI l) e
theorem zi.bM(args:List AV)(v v':AV)(h:zi args v)(h':zi args v'):v=v':=by
 obtain⟨l,m,rfl,_,rfl⟩:=h;obtain⟨l',m',e,_,rfl⟩:=h';injection e with e1 e;injection e with e2 _
 rw[T1 e1,T1 e2]
def Wg:FuncId×KE:=(8,.val<|aP zi)
theorem acy(hP:bR pg){L:bO}(h:aY L):aY<|Wg::L:=by
 refine gO hP h dc Tryz.func8 fun args v e=>?_;obtain⟨l,m,rfl,hl,rfl⟩:=fV e;refine⟨aM.1 aV,fun B mc=>?_⟩;rw[←ib];by_cases hn:l.length=m.length
 ·have key:∀(n i:Nat),l.length - i=n->i<=l.length->l.take i=m.take i->uv B (decide<|l=m) (o6 (nm (l.map encI).flatten) (nm (m.map encI).flatten) l.length i) (ah ar 270):=by
   intro n;induction n with
   |zero=>
    intro i h1 h2 h3;have:l=m:=by rw[List.take_of_length_le ab,List.take_of_length_le ab] at h3;exact h3
    rw[decide_eq_true this];exact sE mc ab
   |succ n ih=>
    intro i h1 h2 h3;have hi:i<l.length:=by omega
    have hx:=sL eI (List.getElem?_eq_getElem hi) 0 1 ab;have hy:=sL eI (List.getElem?_eq_getElem (show i<m.length by omega)) 0 1 ab;have ei:0+(i:Int).toNat*1+0=i*1+0:=by omega
    rw[←ei] at hx hy;by_cases q:l[i]=m[i]'ab
    ·rw[←q] at hy;have:=ih (i+1) ab ab (by rw[List.take_add_one,List.take_add_one,h3,List.getElem?_eq_getElem hi,List.getElem?_eq_getElem (show i<m.length by omega),q]);rw[show(((i+1:Nat)):Int)=(i:Int)+1 by omega] at this;exact stp mc (cF _) (cF _) hl ab ab hx hy this
    ·have:l≠m:=fun e=>q (by subst e;rfl);rw[decide_eq_false this];exact stN mc (cF _) (cF _) ab ab hx hy q
  have:=s0 mc<|key _ 0 rfl (Nat.zero_le _) rfl;show uv B (decide<|l=m) ⟨8,dt [.U (nm (l.map encI).flatten) 0 l.length,.U (nm (m.map encI).flatten) 0 m.length],Er,(cO 8 []),[],none⟩<|ah ar 270;rw[←hn];exact this
 ·have:l≠m:=fun e=>hn (by rw[e]);rw[decide_eq_false this];exact sN mc hn
end
end Km
end
section
open Go Go.Rn Go.RowKit Go.Proofs
namespace PW
open ch eO fT lR DR F2 vI DQ Kk Kh JP Kl Km
variable {wl:Nat} {r:Nat->Nat} {t:Tr AV} {s:AS} {fz:kN} {c:Int} {T:Prop} {K:List Item}
noncomputable section
abbrev LJ:bO:=[vj 22,VD,Yn,Wg]
abbrev yr:Nat:=max Tryz.f3.ntmps 3
abbrev kf(B:aJ)(fr:AF)(s:AS):Prop:=au pg B 270 (Fin pg (az Tryz.f3) fun y _=>y= .bool true) fr s
def Q4(N o L:Nat)(e:Int):List<|Nat×AV:=[(1,.U N o L),(7,.ptr<|some (270,0)),(8,.int .i64 e)]
def sc(cs:List AV):List<|Nat×Option ae:=ar++[(270,some<|.cells 6 (Tr.fill cs 0 .nil) [])]
def G9(N o L:Nat)(e:Int):AF:=⟨3,aE<|Q4 N o L e,yr,[.code<|aS pg 3 [1,1,1,0,0],.code<|aS pg 3 [1,1,1,0,1],.code<|aS pg 3 [1,1,1,1]],[],none⟩
def yu(N o L wl:Nat)(i:Int):List<|Nat×AV:=[(1,.U N o L),(7,.ptr<|some (270,0)),(9,.slice (some (272,0)) wl<|.aq wl 1),(10,.int .i64 i)]
def kB(cs:List AV)(w:List Int):List<|Nat×Option ae:=ar++[(270,some<|.cells 6 (Tr.fill cs 0 .nil) []),(272,some<|aA encI w)]
def wu(N o L wl:Nat)(i:Int):AF:=⟨3,aE<|yu N o L wl i,yr,[.code<|aS pg 3 [1,1,1,1,1,0,1,0,0],.inLoop<|aS pg 3 [1,1,1,1,1,0,1,0,0],.inBlock 0,.code<|aS pg 3 [1,1,1,1,1,1]],[],none⟩
def ep(N o L:Nat)(w:List Int)(i:Int):List<|Nat×AV:=[(1,.U N o L),(7,.ptr<|some (270,0)),(9,ax encI w),(12,.int .i64 i)]
def Lg(N o L:Nat)(w:List Int):List<|Nat×AV:=[(1,.U N o L),(7,.ptr<|some (270,0)),(9,.slice (some (272,0)) w.length<|.aq w.length 1),(12,.int .i64 0)]
abbrev nX(cs:List AV):List<|Nat×Option ae:=sc cs
def gq(N o L:Nat)(w:List Int)(i:Int):AF:=⟨3,aE<|ep N o L w i,yr,[.code<|aS pg 3 [1,1,1,1,1,1,0,1,0,0],.inLoop<|aS pg 3 [1,1,1,1,1,1,0,1,0,0],.inBlock 2,.code<|aS pg 3 [1,1,1,1,1,1,1]],[],none⟩
def eY(x:Int)(b:Bool)(rs ws:List<|Int×Int)(mm:List Int)(st:Int):List AV:=[.int .i64 x,.bool b,ax aX rs,ax aX ws,ax encI mm,.int .i64 st]
abbrev Ls(l:List<|Nat×AV)(o:List<|Nat×Option ae)(fr:AF)(s:AS):Prop:=(l.map (fun q=>some q.2)=l.map (fun q=>some q.2))/\(o.map (fun q=>q.2)=o.map (fun q=>q.2))/\(fr=fr/\s=s)
abbrev Bk(l:List<|Nat×AV)(o:List<|Nat×Option ae)(nx:Nat)(fr:AF)(s:AS):Prop:=(l.map (fun q=>some q.2)=l.map (fun q=>some q.2))/\(o.map (fun q=>q.2)=o.map (fun q=>q.2))/\pE nx l o/\(fr=fr/\s=s)
section
variable {B:aJ} {N o L X xl G go gl:Nat} {cs:List AV} {m e x ak pa i st:Int} {b:Bool} {rs ws:List<|Int×Int} {mem mm w:List Int}
theorem cJ(mc:Mt LJ B){F:AF}{S:AS}(H:kf B F S)(p:Pl)(z:T)(h:T=wp (en LJ) 900 6 (.fr 3 yr K t s) p (az Tryz.f3) (fun y _ _=>y= .bool true) (fun fr s1 _=>fr=F/\s1=S):=by as_aux_lemma=>kernel_rfl)(h0:Nat.ble 270 s.nx=true:=by as_aux_lemma=>kernel_rfl):kf B ⟨3,t,yr,K,[],none⟩ s:=wC mc (C:=fun fr s1 _=>fr=F/\s1=S) DE p z h h0
theorem eJ{L0:bO}(mc:Mt L0 B)(p:Pl)(z:T)(h:T=wp (en L0) 900 6 (.fr 3 yr K t s) p (az Tryz.f3) (fun y _ _=>y= .bool true) (fun _ _ _=>False):=by as_aux_lemma=>kernel_rfl)(h0:Nat.ble 270 s.nx=true:=by as_aux_lemma=>kernel_rfl):kf B ⟨3,t,yr,K,[],none⟩ s:=wS mc (R:=fun y _=>y= .bool true) p z h h0
abbrev Lh(X xl N o L G go gl:Nat):AF:=⟨3,dt [.U X 0 xl,.U N o L,.U G go gl],yr,(cO 3 []),[],none⟩
theorem s0L(mc:Mt LJ B)(kM:bf (aP<|nB 22) [.U X 0 xl,.int .i64<|.ofNat 0]=some (.tuple [.int .i64 m,.bool true]))(kA:bf (aP uX) []=some (.bool true)):kf B (Lh X xl N o L G go gl)<|ah ar 270:=eJ mc (.st 4<|.rg<|.go 1<|.il<|.st 3<|.rg<|.go 1<|.kn (.tuple [.int .i64 m,.bool true])<|.go 5<|.en<|.rt 3<|.go 14<|.en<|.st 2<|.rg<|.kn (.bool true)<|.go 1<|.en<|.rt 1 .no)<|ai kM<|ai kA (show AV.bool true= .bool true from rfl)
theorem s0B(mc:Mt LJ B)(hb:L>100\/gl>100)(kM:bf (aP<|nB 22) [.U X 0 xl,.int .i64<|.ofNat 0]=some (.tuple [.int .i64 m,.bool false]))(kA:bf (aP uX) []=some (.bool true)):kf B (Lh X xl N o L G go gl)<|ah ar 270:=eJ mc (.st 4<|.rg<|.go 1<|.il<|.st 3<|.rg<|.go 1<|.kn (.tuple [.int .i64 m,.bool false])<|.go 5<|.en<|.rt 3<|.go 3<|.fk (.go 10<|.en<|.st 2<|.rg<|.kn (.bool true)<|.go 1<|.en<|.rt 1 .no)<|.go 4<|.fk (.go 5<|.en<|.st 2<|.rg<|.kn (.bool true)<|.go 1<|.en<|.rt 1 .no) .no)<|ai kM<|aR ((L:Int)>100) (fun _=>And.intro kA (show AV.bool true= .bool true from rfl)) fun h=>aR ((gl:Int)>100) (fun _=>And.intro kA (show AV.bool true= .bool true from rfl)) (fun _=>show False by omega)
theorem G7(mc:Mt LJ B)(hb:L<=100/\gl<=100)(kM:bf (aP<|nB 22) [.U X 0 xl,.int .i64<|.ofNat 0]=some (.tuple [.int .i64 m,.bool false]))(kA:bf (aP uX) []=some (.bool true))(kD:bf (aP wt) [.U X 0 xl,.U N o L,.U G go gl]=some (.tuple [.agg cs,.int .i64 e]))(H:kf B (G9 N o L e)<|ah (sc cs) 271)(h:(bf (aP<|nB 22) [.U X 0 xl,.int .i64<|.ofNat 0]=some (.tuple [.int .i64 m,.bool false])/\(((L:Int)>100->False)/\(¬(L:Int)>100->(((gl:Int)>100->False)/\(¬(gl:Int)>100->bf (aP uX) []=some (.bool true)/\bf (aP wt) [.U X 0 xl,.U N o L,.U G go gl]=some (.tuple [.agg cs,.int .i64 e])/\Ls (Q4 N o L e) (sc cs) (G9 N o L e) (ah (sc cs) 271))))))=wp (en LJ) 900 6 (.fr 3 yr (cO 3 []) (dt [.U X 0 xl,.U N o L,.U G go gl])<|ah ar 270) (.st 4<|.rg<|.go 1<|.il<|.st 3<|.rg<|.go 1<|.kn (.tuple [.int .i64 m,.bool false])<|.go 5<|.en<|.rt 3<|.go 3<|.fk .no<|.go 4<|.fk .no<|.go 2<|.kn (.bool true)<|.go 2<|.en<|.st 3<|.rg<|.go 3<|.kn (.tuple [.agg cs,.int .i64 e])<|.go 6<|.en<|.st 2<|.ls (Q4 N o L e) (sc cs) 271 .no) (az Tryz.f3) (fun y _ _=>y= .bool true) (fun fr s1 _=>fr=G9 N o L e/\s1=ah (sc cs) 271):=by as_aux_lemma=>kernel_rfl):kf B (Lh X xl N o L G go gl)<|ah ar 270:=cJ mc H _ ⟨kM,(fun h=>by omega),fun _=>⟨(fun h=>by omega),fun _=>⟨kA,kD,rfl,rfl,rfl,rfl⟩⟩⟩ h
theorem okJ(mc:Mt LJ B)(hm:1<=mem.length/\mem.length<=1000)(hf:top<=N/\cr FU N o (mem.length*1)=some (mem.map encI).flatten/\mem.length=mem.length)(H:kf B (wu N o mem.length ([]++mem).length 0)<|ah (kB (eY x b rs ws mm st)<|[]++mem) 273):kf B (G9 N o mem.length 0)<|ah (sc<|eY x b rs ws mm st) 271:=cJ mc H (.st 4<|.rg<|.go 2<|.al Int encI [] mem<|.go 1<|.en<|.st 5<|.ls (yu N o mem.length ([]++mem).length 0) (kB (eY x b rs ws mm st)<|[]++mem) 273 .no)<|GW encI [] mem (K:=1) (nf:=8) hf (fun x=>⟨rfl,rfl⟩) (by simp only[List.length_nil];unfold room;omega) (by simp only[List.length_nil];unfold top;omega) (show Ls (yu N o mem.length ([]++mem).length 0) (kB (eY x b rs ws mm st)<|[]++mem) (wu N o mem.length ([]++mem).length 0) (ah (kB (eY x b rs ws mm st)<|[]++mem) 273) from⟨rfl,rfl,rfl,rfl⟩)
theorem W5(mc:Mt [] B)(he:e=1\/e=4):kf B (G9 N o L e)<|ah (sc [z0,.bool false,nl,nl,nl,z0]) 271:=by
 rcases he with rfl|rfl
 ·exact eJ mc (.st 3<|.rg<|.go 2<|.il<|.st 3<|.rg<|.go 24<|.il<|.rt 20<|.go 6<|.il<|.rt 20<|.go 6<|.il<|.rt 20<|.go 2<|.en<|.rt 1<|.go 1<|.en<|.rt 1 .no) (show AV.bool true= .bool true from rfl)
 ·exact eJ mc (.st 3<|.rg<|.go 2<|.il<|.st 3<|.rg<|.go 24<|.il<|.rt 20<|.go 6<|.il<|.rt 20<|.go 6<|.il<|.rt 20<|.go 2<|.en<|.rt 1<|.go 1<|.en<|.rt 1 .no) (show AV.bool true= .bool true from rfl)
theorem afD(ht:∀k,top<=k->r k=k):kG fz r (eY x b rs ws mm st)<|eY x b rs ws mm st:=⟨(ba.int _ _).z,(ba.bool _).z,Iu ht,Iu ht,Iu ht,(ba.int _ _).z,trivial⟩
theorem NV(hr:∀k,k<271->r k=k)(ht:∀k,top<=k->r k=k):∀p∈sc (eY x b rs ws mm st),p.1<271/\∀y,p.2=some y->y.jO=true/\eZ fz r y y:=fun p hp=>by
 unfold sc at hp;rcases List.mem_append.1 hp with hp|hp
 ·obtain⟨a,b⟩:=Dt (fz:=fz) (fun k hk=>hr k ab) p hp;exact⟨by omega,b⟩
 ·rw[List.mem_singleton] at hp;subst hp;refine⟨by show 270<271;omega,fun y hy=>?_⟩;cases hy;exact⟨rfl,eZ.cells (l:=eY x b rs ws mm st) (m:=eY x b rs ws mm st) (by show 6<=top;unfold top;omega) (afD ht) rfl⟩
theorem W6{x y:ae}(h:eZ [] r x y):kL r x y:=fun ρ N o k=>h ρ ρ N o ⟨Ren.le_refl _,fun _ _=>rfl,fun p hp=>by cases hp⟩ k
theorem VE:kB cs w=sc cs++[(272,some<|aA encI w)]:=by unfold kB sc;rw[List.append_assoc];rfl
theorem W7(hN:top<=N)(hw:w.length<=100000):pE 273 (yu N o L wl i)<|kB (eY x b rs ws mm st) w:=by
 intro r r1 r2;refine⟨fun p hp=>?_,fun p hp y hy=>?_⟩
 ·simp only[yu,List.mem_cons,List.not_mem_nil,or_false] at hp;rcases hp with rfl|rfl|rfl|rfl
  ·exact ba.U (r2 _ hN) r2
  ·exact ba.ptr<|r1 270 ab
  ·exact ba.slice<|r1 272 ab
  ·exact ba.int _ _
 ·rw[VE] at hp;rcases List.mem_append.1 hp with hp|hp
  ·exact W6 ((NV (fun k hk=>r1 k ab) r2 p hp).2 y hy).2
  ·rw[List.mem_singleton] at hp;subst hp;cases hy;exact kL.aA (fun x=>⟨rfl,rfl⟩) (by rw[eI.length];unfold top;omega)
theorem aiB(hN:top<=N):pE 271 (ep N o L w i)<|nX<|eY x b rs ws mm st:=by
 intro r r1 r2;refine⟨fun p hp=>?_,fun p hp y hy=>W6 ((NV r1 r2 p hp).2 y hy).2⟩;simp only[ep,List.mem_cons,List.not_mem_nil,or_false] at hp;rcases hp with rfl|rfl|rfl|rfl
 ·exact ba.U (r2 _ hN) r2
 ·exact ba.ptr<|r1 270 ab
 ·exact ba.U (r2 _<|cF _) r2
 ·exact ba.int _ _
variable {z:Int}
abbrev nP(l:List<|Int×Int):Nat:=nm (l.map aX).flatten
theorem r1p(mc:Mt LJ B)(hN:top<=N)(hw:w.length=wl/\wl<=1000)(hi:0<i/\i<(ws.length:Int))(hl:ws.length<=100000)(hx:cr FU (nP ws) (0+i.toNat*2+0) 2=some [.int .i64 ak,.int .i64 x])(hp:cr FU (nP ws) (0+(i - 1).toNat*2+0) 1=some [.int .i64 pa])(ha:0<=ak/\ak<(wl:Int))(hq:pa<ak)(hc:w[ak.toNat]? =some c)(H:kf B (wu N o L wl<|i+1)<|ah (kB (eY z b rs ws mm st)<|w.set ak.toNat x) 273):kf B (wu N o L wl i)<|ah (kB (eY z b rs ws mm st) w) 273:=cJ mc H (.st 2<|.rg<|.go 4<|.fk (.en<|.st 5<|.rg<|.go 3<|.eB<|.eC [.int .i64 ak,.int .i64 x]<|.go 2<|.en<|.st 2<|.rg<|.go 2<|.fk .no<|.go 5<|.fk .no<|.go 3<|.fk (.go 4<|.vl (i6<|i - 1)<|.eB<|.go 1<|.eC [.int .i64 pa]<|.go 2<|.fk .no<|.go 2<|.en<|.st 2<|.rg<|.go 5<|.ix<|.mj (aA encI<|w.set ak.toNat x)<|.en<|.st 1<|.rg<|.go 1<|.vl (i6<|i+1)<|.go 1<|.en<|.st 1<|.bk (yu N o L wl<|i+1) (kB (eY z b rs ws mm st)<|w.set ak.toNat x) 273 .no) .no) .no)<|aR (i<(ws.length:Int)) (fun _=>(ai (show(0:Int)<=i by omega)<|ai (show i<(ws.length:Int) by omega)<|ai (cF (ws.map aX).flatten)<|ai hx<|aR (ak<0) (fun h=>show False by omega) fun _=>(aR (ak>=(wl:Int)) (fun h=>show False by omega) fun _=>(aR (i>0) (fun _=>(ai (congrArg (AV.int .i64) (show IntKind.wrap .i64 (i - 1)=i - 1 from Ab ab))<|ai (show(0:Int)<=i - 1 by omega)<|ai (show i - 1<(ws.length:Int) by omega)<|ai (cF (ws.map aX).flatten)<|ai hp<|aR (pa>=ak) (fun h=>show False by omega) fun _=>(ai (show(0:Int)<=ak from ha.1)<|ai (show ak<(wl:Int) from ha.2)<|ai (ph (enc:=encI) (K:=1) (fun _=>rfl) dZ hc (c':=x) (r:=[.int .i64 x]) 0 rfl rfl rfl)<|ai (congrArg (AV.int .i64) (show IntKind.wrap .i64 (i+1)=i+1 from Ab ab)) (show Bk (yu N o L wl<|i+1) (kB (eY z b rs ws mm st)<|w.set ak.toNat x) 273 (wu N o L wl<|i+1) (ah (kB (eY z b rs ws mm st)<|w.set ak.toNat x) 273) from⟨rfl,rfl,W7 hN (by rw[List.length_set];omega),rfl,rfl⟩)))) (fun h=>show False by omega))))) (fun h=>show False by omega)
theorem r1z(mc:Mt LJ B)(hN:top<=N)(hw:w.length=wl/\wl<=1000)(hi0:i=0)(hi:i<(ws.length:Int))(hx:cr FU (nP ws) (0+i.toNat*2+0) 2=some [.int .i64 ak,.int .i64 x])(ha:0<=ak/\ak<(wl:Int))(hc:w[ak.toNat]? =some c)(H:kf B (wu N o L wl<|i+1)<|ah (kB (eY z b rs ws mm st)<|w.set ak.toNat x) 273):kf B (wu N o L wl i)<|ah (kB (eY z b rs ws mm st) w) 273:=cJ mc H (.st 2<|.rg<|.go 4<|.fk (.en<|.st 5<|.rg<|.go 3<|.eB<|.eC [.int .i64 ak,.int .i64 x]<|.go 2<|.en<|.st 2<|.rg<|.go 2<|.fk .no<|.go 5<|.fk .no<|.go 3<|.fk .no<|.go 13<|.en<|.st 2<|.rg<|.go 5<|.ix<|.mj (aA encI<|w.set ak.toNat x)<|.en<|.st 1<|.rg<|.go 1<|.vl (i6<|i+1)<|.go 1<|.en<|.st 1<|.bk (yu N o L wl<|i+1) (kB (eY z b rs ws mm st)<|w.set ak.toNat x) 273 .no) .no)<|aR (i<(ws.length:Int)) (fun _=>(ai (show(0:Int)<=i by omega)<|ai (show i<(ws.length:Int) by omega)<|ai (cF (ws.map aX).flatten)<|ai hx<|aR (ak<0) (fun h=>show False by omega) fun _=>(aR (ak>=(wl:Int)) (fun h=>show False by omega) fun _=>(aR (i>0) (fun h=>show False by omega) fun _=>(ai (show(0:Int)<=ak from ha.1)<|ai (show ak<(wl:Int) from ha.2)<|ai (ph (enc:=encI) (K:=1) (fun _=>rfl) dZ hc (c':=x) (r:=[.int .i64 x]) 0 rfl rfl rfl)<|ai (congrArg (AV.int .i64) (show IntKind.wrap .i64 (i+1)=i+1 from Ab ab)) (show Bk (yu N o L wl<|i+1) (kB (eY z b rs ws mm st)<|w.set ak.toNat x) 273 (wu N o L wl<|i+1) (ah (kB (eY z b rs ws mm st)<|w.set ak.toNat x) 273) from⟨rfl,rfl,W7 hN (by rw[List.length_set];omega),rfl,rfl⟩)))))) (fun h=>show False by omega)
theorem x1(mc:Mt LJ B)(hN:top<=N)(hw:w.length<=1000)(hi:(ws.length:Int)<=i)(H:kf B (gq N o L w 0)<|ah (nX<|eY z b rs ws mm st) 271):kf B (wu N o L w.length i)<|ah (kB (eY z b rs ws mm st) w) 273:=
 cJ mc H (.st 2<|.rg<|.go 4<|.fk .no<|.en<|.st 7<|.rn (Lg N o L w) (kB (eY z b rs ws mm st) w) (ep N o L w 0) (nX<|eY z b rs ws mm st) 273 271 .no)
  (aR (i<(ws.length:Int)) (fun h=>show False by omega) (fun _=>show((Lg N o L w).map (fun q=>some q.2)=(Lg N o L w).map (fun q=>some q.2))/\((kB (eY z b rs ws mm st) w).map (fun q=>q.2)=(kB (eY z b rs ws mm st) w).map (fun q=>q.2))/\hI FU 270 273 (Lg N o L w) (kB (eY z b rs ws mm st) w) (ep N o L w 0) (nX<|eY z b rs ws mm st) 271/\(gq N o L w 0=gq N o L w 0/\ah (nX<|eY z b rs ws mm st) 271=ah (nX<|eY z b rs ws mm st) 271) from
   ⟨rfl,rfl,JN (fz:=[(272,nm (w.map encI).flatten,(w.map encI).flatten)]) ab ab dZ (fun r hr ht p hp=>by
    simp only[ep,List.mem_cons,List.not_mem_nil,or_false] at hp;rcases hp with rfl|rfl|rfl|rfl
    ·exact⟨by show 1<top;unfold top;omega,_,mi 0,(ba.U (ht _ hN) ht).z⟩
    ·exact⟨by show 7<top;unfold top;omega,_,mi 1,(ba.ptr<|hr 270 ab).z⟩
    ·exact⟨by show 9<top;unfold top;omega,_,mi 2,Fa (List.mem_singleton.2 rfl) ht rfl⟩
    ·exact⟨by show 12<top;unfold top;omega,_,mi 3,(ba.int _ _).z⟩) (fun r hr ht p hp=>by
    obtain⟨q1,q2⟩:=NV (fz:=[(272,nm (w.map encI).flatten,(w.map encI).flatten)]) hr ht p hp;refine⟨q1,fun y hy=>?_⟩;obtain⟨c,d⟩:=q2 y hy;refine⟨c,y,?_,fK.refl _,d⟩;rw[VE];exact List.mem_append_left _ (by rw[←hy];exact hp)) (fun p hp=>by
    rw[List.mem_singleton] at hp;subst hp;exact⟨by show 271<=272;omega,Fb eI dZ 272 dZ<|List.mem_append_right _<|List.mem_cons_of_mem _ List.mem_cons_self⟩),rfl,rfl⟩))
theorem r2(mc:Mt LJ B)(hN:top<=N)(hi:0<=i/\i<(rs.length:Int))(hl:rs.length<=100000)(hx:cr FU (nP rs) (0+i.toNat*2+0) 2=some [.int .i64 ak,.int .i64 x])(ha:0<=ak/\ak<(L:Int))(hm:cr FU N (o+ak.toNat*1+0) 1=some [.int .i64 x])(H:kf B (gq N o L w<|i+1)<|ah (nX<|eY z b rs ws mm st) 271):kf B (gq N o L w i)<|ah (nX<|eY z b rs ws mm st) 271:=cJ mc H (.st 2<|.rg<|.go 4<|.fk (.en<|.st 5<|.rg<|.go 3<|.eB<|.eC [.int .i64 ak,.int .i64 x]<|.go 2<|.en<|.st 1<|.rg<|.go 2<|.fk .no<|.go 5<|.fk .no<|.go 5<|.eB<|.eC [.int .i64 x]<|.go 2<|.fk .no<|.go 1<|.en<|.st 3<|.rg<|.go 1<|.vl (i6<|i+1)<|.go 1<|.en<|.st 1<|.bk (ep N o L w<|i+1) (nX<|eY z b rs ws mm st) 271 .no) .no)<|aR (i<(rs.length:Int)) (fun _=>And.intro (show(0:Int)<=i from hi.1)<|ai (show i<(rs.length:Int) from hi.2)<|ai (cF (rs.map aX).flatten)<|ai hx<|aR (ak<0) (fun h=>show False by omega) fun _=>aR (ak>=(L:Int)) (fun h=>show False by omega) fun _=>And.intro (show(0:Int)<=ak from ha.1)<|ai (show ak<(L:Int) from ha.2)<|ai hN<|ai hm<|aR (x≠x) (fun h=>show False from h rfl) fun _=>And.intro (congrArg (AV.int .i64) (show IntKind.wrap .i64 (i+1)=i+1 from Ab ab)) (show Bk (ep N o L w<|i+1) (nX<|eY z b rs ws mm st) 271 (gq N o L w<|i+1) (ah (nX<|eY z b rs ws mm st) 271) from⟨rfl,rfl,aiB hN,rfl,rfl⟩)) (fun h=>show False by omega)
theorem jK(mc:Mt LJ B)(hi:(rs.length:Int)<=i)(kI:bf (aP zi) [ax encI mm,ax encI w]=some (.bool true))(cn:(rs.length:Int)<=st):kf B (gq N o L w i)<|ah (nX<|eY z false rs ws mm st) 271:=eJ mc (.st 2<|.rg<|.go 4<|.fk .no<|.en<|.st 3<|.rg<|.go 3<|.kn (.bool true)<|.go 22<|.fk (.go 2<|.en<|.rt 1 .no) .no)<|aR (i<(rs.length:Int)) (fun h=>show False by omega) fun _=>And.intro kI<|aR (st>=(rs.length:Int)) (fun _=>show AV.bool true= .bool true from rfl) (fun h=>show False by omega)
theorem enT(mc:Mt LJ B)(hi:(rs.length:Int)<=i)(kI:bf (aP zi) [ax encI mm,ax encI w]=some (.bool true))(cn:(rs.length:Int)<=st):kf B (gq N o L w i)<|ah (nX<|eY 0 true rs [] mm st) 271:=eJ mc (.st 2<|.rg<|.go 4<|.fk .no<|.en<|.st 3<|.rg<|.go 3<|.kn (.bool true)<|.go 22<|.fk (.go 2<|.en<|.rt 1 .no) .no)<|aR (i<(rs.length:Int)) (fun h=>show False by omega) fun _=>And.intro kI<|aR (st>=(rs.length:Int)) (fun _=>show AV.bool true= .bool true from rfl) (fun h=>show False by omega)
end
end
end PW
end
section
open Go Go.Rn Go.RowKit Go.Proofs
namespace Wh
open ch fT eX ij fO tI iz FP eO cG dj cQ gi vD gj jW mf nM qA DO zB Dv Bf Ki vI DP DQ Kk Kh JP tL xD mI mA vC xC DR F2 JO Kl Km PW
variable {p:Int×Int} {i:Nat}
section
variable {B:aJ} {mem mm w:List Int} {z st:Int} {b:Bool} {rs ws:List<|Int×Int}
noncomputable abbrev nI(l:List Int):Nat:=nm (l.map encI).flatten
theorem Pn{l:List<|Int×Int}(h:l[i]? =some p){k:Int}(hk:k.toNat=i):cr FU (nP l) (0+k.toNat*2+0) 2=some [.int .i64 p.1,.int .i64 p.2]/\cr FU (nP l) (0+k.toNat*2+0) 1=some [.int .i64 p.1]:=by
 have e:0+k.toNat*2+0=i*2+0:=by omega
 rw[e];exact⟨sL vI.zA h 0 2 ab,sL vI.zA h 0 1 ab⟩
theorem ahb(mc:Mt LJ B)(hrs:rs.length<=100000)(hr:∀p∈rs,0<=p.1/\p.1<(mem.length:Int)/\p.2=lN mem p.1)(E:∀i:Int,(rs.length:Int)<=i->kf B (gq (nI mem) 0 mem.length w i) (ah (nX<|eY z b rs ws mm st) 271)):
 ∀(n i:Nat),rs.length - i=n->kf B (gq (nI mem) 0 mem.length w i) (ah (nX<|eY z b rs ws mm st) 271):=by
 intro n;induction n with
 |zero=>exact fun i h=>E i ab
 |succ n ih=>
  intro i h;have hi:i<rs.length:=by omega
  have hp:=List.getElem?_eq_getElem hi;obtain⟨a1,a2,a3⟩:=hr _<|List.mem_of_getElem? hp;obtain⟨x1,_⟩:=Pn hp (k:=(i:Int)) ab;have hg:mem[(rs[i]).1.toNat]? =some (rs[i]).2:=by rw[a3];unfold lN;rw[List.getD_eq_getElem?_getD,List.getElem?_eq_getElem ab];rfl
  have hm:cr FU (nI mem) (0+(rs[i]).1.toNat*1+0) 1=some [.int .i64 (rs[i]).2]:=by have:=sL eI hg 0 1 ab;rw[show 0+(rs[i]).1.toNat*1+0=(rs[i]).1.toNat*1+0 by omega];exact this
  have:=ih (i+1) ab;rw[show(((i+1:Nat)):Int)=(i:Int)+1 by omega] at this;exact r2 mc (cF _) ab hrs x1 ⟨a1,a2⟩ hm this
theorem aed{l:List Int}(h:ws[i]? =some p):mM l (ws.take<|i+1)=(mM l<|ws.take i).set p.1.toNat p.2:=by rw[List.take_add_one,h];unfold mM;rw[List.foldl_append];rfl
theorem ahc(mc:Mt LJ B)(hl:mem.length<=1000)(GJ:ws.Pairwise fun a b=>a.1<b.1)(hw2:∀p∈ws,0<=p.1/\p.1<(mem.length:Int))(hw3:ws.length<=100000)(E:kf B (gq (nI mem) 0 mem.length (mM mem ws) 0)<|ah (nX<|eY z b rs ws mm st) 271):
 ∀(n i:Nat),ws.length - i=n->kf B (wu (nI mem) 0 mem.length mem.length i) (ah (kB (eY z b rs ws mm st)<|mM mem<|ws.take i) 273):=by
 intro n;induction n with
 |zero=>intro i h;rw[List.take_of_length_le ab];have:=x1 (i:=(i:Int)) mc (cF _) (by rw[Fj];exact hl) ab E;rw[Fj] at this;exact this
 |succ n ih=>
  intro i h;have hi:i<ws.length:=by omega
  have hp:=List.getElem?_eq_getElem hi;obtain⟨a1,a2⟩:=hw2 _<|List.mem_of_getElem? hp;obtain⟨q1,_⟩:=Pn hp (k:=(i:Int)) ab;have hlen:(mM mem<|ws.take i).length=mem.length:=Fj _ _;have hc:(mM mem<|ws.take i)[(ws[i]).1.toNat]? =some ((mM mem<|ws.take i)[(ws[i]).1.toNat]'ab):=List.getElem?_eq_getElem ab;have:=ih (i+1) ab;rw[aed hp,show(((i+1:Nat)):Int)=(i:Int)+1 by omega] at this;cases i with
  |zero=>exact r1z mc (cF _) ⟨hlen,hl⟩ rfl ab q1 ⟨a1,a2⟩ hc this
  |succ j=>have hj:=List.getElem?_eq_getElem (show j<ws.length by omega);obtain⟨_,q2⟩:=Pn hj (k:=(((j+1:Nat)):Int) - 1) ab;exact r1p mc (cF _) ⟨hlen,hl⟩ ab hw3 q1 q2 ⟨a1,a2⟩ (List.pairwise_iff_getElem.1 GJ j (j+1) ab hi ab) hc this
end
theorem abi{B:aJ}(mc:Mt LJ B)(Yp:Mt [] B){tx:List St}{mem aD:List Int}(hk:ru 60 tx):
 kf B (Lh (nm (tx.map aL).flatten) tx.length (nI mem) 0 mem.length (nI aD) 0 aD.length) (ah ar 270):=by
 have Yq:(AV.U (nm (tx.map aL).flatten) 0 tx.length).hi=true:=by rw[←sX];exact rf tx
 have kA:bf (aP uX) []=some (.bool true):=eP (eK uX.bM ⟨rfl,rfl⟩) rfl rfl;have kM:bf (aP<|nB 22) [.U (nm (tx.map aL).flatten) 0 tx.length,.int .i64<|.ofNat 0]=some (.tuple [.int .i64 (cS 22 tx).1,.bool (cS 22 tx).2]):=eP (eK nB.bM ⟨tx,by rw[sX];rfl,by omega,rfl⟩) (by rw[List.all_cons,Yq];rfl) rfl;cases hm:(cS 22 tx).2 with
 |true=>rw[hm] at kM;exact s0L mc kM kA
 |false=>
  rw[hm] at kM;by_cases hb:mem.length>100\/aD.length>100
  ·exact s0B mc hb kM kA
  have fN:mem.length<=100/\aD.length<=100:=by omega
  have ug:[AV.U (nm (tx.map aL).flatten) 0 tx.length,.U (nI mem) 0 mem.length,.U (nI aD) 0 aD.length].all AV.hi=true:=by rw[List.all_cons,Yq,List.all_cons,show(AV.U (nI mem) 0 mem.length).hi=true from aM.2<|cF _,List.all_cons,show(AV.U (nI aD) 0 aD.length).hi=true from aM.2<|cF _];rfl
  by_cases hq:1<=mem.length/\mem.length<=32;rotate_left
  ·exact G7 mc fN kM kA (eP (eK wt.bM ⟨tx,mem,aD,_,_,_,_,rfl,dm.ax eI mem,dm.ax eI aD,by omega,.inl ⟨hq,rfl⟩⟩) ug rfl)<|W5 Yp<|.inl rfl
  obtain⟨d1,d2⟩:=Cq 22 60 tx ab hm;obtain⟨b,pF,ahd⟩:=acv (n:=aD.length) hm hk;cases b with
  |false=>exact G7 mc fN kM kA (eP (eK wt.bM ⟨tx,mem,aD,_,_,_,_,rfl,dm.ax eI mem,dm.ax eI aD,by omega,.inr ⟨hq,d2,d1,false,pF,.inl ⟨rfl,rfl⟩⟩⟩) ug rfl)<|W5 Yp<|.inr rfl
  |true=>
   obtain⟨gc,wf⟩:=ahd rfl;obtain⟨_,_,d,_,_,_,hd,ok,Ym,Kp⟩:=UZ (aD:=aD) hq ab pF wf;have hv:G8 tx mem aD=Ep mem d:=by unfold G8;rw[hd]
   have kD:bf (aP wt) [.U (nm (tx.map aL).flatten) 0 tx.length,.U (nI mem) 0 mem.length,.U (nI aD) 0 aD.length]=some (.tuple [.agg<|eY d.x d.re d.rs (pV d) (mM mem<|pV d) d.m.steps,.int .i64 0]):=by refine eP (eK wt.bM ⟨tx,mem,aD,_,_,_,_,rfl,dm.ax eI mem,dm.ax eI aD,by omega,.inr ⟨hq,d2,d1,true,pF,.inr ⟨rfl,gc,wf,?_⟩⟩⟩) ug afB;rw[hv];rfl
   obtain⟨w1,w2,w3⟩:=Wf ok;have cn:=ok.st;have kI:bf (aP zi) [ax encI<|mM mem<|pV d,ax encI<|mM mem<|pV d]=some (.bool true):=eP (eK zi.bM ⟨_,_,rfl,by rw[Fj];omega,by rw[decide_eq_true rfl]⟩) (by rw[List.all_cons,(dm.ax eI _).hi,List.all_cons,(dm.ax eI _).hi];rfl) rfl;refine G7 mc fN kM kA kD<|okJ mc ⟨hq.1,by omega⟩ ⟨cF _,?_,rfl⟩<|ahc mc ab w1 w2 ab (ahb mc ab ok.rd (fun i hi=>?_) _ 0 rfl) _ 0 rfl
   ·rcases E9 eI.len (dm.ax eI mem) with q|q
    ·exact q
    ·rw[q] at hq;exact absurd hq.1 (by decide)
   ·cases hr:d.re with
    |false=>exact jK mc hi kI cn
    |true=>
     have hws:pV d=[]:=by unfold pV;rw[if_pos hr]
     rw[hws] at kI ⊢;rw[Ym hr];exact enT mc hi kI cn
end Wh
end
