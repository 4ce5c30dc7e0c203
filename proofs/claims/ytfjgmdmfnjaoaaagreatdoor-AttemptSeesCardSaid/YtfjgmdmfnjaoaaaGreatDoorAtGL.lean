import Derived.Test.YtfjgmdmfnjaoaaaGreatDoorAtGK
import Derived.Test.YtfjgmdmfnjaoaaaGreatDoorRnGH
import Derived.Test.YtfjgmdmfnjaoaaaGreatDoorAtGJ
set_option maxRecDepth 100000
set_option maxHeartbeats 8000000
set_option linter.unusedSimpArgs false
set_option linter.unusedVariables false
section
open Go Go.Rn Go.RowKit Go.Proofs
namespace gP
open cv fc cG dt cR cW fw eV fL fN fS fT gh gg
variable {cap:cC} {u:AV} {to aG n2 kind v:Int} {a:MN} {N4 N3 N2 N L4 L3 L2 L:Nat} {B:aL}
theorem UL(l:List AV){k:Nat}(h:k<13)(hl:l.length=13:=by rfl):l[k]? =some (l.getD k<|.tuple []):=by rw[List.getD_eq_getElem?_getD,List.getElem?_eq_getElem ae];rfl
theorem UM{pre post:List AV}{len i r1 r2:Nat}{c:AV}(h:i<pre.length):aN lU ((dQ ⟨pre,len,cap,post⟩ r1 r2).set i c)=bU (dQ ⟨pre.set i c,len,cap,post⟩ r1 r2):=by
 have e:(dQ ⟨pre,len,cap,post⟩ r1 r2).set i c=dQ ⟨pre.set i c,len,cap,post⟩ r1 r2:=by unfold dQ;exact List.set_append_left _ _ h
 rw[e];unfold aN bU;rw[DU]
noncomputable abbrev VE(a:MN)(len:Nat)(cap:cC)(to z:Int)(u:AV)(row:List AV)(kind op n:Int)(N L:Nat)(aG n2:Int)(N2 L2 N3 L3 N4 L4:Nat):List<|Nat×Option ab:=ar++[(270,(some<|aN lU<|((a.row (.ptr<|some (271,0)) (.slice (some (272,0)) (len) cap)<|i6 a.steps):List AV).set (2+to.toNat)<|i6 z)),(271,(some<|.tok 3 u)),(272,(some<|bU row)),(273,some<|.cells 10 (Tr.fill [(u8<|kind),(i6 to),(u8<|op),(i6 n),(.U N 0 L),(u8<|aG),(i6 n2),(.U N2 0 L2),(.U N3 0 L3),(.U N4 0 L4)] 0 .nil) [])]
noncomputable abbrev mI(a:MN)(len:Nat)(cap:cC)(u:AV)(row:List AV):VS:=(⟨(⟨a.pre,len,cap,[.int .i64 a.steps]⟩:RS),u,row⟩:VS)
noncomputable abbrev xC(op n:Int)(N L:Nat):List AV:=[(.agg [(u8<|op),(i6 n),(.U N 0 L)])]
theorem ah5{len:Nat}{row:List AV}{op n:Int}{z:Int}(mc:Mt [iE] B)(hO:bH 10 (mI a len cap u row)=true)(h0:0<=to)(h8:to<8)(hA:((xC op n N L):List AV).all AV.hi=true)(hz:vR jo (mI a len cap u row) (xC op n N L)=some (.int .i64 z)):au pg B 273 (gW 270 3 pg (az Tryz.f67) (.tuple []) (⟨⟨(a.pre:List AV).set (2+to.toNat)<|.int .i64 z,len,cap,[.int .i64 a.steps]⟩,u,row⟩:VS)) (sF 67 Tryz.f67 [(.ptr<|some (270,0)),(.agg [(u8<|kind),(i6 to),(u8<|op),(i6 n),(.U N 0 L),(u8<|aG),(i6 n2),(.U N2 0 L2),(.U N3 0 L3),(.U N4 0 L4)])])<|ak (ar++bx (dD 270 3<|mI a len cap u row)) 273:=by exact mh (E:=qU [iE]) fm rfl bY mc.2.2.1 mc.2.2.2 900 (.st 2<|.rg<|.go 6<|.cg (i6 z) (vG 272) (vQ 272<|mI a len cap u row)<|.go 2<|.Hv<|.lh (aN lU<|((a.row (.ptr<|some (271,0)) (.slice (some (272,0)) (len) cap)<|i6 a.steps):List AV).set (2+to.toNat)<|i6 z)<|.en<|.rt 1 .no)<|jK [iE] 54 272 (vR jo) (xC op n N L) (mI a len cap u row) (i6 z) hO hz hA cw X2
theorem agi{len:Nat}{row:List AV}{op n:Int}{z:Int}{fb:Bool}(mc:Mt [jF,kP] B)(hO:bH 10 (mI a len cap u row)=true)(h0:0<=to)(h8:to<8)(hA:((xC op n N L):List AV).all AV.hi=true)(hv:vR nM (mI a len cap u row) (xC op n N L)=some (.int .i64 v))(hg:eR (dG bZ BE) u [.int .i64 v]=some (.tuple [.int .i64 z,.bool fb],u)):au pg B 273 (gW 270 3 pg (az Tryz.f68) (.tuple []) (⟨⟨(a.pre:List AV).set (2+to.toNat)<|.int .i64 z,len,cap,[.int .i64 a.steps]⟩,u,row⟩:VS)) (sF 68 Tryz.f68 [(.ptr<|some (270,0)),(.agg [(u8<|kind),(i6 to),(u8<|op),(i6 n),(.U N 0 L),(u8<|aG),(i6 n2),(.U N2 0 L2),(.U N3 0 L3),(.U N4 0 L4)])])<|ak (ar++bx (dD 270 3<|mI a len cap u row)) 273:=by exact mh (E:=qU [jF,kP]) fm rfl bY mc.2.2.1 mc.2.2.2 900 (.st 2<|.rg<|.go 6<|.ld [(.ptr<|some (271,0))]<|.go 3<|.cg (i6 v) (vG 272) (vQ 272<|mI a len cap u row)<|.kt (.tuple [(i6 z),(.bool fb)]) u<|.go 5<|.Hv<|.lh (aN lU<|((a.row (.ptr<|some (271,0)) (.slice (some (272,0)) (len) cap)<|i6 a.steps):List AV).set (2+to.toNat)<|i6 z)<|.en<|.rt 1 .no)<|ai W2<|jK [jF,kP] 56 272 (vR nM) (xC op n N L) (mI a len cap u row) (i6 v) hO hv hA cw<|ai hg X2
theorem aeF{len:Nat}{row:List AV}{op n:Int}{z:Int}{u':AV}(mc:Mt [jF,iE,Gx] B)(hO:bH 10 (mI a len cap u row)=true)(hA:((xC op n N L):List AV).all AV.hi=true)(hB:([(.agg [(u8<|aG),(i6 n2),(.U N2 0 L2)])]:List AV).all AV.hi=true)(hv:vR nM (mI a len cap u row) (xC op n N L)=some (.int .i64 v))(hz:vR jo (mI a len cap u row) [(.agg [(u8<|aG),(i6 n2),(.U N2 0 L2)])]=some (.int .i64 z))(hp:eR (dG bZ Gw) u [.int .i64 v,.int .i64 z]=some ((.int .i64 0:AV),u')):au pg B 273 (gW 270 3 pg (az Tryz.f69) (.tuple []) (⟨(⟨a.pre,len,cap,[.int .i64 a.steps]⟩:RS),u',row⟩:VS)) (sF 69 Tryz.f69 [(.ptr<|some (270,0)),(.agg [(u8<|kind),(i6 to),(u8<|op),(i6 n),(.U N 0 L),(u8<|aG),(i6 n2),(.U N2 0 L2),(.U N3 0 L3),(.U N4 0 L4)])])<|ak (ar++bx (dD 270 3<|mI a len cap u row)) 273:=by exact mh (E:=qU [jF,iE,Gx]) fm rfl bY mc.2.2.1 mc.2.2.2 900 (.st 2<|.rg<|.go 3<|.ld [(.ptr<|some (271,0))]<|.go 3<|.cg (i6 v) (vG 272) (vQ 272<|mI a len cap u row)<|.go 3<|.cg (i6 z) (vG 272) (vQ 272<|mI a len cap u row)<|.kt i0 u'<|.en<|.rt 1 .no)<|ai W2<|jK [jF,iE,Gx] 56 272 (vR nM) (xC op n N L) (mI a len cap u row) (i6 v) hO hv hA cw<|jK [jF,iE,Gx] 54 272 (vR jo) [(.agg [(u8<|aG),(i6 n2),(.U N2 0 L2)])] (mI a len cap u row) (i6 z) hO hz hB cw<|ai hp<|nL (st:=(⟨(⟨a.pre,len,cap,[.int .i64 a.steps]⟩:RS),u',row⟩:VS)) (s:=ak (ar++[(270,(some<|aN lU<|a.row (.ptr<|some (271,0)) (.slice (some (272,0)) (len) cap)<|i6 a.steps)),(271,(some<|.tok 3 u')),(272,(some<|bU row)),(273,some<|.cells 10 (Tr.fill [(u8<|kind),(i6 to),(u8<|op),(i6 n),(.U N 0 L),(u8<|aG),(i6 n2),(.U N2 0 L2),(.U N3 0 L3),(.U N4 0 L4)] 0 .nil) [])]) 274) (show((.tuple []):AV)= .tuple [] from rfl) (cw) cw cw
end gP
end
section
open Go Go.Rn Go.RowKit Go.Proofs
namespace gQ
open cv fc cG dt cR cW fw eV fL fN fS fT gh gP gg
variable {L:bV} {v:AV×VS} {st:VS} {rest:List AV}
noncomputable section
open Classical in
def dJ(R:VS->List AV->AV×VS->Prop)(st:VS)(rest:List AV):Option<|AV×VS:=if h:∃v,R st rest v then some h.choose else none
theorem Jc{R:VS->List AV->AV×VS->Prop}(h:dJ R st rest=some v):R st rest v:=by
 unfold dJ at h;split at h
 ·rename_i q;injection h with h;rw[←h];exact q.choose_spec
 ·cases h
theorem JR{R:VS->List AV->AV×VS->Prop}(hd:∀st rest v v',R st rest v->R st rest v'->v=v')(h:R st rest v):dJ R st rest=some v:=by unfold dJ;have q:∃v,R st rest v:=⟨v,h⟩;rw[dif_pos q,hd _ _ _ _ q.choose_spec h]
def vM(st:VS)(i z:Int):VS:=⟨⟨st.R.pre.set (2+i.toNat)<|.int .i64 z,st.R.len,st.R.cap,st.R.post⟩,st.u,st.row⟩
def ajx(st:VS)(u:AV):VS:=⟨st.R,u,st.row⟩
def zR(st:VS)(rest:List AV)(p:AV×VS):Prop:=∃(a:MN) (kind to:Int) (ea eb:Ex) (body other:List St) (z:Int),bH 10 st=true/\sD st a/\rest=[.agg<|aP<|.mk kind to ea eb body other]/\0<=to/\to<8/\vR jo st [.agg<|aD ea]=some (.int .i64 z)/\p=(.tuple [],vM st to z)
def zA(st:VS)(rest:List AV)(p:AV×VS):Prop:=∃(a:MN) (kind to:Int) (ea eb:Ex) (body other:List St) (v z:Int) (fb:Bool),bH 10 st=true/\sD st a/\rest=[.agg<|aP<|.mk kind to ea eb body other]/\0<=to/\to<8/\vR nM st [.agg<|aD ea]=some (.int .i64 v)/\eR (dG bZ BE) st.u [.int .i64 v]=some (.tuple [.int .i64 z,.bool fb],st.u)/\p=(.tuple [],vM st to z)
def ze(st:VS)(rest:List AV)(p:AV×VS):Prop:=∃(a:MN) (kind to:Int) (ea eb:Ex) (body other:List St) (v z:Int) (u':AV),bH 10 st=true/\sD st a/\rest=[.agg<|aP<|.mk kind to ea eb body other]/\vR nM st [.agg<|aD ea]=some (.int .i64 v)/\vR jo st [.agg<|aD eb]=some (.int .i64 z)/\eR (dG bZ Gw) st.u [.int .i64 v,.int .i64 z]=some ((.int .i64 0:AV),u')/\p=(.tuple [],ajx st u')
theorem Oh{k t k' t':Int}{a b a' b':Ex}{l m l' m':List St}(h:([.agg<|aP<|.mk k t a b l m]:List AV)=[.agg<|aP<|.mk k' t' a' b' l' m']):St.mk k t a b l m= .mk k' t' a' b' l' m':=by simp only[List.cons.injEq,AV.agg.injEq,_root_.and_true] at h;exact MQ _ _ h
theorem zR.bW(st:VS)(rest:List AV)(v v':AV×VS)(h:zR st rest v)(h':zR st rest v'):v=v':=by
 obtain⟨a,k,t,ea,eb,l,m,z,_,_,rfl,_,_,h1,rfl⟩:=h;obtain⟨a',k',t',Yu,Yv,l',m',z',_,_,k0,_,_,k1,rfl⟩:=h';have e:=Oh k0;injection e with e1 e2 e3 e4 e5 e6
 subst e2;subst e3;rw[h1] at k1;simp only[Option.some.injEq,AV.int.injEq,true_and] at k1;rw[k1]
theorem zA.bW(st:VS)(rest:List AV)(v v':AV×VS)(h:zA st rest v)(h':zA st rest v'):v=v':=by
 obtain⟨a,k,t,ea,eb,l,m,x,z,fb,_,_,rfl,_,_,h1,h2,rfl⟩:=h;obtain⟨a',k',t',Yu,Yv,l',m',x',z',fb',_,_,k0,_,_,k1,k2,rfl⟩:=h';have e:=Oh k0;injection e with e1 e2 e3 e4 e5 e6
 subst e2;subst e3;rw[h1] at k1;simp only[Option.some.injEq,AV.int.injEq,true_and] at k1;subst k1;rw[h2] at k2;simp only[Option.some.injEq,Prod.mk.injEq,AV.tuple.injEq,List.cons.injEq,AV.int.injEq,true_and,_root_.and_true] at k2;rw[k2.1]
theorem ze.bW(st:VS)(rest:List AV)(v v':AV×VS)(h:ze st rest v)(h':ze st rest v'):v=v':=by
 obtain⟨a,k,t,ea,eb,l,m,x,z,u,_,_,rfl,h1,h2,h3,rfl⟩:=h;obtain⟨a',k',t',Yu,Yv,l',m',x',z',u',_,_,k0,k1,k2,k3,rfl⟩:=h';have e:=Oh k0;injection e with e1 e2 e3 e4 e5 e6
 subst e3;subst e4;rw[h1] at k1;rw[h2] at k2;simp only[Option.some.injEq,AV.int.injEq,true_and] at k1 k2;subst k1;subst k2;rw[h3] at k3;simp only[Option.some.injEq,Prod.mk.injEq,true_and] at k3;rw[k3]
def P8:FuncId×KE:=(67,.raw<|m9 10 3<|dJ zR)
def Pt:FuncId×KE:=(68,.raw<|m9 10 3<|dJ zA)
def OM:FuncId×KE:=(69,.raw<|m9 10 3<|dJ ze)
theorem qm(e:Ex):([AV.agg<|aD e]:List AV).all AV.hi=true:=by rw[List.all_cons,By];rfl
theorem aeG(hP:bE pg)(h:aU L):aU<|P8::L:=by
 refine IN hP hZ ya iS ig lV lC h (Df hP cJ) Tryz.func67 (body:=a9 pg 67 []) aX aX fun st rest y ba e=>?_;obtain⟨a,kind,to,⟨op,n,l⟩,⟨aG,n2,l2⟩,body,other,z,ho,⟨h1,h2,h3⟩,rfl,h0,h8,hz,hp⟩:=Jc e;injection hp with jc fK
 subst jc;subst fK;refine⟨aM.1 aX,fun B mc=>?_⟩;have hA:=qm<|.mk op n l;obtain⟨⟨pre,len,cap,post⟩,u,row⟩:=st;simp only at h1 h2;subst h1;subst h2;rw[aD] at hz hA;rw[aP,aD,aD];exact ah5 mc ho h0 h8 hA hz
theorem ac0(hP:bE pg)(h:aU L):aU<|Pt::L:=by
 refine IN hP hZ ya iS ig lV lC h (FV hP<|IQ hP cJ) Tryz.func68 (body:=a9 pg 68 []) aX aX fun st rest y ba e=>?_;obtain⟨a,kind,to,⟨op,n,l⟩,⟨aG,n2,l2⟩,body,other,v,z,fb,ho,⟨h1,h2,h3⟩,rfl,h0,h8,hv,hg,hp⟩:=Jc e;injection hp with jc fK
 subst jc;subst fK;refine⟨aM.1 aX,fun B mc=>?_⟩;have hA:=qm<|.mk op n l;obtain⟨⟨pre,len,cap,post⟩,u,row⟩:=st;simp only at h1 h2;subst h1;subst h2;rw[aD] at hv hA;rw[aP,aD,aD];exact agi mc ho h0 h8 hA hv hg
theorem abC(hP:bE pg)(h:aU L):aU<|OM::L:=by
 refine IN hP hZ ya iS ig lV lC h (FV hP<|Df hP<|acX hP cJ) Tryz.func69 (body:=a9 pg 69 []) aX aX fun st rest y ba e=>?_;obtain⟨a,kind,to,⟨op,n,l⟩,⟨aG,n2,l2⟩,body,other,v,z,u',ho,⟨h1,h2,h3⟩,rfl,hv,hz,hq,hp⟩:=Jc e;injection hp with jc fK
 subst jc;subst fK;refine⟨aM.1 aX,fun B mc=>?_⟩;have hA:=qm<|.mk op n l;have hB:=qm<|.mk aG n2 l2;obtain⟨⟨pre,len,cap,post⟩,u,row⟩:=st;simp only at h1 h2;subst h1;subst h2;rw[aD] at hv hA hz hB;rw[aP,aD,aD];exact aeF mc ho hA hB hv hz hq
end
end gQ
end
section
open Go Go.Rn Go.RowKit Go.Proofs
namespace g9
open cv fc cG dt cR cW fw eV fL fN fS fT gh gP gQ gg
variable {uC:VS} {u' u:AV} {fs:List Fr} {c:Nat} {a:MN} {B:aL}
noncomputable section
def av(l:List Fr)(z:Int):Fr:=l.getD z.toNat default
theorem jh{l:List Fr}{z:Int}(h0:0<=z)(h:z<(l.length:Int)):l[z.toNat]? =some (av l z):=by
 have hz:z.toNat<l.length:=by omega
 unfold av;rw[List.getD_eq_getElem?_getD,List.getElem?_eq_getElem hz];rfl
theorem M6:fM<=273:=aM.1 aX
theorem Pu{st:VS}{y Y:AV}{s:AS}(h:uC=st)(e:Y=y)(h1:s.h.get 270=some (bU<|dQ st.R 271 272))(h2:s.h.get 271=some (.tok 3 st.u))(h3:s.h.get 272=some (bU st.row)):Y=y/\∀m o,(m,o)∈dD 270 3 uC->s.h.get m=some o:=by subst h;exact nL e h1 h2 h3
noncomputable abbrev Dv(a:MN)(n c:Nat)(u:AV)(fs:List Fr):List<|Nat×Option ab:=ar++[(270,some<|.cells 13 (Tr.fill (a.row (.ptr<|some (271,0)) (.slice (some (272,0)) (n)<|.aq c 13)<|i6 a.steps) 0 .nil) []),(271,(some<|.tok 3 u)),(272,(some<|aN aJ<|fs.set ((n:Int) - 1).toNat ({(av fs<|(n:Int) - 1) with ah:=0,turns:=((av fs<|(n:Int) - 1).turns - 1)}:Fr)))]
noncomputable abbrev Br(a:MN)(n c:Nat)(u:AV)(fs:List Fr):VS:=(⟨⟨a.pre,n,(.aq c 13),[.int .i64 a.steps]⟩,u,((fs.set ((n:Int) - 1).toNat ({(av fs<|(n:Int) - 1) with ah:=0,turns:=((av fs<|(n:Int) - 1).turns - 1)}:Fr)).map aJ).flatten⟩:VS)
noncomputable abbrev Gb(a:MN)(n c:Nat)(u:AV)(fs:List Fr):List<|Nat×Option ab:=ar++[(270,some<|.cells 13 (Tr.fill (a.row (.ptr<|some (271,0)) (.slice (some (272,0)) ((((n:Int) - 1)).toNat)<|.aq c 13)<|i6 a.steps) 0 .nil) []),(271,(some<|.tok 3 u)),(272,(some<|aN aJ fs))]
noncomputable abbrev Gc(a:MN)(n c:Nat)(u':AV)(fs:List Fr):List<|Nat×Option ab:=ar++[(270,some<|.cells 13 (Tr.fill (a.row (.ptr<|some (271,0)) (.slice (some (272,0)) ((((n:Int) - 1)).toNat)<|.aq c 13)<|i6 a.steps) 0 .nil) []),(271,(some<|.tok 3 u')),(272,(some<|aN aJ fs))]
noncomputable abbrev Gd(a:MN)(n c:Nat)(u:AV)(fs:List Fr):List<|Nat×Option ab:=ar++[(270,some<|.cells 13 (Tr.fill (a.row (.ptr<|some (271,0)) (.slice (some (272,0)) (n)<|.aq c 13)<|i6 a.steps) 0 .nil) []),(271,(some<|.tok 3 u)),(272,(some<|aN aJ fs))]
noncomputable abbrev vg(a:MN)(n c:Nat)(u:AV)(fs:List Fr):VS:=(⟨⟨a.pre,n,(.aq c 13),[.int .i64 a.steps]⟩,u,(fs.map aJ).flatten⟩:VS)
noncomputable abbrev Ge(a:MN)(n c:Nat)(u:AV)(fs:List Fr):AS:=ak (ar++bx (dD 270 3 (⟨⟨a.pre,((n:Int) - 1).toNat,(.aq c 13),[.int .i64 a.steps]⟩,u,(fs.map aJ).flatten⟩:VS))) 273
noncomputable abbrev Gf(a:MN)(n c:Nat)(u':AV)(fs:List Fr):AS:=ak (ar++bx (dD 270 3 (⟨⟨a.pre,((n:Int) - 1).toNat,(.aq c 13),[.int .i64 a.steps]⟩,u',(fs.map aJ).flatten⟩:VS))) 273
noncomputable abbrev ON(fs:List Fr)(n:Nat):Fr:=({(av fs<|(n:Int) - 1) with ah:=(av fs<|(n:Int) - 1).ah,turns:=((av fs<|(n:Int) - 1).turns - 1)}:Fr)
theorem DZ{n:Nat}(mc:Mt [De] B)(hn:n<=fs.length)(hc:n<=c)(hf:fs.length<=1000000)(hR:fs.length*13<=top)(aB:0<=(av fs<|(n:Int) - 1).turns/\(av fs<|(n:Int) - 1).turns<=1000000)(hm:(0<(n:Int)/\¬((av fs<|(n:Int) - 1).ah<(((av fs<|(n:Int) - 1).block.length:Nat):Int))/\¬(0<(av fs<|(n:Int) - 1).turns)/\(av fs<|(n:Int) - 1).cM=true)->eR (dG bZ Jb) u []=some ((.int .i64 0:AV),u'))(E0:¬(0<(n:Int))->uC=(vg a n c u fs))(E1:0<(n:Int)->(av fs<|(n:Int) - 1).ah<(((av fs<|(n:Int) - 1).block.length:Nat):Int)->uC=(vg a n c u fs))(E2:0<(n:Int)->¬((av fs<|(n:Int) - 1).ah<(((av fs<|(n:Int) - 1).block.length:Nat):Int))->0<(av fs<|(n:Int) - 1).turns->0<(((av fs<|(n:Int) - 1).block.length:Nat):Int)->uC=(Br a n c u fs))(H1:(0<(n:Int)/\¬((av fs<|(n:Int) - 1).ah<(((av fs<|(n:Int) - 1).block.length:Nat):Int))/\0<(av fs<|(n:Int) - 1).turns/\¬(0<(((av fs<|(n:Int) - 1).block.length:Nat):Int)))->au pg B 273 (gW 270 3 pg (az Tryz.f65) (.tuple []) uC) (⟨65,aQ [(0,.ptr<|some (270,0))],(max Tryz.f65.ntmps 1),[.code<|a9 pg 65 [0,0],.inLoop<|a9 pg 65 [0,0],.inBlock 0],[],none⟩:AF) (ak (ar++bx (dD 270 3<|Br a n c u fs)) 273))(H2:(0<(n:Int)/\¬((av fs<|(n:Int) - 1).ah<(((av fs<|(n:Int) - 1).block.length:Nat):Int))/\¬(0<(av fs<|(n:Int) - 1).turns)/\(av fs<|(n:Int) - 1).cM=true)->au pg B 273 (gW 270 3 pg (az Tryz.f65) (.tuple []) uC) (⟨65,aQ [(0,.ptr<|some (270,0))],(max Tryz.f65.ntmps 1),[.code<|a9 pg 65 [0,0],.inLoop<|a9 pg 65 [0,0],.inBlock 0],[],none⟩:AF) (Gf a n c u' fs))(H3:(0<(n:Int)/\¬((av fs<|(n:Int) - 1).ah<(((av fs<|(n:Int) - 1).block.length:Nat):Int))/\¬(0<(av fs<|(n:Int) - 1).turns)/\(av fs<|(n:Int) - 1).cM=false)->au pg B 273 (gW 270 3 pg (az Tryz.f65) (.tuple []) uC) (⟨65,aQ [(0,.ptr<|some (270,0))],(max Tryz.f65.ntmps 1),[.code<|a9 pg 65 [0,0],.inLoop<|a9 pg 65 [0,0],.inBlock 0],[],none⟩:AF) (Ge a n c u fs)):au pg B 273 (gW 270 3 pg (az Tryz.f65) (.tuple []) uC) (⟨65,aQ [(0,.ptr<|some (270,0))],(max Tryz.f65.ntmps 1),[.code<|a9 pg 65 [0,0],.inLoop<|a9 pg 65 [0,0],.inBlock 0],[],none⟩:AF)<|ak (ar++bx (dD 270 3<|vg a n c u fs)) 273:=by
 exact xo (E:=qU [De]) (C:=(fun fr s1 _=>fr=(⟨65,aQ [(0,.ptr<|some (270,0))],(max Tryz.f65.ntmps 1),[.code<|a9 pg 65 [0,0],.inLoop<|a9 pg 65 [0,0],.inBlock 0],[],none⟩:AF)/\(((0<(n:Int)/\¬((av fs<|(n:Int) - 1).ah<(((av fs<|(n:Int) - 1).block.length:Nat):Int))/\0<(av fs<|(n:Int) - 1).turns/\¬(0<(((av fs<|(n:Int) - 1).block.length:Nat):Int)))/\s1=(ak (ar++bx (dD 270 3<|Br a n c u fs)) 273))\/((0<(n:Int)/\¬((av fs<|(n:Int) - 1).ah<(((av fs<|(n:Int) - 1).block.length:Nat):Int))/\¬(0<(av fs<|(n:Int) - 1).turns)/\(av fs<|(n:Int) - 1).cM=true)/\s1=(Gf a n c u' fs))\/((0<(n:Int)/\¬((av fs<|(n:Int) - 1).ah<(((av fs<|(n:Int) - 1).block.length:Nat):Int))/\¬(0<(av fs<|(n:Int) - 1).turns)/\(av fs<|(n:Int) - 1).cM=false)/\s1=(Ge a n c u fs))))) fm rfl bY mc.2.2.1 mc.2.2.2 M6 rfl mc.1 (fun fr s1 p hC=>by
  obtain⟨rfl,hC⟩:=hC;rcases hC with⟨h,rfl⟩|⟨h,rfl⟩|⟨h,rfl⟩
  ·exact H1 h
  ·exact H2 h
  ·exact H3 h) 900 (.st 2<|.rg<|.go 5<|.fk (.en<|.st 4<|.rg<|.go 9<|.vl (i6<|(n:Int) - 1)<|.ix<|.go 1<|.en<|.st 3<|.rg<|.go 3<|.ld [(i6<|(av fs<|(n:Int) - 1).ah)]<|.go 3<|.ld [(.U (nm ((av fs<|(n:Int) - 1).block.map aP).flatten) 0 (av fs<|(n:Int) - 1).block.length)]<|.go 1<|.fk (.go 1<|.en<|.rt 2 .no)<|.go 1<|.en<|.st 2<|.rg<|.go 3<|.ld [(i6<|(av fs<|(n:Int) - 1).turns)]<|.fk (.go 1<|.en<|.st 2<|.rg<|.go 5<|.ld [(i6<|(av fs<|(n:Int) - 1).turns)]<|.vl (i6<|(av fs<|(n:Int) - 1).turns - 1)<|.go 2<|.lh (aN aJ<|fs.set ((n:Int) - 1).toNat<|ON fs n)<|.go 2<|.lh (aN aJ<|fs.set ((n:Int) - 1).toNat ({(av fs<|(n:Int) - 1) with ah:=0,turns:=((av fs<|(n:Int) - 1).turns - 1)}:Fr))<|.en<|.st 2<|.rg<|.go 3<|.ld [(.U (nm ((av fs<|(n:Int) - 1).block.map aP).flatten) 0 (av fs<|(n:Int) - 1).block.length)]<|.go 1<|.fk (.en<|.rt 2 .no)<|.en<|.st 4<|.ls [(0,.ptr<|some (270,0))] (Dv a n c u fs) 273 .no)<|.go 1<|.en<|.st 2<|.rg<|.go 3<|.XO ((av fs<|(n:Int) - 1).cM) (.go 1<|.en<|.st 1<|.rg<|.go 4<|.kt i0 u'<|.en<|.st 1<|.rg<|.go 10<|.vl (i6<|(n:Int) - 1)<|.so<|.go 3<|.en<|.st 2<|.ls [(0,.ptr<|some (270,0))] (Gc a n c u' fs) 273 .no)<|.go 1<|.en<|.st 3<|.rg<|.go 10<|.vl (i6<|(n:Int) - 1)<|.so<|.go 3<|.en<|.st 2<|.ls [(0,.ptr<|some (270,0))] (Gb a n c u fs) 273 .no)<|.en<|.rt 3 .no)
  (ax ((n:Int)>0) (fun _=>(ai (wI<|(n:Int) - 1)
  (dc ((n:Int) - 1) (n:Int)
  (ai (jO fA hR (jh (l:=fs) (z:=((n:Int) - 1)) ae ae) 1 1 rfl)
  (ai (jO fA hR (jh (l:=fs) (z:=((n:Int) - 1)) ae ae) 0 1 rfl)
  (ax ((av fs<|(n:Int) - 1).ah<(((av fs<|(n:Int) - 1).block.length:Nat):Int)) (fun _=>(Pu (st:=(vg a n c u fs)) (s:=ak (Gd a n c u fs) 273) (E1 ae ae) (show((.tuple []):AV)= .tuple [] from rfl) cH cH cH))
  (fun _=>(ai (jO fA hR (jh (l:=fs) (z:=((n:Int) - 1)) ae ae) 2 1 rfl)
  (ax ((av fs<|(n:Int) - 1).turns>0) (fun _=>(ai (jO fA hR (jh (l:=fs) (z:=((n:Int) - 1)) ae ae) 2 1 rfl)
  (ai (wI<|(av fs<|(n:Int) - 1).turns - 1)
  (ai (oA fA hR (jh (l:=fs) (z:=((n:Int) - 1)) ae ae) (c':=(ON fs n)) (r:=[(i6<|((av fs<|(n:Int) - 1).turns - 1))]) 2 rfl rfl rfl)
  (ai (adH fA hR (jh (l:=fs) (z:=((n:Int) - 1)) ae ae) (c:=(ON fs n)) (c':=({(av fs<|(n:Int) - 1) with ah:=0,turns:=((av fs<|(n:Int) - 1).turns - 1)}:Fr)) (r:=[i0]) 1 rfl rfl rfl)
  (ai (adG fA hR (jh (l:=fs) (z:=((n:Int) - 1)) ae ae) (c:=({(av fs<|(n:Int) - 1) with ah:=0,turns:=((av fs<|(n:Int) - 1).turns - 1)}:Fr)) 0 1 rfl)
  (ax ((((av fs<|(n:Int) - 1).block.length:Nat):Int)>0) (fun _=>(Pu (st:=(Br a n c u fs)) (s:=ak (Dv a n c u fs) 273) (E2 ae ae ae ae) (show((.tuple []):AV)= .tuple [] from rfl) cH cH cH))
  (fun _=>(ai (mS [(0,.ptr<|some (270,0))])<|ai (mO<|Dv a n c u fs)<|ai (rX (⟨65,aQ [(0,.ptr<|some (270,0))],(max Tryz.f65.ntmps 1),[.code<|a9 pg 65 [0,0],.inLoop<|a9 pg 65 [0,0],.inBlock 0],[],none⟩:AF)) (show((0<(n:Int)/\¬((av fs<|(n:Int) - 1).ah<(((av fs<|(n:Int) - 1).block.length:Nat):Int))/\0<(av fs<|(n:Int) - 1).turns/\¬(0<(((av fs<|(n:Int) - 1).block.length:Nat):Int)))/\(ak (Dv a n c u fs) 273)=(ak (ar++bx (dD 270 3<|Br a n c u fs)) 273))\/((0<(n:Int)/\¬((av fs<|(n:Int) - 1).ah<(((av fs<|(n:Int) - 1).block.length:Nat):Int))/\¬(0<(av fs<|(n:Int) - 1).turns)/\(av fs<|(n:Int) - 1).cM=true)/\(ak (Dv a n c u fs) 273)=(Gf a n c u' fs))\/((0<(n:Int)/\¬((av fs<|(n:Int) - 1).ah<(((av fs<|(n:Int) - 1).block.length:Nat):Int))/\¬(0<(av fs<|(n:Int) - 1).turns)/\(av fs<|(n:Int) - 1).cM=false)/\(ak (Dv a n c u fs) 273)=(Ge a n c u fs)) from Or.inl<|ai (show(0<(n:Int)/\¬((av fs<|(n:Int) - 1).ah<(((av fs<|(n:Int) - 1).block.length:Nat):Int))/\0<(av fs<|(n:Int) - 1).turns/\¬(0<(((av fs<|(n:Int) - 1).block.length:Nat):Int))) from⟨by omega,by omega,by omega,by omega⟩) cH))))))))))
  (fun _=>(ai (jO fA hR (jh (l:=fs) (z:=((n:Int) - 1)) ae ae) 3 1 rfl) (tfb ((av fs<|(n:Int) - 1).cM) (fun h5=>(ai (hm ⟨by omega,by omega,by omega,h5⟩)
  (ai (wI<|(n:Int) - 1)
  (ai (show(0:Int)=0 from rfl)<|ai (show 0<=((n:Int) - 1) from ae) (ai (show((n:Int) - 1)<=Int.ofNat (iP n<|.aq c 13) from(show((n:Int) - 1)<=(c:Int) from by omega))
  (ai (mS [(0,.ptr<|some (270,0))])<|ai (mO<|Gc a n c u' fs)<|ai (rX (⟨65,aQ [(0,.ptr<|some (270,0))],(max Tryz.f65.ntmps 1),[.code<|a9 pg 65 [0,0],.inLoop<|a9 pg 65 [0,0],.inBlock 0],[],none⟩:AF)) (show((0<(n:Int)/\¬((av fs<|(n:Int) - 1).ah<(((av fs<|(n:Int) - 1).block.length:Nat):Int))/\0<(av fs<|(n:Int) - 1).turns/\¬(0<(((av fs<|(n:Int) - 1).block.length:Nat):Int)))/\(ak (Gc a n c u' fs) 273)=(ak (ar++bx (dD 270 3<|Br a n c u fs)) 273))\/((0<(n:Int)/\¬((av fs<|(n:Int) - 1).ah<(((av fs<|(n:Int) - 1).block.length:Nat):Int))/\¬(0<(av fs<|(n:Int) - 1).turns)/\(av fs<|(n:Int) - 1).cM=true)/\(ak (Gc a n c u' fs) 273)=(Gf a n c u' fs))\/((0<(n:Int)/\¬((av fs<|(n:Int) - 1).ah<(((av fs<|(n:Int) - 1).block.length:Nat):Int))/\¬(0<(av fs<|(n:Int) - 1).turns)/\(av fs<|(n:Int) - 1).cM=false)/\(ak (Gc a n c u' fs) 273)=(Ge a n c u fs)) from Or.inr<|Or.inl<|ai (show(0<(n:Int)/\¬((av fs<|(n:Int) - 1).ah<(((av fs<|(n:Int) - 1).block.length:Nat):Int))/\¬(0<(av fs<|(n:Int) - 1).turns)/\(av fs<|(n:Int) - 1).cM=true) from⟨by omega,by omega,by omega,h5⟩) cH)))))))
  (fun h5=>(ai (wI<|(n:Int) - 1)
  (ai (show(0:Int)=0 from rfl)<|ai (show 0<=((n:Int) - 1) from ae) (ai (show((n:Int) - 1)<=Int.ofNat (iP n<|.aq c 13) from(show((n:Int) - 1)<=(c:Int) from by omega))
  (ai (mS [(0,.ptr<|some (270,0))])<|ai (mO<|Gb a n c u fs)<|ai (rX (⟨65,aQ [(0,.ptr<|some (270,0))],(max Tryz.f65.ntmps 1),[.code<|a9 pg 65 [0,0],.inLoop<|a9 pg 65 [0,0],.inBlock 0],[],none⟩:AF)) (show((0<(n:Int)/\¬((av fs<|(n:Int) - 1).ah<(((av fs<|(n:Int) - 1).block.length:Nat):Int))/\0<(av fs<|(n:Int) - 1).turns/\¬(0<(((av fs<|(n:Int) - 1).block.length:Nat):Int)))/\(ak (Gb a n c u fs) 273)=(ak (ar++bx (dD 270 3<|Br a n c u fs)) 273))\/((0<(n:Int)/\¬((av fs<|(n:Int) - 1).ah<(((av fs<|(n:Int) - 1).block.length:Nat):Int))/\¬(0<(av fs<|(n:Int) - 1).turns)/\(av fs<|(n:Int) - 1).cM=true)/\(ak (Gb a n c u fs) 273)=(Gf a n c u' fs))\/((0<(n:Int)/\¬((av fs<|(n:Int) - 1).ah<(((av fs<|(n:Int) - 1).block.length:Nat):Int))/\¬(0<(av fs<|(n:Int) - 1).turns)/\(av fs<|(n:Int) - 1).cM=false)/\(ak (Gb a n c u fs) 273)=(Ge a n c u fs)) from Or.inr<|Or.inr<|ai (show(0<(n:Int)/\¬((av fs<|(n:Int) - 1).ah<(((av fs<|(n:Int) - 1).block.length:Nat):Int))/\¬(0<(av fs<|(n:Int) - 1).turns)/\(av fs<|(n:Int) - 1).cM=false) from⟨by omega,by omega,by omega,h5⟩) cH))))))))))))))))))
  (fun _=>(Pu (st:=(vg a n c u fs)) (s:=ak (Gd a n c u fs) 273) (E0 ae) (show((.tuple []):AV)= .tuple [] from rfl) cH cH cH)))
abbrev frS:AF:=(⟨65,aQ [(0,.ptr<|some (270,0))],(max Tryz.f65.ntmps 1),[.code<|a9 pg 65 [0,0],.inLoop<|a9 pg 65 [0,0],.inBlock 0],[],none⟩:AF)
abbrev CC(a:MN)(n c:Nat)(u:AV)(fs:List Fr):VS:=(vg a n c u fs)
theorem agj{n:Nat}{u':AV}(mc:Mt [De] B)(H:au pg B 273 (gW 270 3 pg (az Tryz.f65) (.tuple []) uC) (⟨65,aQ [(0,.ptr<|some (270,0))],(max Tryz.f65.ntmps 1),[.code<|a9 pg 65 [0,0],.inLoop<|a9 pg 65 [0,0],.inBlock 0],[],none⟩:AF)<|ak (ar++bx (dD 270 3<|vg a n c u fs)) 273):au pg B 273 (gW 270 3 pg (az Tryz.f65) (.tuple []) uC) (sF 65 Tryz.f65 [.ptr<|some (270,0)])<|ak (ar++bx (dD 270 3<|vg a n c u fs)) 273:=by
 exact xo (E:=qU [De]) (C:=(fun fr s1 _=>fr=(⟨65,aQ [(0,.ptr<|some (270,0))],(max Tryz.f65.ntmps 1),[.code<|a9 pg 65 [0,0],.inLoop<|a9 pg 65 [0,0],.inBlock 0],[],none⟩:AF)/\s1=(ak (ar++bx (dD 270 3<|vg a n c u fs)) 273))) fm rfl bY mc.2.2.1 mc.2.2.2 M6 rfl mc.1 (fun fr s1 p hC=>by
  obtain⟨rfl,rfl⟩:=hC;exact H) 900 (.st 2<|.ls [(0,.ptr<|some (270,0))] (Gd a n c u fs) 273 .no)
  (ai (mS [(0,.ptr<|some (270,0))])<|ai (mO<|Gd a n c u fs)<|ai (rX (⟨65,aQ [(0,.ptr<|some (270,0))],(max Tryz.f65.ntmps 1),[.code<|a9 pg 65 [0,0],.inLoop<|a9 pg 65 [0,0],.inBlock 0],[],none⟩:AF)) (show(ak (Gd a n c u fs) 273)=(ak (ar++bx (dD 270 3<|vg a n c u fs)) 273) from cH))
end
end g9
end
section
open Go Go.Rn Go.RowKit Go.Proofs
namespace ia
open cv fc cG dt cR cW fw eV fL fN fS fT gh gP gQ g9 gg
variable {fs:List Fr}
def oy:Nat->Nat->List Fr->bO->Option (Nat×List Fr×bO)
  |0,_,_,_=>none
  | k +1,n,fs,b=>if n=0 then some (n,fs,b) else
    let f:=av fs<|(n:Int) - 1
    if f.ah<(f.block.length:Int) then some (n,fs,b)
    else if 0<f.turns then
      let de:=fs.set ((n:Int) - 1).toNat {f with ah:=0,turns:=f.turns - 1}
      if 0<(f.block.length:Int) then some (n,de,b) else oy k n de b
    else if f.cM=true then(if 2<=b.length then oy k ((n:Int) - 1).toNat fs (gR b) else none)
    else oy k ((n:Int) - 1).toNat fs b
def im(fs:List Fr):Prop:=∀f∈fs,(0<=f.turns/\f.turns<=1000000)/\f.kept.length=8
theorem im.at(h:im fs)(z:Int):0<=(av fs z).turns/\(av fs z).turns<=1000000:=by
 unfold av;by_cases q:z.toNat<fs.length
 ·rw[List.getD_eq_getElem?_getD,List.getElem?_eq_getElem q];exact(h _<|List.getElem_mem q).1
 ·rw[List.getD_eq_getElem?_getD,List.getElem?_eq_none ae];show(0:Int)<=0/\(0:Int)<=1000000;omega
theorem im.kept(h:im fs){z:Int}(h0:0<=z)(hz:z<(fs.length:Int)):(av fs z).kept.length=8:=(h _<|List.mem_of_getElem?<|jh h0 hz).2
theorem im.set(h:im fs){i:Nat}{f:Fr}(hf:(0<=f.turns/\f.turns<=1000000)/\f.kept.length=8):im<|fs.set i f:=fun g hg=>by
 rcases List.mem_or_eq_of_mem_set hg with q|q
 ·exact h g q
 ·rw[q];exact hf
theorem Mn{b:bO}(h:fq b)(h2:2<=b.length):eR (dG bZ Jb) (bZ b) []=some ((.int .i64 0:AV),bZ<|gR b):=by
 unfold eR;rw[AW wW];show(match ([]:List AV).all AV.hi with
  |true=>((if 2<=List.length b then some ((AV.int .i64 0:AV),gR b) else none).map (fun p:AV×bO=>((p.1,bZ p.2):AV×AV))).bind fun p:AV×AV=>match p.1.hi with
   |true=>some p
   |false=>none
  |false=>none)=_
 rw[if_pos h2];rfl
theorem Ie{B:aL}(mc:Mt [De] B){a:MN}{c:Nat}{n':Nat}{de:List Fr}{b':bO}:∀(k n:Nat) (fs:List Fr) (b:bO),oy k n fs b=some (n',de,b')->fq b->im fs->n<=fs.length->n<=c->fs.length<=1000000->
 au pg B 273 (gW 270 3 pg (az Tryz.f65) (.tuple [])<|CC a n' c (bZ b') de) frS (ak (ar++bx (dD 270 3<|CC a n c (bZ b) fs)) 273)
 |0,n,fs,b,h,_,_,_,_,_=>by cases h
 |k+1,n,fs,b,h,hb,hf,hn,hc,hl=>by
  unfold oy at h;have aB:=hf.at<|(n:Int) - 1;have GG:n≠0->∀f:Fr,f={av fs ((n:Int) - 1) with ah:=0,turns:=(av fs<|(n:Int) - 1).turns - 1}->0<(av fs<|(n:Int) - 1).turns->im (fs.set ((n:Int) - 1).toNat f):=fun o8 f e h0=>hf.set (by subst e;refine⟨?_,hf.kept (z:=(n:Int) - 1) ae ae⟩;show 0<=(av fs<|(n:Int) - 1).turns - 1/\(av fs<|(n:Int) - 1).turns - 1<=1000000;omega);by_cases n0:n=0
  ·rw[if_pos n0] at h;injection h with h;injection h with e1 h;injection h with e2 e3
   subst e1;subst e2;subst e3;exact DZ (u':=.tuple []) mc hn hc hl (by have:top=549755813888:=rfl;omega) aB (fun q=>absurd q.1 ae) (fun _=>rfl) (fun _ _=>rfl) (fun q _ _ _=>absurd q ae) (fun q=>absurd q.1 ae) (fun q=>absurd q.1 ae) fun q=>absurd q.1 ae
  ·rw[if_neg n0] at h;simp only at h;have hz:((n:Int) - 1).toNat<=n:=by omega
   have hr:fs.length*13<=top:=by have:top=549755813888:=rfl;omega
   by_cases a1:(av fs<|(n:Int) - 1).ah<(((av fs<|(n:Int) - 1).block.length:Nat):Int)
   ·rw[if_pos a1] at h;injection h with h;injection h with e1 h;injection h with e2 e3
    subst e1;subst e2;subst e3;exact DZ (u':=.tuple []) mc hn hc hl hr aB (fun q=>absurd a1 q.2.1) (fun _=>rfl) (fun _ _=>rfl) (fun _ q _ _=>absurd a1 q) (fun q=>absurd a1 q.2.1) (fun q=>absurd a1 q.2.1) fun q=>absurd a1 q.2.1
   ·rw[if_neg a1] at h;by_cases a2:0<(av fs<|(n:Int) - 1).turns
    ·rw[if_pos a2] at h;by_cases a3:0<(((av fs<|(n:Int) - 1).block.length:Nat):Int)
     ·rw[if_pos a3] at h;injection h with h;injection h with e1 h;injection h with e2 e3
      subst e1;subst e2;subst e3;exact DZ (u':=.tuple []) mc hn hc hl hr aB (fun q=>absurd a2 q.2.2.1) (fun q=>absurd q ae) (fun _ q=>absurd q a1) (fun _ _ _ _=>rfl) (fun q=>absurd a3 q.2.2.2) (fun q=>absurd a2 q.2.2.1) fun q=>absurd a2 q.2.2.1
     ·rw[if_neg a3] at h;have ih:=Ie (c:=c) (a:=a) mc k n _ b h hb (GG n0 _ rfl a2) (by rw[List.length_set];exact hn) hc (by rw[List.length_set];exact hl);exact DZ (u':=.tuple []) mc hn hc hl hr aB (fun q=>absurd a2 q.2.2.1) (fun q=>absurd q ae) (fun _ q=>absurd q a1) (fun _ _ _ q=>absurd q a3) (fun _=>ih) (fun q=>absurd a2 q.2.2.1) fun q=>absurd a2 q.2.2.1
    ·rw[if_neg a2] at h;by_cases a4:(av fs<|(n:Int) - 1).cM=true
     ·rw[if_pos a4] at h;by_cases a5:2<=b.length
      ·rw[if_pos a5] at h;have ih:=Ie (c:=c) (a:=a) mc k _ fs _ h (IP hb a5) hf ae ae hl;exact DZ (u':=bZ<|gR b) mc hn hc hl hr aB (fun _=>Mn hb a5) (fun q=>absurd q ae) (fun _ q=>absurd q a1) (fun _ _ q _=>absurd q a2) (fun q=>absurd q.2.2.1 a2) (fun _=>ih) (fun q=>by rw[a4] at q;cases q.2.2.2)
      ·rw[if_neg a5] at h;cases h
     ·rw[if_neg a4] at h;have ih:=Ie (c:=c) (a:=a) mc k _ fs b h hb hf ae ae hl;exact DZ (u':=.tuple []) mc hn hc hl hr aB (fun q=>absurd q.2.2.2 a4) (fun q=>absurd q ae) (fun _ q=>absurd q a1) (fun _ _ q _=>absurd q a2) (fun q=>absurd q.2.2.1 a2) (fun q=>absurd q.2.2.2 a4) fun _=>ih
theorem LX:∀(k m n:Nat) (fs:List Fr) (b:bO) (r:Nat×List Fr×bO),oy k n fs b=some r->k<=m->oy m n fs b=some r
 |0,_,_,_,_,_,h,_=>by cases h
 |k+1,0,_,_,_,_,_,hm=>by omega
 |k+1,m+1,n,fs,b,r,h,hm=>by
  have ih:=fun n fs b h=>LX k m n fs b r h ae;unfold oy at h ⊢;simp only at h ⊢;split at h
  ·rename_i q;rw[if_pos q];exact h
  ·rename_i q;rw[if_neg q];split at h
   ·rename_i q;rw[if_pos q];exact h
   ·rename_i q;rw[if_neg q];split at h
    ·rename_i q;rw[if_pos q];split at h
     ·rename_i q;rw[if_pos q];exact h
     ·rename_i q;rw[if_neg q];exact ih _ _ _ h
    ·rename_i q;rw[if_neg q];split at h
     ·rename_i q;rw[if_pos q];split at h
      ·rename_i q;rw[if_pos q];exact ih _ _ _ h
      ·cases h
     ·rename_i q;rw[if_neg q];exact ih _ _ _ h
theorem JS:∀l:List Int,l.length=8->l=[l.getD 0 0,l.getD 1 0,l.getD 2 0,l.getD 3 0,l.getD 4 0,l.getD 5 0,l.getD 6 0,l.getD 7 0]
 |[a,b,c,d,e,f,g,h],_=>rfl
theorem abD(f g:Fr)(hf:f.kept.length=8)(hg:g.kept.length=8)(h:aJ f=aJ g):f=g:=by
 obtain⟨a1,a2,a3,a4,a5,a6⟩:=f;obtain⟨b1,b2,b3,b4,b5,b6⟩:=g;simp only[aJ,eight,List.cons_append,List.nil_append,List.cons.injEq,AV.int.injEq,AV.bool.injEq,true_and,_root_.and_true] at h;obtain⟨h1,rfl,rfl,rfl,c0,c1,c2,c3,c4,c5,c6,c7,h6⟩:=h;rw[MV h1,UP h6];have e:a5=b5:=by rw[JS a5 hf,JS b5 hg,c0,c1,c2,c3,c4,c5,c6,c7]
 rw[e]
theorem FI:∀(l m:List Fr),im l->im m->(l.map aJ).flatten=(m.map aJ).flatten->l=m
 |[],[],_,_,_=>rfl
 |[],y::m,_,_,h=>by have:=congrArg List.length h;simp only[List.map_nil,List.flatten_nil,List.length_nil,List.map_cons,List.flatten_cons,List.length_append,fA] at this;omega
 |x::l,[],_,_,h=>by have:=congrArg List.length h;simp only[List.map_nil,List.flatten_nil,List.length_nil,List.map_cons,List.flatten_cons,List.length_append,fA] at this;omega
 |x::l,y::m,hl,hm,h=>by rw[List.map_cons,List.map_cons,List.flatten_cons,List.flatten_cons] at h;obtain⟨e1,e2⟩:=List.append_inj h (by rw[fA,fA]);rw[abD x y (hl x List.mem_cons_self).2 (hm y List.mem_cons_self).2 e1,FI l m (fun f hf=>hl f<|List.mem_cons_of_mem _ hf) (fun f hf=>hm f<|List.mem_cons_of_mem _ hf) e2]
def eJ(st:VS)(rest:List AV)(p:AV×VS):Prop:=∃(a:MN) (n c k n':Nat) (fs de:List Fr) (b b':bO),sD st a/\rest=[]/\st.R.len=n/\st.R.cap= .aq c 13/\st.u=bZ b/\st.row=(fs.map aJ).flatten/\fq b/\im fs/\n<=fs.length/\n<=c/\fs.length<=1000000/\oy k n fs b=some (n',de,b')/\p=(.tuple [],⟨⟨st.R.pre,n',.aq c 13,st.R.post⟩,bZ b',(de.map aJ).flatten⟩)
theorem eJ.bW(st:VS)(rest:List AV)(v v':AV×VS)(h:eJ st rest v)(h':eJ st rest v'):v=v':=by
 obtain⟨a,n,c,k,n',fs,de,b,b',_,_,e1,e2,e3,e4,_,f1,_,_,_,s1,rfl⟩:=h;obtain⟨a1,m,d,j,m',gs,gs',b1,XY,_,_,g1,g2,g3,g4,_,f2,_,_,_,s2,rfl⟩:=h';rw[e1] at g1;subst g1;rw[e2] at g2;injection g2 with g2
 subst g2;rw[e3] at g3;have e:=wW _ _ g3;subst e;rw[e4] at g4;have e:=FI _ _ f1 f2 g4;subst e;have q1:=LX k (max k j) _ _ _ _ s1<|Nat.le_max_left _ _;have q2:=LX j (max k j) _ _ _ _ s2<|Nat.le_max_right _ _;rw[q1] at q2;injection q2 with q2;injection q2 with q2 q3;injection q3 with q3 q4
 rw[q2,q3,q4]
noncomputable def yU:FuncId×KE:=(65,.raw<|m9 10 3<|dJ eJ)
theorem SA(hP:bE pg){L:bV}(h:aU L):aU<|yU::L:=by
 refine IN hP hZ ya iS ig lV lC h (aaB hP<|cJ) Tryz.func65 (body:=a9 pg 65 []) aX aX fun st rest y ba e=>?_;obtain⟨a,n,c,k,n',fs,de,b,b',⟨h1,h2,h3⟩,rfl,e1,e2,e3,e4,hb,hf,hn,hc,hl,hs,hp⟩:=Jc e;injection hp with jc fK
 subst jc;subst fK;refine⟨aM.1 aX,fun B mc=>?_⟩;obtain⟨⟨pre,len,cap,post⟩,u,row⟩:=st;simp only at h1 h2 e1 e2 e3 e4;subst h1;subst h2;subst e1;subst e2;subst e3;subst e4;exact agj (u':=.tuple []) mc<|Ie mc k _ fs b hs hb hf hn hc hl
end ia
end
section
open Go Go.Rn Go.RowKit Go.Proofs
namespace iF
open cv fc cG dt cR cW fw eV fL fN fS fT gh gP gQ g9 ia gg ue
variable {j nt:Nat} {s:AS} {t:Tr AV} {T:Prop} {K:List Item}
noncomputable section
def LF:Code:=a9 pg 55 [1,0,1,0,0]
def wE:Code:=a9 pg 55 [1,0,1,0,1]
def yD:List<|Nat×AV:=[(2,(.ptr<|some (273,0))),(9,(.func (.func 94) [] [(.ptr<|some (274,0))]))]
def KI:List Item:=[.inBlock 0,.code<|a9 pg 55 [1,1]]
def uD(st:LoopState)(p:Option Code):ab:=.loop st p 55 (aQ yD) 15 [10,11] LF wE 275
def oW(o0 o1 o2:ab)(r:Int)(sl:AV)(lo:ab)(js:List<|Nat×Option ab):List<|Nat×Option ab:=ar++([(270,some o0),(271,some o1),(272,some o2),(273,some<|.cells 1 (Tr.fill [.int .i64 r] 0 .nil) []),(274,some<|.cells 1 (Tr.fill [sl] 0 .nil) []),(275,some .defs),(276,some lo)]++js)
abbrev ko(L:bV):Env:=x9 pg 270 eK dX L 270 false
def Pv(P:Program)(YO:aK)(rs:List ResultVar)(k l:Nat)(fr:AF)(s:AS):Option<|AV×Option ab×Option ab×Option ab:=match G0 P YO rs k l fr s with
 |some (v,s2)=>some (v,s2.h.get 270,s2.h.get 271,s2.h.get 272)
 |none=>none
theorem abE{P:Program}{YO:aK}{l:Nat}{B:aL}{J k:Nat}{rs:List ResultVar}{fr:AF}{v:AV}{R:AV->AS->Prop}{o0 o1 o2:ab}(bY:P.follows .mixedOrders=true)(hc:fP P B YO)(hl:∀t a,YN<|YO t a)(h1:fr.round=none)(h2:fr.defers=[])(h:Pv P YO rs k l fr s=some (v,some o0,some o1,some o2))(hR:∀s2:AS,s2.h.get 270=some o0->s2.h.get 271=some o1->s2.h.get 272=some o2->R v s2):GD P YO B J (Fin P rs R) l fr s:=by
 unfold Pv at h;split at h
 ·rename_i v2 s2 e;injection h with h;injection h with h3 h;injection h with h4 h;injection h with h5 h6
  subst h3;exact Nz bY hc hl h1 h2 e<|hR _ h4 h5 h6
 ·cases h
abbrev bX(cs:List AV):Option ab:=some<|.cells 13 (Tr.fill cs 0 .nil) []
def Q2:List AV:=[.slice none 0<|.known 0,.int .i64 0,.int .i64 0,.bool false,.int .i64 0,.int .i64 0,.int .i64 0,.int .i64 0,.int .i64 0,.int .i64 0,.int .i64 0,.int .i64 0,.slice none 0<|.known 0]
theorem Xm(f:Fr):xF (bX Q2) 0 (aJ f)=bX (aJ f):=by have e:=MU f;show(match (Nat.ble (0+13) 13&&(Nat.ble 13 top&&(aJ f).all AV.cf)) with|true=>some (ab.cells 13 (Tr.fill (aJ f) 0<|Tr.fill Q2 0 .nil) [])|false=>none)=_;rw[e];kernel_rfl
def iC(fs:List Fr):Nat->Int
 |0=> -1
 |n+1=>if(av fs (n:Int)).cM=true then(n:Int) else iC fs n
theorem ah6{l:List Fr}{z:Int}{b:Bool}(h:(av l z).cM=b)(h0:0<=z)(h1:z<(l.length:Int)):l[z.toNat]? =some ({av l z with cM:=b}:Fr):=by subst h;exact jh h0 h1
def RW(B:aL)(R:AV->AS->Prop)(v:AV)(s:AS):Prop:=v= .tuple []/\∃p s4,lN 276 s= .ok p s4/\au pg B 273 (Fin pg (az Tryz.f55) R) ⟨55,aQ yD,15,andThen p KI,[275],none⟩ s4
def jsL(b:Nat->Option ab)(j:Nat):List<|Nat×Option ab:=(List.range j).map fun k=>(277+k,b k)
def BW(b:Nat->Option ab)(j:Nat)(o:Option ab)(k:Nat):Option ab:=match Nat.beq k j with
 |true=>o
 |false=>b k
def rI(t:Bool)(i:Int):Int:=match t with
 |true=>i
 |false=>0
def Q3(t:Bool):ab:=match t with
 |true=>uD .done<|some .ret
 |false=>uD .ready none
abbrev sJ(o0 o1 o2:ab)(r:Int)(sl:AV)(lo:ab)(b:Nat->Option ab)(j:Nat):AS:=ak (oW o0 o1 o2 r sl lo<|jsL b j)<|277+j
abbrev E4(i:Int)(cs:List AV)(m:Nat):Tr AV:=aQ [(2,(.ptr<|some (273,0))),(3,(i6 i)),(4,(.ptr<|some (m,0))),(9,(.func (.func 94) [] [(.ptr<|some (274,0))])),(10,(i6 i)),(11,(.agg cs))]
section
variable {o0 o1 o2:ab} {sl:AV} {f:Fr} {i:Int} {b:Nat->Option ab} {B:aL} {R:AV->AS->Prop} {fs:List Fr} {n c:Nat} {d:Nat->AV}
abbrev sA(o0 o1 o2:ab)(sl:AV)(b:Nat->Option ab)(j:Nat):AS:=sJ o0 o1 o2 0 sl (uD .ready none) b j
abbrev sE(o0 o1 o2:ab)(sl:AV)(f:Fr)(i:Int)(b:Nat->Option ab)(t:Bool)(j:Nat):AS:=sJ o0 o1 o2 (rI t i) sl (Q3 t) (BW b j<|bX<|aJ {f with cM:=t})<|j+1
abbrev P9(o0 o1 o2:ab)(sl:AV)(f:Fr)(i:Int)(b:Nat->Option ab)(t:Bool)(j:Nat):Prop:=bh pg (sp []) FU 5 (.round 276) [.int .i64 i,.agg<|aJ {f with cM:=t}] (sA o0 o1 o2 sl b j)= .ok (.bool !t) (sE o0 o1 o2 sl f i b t j)
theorem ajy(t:Bool)(j:Nat)(k1:getLoop 276 (sA o0 o1 o2 sl b j)= .ok (.loop .ready none 55 (aQ yD) 15 [10,11] LF wE 275) (sA o0 o1 o2 sl b j):=by as_aux_lemma=>kernel_rfl)(k2:((xF (bX Q2) 0 (aJ {f with cM:=t})=bX (aJ {f with cM:=t}))/\((⟨55,E4 i (aJ {f with cM:=t})<|277+j,15,[.beginRound,.code wE],[],none⟩:AF)=⟨55,E4 i (aJ {f with cM:=t})<|277+j,15,[.beginRound,.code wE],[],none⟩/\sJ o0 o1 o2 0 sl (uD .ready none) (BW b j<|bX<|aJ {f with cM:=t}) (j+1)=sJ o0 o1 o2 0 sl (uD .ready none) (BW b j<|bX<|aJ {f with cM:=t}) (j+1)))=
 wp (ko []) 900 4 (.fr 55 15 [.code LF,.beginRound,.code wE] (jy [10,11] [.int .i64 i,.agg<|aJ {f with cM:=t}]<|aQ yD)<|sA o0 o1 o2 sl b j) (.st 2<|.rg<|.go 1<|.lh (.cells 13 (Tr.fill (aJ {f with cM:=t}) 0 .nil) [])<|.en<|.cut .no) [] (fun _ _ _=>False) (fun fr s1 _=>fr=⟨55,E4 i (aJ {f with cM:=t})<|277+j,15,[.beginRound,.code wE],[],none⟩/\s1=sJ o0 o1 o2 0 sl (uD .ready none) (BW b j<|bX<|aJ {f with cM:=t}) (j+1)):=by as_aux_lemma=>kernel_rfl)(k3:dZ pg (bh pg (sp []) FU 4) 1 ⟨55,E4 i (aJ {f with cM:=t})<|277+j,15,[.beginRound,.code wE],[],some 276⟩ (sJ o0 o1 o2 0 sl (uD .ready none) (BW b j<|bX<|aJ {f with cM:=t})<|j+1)= .ok (.go ⟨55,E4 i (aJ {f with cM:=t})<|277+j,15,[.code wE],[],some 276⟩) (sJ o0 o1 o2 0 sl (uD .busy none) (BW b j<|bX<|aJ {f with cM:=t})<|j+1):=by as_aux_lemma=>kernel_rfl)(k4:((none:Option Nat)=none/\([]:List Nat)=[]/\(some (.bool !t,sE o0 o1 o2 sl f i b t j):Option<|AV×AS)=some (.bool !t,sE o0 o1 o2 sl f i b t j))=
 wp (ko []) 900 4 (.fr 55 15 [.code wE] (E4 i (aJ {f with cM:=t})<|277+j)<|sJ o0 o1 o2 0 sl (uD .busy none) (BW b j<|bX<|aJ {f with cM:=t})<|j+1) (.st 6<|.cut .no) [] (fun _ _ _=>False) (fun fr s1 _=>fr.round=none/\fr.defers=[]/\AY pg (bh pg (sp []) FU 4) 276 fr s1=some (.bool !t,sE o0 o1 o2 sl f i b t j)):=by as_aux_lemma=>kernel_rfl):P9 o0 o1 o2 sl f i b t j:=
 Fe k1 rfl (C1 (E:=ko []) fm rfl (fun fr s p h=>by obtain⟨rfl,rfl⟩:=h;exact⟨rfl,rfl,Chunk.ev 1 _ _ _ _ k3<|C1 (E:=ko []) fm rfl (fun fr s p h=>Fc h.1 h.2.1 h.2.2) 900 _ (Hz _ _) k4⟩) 900 _ ⟨Xm _,rfl,rfl⟩ k2)
theorem ac1(t:Bool)(hj:j<6):P9 o0 o1 o2 sl f i b t j:=by rcases(by omega:j=0\/j=1\/j=2\/j=3\/j=4\/j=5) with rfl|rfl|rfl|rfl|rfl|rfl<;>cases t<;>exact ajy _ _
def nD:Nat->Nat
 |0=>3
 |_=>15
abbrev fJ(j:Nat)(i:Int)(d:Nat->AV):AF:=⟨94,aQ<|[(0,(.yield 276)),(1,(.ptr<|some (274,0))),(3,(.int .i64 i))]++(List.range<|nD j).map fun k=>(4+k,d k),19,[.code<|a9 pg 94 [1,0,0],.inLoop<|a9 pg 94 [1,0,0],.inBlock 0],[],none⟩
abbrev wF(B:aL)(R:AV->AS->Prop)(fr:AF)(s:AS):Prop:=pV (ko []) 5 (az Tryz.f94) (RW B R) fr s
theorem Yw{B:aL}{R:AV->AS->Prop}{f:Nat}{FR:AF}{S1:AS}(H:wF B R FR S1)(p:Pl)(x:T)(h:T=wp (ko []) 900 5 (.fr f nt K t s) p (az Tryz.f94) (fun v s _=>RW B R v s) (fun fr s1 _=>fr=FR/\s1=S1):=by as_aux_lemma=>kernel_rfl):wF B R ⟨f,t,nt,K,[],none⟩ s:=DO (C:=fun fr s1 _=>fr=FR/\s1=S1) fm rfl (fun fr s1 p h=>by obtain⟨rfl,rfl⟩:=h;exact H) 900 p x h
theorem Yx{B:aL}{R:AV->AS->Prop}{f:Nat}(p:Pl)(x:T)(h:T=wp (ko []) 900 5 (.fr f nt K t s) p (az Tryz.f94) (fun v s _=>RW B R v s) (fun _ _ _=>False):=by as_aux_lemma=>kernel_rfl):wF B R ⟨f,t,nt,K,[],none⟩ s:=DO (C:=fun _ _ _=>False) fm rfl (fun _ _ _ h=>h.elim) 900 p x h
abbrev iL(n c:Nat):AV:=.slice (some (272,0)) n<|.aq c 13
theorem Yy(t:Bool)(mc:Mt [] B){v:Int}(hR:∀s2:AS,s2.h.get 270=some o0->s2.h.get 271=some o1->s2.h.get 272=some (aN aJ fs)->R (.int .i64 v) s2)(p:Option Code)(k1:lN 276 (sJ o0 o1 (aN aJ fs) (rI t i) (iL n c) (Q3 t) b j)= .ok p (sJ o0 o1 (aN aJ fs) (rI t i) (iL n c) (uD .exhausted p) b j):=by as_aux_lemma=>kernel_rfl)(k2:Pv pg (bh pg (sp []) FU 6) (az Tryz.f55) 8 275 ⟨55,aQ yD,15,andThen p KI,[],none⟩ (sJ o0 o1 (aN aJ fs) (rI t i) (iL n c) (uD .exhausted p) b j)=some (.int .i64 v,some o0,some o1,some<|aN aJ fs):=by as_aux_lemma=>kernel_rfl):RW B R (.tuple [])<|sJ o0 o1 (aN aJ fs) (rI t i) (iL n c) (Q3 t) b j:=⟨rfl,p,_,k1,(abE (l:=275) (k:=8) (fr:=⟨55,aQ yD,15,andThen p KI,[],none⟩) (v:=.int .i64 v) (o0:=o0) (o1:=o1) (o2:=aN aJ fs) bY mc.2.2.1 mc.2.2.2 rfl rfl k2 hR).2.2 (by show 273<=277+j;omega)⟩
theorem bkE(hi:i<0)(hL:RW B R (.tuple [])<|sA o0 o1 (aN aJ fs) (iL n c) b j)(k:((i>=0->False)/\(¬i>=0->RW B R (.tuple []) (sA o0 o1 (aN aJ fs) (iL n c) b j)))=wp (ko []) 900 5 (.fr 94 19 (fJ j i d).todo (fJ j i d).tmps<|sA o0 o1 (aN aJ fs) (iL n c) b j) (.st 2<|.rg<|.go 1<|.fk (.no)<|.en<|.rt 3 .no) (az Tryz.f94) (fun v s _=>RW B R v s) (fun _ _ _=>False):=by as_aux_lemma=>kernel_rfl):wF B R (fJ j i d)<|sA o0 o1 (aN aJ fs) (iL n c) b j:=Yx _ ⟨fun h=>by omega,fun _=>hL⟩ k
abbrev Q4(o0 o1:ab)(fs:List Fr)(n c:Nat)(i:Int)(b:Nat->Option ab)(t:Bool)(j:Nat)(P:Prop):Prop:=((i>=0->((0:Int)<=i/\i<(n:Int)/\(cellsOf (some<|aN aJ fs) (i.toNat*13+0) 13=some (((aJ {(av fs i) with cM:=t}).drop 0).take 13)/\(P9 o0 o1 (aN aJ fs) (iL n c) (av fs i) i b t j/\P))))/\(¬i>=0->False))
theorem Yz{t:Bool}{P:Prop}(hj:j<6)(hi:0<=i/\i<n/\n<=fs.length)(hR:fs.length*13<=top)(cV:(av fs i).cM=t)(x:P):Q4 o0 o1 fs n c i b t j P:=⟨fun _=>⟨hi.1,hi.2.1,jO fA hR (ah6 (l:=fs) (z:=i) cV hi.1 ae) 0 13 rfl,ac1 t hj,x⟩,fun h=>h hi.1⟩
theorem bkT(hj:j<6)(hi:0<=i/\i<n/\n<=fs.length)(hR:fs.length*13<=top)(cV:(av fs i).cM=true)(hL:RW B R (.tuple [])<|sE o0 o1 (aN aJ fs) (iL n c) (av fs i) i b true j)(k:Q4 o0 o1 fs n c i b true j (RW B R (.tuple [])<|sE o0 o1 (aN aJ fs) (iL n c) (av fs i) i b true j)=wp (ko []) 900 5 (.fr 94 19 (fJ j i d).todo (fJ j i d).tmps<|sA o0 o1 (aN aJ fs) (iL n c) b j) (.st 2<|.rg<|.go 1<|.fk (.en<|.st 5<|.rg<|.go 4<|.ix<|.ld (aJ {(av fs i) with cM:=true})<|.cy (.bool false) (sE o0 o1 (aN aJ fs) (iL n c) (av fs i) i b true j)<|.go 1<|.en<|.rt 2 .no)<|.no) (az Tryz.f94) (fun v s _=>RW B R v s) (fun _ _ _=>False):=by as_aux_lemma=>kernel_rfl):wF B R (fJ j i d)<|sA o0 o1 (aN aJ fs) (iL n c) b j:=Yx _ (Yz hj hi hR cV hL) k
def dN(d:Nat->AV)(fs:List Fr)(n c:Nat)(i:Int)(k:Nat):AV:=[d 0,d 1,d 2,.int .i64 i,.bool true,.int .i64 i,.int .i64<|i - 1,.yield 276,.int .i64 i,iL n c,.int .i64 i,.ptr<|some (272,i.toNat*13+0),.agg<|aJ {(av fs i) with cM:=false},.bool true,.bool false].getD k<|.bool false
theorem bkF(hj:j<6)(hi:0<=i/\i<n/\n<=fs.length)(hf:fs.length<=1000000)(hR:fs.length*13<=top)(cV:(av fs i).cM=false)(H:wF B R (fJ (j+1) (i - 1)<|dN d fs n c i)<|sE o0 o1 (aN aJ fs) (iL n c) (av fs i) i b false j)(k:Q4 o0 o1 fs n c i b false j ((AV.int .i64 (IntKind.wrap .i64<|i - 1)= .int .i64 (i - 1))/\(fJ (j+1) (i - 1) (dN d fs n c i)=fJ (j+1) (i - 1) (dN d fs n c i)/\sE o0 o1 (aN aJ fs) (iL n c) (av fs i) i b false j=sE o0 o1 (aN aJ fs) (iL n c) (av fs i) i b false j))=wp (ko []) 900 5 (.fr 94 19 (fJ j i d).todo (fJ j i d).tmps<|sA o0 o1 (aN aJ fs) (iL n c) b j) (.st 2<|.rg<|.go 1<|.fk (.en<|.st 5<|.rg<|.go 4<|.ix<|.ld (aJ {(av fs i) with cM:=false})<|.cy (.bool true) (sE o0 o1 (aN aJ fs) (iL n c) (av fs i) i b false j)<|.go 1<|.en<|.st 3<|.rg<|.go 1<|.vl (i6<|i - 1)<|.go 1<|.en<|.st 1<|.cut .no)<|.no) (az Tryz.f94) (fun v s _=>RW B R v s) (fun fr s1 _=>fr=fJ (j+1) (i - 1) (dN d fs n c i)/\s1=sE o0 o1 (aN aJ fs) (iL n c) (av fs i) i b false j):=by as_aux_lemma=>kernel_rfl):wF B R (fJ j i d)<|sA o0 o1 (aN aJ fs) (iL n c) b j:=Yw H _ (Yz hj hi hR cV ⟨wI _,rfl,rfl⟩) k
theorem U7(mc:Mt [] B)(hl:n<=fs.length)(hf:fs.length<=1000000):∀(m j:Nat) (b:Nat->Option ab) (d:Nat->AV),j+m<=6->m<=n->(∀s2:AS,s2.h.get 270=some o0->s2.h.get 271=some o1->s2.h.get 272=some (aN aJ fs)->R (i6<|iC fs m) s2)->wF B R (fJ j ((m:Int) - 1) d) (sA o0 o1 (aN aJ fs) (iL n c) b j)
 |0,j,b,d,h6,_,hQ=>by rcases(by omega:j=0\/j=1\/j=2\/j=3\/j=4\/j=5\/j=6) with rfl|rfl|rfl|rfl|rfl|rfl|rfl<;>exact bkE ae<|Yy (i:=0) false mc hQ none
 |m+1,j,b,d,h6,hn,hQ=>by
  have hR:fs.length*13<=top:=by have:top=549755813888:=rfl;omega
  have e:(((m+1:Nat):Int) - 1)=(m:Int):=by omega
  rw[e];cases cV:(av fs (m:Int)).cM with
  |true=>rw[show iC fs (m+1)=(m:Int) from if_pos cV] at hQ;rcases(by omega:j=0\/j=1\/j=2\/j=3\/j=4\/j=5) with rfl|rfl|rfl|rfl|rfl|rfl<;>exact bkT ae ⟨by omega,by omega,hl⟩ hR cV<|Yy true mc hQ<|some .ret
  |false=>rw[show iC fs (m+1)=iC fs m from if_neg (by rw[cV];intro q;cases q)] at hQ;have ih:=fun b d=>U7 mc hl hf m (j+1) b d ae ae hQ;rcases(by omega:j=0\/j=1\/j=2\/j=3\/j=4\/j=5) with rfl|rfl|rfl|rfl|rfl|rfl<;>exact bkF ae ⟨by omega,by omega,hl⟩ hf hR cV<|ih _ _
def d0(n c k:Nat):AV:=[iL n c,.int .i64 (n:Int),.int .i64<|(n:Int) - 1].getD k<|.bool false
theorem ajz(hn:n<=1000000)(H:wF B R (fJ 0 ((n:Int) - 1)<|d0 n c)<|sA o0 o1 (aN aJ fs) (iL n c) b 0):wF B R (sF 94 Tryz.f94 [.yield 276,.ptr<|some (274,0)])<|sA o0 o1 (aN aJ fs) (iL n c) b 0:=Yw H (.st 1<|.rg<|.go 2<|.vl (i6<|(n:Int) - 1)<|.go 1<|.en<|.st 2<|.cut .no)<|ai (wI<|(n:Int) - 1)<|ai (rX<|fJ 0 ((n:Int) - 1)<|d0 n c)<|rX<|sA o0 o1 (aN aJ fs) (iL n c) b 0
end
theorem Bx:a9 pg 55 [1,0,1,0]= .rangeFunc (.tmp 9) #[10,11] LF wE:=by kernel_rfl
abbrev YA(a:MN)(n c:Nat):ab:=.cells 13 (Tr.fill (a.row (.ptr<|some (271,0)) (iL n c)<|i6 a.steps) 0 .nil) []
abbrev HK(a:MN)(n c:Nat)(u:AV)(fs:List Fr):List<|Nat×Option ab:=ar++[(270,some<|YA a n c),(271,some<|.tok 3 u),(272,some<|aN aJ fs),(273,some<|.cells 1 (Tr.fill [.int .i64 0] 0 .nil) []),(274,some<|.cells 1 (Tr.fill [iL n c] 0 .nil) [])]
abbrev Q5:AF:=⟨55,aQ yD,15,.code (a9 pg 55 [1,0,1,0])::KI,[],none⟩
abbrev iB(a:MN)(n c:Nat)(u:AV)(fs:List Fr):VS:=⟨⟨a.pre,n,.aq c 13,[.int .i64 a.steps]⟩,u,(fs.map aJ).flatten⟩
theorem agk{B:aL}{a:MN}{n c:Nat}{u:AV}{fs:List Fr}(mc:Mt [] B)(YB:n<=6)(hl:n<=fs.length)(hf:fs.length<=1000000):au pg B 273 (gW 270 3 pg (az Tryz.f55) (i6<|iC fs n)<|iB a n c u fs) (sF 55 Tryz.f55 [.ptr<|some (270,0)])<|ak (ar++bx (dD 270 3<|iB a n c u fs)) 273:=by refine xo (E:=qU []) (C:=fun fr s1 _=>fr=Q5/\s1=ak (HK a n c u fs) 275) fm rfl bY mc.2.2.1 mc.2.2.2 M6 rfl mc.1 (fun fr s1 p hC=>?_) 900 (.st 4<|.rg<|.go 4<|.il<|.rt 5<|.en<|.st 1<|.ls yD (HK a n c u fs) 275 .no)<|ai (mS yD)<|ai (mO<|HK a n c u fs)<|ai (rX Q5)<|rX<|ak (HK a n c u fs) 275;obtain⟨rfl,rfl⟩:=hC;unfold Q5;rw[Bx];obtain⟨v,s2,h1,rfl,p,s4,h5,H⟩:=pV.call (E:=(ko [])) (n:=5) Tryz.func94 (CV Tryz.func94 cH)<|ajz (b:=fun _=>none) (c:=c) ae<|U7 (o0:=YA a n c) (o1:=.tok 3 u) (R:=fun(y1:AV) (s':AS)=>y1= .int .i64 (iC fs n)/\∀m o,(m,o)∈dD 270 3 (iB a n c u fs)->s'.h.get m=some o) mc hl hf n 0 _ _ ae (Nat.le_refl n) fun s2 a b d=>nL rfl a b d;exact au.chunk bY mc.2.2.1 mc.2.2.2 (II (gv:=.func (.func 94) [] [.ptr<|some (274,0)]) (s1:=ak (HK a n c u fs++[(275,some .defs)]) 276) cH cH cH h1 h5) (by show 273<=275;omega) H
def rr(st:VS)(rest:List AV)(v:AV):Prop:=∃(a:MN) (n c:Nat) (fs:List Fr),sD st a/\rest=[]/\st.R.len=n/\st.R.cap= .aq c 13/\st.row=(fs.map aJ).flatten/\im fs/\n<=6/\n<=fs.length/\fs.length<=1000000/\v= .int .i64 (iC fs n)
theorem rr.bW(st:VS)(rest:List AV)(v v':AV)(h:rr st rest v)(h':rr st rest v'):v=v':=by obtain⟨a,n,c,fs,_,_,rfl,_,e4,f1,_,_,_,rfl⟩:=h;obtain⟨a1,m,d,gs,_,_,rfl,_,g4,f2,_,_,_,rfl⟩:=h';rw[e4] at g4;rw[FI _ _ f1 f2 g4]
def me:FuncId×KE:=(55,.raw<|nd 10 3<|vR rr)
theorem Mo(hP:bE pg){L:bV}(h:aU L):aU<|me::L:=by refine Fs hP hZ ya iS ig lV lC h cJ Tryz.func55 (body:=a9 pg 55 []) aX aX fun st rest y e _=>?_;obtain⟨a,n,c,fs,⟨h1,h2,h3⟩,rfl,e1,e2,e4,_,YB,hl,hf,rfl⟩:=Ga e;refine⟨aM.1 aX,fun B mc=>?_⟩;obtain⟨⟨pre,len,cap,post⟩,u,row⟩:=st;simp only at h1 h2 e1 e2 e4;subst h1;subst h2;subst e1;subst e2;subst e4;exact agk mc YB hl hf
end
end iF
end
section
open Go Go.Rn Go.RowKit Go.Proofs
namespace iW
open cv fc cG dt cR cW fw eV fL fN fS fT gh gP gQ g9 ia iF gg
variable {fs:List Fr} {u:AV} {to aG nn n2 kind:Int} {c N4 N3 N2 N L4 L3 L2 L:Nat} {a:MN} {B:aL}
noncomputable section
def qz(o:Option St):AV:=match o with
 |none=>.tuple [.agg [.int .u8 0,.int .i64 0,.int .u8 0,.int .i64 0,.slice none 0<|.known 0,.int .u8 0,.int .i64 0,.slice none 0<|.known 0,.slice none 0<|.known 0,.slice none 0<|.known 0],.bool false]
 |some s=>.tuple [.agg<|aP s,.bool true]
def zS(fs:List Fr)(n:Nat):Fr:=av fs<|(n:Int) - 1
def mK(fs:List Fr)(n:Nat)(o:Option St):Prop:=(n=0/\o=none)\/(1<=n/\0<=(zS fs n).ah/\∃s,(zS fs n).block[(zS fs n).ah.toNat]? =some s/\o=some s)
theorem mK.bW{n:Nat}{o o':Option St}(h:mK fs n o)(h':mK fs n o'):o=o':=by
 rcases h with⟨a,b⟩|⟨a,_,s,b,e⟩<;>rcases h' with⟨a',b'⟩|⟨a',_,s',b',e'⟩
 ·rw[b,b']
 ·omega
 ·omega
 ·rw[b] at b';injection b' with b';rw[e,e',b']
noncomputable abbrev Dw(a:MN)(n c:Nat)(u:AV)(fs:List Fr):VS:=(⟨⟨a.pre,n,(.aq c 13),[.int .i64 a.steps]⟩,u,(fs.map aJ).flatten⟩:VS)
noncomputable abbrev Dx(kind to op nn:Int)(N L:Nat)(aG n2:Int)(N2 L2 N3 L3 N4 L4:Nat):List AV:=[(u8<|kind),(i6 to),(u8<|op),(i6 nn),(.U N 0 L),(u8<|aG),(i6 n2),(.U N2 0 L2),(.U N3 0 L3),(.U N4 0 L4)]
theorem ajA{n:Nat}{op:Int}(mc:Mt [] B)(h1:1<=n)(hn:n<=fs.length)(hf:fs.length<=1000000)(hR:fs.length*13<=top)(aB:0<=(av fs<|(n:Int) - 1).ah/\(av fs<|(n:Int) - 1).ah<(((av fs<|(n:Int) - 1).block.length:Nat):Int))(hx:cT FU (nm ((av fs<|(n:Int) - 1).block.map aP).flatten) (0+(av fs<|(n:Int) - 1).ah.toNat*10+0) 10=some (Dx kind to op nn N L aG n2 N2 L2 N3 L3 N4 L4)):au pg B 273 (gW 270 3 pg (az Tryz.f53) (.tuple [.agg<|Dx kind to op nn N L aG n2 N2 L2 N3 L3 N4 L4,.bool true])<|Dw a n c u fs) (sF 53 Tryz.f53 [.ptr<|some (270,0)])<|ak (ar++bx (dD 270 3<|Dw a n c u fs)) 273:=by exact mh (E:=qU []) fm rfl bY mc.2.2.1 mc.2.2.2 900 (.st 4<|.rg<|.go 5<|.fk (.no)<|.en<|.st 3<|.rg<|.go 9<|.vl (i6<|(n:Int) - 1)<|.ix<|.ld (aJ<|av fs<|(n:Int) - 1)<|.go 1<|.lh (.cells 13 (Tr.fill (aJ<|av fs<|(n:Int) - 1) 0 .nil) [])<|.en<|.st 1<|.rg<|.go 4<|.fh<|.fj (Dx kind to op nn N L aG n2 N2 L2 N3 L3 N4 L4)<|.go 2<|.en<|.rt 1 .no)<|ax ((n:Int)=0) bF fun _=>(ai (wI<|(n:Int) - 1)<|dc ((n:Int) - 1) (n:Int)<|ai (jO fA hR (jh (l:=fs) (z:=((n:Int) - 1)) ae ae) 0 13 rfl)<|ai (Xm<|av fs<|(n:Int) - 1)<|dc ((av fs<|(n:Int) - 1).ah) (((av fs<|(n:Int) - 1).block.length:Nat):Int)<|ai (show top<=nm ((av fs<|(n:Int) - 1).block.map aP).flatten from cr _)<|ai hx<|nL (st:=(Dw a n c u fs)) (s:=ak (ar++[(270,some<|.cells 13 (Tr.fill (a.row (.ptr<|some (271,0)) (.slice (some (272,0)) (n)<|.aq c 13)<|i6 a.steps) 0 .nil) []),(271,(some<|.tok 3 u)),(272,(some<|aN aJ fs)),(273,some<|.cells 10 (Tr.fill (Dx kind to op nn N L aG n2 N2 L2 N3 L3 N4 L4) 0 .nil) []),(274,some<|.cells 13 (Tr.fill (aJ<|av fs<|(n:Int) - 1) 0 .nil) [])]) 275) (show((.tuple [(.agg<|Dx kind to op nn N L aG n2 N2 L2 N3 L3 N4 L4),(.bool true)]):AV)=(.tuple [.agg<|Dx kind to op nn N L aG n2 N2 L2 N3 L3 N4 L4,.bool true]) from rfl) cw cw cw)
noncomputable abbrev VT:AV:=.tuple [.agg [.int .u8 0,.int .i64 0,.int .u8 0,.int .i64 0,.slice none 0<|.known 0,.int .u8 0,.int .i64 0,.slice none 0<|.known 0,.slice none 0<|.known 0,.slice none 0<|.known 0],.bool false]
theorem ajB{n:Nat}{N L N2 L2 N3 L3 N4 L4:Nat}{kind to op nn aG n2:Int}(mc:Mt [] B)(h1:n=0):au pg B 273 (gW 270 3 pg (az Tryz.f53) VT<|Dw a n c u fs) (sF 53 Tryz.f53 [.ptr<|some (270,0)])<|ak (ar++bx (dD 270 3<|Dw a n c u fs)) 273:=by exact mh (E:=qU []) fm rfl bY mc.2.2.1 mc.2.2.2 900 (.st 4<|.rg<|.go 5<|.fk (.en<|.rt 4 .no)<|.no)<|ax ((n:Int)=0) (fun _=>(nL (st:=(Dw a n c u fs)) (s:=ak (ar++[(270,some<|.cells 13 (Tr.fill (a.row (.ptr<|some (271,0)) (.slice (some (272,0)) (n)<|.aq c 13)<|i6 a.steps) 0 .nil) []),(271,(some<|.tok 3 u)),(272,(some<|aN aJ fs)),(273,some<|.cells 10 (Tr.fill [(u8<|.ofNat 0),i0,(u8<|.ofNat 0),i0,(.slice none 0<|.known 0),(u8<|.ofNat 0),i0,(.slice none 0<|.known 0),(.slice none 0<|.known 0),(.slice none 0<|.known 0)] 0 .nil) [])]) 274) (show((.tuple [(.agg [(u8<|.ofNat 0),i0,(u8<|.ofNat 0),i0,(.slice none 0<|.known 0),(u8<|.ofNat 0),i0,(.slice none 0<|.known 0),(.slice none 0<|.known 0),(.slice none 0<|.known 0)]),(.bool false)]):AV)=VT from rfl) cw cw cw)) bF
def iT(st:VS)(rest:List AV)(v:AV):Prop:=∃(a:MN) (n c:Nat) (fs:List Fr) (o:Option St),sD st a/\rest=[]/\st.R.len=n/\st.R.cap= .aq c 13/\st.row=(fs.map aJ).flatten/\im fs/\n<=fs.length/\fs.length<=1000000/\mK fs n o/\v=qz o
theorem iT.bW(st:VS)(rest:List AV)(v v':AV)(h:iT st rest v)(h':iT st rest v'):v=v':=by obtain⟨a,n,c,fs,o,_,_,rfl,_,e4,f1,_,_,s1,rfl⟩:=h;obtain⟨a1,m,d,gs,o',_,_,rfl,_,g4,f2,_,_,s2,rfl⟩:=h';rw[e4] at g4;have e:=FI _ _ f1 f2 g4;subst e;rw[s1.bW s2]
def mm:FuncId×KE:=(53,.raw<|nd 10 3<|vR iT)
theorem NC(hP:bE pg){L:bV}(h:aU L):aU<|mm::L:=by
 refine Fs hP hZ ya iS ig lV lC h cJ Tryz.func53 (body:=a9 pg 53 []) aX aX fun st rest y e _=>?_;obtain⟨a,n,c,fs,o,⟨h1,h2,h3⟩,rfl,e1,e2,e4,_,hl,hf,hS,rfl⟩:=Ga e;refine⟨aM.1 aX,fun B mc=>?_⟩;obtain⟨⟨pre,len,cap,post⟩,u,row⟩:=st;simp only at h1 h2 e1 e2 e4;subst h1;subst h2;subst e1;subst e2;subst e4;rcases hS with⟨q,rfl⟩|⟨q,q0,s,q1,rfl⟩
 ·exact ajB (N:=0) (L:=0) (N2:=0) (L2:=0) (N3:=0) (L3:=0) (N4:=0) (L4:=0) (kind:=0) (to:=0) (op:=0) (nn:=0) (aG:=0) (n2:=0) mc q
 ·obtain⟨kind,to,⟨oa,na,la⟩,⟨ob,nb,lb⟩,bd,el⟩:=s;have bB:=(List.getElem?_eq_some_iff.1 q1).1;have hx:=Bi mC q1 0 10<|Nat.le_refl _;rw[show(zS fs len).ah.toNat*10+0=0+(zS fs len).ah.toNat*10+0 by omega,show((aP<|.mk kind to (.mk oa na la) (.mk ob nb lb) bd el).drop 0).take 10=aP (.mk kind to (.mk oa na la) (.mk ob nb lb) bd el) by rw[List.drop_zero];exact List.take_of_length_le (by rw[mC.len];omega)] at hx;rw[show qz (some<|.mk kind to (.mk oa na la) (.mk ob nb lb) bd el)= .tuple [.agg<|aP<|.mk kind to (.mk oa na la) (.mk ob nb lb) bd el,.bool true] from rfl];rw[aP,aD,aD] at hx ⊢;exact ajA mc q hl hf (by have:top=549755813888:=rfl;omega) ⟨q0,by unfold zS at bB q0;omega⟩ hx
end
end iW
end
section
open Go Go.Rn Go.RowKit Go.Proofs
namespace jH
open cv fc cG dt cR cW fw eV fL fN fS fT gh gP gQ g9 ia iF iW gg
variable {wi v to aG nn n2 kind gx:Int} {u Y:AV} {fs:List Fr} {c N4 N3 N2 N L4 L3 L2 L:Nat} {a:MN} {B:aL}
noncomputable abbrev fe(a:MN)(n c:Nat)(u:AV)(fs:List Fr):VS:=(⟨⟨a.pre,n,(.aq c 13),[.int .i64 a.steps]⟩,u,(fs.map aJ).flatten⟩:VS)
noncomputable abbrev JT:List AV:=[(u8<|.ofNat 0),i0,(u8<|.ofNat 0),i0,(.slice none 0<|.known 0),(u8<|.ofNat 0),i0,(.slice none 0<|.known 0),(.slice none 0<|.known 0),(.slice none 0<|.known 0)]
noncomputable abbrev Jz(n c:Nat):AV:=.slice (some (272,0)) (n)<|.aq c 13
theorem ah7{n:Nat}{N L N2 L2 N3 L3 N4 L4:Nat}{kind to op nn aG n2:Int}{z v wi gx:Int}(mc:Mt [mm,iE,jF,kP,me] B)(hO:bH 10 (fe a n c u fs)=true)(hs:vR iT (fe a n c u fs) []=some (.tuple [(.agg JT),(.bool false)]))(E0:(.agg [.int .u8 3,.int .i64 0,.int .i64 0]:AV)=Y):au pg B 273 (gW 270 3 pg (az Tryz.f35) Y<|fe a n c u fs) (sF 35 Tryz.f35 [.ptr<|some (270,0)])<|ak (ar++bx (dD 270 3<|fe a n c u fs)) 273:=by exact mh (E:=qU [mm,iE,jF,kP,me]) fm rfl bY mc.2.2.1 mc.2.2.2 900 (.st 8<|.rg<|.go 1<|.cg (.tuple [(.agg JT),(.bool false)]) (vG 272) (vQ 272<|fe a n c u fs)<|.go 6<|.en<|.rt 8 .no)<|jK [mm,iE,jF,kP,me] 53 272 (vR iT) [] (fe a n c u fs) (.tuple [(.agg JT),(.bool false)]) hO hs rfl cw<|nL (st:=(fe a n c u fs)) (s:=ak (ar++[(270,some<|.cells 13 (Tr.fill (a.row (.ptr<|some (271,0)) (Jz n c)<|i6 a.steps) 0 .nil) []),(271,(some<|.tok 3 u)),(272,(some<|aN aJ fs)),(273,some<|.cells 3 (Tr.fill [(u8<|.ofNat 3),i0,i0] 0 .nil) []),(274,some<|.cells 10 (Tr.fill JT 0 .nil) [])]) 275) (show(.agg [(u8<|.ofNat 3),i0,i0])=Y from E0) cw cw cw
noncomputable abbrev afB(a:MN)(n c:Nat)(u:AV)(fs:List Fr)(kind to op nn:Int)(N L:Nat)(aG n2:Int)(N2 L2 N3 L3 N4 L4:Nat):List<|Nat×Option ab:=ar++[(270,some<|.cells 13 (Tr.fill (a.row (.ptr<|some (271,0)) (.slice (some (272,0)) (n)<|.aq c 13)<|i6 a.steps) 0 .nil) []),(271,(some<|.tok 3 u)),(272,(some<|aN aJ fs)),(273,some<|.cells 3 (Tr.fill [(u8<|.ofNat 1),i0,i0] 0 .nil) []),(274,some<|.cells 10 (Tr.fill [(u8<|kind),(i6 to),(u8<|op),(i6 nn),(.U N 0 L),(u8<|aG),(i6 n2),(.U N2 0 L2),(.U N3 0 L3),(.U N4 0 L4)] 0 .nil) [])]
noncomputable abbrev tj(kind to op nn:Int)(N L:Nat)(aG n2:Int)(N2 L2 N3 L3 N4 L4:Nat):List AV:=[(u8<|kind),(i6 to),(u8<|op),(i6 nn),(.U N 0 L),(u8<|aG),(i6 n2),(.U N2 0 L2),(.U N3 0 L3),(.U N4 0 L4)]
noncomputable abbrev xp(op nn:Int)(N L:Nat):List AV:=[(.agg [(u8<|op),(i6 nn),(.U N 0 L)])]
theorem ah8{n:Nat}{op:Int}{z:Int}(mc:Mt [mm,iE,jF,kP,me] B)(hO:bH 10 (fe a n c u fs)=true)(hs:vR iT (fe a n c u fs) []=some (.tuple [(.agg<|tj kind to op nn N L aG n2 N2 L2 N3 L3 N4 L4),(.bool true)]))(hY:((.tuple [(.agg<|tj kind to op nn N L aG n2 N2 L2 N3 L3 N4 L4),(.bool true)]):AV).hi=true)(hA:((xp op nn N L):List AV).all AV.hi=true)(hz:vR jo (fe a n c u fs) (xp op nn N L)=some (.int .i64 z))(hv:vR nM (fe a n c u fs) (xp op nn N L)=some (.int .i64 v))(hw:vR rr (fe a n c u fs) []=some (.int .i64 wi))(hg:eR (dG bZ BE) u [.int .i64 v]=some (.tuple [.int .i64 gx,.bool true],u))(E8:kind=8->(.agg [.int .u8 3,.int .i64 0,.int .i64 z]:AV)=Y)(E6:kind=6->wi<0->(.agg [.int .u8 4,.int .i64 0,.int .i64 0]:AV)=Y)(EI:kind≠8->(kind=6->0<=wi)->(kind=kind)->(.agg [.int .u8 1,.int .i64 0,.int .i64 0]:AV)=Y):au pg B 273 (gW 270 3 pg (az Tryz.f35) Y<|fe a n c u fs) (sF 35 Tryz.f35 [.ptr<|some (270,0)])<|ak (ar++bx (dD 270 3<|fe a n c u fs)) 273:=by exact mh (E:=qU [mm,iE,jF,kP,me]) fm rfl bY mc.2.2.1 mc.2.2.2 900 (.st 8<|.rg<|.go 1<|.cg (.tuple [(.agg<|tj kind to op nn N L aG n2 N2 L2 N3 L3 N4 L4),(.bool true)]) (vG 272) (vQ 272<|fe a n c u fs)<|.go 6<|.en<|.st 6<|.rg<|.go 2<|.fk (.go 1<|.en<|.st 2<|.rg<|.go 3<|.cg (i6 z) (vG 272) (vQ 272<|fe a n c u fs)<|.go 2<|.en<|.rt 1 .no)<|.go 1<|.en<|.st 2<|.rg<|.go 2<|.fk (.go 2<|.cg (i6 wi) (vG 272) (vQ 272<|fe a n c u fs)<|.fk (.go 2<|.en<|.rt 4 .no)<|.go 2<|.en<|.st 2<|.rg<|.go 2<|.fk (.go 1<|.en<|.st 2<|.rg<|.go 3<|.cg (i6 v) (vG 272) (vQ 272<|fe a n c u fs)<|.go 1<|.en<|.st 1<|.rg<|.go 5<|.kt (.tuple [(i6 gx),(.bool true)]) u<|.go 5<|.en<|.rt 8 .no)<|.go 1<|.en<|.rt 6 .no)<|.go 6<|.en<|.st 2<|.rg<|.go 2<|.fk (.go 1<|.en<|.st 2<|.rg<|.go 3<|.cg (i6 v) (vG 272) (vQ 272<|fe a n c u fs)<|.go 1<|.en<|.st 1<|.rg<|.go 5<|.kt (.tuple [(i6 gx),(.bool true)]) u<|.go 5<|.en<|.rt 8 .no)<|.go 1<|.en<|.rt 6 .no)<|jK [mm,iE,jF,kP,me] 53 272 (vR iT) [] (fe a n c u fs) (.tuple [(.agg<|tj kind to op nn N L aG n2 N2 L2 N3 L3 N4 L4),(.bool true)]) hO hs rfl hY<|ax (kind=8) WY fun _=>(ax (kind=6) (fun _=>(jK [mm,iE,jF,kP,me] 55 272 (vR rr) [] (fe a n c u fs) (i6 wi) hO hw rfl cw<|ax (wi<0) W1 W3)) W3)
theorem ah9{n:Nat}{op:Int}{z:Int}(mc:Mt [mm,iE,jF,kP,me] B)(hO:bH 10 (fe a n c u fs)=true)(hs:vR iT (fe a n c u fs) []=some (.tuple [(.agg<|tj kind to op nn N L aG n2 N2 L2 N3 L3 N4 L4),(.bool true)]))(hY:((.tuple [(.agg<|tj kind to op nn N L aG n2 N2 L2 N3 L3 N4 L4),(.bool true)]):AV).hi=true)(hA:((xp op nn N L):List AV).all AV.hi=true)(hz:vR jo (fe a n c u fs) (xp op nn N L)=some (.int .i64 z))(hv:vR nM (fe a n c u fs) (xp op nn N L)=some (.int .i64 v))(hw:vR rr (fe a n c u fs) []=some (.int .i64 wi))(hg:eR (dG bZ BE) u [.int .i64 v]=some (.tuple [.int .i64 gx,.bool false],u))(E8:kind=8->(.agg [.int .u8 3,.int .i64 0,.int .i64 z]:AV)=Y)(E6:kind=6->wi<0->(.agg [.int .u8 4,.int .i64 0,.int .i64 0]:AV)=Y)(E2:kind=2->(.agg [.int .u8 2,.int .i64 v,.int .i64 0]:AV)=Y)(EI:kind≠8->(kind=6->0<=wi)->(kind≠2)->(.agg [.int .u8 1,.int .i64 0,.int .i64 0]:AV)=Y):au pg B 273 (gW 270 3 pg (az Tryz.f35) Y<|fe a n c u fs) (sF 35 Tryz.f35 [.ptr<|some (270,0)])<|ak (ar++bx (dD 270 3<|fe a n c u fs)) 273:=by exact mh (E:=qU [mm,iE,jF,kP,me]) fm rfl bY mc.2.2.1 mc.2.2.2 900 (.st 8<|.rg<|.go 1<|.cg (.tuple [(.agg<|tj kind to op nn N L aG n2 N2 L2 N3 L3 N4 L4),(.bool true)]) (vG 272) (vQ 272<|fe a n c u fs)<|.go 6<|.en<|.st 6<|.rg<|.go 2<|.fk (.go 1<|.en<|.st 2<|.rg<|.go 3<|.cg (i6 z) (vG 272) (vQ 272<|fe a n c u fs)<|.go 2<|.en<|.rt 1 .no)<|.go 1<|.en<|.st 2<|.rg<|.go 2<|.fk (.go 2<|.cg (i6 wi) (vG 272) (vQ 272<|fe a n c u fs)<|.fk (.go 2<|.en<|.rt 4 .no)<|.go 2<|.en<|.st 2<|.rg<|.go 2<|.fk (.go 1<|.en<|.st 2<|.rg<|.go 3<|.cg (i6 v) (vG 272) (vQ 272<|fe a n c u fs)<|.go 1<|.en<|.st 1<|.rg<|.go 5<|.kt (.tuple [(i6 gx),(.bool false)]) u<|.go 5<|.en<|.rt 6 .no)<|.go 1<|.en<|.rt 6 .no)<|.go 6<|.en<|.st 2<|.rg<|.go 2<|.fk (.go 1<|.en<|.st 2<|.rg<|.go 3<|.cg (i6 v) (vG 272) (vQ 272<|fe a n c u fs)<|.go 1<|.en<|.st 1<|.rg<|.go 5<|.kt (.tuple [(i6 gx),(.bool false)]) u<|.go 5<|.en<|.rt 6 .no)<|.go 1<|.en<|.rt 6 .no)<|jK [mm,iE,jF,kP,me] 53 272 (vR iT) [] (fe a n c u fs) (.tuple [(.agg<|tj kind to op nn N L aG n2 N2 L2 N3 L3 N4 L4),(.bool true)]) hO hs rfl hY<|ax (kind=8) WY fun _=>(ax (kind=6) (fun _=>(jK [mm,iE,jF,kP,me] 55 272 (vR rr) [] (fe a n c u fs) (i6 wi) hO hw rfl cw<|ax (wi<0) W1 fun _=>(ax (kind=2) WX fun _=>Lm))) fun _=>(ax (kind=2) WX fun _=>Lm))
end jH
end
section
open Go Go.Rn Go.RowKit Go.Proofs
namespace jI
open cv fc cG dt cR cW fw eV fL fN fS fT gh gP gQ g9 ia iF iW jH gg
variable {to kind i:Int} {el bd:List St} {eb ea:Ex} {o:Option St} {n':Nat} {de:List Fr} {b':bO}
noncomputable section
abbrev dh(a:MN)(n c:Nat)(fs:List Fr)(b:bO):VS:=⟨⟨a.pre,n,.aq c 13,[.int .i64 a.steps]⟩,bZ b,(fs.map aJ).flatten⟩
structure di (a:MN) (n c:Nat) (fs:List Fr) (b:bO):Prop where
 aO:eh bj 1 (.U a.G a.q a.lg) a.aO
 buf:fq b
 oh:im fs
 mW:n<=fs.length
 p6:n<=c
 len:fs.length<=1000000
 vars:1<=a.vars/\a.vars<=32
section
variable {a:MN} {n c:Nat} {fs:List Fr} {b:bO}
theorem di.wG(h:di a n c fs b):sD (dh a n c fs b) a:=⟨rfl,rfl,h.aO⟩
theorem VU(fs:List Fr):(fs.map aJ).flatten.length=fs.length*13:=by
 have:=sL (K:=13) (l:=fs.map aJ) fun c hc=>by obtain⟨a,_,rfl⟩:=List.mem_map.1 hc;exact fA a
 rw[this,List.length_map]
theorem U8(fs:List Fr):(fs.map aJ).flatten.all AV.bG=true:=by rw[List.all_eq_true];intro c hc;obtain⟨y,hy,hc⟩:=List.mem_flatten.1 hc;obtain⟨g,_,rfl⟩:=List.mem_map.1 hy;exact T0 g c hc
theorem di.bH(h:di a n c fs b):bH 10 (dh a n c fs b)=true:=by
 have ht:top=549755813888:=rfl;have e1:sB (dh a n c fs b).R=true:=by have g:=h.aO.bG;unfold sB;show((a.pre).all AV.bG&&([AV.int .i64 a.steps]).all AV.bG)=true;unfold MN.pre;simp only[List.all_cons,List.all_nil,g];rfl
 refine and_true.2 ⟨e1,and_true.2 ⟨U8 fs,and_true.2 ⟨aM.2 (by show 13<=top;omega),aM.2 ?_⟩⟩⟩;show(fs.map aJ).flatten.length<=top;rw[VU];have:=h.len;omega
theorem aeH{a':MN}{c':Nat}(h:di a n c fs b)(h':di a' n' c' de b')(e:dh a n c fs b=dh a' n' c' de b'):a=a'/\n=n'/\c=c'/\fs=de/\b=b':=by
 have e1:=h.wG;rw[e] at e1;have ea:=e1.inj h'.wG;injection e with e2 e3 e4
 injection e2 with e5 e6 e7 e8
 injection e7 with e7
 exact⟨ea,e6,e7,FI _ _ h.oh h'.oh e4,wW _ _ e3⟩
def dE(a:MN)(e:Ex):Int:=(zt e a.l a.aO).1
def iG(x m:Int):Int:=if m<1 then 0 else if Int.tmod x m<0 then Int.tmod x m+m else Int.tmod x m
theorem agl(x m:Int):ud x m= .tuple [.int .i64<|iG x m,.int .i64 (if m<1 then 1 else 0)]:=by
 unfold ud iG
 repeat' split
 all_goals first|rfl|omega
theorem aeI{x m:Int}(h:1<=m):0<=iG x m/\iG x m<m:=by
 unfold iG;rw[if_neg ae];have h1:=Int.tmod_lt_of_pos x (show 0<m by omega);have h2: - m<Int.tmod x m:=by have:=Int.lt_tmod_of_pos x (show 0<m by omega);omega
 split<;>omega
theorem tA(h:di a n c fs b)(e:Ex):vR jo (dh a n c fs b) [.agg<|aD e]=some (i6<|dE a e):=DY jo.bW ⟨a,e,h.wG,rfl,rfl⟩
theorem OO(h:di a n c fs b)(e:Ex):vR nM (dh a n c fs b) [.agg<|aD e]=some (i6<|iG (dE a e) a.vars):=DY nM.bW ⟨a,e,_,_,h.wG,rfl,by have:=h.vars;omega,agl _ _,rfl⟩
theorem Tp(h:di a n c fs b)(h6:n<=6):vR rr (dh a n c fs b) []=some (i6<|iC fs n):=DY rr.bW ⟨a,n,c,fs,h.wG,rfl,rfl,rfl,rfl,h.oh,h6,h.mW,h.len,rfl⟩
theorem xd(h:di a n c fs b)(hs:mK fs n o):vR iT (dh a n c fs b) []=some (qz o):=DY iT.bW ⟨a,n,c,fs,o,h.wG,rfl,rfl,rfl,rfl,h.oh,h.mW,h.len,hs,rfl⟩
theorem U9{b:bO}(b6:b.length<=6)(v:Int):eR (dG bZ BE) (bZ b) [.int .i64 v]=some (.tuple [.int .i64 (ky b v).1,.bool (ky b v).2],bZ b):=by
 unfold eR;rw[AW wW];show(match ([.int .i64 v]:List AV).all AV.hi with
  |true=>((if b.length<=6 then some (AV.tuple [.int .i64 (ky b v).1,.bool (ky b v).2],b) else none).map (fun p:AV×bO=>((p.1,bZ p.2):AV×AV))).bind fun p:AV×AV=>match p.1.hi with
   |true=>some p
   |false=>none
  |false=>none)=_
 rw[if_pos b6];rfl
theorem aeJ{b:bO}(b6:b.length<=6)(v x:Int):eR (dG bZ Gw) (bZ b) [.int .i64 v,.int .i64 x]=some ((.int .i64 0:AV),bZ<|ml b v x):=by
 unfold eR;rw[AW wW];show(match ([.int .i64 v,.int .i64 x]:List AV).all AV.hi with
  |true=>((if b.length<=6 then some ((AV.int .i64 0:AV),ml b v x) else none).map (fun p:AV×bO=>((p.1,bZ p.2):AV×AV))).bind fun p:AV×AV=>match p.1.hi with
   |true=>some p
   |false=>none
  |false=>none)=_
 rw[if_pos b6];rfl
theorem abF(h:di a n c fs b){k:Nat}(hs:oy k n fs b=some (n',de,b')):dJ eJ (dh a n c fs b) []=some (.tuple [],dh a n' c de b'):=JR eJ.bW ⟨a,n,c,k,n',fs,de,b,b',h.wG,rfl,rfl,rfl,rfl,rfl,h.buf,h.oh,h.mW,h.p6,h.len,hs,rfl⟩
end
def MN.ib(a:MN)(i z:Int):MN:=match i.toNat with
 |0=>{a with x0:=z}
 |1=>{a with x1:=z}
 |2=>{a with x2:=z}
 |3=>{a with x3:=z}
 |4=>{a with x4:=z}
 |5=>{a with x5:=z}
 |6=>{a with x6:=z}
 |7=>{a with x7:=z}
 |_=>a
section
variable {a:MN} {n c:Nat} {fs:List Fr} {b:bO}
theorem Va(h0:0<=i)(h8:i<8):i=0\/i=1\/i=2\/i=3\/i=4\/i=5\/i=6\/i=7:=by omega
theorem OP{i z:Int}(h0:0<=i)(h8:i<8):vM (dh a n c fs b) i z=dh (MN.ib a i z) n c fs b:=by rcases Va h0 h8 with rfl|rfl|rfl|rfl|rfl|rfl|rfl|rfl<;>rfl
theorem abG{z:Int}:(MN.ib a i z).vars=a.vars/\(MN.ib a i z).G=a.G/\(MN.ib a i z).q=a.q/\(MN.ib a i z).lg=a.lg/\(MN.ib a i z).aO=a.aO/\(MN.ib a i z).steps=a.steps:=by unfold MN.ib;split<;>exact⟨rfl,rfl,rfl,rfl,rfl,rfl⟩
theorem di.ib{z:Int}(h:di a n c fs b):di (MN.ib a i z) n c fs b:=by
 obtain⟨e1,e2,e3,e4,e5,_⟩:=abG (a:=a) (i:=i) (z:=z);refine⟨?_,h.buf,h.oh,h.mW,h.p6,h.len,?_⟩
 ·rw[e2,e3,e4,e5];exact h.aO
 ·rw[e1];exact h.vars
theorem agm(h:di a n c fs b)(h0:0<=to)(h8:to<8):dJ zR (dh a n c fs b) [.agg<|aP<|.mk kind to ea eb bd el]=some (.tuple [],dh (MN.ib a to<|dE a ea) n c fs b):=JR zR.bW ⟨a,kind,to,ea,eb,bd,el,dE a ea,h.bH,h.wG,rfl,h0,h8,tA h ea,by rw[OP h0 h8]⟩
theorem aeK(h:di a n c fs b)(b6:b.length<=6)(h0:0<=to)(h8:to<8):dJ zA (dh a n c fs b) [.agg<|aP<|.mk kind to ea eb bd el]=some (.tuple [],dh (MN.ib a to (ky b<|iG (dE a ea) a.vars).1) n c fs b):=JR zA.bW ⟨a,kind,to,ea,eb,bd,el,iG (dE a ea) a.vars,(ky b<|iG (dE a ea) a.vars).1,(ky b<|iG (dE a ea) a.vars).2,h.bH,h.wG,rfl,h0,h8,OO h ea,U9 b6 _,by rw[OP h0 h8]⟩
theorem ac2(h:di a n c fs b)(b6:b.length<=6):dJ ze (dh a n c fs b) [.agg<|aP<|.mk kind to ea eb bd el]=some (.tuple [],dh a n c fs<|ml b (iG (dE a ea) a.vars)<|dE a eb):=JR ze.bW ⟨a,kind,to,ea,eb,bd,el,iG (dE a ea) a.vars,dE a eb,bZ<|ml b (iG (dE a ea) a.vars)<|dE a eb,h.bH,h.wG,rfl,OO h ea,tA h eb,aeJ b6 _ _,rfl⟩
def nS(a:MN)(w:Int)(b:bO):Option St->Int×Int×Int
 |none=>(3,0,0)
 |some (.mk kind _ ea _ _ _)=>if kind=8 then(3,0,dE a ea) else if kind=6/\w<0 then(4,0,0) else if kind=2/\(ky b<|iG (dE a ea) a.vars).2=false then(2,iG (dE a ea) a.vars,0) else(1,0,0)
def BX(q:Int×Int×Int):AV:=.agg [.int .u8 q.1,.int .i64 q.2.1,.int .i64 q.2.2]
theorem Ft{w:Int}:nS a w b (some<|.mk kind to ea eb bd el)=if kind=8 then(3,0,dE a ea) else if kind=6/\w<0 then(4,0,0) else if kind=2/\(ky b<|iG (dE a ea) a.vars).2=false then(2,iG (dE a ea) a.vars,0) else(1,0,0):=rfl
theorem Vb{B:aL}(mc:Mt [mm,iE,jF,kP,me] B)(h:di a n c fs b)(h6:n<=6)(b6:b.length<=6)(hs:mK fs n o):
 au pg B 273 (gW 270 3 pg (az Tryz.f35) (BX<|nS a (iC fs n) b o)<|dh a n c fs b) (sF 35 Tryz.f35 [.ptr<|some (270,0)]) (ak (ar++bx (dD 270 3<|dh a n c fs b)) 273):=by
 have hn:=xd h hs;cases o with
 |none=>exact ah7 (N:=0) (L:=0) (N2:=0) (L2:=0) (N3:=0) (L3:=0) (N4:=0) (L4:=0) (kind:=0) (to:=0) (op:=0) (nn:=0) (aG:=0) (n2:=0) (z:=0) (v:=0) (wi:=0) (gx:=0) mc h.bH hn rfl
 |some s=>
  obtain⟨kind,to,ea,eb,bd,el⟩:=s;have hz:=tA h ea;have hv:=OO h ea;have hw:=Tp h h6;have hg:=U9 b6<|iG (dE a ea) a.vars;have hA:=qm ea;have hY:(qz (some<|.mk kind to ea eb bd el):AV).hi=true:=by show([AV.agg<|aP<|.mk kind to ea eb bd el,.bool true].all AV.kj)=true;have e:(AV.agg<|aP<|.mk kind to ea eb bd el).kj=true:=xI _;rw[List.all_cons,e];rfl
  have k8:kind=8->nS a (iC fs n) b (some<|.mk kind to ea eb bd el)=(3,0,dE a ea):=fun q=>if_pos q;have k6:kind=6->iC fs n<0->nS a (iC fs n) b (some<|.mk kind to ea eb bd el)=(4,0,0):=fun q r=>by rw[Ft,if_neg ae,if_pos ⟨q,r⟩]
  obtain⟨op,nn,la⟩:=ea;obtain⟨aG,n2,lb⟩:=eb;unfold qz at hn hY;rw[aD] at hz hv hA;simp only[aP,aD] at hn hY;cases hb:(ky b<|iG (dE a<|.mk op nn la) a.vars).2 with
  |true=>
   rw[hb] at hg;refine ah8 mc h.bH hn hY hA hz hv hw hg (fun q=>?_) (fun q r=>?_) fun q r _=>?_
   ·rw[k8 q];rfl
   ·rw[k6 q r];rfl
   ·rw[Ft,if_neg q,if_neg (fun z=>by have:=r z.1;omega),if_neg (fun z=>by rw[hb] at z;cases z.2)];rfl
  |false=>
   rw[hb] at hg;refine ah9 mc h.bH hn hY hA hz hv hw hg (fun q=>?_) (fun q r=>?_) (fun q=>?_) fun q r z=>?_
   ·rw[k8 q];rfl
   ·rw[k6 q r];rfl
   ·rw[Ft,if_neg ae,if_neg (fun z=>by omega),if_pos ⟨q,hb⟩];rfl
   ·rw[Ft,if_neg q,if_neg (fun z=>by have:=r z.1;omega),if_neg fun y=>z y.1];rfl
def kY(st:VS)(rest:List AV)(v:AV):Prop:=∃(a:MN) (n c:Nat) (fs:List Fr) (b:bO) (o:Option St),st=dh a n c fs b/\di a n c fs b/\rest=[]/\n<=6/\b.length<=6/\mK fs n o/\v=BX (nS a (iC fs n) b o)
theorem kY.bW(st:VS)(rest:List AV)(v v':AV)(h:kY st rest v)(h':kY st rest v'):v=v':=by obtain⟨a,n,c,fs,b,o,rfl,m1,_,_,_,s1,rfl⟩:=h;obtain⟨a',n',c',de,b',o',e,m2,_,_,_,s2,rfl⟩:=h';obtain⟨rfl,rfl,rfl,rfl,rfl⟩:=aeH m1 m2 e;rw[s1.bW s2]
def Qa:FuncId×KE:=(35,.raw<|nd 10 3<|vR kY)
theorem aeL(hP:bE pg){L:bV}(h:aU L):aU<|Qa::L:=by refine Fs hP hZ ya iS ig lV lC h (NC hP<|Df hP<|FV hP<|IQ hP<|Mo hP cJ) Tryz.func35 (body:=a9 pg 35 []) aX aX fun st rest y e _=>?_;obtain⟨a,n,c,fs,b,o,rfl,m1,rfl,h6,b6,s1,rfl⟩:=Ga e;exact⟨aM.1 aX,fun B mc=>Vb mc m1 h6 b6 s1⟩
theorem zf(h:di a n c fs b)(h6:n<=6)(b6:b.length<=6)(hs:mK fs n o):vR kY (dh a n c fs b) []=some (BX<|nS a (iC fs n) b o):=DY kY.bW ⟨a,n,c,fs,b,o,rfl,h,rfl,h6,b6,hs,rfl⟩
end
end
end jI
end
section
open Go Go.Rn Go.RowKit Go.Proofs
namespace kZ
open cv fc cG dt cR cW fw eV fL fN fS fT gh gP gQ g9 ia gg
theorem aoE{fs:List Fr}{n:Nat}{f:Fr}{cs:List AV}{X:Prop}(hc:aJ f=cs)(hn:n<=fs.length)(hl:fs.length<=1000000)(x:X):
 ((.known n:cC)= .known n/\1<=1/\some (aN aJ fs)=some (.cells (fs.map aJ).flatten.length (Tr.fill (fs.map aJ).flatten 0 .nil) [])/\some (ab.cells cs.length (Tr.fill cs 0 .nil) [])=some (.cells cs.length (Tr.fill cs 0 .nil) [])/\(fs.map aJ).flatten.length<=top/\cs.length<=top/\n*13<=(fs.map aJ).flatten.length/\1*13<=cs.length/\(fs.map aJ).flatten.take (n*13)++cs.take (1*13)=((fs.take n++[f]).map aJ).flatten/\((fs.take n++[f]).map aJ).flatten.all AV.cf=true/\2*(n+1)*136+4096*136<=room/\((fs.take n++[f]).map aJ).flatten.length<=top/\X):=by
 have ht:top=549755813888:=rfl;have e1:∀l:List Fr,(l.map aJ).flatten.length=l.length*13:=fun l=>by
  have:=sL (K:=13) (l:=l.map aJ) fun c hc=>by obtain⟨a,_,rfl⟩:=List.mem_map.1 hc;exact fA a
  rw[this,List.length_map]
 have e2:cs.length=13:=by rw[←hc];exact fA f
 have e3:∀(l:List Fr) (k:Nat),(l.map aJ).flatten.take (k*13)=((l.take k).map aJ).flatten:=by
  intro l;induction l with
  |nil=>intro k;simp
  |cons x l ih=>
   intro k;cases k with
   |zero=>simp
   |succ k=>rw[List.map_cons,List.flatten_cons,List.take_succ_cons,List.map_cons,List.flatten_cons, ←ih k,List.take_append,fA,List.take_of_length_le (by rw[fA];omega),show(k+1)*13 - 13=k*13 by omega]
 refine⟨rfl,Nat.le_refl 1,rfl,rfl,by rw[e1];omega,by omega,by rw[e1];omega,by omega,?_,?_,?_,?_,x⟩
 ·rw[e3,List.map_append,List.flatten_append];congr 1;rw[List.take_of_length_le (l:=cs) ae, ←hc];simp
 ·rw[List.all_eq_true];intro c hc;obtain⟨y,hy,hc⟩:=List.mem_flatten.1 hc;obtain⟨g,_,rfl⟩:=List.mem_map.1 hy;exact List.all_eq_true.1 (MU g) c hc
 ·unfold room;omega
 ·rw[e1,List.length_append,List.length_take];show(min n fs.length+1)*13<=top;omega
end kZ
end
section
open Go Go.Rn Go.RowKit Go.Proofs
namespace lE
open cv fc cG dt cR cW fw eV fL fN fS fT gh gP gQ g9 ia kZ gg
theorem Ak{fs:List Fr}{n:Nat}{X:Prop}(h1:1<=n)(hn:n<=fs.length)(hl:fs.length<=1000000)(x:X):
 ((.known 0:cC)= .known 0/\1<=n/\some (ab.cells 0 (Tr.fill [] 0 .nil) [])=some (.cells ([]:List AV).length (Tr.fill [] 0 .nil) [])/\some (aN aJ fs)=some (.cells (fs.map aJ).flatten.length (Tr.fill (fs.map aJ).flatten 0 .nil) [])/\([]:List AV).length<=top/\(fs.map aJ).flatten.length<=top/\0*13<=([]:List AV).length/\n*13<=(fs.map aJ).flatten.length/\([]:List AV).take (0*13)++(fs.map aJ).flatten.take (n*13)=((fs.take n).map aJ).flatten/\((fs.take n).map aJ).flatten.all AV.cf=true/\2*(0+n)*136+4096*136<=room/\((fs.take n).map aJ).flatten.length<=top/\X):=by
 have ht:top=549755813888:=rfl;have e1:∀l:List Fr,(l.map aJ).flatten.length=l.length*13:=fun l=>by
  have:=sL (K:=13) (l:=l.map aJ) fun c hc=>by obtain⟨a,_,rfl⟩:=List.mem_map.1 hc;exact fA a
  rw[this,List.length_map]
 have e3:∀(l:List Fr) (k:Nat),(l.map aJ).flatten.take (k*13)=((l.take k).map aJ).flatten:=by
  intro l;induction l with
  |nil=>intro k;simp
  |cons x l ih=>
   intro k;cases k with
   |zero=>simp
   |succ k=>rw[List.map_cons,List.flatten_cons,List.take_succ_cons,List.map_cons,List.flatten_cons, ←ih k,List.take_append,fA,List.take_of_length_le (by rw[fA];omega),show(k+1)*13 - 13=k*13 by omega]
 refine⟨rfl,h1,rfl,rfl,Nat.zero_le _,by rw[e1];omega,by show 0*13<=0;omega,by rw[e1];omega,?_,?_,?_,?_,x⟩
 ·rw[e3];rfl
 ·rw[List.all_eq_true];intro c hc;obtain⟨y,hy,hc⟩:=List.mem_flatten.1 hc;obtain⟨g,_,rfl⟩:=List.mem_map.1 hy;exact List.all_eq_true.1 (MU g) c hc
 ·unfold room;omega
 ·rw[e1,List.length_take];omega
end lE
end
section
open Go Go.Rn Go.RowKit Go.Proofs
namespace lW
open cv fW eH gO fy gZ fc cG dt cR cW fw eV fL fN fS gg fT gh gP gQ g9 ia iF iW jH jI kZ lE jT
variable {fs:List Fr} {B:aL} {u:AV} {r:Nat->Nat} {c:Nat} {a:MN}
noncomputable section
theorem HL{n:Nat}{f:Fr}{cs:List AV}{X:Prop}(hc:aJ f=cs)(h1:1<=n)(hn:n<=fs.length)(hl:fs.length<=1000000)(x:X):
 ((.known n:cC)= .known n/\1<=n/\1<=1/\some (aN aJ fs)=some (.cells (fs.map aJ).flatten.length (Tr.fill (fs.map aJ).flatten 0 .nil) [])/\some (ab.cells cs.length (Tr.fill cs 0 .nil) [])=some (.cells cs.length (Tr.fill cs 0 .nil) [])/\(fs.map aJ).flatten.length<=top/\cs.length<=top/\n*13<=(fs.map aJ).flatten.length/\1*13<=cs.length/\(fs.map aJ).flatten.take (n*13)++cs.take (1*13)=((fs.take n++[f]).map aJ).flatten/\((fs.take n++[f]).map aJ).flatten.all AV.cf=true/\2*(n+1)*136+4096*136<=room/\((fs.take n++[f]).map aJ).flatten.length<=top/\X):=
 have h:=aoE hc hn hl x
 ⟨h.1,h1,h.2⟩
theorem yV{k:Nat}{v:AV}:iu [] r (.tok k v)<|.tok k v:=fun _ _ _ _ _ _=>trivial
theorem I9(hr:∀k,top<=k->r k=k)(hl:fs.length<=1000000):iu [] r (aN aJ fs)<|aN aJ fs:=fun ρ eY N o m h=>by have ht:top=549755813888:=rfl;refine DW (ρ:=ρ) (fun k x hk e=>?_) (by rw[VU];omega) (U8 fs) h;show eY (r k)=some x;rw[hr k hk];exact m.1 _ _ e
abbrev LM:bV:=[Qa,mm,iE,jF,kP,me,yU,P8,Pt,OM,OI,OJ]
abbrev aT(p:List AV)(n:Nat)(cap:cC)(st:Int)(u:AV)(fs:List Fr):VS:=⟨⟨p,n,cap,[.int .i64 st]⟩,u,(fs.map aJ).flatten⟩
abbrev l7(B:aL)(rs:List ResultVar)(st:VS)(fr:AF)(s:AS):Prop:=au pg B 271 (gW 270 3 pg rs (.int .i64 0) st) fr s
abbrev sH(f j nt:Nat)(K:List Item):AF:=⟨f,aQ [(j,.int .i64 0)],nt,K,[],none⟩
def oE(A:MN)(n:Nat)(cap:cC)(u:AV)(fs:List Fr)(r:Nat):List<|Nat×Option ab:=[(270,some<|.cells 13 (Tr.fill (A.row (.ptr<|some (271,0)) (.slice (some (r,0)) n cap)<|.int .i64 A.steps) 0 .nil) []),(271,some<|.tok 3 u),(r,some<|aN aJ fs)]
abbrev p7(A:MN)(n:Nat)(cap:cC)(u:AV)(fs:List Fr):AS:=ak (ar++oE A n cap u fs 272) 273
abbrev Al(j:Nat)(A:MN)(n:Nat)(cap:cC)(u:AV)(fs:List Fr)(r bz:Nat):Pl:=.rn [(j,.int .i64 0)] (ar++oE A n cap u fs r) [(j,.int .i64 0)] (ar++oE A n cap u fs 272) bz 273 .no
theorem EL(f j nt:Nat)(K:List Item)(A:MN)(n:Nat)(cap:cC)(u:AV)(fs:List Fr)(r bz:Nat)(hlen:fs.length<=1000000)(nN:(AV.U A.G A.q A.lg).bG=true)(hb:sw [(271,271),(272,r)] 271 bz 273 [270,271,272]=true:=by as_aux_lemma=>kernel_rfl)(hi:G3 [(271,271),(272,r)]=true:=by as_aux_lemma=>kernel_rfl)(hj:j<1000:=by omega):
 ([(j,AV.int .i64 0)].map (fun q=>some q.2)=[(j,AV.int .i64 0)].map (fun q=>some q.2))/\((ar++oE A n cap u fs r).map (fun q=>q.2)=(ar++oE A n cap u fs r).map (fun q=>q.2))/\iV FU 271 bz [(j,.int .i64 0)] (ar++oE A n cap u fs r) [(j,.int .i64 0)] (ar++oE A n cap u fs 272) 273/\(sH f j nt K=sH f j nt K/\p7 A n cap u fs=p7 A n cap u fs):=by
 have ht:top=549755813888:=rfl;refine⟨rfl,rfl,BC (ps:=[(271,271),(272,r)]) (lo:=271) (bz:=bz) ae hb hi (fun q hr ht=>⟨⟨by show j<top;omega,.int .i64 0,List.mem_cons_self,(bw.int _ _).z⟩,trivial⟩) fun q hr ht=>?_,rfl,rfl⟩;have e0:q 270=270:=by rw[hr];rfl
 have e1:q 271=271:=by rw[hr];rfl
 have e2:q 272=r:=by rw[hr];rfl
 refine⟨fun y hy=>?_,fun y hy=>?_,fun y hy=>?_,trivial⟩
 ·cases hy;refine⟨rfl,.cells 13 (Tr.fill (A.row (.ptr<|some (271,0)) (.slice (some (r,0)) n cap)<|.int .i64 A.steps) 0 .nil) [],?_,rp,?_⟩
  ·show(q 270,_)∈_;rw[e0];exact List.mem_cons_self
  ·exact Iu (l:=[.int .i64 A.vars,.U A.G A.q A.lg,.int .i64 A.x0,.int .i64 A.x1,.int .i64 A.x2,.int .i64 A.x3,.int .i64 A.x4,.int .i64 A.x5,.int .i64 A.x6,.int .i64 A.x7,.ptr<|some (271,0),.slice (some (r,0)) n cap,.int .i64 A.steps]) (m:=[.int .i64 A.vars,.U A.G A.q A.lg,.int .i64 A.x0,.int .i64 A.x1,.int .i64 A.x2,.int .i64 A.x3,.int .i64 A.x4,.int .i64 A.x5,.int .i64 A.x6,.int .i64 A.x7,.ptr<|some (271,0),.slice (some (272,0)) n cap,.int .i64 A.steps]) (rest:=[]) (by show 13<=top;omega) ⟨(bw.int _ _).z,(Bp ht (show(AV.U A.G A.q A.lg).hi=true from nN)).z,(bw.int _ _).z,(bw.int _ _).z,(bw.int _ _).z,(bw.int _ _).z,(bw.int _ _).z,(bw.int _ _).z,(bw.int _ _).z,(bw.int _ _).z,(bw.ptr e1).z,(bw.slice e2).z,(bw.int _ _).z,trivial⟩ rfl
 ·cases hy;refine⟨rfl,.tok 3 u,?_,gJ.refl _,yV⟩;show(q 271,_)∈_;rw[e1];exact List.mem_cons_of_mem _ List.mem_cons_self
 ·cases hy;refine⟨rfl,aN aJ fs,?_,gJ.refl _,I9 ht hlen⟩;show(q 272,_)∈_;rw[e2];exact List.mem_cons_of_mem _<|List.mem_cons_of_mem _ List.mem_cons_self
theorem Am(mc:Mt LM B){f nt:Nat}{t:Tr AV}{K:List Item}{s:AS}{rs:List ResultVar}{st:VS}{FR:AF}{S1:AS}(H:l7 B rs st FR S1)(p:Pl){T:Prop}(x:T)(h:T=wp (yw LM) 900 6 (.fr f nt K t s) p rs (fun v s _=>v= .int .i64 0/\∀m o,(m,o)∈dD 270 3 st->s.h.get m=some o) (fun fr s1 _=>fr=FR/\s1=S1):=by as_aux_lemma=>kernel_rfl)(h0:Nat.ble 271 s.nx=true:=by as_aux_lemma=>kernel_rfl):l7 B rs st ⟨f,t,nt,K,[],none⟩ s:=Ls mc (C:=fun fr s1 _=>fr=FR/\s1=S1) (fun fr s1 p hC=>by obtain⟨rfl,rfl⟩:=hC;exact H) p x h h0
theorem BF{n:Nat}(mc:Mt LM B):l7 B (az Tryz.f45) (aT a.pre n (.aq c 13) a.steps u fs) (sH 45 2 38<|dv 45 [1,1,1,1,1,1,1,1,1])<|p7 a n (.aq c 13) u fs:=by exact mD mc (.rt 1 .no)<|nL (st:=(aT a.pre n (.aq c 13) a.steps u fs)) (s:=p7 a n (.aq c 13) u fs) (show(i0:AV)= .int .i64 0 from rfl) cH cH cH
theorem aia{n:Nat}(mc:Mt LM B):l7 B (az Tryz.f51) (aT a.pre n (.aq c 13) a.steps u fs) (sH 51 4 38<|dv 51 [1,1,1,1,1,1,1,1])<|p7 a n (.aq c 13) u fs:=by exact mD mc (.rt 1 .no)<|nL (st:=(aT a.pre n (.aq c 13) a.steps u fs)) (s:=p7 a n (.aq c 13) u fs) (show(i0:AV)= .int .i64 0 from rfl) cH cH cH
end
end lW
end
section
open Go Go.Rn Go.RowKit Go.Proofs
namespace Xn
open cv fW eH gO fy gZ fc cG dt cR cW fw eV fL fN fS gg fT gh gP gQ g9 ia iF iW jH jI kZ lE jT lW
noncomputable abbrev Bs(ka to op nn:Int)(N L:Nat)(aG n2:Int)(N2 L2:Nat)(bd el:List St):AV:=.agg [(.int .u8 ka),(i6 to),(u8<|op),(i6 nn),(.U N 0 L),(u8<|aG),(i6 n2),(.U N2 0 L2),(.U (nm (bd.map aP).flatten) 0 bd.length),(.U (nm (el.map aP).flatten) 0 el.length)]
noncomputable abbrev OQ(fs:List Fr)(n:Nat):Fr:=({(av (fs.take n)<|(((0+n):Nat):Int) - 1) with ah:=((av (fs.take n)<|(((0+n):Nat):Int) - 1).ah+1),turns:=(av (fs.take n)<|(((0+n):Nat):Int) - 1).turns}:Fr)
noncomputable abbrev JU(a:MN)(n:Nat)(u:AV)(fs:List Fr):VS:=aT a.pre (0+n) (.aq (0+n) 13) (a.steps+1) u<|(fs.take n).set ((((0+n):Nat):Int) - 1).toNat<|OQ fs n
theorem step1{ka:Int}{kb:VS->List AV->AV×VS->Prop}{kc:Nat}(hk:(ka=1/\kb=zR/\kc=67)\/(ka=2/\kb=zA/\kc=68)\/(ka=3/\kb=ze/\kc=69)){B:aL}{a:MN}{n c:Nat}{u:AV}{fs:List Fr}{A1:MN}{m1 c1:Nat}{u1:AV}{br:List Fr}{A2:MN}{m2 c2:Nat}{u2:AV}{bp:List Fr}{N L N2 L2:Nat}{to op nn aG n2 z wi t:Int}{bd el ol fb:List St}{fa ft y0 y1 y2 y3 y4 y5 y6 y7:Int}{fo:Bool}{ub:AV}(mc:Mt LM B)(h1:1<=n)(hn:n<=fs.length)(hc:n<=c)(hf:fs.length<=1000000)(hR:fs.length*13<=top)(aB:0<=(av (fs.take n)<|((0+n:Nat):Int) - 1).ah/\(av (fs.take n)<|((0+n:Nat):Int) - 1).ah<=1000000)(cm:0<=a.steps/\a.steps<=1000000000000)(hlen:bp.length<=1000000)(nN:(AV.U A2.G A2.q A2.lg).bG=true)(k0:bH 10 (aT a.pre n (.aq c 13) a.steps u fs)=true)(k1:vR kY (aT a.pre n (.aq c 13) a.steps u fs) []=some (.agg [(u8<|.ofNat 1),i0,i0]))(k2:((.tuple [(Bs ka to op nn N L aG n2 N2 L2 bd el),(.bool true)]):AV).hi=true)(k3:vR iT (aT a.pre n (.aq c 13) a.steps u fs) []=some (.tuple [(Bs ka to op nn N L aG n2 N2 L2 bd el),(.bool true)]))(k4:([(Bs ka to op nn N L aG n2 N2 L2 bd el)]:List AV).all AV.hi=true)(k5:bH 10 (JU a n u fs)=true)(k6:dJ kb (JU a n u fs) [(Bs ka to op nn N L aG n2 N2 L2 bd el)]=some (.tuple [],(aT A1.pre m1 (.aq c1 13) A1.steps u1 br)))(k7:bH 10 (aT A1.pre m1 (.aq c1 13) A1.steps u1 br)=true)(k8:dJ eJ (aT A1.pre m1 (.aq c1 13) A1.steps u1 br) []=some (.tuple [],(aT A2.pre m2 (.aq c2 13) A2.steps u2 bp)))(k9:bH 10 (aT A2.pre m2 (.aq c2 13) A2.steps u2 bp)=true)(H:l7 B (az Tryz.f45) (aT A2.pre m2 (.aq c2 13) A2.steps u2 bp) (sH 45 2 38<|dv 45 [1,1,1,1,1,1,1,1,1])<|p7 A2 m2 (.aq c2 13) u2 bp):l7 B (az Tryz.f45) (aT A2.pre m2 (.aq c2 13) A2.steps u2 bp) (sF 45 Tryz.f45 [(.ptr<|some (270,0))])<|ak (ar++bx (dD 270 3<|aT a.pre n (.aq c 13) a.steps u fs)) 273:=by
 have ht:top=549755813888:=rfl;have ux:sp LM kc=some (m9 10 3 (dJ kb) 270 eK dX):=by rcases hk with⟨_,rfl,rfl⟩|⟨_,rfl,rfl⟩|⟨_,rfl,rfl⟩<;>kernel_rfl
 have TT:=(yC LM 35 272 (vR kY) [] (aT a.pre n (.aq c 13) a.steps u fs) (.agg [(u8<|.ofNat 1),i0,i0]) k0 k1<|jK LM 53 272 (vR iT) [] (aT a.pre n (.aq c 13) a.steps u fs) (.tuple [(Bs ka to op nn N L aG n2 N2 L2 bd el),(.bool true)]) k0 k3 cH k2<|ai (wI<|a.steps+1)<|Ak (fs:=fs) (n:=n) ae EM EM<|ai (wI<|(((0+n):Nat):Int) - 1)<|dc ((((0+n):Nat):Int) - 1) (((0+n):Nat):Int)<|ai (jO fA EM (jh (l:=(fs.take n)) (z:=((((0+n):Nat):Int) - 1)) ae EM) 1 1 rfl)<|ai (wI<|(av (fs.take n)<|(((0+n):Nat):Int) - 1).ah+1)<|dc ((((0+n):Nat):Int) - 1) (((0+n):Nat):Int)<|ai (oA fA EM (jh (l:=(fs.take n)) (z:=((((0+n):Nat):Int) - 1)) ae EM) (c':=(OQ fs n)) (r:=[(i6<|((av (fs.take n)<|(((0+n):Nat):Int) - 1).ah+1))]) 1 rfl rfl rfl)<|Yt (h1:=ux) LM kc 276 (dJ kb) [(Bs ka to op nn N L aG n2 N2 L2 bd el)] (JU a n u fs) (aT A1.pre m1 (.aq c1 13) A1.steps u1 br) k5 k6 k7 k4<|wm LM 65 276 (dJ eJ) [] (aT A1.pre m1 (.aq c1 13) A1.steps u1 br) (aT A2.pre m2 (.aq c2 13) A2.steps u2 bp) k7 k8 k9<|EL 45 2 38 (dv 45 [1,1,1,1,1,1,1,1,1]) A2 m2 (.aq c2 13) u2 bp 276 277 hlen nN);let P:Pl:=(.st 8<|.rg<|.go 1<|.cg (.agg [(u8<|.ofNat 1),i0,i0]) (vG 272) (vQ 272<|aT a.pre n (.aq c 13) a.steps u fs)<|.go 3<|.en<|.st 6<|.rg<|.go 1<|.cg (.tuple [(Bs ka to op nn N L aG n2 N2 L2 bd el),(.bool true)]) (vG 272) (vQ 272<|aT a.pre n (.aq c 13) a.steps u fs)<|.go 6<|.en<|.st 1<|.rg<|.go 4<|.vl (i6<|a.steps+1)<|.go 3<|.en<|.st 1<|.rg<|.go 1<|.il<|.st 1<|.rg<|.go 4<|.il<|.st 8<|.rg<|.go 2<|.ao [] (((fs).map aJ).flatten) ((((fs.take n)).map aJ).flatten)<|.go 1<|.en<|.rt 1<|.go 1<|.en<|.st 1<|.rg<|.go 3<|.vl (i6<|(((0+n):Nat):Int) - 1)<|.ix<|.go 1<|.ld [(i6<|(av (fs.take n)<|(((0+n):Nat):Int) - 1).ah)]<|.vl (i6<|(av (fs.take n)<|(((0+n):Nat):Int) - 1).ah+1)<|.ix<|.go 1<|.lh (aN aJ<|(fs.take n).set ((((0+n):Nat):Int) - 1).toNat<|OQ fs n)<|.en<|.rt 2<|.en<|.st 1<|.rg<|.go 6<|.cg (.tuple []) (vF 276<|aT A1.pre m1 (.aq c1 13) A1.steps u1 br) (vQ 276<|JU a n u fs)<|.en<|.st 1<|.rg<|.go 1<|.cg (.tuple []) (vF 276<|aT A2.pre m2 (.aq c2 13) A2.steps u2 bp) (vQ 276<|aT A1.pre m1 (.aq c1 13) A1.steps u1 br)<|.en<|.st 2<|(Al 2 A2 m2 (.aq c2 13) u2 bp 276 277));rcases hk with⟨rfl,rfl,rfl⟩|⟨rfl,rfl,rfl⟩|⟨rfl,rfl,rfl⟩
 all_goals exact Am mc H P TT aX
end Xn
end
section
open Go Go.Rn Go.RowKit Go.Proofs
namespace WD
open cv fW eH gO fy gZ fc cG dt cR cW fw eV fL fN fS gg fT gh gP gQ g9 ia iF iW jH jI kZ lE jT lW
noncomputable abbrev A0(fs:List Fr)(n:Nat):Fr:=({(av (fs.take n)<|(((0+n):Nat):Int) - 1) with ah:=((av (fs.take n)<|(((0+n):Nat):Int) - 1).ah+1),turns:=(av (fs.take n)<|(((0+n):Nat):Int) - 1).turns}:Fr)
noncomputable abbrev Jd(a:MN)(n:Nat)(u:AV)(fs:List Fr)(bd:List St):VS:=aT a.pre ((((0+n):Nat):Int).toNat+1) (.aq ((((0+n):Nat):Int).toNat+1) 13) (a.steps+1) u<|((fs.take n).set ((((0+n):Nat):Int) - 1).toNat<|A0 fs n).take (((0+n):Nat):Int).toNat++[(⟨bd,0,0,false,[0,0,0,0,0,0,0,0],none⟩:Fr)]
noncomputable abbrev Je(to op nn:Int)(N L:Nat)(aG n2:Int)(N2 L2:Nat)(bd el:List St):AV:=.tuple [(.agg [(u8<|.ofNat 4),(i6 to),(u8<|op),(i6 nn),(.U N 0 L),(u8<|aG),(i6 n2),(.U N2 0 L2),(.U (nm (bd.map aP).flatten) 0 bd.length),(.U (nm (el.map aP).flatten) 0 el.length)]),(.bool true)]
noncomputable abbrev Jf(a:MN)(n:Nat)(u:AV)(fs:List Fr):VS:=aT a.pre (0+n) (.aq (0+n) 13) (a.steps+1) u<|(fs.take n).set ((((0+n):Nat):Int) - 1).toNat<|A0 fs n
noncomputable abbrev Oi(bd:List St):List AV:=[(.U (nm (bd.map aP).flatten) 0 bd.length),i0,i0,(.bool false),i0,i0,i0,i0,i0,i0,i0,i0,(.slice none 0<|.known 0)]
theorem agn{B:aL}{a:MN}{n c:Nat}{u:AV}{fs:List Fr}{A1:MN}{m1 c1:Nat}{u1:AV}{br:List Fr}{A2:MN}{m2 c2:Nat}{u2:AV}{bp:List Fr}{N L N2 L2:Nat}{to op nn aG n2 z wi t:Int}{bd el ol fb:List St}{fa ft y0 y1 y2 y3 y4 y5 y6 y7:Int}{fo:Bool}{ub:AV}(mc:Mt LM B)(h1:1<=n)(hn:n<=fs.length)(hc:n<=c)(hf:fs.length<=1000000)(hR:fs.length*13<=top)(aB:0<=(av (fs.take n)<|((0+n:Nat):Int) - 1).ah/\(av (fs.take n)<|((0+n:Nat):Int) - 1).ah<=1000000)(cm:0<=a.steps/\a.steps<=1000000000000)(hlen:bp.length<=1000000)(nN:(AV.U A2.G A2.q A2.lg).bG=true)(hz:z≠0)(k0:bH 10 (aT a.pre n (.aq c 13) a.steps u fs)=true)(k1:vR kY (aT a.pre n (.aq c 13) a.steps u fs) []=some (.agg [(u8<|.ofNat 1),i0,i0]))(k2:((Je to op nn N L aG n2 N2 L2 bd el):AV).hi=true)(k3:vR iT (aT a.pre n (.aq c 13) a.steps u fs) []=some (Je to op nn N L aG n2 N2 L2 bd el))(k4:([.agg [.int .u8 op,.int .i64 nn,.U N 0 L]]:List AV).all AV.hi=true)(k5:bH 10 (Jf a n u fs)=true)(k6:vR jo (Jf a n u fs) [(.agg [(u8<|op),(i6 nn),(.U N 0 L)])]=some (i6 z))(k7:bH 10 (Jd a n u fs bd)=true)(k8:dJ eJ (Jd a n u fs bd) []=some (.tuple [],(aT A1.pre m1 (.aq c1 13) A1.steps u1 br)))(k9:bH 10 (aT A1.pre m1 (.aq c1 13) A1.steps u1 br)=true)(sg:dJ eJ (aT A1.pre m1 (.aq c1 13) A1.steps u1 br) []=some (.tuple [],(aT A2.pre m2 (.aq c2 13) A2.steps u2 bp)))(ym:bH 10 (aT A2.pre m2 (.aq c2 13) A2.steps u2 bp)=true)(H:l7 B (az Tryz.f45) (aT A2.pre m2 (.aq c2 13) A2.steps u2 bp) (sH 45 2 38<|dv 45 [1,1,1,1,1,1,1,1,1])<|p7 A2 m2 (.aq c2 13) u2 bp):l7 B (az Tryz.f45) (aT A2.pre m2 (.aq c2 13) A2.steps u2 bp) (sF 45 Tryz.f45 [(.ptr<|some (270,0))])<|ak (ar++bx (dD 270 3<|aT a.pre n (.aq c 13) a.steps u fs)) 273:=by have ht:top=549755813888:=rfl;exact Am mc H (.st 8<|.rg<|.go 1<|.cg (.agg [(u8<|.ofNat 1),i0,i0]) (vG 272) (vQ 272<|aT a.pre n (.aq c 13) a.steps u fs)<|.go 3<|.en<|.st 6<|.rg<|.go 1<|.cg (Je to op nn N L aG n2 N2 L2 bd el) (vG 272) (vQ 272<|aT a.pre n (.aq c 13) a.steps u fs)<|.go 6<|.en<|.st 1<|.rg<|.go 4<|.vl (i6<|a.steps+1)<|.go 3<|.en<|.st 1<|.rg<|.go 1<|.il<|.st 1<|.rg<|.go 4<|.il<|.st 8<|.rg<|.go 2<|.ao [] (((fs).map aJ).flatten) ((((fs.take n)).map aJ).flatten)<|.go 1<|.en<|.rt 1<|.go 1<|.en<|.st 1<|.rg<|.go 3<|.vl (i6<|(((0+n):Nat):Int) - 1)<|.ix<|.go 1<|.ld [(i6<|(av (fs.take n)<|(((0+n):Nat):Int) - 1).ah)]<|.vl (i6<|(av (fs.take n)<|(((0+n):Nat):Int) - 1).ah+1)<|.ix<|.go 1<|.lh (aN aJ<|(fs.take n).set ((((0+n):Nat):Int) - 1).toNat<|A0 fs n)<|.en<|.rt 2<|.en<|.st 1<|.rg<|.go 6<|.il<|.st 4<|.rg<|.go 3<|.cg (i6 z) (vG 276) (vQ 276<|Jf a n u fs)<|.fk (.en<|.st 2<|.rg<|.go 4<|.il<|.st 3<|.rg<|.go 15<|.s3<|.go 2<|.an (((((fs.take n).set ((((0+n):Nat):Int) - 1).toNat<|A0 fs n)).map aJ).flatten) (Oi bd) ((((((fs.take n).set ((((0+n):Nat):Int) - 1).toNat<|A0 fs n).take (((0+n):Nat):Int).toNat++[(⟨bd,0,0,false,[0,0,0,0,0,0,0,0],none⟩:Fr)])).map aJ).flatten)<|.go 3<|.en<|.rg<|.go 1<|.cg (.tuple []) (vF 280<|aT A1.pre m1 (.aq c1 13) A1.steps u1 br) (vQ 280<|Jd a n u fs bd)<|.en<|.rt 1<|.en<|.rt 1<|.en<|.st 1<|.rg<|.go 1<|.cg (.tuple []) (vF 280<|aT A2.pre m2 (.aq c2 13) A2.steps u2 bp) (vQ 280<|aT A1.pre m1 (.aq c1 13) A1.steps u1 br)<|.en<|.st 2<|(Al 2 A2 m2 (.aq c2 13) u2 bp 280 281))<|.no)<|yC LM 35 272 (vR kY) [] (aT a.pre n (.aq c 13) a.steps u fs) (.agg [(u8<|.ofNat 1),i0,i0]) k0 k1<|jK LM 53 272 (vR iT) [] (aT a.pre n (.aq c 13) a.steps u fs) (Je to op nn N L aG n2 N2 L2 bd el) k0 k3 cw k2<|ai BO<|Ak (fs:=fs) (n:=n) ae dR dR<|ai BN<|dc ((((0+n):Nat):Int) - 1) (((0+n):Nat):Int)<|ai (jO fA dR (jh (l:=(fs.take n)) (z:=((((0+n):Nat):Int) - 1)) ae dR) 1 1 rfl)<|ai BM<|dc ((((0+n):Nat):Int) - 1) (((0+n):Nat):Int)<|ai (oA fA dR (jh (l:=(fs.take n)) (z:=((((0+n):Nat):Int) - 1)) ae dR) (c':=(A0 fs n)) (r:=[(i6<|((av (fs.take n)<|(((0+n):Nat):Int) - 1).ah+1))]) 1 rfl rfl rfl)<|jK LM 54 276 (vR jo) [(.agg [(u8<|op),(i6 nn),(.U N 0 L)])] (Jf a n u fs) (i6 z) k5 k6 k4 cw<|ax (z≠0) (fun _=>(ai (show 0<=(((0+n):Nat):Int) from ae)<|ai (show(((0+n):Nat):Int)<=(((0+n):Nat):Int) from ae)<|ai (show(((0+n):Nat):Int)<=Int.ofNat (iP (0+n)<|.aq (0+n) 13) from(show(((0+n):Nat):Int)<=(((0+n):Nat):Int) from by omega))<|HL (fs:=((fs.take n).set ((((0+n):Nat):Int) - 1).toNat<|A0 fs n)) (n:=(((0+n):Nat):Int).toNat) (f:=(⟨bd,0,0,false,[0,0,0,0,0,0,0,0],none⟩:Fr)) (cs:=(Oi bd)) (show aJ (⟨bd,0,0,false,[0,0,0,0,0,0,0,0],none⟩:Fr)=(Oi bd) from rfl) ae dR dR<|wm LM 65 280 (dJ eJ) [] (Jd a n u fs bd) (aT A1.pre m1 (.aq c1 13) A1.steps u1 br) k7 k8 k9 PU)) bF
end WD
end
section
open Go Go.Rn Go.RowKit Go.Proofs
namespace WE
open cv fW eH gO fy gZ fc cG dt cR cW fw eV fL fN fS gg fT gh gP gQ g9 ia iF iW jH jI kZ lE jT lW
noncomputable abbrev A3(fs:List Fr)(n:Nat):Fr:=({(av (fs.take n)<|(((0+n):Nat):Int) - 1) with ah:=((av (fs.take n)<|(((0+n):Nat):Int) - 1).ah+1),turns:=(av (fs.take n)<|(((0+n):Nat):Int) - 1).turns}:Fr)
noncomputable abbrev Jg(a:MN)(n:Nat)(u:AV)(fs:List Fr)(el:List St):VS:=aT a.pre ((((0+n):Nat):Int).toNat+1) (.aq ((((0+n):Nat):Int).toNat+1) 13) (a.steps+1) u<|((fs.take n).set ((((0+n):Nat):Int) - 1).toNat<|A3 fs n).take (((0+n):Nat):Int).toNat++[(⟨el,0,0,false,[0,0,0,0,0,0,0,0],none⟩:Fr)]
noncomputable abbrev Jh(to op nn:Int)(N L:Nat)(aG n2:Int)(N2 L2:Nat)(bd el:List St):AV:=.tuple [(.agg [(u8<|.ofNat 4),(i6 to),(u8<|op),(i6 nn),(.U N 0 L),(u8<|aG),(i6 n2),(.U N2 0 L2),(.U (nm (bd.map aP).flatten) 0 bd.length),(.U (nm (el.map aP).flatten) 0 el.length)]),(.bool true)]
noncomputable abbrev Ji(a:MN)(n:Nat)(u:AV)(fs:List Fr):VS:=aT a.pre (0+n) (.aq (0+n) 13) (a.steps+1) u<|(fs.take n).set ((((0+n):Nat):Int) - 1).toNat<|A3 fs n
noncomputable abbrev Oj(el:List St):List AV:=[(.U (nm (el.map aP).flatten) 0 el.length),i0,i0,(.bool false),i0,i0,i0,i0,i0,i0,i0,i0,(.slice none 0<|.known 0)]
theorem ago{B:aL}{a:MN}{n c:Nat}{u:AV}{fs:List Fr}{A1:MN}{m1 c1:Nat}{u1:AV}{br:List Fr}{A2:MN}{m2 c2:Nat}{u2:AV}{bp:List Fr}{N L N2 L2:Nat}{to op nn aG n2 z wi t:Int}{bd el ol fb:List St}{fa ft y0 y1 y2 y3 y4 y5 y6 y7:Int}{fo:Bool}{ub:AV}(mc:Mt LM B)(h1:1<=n)(hn:n<=fs.length)(hc:n<=c)(hf:fs.length<=1000000)(hR:fs.length*13<=top)(aB:0<=(av (fs.take n)<|((0+n:Nat):Int) - 1).ah/\(av (fs.take n)<|((0+n:Nat):Int) - 1).ah<=1000000)(cm:0<=a.steps/\a.steps<=1000000000000)(hlen:bp.length<=1000000)(nN:(AV.U A2.G A2.q A2.lg).bG=true)(hz:z=0)(k0:bH 10 (aT a.pre n (.aq c 13) a.steps u fs)=true)(k1:vR kY (aT a.pre n (.aq c 13) a.steps u fs) []=some (.agg [(u8<|.ofNat 1),i0,i0]))(k2:((Jh to op nn N L aG n2 N2 L2 bd el):AV).hi=true)(k3:vR iT (aT a.pre n (.aq c 13) a.steps u fs) []=some (Jh to op nn N L aG n2 N2 L2 bd el))(k4:([.agg [.int .u8 op,.int .i64 nn,.U N 0 L]]:List AV).all AV.hi=true)(k5:bH 10 (Ji a n u fs)=true)(k6:vR jo (Ji a n u fs) [(.agg [(u8<|op),(i6 nn),(.U N 0 L)])]=some (i6 z))(k7:bH 10 (Jg a n u fs el)=true)(k8:dJ eJ (Jg a n u fs el) []=some (.tuple [],(aT A1.pre m1 (.aq c1 13) A1.steps u1 br)))(k9:bH 10 (aT A1.pre m1 (.aq c1 13) A1.steps u1 br)=true)(sg:dJ eJ (aT A1.pre m1 (.aq c1 13) A1.steps u1 br) []=some (.tuple [],(aT A2.pre m2 (.aq c2 13) A2.steps u2 bp)))(ym:bH 10 (aT A2.pre m2 (.aq c2 13) A2.steps u2 bp)=true)(H:l7 B (az Tryz.f45) (aT A2.pre m2 (.aq c2 13) A2.steps u2 bp) (sH 45 2 38<|dv 45 [1,1,1,1,1,1,1,1,1])<|p7 A2 m2 (.aq c2 13) u2 bp):l7 B (az Tryz.f45) (aT A2.pre m2 (.aq c2 13) A2.steps u2 bp) (sF 45 Tryz.f45 [(.ptr<|some (270,0))])<|ak (ar++bx (dD 270 3<|aT a.pre n (.aq c 13) a.steps u fs)) 273:=by have ht:top=549755813888:=rfl;exact Am mc H (.st 8<|.rg<|.go 1<|.cg (.agg [(u8<|.ofNat 1),i0,i0]) (vG 272) (vQ 272<|aT a.pre n (.aq c 13) a.steps u fs)<|.go 3<|.en<|.st 6<|.rg<|.go 1<|.cg (Jh to op nn N L aG n2 N2 L2 bd el) (vG 272) (vQ 272<|aT a.pre n (.aq c 13) a.steps u fs)<|.go 6<|.en<|.st 1<|.rg<|.go 4<|.vl (i6<|a.steps+1)<|.go 3<|.en<|.st 1<|.rg<|.go 1<|.il<|.st 1<|.rg<|.go 4<|.il<|.st 8<|.rg<|.go 2<|.ao [] (((fs).map aJ).flatten) ((((fs.take n)).map aJ).flatten)<|.go 1<|.en<|.rt 1<|.go 1<|.en<|.st 1<|.rg<|.go 3<|.vl (i6<|(((0+n):Nat):Int) - 1)<|.ix<|.go 1<|.ld [(i6<|(av (fs.take n)<|(((0+n):Nat):Int) - 1).ah)]<|.vl (i6<|(av (fs.take n)<|(((0+n):Nat):Int) - 1).ah+1)<|.ix<|.go 1<|.lh (aN aJ<|(fs.take n).set ((((0+n):Nat):Int) - 1).toNat<|A3 fs n)<|.en<|.rt 2<|.en<|.st 1<|.rg<|.go 6<|.il<|.st 4<|.rg<|.go 3<|.cg (i6 z) (vG 276) (vQ 276<|Ji a n u fs)<|.fk (.no)<|.en<|.st 2<|.rg<|.go 4<|.il<|.st 3<|.rg<|.go 15<|.s3<|.go 2<|.an (((((fs.take n).set ((((0+n):Nat):Int) - 1).toNat<|A3 fs n)).map aJ).flatten) (Oj el) ((((((fs.take n).set ((((0+n):Nat):Int) - 1).toNat<|A3 fs n).take (((0+n):Nat):Int).toNat++[(⟨el,0,0,false,[0,0,0,0,0,0,0,0],none⟩:Fr)])).map aJ).flatten)<|.go 3<|.en<|.rg<|.go 1<|.cg (.tuple []) (vF 280<|aT A1.pre m1 (.aq c1 13) A1.steps u1 br) (vQ 280<|Jg a n u fs el)<|.en<|.rt 1<|.en<|.rt 1<|.en<|.st 1<|.rg<|.go 1<|.cg (.tuple []) (vF 280<|aT A2.pre m2 (.aq c2 13) A2.steps u2 bp) (vQ 280<|aT A1.pre m1 (.aq c1 13) A1.steps u1 br)<|.en<|.st 2<|(Al 2 A2 m2 (.aq c2 13) u2 bp 280 281))<|yC LM 35 272 (vR kY) [] (aT a.pre n (.aq c 13) a.steps u fs) (.agg [(u8<|.ofNat 1),i0,i0]) k0 k1<|jK LM 53 272 (vR iT) [] (aT a.pre n (.aq c 13) a.steps u fs) (Jh to op nn N L aG n2 N2 L2 bd el) k0 k3 cw k2<|ai BO<|Ak (fs:=fs) (n:=n) ae dR dR<|ai BN<|dc ((((0+n):Nat):Int) - 1) (((0+n):Nat):Int)<|ai (jO fA dR (jh (l:=(fs.take n)) (z:=((((0+n):Nat):Int) - 1)) ae dR) 1 1 rfl)<|ai BM<|dc ((((0+n):Nat):Int) - 1) (((0+n):Nat):Int)<|ai (oA fA dR (jh (l:=(fs.take n)) (z:=((((0+n):Nat):Int) - 1)) ae dR) (c':=(A3 fs n)) (r:=[(i6<|((av (fs.take n)<|(((0+n):Nat):Int) - 1).ah+1))]) 1 rfl rfl rfl)<|jK LM 54 276 (vR jo) [(.agg [(u8<|op),(i6 nn),(.U N 0 L)])] (Ji a n u fs) (i6 z) k5 k6 k4 cw<|ax (z≠0) bF fun _=>(ai (show 0<=(((0+n):Nat):Int) from ae)<|ai (show(((0+n):Nat):Int)<=(((0+n):Nat):Int) from ae)<|ai (show(((0+n):Nat):Int)<=Int.ofNat (iP (0+n)<|.aq (0+n) 13) from(show(((0+n):Nat):Int)<=(((0+n):Nat):Int) from by omega))<|HL (fs:=((fs.take n).set ((((0+n):Nat):Int) - 1).toNat<|A3 fs n)) (n:=(((0+n):Nat):Int).toNat) (f:=(⟨el,0,0,false,[0,0,0,0,0,0,0,0],none⟩:Fr)) (cs:=(Oj el)) (show aJ (⟨el,0,0,false,[0,0,0,0,0,0,0,0],none⟩:Fr)=(Oj el) from rfl) ae dR dR<|wm LM 65 280 (dJ eJ) [] (Jg a n u fs el) (aT A1.pre m1 (.aq c1 13) A1.steps u1 br) k7 k8 k9 PU)
end WE
end
section
open Go Go.Rn Go.RowKit Go.Proofs
namespace WG
open cv fW eH gO fy gZ fc cG dt cR cW fw eV fL fN fS gg fT gh gP gQ g9 ia iF iW jH jI kZ lE jT lW
noncomputable abbrev A4(fs:List Fr)(n:Nat):Fr:=({(av (fs.take n)<|(((0+n):Nat):Int) - 1) with ah:=((av (fs.take n)<|(((0+n):Nat):Int) - 1).ah+1),turns:=(av (fs.take n)<|(((0+n):Nat):Int) - 1).turns}:Fr)
noncomputable abbrev Jj(a:MN)(n:Nat)(u:AV)(fs:List Fr)(bd:List St)(z:Int):VS:=aT a.pre ((((0+n):Nat):Int).toNat+1) (.aq ((((0+n):Nat):Int).toNat+1) 13) (a.steps+1) u<|((fs.take n).set ((((0+n):Nat):Int) - 1).toNat<|A4 fs n).take (((0+n):Nat):Int).toNat++[(⟨bd,0,((eP (cP z<|0)<|8) - 1),false,[0,0,0,0,0,0,0,0],none⟩:Fr)]
noncomputable abbrev Jk(to op nn:Int)(N L:Nat)(aG n2:Int)(N2 L2:Nat)(bd el:List St):AV:=.tuple [(.agg [(u8<|.ofNat 5),(i6 to),(u8<|op),(i6 nn),(.U N 0 L),(u8<|aG),(i6 n2),(.U N2 0 L2),(.U (nm (bd.map aP).flatten) 0 bd.length),(.U (nm (el.map aP).flatten) 0 el.length)]),(.bool true)]
noncomputable abbrev Ol(bd:List St)(z:Int):List AV:=[(.U (nm (bd.map aP).flatten) 0 bd.length),i0,(i6<|((eP (cP z (0:Int)) (8:Int)) - 1)),(.bool false),i0,i0,i0,i0,i0,i0,i0,i0,(.slice none 0<|.known 0)]
noncomputable abbrev Jl(a:MN)(n:Nat)(u:AV)(fs:List Fr):VS:=aT a.pre (0+n) (.aq (0+n) 13) (a.steps+1) u<|(fs.take n).set ((((0+n):Nat):Int) - 1).toNat<|A4 fs n
theorem agp{B:aL}{a:MN}{n c:Nat}{u:AV}{fs:List Fr}{A1:MN}{m1 c1:Nat}{u1:AV}{br:List Fr}{A2:MN}{m2 c2:Nat}{u2:AV}{bp:List Fr}{N L N2 L2:Nat}{to op nn aG n2 z wi t:Int}{bd el ol fb:List St}{fa ft y0 y1 y2 y3 y4 y5 y6 y7:Int}{fo:Bool}{ub:AV}(mc:Mt LM B)(h1:1<=n)(hn:n<=fs.length)(hc:n<=c)(hf:fs.length<=1000000)(hR:fs.length*13<=top)(aB:0<=(av (fs.take n)<|((0+n:Nat):Int) - 1).ah/\(av (fs.take n)<|((0+n:Nat):Int) - 1).ah<=1000000)(cm:0<=a.steps/\a.steps<=1000000000000)(hlen:bp.length<=1000000)(nN:(AV.U A2.G A2.q A2.lg).bG=true)(hz:0<(eP (cP z<|0)<|8)/\(eP (cP z<|0)<|8)<=8)(k0:bH 10 (aT a.pre n (.aq c 13) a.steps u fs)=true)(k1:vR kY (aT a.pre n (.aq c 13) a.steps u fs) []=some (.agg [(u8<|.ofNat 1),i0,i0]))(k2:((Jk to op nn N L aG n2 N2 L2 bd el):AV).hi=true)(k3:vR iT (aT a.pre n (.aq c 13) a.steps u fs) []=some (Jk to op nn N L aG n2 N2 L2 bd el))(k4:([.agg [.int .u8 op,.int .i64 nn,.U N 0 L]]:List AV).all AV.hi=true)(k5:bH 10 (Jl a n u fs)=true)(k6:vR jo (Jl a n u fs) [(.agg [(u8<|op),(i6 nn),(.U N 0 L)])]=some (i6 z))(k7:bH 10 (Jj a n u fs bd z)=true)(k8:dJ eJ (Jj a n u fs bd z) []=some (.tuple [],(aT A1.pre m1 (.aq c1 13) A1.steps u1 br)))(k9:bH 10 (aT A1.pre m1 (.aq c1 13) A1.steps u1 br)=true)(sg:dJ eJ (aT A1.pre m1 (.aq c1 13) A1.steps u1 br) []=some (.tuple [],(aT A2.pre m2 (.aq c2 13) A2.steps u2 bp)))(ym:bH 10 (aT A2.pre m2 (.aq c2 13) A2.steps u2 bp)=true)(H:l7 B (az Tryz.f45) (aT A2.pre m2 (.aq c2 13) A2.steps u2 bp) (sH 45 2 38<|dv 45 [1,1,1,1,1,1,1,1,1])<|p7 A2 m2 (.aq c2 13) u2 bp):l7 B (az Tryz.f45) (aT A2.pre m2 (.aq c2 13) A2.steps u2 bp) (sF 45 Tryz.f45 [(.ptr<|some (270,0))])<|ak (ar++bx (dD 270 3<|aT a.pre n (.aq c 13) a.steps u fs)) 273:=by have ht:top=549755813888:=rfl;exact Am mc H (.st 8<|.rg<|.go 1<|.cg (.agg [(u8<|.ofNat 1),i0,i0]) (vG 272) (vQ 272<|aT a.pre n (.aq c 13) a.steps u fs)<|.go 3<|.en<|.st 6<|.rg<|.go 1<|.cg (Jk to op nn N L aG n2 N2 L2 bd el) (vG 272) (vQ 272<|aT a.pre n (.aq c 13) a.steps u fs)<|.go 6<|.en<|.st 1<|.rg<|.go 4<|.vl (i6<|a.steps+1)<|.go 3<|.en<|.st 1<|.rg<|.go 1<|.il<|.st 1<|.rg<|.go 4<|.il<|.st 8<|.rg<|.go 2<|.ao [] (((fs).map aJ).flatten) ((((fs.take n)).map aJ).flatten)<|.go 1<|.en<|.rt 1<|.go 1<|.en<|.st 1<|.rg<|.go 3<|.vl (i6<|(((0+n):Nat):Int) - 1)<|.ix<|.go 1<|.ld [(i6<|(av (fs.take n)<|(((0+n):Nat):Int) - 1).ah)]<|.vl (i6<|(av (fs.take n)<|(((0+n):Nat):Int) - 1).ah+1)<|.ix<|.go 1<|.lh (aN aJ<|(fs.take n).set ((((0+n):Nat):Int) - 1).toNat<|A4 fs n)<|.en<|.rt 2<|.en<|.st 1<|.rg<|.go 6<|.il<|.st 3<|.rg<|.go 3<|.cg (i6 z) (vG 276) (vQ 276<|Jl a n u fs)<|.vl (i6<|(cP z (0:Int)))<|.vl (i6<|(eP (cP z (0:Int)) (8:Int)))<|.go 1<|.en<|.st 1<|.rg<|.go 1<|.fk (.en<|.st 1<|.rg<|.go 4<|.vl (i6<|(eP (cP z (0:Int)) (8:Int)) - 1)<|.go 1<|.il<|.st 3<|.rg<|.go 15<|.s3<|.go 2<|.an (((((fs.take n).set ((((0+n):Nat):Int) - 1).toNat<|A4 fs n)).map aJ).flatten) (Ol bd z) ((((((fs.take n).set ((((0+n):Nat):Int) - 1).toNat<|A4 fs n).take (((0+n):Nat):Int).toNat++[(⟨bd,0,((eP (cP z<|0)<|8) - 1),false,[0,0,0,0,0,0,0,0],none⟩:Fr)])).map aJ).flatten)<|.go 3<|.en<|.rg<|.go 1<|.cg (.tuple []) (vF 280<|aT A1.pre m1 (.aq c1 13) A1.steps u1 br) (vQ 280<|Jj a n u fs bd z)<|.en<|.rt 1<|.en<|.rt 1<|.en<|.st 1<|.rg<|.go 1<|.cg (.tuple []) (vF 280<|aT A2.pre m2 (.aq c2 13) A2.steps u2 bp) (vQ 280<|aT A1.pre m1 (.aq c1 13) A1.steps u1 br)<|.en<|.st 2<|(Al 2 A2 m2 (.aq c2 13) u2 bp 280 281))<|.no)<|yC LM 35 272 (vR kY) [] (aT a.pre n (.aq c 13) a.steps u fs) (.agg [(u8<|.ofNat 1),i0,i0]) k0 k1<|jK LM 53 272 (vR iT) [] (aT a.pre n (.aq c 13) a.steps u fs) (Jk to op nn N L aG n2 N2 L2 bd el) k0 k3 cw k2<|ai BO<|Ak (fs:=fs) (n:=n) ae dR dR<|ai BN<|dc ((((0+n):Nat):Int) - 1) (((0+n):Nat):Int)<|ai (jO fA dR (jh (l:=(fs.take n)) (z:=((((0+n):Nat):Int) - 1)) ae dR) 1 1 rfl)<|ai BM<|dc ((((0+n):Nat):Int) - 1) (((0+n):Nat):Int)<|ai (oA fA dR (jh (l:=(fs.take n)) (z:=((((0+n):Nat):Int) - 1)) ae dR) (c':=(A4 fs n)) (r:=[(i6<|((av (fs.take n)<|(((0+n):Nat):Int) - 1).ah+1))]) 1 rfl rfl rfl)<|jK LM 54 276 (vR jo) [(.agg [(u8<|op),(i6 nn),(.U N 0 L)])] (Jl a n u fs) (i6 z) k5 k6 k4 cw<|ai (congrArg (AV.int .i64) (show(match decide ((0:Int)>z) with|true=>(0:Int)|false=>z)=cP z (0:Int) from rfl))<|ai (congrArg (AV.int .i64) (show(match decide ((8:Int)<(cP z (0:Int))) with|true=>(8:Int)|false=>(cP z (0:Int)))=eP (cP z (0:Int)) (8:Int) from rfl))<|ax ((eP (cP z (0:Int)) (8:Int))>0) (fun _=>(ai (wI<|(eP (cP z (0:Int)) (8:Int)) - 1)<|ai (show 0<=(((0+n):Nat):Int) from ae)<|ai (show(((0+n):Nat):Int)<=(((0+n):Nat):Int) from ae)<|ai (show(((0+n):Nat):Int)<=Int.ofNat (iP (0+n)<|.aq (0+n) 13) from(show(((0+n):Nat):Int)<=(((0+n):Nat):Int) from by omega))<|HL (fs:=((fs.take n).set ((((0+n):Nat):Int) - 1).toNat<|A4 fs n)) (n:=(((0+n):Nat):Int).toNat) (f:=(⟨bd,0,((eP (cP z<|0)<|8) - 1),false,[0,0,0,0,0,0,0,0],none⟩:Fr)) (cs:=(Ol bd z)) (show aJ (⟨bd,0,((eP (cP z<|0)<|8) - 1),false,[0,0,0,0,0,0,0,0],none⟩:Fr)=(Ol bd z) from rfl) ae dR dR<|wm LM 65 280 (dJ eJ) [] (Jj a n u fs bd z) (aT A1.pre m1 (.aq c1 13) A1.steps u1 br) k7 k8 k9 PU)) bF
end WG
end
section
open Go Go.Rn Go.RowKit Go.Proofs
namespace WH
open cv fW eH gO fy gZ fc cG dt cR cW fw eV fL fN fS gg fT gh gP gQ g9 ia iF iW jH jI kZ lE jT lW
noncomputable abbrev A5(a:MN)(n:Nat)(u:AV)(fs:List Fr):VS:=aT a.pre (0+n) (.aq (0+n) 13) (a.steps+1) u<|(fs.take n).set ((((0+n):Nat):Int) - 1).toNat ({(av (fs.take n)<|(((0+n):Nat):Int) - 1) with ah:=((av (fs.take n)<|(((0+n):Nat):Int) - 1).ah+1),turns:=(av (fs.take n)<|(((0+n):Nat):Int) - 1).turns}:Fr)
noncomputable abbrev Jm(to op nn:Int)(N L:Nat)(aG n2:Int)(N2 L2:Nat)(bd el:List St):AV:=.tuple [(.agg [(u8<|.ofNat 5),(i6 to),(u8<|op),(i6 nn),(.U N 0 L),(u8<|aG),(i6 n2),(.U N2 0 L2),(.U (nm (bd.map aP).flatten) 0 bd.length),(.U (nm (el.map aP).flatten) 0 el.length)]),(.bool true)]
theorem agq{B:aL}{a:MN}{n c:Nat}{u:AV}{fs:List Fr}{A1:MN}{m1 c1:Nat}{u1:AV}{br:List Fr}{A2:MN}{m2 c2:Nat}{u2:AV}{bp:List Fr}{N L N2 L2:Nat}{to op nn aG n2 z wi t:Int}{bd el ol fb:List St}{fa ft y0 y1 y2 y3 y4 y5 y6 y7:Int}{fo:Bool}{ub:AV}(mc:Mt LM B)(h1:1<=n)(hn:n<=fs.length)(hc:n<=c)(hf:fs.length<=1000000)(hR:fs.length*13<=top)(aB:0<=(av (fs.take n)<|((0+n:Nat):Int) - 1).ah/\(av (fs.take n)<|((0+n:Nat):Int) - 1).ah<=1000000)(cm:0<=a.steps/\a.steps<=1000000000000)(hlen:br.length<=1000000)(nN:(AV.U A1.G A1.q A1.lg).bG=true)(hz:(eP (cP z<|0)<|8)<=0)(k0:bH 10 (aT a.pre n (.aq c 13) a.steps u fs)=true)(k1:vR kY (aT a.pre n (.aq c 13) a.steps u fs) []=some (.agg [(u8<|.ofNat 1),i0,i0]))(k2:((Jm to op nn N L aG n2 N2 L2 bd el):AV).hi=true)(k3:vR iT (aT a.pre n (.aq c 13) a.steps u fs) []=some (Jm to op nn N L aG n2 N2 L2 bd el))(k4:([.agg [.int .u8 op,.int .i64 nn,.U N 0 L]]:List AV).all AV.hi=true)(k5:bH 10 (A5 a n u fs)=true)(k6:vR jo (A5 a n u fs) [(.agg [(u8<|op),(i6 nn),(.U N 0 L)])]=some (i6 z))(k7:dJ eJ (A5 a n u fs) []=some (.tuple [],(aT A1.pre m1 (.aq c1 13) A1.steps u1 br)))(k8:bH 10 (aT A1.pre m1 (.aq c1 13) A1.steps u1 br)=true)(H:l7 B (az Tryz.f45) (aT A1.pre m1 (.aq c1 13) A1.steps u1 br) (sH 45 2 38<|dv 45 [1,1,1,1,1,1,1,1,1])<|p7 A1 m1 (.aq c1 13) u1 br):l7 B (az Tryz.f45) (aT A1.pre m1 (.aq c1 13) A1.steps u1 br) (sF 45 Tryz.f45 [(.ptr<|some (270,0))])<|ak (ar++bx (dD 270 3<|aT a.pre n (.aq c 13) a.steps u fs)) 273:=by have ht:top=549755813888:=rfl;exact Am mc H (.st 8<|.rg<|.go 1<|.cg (.agg [(u8<|.ofNat 1),i0,i0]) (vG 272) (vQ 272<|aT a.pre n (.aq c 13) a.steps u fs)<|.go 3<|.en<|.st 6<|.rg<|.go 1<|.cg (Jm to op nn N L aG n2 N2 L2 bd el) (vG 272) (vQ 272<|aT a.pre n (.aq c 13) a.steps u fs)<|.go 6<|.en<|.st 1<|.rg<|.go 4<|.vl (i6<|a.steps+1)<|.go 3<|.en<|.st 1<|.rg<|.go 1<|.il<|.st 1<|.rg<|.go 4<|.il<|.st 8<|.rg<|.go 2<|.ao [] (((fs).map aJ).flatten) ((((fs.take n)).map aJ).flatten)<|.go 1<|.en<|.rt 1<|.go 1<|.en<|.st 1<|.rg<|.go 3<|.vl (i6<|(((0+n):Nat):Int) - 1)<|.ix<|.go 1<|.ld [(i6<|(av (fs.take n)<|(((0+n):Nat):Int) - 1).ah)]<|.vl (i6<|(av (fs.take n)<|(((0+n):Nat):Int) - 1).ah+1)<|.ix<|.go 1<|.lh (aN aJ<|(fs.take n).set ((((0+n):Nat):Int) - 1).toNat ({(av (fs.take n)<|(((0+n):Nat):Int) - 1) with ah:=((av (fs.take n)<|(((0+n):Nat):Int) - 1).ah+1),turns:=(av (fs.take n)<|(((0+n):Nat):Int) - 1).turns}:Fr))<|.en<|.rt 2<|.en<|.st 1<|.rg<|.go 6<|.il<|.st 3<|.rg<|.go 3<|.cg (i6 z) (vG 276) (vQ 276<|A5 a n u fs)<|.vl (i6<|(cP z (0:Int)))<|.vl (i6<|(eP (cP z (0:Int)) (8:Int)))<|.go 1<|.en<|.st 1<|.rg<|.go 1<|.fk (.no)<|.en<|.rt 3<|.en<|.st 1<|.rg<|.go 1<|.cg (.tuple []) (vF 276<|aT A1.pre m1 (.aq c1 13) A1.steps u1 br) (vQ 276<|A5 a n u fs)<|.en<|.st 2<|(Al 2 A1 m1 (.aq c1 13) u1 br 276 278))<|yC LM 35 272 (vR kY) [] (aT a.pre n (.aq c 13) a.steps u fs) (.agg [(u8<|.ofNat 1),i0,i0]) k0 k1<|jK LM 53 272 (vR iT) [] (aT a.pre n (.aq c 13) a.steps u fs) (Jm to op nn N L aG n2 N2 L2 bd el) k0 k3 cw k2<|ai BO<|Ak (fs:=fs) (n:=n) ae dR dR<|ai BN<|dc ((((0+n):Nat):Int) - 1) (((0+n):Nat):Int)<|ai (jO fA dR (jh (l:=(fs.take n)) (z:=((((0+n):Nat):Int) - 1)) ae dR) 1 1 rfl)<|ai BM<|dc ((((0+n):Nat):Int) - 1) (((0+n):Nat):Int)<|ai (oA fA dR (jh (l:=(fs.take n)) (z:=((((0+n):Nat):Int) - 1)) ae dR) (c':=({(av (fs.take n)<|(((0+n):Nat):Int) - 1) with ah:=((av (fs.take n)<|(((0+n):Nat):Int) - 1).ah+1),turns:=(av (fs.take n)<|(((0+n):Nat):Int) - 1).turns}:Fr)) (r:=[(i6<|((av (fs.take n)<|(((0+n):Nat):Int) - 1).ah+1))]) 1 rfl rfl rfl)<|jK LM 54 276 (vR jo) [(.agg [(u8<|op),(i6 nn),(.U N 0 L)])] (A5 a n u fs) (i6 z) k5 k6 k4 cw<|ai (congrArg (AV.int .i64) (show(match decide ((0:Int)>z) with|true=>(0:Int)|false=>z)=cP z (0:Int) from rfl))<|ai (congrArg (AV.int .i64) (show(match decide ((8:Int)<(cP z (0:Int))) with|true=>(8:Int)|false=>(cP z (0:Int)))=eP (cP z (0:Int)) (8:Int) from rfl))<|ax ((eP (cP z (0:Int)) (8:Int))>0) bF fun _=>(wm LM 65 276 (dJ eJ) [] (A5 a n u fs) (aT A1.pre m1 (.aq c1 13) A1.steps u1 br) k5 k7 k8<|EL 45 2 38 (dv 45 [1,1,1,1,1,1,1,1,1]) A1 m1 (.aq c1 13) u1 br 276 278 hlen nN)
end WH
end
