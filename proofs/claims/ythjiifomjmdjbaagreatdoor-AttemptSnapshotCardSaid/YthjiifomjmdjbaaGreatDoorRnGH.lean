import Derived.Test.YthjiifomjmdjbaaGreatDoorRnGG
import Derived.Test.YthjiifomjmdjbaaGreatDoorRnGE
import Derived.Test.YthjiifomjmdjbaaGreatDoorRnGC
import Derived.Test.YthjiifomjmdjbaaGreatDoorRnGF
import Derived.Test.YthjiifomjmdjbaaGreatDoorRnGD
import Derived.ChangeArms
import Derived.ChangeShapes
import Derived.DataReads
import Derived.OpenShut
set_option maxRecDepth 100000
set_option maxHeartbeats 8000000
set_option linter.unusedSimpArgs false
set_option linter.unusedVariables false
namespace Go.Rn
open Go.RowKit
variable {J g:Nat} {ns:List Nat} {h0:Tr ae} {P:Program} {ρ:aw} {s:AS} {kn:List<|Nat×Option ae} {fn:Func} {body:Code}
def jf(d s:List<|Int×Int):List<|Int×Int:=s.foldl (fun d p=>gA d p.1 p.2) d
theorem Un:∀{a b:List<|Int×Int},cY a=cY b->a=b
 |[],[],_=>rfl
 |[],_::_,h=>by cases h
 |_::_,[],h=>by cases h
 |(x,y)::a,(z,u)::b,h=>by have h:(AV.int .i64 x,AV.int .i64 y)::cY a=(.int .i64 z,.int .i64 u)::cY b:=h;simp only[List.cons.injEq,Prod.mk.injEq,AV.int.injEq,true_and] at h;rw[h.1.1,h.1.2,Un h.2]
open Classical in
noncomputable def yS(o:ae):Option<|List<|Int×Int:=if h:∃m,o=bG m then some h.choose else none
theorem RU{o:ae}{m:List<|Int×Int}(h:yS o=some m):o=bG m:=by
 unfold yS at h;split at h
 ·rename_i q;injection h with h;rw[←h];exact q.choose_spec
 ·cases h
theorem RV(m:List<|Int×Int):yS (bG m)=some m:=by
 unfold yS;have q:∃m',bG m=bG m':=⟨m,rfl⟩;rw[dif_pos q];have e:=q.choose_spec;have e:ae.jQ (cY m)= .jQ (cY q.choose):=e;injection e with e
 exact congrArg some (Un e).symm
noncomputable def vY(J:Nat)(ns:List Nat)(h0:Tr ae):aI->List AV->M AV:=fun _ args=>match args with
 |[.map (some a),.map (some b)]=>(fH J h0 ns).bind fun _=>lP (a≠b) <| (bp a).bind fun o1=>(bp b).bind fun o2=>
  aA (yS o1) fun m1=>aA (yS o2) fun m2=>lP ((m1.map (·.1)).Nodup/\(m2.map (·.1)).Nodup) <|
  (bI a<|some<|bG<|jf m1 m2).bind fun _=>(bI b<|some<|bG m2).bind fun _=>M.pure<|.tuple []
 |_=>fail
theorem Yd.vY(J:Nat)(ns:List Nat)(h0:Tr ae)(Ye:aI)(args:List AV):Yd<|vY J ns h0 Ye args:=by
 unfold Rn.vY;split
 ·refine Yd.bind (Yd.fH J h0 ns) fun _=>Yd.lP <| Yd.bind (Yd.bp _) fun _=>Yd.bind (Yd.bp _) fun _=>Yd.aA fun _ _=>Yd.aA fun _ _=>Yd.lP <| Yd.bind (Yd.bI _ _) fun _=>Yd.bind (Yd.bI _ _) fun _=>Yd.pure _
 ·exact Yd.fail
def Pz(J:Nat)(P:Program)(rs:List ResultVar)(m1 m2:List<|Int×Int):=Fin P rs fun y s'=>y= .tuple []/\s'.h.get J=some (bG<|jf m1 m2)/\s'.h.get (J+1)=some (bG m2)
theorem wA{σ:aw}{N:Nat}{o':Obj}{m:List<|Int×Int}(h:OR ρ N (bG m) o'):OR σ N (bG m) o':=by
 obtain⟨l,aO,rfl,h1,h2,l',h3,h4⟩:=h;refine⟨l,aO,rfl,h1,h2,l',h3,?_⟩;have:∀(m:List<|Int×Int) (l:List MapEntry),dT ρ (cY m) l->dT σ (cY m) l:=by
  intro m;induction m with
  |nil=>intro l h;simpa only[cY,List.map_nil,dT] using h
  |cons p m ih=>intro l h;have h:dT ρ ((.int .i64 p.1,.int .i64 p.2)::cY m) l:=h;show dT σ ((.int .i64 p.1,.int .i64 p.2)::cY m) l;simp only[dT,VR] at h ⊢;obtain⟨e,l',h1,h2,h3,h4⟩:=h;exact⟨e,l',h1,h2,h3,ih l' h4⟩
 exact this m l' h4
theorem ac5{B:aJ}{f:Nat}{w:World}{s1:AS}(hP:bE P)(cm:P.funcs[f]? =some fn)(cv:fn.body=some body)(dJ:(fn.name == "runtime.NumGoroutine")=false)(fX:fN<=J)(dM:J+2<=top)(dK:∀n o,n<top->h0.get n=some o->n∈ns)(dm:∀n∈ns,n<J)(jx:∀n o,(n,some o)∈kn->h0.get n=some o)(jy:∀p∈kn,p.1<top)(eP:∀m1 m2:List<|Int×Int,(m1.map (·.1)).Nodup->(m2.map (·.1)).Nodup->max fn.ntmps 2<=top/\∀B':aJ,B'.F=B.F->B'.inv=B.inv->
 au P B' (J+2) (Pz J P fn.results.toList m1 m2) ⟨f,eh [.map<|some J,.map<|some<|J+1],max fn.ntmps 2,[.code body],[],none⟩ ⟨gf<|kn++bu [(J,bG m1),(J+1,bG m2)],J+2,0,[],[]⟩){Ye:aI}{args:List AV}{x:AV}{vs:Array Value}(r:Rel B ρ s.h w)(hg:gd ρ)(h:vY J ns h0 Ye args s= .ok x s1)(hv:ay ρ args vs.toList):jo P ((callFunc f vs).run P w)<|kh B ρ s s1 w x:=by
 unfold vY at h;split at h
 ·rename_i n1 n2;obtain⟨u,s2,h2,h3⟩:=M.aP h;obtain⟨a1,a2,a3⟩:=uv h2;obtain⟨cn,h3⟩:=CA h3;obtain⟨o1,s3,k1,h3⟩:=M.aP h3;obtain⟨o2,s4,k2,h3⟩:=M.aP h3;obtain⟨m1,KU,h3⟩:=bt h3;obtain⟨m2,cQ,h3⟩:=bt h3;obtain⟨⟨nd1,nd2⟩,h3⟩:=CA h3;obtain⟨u1,t1,w1,h3⟩:=M.aP h3;obtain⟨u2,t2,w2,h3⟩:=M.aP h3;obtain⟨rfl,rfl⟩:=bD h3;obtain⟨r1,r2,r3,r4⟩:=fY k1;obtain⟨r5,r6,r7,r8⟩:=fY k2;obtain⟨x1,x2,_,x4,x5⟩:=kx w1;obtain⟨y1,y2,_,y4,y5⟩:=kx w2;rw[RU KU,a1] at r2;rw[RU cQ,r3,a1] at r6;let V:Vw:=[(J,n1,bG m1),(J+1,n2,bG m2)];have mem:∀q∈V,q=(J,n1,bG m1)\/q=(J+1,n2,bG m2):=fun q hq=>by simpa[V] using hq
  have e0:∀gG:aw,eQ J gG V J=gG n1:=fun gG=>by
   unfold eQ;rw[if_neg aj,if_neg aj];have:gK V J=some n1:=by simp[gK,V]
   rw[this]
  have e1:∀gG:aw,eQ J gG V (J+1)=gG n2:=fun gG=>by
   unfold eQ;rw[if_neg aj,if_neg aj];have:gK V (J+1)=some n2:=by simp[gK,V]
   rw[this]
  have hi:jq ρ<|eQ J ρ V:=fun m x hm e=>by rw[yI aj hm];exact e
  have hV:zX J ρ s.h V:=by
   refine⟨fun q hq=>?_,fun q hq q' dS e=>?_,fun q hq q' dS e=>?_,fun q hq=>?_⟩
   ·rcases mem q hq with rfl|rfl
    ·exact⟨Nat.le_refl _,by omega,x2⟩
    ·exact⟨by omega,by omega,y2⟩
   ·rcases mem q hq with rfl|rfl<;>rcases mem q' dS with rfl|rfl<;>first|rfl|(simp only at e;omega)
   ·rcases mem q hq with rfl|rfl<;>rcases mem q' dS with rfl|rfl<;>first|rfl|(simp only at e;omega)
   ·rcases mem q hq with rfl|rfl
    ·exact⟨_,r2,.inl ⟨rfl,rfl,fun N o' hO=>wA hO⟩⟩
    ·exact⟨_,r6,.inl ⟨rfl,rfl,fun N o' hO=>wA hO⟩⟩
  obtain⟨_,cV,T⟩:=r.tk;have T:DW B ρ s.h w cV:=T;have nL:=JO aj r T dK dm jx jy (fun n hn=>by obtain⟨_,o,p,h⟩:=a3 n hn;exact⟨o,p,h⟩) hV;obtain⟨d1,d2⟩:=eP m1 m2 nd1 nd2;have fi:bx (⟨gf<|kn++bu [(J,bG m1),(J+1,bG m2)],J+2,0,[],[]⟩:AS):=⟨Nat.zero_le _,dM⟩;have iL:ay (eQ J ρ V) [.map<|some J,.map<|some<|J+1] vs.toList:=by simp only[ay,VR] at hv ⊢;obtain⟨y0,ys,q1,⟨b',N',q2,q2'⟩,y3,Ee,q3,⟨b'',N'',q4,q5⟩,q6⟩:=hv;exact⟨y0,ys,q1,⟨b',N',(e0 ρ).trans q2,q2'⟩,y3,Ee,q3,⟨b'',N'',(e1 ρ).trans q4,q5⟩,q6⟩
  have bC:=au.FC (B:=tB B ρ w<|wH ρ cV V) (s:=⟨gf<|kn++bu [(J,bG m1),(J+1,bG m2)],J+2,0,[],[]⟩) (args:=[.map<|some J,.map<|some<|J+1]) (vs:=vs) hP cm cv d1 (d2 _ rfl rfl) fi nL (fun g iB=>by
   obtain⟨N,e⟩:=hg g iB;exact⟨N,by rw[CS<|Nat.lt_of_lt_of_le iB fX];exact e⟩) (fun m hm jZ=>by
   have hm:J+2<=m:=hm;exact HO aj jZ fun q hq=>by rcases mem q hq with rfl|rfl<;>(show _≠m;simp only;omega)) iL
  rw[uw cm cv dJ];show Calls P f vs w _;refine bC.mono fun e w'=>?_;rintro ⟨Cf,x',s7,rfl,⟨rfl,j1,j2⟩,_,σ,i0,Cg,i1,i2,i3⟩;have sV:∀q∈V,σ q.1=ρ q.2.1:=fun q hq=>by
   rcases mem q hq with rfl|rfl
   ·exact(i0 J aj aj).trans<|e0 ρ
   ·exact(i0 (J+1) aj aj).trans<|e1 ρ
  have qN:jq σ<|cG ρ σ:=fun k x hk e=>by unfold cG;rw[if_pos hk];exact e
  have V0:(J,n1,bG m1)∈V:=by simp[V]
  have V1:(J+1,n2,bG m2)∈V:=by simp[V]
  obtain⟨b1,b2,b3,b4⟩:=I8 (a:=s.nx) (L2:=[(n1,bG<|jf m1 m2),(n2,bG m2)]) (h':=s1.h) r T hV i2 i3 sV (fun m z hm q=>Cg m z hm<|hi m z hm q) (fun n q hm=>by
   rcases List.mem_cons.1 hm with hm|hm
   ·cases hm;exact⟨_,V0,rfl,_,j1,.inl ⟨rfl,rfl,fun N o' hO=>wA hO⟩⟩
   rcases List.mem_cons.1 hm with hm|hm
   ·cases hm;exact⟨_,V1,rfl,_,j2,.inl ⟨rfl,rfl,fun N o' hO=>wA hO⟩⟩
   cases hm) (fun q hq _=>by
   rcases mem q hq with rfl|rfl
   ·exact⟨_,j1,rfl⟩
   ·exact⟨_,j2,rfl⟩) (fun k hk=>by
   have G1:s1.h=(s.h.put n1<|some<|bG<|jf m1 m2).put n2 (some<|bG m2):=by rw[y4,x4,r7,r3,a1]
   rw[G1,Tr.dk _ _ _ _ y2 hk,Tr.dk _ _ _ _ x2 hk];by_cases q2:k=n2
   ·subst q2;exact .inl ⟨_,by simp,if_pos rfl⟩
   rw[if_neg q2];by_cases q1:k=n1
   ·subst q1;exact .inl ⟨_,by simp,if_pos rfl⟩
   rw[if_neg q1];exact .inr ⟨fun q hq=>by rcases mem q hq with rfl|rfl<;>(intro e;exact absurd e.symm<|by assumption),rfl⟩)
  refine⟨Cf,rfl,cG ρ σ,?_,AV.pd qN rfl i1,b3,b4⟩;have cM:s1.nx=s.nx:=by rw[y5,x5,r8,r4,a2]
  rw[cM];exact b1
 ·cases h
theorem aeU{X:TX}{L L':bY}(hP:bE P)(fX:fN<=J)(dM:J+2<=top)(dK:∀n o,n<top->h0.get n=some o->n∈ns)(dm:∀n∈ns,n<J)(jx:∀n o,(n,some o)∈kn->h0.get n=some o)(jy:∀p∈kn,p.1<top)(h:eA X J P<|dA J ns h0 L)(h':eA X J P<|dA J ns h0 L')(cm:P.funcs[g]? =some fn)(cv:fn.body=some body)(dJ:(fn.name == "runtime.NumGoroutine")=false)(eP:∀m1 m2:List<|Int×Int,(m1.map (·.1)).Nodup->(m2.map (·.1)).Nodup->max fn.ntmps 2<=top/\∀B:aJ,qC X P J ns h0 L' B->
 au P B (J+2) (Pz J P fn.results.toList m1 m2) ⟨g,eh [.map<|some J,.map<|some<|J+1],max fn.ntmps 2,[.code body],[],none⟩ ⟨gf<|kn++bu [(J,bG m1),(J+1,bG m2)],J+2,0,[],[]⟩):eA X J P<|dA J ns h0<|(g,.raw vY)::L:=by
 refine(show eA X J P (pv (dA J ns h0 L) g<|vY J ns h0) from h.mQ (fun Ye _ args=>Yd.vY _ _ _ Ye args) fun B hB hT Ye hc hl args x s s1 ρ w vs fi r hg hf hm hv=>?_);refine ac5 hP cm cv dJ fX dM dK dm jx jy (fun m1 m2 n1 n2=>?_) r hg hm hv;obtain⟨q1,q2⟩:=eP m1 m2 n1 n2;exact⟨q1,fun B' lH lI=>q2 B'<|rE hP h' (lH.trans hB)<|lI.trans hT⟩
theorem ac6{F:Nat->Option (List AV)}{sp:Sp}{n:Nat}(h:sp g=some (vY J ns h0)){a b:Nat}{m1 m2:List<|Int×Int}(hk:qB J h0 ns s=true)(GL:a≠b)(ha:Nat.blt a (dP J h0 ns s).nx=true)(hb:Nat.blt b (dP J h0 ns s).nx=true)(aD:Nat.blt a top=true)(Xz:Nat.blt b top=true)(g1:(dP J h0 ns s).h.get a=some (bG m1))(g2:(dP J h0 ns s).h.get b=some (bG m2))(n1:(m1.map (·.1)).Nodup)(n2:(m2.map (·.1)).Nodup):
 bg P sp F (n+1) (.fn g) [.map<|some a,.map<|some b] s= .ok (.tuple []) (fE b (some<|bG m2)<|fE a (some<|bG<|jf m1 m2)<|aY b<|aY a<|dP J h0 ns s):=by
 show ko P sp g (bg P sp F n) [.map<|some a,.map<|some b] s=_;rw[uN h];show((fH J h0 ns).bind fun _=>lP (a≠b) <| (bp a).bind fun o1=>(bp b).bind fun o2=>
  aA (yS o1) fun m1=>aA (yS o2) fun m2=>lP ((m1.map (·.1)).Nodup/\(m2.map (·.1)).Nodup) <|
  (bI a<|some<|bG<|jf m1 m2).bind fun _=>(bI b<|some<|bG m2).bind fun _=>M.pure<|AV.tuple []) s=_
 rw[M.bK<|wY hk,CL GL,M.bK<|me ha g1];generalize dP J h0 ns s=z at*;have gm:Nat.blt b (aY a z).nx=true:=by rw[(fR a z).2.1];exact hb
 have vL:(aY a z).h.get b=some (bG m2):=by rw[(fR a z).1];exact g2
 rw[M.bK<|me gm vL,RV,cf,RV,cf,CL ⟨n1,n2⟩];have ha2:Nat.blt a (aY b<|aY a z).nx=true:=by rw[(fR b _).2.1,(fR a z).2.1];exact ha
 have ga2:(aY b<|aY a z).h.get a=some (bG m1):=by rw[(fR b _).1,(fR a z).1];exact g1
 rw[M.bK<|yH ha2 ga2 rfl aD];have wn:∀(n:Nat) (o:Option ae) (s:AS),(fE n o s).nx=s.nx/\(fE n o s).h=s.h.put n o:=fun n o s=>by unfold fE;cases Nat.blt n s.mark<;>exact⟨rfl,rfl⟩
 have hb3:Nat.blt b (fE a (some<|bG<|jf m1 m2)<|aY b<|aY a z).nx=true:=by rw[(wn _ _ _).1,(fR b _).2.1];exact gm
 have gb3:(fE a (some<|bG<|jf m1 m2)<|aY b<|aY a z).h.get b=some (bG m2):=by rw[(wn _ _ _).2,Tr.dk _ _ _ _ ((blt_eq _ _).mp aD)<|(blt_eq _ _).mp Xz,if_neg<|Ne.symm GL,(fR b _).1];exact vL
 rw[M.bK<|yH hb3 gb3 rfl Xz];rfl
end Go.Rn
namespace Go.Rn
open Go.RowKit
variable {ρ σ:aw} {o':Obj} {m' b a:List<|Int×Int} {N:Nat}
abbrev fS(m:List<|Int×Int):Prop:=(m.map (·.1)).Nodup
def jW:List (Int×Int)->Int->Option Int
 |[],_=>none
 |p::l,k=>if p.1=k then some p.2 else jW l k
theorem ac7(m:List<|Int×Int)(k v j:Int):jW (gA m k v) j=if k=j then some v else jW m j:=by
 induction m with
 |nil=>simp[gA,jW]
 |cons p l ih=>
  unfold gA;by_cases e:p.1=k
  ·rw[if_pos e];by_cases q:k=j
   ·simp[jW,q]
   ·simp[jW,q,e]
  ·rw[if_neg e];by_cases q:p.1=j
   ·have:k≠j:=fun h=>e<|q.trans h.symm;simp[jW,q,this]
   ·simp only[jW,if_neg q];exact ih
theorem abN(m:List<|Int×Int)(k v:Int):∀j,j∈(gA m k v).map (·.1)↔j=k\/j∈m.map (·.1):=by
 intro j;induction m with
 |nil=>simp[gA]
 |cons p l ih=>
  unfold gA;by_cases e:p.1=k
  ·rw[if_pos e];simp only[List.map_cons,List.mem_cons];constructor
   ·rintro (h|h)
    ·exact .inl h
    ·exact .inr<|.inr h
   ·rintro (h|h|h)
    ·exact .inl h
    ·exact .inl<|h.trans e
    ·exact .inr h
  ·rw[if_neg e];simp only[List.map_cons,List.mem_cons];rw[ih];constructor
   ·rintro (h|h|h)
    ·exact .inr<|.inl h
    ·exact .inl h
    ·exact .inr<|.inr h
   ·rintro (h|h|h)
    ·exact .inr<|.inl h
    ·exact .inl h
    ·exact .inr<|.inr h
theorem fS.set{m:List<|Int×Int}(h:fS m)(k v:Int):fS<|gA m k v:=by
 induction m with
 |nil=>simp[fS,gA]
 |cons p l ih=>
  have h:(p.1::l.map (·.1)).Nodup:=h;obtain⟨h1,h2⟩:=List.nodup_cons.1 h;unfold gA;by_cases e:p.1=k
  ·rw[if_pos e];show(k::l.map (·.1)).Nodup;rw[←e];exact h
  ·rw[if_neg e];show(p.1::(gA l k v).map (·.1)).Nodup;refine List.nodup_cons.2 ⟨fun q=>?_,ih h2⟩;rcases(abN l k v p.1).1 q with q|q
   ·exact e q
   ·exact h1 q
theorem AO{m:List<|Int×Int}(h:fS m)(k v:Int):(k,v)∈m↔jW m k=some v:=by
 induction m with
 |nil=>simp[jW]
 |cons p l ih=>
  have h:(p.1::l.map (·.1)).Nodup:=h;obtain⟨h1,h2⟩:=List.nodup_cons.1 h;unfold jW;by_cases e:p.1=k
  ·rw[if_pos e,List.mem_cons];constructor
   ·rintro (q|q)
    ·rw[←q]
    ·exact absurd (List.mem_map.2 ⟨_,q,rfl⟩) (by rw[←e] at*;exact h1)
   ·intro q;injection q with q
    obtain⟨a,b⟩:=p;simp only at e q;rw[e,q];exact .inl rfl
  ·rw[if_neg e,List.mem_cons, ←ih h2];constructor
   ·rintro (q|q)
    ·rw[←q] at e;exact absurd rfl e
    ·exact q
   ·exact .inr
theorem fS.nodup{m:List<|Int×Int}(h:fS m):m.Nodup:=by
 induction m with
 |nil=>exact List.nodup_nil
 |cons p l ih=>have h:(p.1::l.map (·.1)).Nodup:=h;obtain⟨h1,h2⟩:=List.nodup_cons.1 h;exact List.nodup_cons.2 ⟨fun q=>h1<|List.mem_map.2 ⟨_,q,rfl⟩,ih h2⟩
theorem abO(ha:fS a)(hb:fS b)(h:∀k,jW a k=jW b k):a.Perm b:=(List.perm_ext_iff_of_nodup ha.nodup hb.nodup).2 fun⟨k,v⟩=>by rw[AO ha,AO hb,h]
theorem abP(ha:fS a)(h:a.Perm b)(k:Int):jW a k=jW b k:=by
 have hb:fS b:=(h.map (·.1)).nodup_iff.1 ha;cases e:jW a k with
 |some v=>exact((AO hb k v).1<|h.mem_iff.1<|(AO ha k v).2 e).symm
 |none=>
  cases e2:jW b k with
  |none=>rfl
  |some v=>have:=(AO ha k v).1<|h.mem_iff.2<|(AO hb k v).2 e2;rw[e] at this;cases this
theorem fS.merge:∀{s d:List<|Int×Int},fS d->fS (jf d s)
 |[],d,h=>h
 |p::s,d,h=>fS.merge (s:=s)<|h.set p.1 p.2
theorem Mq:∀(s d:List<|Int×Int) (k:Int),fS s->jW (jf d s) k=match jW s k with|some v=>some v|none=>jW d k
 |[],d,k,_=>rfl
 |p::s,d,k,h=>by
  have h:(p.1::s.map (·.1)).Nodup:=h;obtain⟨h1,h2⟩:=List.nodup_cons.1 h;show jW (jf (gA d p.1 p.2) s) k=_;have oc:jW (p::s) k=if p.1=k then some p.2 else jW s k:=rfl
  rw[Mq s _ k h2,ac7,oc];by_cases e:p.1=k
  ·rw[if_pos e,if_pos e];have:jW s k=none:=by
    cases q:jW s k with
    |none=>rfl
    |some v=>exact absurd (List.mem_map.2 ⟨_,(AO h2 k v).2 q,rfl⟩) (by rw[←e];exact h1)
   rw[this]
  ·rw[if_neg e,if_neg e]
theorem ZK{d s s':List<|Int×Int}(hd:fS d)(hs:fS s)(h:s.Perm s'):(jf d s).Perm<|jf d s':=by have El:fS s':=(h.map (·.1)).nodup_iff.1 hs;refine abO hd.merge hd.merge fun k=>?_;rw[Mq s d k hs,Mq s' d k El,abP hs h]
theorem ZL(d s:List<|Int×Int)(p:Int×Int):jf d (s++[p])=gA (jf d s) p.1 p.2:=by unfold jf;rw[List.foldl_append];rfl
theorem Mr:∀{l:List<|Int×Int} {x:AV×AV} {r:List<|AV×AV},(x,r)∈rj (cY l)->∃(p:Int×Int) (l':List<|Int×Int),x=(.int .i64 p.1,.int .i64 p.2)/\r=cY l'/\l.Perm (p::l')
 |[],x,r,h=>by cases h
 |a::l,x,r,h=>by
  have h:(x,r)∈(((AV.int .i64 a.1,AV.int .i64 a.2),cY l)::(rj<|cY l).map fun(y,r)=>(y,(AV.int .i64 a.1,AV.int .i64 a.2)::r)):=h;rcases List.mem_cons.1 h with h|h
  ·injection h with h1 h2
   exact⟨a,l,h1,h2,List.Perm.refl _⟩
  ·obtain⟨⟨y,r'⟩,hm,e⟩:=List.mem_map.1 h;simp only[Prod.mk.injEq] at e;obtain⟨p,l',h1,h2,h3⟩:=Mr hm;refine⟨p,a::l',by rw[←e.1];exact h1,by rw[←e.2,h2];rfl,?_⟩;exact(h3.cons a).trans<|List.Perm.swap p a l'
theorem abQ{m:List<|Int×Int}(h:m.Perm m'):∀{l:List MapEntry},dT ρ (cY m) l->∃l',l.Perm l'/\dT ρ (cY m') l':=by
 induction h with
 |nil=>intro l h;exact⟨l,List.Perm.refl _,h⟩
 |cons x _ ih=>intro l h;have h:dT ρ ((.int .i64 x.1,.int .i64 x.2)::cY _) l:=h;simp only[dT] at h;obtain⟨e,es,rfl,h1,h2,h3⟩:=h;obtain⟨l',q1,q2⟩:=ih h3;exact⟨e::l',q1.cons e,by show dT ρ ((.int .i64 x.1,.int .i64 x.2)::cY _) _;simp only[dT];exact⟨e,l',rfl,h1,h2,q2⟩⟩
 |swap x y l0=>intro l h;have h:dT ρ ((.int .i64 y.1,.int .i64 y.2)::(.int .i64 x.1,.int .i64 x.2)::cY l0) l:=h;simp only[dT] at h;obtain⟨e,es,rfl,h1,h2,e',g9,rfl,h3,h4,h5⟩:=h;exact⟨e'::e::g9,List.Perm.swap _ _ _,by show dT ρ ((.int .i64 x.1,.int .i64 x.2)::(.int .i64 y.1,.int .i64 y.2)::cY l0) _;simp only[dT];exact⟨e',_,rfl,h3,h4,e,g9,rfl,h1,h2,h5⟩⟩
 |trans _ _ ih1 ih2=>intro l h;obtain⟨l1,q1,q2⟩:=ih1 h;obtain⟨l2,q3,q4⟩:=ih2 q2;exact⟨l2,q1.trans q3,q4⟩
theorem aaE{a b:Int}(h:a≠b):sameKey (.int .i64 a) (.int .i64 b)=some false/\sameKey (.int .i64 b) (.int .i64 a)=some false:=by
 rw[Tj,Tj];constructor
 ·rw[show(a == b)=false by simpa using h]
 ·rw[show(b == a)=false by simpa using fun e=>h e.symm]
theorem SH{m:List<|Int×Int}(h:fS m):lp<|cY m:=by
 unfold lp;induction m with
 |nil=>exact .nil
 |cons p l ih=>have h:(p.1::l.map (·.1)).Nodup:=h;obtain⟨h1,h2⟩:=List.nodup_cons.1 h;refine .cons (fun q hq=>?_)<|ih h2;obtain⟨z,hz,rfl⟩:=List.mem_map.1 hq;exact aaE fun e=>h1 (by rw[e];exact List.mem_map.2 ⟨z,hz,rfl⟩)
theorem ZM{m:List<|Int×Int}(hk:fS m')(hp:m.Perm m')(h:OR ρ N (bG m) o'):OR σ N (bG m') o':=by have h:OR σ N (bG m) o':=wA h;obtain⟨l,aO,rfl,h1,h2,l',h3,h4⟩:=h;obtain⟨l2,q1,q2⟩:=abQ hp h4;exact⟨l,aO,rfl,SH hk,h2,l2,h3.trans q1,q2⟩
theorem abR{m:List<|Int×Int}(hk:fS m)(h:OR ρ N (Gf m) o'):OR σ N (bG m) o':=by obtain⟨l,h0,h1,h2⟩:∃l,o'= .map l m.length/\m.length=(cY m).length/\kI ρ (cY m) l.toList 0:=h;subst h0;have hb:=h2.U5;rw[←h1] at hb;have:OR ρ N (bG m)<|.map l m.length:=⟨l,m.length,rfl,SH hk,hb,l.toList,List.Perm.refl _,h2.eqs⟩;exact wA this
end Go.Rn
namespace Go.Rn
open Go.RowKit
variable {t:Tr AV} {s3:AS} {nt n fn:Nat} {v:AV} {aT:AF} {b a:Code}
noncomputable section
def u6(l:Nat)(fr:AF):AF:=⟨fr.fn,fr.tmps,fr.nt,fr.todo,fr.defers,some l⟩
end
section
variable {P:Program} {Ye:aI} {s s1:AS} {l:Nat}
theorem CT{fr:AF}(h:(M.pure (br.go fr):M br) s= .ok (.go aT) s1):aT=fr/\s1=s:=by
 obtain⟨h1,h2⟩:=bD h;injection h1 with h1
 exact⟨h1,h2⟩
theorem abS{fr:AF}(h:jg P Ye fr s= .ok (.go aT) s1):aT.round=fr.round/\(fr.round=none->aT.defers=[]->fr.defers=[]/\jg P Ye (u6 l fr) s= .ok (.go<|u6 l aT) s1):=by
 obtain⟨f,t,nt,K,d,r⟩:=fr;cases K with
 |nil=>have h':(M.pure (br.leave ⟨f,t,nt,[],d,r⟩ none):M br) s= .ok (.go aT) s1:=h;cases(bD h').1
 |cons it k=>
  have h':(uX P it).val Ye f t nt d r k s= .ok (.go aT) s1:=h;have goal:∀(X:oz),(uX P it).val=X->X Ye f t nt d r k s= .ok (.go aT) s1->(aT.round=r/\(r=none->aT.defers=[]->d=[]/\X Ye f t nt d (some l) k s= .ok (.go<|u6 l aT) s1))->aT.round=r/\(r=none->aT.defers=[]->d=[]/\jg P Ye (u6 l ⟨f,t,nt,it::k,d,r⟩) s= .ok (.go<|u6 l aT) s1):=by rintro X hX _ ⟨h1,h2⟩;refine⟨h1,fun a b=>?_⟩;obtain⟨c,e⟩:=h2 a b;refine⟨c,?_⟩;show(uX P it).val Ye f t nt d (some l) k s=_;rw[hX];exact e
  have pop:∀k',(M.pure (br.go ⟨f,t,nt,k',d,r⟩):M br) s= .ok (.go aT) s1->aT.round=r/\(r=none->aT.defers=[]->d=[]/\(M.pure (br.go ⟨f,t,nt,k',d,some l⟩):M br) s= .ok (.go<|u6 l aT) s1):=by intro k' h;obtain⟨rfl,rfl⟩:=CT h;exact⟨rfl,fun _ b=>⟨b,rfl⟩⟩
  cases it with
  |code c=>
   cases c with
   |skip=>exact goal qx rfl h'<|pop _ h'
   |label n=>exact goal qx rfl h'<|pop _ h'
   |seq a b=>exact goal (nz [.code a,.code b]) rfl h'<|pop _ h'
   |cond c a b=>refine goal (JD c a b) rfl h' ?_;obtain⟨v,h1,h2⟩:=bt (show(aA (aG t c) fun v=>aA (wT v) fun v=>M.pure<|br.go ⟨f,t,nt,.code (@Bool.rec (fun _=>Code) b a v)::k,d,r⟩) s=_ from h');obtain⟨v',h3,h4⟩:=bt h2;obtain⟨q1,q2⟩:=pop _ h4;refine⟨q1,fun a' b'=>⟨(q2 a' b').1,?_⟩⟩;show(aA (aG t c) fun v=>aA (wT v) fun v=>M.pure<|br.go ⟨f,t,nt,.code (@Bool.rec (fun _=>Code) b a v)::k,d,some l⟩) s=_;rw[h1,cf,h3,cf];exact(q2 a' b').2
   |block i b=>exact goal (nz [.code b,.inBlock i]) rfl h'<|pop _ h'
   |loop b=>exact goal (nz [.code b,.inLoop b]) rfl h'<|pop _ h'
   |scope b=>exact goal (nz [.code b,.inScope b]) rfl h'<|pop _ h'
   |exit i=>
    refine goal (Dm i) rfl h' ?_;have h2:(match exitTo i k with
     |some k'=>M.pure (br.go ⟨f,t,nt,k',d,r⟩)
     |none=>M.pure<|br.leave ⟨f,t,nt,.code (.exit i)::k,d,r⟩<|some<|.exit i) s= .ok (.go aT) s1:=h'
    cases e:exitTo i k with
    |none=>rw[e] at h2;cases(bD h2).1
    |some k'=>
     rw[e] at h2;obtain⟨q1,q2⟩:=pop _ h2;refine⟨q1,fun a' b'=>⟨(q2 a' b').1,?_⟩⟩;show(match exitTo i k with
      |some k'=>M.pure (br.go ⟨f,t,nt,k',d,some l⟩)
      |none=>M.pure<|br.leave ⟨f,t,nt,.code (.exit i)::k,d,some l⟩<|some<|.exit i) s=_
     rw[e];exact(q2 a' b').2
   |goto i=>
    refine goal (Dn i) rfl h' ?_;have h2:(match gotoIn i k with
     |some k'=>M.pure (br.go ⟨f,t,nt,k',d,r⟩)
     |none=>M.pure<|br.leave ⟨f,t,nt,.code (.goto i)::k,d,r⟩<|some<|.goto i) s= .ok (.go aT) s1:=h'
    cases e:gotoIn i k with
    |none=>rw[e] at h2;cases(bD h2).1
    |some k'=>
     rw[e] at h2;obtain⟨q1,q2⟩:=pop _ h2;refine⟨q1,fun a' b'=>⟨(q2 a' b').1,?_⟩⟩;show(match gotoIn i k with
      |some k'=>M.pure (br.go ⟨f,t,nt,k',d,some l⟩)
      |none=>M.pure<|br.leave ⟨f,t,nt,.code (.goto i)::k,d,some l⟩<|some<|.goto i) s=_
     rw[e];exact(q2 a' b').2
   |ret=>cases(bD (show(M.pure (br.leave ⟨f,t,nt,.code .ret::k,d,r⟩<|some .ret):M br) s= .ok (.go aT) s1 from h')).1
   |region i ops dr=>
    cases dr with
    |false=>refine goal (Ip P ops) rfl h' ?_;obtain⟨t1,s2,h2,h3⟩:=M.aP (show((jl P Ye nt ops ops.toList t).bind fun t=>M.pure<|br.go ⟨f,t,nt,k,d,r⟩) s= .ok (.go aT) s1 from h');obtain⟨rfl,rfl⟩:=CT h3;refine⟨rfl,fun a' b'=>⟨b',?_⟩⟩;show((jl P Ye nt ops ops.toList t).bind fun t=>M.pure<|br.go ⟨f,t,nt,k,d,some l⟩) s=_;rw[M.bK h2];rfl
    |true=>refine goal (HU P ops) rfl h' ?_;obtain⟨t1,s2,h2,h3⟩:=M.aP (show((pW P Ye nt ops t).bind fun t=>M.pure<|br.go ⟨f,t,nt,k,d,r⟩) s= .ok (.go aT) s1 from h');obtain⟨rfl,rfl⟩:=CT h3;refine⟨rfl,fun a' b'=>⟨b',?_⟩⟩;show((pW P Ye nt ops t).bind fun t=>M.pure<|br.go ⟨f,t,nt,k,d,some l⟩) s=_;rw[M.bK h2];rfl
   |rangeFunc g ps a b=>
    have h2:uJ g ps.toList a b Ye f t nt d r k s= .ok (.go aT) s1:=h';unfold uJ at h2;cases r with
    |none=>obtain⟨df,s2,_,h3⟩:=M.aP h2;obtain⟨lo,s3,_,h3⟩:=M.aP h3;obtain⟨gv,_,h3⟩:=bt h3;obtain⟨y,s4,_,h3⟩:=M.aP h3;obtain⟨p,s5,_,h3⟩:=M.aP h3;obtain⟨rfl,rfl⟩:=CT h3;exact⟨rfl,fun _ b'=>by cases b'⟩
    |some l0=>
     obtain⟨o,s2,_,h3⟩:=M.aP h2;split at h3
     ·obtain⟨lo,s3,_,h3⟩:=M.aP h3;obtain⟨gv,_,h3⟩:=bt h3;obtain⟨y,s4,_,h3⟩:=M.aP h3;obtain⟨p,s5,_,h3⟩:=M.aP h3;obtain⟨rfl,rfl⟩:=CT h3;exact⟨rfl,fun a' _=>by cases a'⟩
     ·cases h3
   |refuse m=>cases h'
  |inBlock i=>exact goal qx rfl h'<|pop _ h'
  |inScope i=>exact goal qx rfl h'<|pop _ h'
  |inLoop b=>exact goal (nz [.code b,.inLoop b]) rfl h'<|pop _ h'
  |beginRound=>
   have h2:yP Ye f t nt d r k s= .ok (.go aT) s1:=h';unfold yP at h2;cases r with
   |none=>cases h2
   |some l0=>
    obtain⟨o,s2,_,h3⟩:=M.aP h2;split at h3
    ·obtain⟨_,s3,_,h4⟩:=M.aP h3;obtain⟨rfl,rfl⟩:=CT h4;exact⟨rfl,fun a' _=>by cases a'⟩
    ·cases h3
  |_=>cases h'
theorem RX:∀{k:Nat} {fr aT:AF} {s s1:AS},dW P Ye k fr s= .ok (.go aT) s1->aT.round=fr.round/\(fr.round=none->aT.defers=[]->fr.defers=[]/\dW P Ye k (u6 l fr) s= .ok (.go<|u6 l aT) s1)
 |0,fr,aT,s,s1,h=>by cases h;exact⟨rfl,fun _ b=>⟨b,rfl⟩⟩
 |k+1,fr,aT,s,s1,h=>by
  obtain⟨y,s2,h1,h2⟩:=M.aP (show((jg P Ye fr).bind fun x=> @br.rec (fun _=>M br) (dW P Ye k) (fun fr j=>M.pure<|br.leave fr j) x) s= .ok _ s1 from h);cases y with
  |leave nW j=>cases(bD (show(M.pure (br.leave nW j):M br) s2=_ from h2)).1
  |go nW=>have h2:dW P Ye k nW s2= .ok (.go aT) s1:=h2;obtain⟨a1,a2⟩:=RX h2;obtain⟨b1,b2⟩:=abS (l:=l) h1;refine⟨a1.trans b1,fun q1 q2=>?_⟩;obtain⟨c1,c2⟩:=a2 (b1.trans q1) q2;obtain⟨d1,d2⟩:=b2 q1 c1;exact⟨d1,(AL d2).trans c2⟩
def Ja(P:Program)(Ye:aI)(l:Nat)(R:AF->Option Code->AS->Prop)(fr:AF)(s:AS):Prop:=fr.round=none/\fr.defers=[]/\Ev P Ye R (u6 l fr) s
theorem Chunk.round{R:AF->Option Code->AS->Prop}:Chunk P Ye<|Ja P Ye l R:=by rintro k fr aT s s1 h ⟨h1,h2,h3⟩;obtain⟨a1,a2⟩:=RX (l:=l) h;obtain⟨b1,b2⟩:=a2 (a1.symm.trans h1) h2;exact⟨a1.symm.trans h1,b1,Chunk.ev k _ _ _ _ b2 h3⟩
end
section
variable {l:Nat}
theorem CM{E:Env}(hE:E.Ok)(uj:E.fg=false){f:Nat}{K:List Item}{s:AS}{R:AF->Option Code->AS->Prop}{C:zx}(hC:∀fr s p,C fr s p->Ja E.P (bg E.P E.sp E.F n) l R fr s)(fuel:Nat)(p:Pl){T:Prop}(x:T)(h:T=wp E fuel n (.fr f nt K t s) p [] (fun _ _ _=>False) C:=by as_aux_lemma=>kernel_rfl):Ev E.P (bg E.P E.sp E.F n) R ⟨f,t,nt,K,[],some l⟩ s:=(CJ hE fuel n (.fr f nt K t s) p [] (fun _ _ _=>False) C (Ja E.P (bg E.P E.sp E.F n) l R) Chunk.round (fun fr s j aT jm s1 v s2 p q1 q2 q3=>q3.elim) hC (fun _ _ _ _ _ _ _ _ _ q=>by rw[uj] at q;cases q) (fun _ _ _ _ _ _ _ _ _ _ _ q=>by rw[uj] at q;cases q) (fun _ _ _ _ _ _ _ _ _ q=>by rw[uj] at q;cases q)<|h▸x).2.2
noncomputable section
def AP(P:Program)(Ye:aI)(l:Nat)(fr:AF)(s:AS):Option<|AV×AS:=
 match dW P Ye 4 (u6 l fr) s with
 | .ok (.leave _ j) s1=>(match endRound l j s1 with
  | .ok v s2=>some (v,s2)
  | .bad=>none)
 |_=>none
end
theorem EJ{P:Program}{Ye:aI}{fr:AF}{s:AS}(h1:fr.round=none)(h2:fr.defers=[])(h:AP P Ye l fr s=some (v,s3)):Ja P Ye l (fun _ j s2=>endRound l j s2= .ok v s3) fr s:=by
 refine⟨h1,h2,?_⟩;unfold AP at h;split at h
 ·rename_i aT j s1 e;split at h
  ·rename_i v2 s2 e2;injection h with h;injection h with h3 h4
   subst h3;subst h4;exact⟨4,aT,j,s1,e,e2⟩
  ·cases h
 ·cases h
theorem EK{P:Program}{sp:Sp}{F:Nat->Option (List AV)}{args:List AV}{s s0:AS}{st:LoopState}{bL:Option Code}{d:Nat}{ps:List Tmp}(hg:getLoop l s= .ok (.loop st bL fn t nt ps a b d) s0)(hlen:(and (Nat.beq args.length ps.length)<|ps.all fun p=>Nat.blt p nt)=true)(H:Ev P (bg P sp F n) (fun _ j s2=>endRound l j s2= .ok v s3) ⟨fn,jB ps args t,nt,[.code a,.beginRound,.code b],[],some l⟩ s0):bg P sp F (n+1) (.round l) args s= .ok v s3:=by obtain⟨k,aT,j,s2,h1,h2⟩:=H;show wv P (bg P sp F n) l args s=_;unfold wv;rw[M.bK hg];show(aF (and (Nat.beq args.length ps.length)<|ps.all fun p=>Nat.blt p nt) <| (o6 P (bg P sp F n) ⟨fn,jB ps args t,nt,[.code a,.beginRound,.code b],[],some l⟩).bind fun st=> @br.rec (fun _=>M AV) (fun _=>fail) (fun _ j=>endRound l j) st) s0=_;rw[hlen,dB,M.bK<|HL h1];exact h2
theorem H8{P:Program}{Ye:aI}{s s1 s2 s4:AS}{df lo:Nat}{k:List Item}{f:Operand}{ps:Array Tmp}{gv y:AV}{p:Option Code}(h1:fh .defs s= .ok df s1)(h2:fh (.loop .ready none fn t nt ps.toList a b df) s1= .ok lo s2)(h3:aG t f=some gv)(h4:mX Ye gv [.yield lo] s2= .ok y s3)(h5:lN lo s3= .ok p s4):
 dW P Ye 1 ⟨fn,t,nt,.code (.rangeFunc f ps a b)::k,[],none⟩ s= .ok (.go ⟨fn,t,nt,andThen p k,[df],none⟩) s4:=by
 refine AL ?_;show uJ f ps.toList a b Ye fn t nt [] none k s=_;unfold uJ;simp only;rw[M.bK h1,M.bK h2,h3,cf,M.bK h4,M.bK h5];rfl
end
end Go.Rn
namespace Go.Rn
open Go.RowKit
variable {J k:Nat} {B:aJ} {v:AV} {rs:List ResultVar} {aT:AF} {Q:Tr AV->List Nat->Option Code->AS->Prop}
noncomputable section
def vh(l:Nat)(fr:AF):AF:=⟨fr.fn,fr.tmps,fr.nt,fr.todo,[l],fr.round⟩
end
section
variable {P:Program} {Ye:aI} {s s1:AS} {l:Nat}
theorem CN{fr:AF}(h:(M.pure (br.go fr):M br) s= .ok (.go aT) s1):aT=fr/\s1=s:=by
 obtain⟨h1,h2⟩:=bD h;injection h1 with h1
 exact⟨h1,h2⟩
theorem ZV{fr:AF}(h:jg P Ye fr s= .ok (.go aT) s1):aT.round=fr.round/\(fr.round=none->aT.defers=[]->fr.defers=[]/\jg P Ye (vh l fr) s= .ok (.go<|vh l aT) s1):=by
 obtain⟨f,t,nt,K,d,r⟩:=fr;cases K with
 |nil=>have h':(M.pure (br.leave ⟨f,t,nt,[],d,r⟩ none):M br) s= .ok (.go aT) s1:=h;cases(bD h').1
 |cons it k=>
  have h':(uX P it).val Ye f t nt d r k s= .ok (.go aT) s1:=h;have goal:∀(X:oz),(uX P it).val=X->X Ye f t nt d r k s= .ok (.go aT) s1->(aT.round=r/\(r=none->aT.defers=[]->d=[]/\X Ye f t nt [l] r k s= .ok (.go<|vh l aT) s1))->aT.round=r/\(r=none->aT.defers=[]->d=[]/\jg P Ye (vh l ⟨f,t,nt,it::k,d,r⟩) s= .ok (.go<|vh l aT) s1):=by rintro X hX _ ⟨h1,h2⟩;refine⟨h1,fun a b=>?_⟩;obtain⟨c,e⟩:=h2 a b;refine⟨c,?_⟩;show(uX P it).val Ye f t nt [l] r k s=_;rw[hX];exact e
  have pop:∀k',(M.pure (br.go ⟨f,t,nt,k',d,r⟩):M br) s= .ok (.go aT) s1->aT.round=r/\(r=none->aT.defers=[]->d=[]/\(M.pure (br.go ⟨f,t,nt,k',[l],r⟩):M br) s= .ok (.go<|vh l aT) s1):=by intro k' h;obtain⟨rfl,rfl⟩:=CN h;exact⟨rfl,fun _ b=>⟨b,rfl⟩⟩
  cases it with
  |code c=>
   cases c with
   |skip=>exact goal qx rfl h'<|pop _ h'
   |label n=>exact goal qx rfl h'<|pop _ h'
   |seq a b=>exact goal (nz [.code a,.code b]) rfl h'<|pop _ h'
   |cond c a b=>refine goal (JD c a b) rfl h' ?_;obtain⟨v,h1,h2⟩:=bt (show(aA (aG t c) fun v=>aA (wT v) fun v=>M.pure<|br.go ⟨f,t,nt,.code (@Bool.rec (fun _=>Code) b a v)::k,d,r⟩) s=_ from h');obtain⟨v',h3,h4⟩:=bt h2;obtain⟨q1,q2⟩:=pop _ h4;refine⟨q1,fun a' b'=>⟨(q2 a' b').1,?_⟩⟩;show(aA (aG t c) fun v=>aA (wT v) fun v=>M.pure<|br.go ⟨f,t,nt,.code (@Bool.rec (fun _=>Code) b a v)::k,[l],r⟩) s=_;rw[h1,cf,h3,cf];exact(q2 a' b').2
   |block i b=>exact goal (nz [.code b,.inBlock i]) rfl h'<|pop _ h'
   |loop b=>exact goal (nz [.code b,.inLoop b]) rfl h'<|pop _ h'
   |scope b=>exact goal (nz [.code b,.inScope b]) rfl h'<|pop _ h'
   |exit i=>
    refine goal (Dm i) rfl h' ?_;have h2:(match exitTo i k with
     |some k'=>M.pure (br.go ⟨f,t,nt,k',d,r⟩)
     |none=>M.pure<|br.leave ⟨f,t,nt,.code (.exit i)::k,d,r⟩<|some<|.exit i) s= .ok (.go aT) s1:=h'
    cases e:exitTo i k with
    |none=>rw[e] at h2;cases(bD h2).1
    |some k'=>
     rw[e] at h2;obtain⟨q1,q2⟩:=pop _ h2;refine⟨q1,fun a' b'=>⟨(q2 a' b').1,?_⟩⟩;show(match exitTo i k with
      |some k'=>M.pure (br.go ⟨f,t,nt,k',[l],r⟩)
      |none=>M.pure<|br.leave ⟨f,t,nt,.code (.exit i)::k,[l],r⟩<|some<|.exit i) s=_
     rw[e];exact(q2 a' b').2
   |goto i=>
    refine goal (Dn i) rfl h' ?_;have h2:(match gotoIn i k with
     |some k'=>M.pure (br.go ⟨f,t,nt,k',d,r⟩)
     |none=>M.pure<|br.leave ⟨f,t,nt,.code (.goto i)::k,d,r⟩<|some<|.goto i) s= .ok (.go aT) s1:=h'
    cases e:gotoIn i k with
    |none=>rw[e] at h2;cases(bD h2).1
    |some k'=>
     rw[e] at h2;obtain⟨q1,q2⟩:=pop _ h2;refine⟨q1,fun a' b'=>⟨(q2 a' b').1,?_⟩⟩;show(match gotoIn i k with
      |some k'=>M.pure (br.go ⟨f,t,nt,k',[l],r⟩)
      |none=>M.pure<|br.leave ⟨f,t,nt,.code (.goto i)::k,[l],r⟩<|some<|.goto i) s=_
     rw[e];exact(q2 a' b').2
   |ret=>cases(bD (show(M.pure (br.leave ⟨f,t,nt,.code .ret::k,d,r⟩<|some .ret):M br) s= .ok (.go aT) s1 from h')).1
   |region i ops dr=>
    cases dr with
    |false=>refine goal (Ip P ops) rfl h' ?_;obtain⟨t1,s2,h2,h3⟩:=M.aP (show((jl P Ye nt ops ops.toList t).bind fun t=>M.pure<|br.go ⟨f,t,nt,k,d,r⟩) s= .ok (.go aT) s1 from h');obtain⟨rfl,rfl⟩:=CN h3;refine⟨rfl,fun a' b'=>⟨b',?_⟩⟩;show((jl P Ye nt ops ops.toList t).bind fun t=>M.pure<|br.go ⟨f,t,nt,k,[l],r⟩) s=_;rw[M.bK h2];rfl
    |true=>refine goal (HU P ops) rfl h' ?_;obtain⟨t1,s2,h2,h3⟩:=M.aP (show((pW P Ye nt ops t).bind fun t=>M.pure<|br.go ⟨f,t,nt,k,d,r⟩) s= .ok (.go aT) s1 from h');obtain⟨rfl,rfl⟩:=CN h3;refine⟨rfl,fun a' b'=>⟨b',?_⟩⟩;show((pW P Ye nt ops t).bind fun t=>M.pure<|br.go ⟨f,t,nt,k,[l],r⟩) s=_;rw[M.bK h2];rfl
   |rangeFunc g ps a b=>
    have h2:uJ g ps.toList a b Ye f t nt d r k s= .ok (.go aT) s1:=h';unfold uJ at h2;cases r with
    |none=>obtain⟨df,s2,_,h3⟩:=M.aP h2;obtain⟨lo,s3,_,h3⟩:=M.aP h3;obtain⟨gv,_,h3⟩:=bt h3;obtain⟨y,s4,_,h3⟩:=M.aP h3;obtain⟨p,s5,_,h3⟩:=M.aP h3;obtain⟨rfl,rfl⟩:=CN h3;exact⟨rfl,fun _ b'=>by cases b'⟩
    |some l0=>
     obtain⟨o,s2,_,h3⟩:=M.aP h2;split at h3
     ·obtain⟨lo,s3,_,h3⟩:=M.aP h3;obtain⟨gv,_,h3⟩:=bt h3;obtain⟨y,s4,_,h3⟩:=M.aP h3;obtain⟨p,s5,_,h3⟩:=M.aP h3;obtain⟨rfl,rfl⟩:=CN h3;exact⟨rfl,fun a' _=>by cases a'⟩
     ·cases h3
   |refuse m=>cases h'
  |inBlock i=>exact goal qx rfl h'<|pop _ h'
  |inScope i=>exact goal qx rfl h'<|pop _ h'
  |inLoop b=>exact goal (nz [.code b,.inLoop b]) rfl h'<|pop _ h'
  |beginRound=>
   have h2:yP Ye f t nt d r k s= .ok (.go aT) s1:=h';unfold yP at h2;cases r with
   |none=>cases h2
   |some l0=>
    obtain⟨o,s2,_,h3⟩:=M.aP h2;split at h3
    ·obtain⟨_,s3,_,h4⟩:=M.aP h3;obtain⟨rfl,rfl⟩:=CN h4;exact⟨rfl,fun a' _=>by cases a'⟩
    ·cases h3
  |_=>cases h'
theorem SQ:∀{k:Nat} {fr aT:AF} {s s1:AS},dW P Ye k fr s= .ok (.go aT) s1->aT.round=fr.round/\(fr.round=none->aT.defers=[]->fr.defers=[]/\dW P Ye k (vh l fr) s= .ok (.go<|vh l aT) s1)
 |0,fr,aT,s,s1,h=>by cases h;exact⟨rfl,fun _ b=>⟨b,rfl⟩⟩
 |k+1,fr,aT,s,s1,h=>by
  obtain⟨y,s2,h1,h2⟩:=M.aP (show((jg P Ye fr).bind fun x=> @br.rec (fun _=>M br) (dW P Ye k) (fun fr j=>M.pure<|br.leave fr j) x) s= .ok _ s1 from h);cases y with
  |leave nW j=>cases(bD (show(M.pure (br.leave nW j):M br) s2=_ from h2)).1
  |go nW=>have h2:dW P Ye k nW s2= .ok (.go aT) s1:=h2;obtain⟨a1,a2⟩:=SQ h2;obtain⟨b1,b2⟩:=ZV (l:=l) h1;refine⟨a1.trans b1,fun q1 q2=>?_⟩;obtain⟨c1,c2⟩:=a2 (b1.trans q1) q2;obtain⟨d1,d2⟩:=b2 q1 c1;exact⟨d1,(AL d2).trans c2⟩
def GD(P:Program)(Ye:aI)(B:aJ)(J:Nat)(Q:Tr AV->List Nat->Option Code->AS->Prop)(l:Nat)(fr:AF)(s:AS):Prop:=fr.round=none/\fr.defers=[]/\zw P B J Q (vh l fr) s
theorem Chunk.defs(bV:P.follows .mixedOrders=true)(hc:fQ P B Ye)(hl:∀t a,Yd<|Ye t a):Chunk P Ye<|GD P Ye B J Q l:=by rintro k fr aT s s1 h ⟨h1,h2,h3⟩;obtain⟨a1,a2⟩:=SQ (l:=l) h;obtain⟨b1,b2⟩:=a2 (a1.symm.trans h1) h2;exact⟨a1.symm.trans h1,b1,Chunk.Ei bV hc hl k _ _ _ _ b2 h3⟩
noncomputable section
def Gu(P:Program)(Ye:aI)(rs:List ResultVar)(k l:Nat)(fr:AF)(s:AS):Option<|AV×AS:=
 match dW P Ye k (vh l fr) s with
 | .ok (.leave aT j) s1=>(match finish P rs aT j s1 with
  | .ok v s2=>some (v,s2)
  | .bad=>none)
 |_=>none
end
theorem M9{fr:AF}{R:AV->AS->Prop}{s2:AS}(bV:P.follows .mixedOrders=true)(hc:fQ P B Ye)(hl:∀t a,Yd<|Ye t a)(h1:fr.round=none)(h2:fr.defers=[])(h:Gu P Ye rs k l fr s=some (v,s2))(hR:R v s2):GD P Ye B J (Fin P rs R) l fr s:=by
 refine⟨h1,h2,fun h0=>?_⟩;unfold Gu at h;split at h
 ·rename_i aT j s1 e;split at h
  ·rename_i v2 s3 e2;injection h with h;injection h with h3 h4
   subst h3;subst h4;exact au.leave bV hc hl e h0 ⟨v2,s3,by rw[←ET];exact e2,hR⟩
  ·cases h
 ·cases h
end
noncomputable section
def OY(P:Program)(Ye:aI)(rs:List ResultVar)(k l:Nat)(fr:AF)(s:AS):Option AV:=match Gu P Ye rs k l fr s with
 |some (v,_)=>some v
 |none=>none
end
theorem My{P:Program}{Ye:aI}{l:Nat}{s:AS}{fr:AF}(bV:P.follows .mixedOrders=true)(hc:fQ P B Ye)(hl:∀t a,Yd<|Ye t a)(h1:fr.round=none)(h2:fr.defers=[])(h:OY P Ye rs k l fr s=some v):GD P Ye B J (Fin P rs fun y _=>y=v) l fr s:=by
 unfold OY at h;split at h
 ·rename_i v2 s2 e;injection h with h;subst h
  exact M9 bV hc hl h1 h2 e rfl
 ·cases h
theorem adv{E:Env}(hE:E.Ok){n f nt l:Nat}{t:Tr AV}{K:List Item}{s:AS}{C:zx}(uj:E.fg=false)(bV:E.P.follows .mixedOrders=true)(hc:fQ E.P B<|bg E.P E.sp E.F n)(hl:∀t a,Yd<|bg E.P E.sp E.F n t a)(hC:∀fr s p,C fr s p->GD E.P (bg E.P E.sp E.F n) B J Q l fr s)(h0:J<=s.nx)(fuel:Nat)(p:Pl){T:Prop}(x:T)(h:T=wp E fuel n (.fr f nt K t s) p [] (fun _ _ _=>False) C:=by as_aux_lemma=>kernel_rfl):au E.P B J Q ⟨f,t,nt,K,[l],none⟩ s:=(CJ hE fuel n (.fr f nt K t s) p [] (fun _ _ _=>False) C (GD E.P (bg E.P E.sp E.F n) B J Q l) (Chunk.defs bV hc hl) (fun fr s j aT jm s1 v s2 p q1 q2 q3=>q3.elim) hC (fun _ _ _ _ _ _ _ _ _ q=>by rw[uj] at q;cases q) (fun _ _ _ _ _ _ _ _ _ _ _ q=>by rw[uj] at q;cases q) (fun _ _ _ _ _ _ _ _ _ q=>by rw[uj] at q;cases q)<|h▸x).2.2 h0
end Go.Rn
namespace Go.Rn
open Go.RowKit
theorem VR.IC{ρ:aw}{n o:Nat}{v:Value}(ht:top<=n)(h:VR ρ (.U n o 0) v):VR ρ (.U top 0 0) v\/VR ρ (.U (top+1) 0 0) v:=by
 simp only[VR] at h ⊢;rcases h with⟨_,_,a,c,rfl,hz⟩|⟨b,sh,c,_,rfl,_⟩
 ·cases a with
  |none=>exact .inl<|.inl ⟨Nat.le_refl _,trivial,none,c,rfl,hz.1,(fun _=>rfl),fun e=>by omega⟩
  |some a=>exact .inr<|.inl ⟨by omega,trivial,some a,c,rfl,(fun e=>by cases e),(fun e=>by omega),fun _ e=>by cases e⟩
 ·exact .inr<|.inl ⟨by omega,trivial,_,c,rfl,(fun e=>by cases e),(fun e=>by omega),fun _ e=>by cases e⟩
theorem au.IC{P:Program}{B:aJ}{J:Nat}{Q:Tr AV->List Nat->Option Code->AS->Prop}{f nt:Nat}{t:Tr AV}{K:List Item}{d:List Nat}{r:Option Nat}{s:AS}{i n o:Nat}(hi:t.get i=some (.U n o 0))(ht:top<=n)(pK:i<top)(H1:au P B J Q ⟨f,t.put i<|some<|.U top 0 0,nt,K,d,r⟩ s)(H2:au P B J Q ⟨f,t.put i<|some<|.U (top+1) 0 0,nt,K,d,r⟩ s):au P B J Q ⟨f,t,nt,K,d,r⟩ s:=by
 intro ρ w b a cs bM aD hf;have hv:=aD.tr.2 i _ hi;have ah:∀x,VR ρ x (a.tmps.getD i Go.undef)->At B ρ s nt (t.put i<|some x) w a:=fun x hx=>by
  obtain⟨h1,h2,h3,h4,h5⟩:=aD;refine⟨⟨h1.1,fun j y hy=>?_⟩,h2,h3,h4,h5⟩;rw[Tr.lM _ _ _ _ pK] at hy;by_cases e:j=i
  ·rw[if_pos e] at hy;cases hy;rw[e];exact hx
  ·rw[if_neg e] at hy;exact h1.2 j y hy
 obtain⟨f1,f2,f3,f4,f5⟩:=bM;rcases hv.IC ht with q|q
 ·exact H1 ρ w b a cs ⟨f1,f2,f3,f4,f5⟩ (ah _ q) hf
 ·exact H2 ρ w b a cs ⟨f1,f2,f3,f4,f5⟩ (ah _ q) hf
end Go.Rn
namespace Go.Rn
open Go.RowKit
section
variable {X:TX} {P:Program} {J:Nat} {ns:List Nat} {h0:Tr ae} {L:bY} {g:Nat} {fn:Func} {body:Code}
theorem ab2(hP:bE P)(fX:fN<=J)(dM:J<=top)(dK:∀n o,n<top->h0.get n=some o->n∈ns)(dm:∀n∈ns,n<J){val:List AV->Option AV}(h:eA X J P<|dA J ns h0 L)(cm:P.funcs[g]? =some fn)(cv:fn.body=some body)(dJ:(fn.name == "runtime.NumGoroutine")=false)(eP:∀args v,val args=some v->max fn.ntmps args.length<=top/\∃L',eA X J P (dA J ns h0 L')/\∀B:aJ,qC X P J ns h0 L' B->
 au P B J (Fin P fn.results.toList fun y _=>y=v) ⟨g,eh args,max fn.ntmps args.length,[.code body],[],none⟩ ⟨h0,J,0,[],[]⟩):eA X J P<|dA J ns h0<|(g,.val val)::L:=by
 refine(show eA X J P (pv (dA J ns h0 L) g<|o8 J ns h0 val) from h.mQ (fun Ye _ args=>Yd.o8 _ _ _ _ Ye args) fun B hB hT Ye hc hl args x s s1 ρ w vs fi r hg hf hm hv=>?_);refine Rv hP cm cv dJ fX dM dK dm (fun args v e=>?_) r hg hm hv;obtain⟨q1,L',h',q2⟩:=eP args v e;exact⟨q1,fun B' lH lI=>q2 B'<|rE hP h' (lH.trans hB)<|lI.trans hT⟩
end
end Go.Rn
namespace Go.Rn
open Go.RowKit
variable {s:AS}
section
variable {P:Program} {B:aJ} {J:Nat} {Q:Tr AV->List Nat->Option Code->AS->Prop} {Ye:aI}
theorem au.WG{fr aT:AF}{s1:AS}{ρ:aw}{w:World}{b:Frame}{a:Act}{cs:List Frame}(bM:Fr ρ fr b a)(hf:∀k,s.nx<=k->k<top->ρ k=none)(mT:s.nx<=s1.nx)(h0:J<=s.nx)(hw:nG P B ρ s s1 w fr b cs (lone (b.atR a fr.todo) cs w)<|.go aT)(H:au P B J Q aT s1):
 ∃(jY:AF) (j:Option Code) (s2:AS) (σ:aw) (a2:Act) (w2:World),Q jY.tmps jY.defers j s2/\J<=s2.nx/\(∀k,k<J->k<top->σ k=ρ k)/\(∀k x,top<=k->ρ k=some x->σ k=some x)/\(∀k,s2.nx<=k->k<top->σ k=none)/\At B σ s2 fr.nt jY.tmps w2 a2/\vy σ jY.defers a2.defers/\cH B w w2/\(jY.fn=fr.fn/\jY.nt=fr.nt/\jY.round=fr.round)/\jC jY.todo/\Leaves j jY.todo/\Steps P (lone (b.atR a fr.todo) cs w) (lone (b.atR a2 jY.todo) cs w2):=by
 obtain⟨σ,a1,w1,e1,e2,e3,e4,⟨e5,e6,e7⟩,e8,_,e9⟩:=hw;have B4:aT.fn=fr.fn:=e5;have ja:aT.nt=fr.nt:=e6;have nj:aT.round=fr.round:=e7;obtain⟨jY,j,s2,τ,a2,w2,q0,qn,q1,GW,q2,q3,q4,q5,⟨q6,q7,q8⟩,q9,P6,P7⟩:=H σ w1 b a1 cs ⟨bM.fn.trans B4.symm,bM.kind,by rw[nj];exact bM.round.mono e1.le,e3,e8⟩ (by rw[ja];exact e2) fun k hk ht=>(e1.out k ht aj).trans<|hf k aj ht;exact⟨jY,j,s2,τ,a2,w2,q0,qn,fun k hk gp=>(q1 k hk gp).trans<|e1.out k gp aj,fun k x hk hx=>GW k x hk<|e1.le _ _ hx,q2,by rw[←ja];exact q3,q4,e4.trans q5,⟨q6.trans B4,q7.trans ja,q8.trans nj⟩,q9,P6,Steps.trans e9 P7⟩
theorem au.next(hc:fQ P B Ye)(hl:∀t a,Yd<|Ye t a){fr:AF}{s2:AS}{it:Operand}{o:Oper}{ops:Array Oper}{rest:List Oper}{k:List Item}{n m:Nat}{es:List<|AV×AV}{ex:Bool}{left:List<|AV×AV}{cur:Option<|AV×AV}(e:yz fr=some (it,o,ops,rest,k))(h0:J<=s.nx)(e1:qV fr it s= .ok (n,.iter m es ex left cur) s2)(H0:left=[]->∃aT s3,pX P Ye fr n m es ex o ops rest k s2= .ok aT s3/\au P B J Q aT s3)(H1:∀x r,(x,r)∈rj left->∃aT s3,p9 P Ye fr n (.iter m es ex r<|some x) o ops rest k (.tuple [.bool true,x.1,x.2]) s2= .ok aT s3/\au P B J Q aT s3):au P B J Q fr s:=by
 intro ρ w b a cs bM aD hf;obtain⟨id,rk,nH,KJ,ho⟩:=YL e;obtain⟨h1,h2⟩:=Y8 e1;obtain⟨hx,hg,hh,cM⟩:=fY h2;have eF:bx s2:=(Yd.bp n).cJ aD.cJ h2;have ht:n<top:=Nat.lt_of_lt_of_le hx aD.cJ.nx;have hd:∀c,o.op≠ .defer c:=fun c q=>by rw[ho] at q;cases q
 obtain⟨pI,fC,u⟩:=aD.rel.iter n m es ex left cur ht hg;obtain⟨bn,N,hn,tE⟩:=u.next (P:=P) o.type;have XG:VR ρ (.ptr<|some (n,0))<|a.eval it:=Fl aD.tr aD.g h1;have KD:a.eval it= .pointer (some ⟨bn,0,none⟩):=by simp only[VR] at XG;obtain⟨b',N',q1,q2⟩:=XG;rw[hn] at q1;cases q1;exact q2
 have VU:∀v w',(Instr.next (.pointer<|some ⟨bn,0,none⟩) false o.type).run P w= .ok v w'->(execOp a.eval o).run P w= .ok (.value v) w':=by intro v w' q;simp only[execOp,ho,KD,Sem.run_bind,q,Result.andThen_ok,Sem.run_pure]
 obtain⟨_,_,_,hB⟩:=aD.rel.block ht hg hn;have free:∀{a b:Nat},s.nx<=a->dE a b ρ:=fun ha k h1 _ h3=>hf k aj h3;rcases tE with⟨J3,xG⟩|⟨x,r,v1,v2,w',iK,KS,vP,xG,XH,aiI,hun⟩
 ·obtain⟨aT,s3,e3,HS⟩:=H0 J3;have lG:=(Yd.pX P hl fr n m es ex o ops rest k).cJ eF e3;have GV:=(Yd.pX P hl fr n m es ex o ops rest k).le eF e3;refine au.WG bM hf aj h0 ?_ HS;unfold pX at e3;obtain⟨u1,s4,i1,i2⟩:=M.aP e3;obtain⟨u2,s5,i3,i4⟩:=M.aP i2;obtain⟨t1,s6,i5,i6⟩:=M.aP i4;obtain⟨t2,s7,i7,i8⟩:=M.aP i6;obtain⟨rfl,rfl⟩:=bD i8;obtain⟨i9,rfl⟩:=hI i5;obtain⟨_,_,_,j1,j2⟩:=kx i1;obtain⟨_,_,_,j3,j4⟩:=kx i3;have Ql:bx s6:=(Yd.bI m _).cJ ((Yd.bI n _).cJ eF i1) i3;have lZ:s.h.get n=some (.iter m es ex [] cur):=by rw[hg,J3]
  have PD:Rel B ρ s6.h w:=by rw[j3,j1,hh];exact aD.rel.ahW ht lZ
  have Qm:VR ρ (.tuple [.bool false])<|.tuple #[.bool false]:=by simp only[VR,ay];exact⟨_,rfl,_,_,rfl,rfl,rfl⟩
  obtain⟨q1,q2⟩:=HX (a:=a) aD.tr aD.nt i9 Qm;exact Rt hc hl bM rk nH KJ hd (VU _ _ xG) (cH.refl _ _) ⟨q1,PD,aD.g,aD.nt,Ql⟩ (by rw[j4,j2,cM]) (free (by rw[j4,j2,cM];exact Nat.le_refl _)) i7
 ·obtain⟨aT,s3,e3,HS⟩:=H1 x r iK;have lG:=(Yd.p9 P hl fr n (.iter m es ex r<|some x) o ops rest k<|.tuple [.bool true,x.1,x.2]).cJ eF e3;have GV:=(Yd.p9 P hl fr n (.iter m es ex r<|some x) o ops rest k<|.tuple [.bool true,x.1,x.2]).le eF e3;refine au.WG bM hf aj h0 ?_ HS;unfold p9 at e3;obtain⟨u1,s4,i1,i2⟩:=M.aP e3;obtain⟨t1,s6,i5,i6⟩:=M.aP i2;obtain⟨t2,s7,i7,i8⟩:=M.aP i6;obtain⟨rfl,rfl⟩:=bD i8;obtain⟨i9,rfl⟩:=hI i5;obtain⟨_,_,_,j1,j2⟩:=kx i1;have Ql:bx s6:=(Yd.bI n _).cJ eF i1;have PD:Rel B ρ s6.h w':=by rw[j1,hh];exact aD.rel.aew ht hg hn XH aiI hun
  have Qm:VR ρ (.tuple [.bool true,x.1,x.2])<|.tuple #[.bool true,v1,v2]:=by simp only[VR,ay];exact⟨_,rfl,_,_,rfl,rfl,_,_,rfl,KS,_,_,rfl,vP,rfl⟩
  obtain⟨q1,q2⟩:=HX (a:=a) aD.tr aD.nt i9 Qm;exact Rt hc hl bM rk nH KJ hd (VU _ _ xG) (XH.below<|hB rfl) ⟨q1,PD,aD.g,aD.nt,Ql⟩ (by rw[j2,cM]) (free (by rw[j2,cM];exact Nat.le_refl _)) i7
end
end Go.Rn
namespace Go.Rn
open Go.RowKit
variable {ρ σ:aw} {off:Nat} {cs:List AV} {x:AV} {w:World} {s:AS} {B:aJ}
def AV.xp(x:AV):Bool:=match x with
 | .agg l=>l.all AV.flat
 | .tuple l=>l.all AV.flat
 |x=>x.flat
theorem ay.flat:∀{l:List AV} {vs:List Value},l.all AV.flat=true->ay ρ l vs->ay σ l vs
 |[],_,_,hv=>by simpa only[ay] using hv
 |y::l,vs,hy,hv=>by obtain⟨h1,h2⟩:=and_true.1 (show(y.flat&&l.all AV.flat)=true from hy);simp only[ay] at hv ⊢;obtain⟨a,as,e,h3,h4⟩:=hv;exact⟨a,as,e,VR.flat h1 h3,ay.flat h2 h4⟩
theorem VR.xp{v:Value}(h:x.xp=true)(k:VR ρ x v):VR σ x v:=by
 unfold AV.xp at h;split at h
 ·simp only[VR] at k ⊢;obtain⟨a,e,q⟩:=k;exact⟨a,e,ay.flat h q⟩
 ·simp only[VR] at k ⊢;obtain⟨a,e,q⟩:=k;exact⟨a,e,ay.flat h q⟩
 ·exact VR.flat h k
theorem ab3{fq:aw}{h h0:Tr ae}{j b:Nat}{c:Array Value}{e:TypeId}{fr:Nat×Nat}(R0:Rel (rp B ρ w) fq h0 w)(Gx:∀n o,n<top->h0.get n=some o->o.mK=true)(jh:fq (hn j b off)=none)(hF:B.F j=some cs)(hb:w.heap[b]? =some (.cells c e fr))(ue:∀i x,cs[i]? =some x->∃v,c[off+i]? =some v/\VR (gj fq) x v/\x.cj=true)(hold:∀k,ρ k≠none->eN fq (hn j b off) (b,0) k≠none):
 Rel (rp B (eN fq (hn j b off) (b,0)) w) (eN fq (hn j b off) (b,0)) h0 w:=by
 have hl:fq.le<|eN fq (hn j b off) (b,0):=oj jh;have cR:∀k,k<top->eN fq (hn j b off) (b,0) k=fq k:=fun k hk=>gJ _ _ (by have:=fZ j b off;omega);have XK:∀x,jX (eN fq (hn j b off) (b,0)) h0 x:=fun x m o N hm hg hr=>by rw[ae.j9<|Gx m o hm hg] at hr;cases hr
 refine⟨fun n o fu ho=>?_,fun n m o p b1 N M fu hm h1 h2 cS e1 e2=>?_,fun n m es ex left cur fu ho=>?_,R0.size,R0.lone,fun n x sh q=>?_,?_⟩
 ·obtain⟨b1,N,o',i1,i2,i3,i4⟩:=R0.is n o fu ho;exact⟨b1,N,o',hl _ _ i1,i2,i3.mono hl,i4⟩
 ·rw[cR n fu] at e1;rw[cR m hm] at e2;exact R0.one n m o p b1 N M fu hm h1 h2 cS e1 e2
 ·have:=Gx n _ fu ho;cases this
 ·by_cases z:hn n x sh=hn j b off
  ·obtain⟨rfl,rfl,rfl⟩:=IX z;refine⟨.inl q,cs,c,e,fr,hF,hb,XK _,fun i y hy=>?_⟩;obtain⟨v,k1,k2,k3⟩:=ue i y hy;exact⟨v,k1,VR.mono (E3 hl) _ _ k2,k3⟩
  ·have q':fq (hn n x sh)≠none:=by rw[gJ _ _ z] at q;exact q
   obtain⟨_,l,c1,e1,aT,g1,g2,_,g4⟩:=R0.fz n x sh q';refine⟨.inl q,l,c1,e1,aT,g1,g2,XK _,fun i y hy=>?_⟩;obtain⟨v,k1,k2,k3⟩:=g4 i y hy;exact⟨v,k1,VR.mono (E3 hl) _ _ k2,k3⟩
 ·refine tV.no (fun n k v fu hg=>by have:=Gx n _ fu hg;cases this) ⟨R0.tk.1.1,fun m o hm hg hf=>?_⟩;obtain⟨b1,N,e1,e2⟩:=R0.tk.1.2 m o hm hg hf;exact⟨b1,N,hl _ _ e1,e2⟩
noncomputable section
def F1(len:Nat):cL->Bool
 | .known c=>Nat.ble len c
 | .ak _ _=>true
 | .lost=>false
def vD(J:Nat)(ns:List Nat)(h0:Tr ae)(val:List AV->Option AV):aI->List AV->M AV:=fun _ args=>match args with
  | [a,.slice (some (n,off)) len cap,b]=>aF (a.hi&&(b.hi&&F1 len cap)) <| (fH J h0 ns).bind fun _=>(bp n).bind fun o=>aA (cellsOf (some o) off len) fun cs=>aF (cs.all AV.gb&&Nat.blt n top) <|
    aA (val [a,.U (nm cs) 0 len,b]) fun v=>aF v.xp <| M.pure v
  |_=>fail
end
theorem Yd.vD(J:Nat)(ns:List Nat)(h0:Tr ae)(val:List AV->Option AV)(Ye:aI)(args:List AV):Yd<|vD J ns h0 val Ye args:=by
 unfold Rn.vD;split
 ·exact Yd.aF fun _=>Yd.bind (Yd.fH J h0 ns) fun _=>Yd.bind (Yd.bp _) fun _=>Yd.aA fun _ _=>Yd.aF fun _=>Yd.aA fun _ _=>Yd.aF fun _=>Yd.pure _
 ·exact Yd.fail
theorem Ze{o:ae}{k:Nat}(h:cellsOf (some o) off k=some cs):∃m t z,o= .cells m t z/\off+k<=m/\lr t z k off=some cs:=by
 unfold cellsOf at h;split at h
 ·rename_i m t z e;injection e with e
  split at h
  ·rename_i q;exact⟨m,t,z,e,aL.1 q,h⟩
  ·cases h
 ·cases h
theorem adK{P:Program}{f J:Nat}{ns:List Nat}{h0:Tr ae}{val:List AV->Option AV}{fn:Func}{body:Code}{s1:AS}(hP:bE P)(cm:P.funcs[f]? =some fn)(cv:fn.body=some body)(dJ:(fn.name == "runtime.NumGoroutine")=false)(hFU:B.F=FU)(fX:fN<=J)(dM:J<=top)(dK:∀n o,n<top->h0.get n=some o->n∈ns)(dm:∀n∈ns,n<J)(eP:∀args v,val args=some v->max fn.ntmps args.length<=top/\∀B':aJ,B'.F=B.F->B'.inv=B.inv->au P B' J (Fin P fn.results.toList fun y _=>y=v) ⟨f,eh args,max fn.ntmps args.length,[.code body],[],none⟩ ⟨h0,J,0,[],[]⟩){Ye:aI}{args:List AV}{vs:Array Value}(r:Rel B ρ s.h w)(hg:gd ρ)(h:vD J ns h0 val Ye args s= .ok x s1)(hv:ay ρ args vs.toList):jo P ((callFunc f vs).run P w)<|kh B ρ s s1 w x:=by
 unfold vD at h;split at h
 case h_2=>cases h
 rename_i a n off len cap a2;obtain⟨gH,h1⟩:=cW h;obtain⟨ha,ya⟩:=and_true.1 gH;obtain⟨hb,J0⟩:=and_true.1 ya;obtain⟨u,s2,h2,h3⟩:=M.aP h1;obtain⟨o,s3,h4,h5⟩:=M.aP h3;obtain⟨cs,h6,h7⟩:=bt h5;obtain⟨hcd,h8⟩:=cW h7;obtain⟨Qo,iZ⟩:=and_true.1 hcd;have iZ:n<top:=(blt_eq _ _).mp iZ;obtain⟨v,h9,gE⟩:=bt h8;obtain⟨yc,ud⟩:=cW gE;obtain⟨rfl,rfl⟩:=bD ud;obtain⟨a1,a2',a3⟩:=uv h2;obtain⟨b1,b2,b3,b4⟩:=fY h4;obtain⟨m,t,z,rfl,c1,c2⟩:=Ze h6;have ki:s.h.get n=some (.cells m t z):=by rw[←a1];exact b2
 obtain⟨bb,N,o',d1,d2,d3,_⟩:=r.is n _ iZ ki;have XM:=d3;simp only[OR] at XM;obtain⟨c,e,rfl,_,d4,d5⟩:=XM;obtain⟨g1,g2⟩:=Hr c2;have XN:∀n∈ns,∃o p,s.h.get n=some o/\h0.get n=some p/\oo J o p=true:=fun n hn=>by obtain⟨_,o,p,h⟩:=a3 n hn;exact⟨o,p,h⟩
 have R0:=Dx dM r dK dm XN;have Gx:∀n o,n<top->h0.get n=some o->o.mK=true:=fun n o hn ho=>by obtain⟨p1,p2,_,c3,c4⟩:=XN n<|dK n o hn ho;rw[ho] at c3;cases c3;unfold oo at c4;split at c4<;>first|rfl|cases c4
 have afv:ρ (hn (nm cs) bb off)=none:=Classical.byContradiction fun q=>by obtain⟨_,_,_,_,_,_,_,z3,_⟩:=r.fz _ _ _ q;exact z3 n _ N iZ ki rfl d1
 have jh:gg J ρ (hn (nm cs) bb off)=none:=by rw[sH dM<|fZ _ _ _];exact afv
 have R1:=ab3 (B:=B) (ρ:=gg J ρ) (fq:=gg J ρ) (j:=nm cs) (b:=bb) (off:=off) (cs:=cs) (c:=c) (e:=e) (fr:=(0,0)) (h:=s.h) (h0:=h0) (w:=w) ⟨R0.is,R0.one,R0.iter,R0.size,R0.lone,fun n x sh q=>by
  obtain⟨_,g⟩:=R0.fz n x sh q;exact⟨.inl q,g⟩,R0.tk⟩ Gx jh (by rw[hFU];exact Dw Qo) d2 (fun i x hx=>by
  have hi:i<len:=by rw[←g1];exact(List.getElem?_eq_some_iff.1 hx).1
  obtain⟨x',v',k1,k2,k3,k4⟩:=d5 (off+i) aj;rw[g2 i hi,hx] at k1;injection k1 with k1;subst k1
  have hxc:x.gb=true:=List.all_eq_true.1 Qo x<|List.mem_of_getElem? hx;refine⟨v',k3,AV.uO (fun k y hk q=>?_) (CK hxc) k4,k2⟩;unfold gj;rw[if_pos hk,sH dM hk];exact q) (fun k q=>by
  unfold eN;split
  ·exact fun q=>by cases q
  ·exact q)
 obtain⟨q1,q2⟩:=eP _ _ h9;have fi:bx (⟨h0,J,0,[],[]⟩:AS):=⟨Nat.zero_le _,dM⟩;have zW:gd<|eN (gg J ρ) (hn (nm cs) bb off) (bb,0):=fun g iB=>by obtain⟨N,e⟩:=hg g iB;exact⟨N,oj jh _ _ (by unfold gg;rw[if_pos<|Nat.lt_of_lt_of_le iB fX];exact e)⟩
 have hi:jq ρ<|eN (gg J ρ) (hn (nm cs) bb off) (bb,0):=fun k y hk e=>oj jh _ _ (by rw[sH dM hk];exact e);have iL:ay (eN (gg J ρ) (hn (nm cs) bb off) (bb,0)) [a,.U (nm cs) 0 len,a2] vs.toList:=by
  simp only[ay] at hv ⊢;obtain⟨v0,vr,e1,k1,v1,vr1,e2,k2,v2,vr2,e3,k3,k4⟩:=hv;refine⟨v0,vr,e1,AV.pd hi ha k1,v1,vr1,e2,?_,v2,vr2,e3,AV.pd hi hb k3,k4⟩;have aD:qv (eN (gg J ρ) (hn (nm cs) bb off) (bb,0)) (nm cs) bb off:=.inr ⟨dU _,by rw[iQ];exact fun q=>by cases q⟩;cases cap with
  |known cc=>simp only[VR] at k2 ⊢;obtain⟨b',N',e4,e5⟩:=k2;rw[d1] at e4;cases e4;exact .inr ⟨bb,off,cc,aD,e5,fun _=>⟨aL.1 J0,(zf cs).1⟩⟩
  |ak lo ee=>simp only[VR] at k2 ⊢;obtain⟨b',N',cc,e4,e5,e6,e7,_⟩:=k2;rw[d1] at e4;cases e4;exact .inr ⟨bb,off,cc,aD,e5,fun _=>⟨e7,(zf cs).1⟩⟩
  |lost=>cases J0
 have bC:=au.calls (B:=rp B (eN (gg J ρ) (hn (nm cs) bb off) (bb,0)) w) (s:=⟨h0,J,0,[],[]⟩) (args:=[a,.U (nm cs) 0 len,a2]) (vs:=vs) hP cm cv q1 (q2 _ rfl rfl) fi R1 zW (fun k k1 k2=>by have k1:J<=k:=k1;rw[gJ _ _ (by have:=fZ (nm cs) bb off;omega)];unfold gg gj;rw[if_neg aj,if_neg aj]) iL;rw[uw cm cv dJ];show Calls P f vs w _;refine bC.mono fun e w'=>?_;rintro ⟨y,x',s4,rfl,rfl,_,_,σ,e1,e2,e3,e4⟩;have gr:gT w w':=⟨e4.os,e4.tape,e4.output,e4.size,fun k hk=>e4.block k hk (by show ¬(w.heap.size<=k);omega)⟩;exact⟨y,rfl,ρ,by rw[b4,a2'];exact Ext.refl _ _ _,VR.xp yc e2,by rw[b3,a1];exact r.DO gr,gr.below r.size⟩
section
variable {X:TX} {P:Program} {J:Nat} {ns:List Nat} {h0:Tr ae} {kn:List<|Nat×Option ae} {L L':bY} {g k:Nat} {fn:Func} {body:Code}
theorem adL(hP:bE P)(fX:fN<=J)(dM:J<=top)(dK:∀n o,n<top->h0.get n=some o->n∈ns)(dm:∀n∈ns,n<J){val:List AV->Option AV}(h:eA X J P<|dA J ns h0 L)(h':eA X J P<|dA J ns h0 L')(cm:P.funcs[g]? =some fn)(cv:fn.body=some body)(dJ:(fn.name == "runtime.NumGoroutine")=false)(eP:∀args v,val args=some v->max fn.ntmps args.length<=top/\∀B:aJ,qC X P J ns h0 L' B->
 au P B J (Fin P fn.results.toList fun y _=>y=v) ⟨g,eh args,max fn.ntmps args.length,[.code body],[],none⟩ ⟨h0,J,0,[],[]⟩):eA X J P<|dA J ns h0<|(g,.raw fun a b c=>vD a b c val)::L:=by
 refine(show eA X J P (pv (dA J ns h0 L) g<|vD J ns h0 val) from h.mQ (fun Ye _ args=>Yd.vD _ _ _ _ Ye args) fun B hB hT Ye hc hl args x s s1 ρ w vs fi r hg hf hm hv=>?_);refine adK hP cm cv dJ hB fX dM dK dm (fun args v e=>?_) r hg hm hv;obtain⟨q1,q2⟩:=eP args v e;exact⟨q1,fun B' lH lI=>q2 B'<|rE hP h' (lH.trans hB)<|lI.trans hT⟩
end
theorem ab4{P:Program}{F:Nat->Option (List AV)}{sp:Sp}{g n J:Nat}{h0:Tr ae}{ns:List Nat}{val:List AV->Option AV}(h:sp g=some (vD J ns h0 val)){a b:AV}{m len:Nat}{cap:cL}{v:AV}(h1:(a.hi&&(b.hi&&F1 len cap))=true)(hk:qB J h0 ns s=true)(hm:Nat.blt m (dP J h0 ns s).nx=true)(ht:Nat.blt m top=true)(h2:cellsOf ((dP J h0 ns s).h.get m) off len=some cs)(h3:cs.all AV.gb=true)(h4:val [a,.U (nm cs) 0 len,b]=some v)(h5:v.xp=true):
 bg P sp F (n+1) (.fn g) [a,.slice (some (m,off)) len cap,b] s= .ok v (aY m<|dP J h0 ns s):=by
 show ko P sp g (bg P sp F n) [a,.slice (some (m,off)) len cap,b] s=_;rw[uN h];cases q:(dP J h0 ns s).h.get m with
 |none=>rw[q] at h2;cases h2
 |some o=>rw[q] at h2;show(aF (a.hi&&(b.hi&&F1 len cap)) <| (fH J h0 ns).bind fun _=>(bp m).bind fun o=>aA (cellsOf (some o) off len) fun cs=>aF (cs.all AV.gb&&Nat.blt m top) <| aA (val [a,.U (nm cs) 0 len,b]) fun v=>aF v.xp <| M.pure v) s=_;rw[h1,dB,M.bK<|wY hk,M.bK<|me hm q,h2,cf,h3,ht];show(aF true <| aA (val [a,.U (nm cs) 0 len,b]) fun v=>aF v.xp <| M.pure v) _=_;rw[dB,h4,cf,h5,dB];rfl
end Go.Rn
namespace Go.Rn
open Go.RowKit
variable {r2 r1 N n:Nat} {ρ σ:aw} {o':Obj} {cs a rest b:List AV} {y v:AV} {sp:Sp} {s:AS} {o:ae} {F:Nat->Option (List AV)}
noncomputable def bO(cs:List AV):ae:=.cells cs.length (Tr.fill cs 0 .nil) []
theorem ab5(ha:a.length<=top)(hb:b.length<=top)(h:bO a=bO b):a=b:=by
 unfold bO at h;injection h with h1 h2 _
 refine List.ext_getElem? fun i=>?_;by_cases q:i<a.length
 ·have e1:=yw ha q;have e2:=yw hb (show i<b.length by omega);rw[←e1, ←e2,h2]
 ·rw[List.getElem?_eq_none aj,List.getElem?_eq_none aj]
open Classical in
noncomputable def rowOf(o:ae):Option<|List AV:=if h:∃cs,cs.length<=top/\o=bO cs then some h.choose else none
theorem HP(h:rowOf o=some cs):o=bO cs/\cs.length<=top:=by
 unfold rowOf at h;split at h
 ·rename_i q;injection h with h;rw[←h];exact⟨q.choose_spec.2,q.choose_spec.1⟩
 ·cases h
theorem HQ(h:cs.length<=top):rowOf (bO cs)=some cs:=by unfold rowOf;have q:∃XO,XO.length<=top/\bO cs=bO XO:=⟨cs,h,rfl⟩;rw[dif_pos q];exact congrArg some (ab5 h q.choose_spec.1 q.choose_spec.2).symm
structure RS where
 pre:List AV
 len:Nat
 cap:cL
 post:List AV
def dQ(R:RS)(r1 r2:Nat):List AV:=R.pre++(.ptr (some (r1,0)):: .slice (some (r2,0)) R.len R.cap::R.post)
def rootOf(kp:Nat)(cs:List AV):Option<|RS×Nat×Nat:=match cs.drop kp with
 | .ptr (some (r1,0)):: .slice (some (r2,0)) len cap::post=>some (⟨cs.take kp,len,cap,post⟩,r1,r2)
 |_=>none
theorem Rw{R:RS}{kp:Nat}(h:R.pre.length=kp):rootOf kp (dQ R r1 r2)=some (R,r1,r2):=by subst h;unfold rootOf dQ;rw[List.drop_left,List.take_left];rfl
theorem RZ{kp:Nat}{q:RS×Nat×Nat}(h:rootOf kp cs=some q):cs=dQ q.1 q.2.1 q.2.2:=by
 unfold rootOf at h;split at h
 ·rename_i e;injection h with h;subst h
  unfold dQ;rw[←e,List.take_append_drop]
 ·cases h
structure VS where
 R:RS
 u:AV
 row:List AV
def xr(k:Nat)(o:ae):Option AV:=match o with
 | .tok k' v=>(match Nat.beq k k' with|true=>some v|false=>none)
 |_=>none
theorem Mz{k:Nat}(h:xr k o=some v):o= .tok k v:=by
 unfold xr at h;split at h
 ·split at h
  ·rename_i q;injection h with h;rw[h,Nat.eq_of_beq_eq_true q]
  ·cases h
 ·cases h
theorem MA{k:Nat}:xr k (.tok k v)=some v:=by show(match Nat.beq k k with|true=>some v|false=>none)=some v;rw[eg.2 rfl]
def sf(R:RS):Bool:=R.pre.all AV.bZ&&R.post.all AV.bZ
def bA(kp:Nat)(st:VS):Bool:=sf st.R&&(st.row.all AV.bZ&&(Nat.ble (dQ st.R 0 0).length top&&Nat.ble st.row.length top))
noncomputable section
def m8(kp k:Nat)(val:VS->List AV->Option (AV×VS))(J:Nat)(ns:List Nat)(h0:Tr ae):aI->List AV->M AV:=fun _ args=>match args with
 | .ptr (some (n,0))::rest=>aF (rest.all AV.hi) <| (fH J h0 ns).bind fun _=>(bp n).bind fun o=>aA (rowOf o) fun cs=>aA (rootOf kp cs) fun q=>(bp q.2.1).bind fun o1=>aA (xr k o1) fun u=>(bp q.2.2).bind fun o2=>aA (rowOf o2) fun row=>
  aF (sf q.1&&row.all AV.bZ) <| aF (!Nat.beq n q.2.1&&(!Nat.beq n q.2.2&& !Nat.beq q.2.1 q.2.2)) <| aA (val ⟨q.1,u,row⟩ rest) fun p=>aF (p.1.hi&&bA kp p.2) <|
  (bI n<|some<|bO<|dQ p.2.R q.2.1 q.2.2).bind fun _=>(ln q.2.1<|some<|.tok k p.2.u).bind fun _=>(bI q.2.2<|some<|bO p.2.row).bind fun _=>M.pure p.1
 |_=>fail
def dC(J k:Nat)(st:VS):List<|Nat×ae:=[(J,bO<|dQ st.R (J+1)<|J+2),(J+1,.tok k st.u),(J+2,bO st.row)]
end
theorem Yd.m8(kp k:Nat)(val:VS->List AV->Option (AV×VS))(J:Nat)(ns:List Nat)(h0:Tr ae)(Ye:aI)(args:List AV):Yd<|m8 kp k val J ns h0 Ye args:=by
 unfold Rn.m8;split
 ·exact Yd.aF fun _=>Yd.bind (Yd.fH J h0 ns) fun _=>Yd.bind (Yd.bp _) fun _=>Yd.aA fun _ _=>Yd.aA fun _ _=>Yd.bind (Yd.bp _) fun _=>Yd.aA fun _ _=>Yd.bind (Yd.bp _) fun _=>Yd.aA fun _ _=>Yd.aF fun _=>Yd.aF fun _=>Yd.aA fun _ _=>Yd.aF fun _=>Yd.bind (Yd.bI _ _) fun _=>Yd.bind (Yd.ln _ _) fun _=>Yd.bind (Yd.bI _ _) fun _=>Yd.pure _
 ·exact Yd.fail
def gV(J k:Nat)(P:Program)(rs:List ResultVar)(y:AV)(st:VS):=Fin P rs fun y1 s'=>y1=y/\∀m o,(m,o)∈dC J k st->s'.h.get m=some o
theorem UB(ha:a.length<=top)(hb:b.length<=top)(hl:b.length=a.length)(hc:∀(i:Nat) (x y:AV),a[i]? =some x->b[i]? =some y->(x.cj=true->y.cj=true)/\∀v,VR ρ x v->VR σ y v)(h:OR ρ N (bO a) o'):OR σ N (bO b) o':=by unfold bO at h ⊢;simp only[OR] at h ⊢;obtain⟨c,e,rfl,h1,h2,h3⟩:=h;refine⟨c,e,rfl,h1,by omega,fun i hi=>?_⟩;obtain⟨x,v,k1,k2,k3,k4⟩:=h3 i aj;rw[yw ha aj] at k1;have gm:b[i]? =some (b[i]'hi):=List.getElem?_eq_getElem hi;obtain⟨q1,q2⟩:=hc i x _ k1 gm;exact⟨_,v,by rw[yw hb hi];exact gm,q1 k2,k3,q2 v k4⟩
theorem DE(ks:jq ρ σ)(ha:a.length<=top)(hh:a.all AV.bZ=true)(h:OR ρ N (bO a) o'):OR σ N (bO a) o':=UB ha ha rfl (fun i x y e1 e2=>by rw[e1] at e2;cases e2;exact⟨id,fun v k=>AV.uO ks (List.all_eq_true.1 hh x<|List.mem_of_getElem? e1) k⟩) h
theorem Ar{R:RS}{r3 r4:Nat}:(dQ R r1 r2).length=(dQ R r3 r4).length:=by unfold dQ;simp only[List.length_append,List.length_cons]
theorem IE{R:RS}{s1 s2:Nat}(ks:jq ρ σ)(hl:(dQ R r1 r2).length<=top)(hR:sf R=true)(e1:∀x,ρ r1=some x->σ s1=some x)(e2:∀x,ρ r2=some x->σ s2=some x)(h:OR ρ N (bO<|dQ R r1 r2) o'):OR σ N (bO<|dQ R s1 s2) o':=by
 obtain⟨hp,hq⟩:=and_true.1 hR;refine UB hl (by rw[Ar (r3:=r1) (r4:=r2)];exact hl) Ar (fun i x y k1 k2=>?_) h;unfold dQ at k1 k2;by_cases c1:i<R.pre.length
 ·rw[List.getElem?_append_left c1] at k1 k2;rw[k1] at k2;cases k2;exact⟨id,fun v k=>AV.uO ks (List.all_eq_true.1 hp x<|List.mem_of_getElem? k1) k⟩
 ·rw[List.getElem?_append_right aj] at k1 k2;generalize i - R.pre.length=j at k1 k2
  match j with
  |0=>simp only[List.getElem?_cons_zero,Option.some.injEq] at k1 k2;subst k1;subst k2;refine⟨fun _=>rfl,fun v k=>?_⟩;simp only[VR] at k ⊢;obtain⟨b,N,a1,a2⟩:=k;exact⟨b,N,e1 _ a1,a2⟩
  |1=>
   simp only[List.getElem?_cons_succ,List.getElem?_cons_zero,Option.some.injEq] at k1 k2;subst k1;subst k2;refine⟨fun _=>rfl,fun v k=>?_⟩;generalize R.cap=cp at k ⊢;cases cp<;>simp only[VR] at k ⊢
   ·obtain⟨b,N,a1,a2⟩:=k;exact⟨b,N,e2 _ a1,a2⟩
   ·obtain⟨b,N,c,a1,a2⟩:=k;exact⟨b,N,c,e2 _ a1,a2⟩
   ·obtain⟨l,b,N,p,c,a1,a2⟩:=k;exact⟨l,b,N,p,c,e2 _ a1,a2⟩
  |j+2=>simp only[List.getElem?_cons_succ] at k1 k2;rw[k1] at k2;cases k2;exact⟨id,fun v k=>AV.uO ks (List.all_eq_true.1 hq x<|List.mem_of_getElem? k1) k⟩
theorem aaR{P:Program}{B:aJ}{f J kp k:Nat}{ns:List Nat}{h0:Tr ae}{kn:List<|Nat×Option ae}{val:VS->List AV->Option (AV×VS)}{fn:Func}{body:Code}{w:World}{s1:AS}(hP:bE P)(cm:P.funcs[f]? =some fn)(cv:fn.body=some body)(dJ:(fn.name == "runtime.NumGoroutine")=false)(fX:fN<=J)(dM:J+3<=top)(dK:∀n o,n<top->h0.get n=some o->n∈ns)(dm:∀n∈ns,n<J)(jx:∀n o,(n,some o)∈kn->h0.get n=some o)(jy:∀p∈kn,p.1<top)(eP:∀st rest y aZ,val st rest=some (y,aZ)->max fn.ntmps (rest.length+1)<=top/\∀B':aJ,B'.F=B.F->B'.inv=B.inv->
 au P B' (J+3) (gV J k P fn.results.toList y aZ) ⟨f,eh<|.ptr (some (J,0))::rest,max fn.ntmps<|rest.length+1,[.code body],[],none⟩ ⟨gf<|kn++bu (dC J k st),J+3,0,[],[]⟩){Ye:aI}{args:List AV}{x:AV}{vs:Array Value}(r:Rel B ρ s.h w)(hg:gd ρ)(h:m8 kp k val J ns h0 Ye args s= .ok x s1)(hv:ay ρ args vs.toList):jo P ((callFunc f vs).run P w)<|kh B ρ s s1 w x:=by
 unfold m8 at h;split at h
 case h_2=>cases h
 rename_i n rest;obtain⟨gH,h⟩:=cW h;obtain⟨u,s2,h2,h⟩:=M.aP h;obtain⟨a1,a2,a3⟩:=uv h2;obtain⟨o,s3,k1,h⟩:=M.aP h;obtain⟨cs,m1,h⟩:=bt h;obtain⟨q,m2,h⟩:=bt h;obtain⟨o1,s4,k2,h⟩:=M.aP h;obtain⟨tv,m3,h⟩:=bt h;obtain⟨o2,s5,k3,h⟩:=M.aP h;obtain⟨row,m4,h⟩:=bt h;obtain⟨dz,h⟩:=cW h;obtain⟨Gy,eO⟩:=and_true.1 dz;obtain⟨cn,h⟩:=cW h;obtain⟨p,hp,h⟩:=bt h;obtain⟨kD,h⟩:=cW h;obtain⟨Qp,hS⟩:=and_true.1 kD;obtain⟨hSR,hS⟩:=and_true.1 hS;obtain⟨ahc,hS⟩:=and_true.1 hS;obtain⟨hSl,aiM⟩:=and_true.1 hS;obtain⟨_,t1,w1,h⟩:=M.aP h;obtain⟨_,t2,w2,h⟩:=M.aP h;obtain⟨_,t3,w3,h⟩:=M.aP h;obtain⟨rfl,rfl⟩:=bD h;obtain⟨R,n1,n2⟩:=q;obtain⟨y,aZ⟩:=p;have DX:n≠n1/\n≠n2/\n1≠n2:=by
  obtain⟨c1,c2⟩:=and_true.1 cn;obtain⟨c2,c3⟩:=and_true.1 c2;refine⟨fun e=>?_,fun e=>?_,fun e=>?_⟩<;>subst e
  ·rw[eg.2 rfl] at c1;cases c1
  ·rw[eg.2 rfl] at c2;cases c2
  ·rw[show Nat.beq n1 n1=true from eg.2 rfl] at c3;cases c3
 obtain⟨d1,d2,d3⟩:=DX;obtain⟨rfl,oO⟩:=HP m1;have ue:=RZ m2;subst ue;have G8:=Mz m3;subst G8;obtain⟨rfl,G9⟩:=HP m4;obtain⟨b1,b2,b3,b4⟩:=fY k1;obtain⟨b5,b6,b7,b8⟩:=fY k2;obtain⟨b9,Qq,Qr,Qs⟩:=fY k3;obtain⟨x1,x2,_,x4,x5⟩:=kx w1;obtain⟨y1,y2,y3,y4⟩:=Tq w2;obtain⟨z1,z2,_,z4,z5⟩:=kx w3;have g1:s.h.get n=some (bO<|dQ R n1 n2):=by rw[←a1];exact b2
 have g2:s.h.get n1=some (.tok k tv):=by rw[←a1, ←b3];exact b6
 have g3:s.h.get n2=some (bO row):=by rw[←a1, ←b3, ←b7];exact Qq
 let V:Vw:=[(J,n,bO<|dQ R (J+1)<|J+2),(J+1,n1,.tok k tv),(J+2,n2,bO row)];have mem:∀q∈V,q=(J,n,bO<|dQ R (J+1)<|J+2)\/q=(J+1,n1,.tok k tv)\/q=(J+2,n2,bO row):=fun q hq=>by simpa[V] using hq
 have V0:(J,n,bO<|dQ R (J+1)<|J+2)∈V:=by simp[V]
 have V1:(J+1,n1,ae.tok k tv)∈V:=by simp[V]
 have V2:(J+2,n2,bO row)∈V:=by simp[V]
 have e0:eQ J ρ V J=ρ n:=by
  unfold eQ;rw[if_neg aj,if_neg aj];have:gK V J=some n:=by simp[gK,V]
  rw[this]
 have e1:eQ J ρ V (J+1)=ρ n1:=by
  unfold eQ;rw[if_neg aj,if_neg aj];have:gK V (J+1)=some n1:=by simp[gK,V]
  rw[this]
 have e2:eQ J ρ V (J+2)=ρ n2:=by
  unfold eQ;rw[if_neg aj,if_neg aj];have:gK V (J+2)=some n2:=by simp[gK,V]
  rw[this]
 have hi:jq ρ<|eQ J ρ V:=fun m x hm e=>by rw[yI aj hm];exact e
 have hV:zX J ρ s.h V:=by
  refine⟨fun q hq=>?_,fun q hq q' dS e=>?_,fun q hq q' dS e=>?_,fun q hq=>?_⟩
  ·rcases mem q hq with rfl|rfl|rfl
   ·exact⟨Nat.le_refl _,by show J<top;omega,x2⟩
   ·exact⟨by show J<=J+1;omega,by show J+1<top;omega,y2⟩
   ·exact⟨by show J<=J+2;omega,by show J+2<top;omega,z2⟩
  ·rcases mem q hq with rfl|rfl|rfl<;>rcases mem q' dS with rfl|rfl|rfl<;>first|rfl|(simp only at e;omega)
  ·rcases mem q hq with rfl|rfl|rfl<;>rcases mem q' dS with rfl|rfl|rfl<;>first|rfl|(exact absurd e<|by assumption)|(exact absurd e.symm<|by assumption)
  ·rcases mem q hq with rfl|rfl|rfl
   ·exact⟨_,g1,.inl ⟨rfl,rfl,fun N o' hO=>IE hi oO Gy (fun x e=>e1.trans e) (fun x e=>e2.trans e) hO⟩⟩
   ·exact⟨_,g2,.inr ⟨k,tv,rfl,rfl⟩⟩
   ·exact⟨_,g3,.inl ⟨rfl,rfl,fun N o' hO=>DE hi G9 eO hO⟩⟩
 obtain⟨_,cV,T⟩:=r.tk;have T:DW B ρ s.h w cV:=T;have nL:=JO aj r T dK dm jx jy (fun n hn=>by obtain⟨_,o,p,h⟩:=a3 n hn;exact⟨o,p,h⟩) hV;obtain⟨q1,q2⟩:=eP _ _ _ _ hp;have fi:bx (⟨gf<|kn++bu (dC J k ⟨R,tv,row⟩),J+3,0,[],[]⟩:AS):=⟨Nat.zero_le _,dM⟩;have iL:ay (eQ J ρ V) (.ptr (some (J,0))::rest) vs.toList:=by simp only[ay,VR] at hv ⊢;obtain⟨v0,vr,q1,⟨b',N',q2,q3⟩,q4⟩:=hv;exact⟨v0,vr,q1,⟨b',N',e0.trans q2,q3⟩,AV.Ba hi gH q4⟩
 have bC:=au.FC (B:=tB B ρ w<|wH ρ cV V) (s:=⟨gf<|kn++bu (dC J k ⟨R,tv,row⟩),J+3,0,[],[]⟩) (args:=.ptr (some (J,0))::rest) (vs:=vs) hP cm cv q1 (q2 _ rfl rfl) fi nL (fun g iB=>by
  obtain⟨N,e⟩:=hg g iB;exact⟨N,by rw[CS<|Nat.lt_of_lt_of_le iB fX];exact e⟩) (fun m hm jZ=>by
  have hm:J+3<=m:=hm;exact HO aj jZ fun q hq=>by rcases mem q hq with rfl|rfl|rfl<;>(show _≠m;simp only;omega)) iL
 rw[uw cm cv dJ];show Calls P f vs w _;refine bC.mono fun e w'=>?_;rintro ⟨Cf,x',s7,rfl,⟨rfl,hL⟩,_,σ,i0,Cg,i1,i2,i3⟩;have sV:∀q∈V,σ q.1=ρ q.2.1:=fun q hq=>by
  rcases mem q hq with rfl|rfl|rfl
  ·exact(i0 J aj aj).trans e0
  ·exact(i0 (J+1) aj aj).trans e1
  ·exact(i0 (J+2) aj aj).trans e2
 have j1:=hL J _ (by simp[dC];rfl);have j2:=hL (J+1) (.tok k aZ.u) (by simp[dC]);have j3:=hL (J+2) (bO aZ.row) (by simp[dC]);have ll:(dQ aZ.R (J+1)<|J+2).length<=top:=by rw[Ar (r3:=0) (r4:=0)];exact aL.1 hSl
 have F2:∀k,k<top->cG ρ σ k=ρ k:=fun k hk=>by unfold cG;rw[if_neg aj]
 have qN:jq σ<|cG ρ σ:=fun k x hk e=>by unfold cG;rw[if_pos hk];exact e
 obtain⟨f1,f2,f3,f4⟩:=I8 (a:=s.nx) (L2:=[(n,bO<|dQ aZ.R n1 n2),(n1,.tok k aZ.u),(n2,bO aZ.row)]) (h':=s1.h) r T hV i2 i3 sV (fun m z hm q=>Cg m z hm<|hi m z hm q) (fun m q hm=>by
  rcases List.mem_cons.1 hm with hm|hm
  ·cases hm;exact⟨_,V0,rfl,_,j1,.inl ⟨rfl,rfl,fun N o' hO=>IE qN ll hSR (fun x e=>by rw[F2 _ y2, ←sV _ V1];exact e) (fun x e=>by rw[F2 _ z2, ←sV _ V2];exact e) hO⟩⟩
  rcases List.mem_cons.1 hm with hm|hm
  ·cases hm;exact⟨_,V1,rfl,_,j2,.inr ⟨k,_,tv,rfl,rfl,rfl⟩⟩
  rcases List.mem_cons.1 hm with hm|hm
  ·cases hm;exact⟨_,V2,rfl,_,j3,.inl ⟨rfl,rfl,fun N o' hO=>DE qN (aL.1 aiM) ahc hO⟩⟩
  cases hm) (fun q hq cw=>by
  rcases mem q hq with rfl|rfl|rfl
  ·exact⟨_,j1,rfl⟩
  ·cases cw
  ·exact⟨_,j3,rfl⟩) (fun m hm=>by
  have G1:s1.h=((s.h.put n<|some<|bO<|dQ aZ.R n1 n2).put n1<|some<|.tok k aZ.u).put n2 (some<|bO aZ.row):=by rw[z4,y3,x4,Qr,b7,b3,a1]
  rw[G1,Tr.dk _ _ _ _ z2 hm,Tr.dk _ _ _ _ y2 hm,Tr.dk _ _ _ _ x2 hm];by_cases c3:m=n2
  ·subst c3;exact .inl ⟨_,by simp,if_pos rfl⟩
  rw[if_neg c3];by_cases c2:m=n1
  ·subst c2;exact .inl ⟨_,by simp,if_pos rfl⟩
  rw[if_neg c2];by_cases c1:m=n
  ·subst c1;exact .inl ⟨_,by simp,if_pos rfl⟩
  rw[if_neg c1];exact .inr ⟨fun q hq=>by rcases mem q hq with rfl|rfl|rfl<;>(intro e;exact absurd e.symm<|by assumption),rfl⟩)
 refine⟨Cf,rfl,cG ρ σ,?_,AV.pd qN Qp i1,f3,f4⟩;have cM:s1.nx=s.nx:=by rw[z5,y4,x5,Qs,b8,b4,a2]
 rw[cM];exact f1
section
variable {X:TX} {P:Program} {J kp k:Nat} {ns:List Nat} {h0:Tr ae} {kn:List<|Nat×Option ae} {L L':bY} {g:Nat} {fn:Func} {body:Code}
theorem Ig(hP:bE P)(fX:fN<=J)(dM:J+3<=top)(dK:∀n o,n<top->h0.get n=some o->n∈ns)(dm:∀n∈ns,n<J)(jx:∀n o,(n,some o)∈kn->h0.get n=some o)(jy:∀p∈kn,p.1<top){val:VS->List AV->Option (AV×VS)}(h:eA X J P<|dA J ns h0 L)(h':eA X J P<|dA J ns h0 L')(cm:P.funcs[g]? =some fn)(cv:fn.body=some body)(dJ:(fn.name == "runtime.NumGoroutine")=false)(eP:∀st rest y aZ,val st rest=some (y,aZ)->max fn.ntmps (rest.length+1)<=top/\∀B:aJ,qC X P J ns h0 L' B->
 au P B (J+3) (gV J k P fn.results.toList y aZ) ⟨g,eh<|.ptr (some (J,0))::rest,max fn.ntmps<|rest.length+1,[.code body],[],none⟩ ⟨gf<|kn++bu (dC J k st),J+3,0,[],[]⟩):eA X J P<|dA J ns h0<|(g,.raw<|m8 kp k val)::L:=by
 refine(show eA X J P (pv (dA J ns h0 L) g<|m8 kp k val J ns h0) from h.mQ (fun Ye _ args=>Yd.m8 _ _ _ _ _ _ Ye args) fun B hB hT Ye hc hl args x s s1 ρ w vs fi r hg hf hm hv=>?_);refine aaR hP cm cv dJ fX dM dK dm jx jy (fun st rest y aZ e=>?_) r hg hm hv;obtain⟨q1,q2⟩:=eP st rest y aZ e;exact⟨q1,fun B' lH lI=>q2 B'<|rE hP h' (lH.trans hB)<|lI.trans hT⟩
end
theorem F3(n:Nat)(o:Option ae)(s:AS):(fE n o s).nx=s.nx/\(fE n o s).h=s.h.put n o:=by unfold fE;cases Nat.blt n s.mark<;>exact⟨rfl,rfl⟩
theorem aaS{P:Program}{g J kp k:Nat}{h0:Tr ae}{ns:List Nat}{val:VS->List AV->Option (AV×VS)}(h:sp g=some (m8 kp k val J ns h0)){a:Nat}{st aZ:VS}(hk:qB J h0 ns s=true)(hr:rest.all AV.hi=true)(hd:(!Nat.beq a r1&&(!Nat.beq a r2&& !Nat.beq r1 r2))=true)(hn:(Nat.blt a (dP J h0 ns s).nx&&(Nat.blt r1 (dP J h0 ns s).nx&&Nat.blt r2 (dP J h0 ns s).nx))=true)(ht:(Nat.blt a top&&(Nat.blt r1 top&&Nat.blt r2 top))=true)(g1:(dP J h0 ns s).h.get a=some (bO<|dQ st.R r1 r2))(g2:(dP J h0 ns s).h.get r1=some (.tok k st.u))(g3:(dP J h0 ns s).h.get r2=some (bO st.row))(Cl:st.R.pre.length=kp)(ho:bA kp st=true)(hv:val st rest=some (y,aZ))(hy:y.hi=true)(kJ:bA kp aZ=true):
 bg P sp F (n+1) (.fn g) (.ptr (some (a,0))::rest) s= .ok y (fE r2 (some<|bO aZ.row)<|fE r1 (some<|.tok k aZ.u)<|fE a (some<|bO<|dQ aZ.R r1 r2)<|aY r2<|aY r1<|aY a<|dP J h0 ns s):=by
 obtain⟨R,u,row⟩:=st;show ko P sp g (bg P sp F n) (.ptr (some (a,0))::rest) s=_;rw[uN h];have BY:=ho;obtain⟨o1,ho⟩:=and_true.1 ho;obtain⟨o2,ho⟩:=and_true.1 ho;obtain⟨o3,o4⟩:=and_true.1 ho;obtain⟨n1,hn⟩:=and_true.1 hn;obtain⟨n2,n3⟩:=and_true.1 hn;obtain⟨t1,ht⟩:=and_true.1 ht;obtain⟨t2,t3⟩:=and_true.1 ht;have cn:a≠r1/\a≠r2/\r1≠r2:=by
  obtain⟨c1,c2⟩:=and_true.1 hd;obtain⟨c2,c3⟩:=and_true.1 c2;refine⟨fun e=>?_,fun e=>?_,fun e=>?_⟩<;>subst e
  ·rw[eg.2 rfl] at c1;cases c1
  ·rw[eg.2 rfl] at c2;cases c2
  ·rw[show Nat.beq r1 r1=true from eg.2 rfl] at c3;cases c3
 obtain⟨d1,d2,d3⟩:=cn;have ta:=(blt_eq _ _).mp t1;have tb:=(blt_eq _ _).mp t2;have tc:=(blt_eq _ _).mp t3;show(aF (rest.all AV.hi) <| (fH J h0 ns).bind fun _=>(bp a).bind fun o=>aA (rowOf o) fun cs=>aA (rootOf kp cs) fun q=>(bp q.2.1).bind fun o1=>aA (xr k o1) fun u=>(bp q.2.2).bind fun o2=>aA (rowOf o2) fun row=>
  aF (sf q.1&&row.all AV.bZ) <| aF (!Nat.beq a q.2.1&&(!Nat.beq a q.2.2&& !Nat.beq q.2.1 q.2.2)) <| aA (val ⟨q.1,u,row⟩ rest) fun p=>aF (p.1.hi&&bA kp p.2) <|
  (bI a<|some<|bO<|dQ p.2.R q.2.1 q.2.2).bind fun _=>(ln q.2.1<|some<|.tok k p.2.u).bind fun _=>(bI q.2.2<|some<|bO p.2.row).bind fun _=>M.pure p.1) s=_
 rw[hr,dB,M.bK<|wY hk,M.bK<|me n1 g1];generalize dP J h0 ns s=z at*;rw[HQ (by rw[Ar (r3:=0) (r4:=0)];exact aL.1 o3),cf,Rw Cl,cf];have Qt:Nat.blt r1 (aY a z).nx=true:=by rw[(fR a z).2.1];exact n2
 have vL:(aY a z).h.get r1=some (.tok k u):=by rw[(fR a z).1];exact g2
 rw[M.bK<|me Qt vL,MA,cf];have Qu:Nat.blt r2 (aY r1<|aY a z).nx=true:=by rw[(fR r1 _).2.1,(fR a z).2.1];exact n3
 have Qv:(aY r1<|aY a z).h.get r2=some (bO row):=by rw[(fR r1 _).1,(fR a z).1];exact g3
 rw[M.bK<|me Qu Qv,HQ<|aL.1 o4,cf];show(aF (sf R&&row.all AV.bZ) <| aF (!Nat.beq a r1&&(!Nat.beq a r2&& !Nat.beq r1 r2)) <| aA (val ⟨R,u,row⟩ rest) fun p=>aF (p.1.hi&&bA kp p.2) <| (bI a<|some<|bO<|dQ p.2.R r1 r2).bind fun _=>(ln r1<|some<|.tok k p.2.u).bind fun _=>(bI r2<|some<|bO p.2.row).bind fun _=>M.pure p.1) (aY r2<|aY r1<|aY a z)=_;rw[show sf R=true from o1,show row.all AV.bZ=true from o2,hd,hv];show(aF true <| aF true <| aA (some (y,aZ)) fun p=>aF (p.1.hi&&bA kp p.2) <| (bI a<|some<|bO<|dQ p.2.R r1 r2).bind fun _=>(ln r1<|some<|.tok k p.2.u).bind fun _=>(bI r2<|some<|bO p.2.row).bind fun _=>M.pure p.1) (aY r2<|aY r1<|aY a z)=_;rw[dB,dB,cf];show(aF (y.hi&&bA kp aZ) <| (bI a<|some<|bO<|dQ aZ.R r1 r2).bind fun _=>(ln r1<|some<|.tok k aZ.u).bind fun _=>(bI r2<|some<|bO aZ.row).bind fun _=>M.pure y) (aY r2<|aY r1<|aY a z)=_;rw[hy,kJ];show(aF true <| (bI a<|some<|bO<|dQ aZ.R r1 r2).bind fun _=>(ln r1<|some<|.tok k aZ.u).bind fun _=>(bI r2<|some<|bO aZ.row).bind fun _=>M.pure y) (aY r2<|aY r1<|aY a z)=_;rw[dB];have zz:(aY r2<|aY r1<|aY a z).nx=z.nx/\(aY r2<|aY r1<|aY a z).h=z.h:=⟨by rw[(fR r2 _).2.1,(fR r1 _).2.1,(fR a z).2.1],by rw[(fR r2 _).1,(fR r1 _).1,(fR a z).1]⟩;generalize aY r2 (aY r1<|aY a z)=v at*;rw[M.bK<|yH (by rw[zz.1];exact n1) (by rw[zz.2];exact g1) rfl t1];have v1:(fE a (some<|bO<|dQ aZ.R r1 r2) v).h.get r1=some (.tok k u):=by rw[(F3 _ _ _).2,Tr.dk _ _ _ _ ta tb,if_neg<|Ne.symm d1,zz.2];exact g2
 have v2:(fE a (some<|bO<|dQ aZ.R r1 r2) v).h.get r2=some (bO row):=by rw[(F3 _ _ _).2,Tr.dk _ _ _ _ ta tc,if_neg<|Ne.symm d2,zz.2];exact g3
 have v3:(fE a (some<|bO<|dQ aZ.R r1 r2) v).nx=z.nx:=by rw[(F3 _ _ _).1,zz.1]
 generalize fE a (some<|bO<|dQ aZ.R r1 r2) v=v' at*;rw[M.bK<|Nz (by rw[v3];exact n2) v1 rfl t2];rw[M.bK<|yH (by rw[(F3 _ _ _).1,v3];exact n3) (by rw[(F3 _ _ _).2,Tr.dk _ _ _ _ tb tc,if_neg<|Ne.symm d3];exact v2) rfl t3];rfl
noncomputable section
def F4(J:Nat)(h0:Tr ae)(ns:List Nat)(k a r1 r2:Nat)(st:VS)(s:AS):Prop:=qB J h0 ns s=true/\(Nat.blt a (dP J h0 ns s).nx&&(Nat.blt r1 (dP J h0 ns s).nx&&Nat.blt r2 (dP J h0 ns s).nx))=true/\(dP J h0 ns s).h.get a=some (bO<|dQ st.R r1 r2)/\(dP J h0 ns s).h.get r1=some (.tok k st.u)/\(dP J h0 ns s).h.get r2=some (bO st.row)
def JW(J:Nat)(h0:Tr ae)(ns:List Nat)(k a r1 r2:Nat)(aZ:VS)(s:AS):AS:=fE r2 (some<|bO aZ.row)<|fE r1 (some<|.tok k aZ.u)<|fE a (some<|bO<|dQ aZ.R r1 r2)<|aY r2<|aY r1<|aY a<|dP J h0 ns s
def VY(J:Nat)(h0:Tr ae)(ns:List Nat)(a r1 r2:Nat)(s:AS):AS:=aY r2<|aY r1<|aY a<|dP J h0 ns s
end
theorem afw{a b c:ae}{T:Prop}(t:T):(true=true/\true=true/\some a=some a/\some b=some b/\some c=some c)/\T:=⟨⟨rfl,rfl,rfl,rfl,rfl⟩,t⟩
theorem NI{P:Program}{g J kp k:Nat}{h0:Tr ae}{ns:List Nat}{val:VS->List AV->Option (AV×VS)}(h:sp g=some (m8 kp k val J ns h0)){a:Nat}{st aZ:VS}(hr:rest.all AV.hi=true)(hd:(!Nat.beq a r1&&(!Nat.beq a r2&& !Nat.beq r1 r2))=true)(ht:(Nat.blt a top&&(Nat.blt r1 top&&Nat.blt r2 top))=true)(Cl:st.R.pre.length=kp)(ho:bA kp st=true)(hv:val st rest=some (y,aZ))(hy:y.hi=true)(kJ:bA kp aZ=true):
 ∀s,F4 J h0 ns k a r1 r2 st s->bg P sp F (n+1) (.fn g) (.ptr (some (a,0))::rest) s= .ok y (JW J h0 ns k a r1 r2 aZ s):=
 fun _ q=>aaS h q.1 hr hd q.2.1 ht q.2.2.1 q.2.2.2.1 q.2.2.2.2 Cl ho hv hy kJ
end Go.Rn
namespace Go.Rn
open Go.RowKit
variable {y:AV} {st:VS} {sp:Sp} {s:AS} {rest:List AV} {r2 r1 n a:Nat} {F:Nat->Option (List AV)}
noncomputable section
def m9(kp k:Nat)(val:VS->List AV->Option AV)(J:Nat)(ns:List Nat)(h0:Tr ae):aI->List AV->M AV:=fun _ args=>match args with
 | .ptr (some (n,0))::rest=>aF (rest.all AV.hi) <| (fH J h0 ns).bind fun _=>(bp n).bind fun o=>aA (rowOf o) fun cs=>aA (rootOf kp cs) fun q=>(bp q.2.1).bind fun o1=>aA (xr k o1) fun u=>(bp q.2.2).bind fun o2=>aA (rowOf o2) fun row=>aF (sf q.1&&row.all AV.bZ) <| aF (!Nat.beq n q.2.1&&(!Nat.beq n q.2.2&& !Nat.beq q.2.1 q.2.2)) <| aA (val ⟨q.1,u,row⟩ rest) fun y=>aF (y.hi&&(Nat.blt n top&&(Nat.blt q.2.1 top&&Nat.blt q.2.2 top))) <| M.pure y
 |_=>fail
end
theorem Yd.m9(kp k:Nat)(val:VS->List AV->Option AV)(J:Nat)(ns:List Nat)(h0:Tr ae)(Ye:aI)(args:List AV):Yd<|m9 kp k val J ns h0 Ye args:=by
 unfold Rn.m9;split
 ·exact Yd.aF fun _=>Yd.bind (Yd.fH J h0 ns) fun _=>Yd.bind (Yd.bp _) fun _=>Yd.aA fun _ _=>Yd.aA fun _ _=>Yd.bind (Yd.bp _) fun _=>Yd.aA fun _ _=>Yd.bind (Yd.bp _) fun _=>Yd.aA fun _ _=>Yd.aF fun _=>Yd.aF fun _=>Yd.aA fun _ _=>Yd.aF fun _=>Yd.pure _
 ·exact Yd.fail
theorem aaX{P:Program}{B:aJ}{f J kp k:Nat}{ns:List Nat}{h0:Tr ae}{kn:List<|Nat×Option ae}{val:VS->List AV->Option AV}{fn:Func}{body:Code}{ρ:aw}{w:World}{s1:AS}(hP:bE P)(cm:P.funcs[f]? =some fn)(cv:fn.body=some body)(dJ:(fn.name == "runtime.NumGoroutine")=false)(fX:fN<=J)(dM:J+3<=top)(dK:∀n o,n<top->h0.get n=some o->n∈ns)(dm:∀n∈ns,n<J)(jx:∀n o,(n,some o)∈kn->h0.get n=some o)(jy:∀p∈kn,p.1<top)(eP:∀st rest y,val st rest=some y->bA kp st=true->max fn.ntmps (rest.length+1)<=top/\∀B':aJ,B'.F=B.F->B'.inv=B.inv->
 au P B' (J+3) (gV J k P fn.results.toList y st) ⟨f,eh<|.ptr (some (J,0))::rest,max fn.ntmps<|rest.length+1,[.code body],[],none⟩ ⟨gf<|kn++bu (dC J k st),J+3,0,[],[]⟩){Ye:aI}{args:List AV}{x:AV}{vs:Array Value}(r:Rel B ρ s.h w)(hg:gd ρ)(h:m9 kp k val J ns h0 Ye args s= .ok x s1)(hv:ay ρ args vs.toList):jo P ((callFunc f vs).run P w)<|kh B ρ s s1 w x:=by
 unfold m9 at h;split at h
 case h_2=>cases h
 rename_i n rest;obtain⟨gH,h⟩:=cW h;obtain⟨u,s2,h2,h⟩:=M.aP h;obtain⟨a1,a2,a3⟩:=uv h2;obtain⟨o,s3,k1,h⟩:=M.aP h;obtain⟨cs,m1,h⟩:=bt h;obtain⟨q,m2,h⟩:=bt h;obtain⟨o1,s4,k2,h⟩:=M.aP h;obtain⟨tv,m3,h⟩:=bt h;obtain⟨o2,s5,k3,h⟩:=M.aP h;obtain⟨row,m4,h⟩:=bt h;obtain⟨dz,h⟩:=cW h;obtain⟨Gy,eO⟩:=and_true.1 dz;obtain⟨cn,h⟩:=cW h;obtain⟨y,hp,h⟩:=bt h;obtain⟨kD,h⟩:=cW h;obtain⟨Qp,kD⟩:=and_true.1 kD;obtain⟨x2,kD⟩:=and_true.1 kD;obtain⟨y2,z2⟩:=and_true.1 kD;have x2:=(blt_eq _ _).mp x2;have y2:=(blt_eq _ _).mp y2;have z2:=(blt_eq _ _).mp z2;obtain⟨rfl,rfl⟩:=bD h;obtain⟨R,n1,n2⟩:=q;have DX:n≠n1/\n≠n2/\n1≠n2:=by
  obtain⟨c1,c2⟩:=and_true.1 cn;obtain⟨c2,c3⟩:=and_true.1 c2;refine⟨fun e=>?_,fun e=>?_,fun e=>?_⟩<;>subst e
  ·rw[eg.2 rfl] at c1;cases c1
  ·rw[eg.2 rfl] at c2;cases c2
  ·rw[show Nat.beq n1 n1=true from eg.2 rfl] at c3;cases c3
 obtain⟨d1,d2,d3⟩:=DX;obtain⟨rfl,oO⟩:=HP m1;have ue:=RZ m2;subst ue;have G8:=Mz m3;subst G8;obtain⟨rfl,G9⟩:=HP m4;obtain⟨b1,b2,b3,b4⟩:=fY k1;obtain⟨b5,b6,b7,b8⟩:=fY k2;obtain⟨b9,Qq,Qr,Qs⟩:=fY k3;have g1:s.h.get n=some (bO<|dQ R n1 n2):=by rw[←a1];exact b2
 have g2:s.h.get n1=some (.tok k tv):=by rw[←a1, ←b3];exact b6
 have g3:s.h.get n2=some (bO row):=by rw[←a1, ←b3, ←b7];exact Qq
 let V:Vw:=[(J,n,bO<|dQ R (J+1)<|J+2),(J+1,n1,.tok k tv),(J+2,n2,bO row)];have mem:∀q∈V,q=(J,n,bO<|dQ R (J+1)<|J+2)\/q=(J+1,n1,.tok k tv)\/q=(J+2,n2,bO row):=fun q hq=>by simpa[V] using hq
 have V0:(J,n,bO<|dQ R (J+1)<|J+2)∈V:=by simp[V]
 have V1:(J+1,n1,ae.tok k tv)∈V:=by simp[V]
 have V2:(J+2,n2,bO row)∈V:=by simp[V]
 have e0:eQ J ρ V J=ρ n:=by
  unfold eQ;rw[if_neg aj,if_neg aj];have:gK V J=some n:=by simp[gK,V]
  rw[this]
 have e1:eQ J ρ V (J+1)=ρ n1:=by
  unfold eQ;rw[if_neg aj,if_neg aj];have:gK V (J+1)=some n1:=by simp[gK,V]
  rw[this]
 have e2:eQ J ρ V (J+2)=ρ n2:=by
  unfold eQ;rw[if_neg aj,if_neg aj];have:gK V (J+2)=some n2:=by simp[gK,V]
  rw[this]
 have hi:jq ρ<|eQ J ρ V:=fun m x hm e=>by rw[yI aj hm];exact e
 have hV:zX J ρ s.h V:=by
  refine⟨fun q hq=>?_,fun q hq q' dS e=>?_,fun q hq q' dS e=>?_,fun q hq=>?_⟩
  ·rcases mem q hq with rfl|rfl|rfl
   ·exact⟨Nat.le_refl _,by show J<top;omega,x2⟩
   ·exact⟨by show J<=J+1;omega,by show J+1<top;omega,y2⟩
   ·exact⟨by show J<=J+2;omega,by show J+2<top;omega,z2⟩
  ·rcases mem q hq with rfl|rfl|rfl<;>rcases mem q' dS with rfl|rfl|rfl<;>first|rfl|(simp only at e;omega)
  ·rcases mem q hq with rfl|rfl|rfl<;>rcases mem q' dS with rfl|rfl|rfl<;>first|rfl|(exact absurd e<|by assumption)|(exact absurd e.symm<|by assumption)
  ·rcases mem q hq with rfl|rfl|rfl
   ·exact⟨_,g1,.inl ⟨rfl,rfl,fun N o' hO=>IE hi oO Gy (fun x e=>e1.trans e) (fun x e=>e2.trans e) hO⟩⟩
   ·exact⟨_,g2,.inr ⟨k,tv,rfl,rfl⟩⟩
   ·exact⟨_,g3,.inl ⟨rfl,rfl,fun N o' hO=>DE hi G9 eO hO⟩⟩
 obtain⟨_,cV,T⟩:=r.tk;have T:DW B ρ s.h w cV:=T;have nL:=JO aj r T dK dm jx jy (fun n hn=>by obtain⟨_,o,p,h⟩:=a3 n hn;exact⟨o,p,h⟩) hV;have hS:bA kp ⟨R,tv,row⟩=true:=and_true.2 ⟨Gy,and_true.2 ⟨eO,and_true.2 ⟨aL.2 (by rw[Ar (r3:=n1) (r4:=n2)];exact oO),aL.2 G9⟩⟩⟩;obtain⟨q1,q2⟩:=eP _ _ _ hp hS;have fi:bx (⟨gf<|kn++bu (dC J k ⟨R,tv,row⟩),J+3,0,[],[]⟩:AS):=⟨Nat.zero_le _,dM⟩;have iL:ay (eQ J ρ V) (.ptr (some (J,0))::rest) vs.toList:=by simp only[ay,VR] at hv ⊢;obtain⟨v0,vr,q1,⟨b',N',q2,q3⟩,q4⟩:=hv;exact⟨v0,vr,q1,⟨b',N',e0.trans q2,q3⟩,AV.Ba hi gH q4⟩
 have bC:=au.FC (B:=tB B ρ w<|wH ρ cV V) (s:=⟨gf<|kn++bu (dC J k ⟨R,tv,row⟩),J+3,0,[],[]⟩) (args:=.ptr (some (J,0))::rest) (vs:=vs) hP cm cv q1 (q2 _ rfl rfl) fi nL (fun g iB=>by
  obtain⟨N,e⟩:=hg g iB;exact⟨N,by rw[CS<|Nat.lt_of_lt_of_le iB fX];exact e⟩) (fun m hm jZ=>by
  have hm:J+3<=m:=hm;exact HO aj jZ fun q hq=>by rcases mem q hq with rfl|rfl|rfl<;>(show _≠m;simp only;omega)) iL
 rw[uw cm cv dJ];show Calls P f vs w _;refine bC.mono fun e w'=>?_;rintro ⟨Cf,x',s7,rfl,⟨rfl,hL⟩,_,σ,i0,Cg,i1,i2,i3⟩;have sV:∀q∈V,σ q.1=ρ q.2.1:=fun q hq=>by
  rcases mem q hq with rfl|rfl|rfl
  ·exact(i0 J aj aj).trans e0
  ·exact(i0 (J+1) aj aj).trans e1
  ·exact(i0 (J+2) aj aj).trans e2
 have j1:=hL J (bO<|dQ R (J+1)<|J+2) (by simp[dC]);have j2:=hL (J+1) (.tok k tv) (by simp[dC]);have j3:=hL (J+2) (bO row) (by simp[dC]);have ll:(dQ R (J+1)<|J+2).length<=top:=by rw[Ar (r3:=n1) (r4:=n2)];exact oO
 have F2:∀k,k<top->cG ρ σ k=ρ k:=fun k hk=>by unfold cG;rw[if_neg aj]
 have qN:jq σ<|cG ρ σ:=fun k x hk e=>by unfold cG;rw[if_pos hk];exact e
 have hh1:s1.h=s.h:=by rw[Qr,b7,b3,a1]
 obtain⟨f1,f2,f3,f4⟩:=I8 (a:=s.nx) (L2:=[(n,bO<|dQ R n1 n2),(n1,.tok k tv),(n2,bO row)]) (h':=s1.h) r T hV i2 i3 sV (fun m z hm q=>Cg m z hm<|hi m z hm q) (fun m q hm=>by
  rcases List.mem_cons.1 hm with hm|hm
  ·cases hm;exact⟨_,V0,rfl,_,j1,.inl ⟨rfl,rfl,fun N o' hO=>IE qN ll Gy (fun x e=>by rw[F2 _ y2, ←sV _ V1];exact e) (fun x e=>by rw[F2 _ z2, ←sV _ V2];exact e) hO⟩⟩
  rcases List.mem_cons.1 hm with hm|hm
  ·cases hm;exact⟨_,V1,rfl,_,j2,.inr ⟨k,_,tv,rfl,rfl,rfl⟩⟩
  rcases List.mem_cons.1 hm with hm|hm
  ·cases hm;exact⟨_,V2,rfl,_,j3,.inl ⟨rfl,rfl,fun N o' hO=>DE qN G9 eO hO⟩⟩
  cases hm) (fun q hq cw=>by
  rcases mem q hq with rfl|rfl|rfl
  ·exact⟨_,j1,rfl⟩
  ·cases cw
  ·exact⟨_,j3,rfl⟩) (fun m hm=>by
  rw[hh1];by_cases c3:m=n2
  ·subst c3;exact .inl ⟨_,by simp,g3⟩
  by_cases c2:m=n1
  ·subst c2;exact .inl ⟨_,by simp,g2⟩
  by_cases c1:m=n
  ·subst c1;exact .inl ⟨_,by simp,g1⟩
  exact .inr ⟨fun q hq=>by rcases mem q hq with rfl|rfl|rfl<;>(intro e;exact absurd e.symm<|by assumption),rfl⟩)
 refine⟨Cf,rfl,cG ρ σ,?_,AV.pd qN Qp i1,f3,f4⟩;have cM:s1.nx=s.nx:=by rw[Qs,b8,b4,a2]
 rw[cM];exact f1
section
variable {X:TX} {P:Program} {J kp k:Nat} {ns:List Nat} {h0:Tr ae} {kn:List<|Nat×Option ae} {L L':bY} {g:Nat} {fn:Func} {body:Code}
theorem EY(hP:bE P)(fX:fN<=J)(dM:J+3<=top)(dK:∀n o,n<top->h0.get n=some o->n∈ns)(dm:∀n∈ns,n<J)(jx:∀n o,(n,some o)∈kn->h0.get n=some o)(jy:∀p∈kn,p.1<top){val:VS->List AV->Option AV}(h:eA X J P<|dA J ns h0 L)(h':eA X J P<|dA J ns h0 L')(cm:P.funcs[g]? =some fn)(cv:fn.body=some body)(dJ:(fn.name == "runtime.NumGoroutine")=false)(eP:∀st rest y,val st rest=some y->bA kp st=true->max fn.ntmps (rest.length+1)<=top/\∀B:aJ,qC X P J ns h0 L' B->
 au P B (J+3) (gV J k P fn.results.toList y st) ⟨g,eh<|.ptr (some (J,0))::rest,max fn.ntmps<|rest.length+1,[.code body],[],none⟩ ⟨gf<|kn++bu (dC J k st),J+3,0,[],[]⟩):eA X J P<|dA J ns h0<|(g,.raw<|m9 kp k val)::L:=by
 refine(show eA X J P (pv (dA J ns h0 L) g<|m9 kp k val J ns h0) from h.mQ (fun Ye _ args=>Yd.m9 _ _ _ _ _ _ Ye args) fun B hB hT Ye hc hl args x s s1 ρ w vs fi r hg hf hm hv=>?_);refine aaX hP cm cv dJ fX dM dK dm jx jy (fun st rest y e eo=>?_) r hg hm hv;obtain⟨q1,q2⟩:=eP st rest y e eo;exact⟨q1,fun B' lH lI=>q2 B'<|rE hP h' (lH.trans hB)<|lI.trans hT⟩
end
theorem Z1{P:Program}{g J kp k:Nat}{h0:Tr ae}{ns:List Nat}{val:VS->List AV->Option AV}(h:sp g=some (m9 kp k val J ns h0))(hk:qB J h0 ns s=true)(hr:rest.all AV.hi=true)(hd:(!Nat.beq a r1&&(!Nat.beq a r2&& !Nat.beq r1 r2))=true)(hn:(Nat.blt a (dP J h0 ns s).nx&&(Nat.blt r1 (dP J h0 ns s).nx&&Nat.blt r2 (dP J h0 ns s).nx))=true)(ht:(Nat.blt a top&&(Nat.blt r1 top&&Nat.blt r2 top))=true)(g1:(dP J h0 ns s).h.get a=some (bO<|dQ st.R r1 r2))(g2:(dP J h0 ns s).h.get r1=some (.tok k st.u))(g3:(dP J h0 ns s).h.get r2=some (bO st.row))(Cl:st.R.pre.length=kp)(ho:bA kp st=true)(hv:val st rest=some y)(hy:y.hi=true):
 bg P sp F (n+1) (.fn g) (.ptr (some (a,0))::rest) s= .ok y (aY r2<|aY r1<|aY a<|dP J h0 ns s):=by
 obtain⟨R,u,row⟩:=st;show ko P sp g (bg P sp F n) (.ptr (some (a,0))::rest) s=_;rw[uN h];have BY:=ho;obtain⟨o1,ho⟩:=and_true.1 ho;obtain⟨o2,ho⟩:=and_true.1 ho;obtain⟨o3,o4⟩:=and_true.1 ho;obtain⟨n1,hn⟩:=and_true.1 hn;obtain⟨n2,n3⟩:=and_true.1 hn;obtain⟨t1,ht⟩:=and_true.1 ht;obtain⟨t2,t3⟩:=and_true.1 ht;have cn:a≠r1/\a≠r2/\r1≠r2:=by
  obtain⟨c1,c2⟩:=and_true.1 hd;obtain⟨c2,c3⟩:=and_true.1 c2;refine⟨fun e=>?_,fun e=>?_,fun e=>?_⟩<;>subst e
  ·rw[eg.2 rfl] at c1;cases c1
  ·rw[eg.2 rfl] at c2;cases c2
  ·rw[show Nat.beq r1 r1=true from eg.2 rfl] at c3;cases c3
 obtain⟨d1,d2,d3⟩:=cn;have ta:=(blt_eq _ _).mp t1;have tb:=(blt_eq _ _).mp t2;have tc:=(blt_eq _ _).mp t3;show(aF (rest.all AV.hi) <| (fH J h0 ns).bind fun _=>(bp a).bind fun o=>aA (rowOf o) fun cs=>aA (rootOf kp cs) fun q=>(bp q.2.1).bind fun o1=>aA (xr k o1) fun u=>(bp q.2.2).bind fun o2=>aA (rowOf o2) fun row=>aF (sf q.1&&row.all AV.bZ) <| aF (!Nat.beq a q.2.1&&(!Nat.beq a q.2.2&& !Nat.beq q.2.1 q.2.2)) <| aA (val ⟨q.1,u,row⟩ rest) fun y=>aF (y.hi&&(Nat.blt a top&&(Nat.blt q.2.1 top&&Nat.blt q.2.2 top))) <| M.pure y) s=_;rw[hr,dB,M.bK<|wY hk,M.bK<|me n1 g1];generalize dP J h0 ns s=z at*;rw[HQ (by rw[Ar (r3:=0) (r4:=0)];exact aL.1 o3),cf,Rw Cl,cf];have Qt:Nat.blt r1 (aY a z).nx=true:=by rw[(fR a z).2.1];exact n2
 have vL:(aY a z).h.get r1=some (.tok k u):=by rw[(fR a z).1];exact g2
 rw[M.bK<|me Qt vL,MA,cf];have Qu:Nat.blt r2 (aY r1<|aY a z).nx=true:=by rw[(fR r1 _).2.1,(fR a z).2.1];exact n3
 have Qv:(aY r1<|aY a z).h.get r2=some (bO row):=by rw[(fR r1 _).1,(fR a z).1];exact g3
 rw[M.bK<|me Qu Qv,HQ<|aL.1 o4,cf];show(aF (sf R&&row.all AV.bZ) <| aF (!Nat.beq a r1&&(!Nat.beq a r2&& !Nat.beq r1 r2)) <| aA (val ⟨R,u,row⟩ rest) fun y=>aF (y.hi&&(Nat.blt a top&&(Nat.blt r1 top&&Nat.blt r2 top))) <| M.pure y) (aY r2<|aY r1<|aY a z)=_;rw[show sf R=true from o1,show row.all AV.bZ=true from o2,hd,hv];show(aF true <| aF true <| aA (some y) fun y=>aF (y.hi&&(Nat.blt a top&&(Nat.blt r1 top&&Nat.blt r2 top))) <| M.pure y) (aY r2<|aY r1<|aY a z)=_;rw[dB,dB,cf,hy,t1,t2,t3];rfl
theorem acf{P:Program}{g J kp k:Nat}{h0:Tr ae}{ns:List Nat}{val:VS->List AV->Option AV}(h:sp g=some (m9 kp k val J ns h0))(hr:rest.all AV.hi=true)(hd:(!Nat.beq a r1&&(!Nat.beq a r2&& !Nat.beq r1 r2))=true)(ht:(Nat.blt a top&&(Nat.blt r1 top&&Nat.blt r2 top))=true)(Cl:st.R.pre.length=kp)(ho:bA kp st=true)(hv:val st rest=some y)(hy:y.hi=true):
 ∀s,F4 J h0 ns k a r1 r2 st s->bg P sp F (n+1) (.fn g) (.ptr (some (a,0))::rest) s= .ok y (VY J h0 ns a r1 r2 s):=
 fun _ q=>Z1 h q.1 hr hd q.2.1 ht q.2.2.1 q.2.2.2.1 q.2.2.2.2 Cl ho hv hy
end Go.Rn
namespace Go.Rn
open Go.RowKit
variable {rest:List AV} {n:Nat}
noncomputable section
def lW(k:Nat)(val:AV->List AV->Option AV)(J:Nat)(ns:List Nat)(h0:Tr ae):aI->List AV->M AV:=fun _ args=>match args with
 | .ptr (some (n,0))::rest=>aF (rest.all AV.hi&&Nat.ble J n) <| (fH J h0 ns).bind fun _=>(bp n).bind fun o=>aA (xr k o) fun v=>aA (val v rest) fun y=>aF (y.hi&&Nat.blt n top) <| M.pure y
 |_=>fail
end
theorem Yd.lW(k:Nat)(val:AV->List AV->Option AV)(J:Nat)(ns:List Nat)(h0:Tr ae)(Ye:aI)(args:List AV):Yd<|lW k val J ns h0 Ye args:=by
 unfold Rn.lW;split
 ·exact Yd.aF fun _=>Yd.bind (Yd.fH J h0 ns) fun _=>Yd.bind (Yd.bp _) fun _=>Yd.aA fun _ _=>Yd.aA fun _ _=>Yd.aF fun _=>Yd.pure _
 ·exact Yd.fail
noncomputable def DI(val:AV->List AV->Option AV)(v:AV)(rest:List AV):Option<|AV×AV:=(val v rest).map fun y=>(y,v)
theorem aa5{J k:Nat}{ns:List Nat}{h0:Tr ae}{val:AV->List AV->Option AV}{Ye:aI}{x:AV}{s s1:AS}(h:lW k val J ns h0 Ye (.ptr (some (n,0))::rest) s= .ok x s1):
 ∃Er,xP J ns h0 k (DI val) Ye (.ptr (some (n,0))::rest) s= .ok x Er/\Er.nx=s1.nx/\∀m,m<top->s1.h.get m=Er.h.get m:=by
 unfold lW at h;obtain⟨hh,h1⟩:=cW h;obtain⟨u,s2,h2,h3⟩:=M.aP h1;obtain⟨o,s3,h4,h5⟩:=M.aP h3;obtain⟨v,h6,h7⟩:=bt h5;obtain⟨y,h8,h9⟩:=bt h7;obtain⟨gE,ud⟩:=cW h9;obtain⟨hy,ht⟩:=and_true.1 gE;obtain⟨rfl,rfl⟩:=bD ud;have ho:=Mz h6;subst ho;obtain⟨b1,b2,b3,b4⟩:=fY h4;have hg:s1.h.get n=some (.tok k v):=by rw[b3];exact b2
 have hn:Nat.blt n s1.nx=true:=(blt_eq _ _).mpr (by rw[b4];exact b1);have hw:=Nz (p:=.tok k v) (o:=some<|.tok k v) hn hg rfl ht;refine⟨fE n (some<|.tok k v) s1,?_,?_,fun m hm=>?_⟩
 ·show(aF (rest.all AV.hi&&Nat.ble J n) <| (fH J h0 ns).bind fun _=>(bp n).bind fun o=>match o with
   | .tok k' v=>aF (Nat.beq k k') <| aA (DI val v rest) fun p=>aF p.1.hi <| (ln n<|some<|.tok k p.2).bind fun _=>M.pure p.1
   |_=>fail) s=_
  rw[hh,dB,M.bK h2,M.bK h4];show(aF (Nat.beq k k) <| aA (DI val v rest) fun p=>aF p.1.hi <| (ln n<|some<|.tok k p.2).bind fun _=>M.pure p.1) s1=_;rw[eg.2 rfl,dB];unfold DI;rw[h8];show(aF x.hi <| (ln n<|some<|.tok k v).bind fun _=>M.pure x) s1=_;rw[hy,dB,M.bK hw];rfl
 ·unfold fE;cases Nat.blt n s1.mark<;>rfl
 ·have e:(fE n (some<|.tok k v) s1).h=s1.h.put n (some<|.tok k v):=by unfold fE;cases Nat.blt n s1.mark<;>rfl
  rw[e,Tr.lM _ _ _ _<|(blt_eq _ _).mp ht];by_cases q:m=n
  ·rw[if_pos q,q,hg]
  ·rw[if_neg q]
section
variable {X:TX} {P:Program} {J k:Nat} {ns:List Nat} {h0:Tr ae} {kn:List<|Nat×Option ae} {L L':bY} {g:Nat} {fn:Func} {body:Code}
theorem TN(hX:ye X J)(hP:bE P)(fX:fN<=J)(dM:J<=top)(dK:∀n o,n<top->h0.get n=some o->n∈ns)(dm:∀n∈ns,n<J)(jx:∀n o,(n,some o)∈kn->h0.get n=some o)(jy:∀p∈kn,p.1<top){val:AV->List AV->Option AV}(h:eA X J P<|dA J ns h0 L)(h':eA X J P<|dA J ns h0 L')(cm:P.funcs[g]? =some fn)(cv:fn.body=some body)(dJ:(fn.name == "runtime.NumGoroutine")=false)(eP:∀v rest y,val v rest=some y->max fn.ntmps (rest.length+1)<=top/\∀L,X k v L->∃nx,J<nx/\nx<=top/\(∀p∈L,p.1<nx)/\∀B:aJ,qC X P J ns h0 L' B->
 au P B (J+1) (iW X P fn.results.toList k y v) ⟨g,eh<|.ptr (some (J,0))::rest,max fn.ntmps<|rest.length+1,[.code body],[],none⟩ ⟨gf<|kn++bu L,nx,0,[],[]⟩):eA X J P<|dA J ns h0<|(g,.raw<|lW k val)::L:=by
 refine(show eA X J P (pv (dA J ns h0 L) g<|lW k val J ns h0) from h.mQ (fun Ye _ args=>Yd.lW _ _ _ _ _ Ye args) fun B hB hT Ye hc hl args x s s1 ρ w vs fi r hg hf hm hv=>?_);have ha:∃n rest,args= .ptr (some (n,0))::rest:=by
  unfold lW at hm;split at hm
  ·exact⟨_,_,rfl⟩
  ·cases hm
 obtain⟨n,rest,rfl⟩:=ha;obtain⟨Er,e1,e2,e3⟩:=aa5 hm;have key:=Ts (val:=DI val) hX hT hP cm cv dJ fX dM dK dm jx jy (fun v rest y v' e=>by
  unfold DI at e;cases q:val v rest with
  |none=>rw[q] at e;cases e
  |some y1=>
   rw[q] at e;injection e with e;injection e with e1 e2
   subst e1;subst e2;obtain⟨q1,q2⟩:=eP v rest y1 q;refine⟨q1,fun L1 hL=>?_⟩;obtain⟨nx,n1,n2,n3,q3⟩:=q2 L1 hL;exact⟨nx,n1,n2,n3,fun B' lH lI=>q3 B'<|rE hP h' (lH.trans hB)<|lI.trans hT⟩) r hg e1 hv
 rw[uw cm cv dJ] at key ⊢;refine Calls.mono key fun e w'=>?_;rintro ⟨y,rfl,σ,c1,c2,c3,c4⟩;exact⟨y,rfl,σ,by rw[←e2];exact c1,c2,c3.congr e3,c4⟩
end
noncomputable section
def WZ(J:Nat)(h0:Tr ae)(ns:List Nat)(k n:Nat)(v:AV)(s:AS):Prop:=qB J h0 ns s=true/\Nat.blt n (dP J h0 ns s).nx=true/\(dP J h0 ns s).h.get n=some (.tok k v)
def W0(J:Nat)(h0:Tr ae)(ns:List Nat)(n:Nat)(s:AS):AS:=aY n<|dP J h0 ns s
end
theorem aea{P:Program}{F:Nat->Option (List AV)}{sp:Sp}{g m J k:Nat}{h0:Tr ae}{ns:List Nat}{val:AV->List AV->Option AV}(h:sp g=some (lW k val J ns h0)){v y:AV}(hr:(rest.all AV.hi&&Nat.ble J n)=true)(ht:Nat.blt n top=true)(hv:val v rest=some y)(hy:y.hi=true):
 ∀s,WZ J h0 ns k n v s->bg P sp F (m+1) (.fn g) (.ptr (some (n,0))::rest) s= .ok y (W0 J h0 ns n s):=fun s q=>by
 obtain⟨q1,q2,q3⟩:=q;show ko P sp g (bg P sp F m) (.ptr (some (n,0))::rest) s=_;rw[uN h];show(aF (rest.all AV.hi&&Nat.ble J n) <| (fH J h0 ns).bind fun _=>(bp n).bind fun o=>aA (xr k o) fun v=>aA (val v rest) fun y=>aF (y.hi&&Nat.blt n top) <| M.pure y) s=_;rw[hr,dB,M.bK<|wY q1,M.bK<|me q2 q3,MA,cf,hv,cf,hy,ht];rfl
end Go.Rn
open Go
namespace Go.Rn
section
variable {X:TX} {P:Program} {J:Nat} {ns:List Nat} {h0:Tr ae} {L:bY} {g:Nat} {fn:Func} {body:Code}
theorem aee{B:aJ}:U7 P B fun _=>0:=fun n f h=>by rcases h with h|h|h<;>cases h
theorem Z9(hP:bE P)(fX:fN<=J)(dM:J<=top)(dK:∀n o,n<top->h0.get n=some o->n∈ns)(dm:∀n∈ns,n<J){val:List AV->Option AV}(h:eA X J P<|dA J ns h0 L)(cm:P.funcs[g]? =some fn)(cv:fn.body=some body)(dJ:(fn.name == "runtime.NumGoroutine")=false)(eP:∀args v,val args=some v->∃n s1,vu P (fun _=>0) n (.fn g) args ⟨h0,J,0,[],[]⟩= .ok v s1):eA X J P<|dA J ns h0<|(g,.val val)::L:=by
 refine(show eA X J P (pv (dA J ns h0 L) g<|o8 J ns h0 val) from h.mQ (fun Ye _ args=>Yd.o8 _ _ _ _ Ye args) fun B hB hT Ye hc hl args x s s1 ρ w vs fi r hg hf hm hv=>?_);unfold o8 at hm;obtain⟨gH,h1⟩:=cW hm;obtain⟨u,s2,h2,h3⟩:=M.aP h1;obtain⟨v,h4,h5⟩:=bt h3;obtain⟨h6,h7⟩:=cW h5;obtain⟨rfl,rfl⟩:=bD h7;obtain⟨a1,a2,a3⟩:=uv h2;obtain⟨n,s4,q⟩:=eP _ _ h4;have nL:=Dx dM r dK dm (fun n hn=>by obtain⟨_,o,p,h⟩:=a3 n hn;exact⟨o,p,h⟩);have fi:bx (⟨h0,J,0,[],[]⟩:AS):=⟨Nat.zero_le _,dM⟩;have zW:gd<|gg J ρ:=fun g iB=>by obtain⟨N,e⟩:=hg g iB;exact⟨N,by unfold gg;rw[if_pos<|Nat.lt_of_lt_of_le iB fX];exact e⟩
 have bC:=(Tb (B:=rp B ρ w) hP aee n).fn g args x ⟨h0,J,0,[],[]⟩ s4 (gg J ρ) w vs fi nL zW (fun k k1 _ k2=>by
  have k1:J<=k:=k1;unfold gg gj;rw[if_neg aj,if_neg aj])
  q (AV.Ba (fun k y hk e=>by rw[sH dM hk];exact e) gH hv)
 rw[uw cm cv dJ] at bC ⊢;have bC:Calls P g vs w _:=bC;show Calls P g vs w _;refine bC.mono fun e w'=>?_;rintro ⟨y,rfl,σ,e1,e2,e3,e4⟩;obtain⟨b1,b2,b3,b4⟩:=I6 (a:=s.nx) dM r e3 e4 e1.le;exact⟨y,rfl,cG ρ σ,by rw[a2];exact b1,AV.pd b2 h6 e2,by rw[a1];exact b3,b4⟩
end
end Go.Rn
namespace Go.Rn
open Go.RowKit Go.ChangeShapes
variable {ρ:aw} {v:Value} {α:Type} {t e:TypeId} {fuel K:Nat}
abbrev mD:=List<|Nat×Nat×List AV
def Has(σ:aw)(ms:mD):Prop:=∀p∈ms,σ (hn (nm p.2.2) p.1 p.2.1)≠none
def Good(w:World)(ms:mD):Prop:=∀p∈ms,p.2.2.all AV.gb=true/\∃c e fr,w.heap[p.1]? =some (.cells c e fr)/\∀(i:Nat) (x:AV),p.2.2[i]? =some x->∃v,c[p.2.1+i]? =some v/\∀σ,Has σ ms->VR (gj σ) x v
def Is(ms:mD)(x:AV)(v:Value):Prop:=∀σ,Has σ ms->VR (gj σ) x v
theorem Has.sub{σ:aw}{a b:mD}(h:Has σ b)(hs:∀p∈a,p∈b):Has σ a:=fun p hp=>h p<|hs p hp
theorem Is.sub{a b:mD}{x:AV}(h:Is a x v)(hs:∀p∈a,p∈b):Is b x v:=fun σ hh=>h σ<|hh.sub hs
theorem Good.nil{w:World}:Good w []:=fun p hp=>by cases hp
theorem Good.app{w:World}{a b:mD}(h:Good w a)(k:Good w b):Good w<|a++b:=fun p hp=>by
 rcases List.mem_append.1 hp with hp|hp
 ·obtain⟨h1,c,e,fr,h2,h3⟩:=h p hp;exact⟨h1,c,e,fr,h2,fun i x hx=>by obtain⟨v,k1,k2⟩:=h3 i x hx;exact⟨v,k1,fun σ hh=>k2 σ<|hh.sub fun p hp=>List.mem_append_left _ hp⟩⟩
 ·obtain⟨h1,c,e,fr,h2,h3⟩:=k p hp;exact⟨h1,c,e,fr,h2,fun i x hx=>by obtain⟨v,k1,k2⟩:=h3 i x hx;exact⟨v,k1,fun σ hh=>k2 σ<|hh.sub fun p hp=>List.mem_append_right _ hp⟩⟩
section
variable {H:Type} {enc:TypeId×Value->H} {P:Program} {w:World} {base:Nat} {spare:Nat->Bool} {held:Bool}
theorem S4{a:Addr}{n:Nat}{cs:List Value}(h:w.cells? base a n=some cs):cs.length=n/\∀(j:Nat) (x:Value),cs[j]? =some x->w.cell? (a.add j)=some x:=by
 unfold World.cells? at h;split at h
 ·have hlen:cs.length=n:=by simpa using mapM_some_length h
  refine⟨hlen,fun j x hx=>?_⟩;have hj:j<n:=by have:=(List.getElem?_eq_some_iff.1 hx).1;omega
  have:=mapM_some_get h j j (by simp[hj]);exact this.trans hx
 ·cases h
theorem TY(b o m:Nat):(⟨b,o,none⟩:Addr).add m=⟨b,o+m,none⟩:=by
 unfold Addr.add;split
 ·rename_i h;subst h;rfl
 ·rfl
theorem add_zero(a:Addr):a.add 0=a:=by unfold Addr.add;rw[if_pos rfl]
theorem abb{x:DataW H×List MemPlace}(DS:0<K)(ht:P.underlying t=some (.slice e))(hK:P.cellsOf e=K)(h:DataW.trod enc P w base spare held fuel t [v]=some x):
 (∃a cap,v= .slice a 0 cap/\(a=none->cap=0))\/∃(b o len cap:Nat) (c:Array Value) (el:TypeId) (fr:Nat×Nat) (rows:List<|List Value),v= .slice (some ⟨b,o,none⟩) len cap/\len<=cap/\w.heap[b]? =some (.cells c el fr)/\rows.length=len/\∀(i:Nat) (row:List Value),rows[i]? =some row->row.length=K/\(∃n y,n<fuel/\DataW.trod enc P w base spare held n e row=some y)/\∀(j:Nat) (x:Value),row[j]? =some x->c[o+i*K+j]? =some x:=by
 rcases DataW.trod_slice ht h with⟨h0,_⟩|⟨a,len,cap,elems,rest,n,Ya,ue,_,_,hl,_,hlen,hel,_,_⟩
 ·left;injection h0 with h0 _
  exact⟨none,0,h0,fun _=>rfl⟩
 ·injection ue with hv _
  subst hv;rcases Nat.eq_zero_or_pos len with rfl|hlp
  ·exact .inl ⟨some a,cap,rfl,fun e=>by cases e⟩
  right;have W2:∀i,i<len->∃cs y,w.cells? base (a.add<|i*K) K=some cs/\DataW.trod enc P w base spare held n e cs=some y:=fun i hi=>by have he:=hel i hi;rw[hK,List.getElem?_eq_getElem aj] at he;obtain⟨cs,h1,h2⟩:=Option.bind_eq_some_iff.1 he;exact⟨cs,_,h1,h2⟩
  obtain⟨cs0,_,h1,_⟩:=W2 0 hlp;obtain⟨k1,k2⟩:=S4 h1;have iM:=k2 0 _<|List.getElem?_eq_getElem aj;rw[Nat.zero_mul,add_zero,add_zero] at iM;have Kv:a.spot=none:=World.cell?_spot iM;obtain⟨b,o,sp⟩:=a;simp only at Kv;subst Kv;unfold World.cell? at iM;simp only at iM;cases hb:w.heap[b]? with
  |none=>rw[hb] at iM;cases iM
  |some ob=>
   rw[hb] at iM;cases ob with
   |cells c el fr=>
    refine⟨b,o,len,cap,c,el,fr,(List.range len).map fun i=>(w.cells? base ((⟨b,o,none⟩:Addr).add<|i*K) K).getD [],rfl,hl,hb,by simp,fun i row eO=>?_⟩;have hi:i<len:=by have:=(List.getElem?_eq_some_iff.1 eO).1;simpa using this
    obtain⟨cs,y,h1,h2⟩:=W2 i hi;rw[List.getElem?_map,List.getElem?_range hi,Option.map_some,h1] at eO;injection eO with eO
    have ahx:cs=row:=eO;subst ahx;obtain⟨k1,k2⟩:=S4 h1;refine⟨k1,⟨n,_,by omega,h2⟩,fun j x hx=>?_⟩;have:=k2 j x hx;rw[TY,TY] at this;unfold World.cell? at this;simp only[hb] at this;simpa using this
   |_=>cases iM
theorem Rx{β:Type}{K:Nat}:∀{l:List<|List β} {i:Nat} {x:β},(∀c∈l,c.length=K)->l.flatten[i]? =some x->∃q j row,l[q]? =some row/\row[j]? =some x/\i=q*K+j
 |[],i,x,_,h=>by simp at h
 |c::l,i,x,hl,h=>by
  have hc:=hl c List.mem_cons_self;rw[List.flatten_cons] at h;by_cases q:i<c.length
  ·rw[List.getElem?_append_left q] at h;exact⟨0,i,c,rfl,h,by omega⟩
  ·rw[List.getElem?_append_right aj] at h;obtain⟨a,j,row,h1,h2,h3⟩:=Rx (fun c' h'=>hl c'<|List.mem_cons_of_mem _ h') h;exact⟨a+1,j,row,by simpa using h1,h2,by rw[Nat.add_mul,Nat.one_mul];omega⟩
def JY(w:World)(tU:α->List AV)(Q:α->Prop)(row:List Value)(a:α)(ms:mD):Prop:=Q a/\Good w ms/\∀(j:Nat) (x:AV),(tU a)[j]? =some x->∃u,row[j]? =some u/\Is ms x u
theorem UU{α:Type}{tU:α->List AV}{Q:α->Prop}:∀{rows:List<|List Value},(∀row∈rows,∃a ms,JY w tU Q row a ms)->
 ∃(l:List α) (ms:mD),l.length=rows.length/\(∀a∈l,Q a)/\Good w ms/\∀(i:Nat) a row,l[i]? =some a->rows[i]? =some row->∀(j:Nat) (x:AV),(tU a)[j]? =some x->∃u,row[j]? =some u/\Is ms x u
 |[],_=>⟨[],[],rfl,(fun a ha=>by cases ha),Good.nil,(fun i a row h=>by simp at h)⟩
 |row::rows,h=>by
  obtain⟨a,ms,h1,h2,h3⟩:=h row List.mem_cons_self;obtain⟨l,ns,k1,k2,k3,k4⟩:=UU (rows:=rows) fun r hr=>h r<|List.mem_cons_of_mem _ hr;refine⟨a::l,ms++ns,(by simp[k1]),fun b hb=>?_,h2.app k3,fun i b r hb hr j x hx=>?_⟩
  ·rcases List.mem_cons.1 hb with rfl|hb
   ·exact h1
   ·exact k2 b hb
  ·cases i with
   |zero=>simp at hb hr;subst hb;subst hr;obtain⟨u,e1,e2⟩:=h3 j x hx;exact⟨u,e1,e2.sub fun p hp=>List.mem_append_left _ hp⟩
   |succ i=>simp at hb hr;obtain⟨u,e1,e2⟩:=k4 i b r hb hr j x hx;exact⟨u,e1,e2.sub fun p hp=>List.mem_append_right _ hp⟩
theorem Ik{tU:α->List AV}{Q:α->Prop}(he:ng K tU)(DS:0<K){x:DataW H×List MemPlace}(ht:P.underlying t=some (.slice e))(hK:P.cellsOf e=K)(eO:∀row:List Value,row.length=K->(∃n y,n<fuel/\DataW.trod enc P w base spare held n e row=some y)->∃a ms,JY w tU Q row a ms)(h:DataW.trod enc P w base spare held fuel t [v]=some x):
 ∃(l:List α) (ms:mD),(∀a∈l,Q a)/\Good w ms/\Is ms (aX tU l) v:=by
 rcases abb DS ht hK h with⟨a,cap,rfl,hz⟩|⟨b,o,len,cap,c,el,fr,rows,rfl,h2,h3,h4,h5⟩
 ·refine⟨[],[],(fun a ha=>by cases ha),Good.nil,fun σ _=>?_⟩;unfold aX;simp only[VR];exact .inl ⟨dU _,rfl,a,cap,rfl,hz,(fun e=>absurd e (zf _).1),fun e=>absurd e (zf _).2⟩
 ·obtain⟨l,ms,k1,k2,k3,k4⟩:=UU (w:=w) (tU:=tU) (Q:=Q) (rows:=rows) fun row hr=>by obtain⟨i,hi⟩:=List.mem_iff_getElem?.1 hr;obtain⟨a1,a2,_⟩:=h5 i row hi;exact eO row a1 a2
  refine⟨l,(b,o,(l.map tU).flatten)::ms,k2,fun p hp=>?_,fun σ hh=>?_⟩
  ·rcases List.mem_cons.1 hp with rfl|hp
   ·refine⟨he.all l,c,el,fr,h3,fun i x hx=>?_⟩;obtain⟨q,j,row,e1,e2,e3⟩:=Rx (K:=K) (fun c' Qw=>by obtain⟨a,_,rfl⟩:=List.mem_map.1 Qw;exact he.len a) hx;rw[List.getElem?_map] at e1;cases ha:l[q]? with
    |none=>rw[ha] at e1;cases e1
    |some a=>
     rw[ha] at e1;injection e1 with e1
     subst e1;have hq:q<rows.length:=by have:=(List.getElem?_eq_some_iff.1 ha).1;omega
     obtain⟨u,g1,g2⟩:=k4 q a rows[q] ha (List.getElem?_eq_getElem hq) j x e2;obtain⟨_,_,g4⟩:=h5 q rows[q]<|List.getElem?_eq_getElem hq;exact⟨u,by rw[e3, ←Nat.add_assoc];exact g4 j u g1,fun σ hh=>g2 σ<|hh.sub fun p hp=>List.mem_cons_of_mem _ hp⟩
   ·obtain⟨h1,c',e',nW,rT,PN⟩:=k3 p hp;exact⟨h1,c',e',nW,rT,fun i x hx=>by obtain⟨v,q1,q2⟩:=PN i x hx;exact⟨v,q1,fun σ hh=>q2 σ<|hh.sub fun p hp=>List.mem_cons_of_mem _ hp⟩⟩
  ·unfold aX;simp only[VR];refine .inr ⟨b,o,cap,.inr ⟨dU _,?_⟩,?_,fun _=>⟨by omega,(zf _).1⟩⟩
   ·have:=hh _ List.mem_cons_self;unfold gj;rw[if_pos<|fZ _ _ _];exact this
   ·rw[Nat.add_zero,k1,h4]
end
open Classical in
noncomputable def pj(ms:mD)(ρ:aw):aw:=fun k=>if ρ k=none/\∃p∈ms,k=hn (nm p.2.2) p.1 p.2.1 then some (0,0) else ρ k
theorem Il{ms:mD}:ρ.le<|pj ms ρ:=fun k x e=>by unfold pj;rw[if_neg (fun q=>by rw[e] at q;cases q.1)];exact e
theorem MG{ms:mD}{k:Nat}(hk:k<top):pj ms ρ k=ρ k:=by unfold pj;rw[if_neg (fun⟨_,p,_,q⟩=>by have:=fZ (nm p.2.2) p.1 p.2.1;omega)]
theorem S5{ms:mD}:Has (pj ms ρ) ms:=fun p hp=>by
 unfold pj;by_cases q:ρ (hn (nm p.2.2) p.1 p.2.1)=none
 ·rw[if_pos ⟨q,p,hp,rfl⟩];exact fun h=>by cases h
 ·rw[if_neg fun z=>q z.1];exact q
theorem Start.ahy(B:aJ){J:Nat}{h0:Tr ae}{w:World}{ms:mD}(S:Start J h0 ρ w)(ht:J<=top)(hg:Good w ms):Rel ⟨fun k=>w.heap.size<=k,FU,fun _=>True,B.inv,w.heap.size,B.mono⟩ (pj ms ρ) h0 w:=by
 have r:=S.rel ht;refine⟨fun n o hn h=>?_,fun n m o p b N M hn hm h1 h2 cS e1 e2=>?_,fun n m es ex left cur hn h=>?_,r.size,r.lone,fun n b sh e=>?_,tV.no (fun n k v hn hg=>by have:=(S.is n _ hn hg).1;cases this) ⟨Nat.le_refl _,fun n o hn hg _=>by obtain⟨_,b,N,o',h1,h2,_⟩:=S.is n o hn hg;exact⟨b,N,Il _ _ h1,gR h2⟩⟩⟩
 ·obtain⟨b,N,o',h1,h2,h3,h4⟩:=r.is n o hn h;exact⟨b,N,o',Il _ _ h1,h2,h3.mono Il,h4⟩
 ·rw[MG hn] at e1;rw[MG hm] at e2;exact r.one n m o p b N M hn hm h1 h2 cS e1 e2
 ·have:=(S.is n _ hn h).1;cases this
 ·refine⟨.inl trivial,?_⟩;have lY:ρ (hn n b sh)=Option.none:=S.free _<|Nat.le_trans ht<|fZ _ _ _;unfold pj at e;split at e
  ·rename_i q;obtain⟨_,p,hp,q⟩:=q;obtain⟨rfl,rfl,rfl⟩:=IX q;obtain⟨h1,c,el,fr,h2,h3⟩:=hg p hp;refine⟨p.2.2,c,el,fr,Dw h1,h2,fun m o N hm ho cw=>?_,fun i x hx=>?_⟩
   ·rw[ae.j9 (S.is m o hm ho).1] at cw;cases cw
   ·obtain⟨v,q1,q2⟩:=h3 i x hx;exact⟨v,q1,q2 _ S5,HN<|List.all_eq_true.1 h1 x<|List.mem_of_getElem? hx⟩
  ·exact absurd lY e
end Go.Rn
namespace Go.Rn
open Go.RowKit
variable {ρ:aw} {ty:TypeId} {J g:Nat} {h:Tr ae} {c:Array Value} {W:World}
theorem Start.ahB{m:Nat}{t:Tr AV}{fr:Nat×Nat}(S:Start J h ρ W)(PQ:g<top)(ks:ρ g=some (g,c.size))(hW:W.heap[g]? =some (.cells c ty fr))(hm:m=c.size)(row:∀i,i<m->∃x v,t.get i=some x/\x.cj=true/\c[i]? =some v/\VR ρ x v):Start J (h.put g<|some<|.ro m t) ρ W:=by
 refine⟨S.g,S.free,fun n o hn ho=>?_⟩;rw[Tr.dk _ _ _ _ PQ hn] at ho;by_cases q:n=g
 ·subst q;rw[if_pos rfl] at ho;injection ho with ho;subst ho
  exact⟨rfl,n,c.size,_,ks,hW,c,ty,fr,rfl,rfl,hm,row⟩
 ·rw[if_neg q] at ho;exact S.is n o hn ho
noncomputable section
end
theorem Start.alQ{fr:Nat×Nat}(S:Start J h ρ W)(low:∀k,k<fN->ρ k=Tc W k)(hg:g<fN)(hW:W.heap[g]? =some (.cells c ty fr))(l:List AV)(hl:l.length<=top)(hs:l.length=c.size)(row:∀(i:Nat) x,l[i]? =some x->x.cj=true/\∃v,c[i]? =some v/\VR ρ x v):Start J (h.put g<|some<|.ro l.length<|Tr.fill l 0 .nil) ρ W:=by
 refine S.ahB (Nat.lt_of_lt_of_le hg (by unfold fN top;decide)) ?_ hW hs fun i hi=>?_
 ·rw[low g hg];unfold Tc;rw[if_pos hg,hW]
 ·obtain⟨x,hx⟩:∃x,l[i]? =some x:=⟨l[i],List.getElem?_eq_getElem hi⟩;obtain⟨h1,v,h2,h3⟩:=row i x hx;exact⟨x,v,by rw[abB _ hl i hi];exact hx,h1,h2,h3⟩
end Go.Rn
