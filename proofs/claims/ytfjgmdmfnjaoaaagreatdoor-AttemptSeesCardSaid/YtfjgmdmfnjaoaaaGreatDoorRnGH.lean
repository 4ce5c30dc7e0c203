import Derived.Test.YtfjgmdmfnjaoaaaGreatDoorRnGG
import Derived.Test.YtfjgmdmfnjaoaaaGreatDoorRnGE
import Derived.Test.YtfjgmdmfnjaoaaaGreatDoorRnGC
import Derived.Test.YtfjgmdmfnjaoaaaGreatDoorRnGF
import Derived.Test.YtfjgmdmfnjaoaaaGreatDoorRnGD
import Derived.ChangeArms
import Derived.ChangeShapes
import Derived.DataReads
import Derived.OpenShut
set_option maxRecDepth 100000
set_option maxHeartbeats 8000000
set_option linter.unusedSimpArgs false
set_option linter.unusedVariables false
namespace Go.Rn
open Go.RowKit
variable {J g:Nat} {ns:List Nat} {h0:Tr ab} {P:Program} {ρ:aw} {s:AS} {kn:List<|Nat×Option ab} {fn:Func} {body:Code}
def je(d s:List<|Int×Int):List<|Int×Int:=s.foldl (fun d p=>gA d p.1 p.2) d
theorem UO:∀{a b:List<|Int×Int},da a=da b->a=b
 |[],[],_=>rfl
 |[],_::_,h=>by cases h
 |_::_,[],h=>by cases h
 |(x,y)::a,(z,u)::b,h=>by have h:(AV.int .i64 x,AV.int .i64 y)::da a=(.int .i64 z,.int .i64 u)::da b:=h;simp only[List.cons.injEq,Prod.mk.injEq,AV.int.injEq,true_and] at h;rw[h.1.1,h.1.2,UO h.2]
open Classical in
noncomputable def y9(o:ab):Option<|List<|Int×Int:=if h:∃m,o=bL m then some h.choose else none
theorem Su{o:ab}{m:List<|Int×Int}(h:y9 o=some m):o=bL m:=by
 unfold y9 at h;split at h
 ·rename_i q;injection h with h;rw[←h];exact q.choose_spec
 ·cases h
theorem Sv(m:List<|Int×Int):y9 (bL m)=some m:=by
 unfold y9;have q:∃m',bL m=bL m':=⟨m,rfl⟩;rw[dif_pos q];have e:=q.choose_spec;have e:ab.jN (da m)= .jN (da q.choose):=e;injection e with e
 exact congrArg some (UO e).symm
noncomputable def wu(J:Nat)(ns:List Nat)(h0:Tr ab):aK->List AV->M AV:=fun _ args=>match args with
 |[.map (some a),.map (some b)]=>(fG J h0 ns).bind fun _=>lQ (a≠b) <| (bq a).bind fun o1=>(bq b).bind fun o2=>
  aC (y9 o1) fun m1=>aC (y9 o2) fun m2=>lQ ((m1.map (·.1)).Nodup/\(m2.map (·.1)).Nodup) <|
  (bN a<|some<|bL<|je m1 m2).bind fun _=>(bN b<|some<|bL m2).bind fun _=>M.pure<|.tuple []
 |_=>fail
theorem YN.wu(J:Nat)(ns:List Nat)(h0:Tr ab)(YO:aK)(args:List AV):YN<|wu J ns h0 YO args:=by
 unfold Rn.wu;split
 ·refine YN.bind (YN.fG J h0 ns) fun _=>YN.lQ <| YN.bind (YN.bq _) fun _=>YN.bind (YN.bq _) fun _=>YN.aC fun _ _=>YN.aC fun _ _=>YN.lQ <| YN.bind (YN.bN _ _) fun _=>YN.bind (YN.bN _ _) fun _=>YN.pure _
 ·exact YN.fail
def P2(J:Nat)(P:Program)(rs:List ResultVar)(m1 m2:List<|Int×Int):=Fin P rs fun y s'=>y= .tuple []/\s'.h.get J=some (bL<|je m1 m2)/\s'.h.get (J+1)=some (bL m2)
theorem wV{σ:aw}{N:Nat}{o':Obj}{m:List<|Int×Int}(h:OR ρ N (bL m) o'):OR σ N (bL m) o':=by
 obtain⟨l,ay,rfl,h1,h2,l',h3,h4⟩:=h;refine⟨l,ay,rfl,h1,h2,l',h3,?_⟩;have:∀(m:List<|Int×Int) (l:List MapEntry),dV ρ (da m) l->dV σ (da m) l:=by
  intro m;induction m with
  |nil=>intro l h;simpa only[da,List.map_nil,dV] using h
  |cons p m ih=>intro l h;have h:dV ρ ((.int .i64 p.1,.int .i64 p.2)::da m) l:=h;show dV σ ((.int .i64 p.1,.int .i64 p.2)::da m) l;simp only[dV,VR] at h ⊢;obtain⟨e,l',h1,h2,h3,h4⟩:=h;exact⟨e,l',h1,h2,h3,ih l' h4⟩
 exact this m l' h4
theorem adN{B:aL}{f:Nat}{w:World}{s1:AS}(hP:bE P)(cq:P.funcs[f]? =some fn)(cx:fn.body=some body)(dL:(fn.name == "runtime.NumGoroutine")=false)(fV:fM<=J)(dO:J+2<=top)(dM:∀n o,n<top->h0.get n=some o->n∈ns)(eA:∀n∈ns,n<J)(jv:∀n o,(n,some o)∈kn->h0.get n=some o)(jw:∀p∈kn,p.1<top)(eQ:∀m1 m2:List<|Int×Int,(m1.map (·.1)).Nodup->(m2.map (·.1)).Nodup->max fn.ntmps 2<=top/\∀B':aL,B'.F=B.F->B'.inv=B.inv->
 au P B' (J+2) (P2 J P fn.results.toList m1 m2) ⟨f,ep [.map<|some J,.map<|some<|J+1],max fn.ntmps 2,[.code body],[],none⟩ ⟨gd<|kn++bx [(J,bL m1),(J+1,bL m2)],J+2,0,[],[]⟩){YO:aK}{args:List AV}{x:AV}{vs:Array Value}(r:Rel B ρ s.h w)(hg:gb ρ)(h:wu J ns h0 YO args s= .ok x s1)(hv:aA ρ args vs.toList):jk P ((callFunc f vs).run P w)<|j8 B ρ s s1 w x:=by
 unfold wu at h;split at h
 ·rename_i n1 n2;obtain⟨u,s2,h2,h3⟩:=M.aR h;obtain⟨a1,a2,a3⟩:=uG h2;obtain⟨ct,h3⟩:=CP h3;obtain⟨o1,s3,k1,h3⟩:=M.aR h3;obtain⟨o2,s4,k2,h3⟩:=M.aR h3;obtain⟨m1,Lp,h3⟩:=bu h3;obtain⟨m2,cS,h3⟩:=bu h3;obtain⟨⟨nd1,nd2⟩,h3⟩:=CP h3;obtain⟨u1,t1,w1,h3⟩:=M.aR h3;obtain⟨u2,t2,w2,h3⟩:=M.aR h3;obtain⟨rfl,rfl⟩:=bK h3;obtain⟨r1,r2,r3,r4⟩:=fX k1;obtain⟨r5,r6,r7,r8⟩:=fX k2;obtain⟨x1,x2,_,x4,x5⟩:=kr w1;obtain⟨y1,y2,_,y4,y5⟩:=kr w2;rw[Su Lp,a1] at r2;rw[Su cS,r3,a1] at r6;let V:Vw:=[(J,n1,bL m1),(J+1,n2,bL m2)];have mem:∀q∈V,q=(J,n1,bL m1)\/q=(J+1,n2,bL m2):=fun q hq=>by simpa[V] using hq
  have e0:∀gF:aw,eU J gF V J=gF n1:=fun gF=>by
   unfold eU;rw[if_neg aj,if_neg aj];have:gK V J=some n1:=by simp[gK,V]
   rw[this]
  have e1:∀gF:aw,eU J gF V (J+1)=gF n2:=fun gF=>by
   unfold eU;rw[if_neg aj,if_neg aj];have:gK V (J+1)=some n2:=by simp[gK,V]
   rw[this]
  have hi:jl ρ<|eU J ρ V:=fun m x hm e=>by rw[yR aj hm];exact e
  have hV:Ac J ρ s.h V:=by
   refine⟨fun q hq=>?_,fun q hq q' dU e=>?_,fun q hq q' dU e=>?_,fun q hq=>?_⟩
   ·rcases mem q hq with rfl|rfl
    ·exact⟨Nat.le_refl _,by omega,x2⟩
    ·exact⟨by omega,by omega,y2⟩
   ·rcases mem q hq with rfl|rfl<;>rcases mem q' dU with rfl|rfl<;>first|rfl|(simp only at e;omega)
   ·rcases mem q hq with rfl|rfl<;>rcases mem q' dU with rfl|rfl<;>first|rfl|(simp only at e;omega)
   ·rcases mem q hq with rfl|rfl
    ·exact⟨_,r2,.inl ⟨rfl,rfl,fun N o' hO=>wV hO⟩⟩
    ·exact⟨_,r6,.inl ⟨rfl,rfl,fun N o' hO=>wV hO⟩⟩
  obtain⟨_,cY,T⟩:=r.tk;have T:Ef B ρ s.h w cY:=T;have nK:=Kd aj r T dM eA jv jw (fun n hn=>by obtain⟨_,o,p,h⟩:=a3 n hn;exact⟨o,p,h⟩) hV;obtain⟨d1,d2⟩:=eQ m1 m2 nd1 nd2;have fi:bD (⟨gd<|kn++bx [(J,bL m1),(J+1,bL m2)],J+2,0,[],[]⟩:AS):=⟨Nat.zero_le _,dO⟩;have kh:aA (eU J ρ V) [.map<|some J,.map<|some<|J+1] vs.toList:=by simp only[aA,VR] at hv ⊢;obtain⟨y0,ys,q1,⟨b',N',q2,q2'⟩,y3,ED,q3,⟨b'',N'',q4,q5⟩,q6⟩:=hv;exact⟨y0,ys,q1,⟨b',N',(e0 ρ).trans q2,q2'⟩,y3,ED,q3,⟨b'',N'',(e1 ρ).trans q4,q5⟩,q6⟩
  have bI:=au.F4 (B:=tN B ρ w<|wH ρ cY V) (s:=⟨gd<|kn++bx [(J,bL m1),(J+1,bL m2)],J+2,0,[],[]⟩) (args:=[.map<|some J,.map<|some<|J+1]) (vs:=vs) hP cq cx d1 (d2 _ rfl rfl) fi nK (fun g iA=>by
   obtain⟨N,e⟩:=hg g iA;exact⟨N,by rw[C9<|Nat.lt_of_lt_of_le iA fV];exact e⟩) (fun m hm jW=>by
   have hm:J+2<=m:=hm;exact It aj jW fun q hq=>by rcases mem q hq with rfl|rfl<;>(show _≠m;simp only;omega)) kh
  rw[uH cq cx dL];show Calls P f vs w _;refine bI.mono fun e w'=>?_;rintro ⟨Ct,x',s7,rfl,⟨rfl,j1,j2⟩,_,σ,i0,Cu,i1,i2,i3⟩;have sV:∀q∈V,σ q.1=ρ q.2.1:=fun q hq=>by
   rcases mem q hq with rfl|rfl
   ·exact(i0 J aj aj).trans<|e0 ρ
   ·exact(i0 (J+1) aj aj).trans<|e1 ρ
  have qS:jl σ<|cI ρ σ:=fun k x hk e=>by unfold cI;rw[if_pos hk];exact e
  have V0:(J,n1,bL m1)∈V:=by simp[V]
  have V1:(J+1,n2,bL m2)∈V:=by simp[V]
  obtain⟨b1,b2,b3,b4⟩:=JA (a:=s.nx) (L2:=[(n1,bL<|je m1 m2),(n2,bL m2)]) (h':=s1.h) r T hV i2 i3 sV (fun m z hm q=>Cu m z hm<|hi m z hm q) (fun n q hm=>by
   rcases List.mem_cons.1 hm with hm|hm
   ·cases hm;exact⟨_,V0,rfl,_,j1,.inl ⟨rfl,rfl,fun N o' hO=>wV hO⟩⟩
   rcases List.mem_cons.1 hm with hm|hm
   ·cases hm;exact⟨_,V1,rfl,_,j2,.inl ⟨rfl,rfl,fun N o' hO=>wV hO⟩⟩
   cases hm) (fun q hq _=>by
   rcases mem q hq with rfl|rfl
   ·exact⟨_,j1,rfl⟩
   ·exact⟨_,j2,rfl⟩) (fun k hk=>by
   have Hy:s1.h=(s.h.put n1<|some<|bL<|je m1 m2).put n2 (some<|bL m2):=by rw[y4,x4,r7,r3,a1]
   rw[Hy,Tr.du _ _ _ _ y2 hk,Tr.du _ _ _ _ x2 hk];by_cases q2:k=n2
   ·subst q2;exact .inl ⟨_,by simp,if_pos rfl⟩
   rw[if_neg q2];by_cases q1:k=n1
   ·subst q1;exact .inl ⟨_,by simp,if_pos rfl⟩
   rw[if_neg q1];exact .inr ⟨fun q hq=>by rcases mem q hq with rfl|rfl<;>(intro e;exact absurd e.symm<|by assumption),rfl⟩)
  refine⟨Ct,rfl,cI ρ σ,?_,AV.py qS rfl i1,b3,b4⟩;have cQ:s1.nx=s.nx:=by rw[y5,x5,r8,r4,a2]
  rw[cQ];exact b1
 ·cases h
theorem afE{X:TX}{L L':bV}(hP:bE P)(fV:fM<=J)(dO:J+2<=top)(dM:∀n o,n<top->h0.get n=some o->n∈ns)(eA:∀n∈ns,n<J)(jv:∀n o,(n,some o)∈kn->h0.get n=some o)(jw:∀p∈kn,p.1<top)(h:eC X J P<|dB J ns h0 L)(h':eC X J P<|dB J ns h0 L')(cq:P.funcs[g]? =some fn)(cx:fn.body=some body)(dL:(fn.name == "runtime.NumGoroutine")=false)(eQ:∀m1 m2:List<|Int×Int,(m1.map (·.1)).Nodup->(m2.map (·.1)).Nodup->max fn.ntmps 2<=top/\∀B:aL,qH X P J ns h0 L' B->
 au P B (J+2) (P2 J P fn.results.toList m1 m2) ⟨g,ep [.map<|some J,.map<|some<|J+1],max fn.ntmps 2,[.code body],[],none⟩ ⟨gd<|kn++bx [(J,bL m1),(J+1,bL m2)],J+2,0,[],[]⟩):eC X J P<|dB J ns h0<|(g,.raw wu)::L:=by
 refine(show eC X J P (pI (dB J ns h0 L) g<|wu J ns h0) from h.mT (fun YO _ args=>YN.wu _ _ _ YO args) fun B hB hT YO hc hl args x s s1 ρ w vs fi r hg hf hm hv=>?_);refine adN hP cq cx dL fV dO dM eA jv jw (fun m1 m2 n1 n2=>?_) r hg hm hv;obtain⟨q1,q2⟩:=eQ m1 m2 n1 n2;exact⟨q1,fun B' lH lI=>q2 B'<|rO hP h' (lH.trans hB)<|lI.trans hT⟩
theorem adO{F:Nat->Option (List AV)}{sp:Sp}{n:Nat}(h:sp g=some (wu J ns h0)){a b:Nat}{m1 m2:List<|Int×Int}(hk:qG J h0 ns s=true)(Hg:a≠b)(ha:Nat.blt a (dP J h0 ns s).nx=true)(hb:Nat.blt b (dP J h0 ns s).nx=true)(aB:Nat.blt a top=true)(X9:Nat.blt b top=true)(g1:(dP J h0 ns s).h.get a=some (bL m1))(g2:(dP J h0 ns s).h.get b=some (bL m2))(n1:(m1.map (·.1)).Nodup)(n2:(m2.map (·.1)).Nodup):
 bh P sp F (n+1) (.fn g) [.map<|some a,.map<|some b] s= .ok (.tuple []) (fF b (some<|bL m2)<|fF a (some<|bL<|je m1 m2)<|aZ b<|aZ a<|dP J h0 ns s):=by
 show ki P sp g (bh P sp F n) [.map<|some a,.map<|some b] s=_;rw[uZ h];show((fG J h0 ns).bind fun _=>lQ (a≠b) <| (bq a).bind fun o1=>(bq b).bind fun o2=>
  aC (y9 o1) fun m1=>aC (y9 o2) fun m2=>lQ ((m1.map (·.1)).Nodup/\(m2.map (·.1)).Nodup) <|
  (bN a<|some<|bL<|je m1 m2).bind fun _=>(bN b<|some<|bL m2).bind fun _=>M.pure<|AV.tuple []) s=_
 rw[M.bQ<|xm hk,C0 Hg,M.bQ<|md ha g1];generalize dP J h0 ns s=z at*;have iI:Nat.blt b (aZ a z).nx=true:=by rw[(fQ a z).2.1];exact hb
 have vZ:(aZ a z).h.get b=some (bL m2):=by rw[(fQ a z).1];exact g2
 rw[M.bQ<|md iI vZ,Sv,ch,Sv,ch,C0 ⟨n1,n2⟩];have ha2:Nat.blt a (aZ b<|aZ a z).nx=true:=by rw[(fQ b _).2.1,(fQ a z).2.1];exact ha
 have ga2:(aZ b<|aZ a z).h.get a=some (bL m1):=by rw[(fQ b _).1,(fQ a z).1];exact g1
 rw[M.bQ<|yQ ha2 ga2 rfl aB];have wn:∀(n:Nat) (o:Option ab) (s:AS),(fF n o s).nx=s.nx/\(fF n o s).h=s.h.put n o:=fun n o s=>by unfold fF;cases Nat.blt n s.mark<;>exact⟨rfl,rfl⟩
 have hb3:Nat.blt b (fF a (some<|bL<|je m1 m2)<|aZ b<|aZ a z).nx=true:=by rw[(wn _ _ _).1,(fQ b _).2.1];exact iI
 have gb3:(fF a (some<|bL<|je m1 m2)<|aZ b<|aZ a z).h.get b=some (bL m2):=by rw[(wn _ _ _).2,Tr.du _ _ _ _ ((blt_eq _ _).mp aB)<|(blt_eq _ _).mp X9,if_neg<|Ne.symm Hg,(fQ b _).1];exact vZ
 rw[M.bQ<|yQ hb3 gb3 rfl X9];rfl
end Go.Rn
namespace Go.Rn
open Go.RowKit
variable {ρ σ:aw} {o':Obj} {m' b a:List<|Int×Int} {N:Nat}
abbrev fR(m:List<|Int×Int):Prop:=(m.map (·.1)).Nodup
def jS:List (Int×Int)->Int->Option Int
 |[],_=>none
 |p::l,k=>if p.1=k then some p.2 else jS l k
theorem adP(m:List<|Int×Int)(k v j:Int):jS (gA m k v) j=if k=j then some v else jS m j:=by
 induction m with
 |nil=>simp[gA,jS]
 |cons p l ih=>
  unfold gA;by_cases e:p.1=k
  ·rw[if_pos e];by_cases q:k=j
   ·simp[jS,q]
   ·simp[jS,q,e]
  ·rw[if_neg e];by_cases q:p.1=j
   ·have:k≠j:=fun h=>e<|q.trans h.symm;simp[jS,q,this]
   ·simp only[jS,if_neg q];exact ih
theorem acs(m:List<|Int×Int)(k v:Int):∀j,j∈(gA m k v).map (·.1)↔j=k\/j∈m.map (·.1):=by
 intro j;induction m with
 |nil=>simp[gA]
 |cons p l ih=>
  unfold gA;by_cases e:p.1=k
  ·rw[if_pos e];simp only[List.map_cons,List.mem_cons];constructor
   ·rintro (h|h)
    ·exact .inl h
    ·exact .inr<|.inr h
   ·rintro (h|h|h)
    ·exact .inl h
    ·exact .inl<|h.trans e
    ·exact .inr h
  ·rw[if_neg e];simp only[List.map_cons,List.mem_cons];rw[ih];constructor
   ·rintro (h|h|h)
    ·exact .inr<|.inl h
    ·exact .inl h
    ·exact .inr<|.inr h
   ·rintro (h|h|h)
    ·exact .inr<|.inl h
    ·exact .inl h
    ·exact .inr<|.inr h
theorem fR.set{m:List<|Int×Int}(h:fR m)(k v:Int):fR<|gA m k v:=by
 induction m with
 |nil=>simp[fR,gA]
 |cons p l ih=>
  have h:(p.1::l.map (·.1)).Nodup:=h;obtain⟨h1,h2⟩:=List.nodup_cons.1 h;unfold gA;by_cases e:p.1=k
  ·rw[if_pos e];show(k::l.map (·.1)).Nodup;rw[←e];exact h
  ·rw[if_neg e];show(p.1::(gA l k v).map (·.1)).Nodup;refine List.nodup_cons.2 ⟨fun q=>?_,ih h2⟩;rcases(acs l k v p.1).1 q with q|q
   ·exact e q
   ·exact h1 q
theorem AX{m:List<|Int×Int}(h:fR m)(k v:Int):(k,v)∈m↔jS m k=some v:=by
 induction m with
 |nil=>simp[jS]
 |cons p l ih=>
  have h:(p.1::l.map (·.1)).Nodup:=h;obtain⟨h1,h2⟩:=List.nodup_cons.1 h;unfold jS;by_cases e:p.1=k
  ·rw[if_pos e,List.mem_cons];constructor
   ·rintro (q|q)
    ·rw[←q]
    ·exact absurd (List.mem_map.2 ⟨_,q,rfl⟩) (by rw[←e] at*;exact h1)
   ·intro q;injection q with q
    obtain⟨a,b⟩:=p;simp only at e q;rw[e,q];exact .inl rfl
  ·rw[if_neg e,List.mem_cons, ←ih h2];constructor
   ·rintro (q|q)
    ·rw[←q] at e;exact absurd rfl e
    ·exact q
   ·exact .inr
theorem fR.nodup{m:List<|Int×Int}(h:fR m):m.Nodup:=by
 induction m with
 |nil=>exact List.nodup_nil
 |cons p l ih=>have h:(p.1::l.map (·.1)).Nodup:=h;obtain⟨h1,h2⟩:=List.nodup_cons.1 h;exact List.nodup_cons.2 ⟨fun q=>h1<|List.mem_map.2 ⟨_,q,rfl⟩,ih h2⟩
theorem acu(ha:fR a)(hb:fR b)(h:∀k,jS a k=jS b k):a.Perm b:=(List.perm_ext_iff_of_nodup ha.nodup hb.nodup).2 fun⟨k,v⟩=>by rw[AX ha,AX hb,h]
theorem acv(ha:fR a)(h:a.Perm b)(k:Int):jS a k=jS b k:=by
 have hb:fR b:=(h.map (·.1)).nodup_iff.1 ha;cases e:jS a k with
 |some v=>exact((AX hb k v).1<|h.mem_iff.1<|(AX ha k v).2 e).symm
 |none=>
  cases e2:jS b k with
  |none=>rfl
  |some v=>have:=(AX ha k v).1<|h.mem_iff.2<|(AX hb k v).2 e2;rw[e] at this;cases this
theorem fR.merge:∀{s d:List<|Int×Int},fR d->fR (je d s)
 |[],d,h=>h
 |p::s,d,h=>fR.merge (s:=s)<|h.set p.1 p.2
theorem MR:∀(s d:List<|Int×Int) (k:Int),fR s->jS (je d s) k=match jS s k with|some v=>some v|none=>jS d k
 |[],d,k,_=>rfl
 |p::s,d,k,h=>by
  have h:(p.1::s.map (·.1)).Nodup:=h;obtain⟨h1,h2⟩:=List.nodup_cons.1 h;show jS (je (gA d p.1 p.2) s) k=_;have oc:jS (p::s) k=if p.1=k then some p.2 else jS s k:=rfl
  rw[MR s _ k h2,adP,oc];by_cases e:p.1=k
  ·rw[if_pos e,if_pos e];have:jS s k=none:=by
    cases q:jS s k with
    |none=>rfl
    |some v=>exact absurd (List.mem_map.2 ⟨_,(AX h2 k v).2 q,rfl⟩) (by rw[←e];exact h1)
   rw[this]
  ·rw[if_neg e,if_neg e]
theorem aal{d s s':List<|Int×Int}(hd:fR d)(hs:fR s)(h:s.Perm s'):(je d s).Perm<|je d s':=by have Cn:fR s':=(h.map (·.1)).nodup_iff.1 hs;refine acu hd.merge hd.merge fun k=>?_;rw[MR s d k hs,MR s' d k Cn,acv hs h]
theorem aam(d s:List<|Int×Int)(p:Int×Int):je d (s++[p])=gA (je d s) p.1 p.2:=by unfold je;rw[List.foldl_append];rfl
theorem MS:∀{l:List<|Int×Int} {x:AV×AV} {r:List<|AV×AV},(x,r)∈rC (da l)->∃(p:Int×Int) (l':List<|Int×Int),x=(.int .i64 p.1,.int .i64 p.2)/\r=da l'/\l.Perm (p::l')
 |[],x,r,h=>by cases h
 |a::l,x,r,h=>by
  have h:(x,r)∈(((AV.int .i64 a.1,AV.int .i64 a.2),da l)::(rC<|da l).map fun(y,r)=>(y,(AV.int .i64 a.1,AV.int .i64 a.2)::r)):=h;rcases List.mem_cons.1 h with h|h
  ·injection h with h1 h2
   exact⟨a,l,h1,h2,List.Perm.refl _⟩
  ·obtain⟨⟨y,r'⟩,hm,e⟩:=List.mem_map.1 h;simp only[Prod.mk.injEq] at e;obtain⟨p,l',h1,h2,h3⟩:=MS hm;refine⟨p,a::l',by rw[←e.1];exact h1,by rw[←e.2,h2];rfl,?_⟩;exact(h3.cons a).trans<|List.Perm.swap p a l'
theorem acw{m:List<|Int×Int}(h:m.Perm m'):∀{l:List MapEntry},dV ρ (da m) l->∃l',l.Perm l'/\dV ρ (da m') l':=by
 induction h with
 |nil=>intro l h;exact⟨l,List.Perm.refl _,h⟩
 |cons x _ ih=>intro l h;have h:dV ρ ((.int .i64 x.1,.int .i64 x.2)::da _) l:=h;simp only[dV] at h;obtain⟨e,es,rfl,h1,h2,h3⟩:=h;obtain⟨l',q1,q2⟩:=ih h3;exact⟨e::l',q1.cons e,by show dV ρ ((.int .i64 x.1,.int .i64 x.2)::da _) _;simp only[dV];exact⟨e,l',rfl,h1,h2,q2⟩⟩
 |swap x y l0=>intro l h;have h:dV ρ ((.int .i64 y.1,.int .i64 y.2)::(.int .i64 x.1,.int .i64 x.2)::da l0) l:=h;simp only[dV] at h;obtain⟨e,es,rfl,h1,h2,e',hI,rfl,h3,h4,h5⟩:=h;exact⟨e'::e::hI,List.Perm.swap _ _ _,by show dV ρ ((.int .i64 x.1,.int .i64 x.2)::(.int .i64 y.1,.int .i64 y.2)::da l0) _;simp only[dV];exact⟨e',_,rfl,h3,h4,e,hI,rfl,h1,h2,h5⟩⟩
 |trans _ _ ih1 ih2=>intro l h;obtain⟨l1,q1,q2⟩:=ih1 h;obtain⟨l2,q3,q4⟩:=ih2 q2;exact⟨l2,q1.trans q3,q4⟩
theorem abe{a b:Int}(h:a≠b):sameKey (.int .i64 a) (.int .i64 b)=some false/\sameKey (.int .i64 b) (.int .i64 a)=some false:=by
 rw[TN,TN];constructor
 ·rw[show(a == b)=false by simpa using h]
 ·rw[show(b == a)=false by simpa using fun e=>h e.symm]
theorem Td{m:List<|Int×Int}(h:fR m):ll<|da m:=by
 unfold ll;induction m with
 |nil=>exact .nil
 |cons p l ih=>have h:(p.1::l.map (·.1)).Nodup:=h;obtain⟨h1,h2⟩:=List.nodup_cons.1 h;refine .cons (fun q hq=>?_)<|ih h2;obtain⟨z,hz,rfl⟩:=List.mem_map.1 hq;exact abe fun e=>h1 (by rw[e];exact List.mem_map.2 ⟨z,hz,rfl⟩)
theorem aan{m:List<|Int×Int}(hk:fR m')(hp:m.Perm m')(h:OR ρ N (bL m) o'):OR σ N (bL m') o':=by have h:OR σ N (bL m) o':=wV h;obtain⟨l,ay,rfl,h1,h2,l',h3,h4⟩:=h;obtain⟨l2,q1,q2⟩:=acw hp h4;exact⟨l,ay,rfl,Td hk,h2,l2,h3.trans q1,q2⟩
theorem acx{m:List<|Int×Int}(hk:fR m)(h:OR ρ N (GL m) o'):OR σ N (bL m) o':=by obtain⟨l,h0,h1,h2⟩:∃l,o'= .map l m.length/\m.length=(da m).length/\kz ρ (da m) l.toList 0:=h;subst h0;have hb:=h2.Vv;rw[←h1] at hb;have:OR ρ N (bL m)<|.map l m.length:=⟨l,m.length,rfl,Td hk,hb,l.toList,List.Perm.refl _,h2.eqs⟩;exact wV this
end Go.Rn
namespace Go.Rn
open Go.RowKit
variable {t:Tr AV} {s3:AS} {nt n fn:Nat} {v:AV} {aV:AF} {b a:Code}
noncomputable section
def vy(l:Nat)(fr:AF):AF:=⟨fr.fn,fr.tmps,fr.nt,fr.todo,fr.defers,some l⟩
end
section
variable {P:Program} {YO:aK} {s s1:AS} {l:Nat}
theorem Da{fr:AF}(h:(M.pure (bt.go fr):M bt) s= .ok (.go aV) s1):aV=fr/\s1=s:=by
 obtain⟨h1,h2⟩:=bK h;injection h1 with h1
 exact⟨h1,h2⟩
theorem acy{fr:AF}(h:jf P YO fr s= .ok (.go aV) s1):aV.round=fr.round/\(fr.round=none->aV.defers=[]->fr.defers=[]/\jf P YO (vy l fr) s= .ok (.go<|vy l aV) s1):=by
 obtain⟨f,t,nt,K,d,r⟩:=fr;cases K with
 |nil=>have h':(M.pure (bt.leave ⟨f,t,nt,[],d,r⟩ none):M bt) s= .ok (.go aV) s1:=h;cases(bK h').1
 |cons it k=>
  have h':(vt P it).val YO f t nt d r k s= .ok (.go aV) s1:=h;have goal:∀(X:oK),(vt P it).val=X->X YO f t nt d r k s= .ok (.go aV) s1->(aV.round=r/\(r=none->aV.defers=[]->d=[]/\X YO f t nt d (some l) k s= .ok (.go<|vy l aV) s1))->aV.round=r/\(r=none->aV.defers=[]->d=[]/\jf P YO (vy l ⟨f,t,nt,it::k,d,r⟩) s= .ok (.go<|vy l aV) s1):=by rintro X hX _ ⟨h1,h2⟩;refine⟨h1,fun a b=>?_⟩;obtain⟨c,e⟩:=h2 a b;refine⟨c,?_⟩;show(vt P it).val YO f t nt d (some l) k s=_;rw[hX];exact e
  have pop:∀k',(M.pure (bt.go ⟨f,t,nt,k',d,r⟩):M bt) s= .ok (.go aV) s1->aV.round=r/\(r=none->aV.defers=[]->d=[]/\(M.pure (bt.go ⟨f,t,nt,k',d,some l⟩):M bt) s= .ok (.go<|vy l aV) s1):=by intro k' h;obtain⟨rfl,rfl⟩:=Da h;exact⟨rfl,fun _ b=>⟨b,rfl⟩⟩
  cases it with
  |code c=>
   cases c with
   |skip=>exact goal qC rfl h'<|pop _ h'
   |label n=>exact goal qC rfl h'<|pop _ h'
   |seq a b=>exact goal (nB [.code a,.code b]) rfl h'<|pop _ h'
   |cond c a b=>refine goal (J3 c a b) rfl h' ?_;obtain⟨v,h1,h2⟩:=bu (show(aC (aI t c) fun v=>aC (xf v) fun v=>M.pure<|bt.go ⟨f,t,nt,.code (@Bool.rec (fun _=>Code) b a v)::k,d,r⟩) s=_ from h');obtain⟨v',h3,h4⟩:=bu h2;obtain⟨q1,q2⟩:=pop _ h4;refine⟨q1,fun a' b'=>⟨(q2 a' b').1,?_⟩⟩;show(aC (aI t c) fun v=>aC (xf v) fun v=>M.pure<|bt.go ⟨f,t,nt,.code (@Bool.rec (fun _=>Code) b a v)::k,d,some l⟩) s=_;rw[h1,ch,h3,ch];exact(q2 a' b').2
   |block i b=>exact goal (nB [.code b,.inBlock i]) rfl h'<|pop _ h'
   |loop b=>exact goal (nB [.code b,.inLoop b]) rfl h'<|pop _ h'
   |scope b=>exact goal (nB [.code b,.inScope b]) rfl h'<|pop _ h'
   |exit i=>
    refine goal (DG i) rfl h' ?_;have h2:(match exitTo i k with
     |some k'=>M.pure (bt.go ⟨f,t,nt,k',d,r⟩)
     |none=>M.pure<|bt.leave ⟨f,t,nt,.code (.exit i)::k,d,r⟩<|some<|.exit i) s= .ok (.go aV) s1:=h'
    cases e:exitTo i k with
    |none=>rw[e] at h2;cases(bK h2).1
    |some k'=>
     rw[e] at h2;obtain⟨q1,q2⟩:=pop _ h2;refine⟨q1,fun a' b'=>⟨(q2 a' b').1,?_⟩⟩;show(match exitTo i k with
      |some k'=>M.pure (bt.go ⟨f,t,nt,k',d,some l⟩)
      |none=>M.pure<|bt.leave ⟨f,t,nt,.code (.exit i)::k,d,some l⟩<|some<|.exit i) s=_
     rw[e];exact(q2 a' b').2
   |goto i=>
    refine goal (DH i) rfl h' ?_;have h2:(match gotoIn i k with
     |some k'=>M.pure (bt.go ⟨f,t,nt,k',d,r⟩)
     |none=>M.pure<|bt.leave ⟨f,t,nt,.code (.goto i)::k,d,r⟩<|some<|.goto i) s= .ok (.go aV) s1:=h'
    cases e:gotoIn i k with
    |none=>rw[e] at h2;cases(bK h2).1
    |some k'=>
     rw[e] at h2;obtain⟨q1,q2⟩:=pop _ h2;refine⟨q1,fun a' b'=>⟨(q2 a' b').1,?_⟩⟩;show(match gotoIn i k with
      |some k'=>M.pure (bt.go ⟨f,t,nt,k',d,some l⟩)
      |none=>M.pure<|bt.leave ⟨f,t,nt,.code (.goto i)::k,d,some l⟩<|some<|.goto i) s=_
     rw[e];exact(q2 a' b').2
   |ret=>cases(bK (show(M.pure (bt.leave ⟨f,t,nt,.code .ret::k,d,r⟩<|some .ret):M bt) s= .ok (.go aV) s1 from h')).1
   |region i ops dr=>
    cases dr with
    |false=>refine goal (IV P ops) rfl h' ?_;obtain⟨t1,s2,h2,h3⟩:=M.aR (show((jj P YO nt ops ops.toList t).bind fun t=>M.pure<|bt.go ⟨f,t,nt,k,d,r⟩) s= .ok (.go aV) s1 from h');obtain⟨rfl,rfl⟩:=Da h3;refine⟨rfl,fun a' b'=>⟨b',?_⟩⟩;show((jj P YO nt ops ops.toList t).bind fun t=>M.pure<|bt.go ⟨f,t,nt,k,d,some l⟩) s=_;rw[M.bQ h2];rfl
    |true=>refine goal (Iz P ops) rfl h' ?_;obtain⟨t1,s2,h2,h3⟩:=M.aR (show((qd P YO nt ops t).bind fun t=>M.pure<|bt.go ⟨f,t,nt,k,d,r⟩) s= .ok (.go aV) s1 from h');obtain⟨rfl,rfl⟩:=Da h3;refine⟨rfl,fun a' b'=>⟨b',?_⟩⟩;show((qd P YO nt ops t).bind fun t=>M.pure<|bt.go ⟨f,t,nt,k,d,some l⟩) s=_;rw[M.bQ h2];rfl
   |rangeFunc g ps a b=>
    have h2:uV g ps.toList a b YO f t nt d r k s= .ok (.go aV) s1:=h';unfold uV at h2;cases r with
    |none=>obtain⟨df,s2,_,h3⟩:=M.aR h2;obtain⟨lo,s3,_,h3⟩:=M.aR h3;obtain⟨gv,_,h3⟩:=bu h3;obtain⟨y,s4,_,h3⟩:=M.aR h3;obtain⟨p,s5,_,h3⟩:=M.aR h3;obtain⟨rfl,rfl⟩:=Da h3;exact⟨rfl,fun _ b'=>by cases b'⟩
    |some l0=>
     obtain⟨o,s2,_,h3⟩:=M.aR h2;split at h3
     ·obtain⟨lo,s3,_,h3⟩:=M.aR h3;obtain⟨gv,_,h3⟩:=bu h3;obtain⟨y,s4,_,h3⟩:=M.aR h3;obtain⟨p,s5,_,h3⟩:=M.aR h3;obtain⟨rfl,rfl⟩:=Da h3;exact⟨rfl,fun a' _=>by cases a'⟩
     ·cases h3
   |refuse m=>cases h'
  |inBlock i=>exact goal qC rfl h'<|pop _ h'
  |inScope i=>exact goal qC rfl h'<|pop _ h'
  |inLoop b=>exact goal (nB [.code b,.inLoop b]) rfl h'<|pop _ h'
  |beginRound=>
   have h2:yY YO f t nt d r k s= .ok (.go aV) s1:=h';unfold yY at h2;cases r with
   |none=>cases h2
   |some l0=>
    obtain⟨o,s2,_,h3⟩:=M.aR h2;split at h3
    ·obtain⟨_,s3,_,h4⟩:=M.aR h3;obtain⟨rfl,rfl⟩:=Da h4;exact⟨rfl,fun a' _=>by cases a'⟩
    ·cases h3
  |_=>cases h'
theorem Sw:∀{k:Nat} {fr aV:AF} {s s1:AS},dZ P YO k fr s= .ok (.go aV) s1->aV.round=fr.round/\(fr.round=none->aV.defers=[]->fr.defers=[]/\dZ P YO k (vy l fr) s= .ok (.go<|vy l aV) s1)
 |0,fr,aV,s,s1,h=>by cases h;exact⟨rfl,fun _ b=>⟨b,rfl⟩⟩
 |k+1,fr,aV,s,s1,h=>by
  obtain⟨y,s2,h1,h2⟩:=M.aR (show((jf P YO fr).bind fun x=> @bt.rec (fun _=>M bt) (dZ P YO k) (fun fr j=>M.pure<|bt.leave fr j) x) s= .ok _ s1 from h);cases y with
  |leave nX j=>cases(bK (show(M.pure (bt.leave nX j):M bt) s2=_ from h2)).1
  |go nX=>have h2:dZ P YO k nX s2= .ok (.go aV) s1:=h2;obtain⟨a1,a2⟩:=Sw h2;obtain⟨b1,b2⟩:=acy (l:=l) h1;refine⟨a1.trans b1,fun q1 q2=>?_⟩;obtain⟨c1,c2⟩:=a2 (b1.trans q1) q2;obtain⟨d1,d2⟩:=b2 q1 c1;exact⟨d1,(AT d2).trans c2⟩
def JC(P:Program)(YO:aK)(l:Nat)(R:AF->Option Code->AS->Prop)(fr:AF)(s:AS):Prop:=fr.round=none/\fr.defers=[]/\Ev P YO R (vy l fr) s
theorem Chunk.round{R:AF->Option Code->AS->Prop}:Chunk P YO<|JC P YO l R:=by rintro k fr aV s s1 h ⟨h1,h2,h3⟩;obtain⟨a1,a2⟩:=Sw (l:=l) h;obtain⟨b1,b2⟩:=a2 (a1.symm.trans h1) h2;exact⟨a1.symm.trans h1,b1,Chunk.ev k _ _ _ _ b2 h3⟩
end
section
variable {l:Nat}
theorem C1{E:Env}(hE:E.Ok)(uy:E.fg=false){f:Nat}{K:List Item}{s:AS}{R:AF->Option Code->AS->Prop}{C:zH}(hC:∀fr s p,C fr s p->JC E.P (bh E.P E.sp E.F n) l R fr s)(fuel:Nat)(p:Pl){T:Prop}(x:T)(h:T=wp E fuel n (.fr f nt K t s) p [] (fun _ _ _=>False) C:=by as_aux_lemma=>kernel_rfl):Ev E.P (bh E.P E.sp E.F n) R ⟨f,t,nt,K,[],some l⟩ s:=(CY hE fuel n (.fr f nt K t s) p [] (fun _ _ _=>False) C (JC E.P (bh E.P E.sp E.F n) l R) Chunk.round (fun fr s j aV jm s1 v s2 p q1 q2 q3=>q3.elim) hC (fun _ _ _ _ _ _ _ _ _ q=>by rw[uy] at q;cases q) (fun _ _ _ _ _ _ _ _ _ _ _ q=>by rw[uy] at q;cases q) (fun _ _ _ _ _ _ _ _ _ q=>by rw[uy] at q;cases q)<|h▸x).2.2
noncomputable section
def AY(P:Program)(YO:aK)(l:Nat)(fr:AF)(s:AS):Option<|AV×AS:=
 match dZ P YO 4 (vy l fr) s with
 | .ok (.leave _ j) s1=>(match endRound l j s1 with
  | .ok v s2=>some (v,s2)
  | .bad=>none)
 |_=>none
end
theorem Fc{P:Program}{YO:aK}{fr:AF}{s:AS}(h1:fr.round=none)(h2:fr.defers=[])(h:AY P YO l fr s=some (v,s3)):JC P YO l (fun _ j s2=>endRound l j s2= .ok v s3) fr s:=by
 refine⟨h1,h2,?_⟩;unfold AY at h;split at h
 ·rename_i aV j s1 e;split at h
  ·rename_i v2 s2 e2;injection h with h;injection h with h3 h4
   subst h3;subst h4;exact⟨4,aV,j,s1,e,e2⟩
  ·cases h
 ·cases h
theorem Fe{P:Program}{sp:Sp}{F:Nat->Option (List AV)}{args:List AV}{s s0:AS}{st:LoopState}{bR:Option Code}{d:Nat}{ps:List Tmp}(hg:getLoop l s= .ok (.loop st bR fn t nt ps a b d) s0)(hlen:(and (Nat.beq args.length ps.length)<|ps.all fun p=>Nat.blt p nt)=true)(H:Ev P (bh P sp F n) (fun _ j s2=>endRound l j s2= .ok v s3) ⟨fn,jy ps args t,nt,[.code a,.beginRound,.code b],[],some l⟩ s0):bh P sp F (n+1) (.round l) args s= .ok v s3:=by obtain⟨k,aV,j,s2,h1,h2⟩:=H;show wP P (bh P sp F n) l args s=_;unfold wP;rw[M.bQ hg];show(aH (and (Nat.beq args.length ps.length)<|ps.all fun p=>Nat.blt p nt) <| (pn P (bh P sp F n) ⟨fn,jy ps args t,nt,[.code a,.beginRound,.code b],[],some l⟩).bind fun st=> @bt.rec (fun _=>M AV) (fun _=>fail) (fun _ j=>endRound l j) st) s0=_;rw[hlen,dC,M.bQ<|Ip h1];exact h2
theorem II{P:Program}{YO:aK}{s s1 s2 s4:AS}{df lo:Nat}{k:List Item}{f:Operand}{ps:Array Tmp}{gv y:AV}{p:Option Code}(h1:fu .defs s= .ok df s1)(h2:fu (.loop .ready none fn t nt ps.toList a b df) s1= .ok lo s2)(h3:aI t f=some gv)(h4:mY YO gv [.yield lo] s2= .ok y s3)(h5:lN lo s3= .ok p s4):
 dZ P YO 1 ⟨fn,t,nt,.code (.rangeFunc f ps a b)::k,[],none⟩ s= .ok (.go ⟨fn,t,nt,andThen p k,[df],none⟩) s4:=by
 refine AT ?_;show uV f ps.toList a b YO fn t nt [] none k s=_;unfold uV;simp only;rw[M.bQ h1,M.bQ h2,h3,ch,M.bQ h4,M.bQ h5];rfl
end
end Go.Rn
namespace Go.Rn
open Go.RowKit
variable {J k:Nat} {B:aL} {v:AV} {rs:List ResultVar} {aV:AF} {Q:Tr AV->List Nat->Option Code->AS->Prop}
noncomputable section
def vE(l:Nat)(fr:AF):AF:=⟨fr.fn,fr.tmps,fr.nt,fr.todo,[l],fr.round⟩
end
section
variable {P:Program} {YO:aK} {s s1:AS} {l:Nat}
theorem C4{fr:AF}(h:(M.pure (bt.go fr):M bt) s= .ok (.go aV) s1):aV=fr/\s1=s:=by
 obtain⟨h1,h2⟩:=bK h;injection h1 with h1
 exact⟨h1,h2⟩
theorem aav{fr:AF}(h:jf P YO fr s= .ok (.go aV) s1):aV.round=fr.round/\(fr.round=none->aV.defers=[]->fr.defers=[]/\jf P YO (vE l fr) s= .ok (.go<|vE l aV) s1):=by
 obtain⟨f,t,nt,K,d,r⟩:=fr;cases K with
 |nil=>have h':(M.pure (bt.leave ⟨f,t,nt,[],d,r⟩ none):M bt) s= .ok (.go aV) s1:=h;cases(bK h').1
 |cons it k=>
  have h':(vt P it).val YO f t nt d r k s= .ok (.go aV) s1:=h;have goal:∀(X:oK),(vt P it).val=X->X YO f t nt d r k s= .ok (.go aV) s1->(aV.round=r/\(r=none->aV.defers=[]->d=[]/\X YO f t nt [l] r k s= .ok (.go<|vE l aV) s1))->aV.round=r/\(r=none->aV.defers=[]->d=[]/\jf P YO (vE l ⟨f,t,nt,it::k,d,r⟩) s= .ok (.go<|vE l aV) s1):=by rintro X hX _ ⟨h1,h2⟩;refine⟨h1,fun a b=>?_⟩;obtain⟨c,e⟩:=h2 a b;refine⟨c,?_⟩;show(vt P it).val YO f t nt [l] r k s=_;rw[hX];exact e
  have pop:∀k',(M.pure (bt.go ⟨f,t,nt,k',d,r⟩):M bt) s= .ok (.go aV) s1->aV.round=r/\(r=none->aV.defers=[]->d=[]/\(M.pure (bt.go ⟨f,t,nt,k',[l],r⟩):M bt) s= .ok (.go<|vE l aV) s1):=by intro k' h;obtain⟨rfl,rfl⟩:=C4 h;exact⟨rfl,fun _ b=>⟨b,rfl⟩⟩
  cases it with
  |code c=>
   cases c with
   |skip=>exact goal qC rfl h'<|pop _ h'
   |label n=>exact goal qC rfl h'<|pop _ h'
   |seq a b=>exact goal (nB [.code a,.code b]) rfl h'<|pop _ h'
   |cond c a b=>refine goal (J3 c a b) rfl h' ?_;obtain⟨v,h1,h2⟩:=bu (show(aC (aI t c) fun v=>aC (xf v) fun v=>M.pure<|bt.go ⟨f,t,nt,.code (@Bool.rec (fun _=>Code) b a v)::k,d,r⟩) s=_ from h');obtain⟨v',h3,h4⟩:=bu h2;obtain⟨q1,q2⟩:=pop _ h4;refine⟨q1,fun a' b'=>⟨(q2 a' b').1,?_⟩⟩;show(aC (aI t c) fun v=>aC (xf v) fun v=>M.pure<|bt.go ⟨f,t,nt,.code (@Bool.rec (fun _=>Code) b a v)::k,[l],r⟩) s=_;rw[h1,ch,h3,ch];exact(q2 a' b').2
   |block i b=>exact goal (nB [.code b,.inBlock i]) rfl h'<|pop _ h'
   |loop b=>exact goal (nB [.code b,.inLoop b]) rfl h'<|pop _ h'
   |scope b=>exact goal (nB [.code b,.inScope b]) rfl h'<|pop _ h'
   |exit i=>
    refine goal (DG i) rfl h' ?_;have h2:(match exitTo i k with
     |some k'=>M.pure (bt.go ⟨f,t,nt,k',d,r⟩)
     |none=>M.pure<|bt.leave ⟨f,t,nt,.code (.exit i)::k,d,r⟩<|some<|.exit i) s= .ok (.go aV) s1:=h'
    cases e:exitTo i k with
    |none=>rw[e] at h2;cases(bK h2).1
    |some k'=>
     rw[e] at h2;obtain⟨q1,q2⟩:=pop _ h2;refine⟨q1,fun a' b'=>⟨(q2 a' b').1,?_⟩⟩;show(match exitTo i k with
      |some k'=>M.pure (bt.go ⟨f,t,nt,k',[l],r⟩)
      |none=>M.pure<|bt.leave ⟨f,t,nt,.code (.exit i)::k,[l],r⟩<|some<|.exit i) s=_
     rw[e];exact(q2 a' b').2
   |goto i=>
    refine goal (DH i) rfl h' ?_;have h2:(match gotoIn i k with
     |some k'=>M.pure (bt.go ⟨f,t,nt,k',d,r⟩)
     |none=>M.pure<|bt.leave ⟨f,t,nt,.code (.goto i)::k,d,r⟩<|some<|.goto i) s= .ok (.go aV) s1:=h'
    cases e:gotoIn i k with
    |none=>rw[e] at h2;cases(bK h2).1
    |some k'=>
     rw[e] at h2;obtain⟨q1,q2⟩:=pop _ h2;refine⟨q1,fun a' b'=>⟨(q2 a' b').1,?_⟩⟩;show(match gotoIn i k with
      |some k'=>M.pure (bt.go ⟨f,t,nt,k',[l],r⟩)
      |none=>M.pure<|bt.leave ⟨f,t,nt,.code (.goto i)::k,[l],r⟩<|some<|.goto i) s=_
     rw[e];exact(q2 a' b').2
   |ret=>cases(bK (show(M.pure (bt.leave ⟨f,t,nt,.code .ret::k,d,r⟩<|some .ret):M bt) s= .ok (.go aV) s1 from h')).1
   |region i ops dr=>
    cases dr with
    |false=>refine goal (IV P ops) rfl h' ?_;obtain⟨t1,s2,h2,h3⟩:=M.aR (show((jj P YO nt ops ops.toList t).bind fun t=>M.pure<|bt.go ⟨f,t,nt,k,d,r⟩) s= .ok (.go aV) s1 from h');obtain⟨rfl,rfl⟩:=C4 h3;refine⟨rfl,fun a' b'=>⟨b',?_⟩⟩;show((jj P YO nt ops ops.toList t).bind fun t=>M.pure<|bt.go ⟨f,t,nt,k,[l],r⟩) s=_;rw[M.bQ h2];rfl
    |true=>refine goal (Iz P ops) rfl h' ?_;obtain⟨t1,s2,h2,h3⟩:=M.aR (show((qd P YO nt ops t).bind fun t=>M.pure<|bt.go ⟨f,t,nt,k,d,r⟩) s= .ok (.go aV) s1 from h');obtain⟨rfl,rfl⟩:=C4 h3;refine⟨rfl,fun a' b'=>⟨b',?_⟩⟩;show((qd P YO nt ops t).bind fun t=>M.pure<|bt.go ⟨f,t,nt,k,[l],r⟩) s=_;rw[M.bQ h2];rfl
   |rangeFunc g ps a b=>
    have h2:uV g ps.toList a b YO f t nt d r k s= .ok (.go aV) s1:=h';unfold uV at h2;cases r with
    |none=>obtain⟨df,s2,_,h3⟩:=M.aR h2;obtain⟨lo,s3,_,h3⟩:=M.aR h3;obtain⟨gv,_,h3⟩:=bu h3;obtain⟨y,s4,_,h3⟩:=M.aR h3;obtain⟨p,s5,_,h3⟩:=M.aR h3;obtain⟨rfl,rfl⟩:=C4 h3;exact⟨rfl,fun _ b'=>by cases b'⟩
    |some l0=>
     obtain⟨o,s2,_,h3⟩:=M.aR h2;split at h3
     ·obtain⟨lo,s3,_,h3⟩:=M.aR h3;obtain⟨gv,_,h3⟩:=bu h3;obtain⟨y,s4,_,h3⟩:=M.aR h3;obtain⟨p,s5,_,h3⟩:=M.aR h3;obtain⟨rfl,rfl⟩:=C4 h3;exact⟨rfl,fun a' _=>by cases a'⟩
     ·cases h3
   |refuse m=>cases h'
  |inBlock i=>exact goal qC rfl h'<|pop _ h'
  |inScope i=>exact goal qC rfl h'<|pop _ h'
  |inLoop b=>exact goal (nB [.code b,.inLoop b]) rfl h'<|pop _ h'
  |beginRound=>
   have h2:yY YO f t nt d r k s= .ok (.go aV) s1:=h';unfold yY at h2;cases r with
   |none=>cases h2
   |some l0=>
    obtain⟨o,s2,_,h3⟩:=M.aR h2;split at h3
    ·obtain⟨_,s3,_,h4⟩:=M.aR h3;obtain⟨rfl,rfl⟩:=C4 h4;exact⟨rfl,fun a' _=>by cases a'⟩
    ·cases h3
  |_=>cases h'
theorem Tl:∀{k:Nat} {fr aV:AF} {s s1:AS},dZ P YO k fr s= .ok (.go aV) s1->aV.round=fr.round/\(fr.round=none->aV.defers=[]->fr.defers=[]/\dZ P YO k (vE l fr) s= .ok (.go<|vE l aV) s1)
 |0,fr,aV,s,s1,h=>by cases h;exact⟨rfl,fun _ b=>⟨b,rfl⟩⟩
 |k+1,fr,aV,s,s1,h=>by
  obtain⟨y,s2,h1,h2⟩:=M.aR (show((jf P YO fr).bind fun x=> @bt.rec (fun _=>M bt) (dZ P YO k) (fun fr j=>M.pure<|bt.leave fr j) x) s= .ok _ s1 from h);cases y with
  |leave nX j=>cases(bK (show(M.pure (bt.leave nX j):M bt) s2=_ from h2)).1
  |go nX=>have h2:dZ P YO k nX s2= .ok (.go aV) s1:=h2;obtain⟨a1,a2⟩:=Tl h2;obtain⟨b1,b2⟩:=aav (l:=l) h1;refine⟨a1.trans b1,fun q1 q2=>?_⟩;obtain⟨c1,c2⟩:=a2 (b1.trans q1) q2;obtain⟨d1,d2⟩:=b2 q1 c1;exact⟨d1,(AT d2).trans c2⟩
def GD(P:Program)(YO:aK)(B:aL)(J:Nat)(Q:Tr AV->List Nat->Option Code->AS->Prop)(l:Nat)(fr:AF)(s:AS):Prop:=fr.round=none/\fr.defers=[]/\zG P B J Q (vE l fr) s
theorem Chunk.defs(bY:P.follows .mixedOrders=true)(hc:fP P B YO)(hl:∀t a,YN<|YO t a):Chunk P YO<|GD P YO B J Q l:=by rintro k fr aV s s1 h ⟨h1,h2,h3⟩;obtain⟨a1,a2⟩:=Tl (l:=l) h;obtain⟨b1,b2⟩:=a2 (a1.symm.trans h1) h2;exact⟨a1.symm.trans h1,b1,Chunk.EH bY hc hl k _ _ _ _ b2 h3⟩
noncomputable section
def G0(P:Program)(YO:aK)(rs:List ResultVar)(k l:Nat)(fr:AF)(s:AS):Option<|AV×AS:=
 match dZ P YO k (vE l fr) s with
 | .ok (.leave aV j) s1=>(match finish P rs aV j s1 with
  | .ok v s2=>some (v,s2)
  | .bad=>none)
 |_=>none
end
theorem Nz{fr:AF}{R:AV->AS->Prop}{s2:AS}(bY:P.follows .mixedOrders=true)(hc:fP P B YO)(hl:∀t a,YN<|YO t a)(h1:fr.round=none)(h2:fr.defers=[])(h:G0 P YO rs k l fr s=some (v,s2))(hR:R v s2):GD P YO B J (Fin P rs R) l fr s:=by
 refine⟨h1,h2,fun h0=>?_⟩;unfold G0 at h;split at h
 ·rename_i aV j s1 e;split at h
  ·rename_i v2 s3 e2;injection h with h;injection h with h3 h4
   subst h3;subst h4;exact au.leave bY hc hl e h0 ⟨v2,s3,by rw[←Fl];exact e2,hR⟩
  ·cases h
 ·cases h
end
noncomputable section
def Pq(P:Program)(YO:aK)(rs:List ResultVar)(k l:Nat)(fr:AF)(s:AS):Option AV:=match G0 P YO rs k l fr s with
 |some (v,_)=>some v
 |none=>none
end
theorem MY{P:Program}{YO:aK}{l:Nat}{s:AS}{fr:AF}(bY:P.follows .mixedOrders=true)(hc:fP P B YO)(hl:∀t a,YN<|YO t a)(h1:fr.round=none)(h2:fr.defers=[])(h:Pq P YO rs k l fr s=some v):GD P YO B J (Fin P rs fun y _=>y=v) l fr s:=by
 unfold Pq at h;split at h
 ·rename_i v2 s2 e;injection h with h;subst h
  exact Nz bY hc hl h1 h2 e rfl
 ·cases h
theorem aea{E:Env}(hE:E.Ok){n f nt l:Nat}{t:Tr AV}{K:List Item}{s:AS}{C:zH}(uy:E.fg=false)(bY:E.P.follows .mixedOrders=true)(hc:fP E.P B<|bh E.P E.sp E.F n)(hl:∀t a,YN<|bh E.P E.sp E.F n t a)(hC:∀fr s p,C fr s p->GD E.P (bh E.P E.sp E.F n) B J Q l fr s)(h0:J<=s.nx)(fuel:Nat)(p:Pl){T:Prop}(x:T)(h:T=wp E fuel n (.fr f nt K t s) p [] (fun _ _ _=>False) C:=by as_aux_lemma=>kernel_rfl):au E.P B J Q ⟨f,t,nt,K,[l],none⟩ s:=(CY hE fuel n (.fr f nt K t s) p [] (fun _ _ _=>False) C (GD E.P (bh E.P E.sp E.F n) B J Q l) (Chunk.defs bY hc hl) (fun fr s j aV jm s1 v s2 p q1 q2 q3=>q3.elim) hC (fun _ _ _ _ _ _ _ _ _ q=>by rw[uy] at q;cases q) (fun _ _ _ _ _ _ _ _ _ _ _ q=>by rw[uy] at q;cases q) (fun _ _ _ _ _ _ _ _ _ q=>by rw[uy] at q;cases q)<|h▸x).2.2 h0
end Go.Rn
namespace Go.Rn
open Go.RowKit
theorem VR.I8{ρ:aw}{n o:Nat}{v:Value}(ht:top<=n)(h:VR ρ (.U n o 0) v):VR ρ (.U top 0 0) v\/VR ρ (.U (top+1) 0 0) v:=by
 simp only[VR] at h ⊢;rcases h with⟨_,_,a,c,rfl,hz⟩|⟨b,sh,c,_,rfl,_⟩
 ·cases a with
  |none=>exact .inl<|.inl ⟨Nat.le_refl _,trivial,none,c,rfl,hz.1,(fun _=>rfl),fun e=>by omega⟩
  |some a=>exact .inr<|.inl ⟨by omega,trivial,some a,c,rfl,(fun e=>by cases e),(fun e=>by omega),fun _ e=>by cases e⟩
 ·exact .inr<|.inl ⟨by omega,trivial,_,c,rfl,(fun e=>by cases e),(fun e=>by omega),fun _ e=>by cases e⟩
theorem au.I8{P:Program}{B:aL}{J:Nat}{Q:Tr AV->List Nat->Option Code->AS->Prop}{f nt:Nat}{t:Tr AV}{K:List Item}{d:List Nat}{r:Option Nat}{s:AS}{i n o:Nat}(hi:t.get i=some (.U n o 0))(ht:top<=n)(pU:i<top)(H1:au P B J Q ⟨f,t.put i<|some<|.U top 0 0,nt,K,d,r⟩ s)(H2:au P B J Q ⟨f,t.put i<|some<|.U (top+1) 0 0,nt,K,d,r⟩ s):au P B J Q ⟨f,t,nt,K,d,r⟩ s:=by
 intro ρ w b a cs bS aB hf;have hv:=aB.tr.2 i _ hi;have ah:∀x,VR ρ x (a.tmps.getD i Go.undef)->At B ρ s nt (t.put i<|some x) w a:=fun x hx=>by
  obtain⟨h1,h2,h3,h4,h5⟩:=aB;refine⟨⟨h1.1,fun j y hy=>?_⟩,h2,h3,h4,h5⟩;rw[Tr.lM _ _ _ _ pU] at hy;by_cases e:j=i
  ·rw[if_pos e] at hy;cases hy;rw[e];exact hx
  ·rw[if_neg e] at hy;exact h1.2 j y hy
 obtain⟨f1,f2,f3,f4,f5⟩:=bS;rcases hv.I8 ht with q|q
 ·exact H1 ρ w b a cs ⟨f1,f2,f3,f4,f5⟩ (ah _ q) hf
 ·exact H2 ρ w b a cs ⟨f1,f2,f3,f4,f5⟩ (ah _ q) hf
end Go.Rn
namespace Go.Rn
open Go.RowKit
section
variable {X:TX} {P:Program} {J:Nat} {ns:List Nat} {h0:Tr ab} {L:bV} {g:Nat} {fn:Func} {body:Code}
theorem acH(hP:bE P)(fV:fM<=J)(dO:J<=top)(dM:∀n o,n<top->h0.get n=some o->n∈ns)(eA:∀n∈ns,n<J){val:List AV->Option AV}(h:eC X J P<|dB J ns h0 L)(cq:P.funcs[g]? =some fn)(cx:fn.body=some body)(dL:(fn.name == "runtime.NumGoroutine")=false)(eQ:∀args v,val args=some v->max fn.ntmps args.length<=top/\∃L',eC X J P (dB J ns h0 L')/\∀B:aL,qH X P J ns h0 L' B->
 au P B J (Fin P fn.results.toList fun y _=>y=v) ⟨g,ep args,max fn.ntmps args.length,[.code body],[],none⟩ ⟨h0,J,0,[],[]⟩):eC X J P<|dB J ns h0<|(g,.val val)::L:=by
 refine(show eC X J P (pI (dB J ns h0 L) g<|pq J ns h0 val) from h.mT (fun YO _ args=>YN.pq _ _ _ _ YO args) fun B hB hT YO hc hl args x s s1 ρ w vs fi r hg hf hm hv=>?_);refine R3 hP cq cx dL fV dO dM eA (fun args v e=>?_) r hg hm hv;obtain⟨q1,L',h',q2⟩:=eQ args v e;exact⟨q1,fun B' lH lI=>q2 B'<|rO hP h' (lH.trans hB)<|lI.trans hT⟩
end
end Go.Rn
namespace Go.Rn
open Go.RowKit
variable {s:AS}
section
variable {P:Program} {B:aL} {J:Nat} {Q:Tr AV->List Nat->Option Code->AS->Prop} {YO:aK}
theorem au.Xc{fr aV:AF}{s1:AS}{ρ:aw}{w:World}{b:Frame}{a:Act}{cs:List Frame}(bS:Fr ρ fr b a)(hf:∀k,s.nx<=k->k<top->ρ k=none)(mU:s.nx<=s1.nx)(h0:J<=s.nx)(hw:nG P B ρ s s1 w fr b cs (lone (b.atR a fr.todo) cs w)<|.go aV)(H:au P B J Q aV s1):
 ∃(jV:AF) (j:Option Code) (s2:AS) (σ:aw) (a2:Act) (w2:World),Q jV.tmps jV.defers j s2/\J<=s2.nx/\(∀k,k<J->k<top->σ k=ρ k)/\(∀k x,top<=k->ρ k=some x->σ k=some x)/\(∀k,s2.nx<=k->k<top->σ k=none)/\At B σ s2 fr.nt jV.tmps w2 a2/\vO σ jV.defers a2.defers/\cL B w w2/\(jV.fn=fr.fn/\jV.nt=fr.nt/\jV.round=fr.round)/\jB jV.todo/\Leaves j jV.todo/\Steps P (lone (b.atR a fr.todo) cs w) (lone (b.atR a2 jV.todo) cs w2):=by
 obtain⟨σ,a1,w1,e1,e2,e3,e4,⟨e5,e6,e7⟩,e8,_,e9⟩:=hw;have Ch:aV.fn=fr.fn:=e5;have iZ:aV.nt=fr.nt:=e6;have np:aV.round=fr.round:=e7;obtain⟨jV,j,s2,τ,a2,w2,q0,qn,q1,Ht,q2,q3,q4,q5,⟨q6,q7,q8⟩,q9,QA,QB⟩:=H σ w1 b a1 cs ⟨bS.fn.trans Ch.symm,bS.kind,by rw[np];exact bS.round.mono e1.le,e3,e8⟩ (by rw[iZ];exact e2) fun k hk ht=>(e1.out k ht aj).trans<|hf k aj ht;exact⟨jV,j,s2,τ,a2,w2,q0,qn,fun k hk gk=>(q1 k hk gk).trans<|e1.out k gk aj,fun k x hk hx=>Ht k x hk<|e1.le _ _ hx,q2,by rw[←iZ];exact q3,q4,e4.trans q5,⟨q6.trans Ch,q7.trans iZ,q8.trans np⟩,q9,QA,Steps.trans e9 QB⟩
theorem au.next(hc:fP P B YO)(hl:∀t a,YN<|YO t a){fr:AF}{s2:AS}{it:Operand}{o:Oper}{ops:Array Oper}{rest:List Oper}{k:List Item}{n m:Nat}{es:List<|AV×AV}{ex:Bool}{left:List<|AV×AV}{cur:Option<|AV×AV}(e:yJ fr=some (it,o,ops,rest,k))(h0:J<=s.nx)(e1:rj fr it s= .ok (n,.iter m es ex left cur) s2)(H0:left=[]->∃aV s3,qe P YO fr n m es ex o ops rest k s2= .ok aV s3/\au P B J Q aV s3)(H1:∀x r,(x,r)∈rC left->∃aV s3,qj P YO fr n (.iter m es ex r<|some x) o ops rest k (.tuple [.bool true,x.1,x.2]) s2= .ok aV s3/\au P B J Q aV s3):au P B J Q fr s:=by
 intro ρ w b a cs bS aB hf;obtain⟨id,rD,nH,Lg,ho⟩:=Zl e;obtain⟨h1,h2⟩:=ZI e1;obtain⟨hx,hg,hh,cQ⟩:=fX h2;have eG:bD s2:=(YN.bq n).cO aB.cO h2;have ht:n<top:=Nat.lt_of_lt_of_le hx aB.cO.nx;have hd:∀c,o.op≠ .defer c:=fun c q=>by rw[ho] at q;cases q
 obtain⟨pS,fC,u⟩:=aB.rel.iter n m es ex left cur ht hg;obtain⟨bn,N,hn,tP⟩:=u.next (P:=P) o.type;have Yg:VR ρ (.ptr<|some (n,0))<|a.eval it:=FN aB.tr aB.g h1;have K8:a.eval it= .pointer (some ⟨bn,0,none⟩):=by simp only[VR] at Yg;obtain⟨b',N',q1,q2⟩:=Yg;rw[hn] at q1;cases q1;exact q2
 have Ws:∀v w',(Instr.next (.pointer<|some ⟨bn,0,none⟩) false o.type).run P w= .ok v w'->(execOp a.eval o).run P w= .ok (.value v) w':=by intro v w' q;simp only[execOp,ho,K8,Sem.run_bind,q,Result.andThen_ok,Sem.run_pure]
 obtain⟨_,_,_,hB⟩:=aB.rel.block ht hg hn;have free:∀{a b:Nat},s.nx<=a->dF a b ρ:=fun ha k h1 _ h3=>hf k aj h3;rcases tP with⟨Ks,xR⟩|⟨x,r,v1,v2,w',iJ,Ln,wc,xR,Yh,ajq,hun⟩
 ·obtain⟨aV,s3,e3,HS⟩:=H0 Ks;have lG:=(YN.qe P hl fr n m es ex o ops rest k).cO eG e3;have Hs:=(YN.qe P hl fr n m es ex o ops rest k).le eG e3;refine au.Xc bS hf aj h0 ?_ HS;unfold qe at e3;obtain⟨u1,s4,i1,i2⟩:=M.aR e3;obtain⟨u2,s5,i3,i4⟩:=M.aR i2;obtain⟨t1,s6,i5,i6⟩:=M.aR i4;obtain⟨t2,s7,i7,i8⟩:=M.aR i6;obtain⟨rfl,rfl⟩:=bK i8;obtain⟨i9,rfl⟩:=hU i5;obtain⟨_,_,_,j1,j2⟩:=kr i1;obtain⟨_,_,_,j3,j4⟩:=kr i3;have QO:bD s6:=(YN.bN m _).cO ((YN.bN n _).cO eG i1) i3;have l6:s.h.get n=some (.iter m es ex [] cur):=by rw[hg,Ks]
  have P6:Rel B ρ s6.h w:=by rw[j3,j1,hh];exact aB.rel.aiH ht l6
  have QP:VR ρ (.tuple [.bool false])<|.tuple #[.bool false]:=by simp only[VR,aA];exact⟨_,rfl,_,_,rfl,rfl,rfl⟩
  obtain⟨q1,q2⟩:=IC (a:=a) aB.tr aB.nt i9 QP;exact RZ hc hl bS rD nH Lg hd (Ws _ _ xR) (cL.refl _ _) ⟨q1,P6,aB.g,aB.nt,QO⟩ (by rw[j4,j2,cQ]) (free (by rw[j4,j2,cQ];exact Nat.le_refl _)) i7
 ·obtain⟨aV,s3,e3,HS⟩:=H1 x r iJ;have lG:=(YN.qj P hl fr n (.iter m es ex r<|some x) o ops rest k<|.tuple [.bool true,x.1,x.2]).cO eG e3;have Hs:=(YN.qj P hl fr n (.iter m es ex r<|some x) o ops rest k<|.tuple [.bool true,x.1,x.2]).le eG e3;refine au.Xc bS hf aj h0 ?_ HS;unfold qj at e3;obtain⟨u1,s4,i1,i2⟩:=M.aR e3;obtain⟨t1,s6,i5,i6⟩:=M.aR i2;obtain⟨t2,s7,i7,i8⟩:=M.aR i6;obtain⟨rfl,rfl⟩:=bK i8;obtain⟨i9,rfl⟩:=hU i5;obtain⟨_,_,_,j1,j2⟩:=kr i1;have QO:bD s6:=(YN.bN n _).cO eG i1;have P6:Rel B ρ s6.h w':=by rw[j1,hh];exact aB.rel.afg ht hg hn Yh ajq hun
  have QP:VR ρ (.tuple [.bool true,x.1,x.2])<|.tuple #[.bool true,v1,v2]:=by simp only[VR,aA];exact⟨_,rfl,_,_,rfl,rfl,_,_,rfl,Ln,_,_,rfl,wc,rfl⟩
  obtain⟨q1,q2⟩:=IC (a:=a) aB.tr aB.nt i9 QP;exact RZ hc hl bS rD nH Lg hd (Ws _ _ xR) (Yh.below<|hB rfl) ⟨q1,P6,aB.g,aB.nt,QO⟩ (by rw[j2,cQ]) (free (by rw[j2,cQ];exact Nat.le_refl _)) i7
end
end Go.Rn
namespace Go.Rn
open Go.RowKit
variable {ρ σ:aw} {off:Nat} {cs:List AV} {x:AV} {w:World} {s:AS} {B:aL}
def AV.xL(x:AV):Bool:=match x with
 | .agg l=>l.all AV.flat
 | .tuple l=>l.all AV.flat
 |x=>x.flat
theorem aA.flat:∀{l:List AV} {vs:List Value},l.all AV.flat=true->aA ρ l vs->aA σ l vs
 |[],_,_,hv=>by simpa only[aA] using hv
 |y::l,vs,hy,hv=>by obtain⟨h1,h2⟩:=and_true.1 (show(y.flat&&l.all AV.flat)=true from hy);simp only[aA] at hv ⊢;obtain⟨a,as,e,h3,h4⟩:=hv;exact⟨a,as,e,VR.flat h1 h3,aA.flat h2 h4⟩
theorem VR.xL{v:Value}(h:x.xL=true)(k:VR ρ x v):VR σ x v:=by
 unfold AV.xL at h;split at h
 ·simp only[VR] at k ⊢;obtain⟨a,e,q⟩:=k;exact⟨a,e,aA.flat h q⟩
 ·simp only[VR] at k ⊢;obtain⟨a,e,q⟩:=k;exact⟨a,e,aA.flat h q⟩
 ·exact VR.flat h k
theorem acO{eY:aw}{h h0:Tr ab}{j b:Nat}{c:Array Value}{e:TypeId}{fr:Nat×Nat}(R0:Rel (rE B ρ w) eY h0 w)(G6:∀n o,n<top->h0.get n=some o->o.mL=true)(jg:eY (hn j b off)=none)(hF:B.F j=some cs)(hb:w.heap[b]? =some (.cells c e fr))(uw:∀i x,cs[i]? =some x->∃v,c[off+i]? =some v/\VR (gi eY) x v/\x.cf=true)(hold:∀k,ρ k≠none->eO eY (hn j b off) (b,0) k≠none):
 Rel (rE B (eO eY (hn j b off) (b,0)) w) (eO eY (hn j b off) (b,0)) h0 w:=by
 have hl:eY.le<|eO eY (hn j b off) (b,0):=ox jg;have cU:∀k,k<top->eO eY (hn j b off) (b,0) k=eY k:=fun k hk=>gI _ _ (by have:=fY j b off;omega);have Yj:∀x,jU (eO eY (hn j b off) (b,0)) h0 x:=fun x m o N hm hg hr=>by rw[ab.jY<|G6 m o hm hg] at hr;cases hr
 refine⟨fun n o eZ ho=>?_,fun n m o p b1 N M eZ hm h1 h2 cV e1 e2=>?_,fun n m es ex left cur eZ ho=>?_,R0.size,R0.lone,fun n x sh q=>?_,?_⟩
 ·obtain⟨b1,N,o',i1,i2,i3,i4⟩:=R0.is n o eZ ho;exact⟨b1,N,o',hl _ _ i1,i2,i3.mono hl,i4⟩
 ·rw[cU n eZ] at e1;rw[cU m hm] at e2;exact R0.one n m o p b1 N M eZ hm h1 h2 cV e1 e2
 ·have:=G6 n _ eZ ho;cases this
 ·by_cases z:hn n x sh=hn j b off
  ·obtain⟨rfl,rfl,rfl⟩:=Jq z;refine⟨.inl q,cs,c,e,fr,hF,hb,Yj _,fun i y hy=>?_⟩;obtain⟨v,k1,k2,k3⟩:=uw i y hy;exact⟨v,k1,VR.mono (Fu hl) _ _ k2,k3⟩
  ·have q':eY (hn n x sh)≠none:=by rw[gI _ _ z] at q;exact q
   obtain⟨_,l,c1,e1,aV,g1,g2,_,g4⟩:=R0.fz n x sh q';refine⟨.inl q,l,c1,e1,aV,g1,g2,Yj _,fun i y hy=>?_⟩;obtain⟨v,k1,k2,k3⟩:=g4 i y hy;exact⟨v,k1,VR.mono (Fu hl) _ _ k2,k3⟩
 ·refine uj.no (fun n k v eZ hg=>by have:=G6 n _ eZ hg;cases this) ⟨R0.tk.1.1,fun m o hm hg hf=>?_⟩;obtain⟨b1,N,e1,e2⟩:=R0.tk.1.2 m o hm hg hf;exact⟨b1,N,hl _ _ e1,e2⟩
noncomputable section
def Gs(len:Nat):cC->Bool
 | .known c=>Nat.ble len c
 | .aq _ _=>true
 | .lost=>false
def vU(J:Nat)(ns:List Nat)(h0:Tr ab)(val:List AV->Option AV):aK->List AV->M AV:=fun _ args=>match args with
  | [a,.slice (some (n,off)) len cap,b]=>aH (a.hi&&(b.hi&&Gs len cap)) <| (fG J h0 ns).bind fun _=>(bq n).bind fun o=>aC (cellsOf (some o) off len) fun cs=>aH (cs.all AV.ga&&Nat.blt n top) <|
    aC (val [a,.U (nm cs) 0 len,b]) fun v=>aH v.xL <| M.pure v
  |_=>fail
end
theorem YN.vU(J:Nat)(ns:List Nat)(h0:Tr ab)(val:List AV->Option AV)(YO:aK)(args:List AV):YN<|vU J ns h0 val YO args:=by
 unfold Rn.vU;split
 ·exact YN.aH fun _=>YN.bind (YN.fG J h0 ns) fun _=>YN.bind (YN.bq _) fun _=>YN.aC fun _ _=>YN.aH fun _=>YN.aC fun _ _=>YN.aH fun _=>YN.pure _
 ·exact YN.fail
theorem ZO{o:ab}{k:Nat}(h:cellsOf (some o) off k=some cs):∃m t z,o= .cells m t z/\off+k<=m/\lp t z k off=some cs:=by
 unfold cellsOf at h;split at h
 ·rename_i m t z e;injection e with e
  split at h
  ·rename_i q;exact⟨m,t,z,e,aM.1 q,h⟩
  ·cases h
 ·cases h
theorem aev{P:Program}{f J:Nat}{ns:List Nat}{h0:Tr ab}{val:List AV->Option AV}{fn:Func}{body:Code}{s1:AS}(hP:bE P)(cq:P.funcs[f]? =some fn)(cx:fn.body=some body)(dL:(fn.name == "runtime.NumGoroutine")=false)(hFU:B.F=FU)(fV:fM<=J)(dO:J<=top)(dM:∀n o,n<top->h0.get n=some o->n∈ns)(eA:∀n∈ns,n<J)(eQ:∀args v,val args=some v->max fn.ntmps args.length<=top/\∀B':aL,B'.F=B.F->B'.inv=B.inv->au P B' J (Fin P fn.results.toList fun y _=>y=v) ⟨f,ep args,max fn.ntmps args.length,[.code body],[],none⟩ ⟨h0,J,0,[],[]⟩){YO:aK}{args:List AV}{vs:Array Value}(r:Rel B ρ s.h w)(hg:gb ρ)(h:vU J ns h0 val YO args s= .ok x s1)(hv:aA ρ args vs.toList):jk P ((callFunc f vs).run P w)<|j8 B ρ s s1 w x:=by
 unfold vU at h;split at h
 case h_2=>cases h
 rename_i a n off len cap a2;obtain⟨gG,h1⟩:=cZ h;obtain⟨ha,yj⟩:=and_true.1 gG;obtain⟨hb,Kp⟩:=and_true.1 yj;obtain⟨u,s2,h2,h3⟩:=M.aR h1;obtain⟨o,s3,h4,h5⟩:=M.aR h3;obtain⟨cs,h6,h7⟩:=bu h5;obtain⟨hcd,h8⟩:=cZ h7;obtain⟨Yl,iY⟩:=and_true.1 hcd;have iY:n<top:=(blt_eq _ _).mp iY;obtain⟨v,h9,gE⟩:=bu h8;obtain⟨yl,uv⟩:=cZ gE;obtain⟨rfl,rfl⟩:=bK uv;obtain⟨a1,a2',a3⟩:=uG h2;obtain⟨b1,b2,b3,b4⟩:=fX h4;obtain⟨m,t,z,rfl,c1,c2⟩:=ZO h6;have j9:s.h.get n=some (.cells m t z):=by rw[←a1];exact b2
 obtain⟨bb,N,o',d1,d2,d3,_⟩:=r.is n _ iY j9;have Ym:=d3;simp only[OR] at Ym;obtain⟨c,e,rfl,_,d4,d5⟩:=Ym;obtain⟨g1,g2⟩:=HY c2;have Yn:∀n∈ns,∃o p,s.h.get n=some o/\h0.get n=some p/\oz J o p=true:=fun n hn=>by obtain⟨_,o,p,h⟩:=a3 n hn;exact⟨o,p,h⟩
 have R0:=DQ dO r dM eA Yn;have G6:∀n o,n<top->h0.get n=some o->o.mL=true:=fun n o hn ho=>by obtain⟨p1,p2,_,c3,c4⟩:=Yn n<|dM n o hn ho;rw[ho] at c3;cases c3;unfold oz at c4;split at c4<;>first|rfl|cases c4
 have agb:ρ (hn (nm cs) bb off)=none:=Classical.byContradiction fun q=>by obtain⟨_,_,_,_,_,_,_,z3,_⟩:=r.fz _ _ _ q;exact z3 n _ N iY j9 rfl d1
 have jg:gf J ρ (hn (nm cs) bb off)=none:=by rw[sW dO<|fY _ _ _];exact agb
 have R1:=acO (B:=B) (ρ:=gf J ρ) (eY:=gf J ρ) (j:=nm cs) (b:=bb) (off:=off) (cs:=cs) (c:=c) (e:=e) (fr:=(0,0)) (h:=s.h) (h0:=h0) (w:=w) ⟨R0.is,R0.one,R0.iter,R0.size,R0.lone,fun n x sh q=>by
  obtain⟨_,g⟩:=R0.fz n x sh q;exact⟨.inl q,g⟩,R0.tk⟩ G6 jg (by rw[hFU];exact DP Yl) d2 (fun i x hx=>by
  have hi:i<len:=by rw[←g1];exact(List.getElem?_eq_some_iff.1 hx).1
  obtain⟨x',v',k1,k2,k3,k4⟩:=d5 (off+i) aj;rw[g2 i hi,hx] at k1;injection k1 with k1;subst k1
  have hxc:x.ga=true:=List.all_eq_true.1 Yl x<|List.mem_of_getElem? hx;refine⟨v',k3,AV.u0 (fun k y hk q=>?_) (CZ hxc) k4,k2⟩;unfold gi;rw[if_pos hk,sW dO hk];exact q) (fun k q=>by
  unfold eO;split
  ·exact fun q=>by cases q
  ·exact q)
 obtain⟨q1,q2⟩:=eQ _ _ h9;have fi:bD (⟨h0,J,0,[],[]⟩:AS):=⟨Nat.zero_le _,dO⟩;have Ab:gb<|eO (gf J ρ) (hn (nm cs) bb off) (bb,0):=fun g iA=>by obtain⟨N,e⟩:=hg g iA;exact⟨N,ox jg _ _ (by unfold gf;rw[if_pos<|Nat.lt_of_lt_of_le iA fV];exact e)⟩
 have hi:jl ρ<|eO (gf J ρ) (hn (nm cs) bb off) (bb,0):=fun k y hk e=>ox jg _ _ (by rw[sW dO hk];exact e);have kh:aA (eO (gf J ρ) (hn (nm cs) bb off) (bb,0)) [a,.U (nm cs) 0 len,a2] vs.toList:=by
  simp only[aA] at hv ⊢;obtain⟨v0,vr,e1,k1,v1,vr1,e2,k2,v2,vr2,e3,k3,k4⟩:=hv;refine⟨v0,vr,e1,AV.py hi ha k1,v1,vr1,e2,?_,v2,vr2,e3,AV.py hi hb k3,k4⟩;have aB:qA (eO (gf J ρ) (hn (nm cs) bb off) (bb,0)) (nm cs) bb off:=.inr ⟨cr _,by rw[iN];exact fun q=>by cases q⟩;cases cap with
  |known cc=>simp only[VR] at k2 ⊢;obtain⟨b',N',e4,e5⟩:=k2;rw[d1] at e4;cases e4;exact .inr ⟨bb,off,cc,aB,e5,fun _=>⟨aM.1 Kp,(zo cs).1⟩⟩
  |aq lo ee=>simp only[VR] at k2 ⊢;obtain⟨b',N',cc,e4,e5,e6,e7,_⟩:=k2;rw[d1] at e4;cases e4;exact .inr ⟨bb,off,cc,aB,e5,fun _=>⟨e7,(zo cs).1⟩⟩
  |lost=>cases Kp
 have bI:=au.calls (B:=rE B (eO (gf J ρ) (hn (nm cs) bb off) (bb,0)) w) (s:=⟨h0,J,0,[],[]⟩) (args:=[a,.U (nm cs) 0 len,a2]) (vs:=vs) hP cq cx q1 (q2 _ rfl rfl) fi R1 Ab (fun k k1 k2=>by have k1:J<=k:=k1;rw[gI _ _ (by have:=fY (nm cs) bb off;omega)];unfold gf gi;rw[if_neg aj,if_neg aj]) kh;rw[uH cq cx dL];show Calls P f vs w _;refine bI.mono fun e w'=>?_;rintro ⟨y,x',s4,rfl,rfl,_,_,σ,e1,e2,e3,e4⟩;have gr:gV w w':=⟨e4.os,e4.tape,e4.output,e4.size,fun k hk=>e4.block k hk (by show ¬(w.heap.size<=k);omega)⟩;exact⟨y,rfl,ρ,by rw[b4,a2'];exact Ext.refl _ _ _,VR.xL yl e2,by rw[b3,a1];exact r.D7 gr,gr.below r.size⟩
section
variable {X:TX} {P:Program} {J:Nat} {ns:List Nat} {h0:Tr ab} {kn:List<|Nat×Option ab} {L L':bV} {g k:Nat} {fn:Func} {body:Code}
theorem aew(hP:bE P)(fV:fM<=J)(dO:J<=top)(dM:∀n o,n<top->h0.get n=some o->n∈ns)(eA:∀n∈ns,n<J){val:List AV->Option AV}(h:eC X J P<|dB J ns h0 L)(h':eC X J P<|dB J ns h0 L')(cq:P.funcs[g]? =some fn)(cx:fn.body=some body)(dL:(fn.name == "runtime.NumGoroutine")=false)(eQ:∀args v,val args=some v->max fn.ntmps args.length<=top/\∀B:aL,qH X P J ns h0 L' B->
 au P B J (Fin P fn.results.toList fun y _=>y=v) ⟨g,ep args,max fn.ntmps args.length,[.code body],[],none⟩ ⟨h0,J,0,[],[]⟩):eC X J P<|dB J ns h0<|(g,.raw fun a b c=>vU a b c val)::L:=by
 refine(show eC X J P (pI (dB J ns h0 L) g<|vU J ns h0 val) from h.mT (fun YO _ args=>YN.vU _ _ _ _ YO args) fun B hB hT YO hc hl args x s s1 ρ w vs fi r hg hf hm hv=>?_);refine aev hP cq cx dL hB fV dO dM eA (fun args v e=>?_) r hg hm hv;obtain⟨q1,q2⟩:=eQ args v e;exact⟨q1,fun B' lH lI=>q2 B'<|rO hP h' (lH.trans hB)<|lI.trans hT⟩
end
theorem acP{P:Program}{F:Nat->Option (List AV)}{sp:Sp}{g n J:Nat}{h0:Tr ab}{ns:List Nat}{val:List AV->Option AV}(h:sp g=some (vU J ns h0 val)){a b:AV}{m len:Nat}{cap:cC}{v:AV}(h1:(a.hi&&(b.hi&&Gs len cap))=true)(hk:qG J h0 ns s=true)(hm:Nat.blt m (dP J h0 ns s).nx=true)(ht:Nat.blt m top=true)(h2:cellsOf ((dP J h0 ns s).h.get m) off len=some cs)(h3:cs.all AV.ga=true)(h4:val [a,.U (nm cs) 0 len,b]=some v)(h5:v.xL=true):
 bh P sp F (n+1) (.fn g) [a,.slice (some (m,off)) len cap,b] s= .ok v (aZ m<|dP J h0 ns s):=by
 show ki P sp g (bh P sp F n) [a,.slice (some (m,off)) len cap,b] s=_;rw[uZ h];cases q:(dP J h0 ns s).h.get m with
 |none=>rw[q] at h2;cases h2
 |some o=>rw[q] at h2;show(aH (a.hi&&(b.hi&&Gs len cap)) <| (fG J h0 ns).bind fun _=>(bq m).bind fun o=>aC (cellsOf (some o) off len) fun cs=>aH (cs.all AV.ga&&Nat.blt m top) <| aC (val [a,.U (nm cs) 0 len,b]) fun v=>aH v.xL <| M.pure v) s=_;rw[h1,dC,M.bQ<|xm hk,M.bQ<|md hm q,h2,ch,h3,ht];show(aH true <| aC (val [a,.U (nm cs) 0 len,b]) fun v=>aH v.xL <| M.pure v) _=_;rw[dC,h4,ch,h5,dC];rfl
end Go.Rn
namespace Go.Rn
open Go.RowKit
variable {r2 r1 N n:Nat} {ρ σ:aw} {o':Obj} {cs a rest b:List AV} {y v:AV} {sp:Sp} {s:AS} {o:ab} {F:Nat->Option (List AV)}
noncomputable def bU(cs:List AV):ab:=.cells cs.length (Tr.fill cs 0 .nil) []
theorem acQ(ha:a.length<=top)(hb:b.length<=top)(h:bU a=bU b):a=b:=by
 unfold bU at h;injection h with h1 h2 _
 refine List.ext_getElem? fun i=>?_;by_cases q:i<a.length
 ·have e1:=yG ha q;have e2:=yG hb (show i<b.length by omega);rw[←e1, ←e2,h2]
 ·rw[List.getElem?_eq_none aj,List.getElem?_eq_none aj]
open Classical in
noncomputable def rowOf(o:ab):Option<|List AV:=if h:∃cs,cs.length<=top/\o=bU cs then some h.choose else none
theorem Iv(h:rowOf o=some cs):o=bU cs/\cs.length<=top:=by
 unfold rowOf at h;split at h
 ·rename_i q;injection h with h;rw[←h];exact⟨q.choose_spec.2,q.choose_spec.1⟩
 ·cases h
theorem Iw(h:cs.length<=top):rowOf (bU cs)=some cs:=by unfold rowOf;have q:∃Yo,Yo.length<=top/\bU cs=bU Yo:=⟨cs,h,rfl⟩;rw[dif_pos q];exact congrArg some (acQ h q.choose_spec.1 q.choose_spec.2).symm
structure RS where
 pre:List AV
 len:Nat
 cap:cC
 post:List AV
def dQ(R:RS)(r1 r2:Nat):List AV:=R.pre++(.ptr (some (r1,0)):: .slice (some (r2,0)) R.len R.cap::R.post)
def rootOf(kp:Nat)(cs:List AV):Option<|RS×Nat×Nat:=match cs.drop kp with
 | .ptr (some (r1,0)):: .slice (some (r2,0)) len cap::post=>some (⟨cs.take kp,len,cap,post⟩,r1,r2)
 |_=>none
theorem R4{R:RS}{kp:Nat}(h:R.pre.length=kp):rootOf kp (dQ R r1 r2)=some (R,r1,r2):=by subst h;unfold rootOf dQ;rw[List.drop_left,List.take_left];rfl
theorem Sy{kp:Nat}{q:RS×Nat×Nat}(h:rootOf kp cs=some q):cs=dQ q.1 q.2.1 q.2.2:=by
 unfold rootOf at h;split at h
 ·rename_i e;injection h with h;subst h
  unfold dQ;rw[←e,List.take_append_drop]
 ·cases h
structure VS where
 R:RS
 u:AV
 row:List AV
def xM(k:Nat)(o:ab):Option AV:=match o with
 | .tok k' v=>(match Nat.beq k k' with|true=>some v|false=>none)
 |_=>none
theorem MZ{k:Nat}(h:xM k o=some v):o= .tok k v:=by
 unfold xM at h;split at h
 ·split at h
  ·rename_i q;injection h with h;rw[h,Nat.eq_of_beq_eq_true q]
  ·cases h
 ·cases h
theorem M3{k:Nat}:xM k (.tok k v)=some v:=by show(match Nat.beq k k with|true=>some v|false=>none)=some v;rw[dT.2 rfl]
def sB(R:RS):Bool:=R.pre.all AV.bG&&R.post.all AV.bG
def bH(kp:Nat)(st:VS):Bool:=sB st.R&&(st.row.all AV.bG&&(Nat.ble (dQ st.R 0 0).length top&&Nat.ble st.row.length top))
noncomputable section
def m9(kp k:Nat)(val:VS->List AV->Option (AV×VS))(J:Nat)(ns:List Nat)(h0:Tr ab):aK->List AV->M AV:=fun _ args=>match args with
 | .ptr (some (n,0))::rest=>aH (rest.all AV.hi) <| (fG J h0 ns).bind fun _=>(bq n).bind fun o=>aC (rowOf o) fun cs=>aC (rootOf kp cs) fun q=>(bq q.2.1).bind fun o1=>aC (xM k o1) fun u=>(bq q.2.2).bind fun o2=>aC (rowOf o2) fun row=>
  aH (sB q.1&&row.all AV.bG) <| aH (!Nat.beq n q.2.1&&(!Nat.beq n q.2.2&& !Nat.beq q.2.1 q.2.2)) <| aC (val ⟨q.1,u,row⟩ rest) fun p=>aH (p.1.hi&&bH kp p.2) <|
  (bN n<|some<|bU<|dQ p.2.R q.2.1 q.2.2).bind fun _=>(lk q.2.1<|some<|.tok k p.2.u).bind fun _=>(bN q.2.2<|some<|bU p.2.row).bind fun _=>M.pure p.1
 |_=>fail
def dD(J k:Nat)(st:VS):List<|Nat×ab:=[(J,bU<|dQ st.R (J+1)<|J+2),(J+1,.tok k st.u),(J+2,bU st.row)]
end
theorem YN.m9(kp k:Nat)(val:VS->List AV->Option (AV×VS))(J:Nat)(ns:List Nat)(h0:Tr ab)(YO:aK)(args:List AV):YN<|m9 kp k val J ns h0 YO args:=by
 unfold Rn.m9;split
 ·exact YN.aH fun _=>YN.bind (YN.fG J h0 ns) fun _=>YN.bind (YN.bq _) fun _=>YN.aC fun _ _=>YN.aC fun _ _=>YN.bind (YN.bq _) fun _=>YN.aC fun _ _=>YN.bind (YN.bq _) fun _=>YN.aC fun _ _=>YN.aH fun _=>YN.aH fun _=>YN.aC fun _ _=>YN.aH fun _=>YN.bind (YN.bN _ _) fun _=>YN.bind (YN.lk _ _) fun _=>YN.bind (YN.bN _ _) fun _=>YN.pure _
 ·exact YN.fail
def gW(J k:Nat)(P:Program)(rs:List ResultVar)(y:AV)(st:VS):=Fin P rs fun y1 s'=>y1=y/\∀m o,(m,o)∈dD J k st->s'.h.get m=some o
theorem U2(ha:a.length<=top)(hb:b.length<=top)(hl:b.length=a.length)(hc:∀(i:Nat) (x y:AV),a[i]? =some x->b[i]? =some y->(x.cf=true->y.cf=true)/\∀v,VR ρ x v->VR σ y v)(h:OR ρ N (bU a) o'):OR σ N (bU b) o':=by unfold bU at h ⊢;simp only[OR] at h ⊢;obtain⟨c,e,rfl,h1,h2,h3⟩:=h;refine⟨c,e,rfl,h1,by omega,fun i hi=>?_⟩;obtain⟨x,v,k1,k2,k3,k4⟩:=h3 i aj;rw[yG ha aj] at k1;have iI:b[i]? =some (b[i]'hi):=List.getElem?_eq_getElem hi;obtain⟨q1,q2⟩:=hc i x _ k1 iI;exact⟨_,v,by rw[yG hb hi];exact iI,q1 k2,k3,q2 v k4⟩
theorem DW(kl:jl ρ σ)(ha:a.length<=top)(hh:a.all AV.bG=true)(h:OR ρ N (bU a) o'):OR σ N (bU a) o':=U2 ha ha rfl (fun i x y e1 e2=>by rw[e1] at e2;cases e2;exact⟨id,fun v k=>AV.u0 kl (List.all_eq_true.1 hh x<|List.mem_of_getElem? e1) k⟩) h
theorem Az{R:RS}{r3 r4:Nat}:(dQ R r1 r2).length=(dQ R r3 r4).length:=by unfold dQ;simp only[List.length_append,List.length_cons]
theorem Ja{R:RS}{s1 s2:Nat}(kl:jl ρ σ)(hl:(dQ R r1 r2).length<=top)(hR:sB R=true)(e1:∀x,ρ r1=some x->σ s1=some x)(e2:∀x,ρ r2=some x->σ s2=some x)(h:OR ρ N (bU<|dQ R r1 r2) o'):OR σ N (bU<|dQ R s1 s2) o':=by
 obtain⟨hp,hq⟩:=and_true.1 hR;refine U2 hl (by rw[Az (r3:=r1) (r4:=r2)];exact hl) Az (fun i x y k1 k2=>?_) h;unfold dQ at k1 k2;by_cases c1:i<R.pre.length
 ·rw[List.getElem?_append_left c1] at k1 k2;rw[k1] at k2;cases k2;exact⟨id,fun v k=>AV.u0 kl (List.all_eq_true.1 hp x<|List.mem_of_getElem? k1) k⟩
 ·rw[List.getElem?_append_right aj] at k1 k2;generalize i - R.pre.length=j at k1 k2
  match j with
  |0=>simp only[List.getElem?_cons_zero,Option.some.injEq] at k1 k2;subst k1;subst k2;refine⟨fun _=>rfl,fun v k=>?_⟩;simp only[VR] at k ⊢;obtain⟨b,N,a1,a2⟩:=k;exact⟨b,N,e1 _ a1,a2⟩
  |1=>
   simp only[List.getElem?_cons_succ,List.getElem?_cons_zero,Option.some.injEq] at k1 k2;subst k1;subst k2;refine⟨fun _=>rfl,fun v k=>?_⟩;generalize R.cap=cp at k ⊢;cases cp<;>simp only[VR] at k ⊢
   ·obtain⟨b,N,a1,a2⟩:=k;exact⟨b,N,e2 _ a1,a2⟩
   ·obtain⟨b,N,c,a1,a2⟩:=k;exact⟨b,N,c,e2 _ a1,a2⟩
   ·obtain⟨l,b,N,p,c,a1,a2⟩:=k;exact⟨l,b,N,p,c,e2 _ a1,a2⟩
  |j+2=>simp only[List.getElem?_cons_succ] at k1 k2;rw[k1] at k2;cases k2;exact⟨id,fun v k=>AV.u0 kl (List.all_eq_true.1 hq x<|List.mem_of_getElem? k1) k⟩
theorem abv{P:Program}{B:aL}{f J kp k:Nat}{ns:List Nat}{h0:Tr ab}{kn:List<|Nat×Option ab}{val:VS->List AV->Option (AV×VS)}{fn:Func}{body:Code}{w:World}{s1:AS}(hP:bE P)(cq:P.funcs[f]? =some fn)(cx:fn.body=some body)(dL:(fn.name == "runtime.NumGoroutine")=false)(fV:fM<=J)(dO:J+3<=top)(dM:∀n o,n<top->h0.get n=some o->n∈ns)(eA:∀n∈ns,n<J)(jv:∀n o,(n,some o)∈kn->h0.get n=some o)(jw:∀p∈kn,p.1<top)(eQ:∀st rest y ba,val st rest=some (y,ba)->max fn.ntmps (rest.length+1)<=top/\∀B':aL,B'.F=B.F->B'.inv=B.inv->
 au P B' (J+3) (gW J k P fn.results.toList y ba) ⟨f,ep<|.ptr (some (J,0))::rest,max fn.ntmps<|rest.length+1,[.code body],[],none⟩ ⟨gd<|kn++bx (dD J k st),J+3,0,[],[]⟩){YO:aK}{args:List AV}{x:AV}{vs:Array Value}(r:Rel B ρ s.h w)(hg:gb ρ)(h:m9 kp k val J ns h0 YO args s= .ok x s1)(hv:aA ρ args vs.toList):jk P ((callFunc f vs).run P w)<|j8 B ρ s s1 w x:=by
 unfold m9 at h;split at h
 case h_2=>cases h
 rename_i n rest;obtain⟨gG,h⟩:=cZ h;obtain⟨u,s2,h2,h⟩:=M.aR h;obtain⟨a1,a2,a3⟩:=uG h2;obtain⟨o,s3,k1,h⟩:=M.aR h;obtain⟨cs,m1,h⟩:=bu h;obtain⟨q,m2,h⟩:=bu h;obtain⟨o1,s4,k2,h⟩:=M.aR h;obtain⟨tv,m3,h⟩:=bu h;obtain⟨o2,s5,k3,h⟩:=M.aR h;obtain⟨row,m4,h⟩:=bu h;obtain⟨dq,h⟩:=cZ h;obtain⟨G7,eL⟩:=and_true.1 dq;obtain⟨ct,h⟩:=cZ h;obtain⟨p,hp,h⟩:=bu h;obtain⟨kv,h⟩:=cZ h;obtain⟨QR,hS⟩:=and_true.1 kv;obtain⟨hSR,hS⟩:=and_true.1 hS;obtain⟨ahW,hS⟩:=and_true.1 hS;obtain⟨hSl,aju⟩:=and_true.1 hS;obtain⟨_,t1,w1,h⟩:=M.aR h;obtain⟨_,t2,w2,h⟩:=M.aR h;obtain⟨_,t3,w3,h⟩:=M.aR h;obtain⟨rfl,rfl⟩:=bK h;obtain⟨R,n1,n2⟩:=q;obtain⟨y,ba⟩:=p;have Eg:n≠n1/\n≠n2/\n1≠n2:=by
  obtain⟨c1,c2⟩:=and_true.1 ct;obtain⟨c2,c3⟩:=and_true.1 c2;refine⟨fun e=>?_,fun e=>?_,fun e=>?_⟩<;>subst e
  ·rw[dT.2 rfl] at c1;cases c1
  ·rw[dT.2 rfl] at c2;cases c2
  ·rw[show Nat.beq n1 n1=true from dT.2 rfl] at c3;cases c3
 obtain⟨d1,d2,d3⟩:=Eg;obtain⟨rfl,nZ⟩:=Iv m1;have uw:=Sy m2;subst uw;have HE:=MZ m3;subst HE;obtain⟨rfl,HF⟩:=Iv m4;obtain⟨b1,b2,b3,b4⟩:=fX k1;obtain⟨b5,b6,b7,b8⟩:=fX k2;obtain⟨b9,QS,QT,QU⟩:=fX k3;obtain⟨x1,x2,_,x4,x5⟩:=kr w1;obtain⟨y1,y2,y3,y4⟩:=TW w2;obtain⟨z1,z2,_,z4,z5⟩:=kr w3;have g1:s.h.get n=some (bU<|dQ R n1 n2):=by rw[←a1];exact b2
 have g2:s.h.get n1=some (.tok k tv):=by rw[←a1, ←b3];exact b6
 have g3:s.h.get n2=some (bU row):=by rw[←a1, ←b3, ←b7];exact QS
 let V:Vw:=[(J,n,bU<|dQ R (J+1)<|J+2),(J+1,n1,.tok k tv),(J+2,n2,bU row)];have mem:∀q∈V,q=(J,n,bU<|dQ R (J+1)<|J+2)\/q=(J+1,n1,.tok k tv)\/q=(J+2,n2,bU row):=fun q hq=>by simpa[V] using hq
 have V0:(J,n,bU<|dQ R (J+1)<|J+2)∈V:=by simp[V]
 have V1:(J+1,n1,ab.tok k tv)∈V:=by simp[V]
 have V2:(J+2,n2,bU row)∈V:=by simp[V]
 have e0:eU J ρ V J=ρ n:=by
  unfold eU;rw[if_neg aj,if_neg aj];have:gK V J=some n:=by simp[gK,V]
  rw[this]
 have e1:eU J ρ V (J+1)=ρ n1:=by
  unfold eU;rw[if_neg aj,if_neg aj];have:gK V (J+1)=some n1:=by simp[gK,V]
  rw[this]
 have e2:eU J ρ V (J+2)=ρ n2:=by
  unfold eU;rw[if_neg aj,if_neg aj];have:gK V (J+2)=some n2:=by simp[gK,V]
  rw[this]
 have hi:jl ρ<|eU J ρ V:=fun m x hm e=>by rw[yR aj hm];exact e
 have hV:Ac J ρ s.h V:=by
  refine⟨fun q hq=>?_,fun q hq q' dU e=>?_,fun q hq q' dU e=>?_,fun q hq=>?_⟩
  ·rcases mem q hq with rfl|rfl|rfl
   ·exact⟨Nat.le_refl _,by show J<top;omega,x2⟩
   ·exact⟨by show J<=J+1;omega,by show J+1<top;omega,y2⟩
   ·exact⟨by show J<=J+2;omega,by show J+2<top;omega,z2⟩
  ·rcases mem q hq with rfl|rfl|rfl<;>rcases mem q' dU with rfl|rfl|rfl<;>first|rfl|(simp only at e;omega)
  ·rcases mem q hq with rfl|rfl|rfl<;>rcases mem q' dU with rfl|rfl|rfl<;>first|rfl|(exact absurd e<|by assumption)|(exact absurd e.symm<|by assumption)
  ·rcases mem q hq with rfl|rfl|rfl
   ·exact⟨_,g1,.inl ⟨rfl,rfl,fun N o' hO=>Ja hi nZ G7 (fun x e=>e1.trans e) (fun x e=>e2.trans e) hO⟩⟩
   ·exact⟨_,g2,.inr ⟨k,tv,rfl,rfl⟩⟩
   ·exact⟨_,g3,.inl ⟨rfl,rfl,fun N o' hO=>DW hi HF eL hO⟩⟩
 obtain⟨_,cY,T⟩:=r.tk;have T:Ef B ρ s.h w cY:=T;have nK:=Kd aj r T dM eA jv jw (fun n hn=>by obtain⟨_,o,p,h⟩:=a3 n hn;exact⟨o,p,h⟩) hV;obtain⟨q1,q2⟩:=eQ _ _ _ _ hp;have fi:bD (⟨gd<|kn++bx (dD J k ⟨R,tv,row⟩),J+3,0,[],[]⟩:AS):=⟨Nat.zero_le _,dO⟩;have kh:aA (eU J ρ V) (.ptr (some (J,0))::rest) vs.toList:=by simp only[aA,VR] at hv ⊢;obtain⟨v0,vr,q1,⟨b',N',q2,q3⟩,q4⟩:=hv;exact⟨v0,vr,q1,⟨b',N',e0.trans q2,q3⟩,AV.Bh hi gG q4⟩
 have bI:=au.F4 (B:=tN B ρ w<|wH ρ cY V) (s:=⟨gd<|kn++bx (dD J k ⟨R,tv,row⟩),J+3,0,[],[]⟩) (args:=.ptr (some (J,0))::rest) (vs:=vs) hP cq cx q1 (q2 _ rfl rfl) fi nK (fun g iA=>by
  obtain⟨N,e⟩:=hg g iA;exact⟨N,by rw[C9<|Nat.lt_of_lt_of_le iA fV];exact e⟩) (fun m hm jW=>by
  have hm:J+3<=m:=hm;exact It aj jW fun q hq=>by rcases mem q hq with rfl|rfl|rfl<;>(show _≠m;simp only;omega)) kh
 rw[uH cq cx dL];show Calls P f vs w _;refine bI.mono fun e w'=>?_;rintro ⟨Ct,x',s7,rfl,⟨rfl,hL⟩,_,σ,i0,Cu,i1,i2,i3⟩;have sV:∀q∈V,σ q.1=ρ q.2.1:=fun q hq=>by
  rcases mem q hq with rfl|rfl|rfl
  ·exact(i0 J aj aj).trans e0
  ·exact(i0 (J+1) aj aj).trans e1
  ·exact(i0 (J+2) aj aj).trans e2
 have j1:=hL J _ (by simp[dD];rfl);have j2:=hL (J+1) (.tok k ba.u) (by simp[dD]);have j3:=hL (J+2) (bU ba.row) (by simp[dD]);have lf:(dQ ba.R (J+1)<|J+2).length<=top:=by rw[Az (r3:=0) (r4:=0)];exact aM.1 hSl
 have Gt:∀k,k<top->cI ρ σ k=ρ k:=fun k hk=>by unfold cI;rw[if_neg aj]
 have qS:jl σ<|cI ρ σ:=fun k x hk e=>by unfold cI;rw[if_pos hk];exact e
 obtain⟨f1,f2,f3,f4⟩:=JA (a:=s.nx) (L2:=[(n,bU<|dQ ba.R n1 n2),(n1,.tok k ba.u),(n2,bU ba.row)]) (h':=s1.h) r T hV i2 i3 sV (fun m z hm q=>Cu m z hm<|hi m z hm q) (fun m q hm=>by
  rcases List.mem_cons.1 hm with hm|hm
  ·cases hm;exact⟨_,V0,rfl,_,j1,.inl ⟨rfl,rfl,fun N o' hO=>Ja qS lf hSR (fun x e=>by rw[Gt _ y2, ←sV _ V1];exact e) (fun x e=>by rw[Gt _ z2, ←sV _ V2];exact e) hO⟩⟩
  rcases List.mem_cons.1 hm with hm|hm
  ·cases hm;exact⟨_,V1,rfl,_,j2,.inr ⟨k,_,tv,rfl,rfl,rfl⟩⟩
  rcases List.mem_cons.1 hm with hm|hm
  ·cases hm;exact⟨_,V2,rfl,_,j3,.inl ⟨rfl,rfl,fun N o' hO=>DW qS (aM.1 aju) ahW hO⟩⟩
  cases hm) (fun q hq cz=>by
  rcases mem q hq with rfl|rfl|rfl
  ·exact⟨_,j1,rfl⟩
  ·cases cz
  ·exact⟨_,j3,rfl⟩) (fun m hm=>by
  have Hy:s1.h=((s.h.put n<|some<|bU<|dQ ba.R n1 n2).put n1<|some<|.tok k ba.u).put n2 (some<|bU ba.row):=by rw[z4,y3,x4,QT,b7,b3,a1]
  rw[Hy,Tr.du _ _ _ _ z2 hm,Tr.du _ _ _ _ y2 hm,Tr.du _ _ _ _ x2 hm];by_cases c3:m=n2
  ·subst c3;exact .inl ⟨_,by simp,if_pos rfl⟩
  rw[if_neg c3];by_cases c2:m=n1
  ·subst c2;exact .inl ⟨_,by simp,if_pos rfl⟩
  rw[if_neg c2];by_cases c1:m=n
  ·subst c1;exact .inl ⟨_,by simp,if_pos rfl⟩
  rw[if_neg c1];exact .inr ⟨fun q hq=>by rcases mem q hq with rfl|rfl|rfl<;>(intro e;exact absurd e.symm<|by assumption),rfl⟩)
 refine⟨Ct,rfl,cI ρ σ,?_,AV.py qS QR i1,f3,f4⟩;have cQ:s1.nx=s.nx:=by rw[z5,y4,x5,QU,b8,b4,a2]
 rw[cQ];exact f1
section
variable {X:TX} {P:Program} {J kp k:Nat} {ns:List Nat} {h0:Tr ab} {kn:List<|Nat×Option ab} {L L':bV} {g:Nat} {fn:Func} {body:Code}
theorem IN(hP:bE P)(fV:fM<=J)(dO:J+3<=top)(dM:∀n o,n<top->h0.get n=some o->n∈ns)(eA:∀n∈ns,n<J)(jv:∀n o,(n,some o)∈kn->h0.get n=some o)(jw:∀p∈kn,p.1<top){val:VS->List AV->Option (AV×VS)}(h:eC X J P<|dB J ns h0 L)(h':eC X J P<|dB J ns h0 L')(cq:P.funcs[g]? =some fn)(cx:fn.body=some body)(dL:(fn.name == "runtime.NumGoroutine")=false)(eQ:∀st rest y ba,val st rest=some (y,ba)->max fn.ntmps (rest.length+1)<=top/\∀B:aL,qH X P J ns h0 L' B->
 au P B (J+3) (gW J k P fn.results.toList y ba) ⟨g,ep<|.ptr (some (J,0))::rest,max fn.ntmps<|rest.length+1,[.code body],[],none⟩ ⟨gd<|kn++bx (dD J k st),J+3,0,[],[]⟩):eC X J P<|dB J ns h0<|(g,.raw<|m9 kp k val)::L:=by
 refine(show eC X J P (pI (dB J ns h0 L) g<|m9 kp k val J ns h0) from h.mT (fun YO _ args=>YN.m9 _ _ _ _ _ _ YO args) fun B hB hT YO hc hl args x s s1 ρ w vs fi r hg hf hm hv=>?_);refine abv hP cq cx dL fV dO dM eA jv jw (fun st rest y ba e=>?_) r hg hm hv;obtain⟨q1,q2⟩:=eQ st rest y ba e;exact⟨q1,fun B' lH lI=>q2 B'<|rO hP h' (lH.trans hB)<|lI.trans hT⟩
end
theorem Gu(n:Nat)(o:Option ab)(s:AS):(fF n o s).nx=s.nx/\(fF n o s).h=s.h.put n o:=by unfold fF;cases Nat.blt n s.mark<;>exact⟨rfl,rfl⟩
theorem abw{P:Program}{g J kp k:Nat}{h0:Tr ab}{ns:List Nat}{val:VS->List AV->Option (AV×VS)}(h:sp g=some (m9 kp k val J ns h0)){a:Nat}{st ba:VS}(hk:qG J h0 ns s=true)(hr:rest.all AV.hi=true)(hd:(!Nat.beq a r1&&(!Nat.beq a r2&& !Nat.beq r1 r2))=true)(hn:(Nat.blt a (dP J h0 ns s).nx&&(Nat.blt r1 (dP J h0 ns s).nx&&Nat.blt r2 (dP J h0 ns s).nx))=true)(ht:(Nat.blt a top&&(Nat.blt r1 top&&Nat.blt r2 top))=true)(g1:(dP J h0 ns s).h.get a=some (bU<|dQ st.R r1 r2))(g2:(dP J h0 ns s).h.get r1=some (.tok k st.u))(g3:(dP J h0 ns s).h.get r2=some (bU st.row))(Cy:st.R.pre.length=kp)(ho:bH kp st=true)(hv:val st rest=some (y,ba))(hy:y.hi=true)(kD:bH kp ba=true):
 bh P sp F (n+1) (.fn g) (.ptr (some (a,0))::rest) s= .ok y (fF r2 (some<|bU ba.row)<|fF r1 (some<|.tok k ba.u)<|fF a (some<|bU<|dQ ba.R r1 r2)<|aZ r2<|aZ r1<|aZ a<|dP J h0 ns s):=by
 obtain⟨R,u,row⟩:=st;show ki P sp g (bh P sp F n) (.ptr (some (a,0))::rest) s=_;rw[uZ h];have B8:=ho;obtain⟨o1,ho⟩:=and_true.1 ho;obtain⟨o2,ho⟩:=and_true.1 ho;obtain⟨o3,o4⟩:=and_true.1 ho;obtain⟨n1,hn⟩:=and_true.1 hn;obtain⟨n2,n3⟩:=and_true.1 hn;obtain⟨t1,ht⟩:=and_true.1 ht;obtain⟨t2,t3⟩:=and_true.1 ht;have ct:a≠r1/\a≠r2/\r1≠r2:=by
  obtain⟨c1,c2⟩:=and_true.1 hd;obtain⟨c2,c3⟩:=and_true.1 c2;refine⟨fun e=>?_,fun e=>?_,fun e=>?_⟩<;>subst e
  ·rw[dT.2 rfl] at c1;cases c1
  ·rw[dT.2 rfl] at c2;cases c2
  ·rw[show Nat.beq r1 r1=true from dT.2 rfl] at c3;cases c3
 obtain⟨d1,d2,d3⟩:=ct;have ta:=(blt_eq _ _).mp t1;have tb:=(blt_eq _ _).mp t2;have tc:=(blt_eq _ _).mp t3;show(aH (rest.all AV.hi) <| (fG J h0 ns).bind fun _=>(bq a).bind fun o=>aC (rowOf o) fun cs=>aC (rootOf kp cs) fun q=>(bq q.2.1).bind fun o1=>aC (xM k o1) fun u=>(bq q.2.2).bind fun o2=>aC (rowOf o2) fun row=>
  aH (sB q.1&&row.all AV.bG) <| aH (!Nat.beq a q.2.1&&(!Nat.beq a q.2.2&& !Nat.beq q.2.1 q.2.2)) <| aC (val ⟨q.1,u,row⟩ rest) fun p=>aH (p.1.hi&&bH kp p.2) <|
  (bN a<|some<|bU<|dQ p.2.R q.2.1 q.2.2).bind fun _=>(lk q.2.1<|some<|.tok k p.2.u).bind fun _=>(bN q.2.2<|some<|bU p.2.row).bind fun _=>M.pure p.1) s=_
 rw[hr,dC,M.bQ<|xm hk,M.bQ<|md n1 g1];generalize dP J h0 ns s=z at*;rw[Iw (by rw[Az (r3:=0) (r4:=0)];exact aM.1 o3),ch,R4 Cy,ch];have QV:Nat.blt r1 (aZ a z).nx=true:=by rw[(fQ a z).2.1];exact n2
 have vZ:(aZ a z).h.get r1=some (.tok k u):=by rw[(fQ a z).1];exact g2
 rw[M.bQ<|md QV vZ,M3,ch];have QW:Nat.blt r2 (aZ r1<|aZ a z).nx=true:=by rw[(fQ r1 _).2.1,(fQ a z).2.1];exact n3
 have QX:(aZ r1<|aZ a z).h.get r2=some (bU row):=by rw[(fQ r1 _).1,(fQ a z).1];exact g3
 rw[M.bQ<|md QW QX,Iw<|aM.1 o4,ch];show(aH (sB R&&row.all AV.bG) <| aH (!Nat.beq a r1&&(!Nat.beq a r2&& !Nat.beq r1 r2)) <| aC (val ⟨R,u,row⟩ rest) fun p=>aH (p.1.hi&&bH kp p.2) <| (bN a<|some<|bU<|dQ p.2.R r1 r2).bind fun _=>(lk r1<|some<|.tok k p.2.u).bind fun _=>(bN r2<|some<|bU p.2.row).bind fun _=>M.pure p.1) (aZ r2<|aZ r1<|aZ a z)=_;rw[show sB R=true from o1,show row.all AV.bG=true from o2,hd,hv];show(aH true <| aH true <| aC (some (y,ba)) fun p=>aH (p.1.hi&&bH kp p.2) <| (bN a<|some<|bU<|dQ p.2.R r1 r2).bind fun _=>(lk r1<|some<|.tok k p.2.u).bind fun _=>(bN r2<|some<|bU p.2.row).bind fun _=>M.pure p.1) (aZ r2<|aZ r1<|aZ a z)=_;rw[dC,dC,ch];show(aH (y.hi&&bH kp ba) <| (bN a<|some<|bU<|dQ ba.R r1 r2).bind fun _=>(lk r1<|some<|.tok k ba.u).bind fun _=>(bN r2<|some<|bU ba.row).bind fun _=>M.pure y) (aZ r2<|aZ r1<|aZ a z)=_;rw[hy,kD];show(aH true <| (bN a<|some<|bU<|dQ ba.R r1 r2).bind fun _=>(lk r1<|some<|.tok k ba.u).bind fun _=>(bN r2<|some<|bU ba.row).bind fun _=>M.pure y) (aZ r2<|aZ r1<|aZ a z)=_;rw[dC];have zz:(aZ r2<|aZ r1<|aZ a z).nx=z.nx/\(aZ r2<|aZ r1<|aZ a z).h=z.h:=⟨by rw[(fQ r2 _).2.1,(fQ r1 _).2.1,(fQ a z).2.1],by rw[(fQ r2 _).1,(fQ r1 _).1,(fQ a z).1]⟩;generalize aZ r2 (aZ r1<|aZ a z)=v at*;rw[M.bQ<|yQ (by rw[zz.1];exact n1) (by rw[zz.2];exact g1) rfl t1];have v1:(fF a (some<|bU<|dQ ba.R r1 r2) v).h.get r1=some (.tok k u):=by rw[(Gu _ _ _).2,Tr.du _ _ _ _ ta tb,if_neg<|Ne.symm d1,zz.2];exact g2
 have v2:(fF a (some<|bU<|dQ ba.R r1 r2) v).h.get r2=some (bU row):=by rw[(Gu _ _ _).2,Tr.du _ _ _ _ ta tc,if_neg<|Ne.symm d2,zz.2];exact g3
 have v3:(fF a (some<|bU<|dQ ba.R r1 r2) v).nx=z.nx:=by rw[(Gu _ _ _).1,zz.1]
 generalize fF a (some<|bU<|dQ ba.R r1 r2) v=v' at*;rw[M.bQ<|NZ (by rw[v3];exact n2) v1 rfl t2];rw[M.bQ<|yQ (by rw[(Gu _ _ _).1,v3];exact n3) (by rw[(Gu _ _ _).2,Tr.du _ _ _ _ tb tc,if_neg<|Ne.symm d3];exact v2) rfl t3];rfl
noncomputable section
def Gv(J:Nat)(h0:Tr ab)(ns:List Nat)(k a r1 r2:Nat)(st:VS)(s:AS):Prop:=qG J h0 ns s=true/\(Nat.blt a (dP J h0 ns s).nx&&(Nat.blt r1 (dP J h0 ns s).nx&&Nat.blt r2 (dP J h0 ns s).nx))=true/\(dP J h0 ns s).h.get a=some (bU<|dQ st.R r1 r2)/\(dP J h0 ns s).h.get r1=some (.tok k st.u)/\(dP J h0 ns s).h.get r2=some (bU st.row)
def Kn(J:Nat)(h0:Tr ab)(ns:List Nat)(k a r1 r2:Nat)(ba:VS)(s:AS):AS:=fF r2 (some<|bU ba.row)<|fF r1 (some<|.tok k ba.u)<|fF a (some<|bU<|dQ ba.R r1 r2)<|aZ r2<|aZ r1<|aZ a<|dP J h0 ns s
def WA(J:Nat)(h0:Tr ab)(ns:List Nat)(a r1 r2:Nat)(s:AS):AS:=aZ r2<|aZ r1<|aZ a<|dP J h0 ns s
end
theorem agc{a b c:ab}{T:Prop}(t:T):(true=true/\true=true/\some a=some a/\some b=some b/\some c=some c)/\T:=⟨⟨rfl,rfl,rfl,rfl,rfl⟩,t⟩
theorem Oe{P:Program}{g J kp k:Nat}{h0:Tr ab}{ns:List Nat}{val:VS->List AV->Option (AV×VS)}(h:sp g=some (m9 kp k val J ns h0)){a:Nat}{st ba:VS}(hr:rest.all AV.hi=true)(hd:(!Nat.beq a r1&&(!Nat.beq a r2&& !Nat.beq r1 r2))=true)(ht:(Nat.blt a top&&(Nat.blt r1 top&&Nat.blt r2 top))=true)(Cy:st.R.pre.length=kp)(ho:bH kp st=true)(hv:val st rest=some (y,ba))(hy:y.hi=true)(kD:bH kp ba=true):
 ∀s,Gv J h0 ns k a r1 r2 st s->bh P sp F (n+1) (.fn g) (.ptr (some (a,0))::rest) s= .ok y (Kn J h0 ns k a r1 r2 ba s):=
 fun _ q=>abw h q.1 hr hd q.2.1 ht q.2.2.1 q.2.2.2.1 q.2.2.2.2 Cy ho hv hy kD
end Go.Rn
namespace Go.Rn
open Go.RowKit
variable {y:AV} {st:VS} {sp:Sp} {s:AS} {rest:List AV} {r2 r1 n a:Nat} {F:Nat->Option (List AV)}
noncomputable section
def nd(kp k:Nat)(val:VS->List AV->Option AV)(J:Nat)(ns:List Nat)(h0:Tr ab):aK->List AV->M AV:=fun _ args=>match args with
 | .ptr (some (n,0))::rest=>aH (rest.all AV.hi) <| (fG J h0 ns).bind fun _=>(bq n).bind fun o=>aC (rowOf o) fun cs=>aC (rootOf kp cs) fun q=>(bq q.2.1).bind fun o1=>aC (xM k o1) fun u=>(bq q.2.2).bind fun o2=>aC (rowOf o2) fun row=>aH (sB q.1&&row.all AV.bG) <| aH (!Nat.beq n q.2.1&&(!Nat.beq n q.2.2&& !Nat.beq q.2.1 q.2.2)) <| aC (val ⟨q.1,u,row⟩ rest) fun y=>aH (y.hi&&(Nat.blt n top&&(Nat.blt q.2.1 top&&Nat.blt q.2.2 top))) <| M.pure y
 |_=>fail
end
theorem YN.nd(kp k:Nat)(val:VS->List AV->Option AV)(J:Nat)(ns:List Nat)(h0:Tr ab)(YO:aK)(args:List AV):YN<|nd kp k val J ns h0 YO args:=by
 unfold Rn.nd;split
 ·exact YN.aH fun _=>YN.bind (YN.fG J h0 ns) fun _=>YN.bind (YN.bq _) fun _=>YN.aC fun _ _=>YN.aC fun _ _=>YN.bind (YN.bq _) fun _=>YN.aC fun _ _=>YN.bind (YN.bq _) fun _=>YN.aC fun _ _=>YN.aH fun _=>YN.aH fun _=>YN.aC fun _ _=>YN.aH fun _=>YN.pure _
 ·exact YN.fail
theorem abB{P:Program}{B:aL}{f J kp k:Nat}{ns:List Nat}{h0:Tr ab}{kn:List<|Nat×Option ab}{val:VS->List AV->Option AV}{fn:Func}{body:Code}{ρ:aw}{w:World}{s1:AS}(hP:bE P)(cq:P.funcs[f]? =some fn)(cx:fn.body=some body)(dL:(fn.name == "runtime.NumGoroutine")=false)(fV:fM<=J)(dO:J+3<=top)(dM:∀n o,n<top->h0.get n=some o->n∈ns)(eA:∀n∈ns,n<J)(jv:∀n o,(n,some o)∈kn->h0.get n=some o)(jw:∀p∈kn,p.1<top)(eQ:∀st rest y,val st rest=some y->bH kp st=true->max fn.ntmps (rest.length+1)<=top/\∀B':aL,B'.F=B.F->B'.inv=B.inv->
 au P B' (J+3) (gW J k P fn.results.toList y st) ⟨f,ep<|.ptr (some (J,0))::rest,max fn.ntmps<|rest.length+1,[.code body],[],none⟩ ⟨gd<|kn++bx (dD J k st),J+3,0,[],[]⟩){YO:aK}{args:List AV}{x:AV}{vs:Array Value}(r:Rel B ρ s.h w)(hg:gb ρ)(h:nd kp k val J ns h0 YO args s= .ok x s1)(hv:aA ρ args vs.toList):jk P ((callFunc f vs).run P w)<|j8 B ρ s s1 w x:=by
 unfold nd at h;split at h
 case h_2=>cases h
 rename_i n rest;obtain⟨gG,h⟩:=cZ h;obtain⟨u,s2,h2,h⟩:=M.aR h;obtain⟨a1,a2,a3⟩:=uG h2;obtain⟨o,s3,k1,h⟩:=M.aR h;obtain⟨cs,m1,h⟩:=bu h;obtain⟨q,m2,h⟩:=bu h;obtain⟨o1,s4,k2,h⟩:=M.aR h;obtain⟨tv,m3,h⟩:=bu h;obtain⟨o2,s5,k3,h⟩:=M.aR h;obtain⟨row,m4,h⟩:=bu h;obtain⟨dq,h⟩:=cZ h;obtain⟨G7,eL⟩:=and_true.1 dq;obtain⟨ct,h⟩:=cZ h;obtain⟨y,hp,h⟩:=bu h;obtain⟨kv,h⟩:=cZ h;obtain⟨QR,kv⟩:=and_true.1 kv;obtain⟨x2,kv⟩:=and_true.1 kv;obtain⟨y2,z2⟩:=and_true.1 kv;have x2:=(blt_eq _ _).mp x2;have y2:=(blt_eq _ _).mp y2;have z2:=(blt_eq _ _).mp z2;obtain⟨rfl,rfl⟩:=bK h;obtain⟨R,n1,n2⟩:=q;have Eg:n≠n1/\n≠n2/\n1≠n2:=by
  obtain⟨c1,c2⟩:=and_true.1 ct;obtain⟨c2,c3⟩:=and_true.1 c2;refine⟨fun e=>?_,fun e=>?_,fun e=>?_⟩<;>subst e
  ·rw[dT.2 rfl] at c1;cases c1
  ·rw[dT.2 rfl] at c2;cases c2
  ·rw[show Nat.beq n1 n1=true from dT.2 rfl] at c3;cases c3
 obtain⟨d1,d2,d3⟩:=Eg;obtain⟨rfl,nZ⟩:=Iv m1;have uw:=Sy m2;subst uw;have HE:=MZ m3;subst HE;obtain⟨rfl,HF⟩:=Iv m4;obtain⟨b1,b2,b3,b4⟩:=fX k1;obtain⟨b5,b6,b7,b8⟩:=fX k2;obtain⟨b9,QS,QT,QU⟩:=fX k3;have g1:s.h.get n=some (bU<|dQ R n1 n2):=by rw[←a1];exact b2
 have g2:s.h.get n1=some (.tok k tv):=by rw[←a1, ←b3];exact b6
 have g3:s.h.get n2=some (bU row):=by rw[←a1, ←b3, ←b7];exact QS
 let V:Vw:=[(J,n,bU<|dQ R (J+1)<|J+2),(J+1,n1,.tok k tv),(J+2,n2,bU row)];have mem:∀q∈V,q=(J,n,bU<|dQ R (J+1)<|J+2)\/q=(J+1,n1,.tok k tv)\/q=(J+2,n2,bU row):=fun q hq=>by simpa[V] using hq
 have V0:(J,n,bU<|dQ R (J+1)<|J+2)∈V:=by simp[V]
 have V1:(J+1,n1,ab.tok k tv)∈V:=by simp[V]
 have V2:(J+2,n2,bU row)∈V:=by simp[V]
 have e0:eU J ρ V J=ρ n:=by
  unfold eU;rw[if_neg aj,if_neg aj];have:gK V J=some n:=by simp[gK,V]
  rw[this]
 have e1:eU J ρ V (J+1)=ρ n1:=by
  unfold eU;rw[if_neg aj,if_neg aj];have:gK V (J+1)=some n1:=by simp[gK,V]
  rw[this]
 have e2:eU J ρ V (J+2)=ρ n2:=by
  unfold eU;rw[if_neg aj,if_neg aj];have:gK V (J+2)=some n2:=by simp[gK,V]
  rw[this]
 have hi:jl ρ<|eU J ρ V:=fun m x hm e=>by rw[yR aj hm];exact e
 have hV:Ac J ρ s.h V:=by
  refine⟨fun q hq=>?_,fun q hq q' dU e=>?_,fun q hq q' dU e=>?_,fun q hq=>?_⟩
  ·rcases mem q hq with rfl|rfl|rfl
   ·exact⟨Nat.le_refl _,by show J<top;omega,x2⟩
   ·exact⟨by show J<=J+1;omega,by show J+1<top;omega,y2⟩
   ·exact⟨by show J<=J+2;omega,by show J+2<top;omega,z2⟩
  ·rcases mem q hq with rfl|rfl|rfl<;>rcases mem q' dU with rfl|rfl|rfl<;>first|rfl|(simp only at e;omega)
  ·rcases mem q hq with rfl|rfl|rfl<;>rcases mem q' dU with rfl|rfl|rfl<;>first|rfl|(exact absurd e<|by assumption)|(exact absurd e.symm<|by assumption)
  ·rcases mem q hq with rfl|rfl|rfl
   ·exact⟨_,g1,.inl ⟨rfl,rfl,fun N o' hO=>Ja hi nZ G7 (fun x e=>e1.trans e) (fun x e=>e2.trans e) hO⟩⟩
   ·exact⟨_,g2,.inr ⟨k,tv,rfl,rfl⟩⟩
   ·exact⟨_,g3,.inl ⟨rfl,rfl,fun N o' hO=>DW hi HF eL hO⟩⟩
 obtain⟨_,cY,T⟩:=r.tk;have T:Ef B ρ s.h w cY:=T;have nK:=Kd aj r T dM eA jv jw (fun n hn=>by obtain⟨_,o,p,h⟩:=a3 n hn;exact⟨o,p,h⟩) hV;have hS:bH kp ⟨R,tv,row⟩=true:=and_true.2 ⟨G7,and_true.2 ⟨eL,and_true.2 ⟨aM.2 (by rw[Az (r3:=n1) (r4:=n2)];exact nZ),aM.2 HF⟩⟩⟩;obtain⟨q1,q2⟩:=eQ _ _ _ hp hS;have fi:bD (⟨gd<|kn++bx (dD J k ⟨R,tv,row⟩),J+3,0,[],[]⟩:AS):=⟨Nat.zero_le _,dO⟩;have kh:aA (eU J ρ V) (.ptr (some (J,0))::rest) vs.toList:=by simp only[aA,VR] at hv ⊢;obtain⟨v0,vr,q1,⟨b',N',q2,q3⟩,q4⟩:=hv;exact⟨v0,vr,q1,⟨b',N',e0.trans q2,q3⟩,AV.Bh hi gG q4⟩
 have bI:=au.F4 (B:=tN B ρ w<|wH ρ cY V) (s:=⟨gd<|kn++bx (dD J k ⟨R,tv,row⟩),J+3,0,[],[]⟩) (args:=.ptr (some (J,0))::rest) (vs:=vs) hP cq cx q1 (q2 _ rfl rfl) fi nK (fun g iA=>by
  obtain⟨N,e⟩:=hg g iA;exact⟨N,by rw[C9<|Nat.lt_of_lt_of_le iA fV];exact e⟩) (fun m hm jW=>by
  have hm:J+3<=m:=hm;exact It aj jW fun q hq=>by rcases mem q hq with rfl|rfl|rfl<;>(show _≠m;simp only;omega)) kh
 rw[uH cq cx dL];show Calls P f vs w _;refine bI.mono fun e w'=>?_;rintro ⟨Ct,x',s7,rfl,⟨rfl,hL⟩,_,σ,i0,Cu,i1,i2,i3⟩;have sV:∀q∈V,σ q.1=ρ q.2.1:=fun q hq=>by
  rcases mem q hq with rfl|rfl|rfl
  ·exact(i0 J aj aj).trans e0
  ·exact(i0 (J+1) aj aj).trans e1
  ·exact(i0 (J+2) aj aj).trans e2
 have j1:=hL J (bU<|dQ R (J+1)<|J+2) (by simp[dD]);have j2:=hL (J+1) (.tok k tv) (by simp[dD]);have j3:=hL (J+2) (bU row) (by simp[dD]);have lf:(dQ R (J+1)<|J+2).length<=top:=by rw[Az (r3:=n1) (r4:=n2)];exact nZ
 have Gt:∀k,k<top->cI ρ σ k=ρ k:=fun k hk=>by unfold cI;rw[if_neg aj]
 have qS:jl σ<|cI ρ σ:=fun k x hk e=>by unfold cI;rw[if_pos hk];exact e
 have hh1:s1.h=s.h:=by rw[QT,b7,b3,a1]
 obtain⟨f1,f2,f3,f4⟩:=JA (a:=s.nx) (L2:=[(n,bU<|dQ R n1 n2),(n1,.tok k tv),(n2,bU row)]) (h':=s1.h) r T hV i2 i3 sV (fun m z hm q=>Cu m z hm<|hi m z hm q) (fun m q hm=>by
  rcases List.mem_cons.1 hm with hm|hm
  ·cases hm;exact⟨_,V0,rfl,_,j1,.inl ⟨rfl,rfl,fun N o' hO=>Ja qS lf G7 (fun x e=>by rw[Gt _ y2, ←sV _ V1];exact e) (fun x e=>by rw[Gt _ z2, ←sV _ V2];exact e) hO⟩⟩
  rcases List.mem_cons.1 hm with hm|hm
  ·cases hm;exact⟨_,V1,rfl,_,j2,.inr ⟨k,_,tv,rfl,rfl,rfl⟩⟩
  rcases List.mem_cons.1 hm with hm|hm
  ·cases hm;exact⟨_,V2,rfl,_,j3,.inl ⟨rfl,rfl,fun N o' hO=>DW qS HF eL hO⟩⟩
  cases hm) (fun q hq cz=>by
  rcases mem q hq with rfl|rfl|rfl
  ·exact⟨_,j1,rfl⟩
  ·cases cz
  ·exact⟨_,j3,rfl⟩) (fun m hm=>by
  rw[hh1];by_cases c3:m=n2
  ·subst c3;exact .inl ⟨_,by simp,g3⟩
  by_cases c2:m=n1
  ·subst c2;exact .inl ⟨_,by simp,g2⟩
  by_cases c1:m=n
  ·subst c1;exact .inl ⟨_,by simp,g1⟩
  exact .inr ⟨fun q hq=>by rcases mem q hq with rfl|rfl|rfl<;>(intro e;exact absurd e.symm<|by assumption),rfl⟩)
 refine⟨Ct,rfl,cI ρ σ,?_,AV.py qS QR i1,f3,f4⟩;have cQ:s1.nx=s.nx:=by rw[QU,b8,b4,a2]
 rw[cQ];exact f1
section
variable {X:TX} {P:Program} {J kp k:Nat} {ns:List Nat} {h0:Tr ab} {kn:List<|Nat×Option ab} {L L':bV} {g:Nat} {fn:Func} {body:Code}
theorem Fs(hP:bE P)(fV:fM<=J)(dO:J+3<=top)(dM:∀n o,n<top->h0.get n=some o->n∈ns)(eA:∀n∈ns,n<J)(jv:∀n o,(n,some o)∈kn->h0.get n=some o)(jw:∀p∈kn,p.1<top){val:VS->List AV->Option AV}(h:eC X J P<|dB J ns h0 L)(h':eC X J P<|dB J ns h0 L')(cq:P.funcs[g]? =some fn)(cx:fn.body=some body)(dL:(fn.name == "runtime.NumGoroutine")=false)(eQ:∀st rest y,val st rest=some y->bH kp st=true->max fn.ntmps (rest.length+1)<=top/\∀B:aL,qH X P J ns h0 L' B->
 au P B (J+3) (gW J k P fn.results.toList y st) ⟨g,ep<|.ptr (some (J,0))::rest,max fn.ntmps<|rest.length+1,[.code body],[],none⟩ ⟨gd<|kn++bx (dD J k st),J+3,0,[],[]⟩):eC X J P<|dB J ns h0<|(g,.raw<|nd kp k val)::L:=by
 refine(show eC X J P (pI (dB J ns h0 L) g<|nd kp k val J ns h0) from h.mT (fun YO _ args=>YN.nd _ _ _ _ _ _ YO args) fun B hB hT YO hc hl args x s s1 ρ w vs fi r hg hf hm hv=>?_);refine abB hP cq cx dL fV dO dM eA jv jw (fun st rest y e eo=>?_) r hg hm hv;obtain⟨q1,q2⟩:=eQ st rest y e eo;exact⟨q1,fun B' lH lI=>q2 B'<|rO hP h' (lH.trans hB)<|lI.trans hT⟩
end
theorem aaC{P:Program}{g J kp k:Nat}{h0:Tr ab}{ns:List Nat}{val:VS->List AV->Option AV}(h:sp g=some (nd kp k val J ns h0))(hk:qG J h0 ns s=true)(hr:rest.all AV.hi=true)(hd:(!Nat.beq a r1&&(!Nat.beq a r2&& !Nat.beq r1 r2))=true)(hn:(Nat.blt a (dP J h0 ns s).nx&&(Nat.blt r1 (dP J h0 ns s).nx&&Nat.blt r2 (dP J h0 ns s).nx))=true)(ht:(Nat.blt a top&&(Nat.blt r1 top&&Nat.blt r2 top))=true)(g1:(dP J h0 ns s).h.get a=some (bU<|dQ st.R r1 r2))(g2:(dP J h0 ns s).h.get r1=some (.tok k st.u))(g3:(dP J h0 ns s).h.get r2=some (bU st.row))(Cy:st.R.pre.length=kp)(ho:bH kp st=true)(hv:val st rest=some y)(hy:y.hi=true):
 bh P sp F (n+1) (.fn g) (.ptr (some (a,0))::rest) s= .ok y (aZ r2<|aZ r1<|aZ a<|dP J h0 ns s):=by
 obtain⟨R,u,row⟩:=st;show ki P sp g (bh P sp F n) (.ptr (some (a,0))::rest) s=_;rw[uZ h];have B8:=ho;obtain⟨o1,ho⟩:=and_true.1 ho;obtain⟨o2,ho⟩:=and_true.1 ho;obtain⟨o3,o4⟩:=and_true.1 ho;obtain⟨n1,hn⟩:=and_true.1 hn;obtain⟨n2,n3⟩:=and_true.1 hn;obtain⟨t1,ht⟩:=and_true.1 ht;obtain⟨t2,t3⟩:=and_true.1 ht;have ct:a≠r1/\a≠r2/\r1≠r2:=by
  obtain⟨c1,c2⟩:=and_true.1 hd;obtain⟨c2,c3⟩:=and_true.1 c2;refine⟨fun e=>?_,fun e=>?_,fun e=>?_⟩<;>subst e
  ·rw[dT.2 rfl] at c1;cases c1
  ·rw[dT.2 rfl] at c2;cases c2
  ·rw[show Nat.beq r1 r1=true from dT.2 rfl] at c3;cases c3
 obtain⟨d1,d2,d3⟩:=ct;have ta:=(blt_eq _ _).mp t1;have tb:=(blt_eq _ _).mp t2;have tc:=(blt_eq _ _).mp t3;show(aH (rest.all AV.hi) <| (fG J h0 ns).bind fun _=>(bq a).bind fun o=>aC (rowOf o) fun cs=>aC (rootOf kp cs) fun q=>(bq q.2.1).bind fun o1=>aC (xM k o1) fun u=>(bq q.2.2).bind fun o2=>aC (rowOf o2) fun row=>aH (sB q.1&&row.all AV.bG) <| aH (!Nat.beq a q.2.1&&(!Nat.beq a q.2.2&& !Nat.beq q.2.1 q.2.2)) <| aC (val ⟨q.1,u,row⟩ rest) fun y=>aH (y.hi&&(Nat.blt a top&&(Nat.blt q.2.1 top&&Nat.blt q.2.2 top))) <| M.pure y) s=_;rw[hr,dC,M.bQ<|xm hk,M.bQ<|md n1 g1];generalize dP J h0 ns s=z at*;rw[Iw (by rw[Az (r3:=0) (r4:=0)];exact aM.1 o3),ch,R4 Cy,ch];have QV:Nat.blt r1 (aZ a z).nx=true:=by rw[(fQ a z).2.1];exact n2
 have vZ:(aZ a z).h.get r1=some (.tok k u):=by rw[(fQ a z).1];exact g2
 rw[M.bQ<|md QV vZ,M3,ch];have QW:Nat.blt r2 (aZ r1<|aZ a z).nx=true:=by rw[(fQ r1 _).2.1,(fQ a z).2.1];exact n3
 have QX:(aZ r1<|aZ a z).h.get r2=some (bU row):=by rw[(fQ r1 _).1,(fQ a z).1];exact g3
 rw[M.bQ<|md QW QX,Iw<|aM.1 o4,ch];show(aH (sB R&&row.all AV.bG) <| aH (!Nat.beq a r1&&(!Nat.beq a r2&& !Nat.beq r1 r2)) <| aC (val ⟨R,u,row⟩ rest) fun y=>aH (y.hi&&(Nat.blt a top&&(Nat.blt r1 top&&Nat.blt r2 top))) <| M.pure y) (aZ r2<|aZ r1<|aZ a z)=_;rw[show sB R=true from o1,show row.all AV.bG=true from o2,hd,hv];show(aH true <| aH true <| aC (some y) fun y=>aH (y.hi&&(Nat.blt a top&&(Nat.blt r1 top&&Nat.blt r2 top))) <| M.pure y) (aZ r2<|aZ r1<|aZ a z)=_;rw[dC,dC,ch,hy,t1,t2,t3];rfl
theorem acZ{P:Program}{g J kp k:Nat}{h0:Tr ab}{ns:List Nat}{val:VS->List AV->Option AV}(h:sp g=some (nd kp k val J ns h0))(hr:rest.all AV.hi=true)(hd:(!Nat.beq a r1&&(!Nat.beq a r2&& !Nat.beq r1 r2))=true)(ht:(Nat.blt a top&&(Nat.blt r1 top&&Nat.blt r2 top))=true)(Cy:st.R.pre.length=kp)(ho:bH kp st=true)(hv:val st rest=some y)(hy:y.hi=true):
 ∀s,Gv J h0 ns k a r1 r2 st s->bh P sp F (n+1) (.fn g) (.ptr (some (a,0))::rest) s= .ok y (WA J h0 ns a r1 r2 s):=
 fun _ q=>aaC h q.1 hr hd q.2.1 ht q.2.2.1 q.2.2.2.1 q.2.2.2.2 Cy ho hv hy
end Go.Rn
namespace Go.Rn
open Go.RowKit
variable {rest:List AV} {n:Nat}
noncomputable section
def lX(k:Nat)(val:AV->List AV->Option AV)(J:Nat)(ns:List Nat)(h0:Tr ab):aK->List AV->M AV:=fun _ args=>match args with
 | .ptr (some (n,0))::rest=>aH (rest.all AV.hi&&Nat.ble J n) <| (fG J h0 ns).bind fun _=>(bq n).bind fun o=>aC (xM k o) fun v=>aC (val v rest) fun y=>aH (y.hi&&Nat.blt n top) <| M.pure y
 |_=>fail
end
theorem YN.lX(k:Nat)(val:AV->List AV->Option AV)(J:Nat)(ns:List Nat)(h0:Tr ab)(YO:aK)(args:List AV):YN<|lX k val J ns h0 YO args:=by
 unfold Rn.lX;split
 ·exact YN.aH fun _=>YN.bind (YN.fG J h0 ns) fun _=>YN.bind (YN.bq _) fun _=>YN.aC fun _ _=>YN.aC fun _ _=>YN.aH fun _=>YN.pure _
 ·exact YN.fail
noncomputable def D3(val:AV->List AV->Option AV)(v:AV)(rest:List AV):Option<|AV×AV:=(val v rest).map fun y=>(y,v)
theorem abJ{J k:Nat}{ns:List Nat}{h0:Tr ab}{val:AV->List AV->Option AV}{YO:aK}{x:AV}{s s1:AS}(h:lX k val J ns h0 YO (.ptr (some (n,0))::rest) s= .ok x s1):
 ∃EP,x8 J ns h0 k (D3 val) YO (.ptr (some (n,0))::rest) s= .ok x EP/\EP.nx=s1.nx/\∀m,m<top->s1.h.get m=EP.h.get m:=by
 unfold lX at h;obtain⟨hh,h1⟩:=cZ h;obtain⟨u,s2,h2,h3⟩:=M.aR h1;obtain⟨o,s3,h4,h5⟩:=M.aR h3;obtain⟨v,h6,h7⟩:=bu h5;obtain⟨y,h8,h9⟩:=bu h7;obtain⟨gE,uv⟩:=cZ h9;obtain⟨hy,ht⟩:=and_true.1 gE;obtain⟨rfl,rfl⟩:=bK uv;have ho:=MZ h6;subst ho;obtain⟨b1,b2,b3,b4⟩:=fX h4;have hg:s1.h.get n=some (.tok k v):=by rw[b3];exact b2
 have hn:Nat.blt n s1.nx=true:=(blt_eq _ _).mpr (by rw[b4];exact b1);have hw:=NZ (p:=.tok k v) (o:=some<|.tok k v) hn hg rfl ht;refine⟨fF n (some<|.tok k v) s1,?_,?_,fun m hm=>?_⟩
 ·show(aH (rest.all AV.hi&&Nat.ble J n) <| (fG J h0 ns).bind fun _=>(bq n).bind fun o=>match o with
   | .tok k' v=>aH (Nat.beq k k') <| aC (D3 val v rest) fun p=>aH p.1.hi <| (lk n<|some<|.tok k p.2).bind fun _=>M.pure p.1
   |_=>fail) s=_
  rw[hh,dC,M.bQ h2,M.bQ h4];show(aH (Nat.beq k k) <| aC (D3 val v rest) fun p=>aH p.1.hi <| (lk n<|some<|.tok k p.2).bind fun _=>M.pure p.1) s1=_;rw[dT.2 rfl,dC];unfold D3;rw[h8];show(aH x.hi <| (lk n<|some<|.tok k v).bind fun _=>M.pure x) s1=_;rw[hy,dC,M.bQ hw];rfl
 ·unfold fF;cases Nat.blt n s1.mark<;>rfl
 ·have e:(fF n (some<|.tok k v) s1).h=s1.h.put n (some<|.tok k v):=by unfold fF;cases Nat.blt n s1.mark<;>rfl
  rw[e,Tr.lM _ _ _ _<|(blt_eq _ _).mp ht];by_cases q:m=n
  ·rw[if_pos q,q,hg]
  ·rw[if_neg q]
section
variable {X:TX} {P:Program} {J k:Nat} {ns:List Nat} {h0:Tr ab} {kn:List<|Nat×Option ab} {L L':bV} {g:Nat} {fn:Func} {body:Code}
theorem Ul(hX:yo X J)(hP:bE P)(fV:fM<=J)(dO:J<=top)(dM:∀n o,n<top->h0.get n=some o->n∈ns)(eA:∀n∈ns,n<J)(jv:∀n o,(n,some o)∈kn->h0.get n=some o)(jw:∀p∈kn,p.1<top){val:AV->List AV->Option AV}(h:eC X J P<|dB J ns h0 L)(h':eC X J P<|dB J ns h0 L')(cq:P.funcs[g]? =some fn)(cx:fn.body=some body)(dL:(fn.name == "runtime.NumGoroutine")=false)(eQ:∀v rest y,val v rest=some y->max fn.ntmps (rest.length+1)<=top/\∀L,X k v L->∃nx,J<nx/\nx<=top/\(∀p∈L,p.1<nx)/\∀B:aL,qH X P J ns h0 L' B->
 au P B (J+1) (iD X P fn.results.toList k y v) ⟨g,ep<|.ptr (some (J,0))::rest,max fn.ntmps<|rest.length+1,[.code body],[],none⟩ ⟨gd<|kn++bx L,nx,0,[],[]⟩):eC X J P<|dB J ns h0<|(g,.raw<|lX k val)::L:=by
 refine(show eC X J P (pI (dB J ns h0 L) g<|lX k val J ns h0) from h.mT (fun YO _ args=>YN.lX _ _ _ _ _ YO args) fun B hB hT YO hc hl args x s s1 ρ w vs fi r hg hf hm hv=>?_);have ha:∃n rest,args= .ptr (some (n,0))::rest:=by
  unfold lX at hm;split at hm
  ·exact⟨_,_,rfl⟩
  ·cases hm
 obtain⟨n,rest,rfl⟩:=ha;obtain⟨EP,e1,e2,e3⟩:=abJ hm;have key:=TY (val:=D3 val) hX hT hP cq cx dL fV dO dM eA jv jw (fun v rest y v' e=>by
  unfold D3 at e;cases q:val v rest with
  |none=>rw[q] at e;cases e
  |some y1=>
   rw[q] at e;injection e with e;injection e with e1 e2
   subst e1;subst e2;obtain⟨q1,q2⟩:=eQ v rest y1 q;refine⟨q1,fun L1 hL=>?_⟩;obtain⟨nx,n1,n2,n3,q3⟩:=q2 L1 hL;exact⟨nx,n1,n2,n3,fun B' lH lI=>q3 B'<|rO hP h' (lH.trans hB)<|lI.trans hT⟩) r hg e1 hv
 rw[uH cq cx dL] at key ⊢;refine Calls.mono key fun e w'=>?_;rintro ⟨y,rfl,σ,c1,c2,c3,c4⟩;exact⟨y,rfl,σ,by rw[←e2];exact c1,c2,c3.congr e3,c4⟩
end
noncomputable section
def Xv(J:Nat)(h0:Tr ab)(ns:List Nat)(k n:Nat)(v:AV)(s:AS):Prop:=qG J h0 ns s=true/\Nat.blt n (dP J h0 ns s).nx=true/\(dP J h0 ns s).h.get n=some (.tok k v)
def Xw(J:Nat)(h0:Tr ab)(ns:List Nat)(n:Nat)(s:AS):AS:=aZ n<|dP J h0 ns s
end
theorem aeV{P:Program}{F:Nat->Option (List AV)}{sp:Sp}{g m J k:Nat}{h0:Tr ab}{ns:List Nat}{val:AV->List AV->Option AV}(h:sp g=some (lX k val J ns h0)){v y:AV}(hr:(rest.all AV.hi&&Nat.ble J n)=true)(ht:Nat.blt n top=true)(hv:val v rest=some y)(hy:y.hi=true):
 ∀s,Xv J h0 ns k n v s->bh P sp F (m+1) (.fn g) (.ptr (some (n,0))::rest) s= .ok y (Xw J h0 ns n s):=fun s q=>by
 obtain⟨q1,q2,q3⟩:=q;show ki P sp g (bh P sp F m) (.ptr (some (n,0))::rest) s=_;rw[uZ h];show(aH (rest.all AV.hi&&Nat.ble J n) <| (fG J h0 ns).bind fun _=>(bq n).bind fun o=>aC (xM k o) fun v=>aC (val v rest) fun y=>aH (y.hi&&Nat.blt n top) <| M.pure y) s=_;rw[hr,dC,M.bQ<|xm q1,M.bQ<|md q2 q3,M3,ch,hv,ch,hy,ht];rfl
end Go.Rn
open Go
namespace Go.Rn
section
variable {X:TX} {P:Program} {J:Nat} {ns:List Nat} {h0:Tr ab} {L:bV} {g:Nat} {fn:Func} {body:Code}
theorem aeZ{B:aL}:Vy P B fun _=>0:=fun n f h=>by rcases h with h|h|h<;>cases h
theorem aaJ(hP:bE P)(fV:fM<=J)(dO:J<=top)(dM:∀n o,n<top->h0.get n=some o->n∈ns)(eA:∀n∈ns,n<J){val:List AV->Option AV}(h:eC X J P<|dB J ns h0 L)(cq:P.funcs[g]? =some fn)(cx:fn.body=some body)(dL:(fn.name == "runtime.NumGoroutine")=false)(eQ:∀args v,val args=some v->∃n s1,vL P (fun _=>0) n (.fn g) args ⟨h0,J,0,[],[]⟩= .ok v s1):eC X J P<|dB J ns h0<|(g,.val val)::L:=by
 refine(show eC X J P (pI (dB J ns h0 L) g<|pq J ns h0 val) from h.mT (fun YO _ args=>YN.pq _ _ _ _ YO args) fun B hB hT YO hc hl args x s s1 ρ w vs fi r hg hf hm hv=>?_);unfold pq at hm;obtain⟨gG,h1⟩:=cZ hm;obtain⟨u,s2,h2,h3⟩:=M.aR h1;obtain⟨v,h4,h5⟩:=bu h3;obtain⟨h6,h7⟩:=cZ h5;obtain⟨rfl,rfl⟩:=bK h7;obtain⟨a1,a2,a3⟩:=uG h2;obtain⟨n,s4,q⟩:=eQ _ _ h4;have nK:=DQ dO r dM eA (fun n hn=>by obtain⟨_,o,p,h⟩:=a3 n hn;exact⟨o,p,h⟩);have fi:bD (⟨h0,J,0,[],[]⟩:AS):=⟨Nat.zero_le _,dO⟩;have Ab:gb<|gf J ρ:=fun g iA=>by obtain⟨N,e⟩:=hg g iA;exact⟨N,by unfold gf;rw[if_pos<|Nat.lt_of_lt_of_le iA fV];exact e⟩
 have bI:=(TF (B:=rE B ρ w) hP aeZ n).fn g args x ⟨h0,J,0,[],[]⟩ s4 (gf J ρ) w vs fi nK Ab (fun k k1 _ k2=>by
  have k1:J<=k:=k1;unfold gf gi;rw[if_neg aj,if_neg aj])
  q (AV.Bh (fun k y hk e=>by rw[sW dO hk];exact e) gG hv)
 rw[uH cq cx dL] at bI ⊢;have bI:Calls P g vs w _:=bI;show Calls P g vs w _;refine bI.mono fun e w'=>?_;rintro ⟨y,rfl,σ,e1,e2,e3,e4⟩;obtain⟨b1,b2,b3,b4⟩:=Jy (a:=s.nx) dO r e3 e4 e1.le;exact⟨y,rfl,cI ρ σ,by rw[a2];exact b1,AV.py b2 h6 e2,by rw[a1];exact b3,b4⟩
end
end Go.Rn
namespace Go.Rn
open Go.RowKit Go.ChangeShapes
variable {ρ:aw} {v:Value} {α:Type} {t e:TypeId} {fuel K:Nat}
abbrev l9:=List<|Nat×Nat×List AV
def Has(σ:aw)(ms:l9):Prop:=∀p∈ms,σ (hn (nm p.2.2) p.1 p.2.1)≠none
def Good(w:World)(ms:l9):Prop:=∀p∈ms,p.2.2.all AV.ga=true/\∃c e fr,w.heap[p.1]? =some (.cells c e fr)/\∀(i:Nat) (x:AV),p.2.2[i]? =some x->∃v,c[p.2.1+i]? =some v/\∀σ,Has σ ms->VR (gi σ) x v
def Is(ms:l9)(x:AV)(v:Value):Prop:=∀σ,Has σ ms->VR (gi σ) x v
theorem Has.sub{σ:aw}{a b:l9}(h:Has σ b)(hs:∀p∈a,p∈b):Has σ a:=fun p hp=>h p<|hs p hp
theorem Is.sub{a b:l9}{x:AV}(h:Is a x v)(hs:∀p∈a,p∈b):Is b x v:=fun σ hh=>h σ<|hh.sub hs
theorem Good.nil{w:World}:Good w []:=fun p hp=>by cases hp
theorem Good.app{w:World}{a b:l9}(h:Good w a)(k:Good w b):Good w<|a++b:=fun p hp=>by
 rcases List.mem_append.1 hp with hp|hp
 ·obtain⟨h1,c,e,fr,h2,h3⟩:=h p hp;exact⟨h1,c,e,fr,h2,fun i x hx=>by obtain⟨v,k1,k2⟩:=h3 i x hx;exact⟨v,k1,fun σ hh=>k2 σ<|hh.sub fun p hp=>List.mem_append_left _ hp⟩⟩
 ·obtain⟨h1,c,e,fr,h2,h3⟩:=k p hp;exact⟨h1,c,e,fr,h2,fun i x hx=>by obtain⟨v,k1,k2⟩:=h3 i x hx;exact⟨v,k1,fun σ hh=>k2 σ<|hh.sub fun p hp=>List.mem_append_right _ hp⟩⟩
section
variable {H:Type} {enc:TypeId×Value->H} {P:Program} {w:World} {base:Nat} {spare:Nat->Bool} {held:Bool}
theorem Tx{a:Addr}{n:Nat}{cs:List Value}(h:w.cells? base a n=some cs):cs.length=n/\∀(j:Nat) (x:Value),cs[j]? =some x->w.cell? (a.add j)=some x:=by
 unfold World.cells? at h;split at h
 ·have hlen:cs.length=n:=by simpa using mapM_some_length h
  refine⟨hlen,fun j x hx=>?_⟩;have hj:j<n:=by have:=(List.getElem?_eq_some_iff.1 hx).1;omega
  have:=mapM_some_get h j j (by simp[hj]);exact this.trans hx
 ·cases h
theorem Us(b o m:Nat):(⟨b,o,none⟩:Addr).add m=⟨b,o+m,none⟩:=by
 unfold Addr.add;split
 ·rename_i h;subst h;rfl
 ·rfl
theorem add_zero(a:Addr):a.add 0=a:=by unfold Addr.add;rw[if_pos rfl]
theorem abP{x:DataW H×List MemPlace}(Eb:0<K)(ht:P.underlying t=some (.slice e))(hK:P.cellsOf e=K)(h:DataW.trod enc P w base spare held fuel t [v]=some x):
 (∃a cap,v= .slice a 0 cap/\(a=none->cap=0))\/∃(b o len cap:Nat) (c:Array Value) (el:TypeId) (fr:Nat×Nat) (rows:List<|List Value),v= .slice (some ⟨b,o,none⟩) len cap/\len<=cap/\w.heap[b]? =some (.cells c el fr)/\rows.length=len/\∀(i:Nat) (row:List Value),rows[i]? =some row->row.length=K/\(∃n y,n<fuel/\DataW.trod enc P w base spare held n e row=some y)/\∀(j:Nat) (x:Value),row[j]? =some x->c[o+i*K+j]? =some x:=by
 rcases DataW.trod_slice ht h with⟨h0,_⟩|⟨a,len,cap,elems,rest,n,YL,uw,_,_,hl,_,hlen,hel,_,_⟩
 ·left;injection h0 with h0 _
  exact⟨none,0,h0,fun _=>rfl⟩
 ·injection uw with hv _
  subst hv;rcases Nat.eq_zero_or_pos len with rfl|hlp
  ·exact .inl ⟨some a,cap,rfl,fun e=>by cases e⟩
  right;have Xz:∀i,i<len->∃cs y,w.cells? base (a.add<|i*K) K=some cs/\DataW.trod enc P w base spare held n e cs=some y:=fun i hi=>by have he:=hel i hi;rw[hK,List.getElem?_eq_getElem aj] at he;obtain⟨cs,h1,h2⟩:=Option.bind_eq_some_iff.1 he;exact⟨cs,_,h1,h2⟩
  obtain⟨cs0,_,h1,_⟩:=Xz 0 hlp;obtain⟨k1,k2⟩:=Tx h1;have ju:=k2 0 _<|List.getElem?_eq_getElem aj;rw[Nat.zero_mul,add_zero,add_zero] at ju;have K2:a.spot=none:=World.cell?_spot ju;obtain⟨b,o,sp⟩:=a;simp only at K2;subst K2;unfold World.cell? at ju;simp only at ju;cases hb:w.heap[b]? with
  |none=>rw[hb] at ju;cases ju
  |some ob=>
   rw[hb] at ju;cases ob with
   |cells c el fr=>
    refine⟨b,o,len,cap,c,el,fr,(List.range len).map fun i=>(w.cells? base ((⟨b,o,none⟩:Addr).add<|i*K) K).getD [],rfl,hl,hb,by simp,fun i row eL=>?_⟩;have hi:i<len:=by have:=(List.getElem?_eq_some_iff.1 eL).1;simpa using this
    obtain⟨cs,y,h1,h2⟩:=Xz i hi;rw[List.getElem?_map,List.getElem?_range hi,Option.map_some,h1] at eL;injection eL with eL
    have aii:cs=row:=eL;subst aii;obtain⟨k1,k2⟩:=Tx h1;refine⟨k1,⟨n,_,by omega,h2⟩,fun j x hx=>?_⟩;have:=k2 j x hx;rw[Us,Us] at this;unfold World.cell? at this;simp only[hb] at this;simpa using this
   |_=>cases ju
theorem R5{β:Type}{K:Nat}:∀{l:List<|List β} {i:Nat} {x:β},(∀c∈l,c.length=K)->l.flatten[i]? =some x->∃q j row,l[q]? =some row/\row[j]? =some x/\i=q*K+j
 |[],i,x,_,h=>by simp at h
 |c::l,i,x,hl,h=>by
  have hc:=hl c List.mem_cons_self;rw[List.flatten_cons] at h;by_cases q:i<c.length
  ·rw[List.getElem?_append_left q] at h;exact⟨0,i,c,rfl,h,by omega⟩
  ·rw[List.getElem?_append_right aj] at h;obtain⟨a,j,row,h1,h2,h3⟩:=R5 (fun c' h'=>hl c'<|List.mem_cons_of_mem _ h') h;exact⟨a+1,j,row,by simpa using h1,h2,by rw[Nat.add_mul,Nat.one_mul];omega⟩
def GB(w:World)(ui:α->List AV)(Q:α->Prop)(row:List Value)(a:α)(ms:l9):Prop:=Q a/\Good w ms/\∀(j:Nat) (x:AV),(ui a)[j]? =some x->∃u,row[j]? =some u/\Is ms x u
theorem Vl{α:Type}{ui:α->List AV}{Q:α->Prop}:∀{rows:List<|List Value},(∀row∈rows,∃a ms,GB w ui Q row a ms)->
 ∃(l:List α) (ms:l9),l.length=rows.length/\(∀a∈l,Q a)/\Good w ms/\∀(i:Nat) a row,l[i]? =some a->rows[i]? =some row->∀(j:Nat) (x:AV),(ui a)[j]? =some x->∃u,row[j]? =some u/\Is ms x u
 |[],_=>⟨[],[],rfl,(fun a ha=>by cases ha),Good.nil,(fun i a row h=>by simp at h)⟩
 |row::rows,h=>by
  obtain⟨a,ms,h1,h2,h3⟩:=h row List.mem_cons_self;obtain⟨l,ns,k1,k2,k3,k4⟩:=Vl (rows:=rows) fun r hr=>h r<|List.mem_cons_of_mem _ hr;refine⟨a::l,ms++ns,(by simp[k1]),fun b hb=>?_,h2.app k3,fun i b r hb hr j x hx=>?_⟩
  ·rcases List.mem_cons.1 hb with rfl|hb
   ·exact h1
   ·exact k2 b hb
  ·cases i with
   |zero=>simp at hb hr;subst hb;subst hr;obtain⟨u,e1,e2⟩:=h3 j x hx;exact⟨u,e1,e2.sub fun p hp=>List.mem_append_left _ hp⟩
   |succ i=>simp at hb hr;obtain⟨u,e1,e2⟩:=k4 i b r hb hr j x hx;exact⟨u,e1,e2.sub fun p hp=>List.mem_append_right _ hp⟩
theorem FK{ui:α->List AV}{Q:α->Prop}(he:mw K ui)(Eb:0<K){x:DataW H×List MemPlace}(ht:P.underlying t=some (.slice e))(hK:P.cellsOf e=K)(eL:∀row:List Value,row.length=K->(∃n y,n<fuel/\DataW.trod enc P w base spare held n e row=some y)->∃a ms,GB w ui Q row a ms)(h:DataW.trod enc P w base spare held fuel t [v]=some x):
 ∃(l:List α) (ms:l9),(∀a∈l,Q a)/\Good w ms/\Is ms (aS ui l) v:=by
 rcases abP Eb ht hK h with⟨a,cap,rfl,hz⟩|⟨b,o,len,cap,c,el,fr,rows,rfl,h2,h3,h4,h5⟩
 ·refine⟨[],[],(fun a ha=>by cases ha),Good.nil,fun σ _=>?_⟩;unfold aS;simp only[VR];exact .inl ⟨cr _,rfl,a,cap,rfl,hz,(fun e=>absurd e (zo _).1),fun e=>absurd e (zo _).2⟩
 ·obtain⟨l,ms,k1,k2,k3,k4⟩:=Vl (w:=w) (ui:=ui) (Q:=Q) (rows:=rows) fun row hr=>by obtain⟨i,hi⟩:=List.mem_iff_getElem?.1 hr;obtain⟨a1,a2,_⟩:=h5 i row hi;exact eL row a1 a2
  refine⟨l,(b,o,(l.map ui).flatten)::ms,k2,fun p hp=>?_,fun σ hh=>?_⟩
  ·rcases List.mem_cons.1 hp with rfl|hp
   ·refine⟨he.all l,c,el,fr,h3,fun i x hx=>?_⟩;obtain⟨q,j,row,e1,e2,e3⟩:=R5 (K:=K) (fun c' QY=>by obtain⟨a,_,rfl⟩:=List.mem_map.1 QY;exact he.len a) hx;rw[List.getElem?_map] at e1;cases ha:l[q]? with
    |none=>rw[ha] at e1;cases e1
    |some a=>
     rw[ha] at e1;injection e1 with e1
     subst e1;have hq:q<rows.length:=by have:=(List.getElem?_eq_some_iff.1 ha).1;omega
     obtain⟨u,g1,g2⟩:=k4 q a rows[q] ha (List.getElem?_eq_getElem hq) j x e2;obtain⟨_,_,g4⟩:=h5 q rows[q]<|List.getElem?_eq_getElem hq;exact⟨u,by rw[e3, ←Nat.add_assoc];exact g4 j u g1,fun σ hh=>g2 σ<|hh.sub fun p hp=>List.mem_cons_of_mem _ hp⟩
   ·obtain⟨h1,c',e',nX,se,Qj⟩:=k3 p hp;exact⟨h1,c',e',nX,se,fun i x hx=>by obtain⟨v,q1,q2⟩:=Qj i x hx;exact⟨v,q1,fun σ hh=>q2 σ<|hh.sub fun p hp=>List.mem_cons_of_mem _ hp⟩⟩
  ·unfold aS;simp only[VR];refine .inr ⟨b,o,cap,.inr ⟨cr _,?_⟩,?_,fun _=>⟨by omega,(zo _).1⟩⟩
   ·have:=hh _ List.mem_cons_self;unfold gi;rw[if_pos<|fY _ _ _];exact this
   ·rw[Nat.add_zero,k1,h4]
end
open Classical in
noncomputable def pB(ms:l9)(ρ:aw):aw:=fun k=>if ρ k=none/\∃p∈ms,k=hn (nm p.2.2) p.1 p.2.1 then some (0,0) else ρ k
theorem IS{ms:l9}:ρ.le<|pB ms ρ:=fun k x e=>by unfold pB;rw[if_neg (fun q=>by rw[e] at q;cases q.1)];exact e
theorem M8{ms:l9}{k:Nat}(hk:k<top):pB ms ρ k=ρ k:=by unfold pB;rw[if_neg (fun⟨_,p,_,q⟩=>by have:=fY (nm p.2.2) p.1 p.2.1;omega)]
theorem Ty{ms:l9}:Has (pB ms ρ) ms:=fun p hp=>by
 unfold pB;by_cases q:ρ (hn (nm p.2.2) p.1 p.2.1)=none
 ·rw[if_pos ⟨q,p,hp,rfl⟩];exact fun h=>by cases h
 ·rw[if_neg fun z=>q z.1];exact q
theorem Start.aij(B:aL){J:Nat}{h0:Tr ab}{w:World}{ms:l9}(S:Start J h0 ρ w)(ht:J<=top)(hg:Good w ms):Rel ⟨fun k=>w.heap.size<=k,FU,fun _=>True,B.inv,w.heap.size,B.mono⟩ (pB ms ρ) h0 w:=by
 have r:=S.rel ht;refine⟨fun n o hn h=>?_,fun n m o p b N M hn hm h1 h2 cV e1 e2=>?_,fun n m es ex left cur hn h=>?_,r.size,r.lone,fun n b sh e=>?_,uj.no (fun n k v hn hg=>by have:=(S.is n _ hn hg).1;cases this) ⟨Nat.le_refl _,fun n o hn hg _=>by obtain⟨_,b,N,o',h1,h2,_⟩:=S.is n o hn hg;exact⟨b,N,IS _ _ h1,gS h2⟩⟩⟩
 ·obtain⟨b,N,o',h1,h2,h3,h4⟩:=r.is n o hn h;exact⟨b,N,o',IS _ _ h1,h2,h3.mono IS,h4⟩
 ·rw[M8 hn] at e1;rw[M8 hm] at e2;exact r.one n m o p b N M hn hm h1 h2 cV e1 e2
 ·have:=(S.is n _ hn h).1;cases this
 ·refine⟨.inl trivial,?_⟩;have lY:ρ (hn n b sh)=Option.none:=S.free _<|Nat.le_trans ht<|fY _ _ _;unfold pB at e;split at e
  ·rename_i q;obtain⟨_,p,hp,q⟩:=q;obtain⟨rfl,rfl,rfl⟩:=Jq q;obtain⟨h1,c,el,fr,h2,h3⟩:=hg p hp;refine⟨p.2.2,c,el,fr,DP h1,h2,fun m o N hm ho cz=>?_,fun i x hx=>?_⟩
   ·rw[ab.jY (S.is m o hm ho).1] at cz;cases cz
   ·obtain⟨v,q1,q2⟩:=h3 i x hx;exact⟨v,q1,q2 _ Ty,Ir<|List.all_eq_true.1 h1 x<|List.mem_of_getElem? hx⟩
  ·exact absurd lY e
end Go.Rn
namespace Go.Rn
open Go.RowKit
variable {ρ:aw} {ty:TypeId} {J g:Nat} {h:Tr ab} {c:Array Value} {W:World}
theorem Start.aim{m:Nat}{t:Tr AV}{fr:Nat×Nat}(S:Start J h ρ W)(Ql:g<top)(kl:ρ g=some (g,c.size))(hW:W.heap[g]? =some (.cells c ty fr))(hm:m=c.size)(row:∀i,i<m->∃x v,t.get i=some x/\x.cf=true/\c[i]? =some v/\VR ρ x v):Start J (h.put g<|some<|.ro m t) ρ W:=by
 refine⟨S.g,S.free,fun n o hn ho=>?_⟩;rw[Tr.du _ _ _ _ Ql hn] at ho;by_cases q:n=g
 ·subst q;rw[if_pos rfl] at ho;injection ho with ho;subst ho
  exact⟨rfl,n,c.size,_,kl,hW,c,ty,fr,rfl,rfl,hm,row⟩
 ·rw[if_neg q] at ho;exact S.is n o hn ho
noncomputable section
end
theorem Start.amz{fr:Nat×Nat}(S:Start J h ρ W)(low:∀k,k<fM->ρ k=TG W k)(hg:g<fM)(hW:W.heap[g]? =some (.cells c ty fr))(l:List AV)(hl:l.length<=top)(hs:l.length=c.size)(row:∀(i:Nat) x,l[i]? =some x->x.cf=true/\∃v,c[i]? =some v/\VR ρ x v):Start J (h.put g<|some<|.ro l.length<|Tr.fill l 0 .nil) ρ W:=by
 refine S.aim (Nat.lt_of_lt_of_le hg (by unfold fM top;decide)) ?_ hW hs fun i hi=>?_
 ·rw[low g hg];unfold TG;rw[if_pos hg,hW]
 ·obtain⟨x,hx⟩:∃x,l[i]? =some x:=⟨l[i],List.getElem?_eq_getElem hi⟩;obtain⟨h1,v,h2,h3⟩:=row i x hx;exact⟨x,v,by rw[acf _ hl i hi];exact hx,h1,h2,h3⟩
end Go.Rn
