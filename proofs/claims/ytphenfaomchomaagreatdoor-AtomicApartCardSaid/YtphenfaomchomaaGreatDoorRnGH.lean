import Derived.Test.YtphenfaomchomaaGreatDoorRnGG
import Derived.Test.YtphenfaomchomaaGreatDoorRnGE
import Derived.Test.YtphenfaomchomaaGreatDoorRnGC
import Derived.Test.YtphenfaomchomaaGreatDoorRnGF
import Derived.Test.YtphenfaomchomaaGreatDoorRnGD
set_option maxRecDepth 100000
set_option maxHeartbeats 8000000
set_option linter.unusedSimpArgs false
set_option linter.unusedVariables false
namespace Go.Rn
open Go.RowKit
variable {J g:Nat} {ns:List Nat} {h0:Tr ae} {P:Program} {ρ:Ren} {s:AS} {kn:List<|Nat×Option ae} {fn:Func} {body:Code}
def fj(d s:List<|Int×Int):List<|Int×Int:=s.foldl (fun d p=>fO d p.1 p.2) d
theorem UL:∀{a b:List<|Int×Int},cq a=cq b->a=b
 |[],[],_=>rfl
 |[],_::_,h=>by cases h
 |_::_,[],h=>by cases h
 |(x,y)::a,(z,u)::b,h=>by have h:(AV.int .i64 x,AV.int .i64 y)::cq a=(.int .i64 z,.int .i64 u)::cq b:=h;simp only[List.cons.injEq,Prod.mk.injEq,AV.int.injEq,true_and] at h;rw[h.1.1,h.1.2,UL h.2]
open Classical in
noncomputable def y9(o:ae):Option<|List<|Int×Int:=if h:∃m,o=bA m then some h.choose else none
theorem Sx{o:ae}{m:List<|Int×Int}(h:y9 o=some m):o=bA m:=by
 unfold y9 at h;split at h
 ·rename_i q;injection h with h;rw[←h];exact q.choose_spec
 ·cases h
theorem Sy(m:List<|Int×Int):y9 (bA m)=some m:=by
 unfold y9;have q:∃m',bA m=bA m':=⟨m,rfl⟩;rw[dif_pos q];have e:=q.choose_spec;have e:ae.lv (cq m)= .lv (cq q.choose):=e;injection e with e
 exact congrArg some (UL e).symm
noncomputable def wq(J:Nat)(ns:List Nat)(h0:Tr ae):aJ->List AV->M AV:=fun _ args=>match args with
 |[.map (some a),.map (some b)]=>(fI J h0 ns).bind fun _=>iI (a≠b) <| (bu a).bind fun o1=>(bu b).bind fun o2=>
  aA (y9 o1) fun m1=>aA (y9 o2) fun m2=>iI ((m1.map (·.1)).Nodup/\(m2.map (·.1)).Nodup) <|
  (bK a<|some<|bA<|fj m1 m2).bind fun _=>(bK b<|some<|bA m2).bind fun _=>M.pure<|.tuple []
 |_=>fail
theorem YQ.wq(J:Nat)(ns:List Nat)(h0:Tr ae)(YR:aJ)(args:List AV):YQ<|wq J ns h0 YR args:=by
 unfold Rn.wq;split
 ·refine YQ.bind (YQ.fI J h0 ns) fun _=>YQ.iI <| YQ.bind (YQ.bu _) fun _=>YQ.bind (YQ.bu _) fun _=>YQ.aA fun _ _=>YQ.aA fun _ _=>YQ.iI <| YQ.bind (YQ.bK _ _) fun _=>YQ.bind (YQ.bK _ _) fun _=>YQ.pure _
 ·exact YQ.fail
def P2(J:Nat)(P:Program)(rs:List ResultVar)(m1 m2:List<|Int×Int):=Fin P rs fun y s'=>y= .tuple []/\s'.h.get J=some (bA<|fj m1 m2)/\s'.h.get (J+1)=some (bA m2)
theorem uR{σ:Ren}{N:Nat}{o':Obj}{m:List<|Int×Int}(h:OR ρ N (bA m) o'):OR σ N (bA m) o':=by
 obtain⟨l,bq,rfl,h1,h2,l',h3,h4⟩:=h;refine⟨l,bq,rfl,h1,h2,l',h3,?_⟩;have:∀(m:List<|Int×Int) (l:List MapEntry),dP ρ (cq m) l->dP σ (cq m) l:=by
  intro m;induction m with
  |nil=>intro l h;simpa only[cq,List.map_nil,dP] using h
  |cons p m ih=>intro l h;have h:dP ρ ((.int .i64 p.1,.int .i64 p.2)::cq m) l:=h;show dP σ ((.int .i64 p.1,.int .i64 p.2)::cq m) l;simp only[dP,VR] at h ⊢;obtain⟨e,l',h1,h2,h3,h4⟩:=h;exact⟨e,l',h1,h2,h3,ih l' h4⟩
 exact this m l' h4
theorem adq{B:aI}{f:Nat}{w:World}{s1:AS}(hP:bS P)(cm:P.funcs[f]? =some fn)(cw:fn.body=some body)(dF:(fn.name == "runtime.NumGoroutine")=false)(ga:fL<=J)(dM:J+2<=top)(dL:∀n o,n<top->h0.get n=some o->n∈ns)(eC:∀n∈ns,n<J)(jt:∀n o,(n,some o)∈kn->h0.get n=some o)(jw:∀p∈kn,p.1<top)(eV:∀m1 m2:List<|Int×Int,(m1.map (·.1)).Nodup->(m2.map (·.1)).Nodup->max fn.ntmps 2<=top/\∀B':aI,B'.F=B.F->B'.inv=B.inv->
 au P B' (J+2) (P2 J P fn.results.toList m1 m2) ⟨f,dc [.map<|some J,.map<|some<|J+1],max fn.ntmps 2,[.code body],[],none⟩ ⟨fU<|kn++aY [(J,bA m1),(J+1,bA m2)],J+2,0,[],[]⟩){YR:aJ}{args:List AV}{x:AV}{vs:Array Value}(r:Rel B ρ s.h w)(hg:gD ρ)(h:wq J ns h0 YR args s= .ok x s1)(hv:ay ρ args vs.toList):jk P ((callFunc f vs).run P w)<|km B ρ s s1 w x:=by
 unfold wq at h;split at h
 ·rename_i n1 n2;obtain⟨u,s2,h2,h3⟩:=M.aN h;obtain⟨a1,a2,a3⟩:=uI h2;obtain⟨ch,h3⟩:=wN h3;obtain⟨o1,s3,k1,h3⟩:=M.aN h3;obtain⟨o2,s4,k2,h3⟩:=M.aN h3;obtain⟨m1,Lg,h3⟩:=bw h3;obtain⟨m2,cQ,h3⟩:=bw h3;obtain⟨⟨nd1,nd2⟩,h3⟩:=wN h3;obtain⟨u1,t1,w1,h3⟩:=M.aN h3;obtain⟨u2,t2,w2,h3⟩:=M.aN h3;obtain⟨rfl,rfl⟩:=bB h3;obtain⟨r1,r2,r3,r4⟩:=fX k1;obtain⟨r5,r6,r7,r8⟩:=fX k2;obtain⟨x1,x2,_,x4,x5⟩:=jB w1;obtain⟨y1,y2,_,y4,y5⟩:=jB w2;rw[Sx Lg,a1] at r2;rw[Sx cQ,r3,a1] at r6;let V:Vw:=[(J,n1,bA m1),(J+1,n2,bA m2)];have mem:∀q∈V,q=(J,n1,bA m1)\/q=(J+1,n2,bA m2):=fun q hq=>by simpa[V] using hq
  have e0:∀gH:Ren,eW J gH V J=gH n1:=fun gH=>by
   unfold eW;rw[if_neg aj,if_neg aj];have:gL V J=some n1:=by simp[gL,V]
   rw[this]
  have e1:∀gH:Ren,eW J gH V (J+1)=gH n2:=fun gH=>by
   unfold eW;rw[if_neg aj,if_neg aj];have:gL V (J+1)=some n2:=by simp[gL,V]
   rw[this]
  have hi:jl ρ<|eW J ρ V:=fun m x hm e=>by rw[yT aj hm];exact e
  have hV:z7 J ρ s.h V:=by
   refine⟨fun q hq=>?_,fun q hq q' eg e=>?_,fun q hq q' eg e=>?_,fun q hq=>?_⟩
   ·rcases mem q hq with rfl|rfl
    ·exact⟨Nat.le_refl _,by omega,x2⟩
    ·exact⟨by omega,by omega,y2⟩
   ·rcases mem q hq with rfl|rfl<;>rcases mem q' eg with rfl|rfl<;>first|rfl|(simp only at e;omega)
   ·rcases mem q hq with rfl|rfl<;>rcases mem q' eg with rfl|rfl<;>first|rfl|(simp only at e;omega)
   ·rcases mem q hq with rfl|rfl
    ·exact⟨_,r2,.inl ⟨rfl,rfl,fun N o' hO=>uR hO⟩⟩
    ·exact⟨_,r6,.inl ⟨rfl,rfl,fun N o' hO=>uR hO⟩⟩
  obtain⟨_,cW,T⟩:=r.tk;have T:DV B ρ s.h w cW:=T;have nK:=JW aj r T dL eC jt jw (fun n hn=>by obtain⟨_,o,p,h⟩:=a3 n hn;exact⟨o,p,h⟩) hV;obtain⟨d1,d2⟩:=eV m1 m2 nd1 nd2;have fi:bC (⟨fU<|kn++aY [(J,bA m1),(J+1,bA m2)],J+2,0,[],[]⟩:AS):=⟨Nat.zero_le _,dM⟩;have ks:ay (eW J ρ V) [.map<|some J,.map<|some<|J+1] vs.toList:=by simp only[ay,VR] at hv ⊢;obtain⟨y0,ys,q1,⟨b',N',q2,QB⟩,y3,Ef,q3,⟨b'',N'',q4,q5⟩,q6⟩:=hv;exact⟨y0,ys,q1,⟨b',N',(e0 ρ).trans q2,QB⟩,y3,Ef,q3,⟨b'',N'',(e1 ρ).trans q4,q5⟩,q6⟩
  have bH:=au.FK (B:=tE B ρ w<|wH ρ cW V) (s:=⟨fU<|kn++aY [(J,bA m1),(J+1,bA m2)],J+2,0,[],[]⟩) (args:=[.map<|some J,.map<|some<|J+1]) (vs:=vs) hP cm cw d1 (d2 _ rfl rfl) fi nK (fun g iE=>by
   obtain⟨N,e⟩:=hg g iE;exact⟨N,by rw[CU<|Nat.lt_of_lt_of_le iE ga];exact e⟩) (fun m hm kg=>by
   have hm:J+2<=m:=hm;exact HX aj kg fun q hq=>by rcases mem q hq with rfl|rfl<;>(show _≠m;simp only;omega)) ks
  rw[sB cm cw dF];show Calls P f vs w _;refine bH.mono fun e w'=>?_;rintro ⟨Ce,x',s7,rfl,⟨rfl,j1,j2⟩,_,σ,i0,Cf,i1,i2,i3⟩;have sV:∀q∈V,σ q.1=ρ q.2.1:=fun q hq=>by
   rcases mem q hq with rfl|rfl
   ·exact(i0 J aj aj).trans<|e0 ρ
   ·exact(i0 (J+1) aj aj).trans<|e1 ρ
  have qR:jl σ<|cF ρ σ:=fun k x hk e=>by unfold cF;rw[if_pos hk];exact e
  have V0:(J,n1,bA m1)∈V:=by simp[V]
  have V1:(J+1,n2,bA m2)∈V:=by simp[V]
  obtain⟨b1,b2,b3,b4⟩:=Ji (a:=s.nx) (L2:=[(n1,bA<|fj m1 m2),(n2,bA m2)]) (h':=s1.h) r T hV i2 i3 sV (fun m z hm q=>Cf m z hm<|hi m z hm q) (fun n q hm=>by
   rcases List.mem_cons.1 hm with hm|hm
   ·cases hm;exact⟨_,V0,rfl,_,j1,.inl ⟨rfl,rfl,fun N o' hO=>uR hO⟩⟩
   rcases List.mem_cons.1 hm with hm|hm
   ·cases hm;exact⟨_,V1,rfl,_,j2,.inl ⟨rfl,rfl,fun N o' hO=>uR hO⟩⟩
   cases hm) (fun q hq _=>by
   rcases mem q hq with rfl|rfl
   ·exact⟨_,j1,rfl⟩
   ·exact⟨_,j2,rfl⟩) (fun k hk=>by
   have G9:s1.h=(s.h.put n1<|some<|bA<|fj m1 m2).put n2 (some<|bA m2):=by rw[y4,x4,r7,r3,a1]
   rw[G9,Tr.di _ _ _ _ y2 hk,Tr.di _ _ _ _ x2 hk];by_cases q2:k=n2
   ·subst q2;exact .inl ⟨_,by simp,if_pos rfl⟩
   rw[if_neg q2];by_cases q1:k=n1
   ·subst q1;exact .inl ⟨_,by simp,if_pos rfl⟩
   rw[if_neg q1];exact .inr ⟨fun q hq=>by rcases mem q hq with rfl|rfl<;>(intro e;exact absurd e.symm<|by assumption),rfl⟩)
  refine⟨Ce,rfl,cF ρ σ,?_,AV.pB qR rfl i1,b3,b4⟩;have ct:s1.nx=s.nx:=by rw[y5,x5,r8,r4,a2]
  rw[ct];exact b1
 ·cases h
theorem ae9{X:TX}{L L':bO}(hP:bS P)(ga:fL<=J)(dM:J+2<=top)(dL:∀n o,n<top->h0.get n=some o->n∈ns)(eC:∀n∈ns,n<J)(jt:∀n o,(n,some o)∈kn->h0.get n=some o)(jw:∀p∈kn,p.1<top)(h:dT X J P<|dt J ns h0 L)(h':dT X J P<|dt J ns h0 L')(cm:P.funcs[g]? =some fn)(cw:fn.body=some body)(dF:(fn.name == "runtime.NumGoroutine")=false)(eV:∀m1 m2:List<|Int×Int,(m1.map (·.1)).Nodup->(m2.map (·.1)).Nodup->max fn.ntmps 2<=top/\∀B:aI,qE X P J ns h0 L' B->
 au P B (J+2) (P2 J P fn.results.toList m1 m2) ⟨g,dc [.map<|some J,.map<|some<|J+1],max fn.ntmps 2,[.code body],[],none⟩ ⟨fU<|kn++aY [(J,bA m1),(J+1,bA m2)],J+2,0,[],[]⟩):dT X J P<|dt J ns h0<|(g,.raw wq)::L:=by
 refine(show dT X J P (oQ (dt J ns h0 L) g<|wq J ns h0) from h.my (fun YR _ args=>YQ.wq _ _ _ YR args) fun B hB hT YR hc hl args x s s1 ρ w vs fi r hg hf hm hv=>?_);refine adq hP cm cw dF ga dM dL eC jt jw (fun m1 m2 n1 n2=>?_) r hg hm hv;obtain⟨q1,q2⟩:=eV m1 m2 n1 n2;exact⟨q1,fun B' lJ lK=>q2 B'<|qF hP h' (lJ.trans hB)<|lK.trans hT⟩
theorem UM{F:Nat->Option (List AV)}{sp:Sp}{n:Nat}(h:sp g=some (wq J ns h0)){a b:Nat}{m1 m2:List<|Int×Int}(hk:pM J h0 ns s=true)(GS:a≠b)(ha:Nat.blt a (dC J h0 ns s).nx=true)(hb:Nat.blt b (dC J h0 ns s).nx=true)(ax:Nat.blt a top=true)(X6:Nat.blt b top=true)(g1:(dC J h0 ns s).h.get a=some (bA m1))(g2:(dC J h0 ns s).h.get b=some (bA m2))(n1:(m1.map (·.1)).Nodup)(n2:(m2.map (·.1)).Nodup):
 aZ P sp F (n+1) (.fn g) [.map<|some a,.map<|some b] s= .ok (.tuple []) (fp b (some<|bA m2)<|fp a (some<|bA<|fj m1 m2)<|aV b<|aV a<|dC J h0 ns s):=by
 show jK P sp g (aZ P sp F n) [.map<|some a,.map<|some b] s=_;rw[rp h];show((fI J h0 ns).bind fun _=>iI (a≠b) <| (bu a).bind fun o1=>(bu b).bind fun o2=>
  aA (y9 o1) fun m1=>aA (y9 o2) fun m2=>iI ((m1.map (·.1)).Nodup/\(m2.map (·.1)).Nodup) <|
  (bK a<|some<|bA<|fj m1 m2).bind fun _=>(bK b<|some<|bA m2).bind fun _=>M.pure<|AV.tuple []) s=_
 rw[M.bL<|xp hk,wQ GS,M.bL<|lR ha g1];generalize dC J h0 ns s=z at*;have fm:Nat.blt b (aV a z).nx=true:=by rw[(fN a z).2.1];exact hb
 have zR:(aV a z).h.get b=some (bA m2):=by rw[(fN a z).1];exact g2
 rw[M.bL<|lR fm zR,Sy,bV,Sy,bV,wQ ⟨n1,n2⟩];have ha2:Nat.blt a (aV b<|aV a z).nx=true:=by rw[(fN b _).2.1,(fN a z).2.1];exact ha
 have ga2:(aV b<|aV a z).h.get a=some (bA m1):=by rw[(fN b _).1,(fN a z).1];exact g1
 rw[M.bL<|wY ha2 ga2 rfl ax];have wn:∀(n:Nat) (o:Option ae) (s:AS),(fp n o s).nx=s.nx/\(fp n o s).h=s.h.put n o:=fun n o s=>by unfold fp;cases Nat.blt n s.mark<;>exact⟨rfl,rfl⟩
 have hb3:Nat.blt b (fp a (some<|bA<|fj m1 m2)<|aV b<|aV a z).nx=true:=by rw[(wn _ _ _).1,(fN b _).2.1];exact fm
 have gb3:(fp a (some<|bA<|fj m1 m2)<|aV b<|aV a z).h.get b=some (bA m2):=by rw[(wn _ _ _).2,Tr.di _ _ _ _ ((blt_eq _ _).mp ax)<|(blt_eq _ _).mp X6,if_neg<|Ne.symm GS,(fN b _).1];exact zR
 rw[M.bL<|wY hb3 gb3 rfl X6];rfl
end Go.Rn
namespace Go.Rn
open Go.RowKit
variable {ρ σ:Ren} {o':Obj} {m' b a:List<|Int×Int} {N:Nat}
abbrev dW(m:List<|Int×Int):Prop:=(m.map (·.1)).Nodup
def jX:List (Int×Int)->Int->Option Int
 |[],_=>none
 |p::l,k=>if p.1=k then some p.2 else jX l k
theorem adr(m:List<|Int×Int)(k v j:Int):jX (fO m k v) j=if k=j then some v else jX m j:=by
 induction m with
 |nil=>simp[fO,jX]
 |cons p l ih=>
  unfold fO;by_cases e:p.1=k
  ·rw[if_pos e];by_cases q:k=j
   ·simp[jX,q]
   ·simp[jX,q,e]
  ·rw[if_neg e];by_cases q:p.1=j
   ·have:k≠j:=fun h=>e<|q.trans h.symm;simp[jX,q,this]
   ·simp only[jX,if_neg q];exact ih
theorem acb(m:List<|Int×Int)(k v:Int):∀j,j∈(fO m k v).map (·.1)↔j=k\/j∈m.map (·.1):=by
 intro j;induction m with
 |nil=>simp[fO]
 |cons p l ih=>
  unfold fO;by_cases e:p.1=k
  ·rw[if_pos e];simp only[List.map_cons,List.mem_cons];constructor
   ·rintro (h|h)
    ·exact .inl h
    ·exact .inr<|.inr h
   ·rintro (h|h|h)
    ·exact .inl h
    ·exact .inl<|h.trans e
    ·exact .inr h
  ·rw[if_neg e];simp only[List.map_cons,List.mem_cons];rw[ih];constructor
   ·rintro (h|h|h)
    ·exact .inr<|.inl h
    ·exact .inl h
    ·exact .inr<|.inr h
   ·rintro (h|h|h)
    ·exact .inr<|.inl h
    ·exact .inl h
    ·exact .inr<|.inr h
theorem dW.set{m:List<|Int×Int}(h:dW m)(k v:Int):dW<|fO m k v:=by
 induction m with
 |nil=>simp[dW,fO]
 |cons p l ih=>
  have h:(p.1::l.map (·.1)).Nodup:=h;obtain⟨h1,h2⟩:=List.nodup_cons.1 h;unfold fO;by_cases e:p.1=k
  ·rw[if_pos e];show(k::l.map (·.1)).Nodup;rw[←e];exact h
  ·rw[if_neg e];show(p.1::(fO l k v).map (·.1)).Nodup;refine List.nodup_cons.2 ⟨fun q=>?_,ih h2⟩;rcases(acb l k v p.1).1 q with q|q
   ·exact e q
   ·exact h1 q
theorem AQ{m:List<|Int×Int}(h:dW m)(k v:Int):(k,v)∈m↔jX m k=some v:=by
 induction m with
 |nil=>simp[jX]
 |cons p l ih=>
  have h:(p.1::l.map (·.1)).Nodup:=h;obtain⟨h1,h2⟩:=List.nodup_cons.1 h;unfold jX;by_cases e:p.1=k
  ·rw[if_pos e,List.mem_cons];constructor
   ·rintro (q|q)
    ·rw[←q]
    ·exact absurd (List.mem_map.2 ⟨_,q,rfl⟩) (by rw[←e] at*;exact h1)
   ·intro q;injection q with q
    obtain⟨a,b⟩:=p;simp only at e q;rw[e,q];exact .inl rfl
  ·rw[if_neg e,List.mem_cons, ←ih h2];constructor
   ·rintro (q|q)
    ·rw[←q] at e;exact absurd rfl e
    ·exact q
   ·exact .inr
theorem dW.nodup{m:List<|Int×Int}(h:dW m):m.Nodup:=by
 induction m with
 |nil=>exact List.nodup_nil
 |cons p l ih=>have h:(p.1::l.map (·.1)).Nodup:=h;obtain⟨h1,h2⟩:=List.nodup_cons.1 h;exact List.nodup_cons.2 ⟨fun q=>h1<|List.mem_map.2 ⟨_,q,rfl⟩,ih h2⟩
theorem acd(ha:dW a)(hb:dW b)(h:∀k,jX a k=jX b k):a.Perm b:=(List.perm_ext_iff_of_nodup ha.nodup hb.nodup).2 fun⟨k,v⟩=>by rw[AQ ha,AQ hb,h]
theorem ace(ha:dW a)(h:a.Perm b)(k:Int):jX a k=jX b k:=by
 have hb:dW b:=(h.map (·.1)).nodup_iff.1 ha;cases e:jX a k with
 |some v=>exact((AQ hb k v).1<|h.mem_iff.1<|(AQ ha k v).2 e).symm
 |none=>
  cases e2:jX b k with
  |none=>rfl
  |some v=>have:=(AQ ha k v).1<|h.mem_iff.2<|(AQ hb k v).2 e2;rw[e] at this;cases this
theorem dW.merge:∀{s d:List<|Int×Int},dW d->dW (fj d s)
 |[],d,h=>h
 |p::s,d,h=>dW.merge (s:=s)<|h.set p.1 p.2
theorem ML:∀(s d:List<|Int×Int) (k:Int),dW s->jX (fj d s) k=match jX s k with|some v=>some v|none=>jX d k
 |[],d,k,_=>rfl
 |p::s,d,k,h=>by
  have h:(p.1::s.map (·.1)).Nodup:=h;obtain⟨h1,h2⟩:=List.nodup_cons.1 h;show jX (fj (fO d p.1 p.2) s) k=_;have oc:jX (p::s) k=if p.1=k then some p.2 else jX s k:=rfl
  rw[ML s _ k h2,adr,oc];by_cases e:p.1=k
  ·rw[if_pos e,if_pos e];have:jX s k=none:=by
    cases q:jX s k with
    |none=>rfl
    |some v=>exact absurd (List.mem_map.2 ⟨_,(AQ h2 k v).2 q,rfl⟩) (by rw[←e];exact h1)
   rw[this]
  ·rw[if_neg e,if_neg e]
theorem aad{d s s':List<|Int×Int}(hd:dW d)(hs:dW s)(h:s.Perm s'):(fj d s).Perm<|fj d s':=by have QJ:dW s':=(h.map (·.1)).nodup_iff.1 hs;refine acd hd.merge hd.merge fun k=>?_;rw[ML s d k hs,ML s' d k QJ,ace hs h]
theorem aae(d s:List<|Int×Int)(p:Int×Int):fj d (s++[p])=fO (fj d s) p.1 p.2:=by unfold fj;rw[List.foldl_append];rfl
theorem HY:∀{l:List<|Int×Int} {x:AV×AV} {r:List<|AV×AV},(x,r)∈xF (cq l)->∃(p:Int×Int) (l':List<|Int×Int),x=(.int .i64 p.1,.int .i64 p.2)/\r=cq l'/\l.Perm (p::l')
 |[],x,r,h=>by cases h
 |a::l,x,r,h=>by
  have h:(x,r)∈(((AV.int .i64 a.1,AV.int .i64 a.2),cq l)::(xF<|cq l).map fun(y,r)=>(y,(AV.int .i64 a.1,AV.int .i64 a.2)::r)):=h;rcases List.mem_cons.1 h with h|h
  ·injection h with h1 h2
   exact⟨a,l,h1,h2,List.Perm.refl _⟩
  ·obtain⟨⟨y,r'⟩,hm,e⟩:=List.mem_map.1 h;simp only[Prod.mk.injEq] at e;obtain⟨p,l',h1,h2,h3⟩:=HY hm;refine⟨p,a::l',by rw[←e.1];exact h1,by rw[←e.2,h2];rfl,?_⟩;exact(h3.cons a).trans<|List.Perm.swap p a l'
theorem acf{m:List<|Int×Int}(h:m.Perm m'):∀{l:List MapEntry},dP ρ (cq m) l->∃l',l.Perm l'/\dP ρ (cq m') l':=by
 induction h with
 |nil=>intro l h;exact⟨l,List.Perm.refl _,h⟩
 |cons x _ ih=>intro l h;have h:dP ρ ((.int .i64 x.1,.int .i64 x.2)::cq _) l:=h;simp only[dP] at h;obtain⟨e,es,rfl,h1,h2,h3⟩:=h;obtain⟨l',q1,q2⟩:=ih h3;exact⟨e::l',q1.cons e,by show dP ρ ((.int .i64 x.1,.int .i64 x.2)::cq _) _;simp only[dP];exact⟨e,l',rfl,h1,h2,q2⟩⟩
 |swap x y l0=>intro l h;have h:dP ρ ((.int .i64 y.1,.int .i64 y.2)::(.int .i64 x.1,.int .i64 x.2)::cq l0) l:=h;simp only[dP] at h;obtain⟨e,es,rfl,h1,h2,e',gY,rfl,h3,h4,h5⟩:=h;exact⟨e'::e::gY,List.Perm.swap _ _ _,by show dP ρ ((.int .i64 x.1,.int .i64 x.2)::(.int .i64 y.1,.int .i64 y.2)::cq l0) _;simp only[dP];exact⟨e',_,rfl,h3,h4,e,gY,rfl,h1,h2,h5⟩⟩
 |trans _ _ ih1 ih2=>intro l h;obtain⟨l1,q1,q2⟩:=ih1 h;obtain⟨l2,q3,q4⟩:=ih2 q2;exact⟨l2,q1.trans q3,q4⟩
theorem aa3{a b:Int}(h:a≠b):sameKey (.int .i64 a) (.int .i64 b)=some false/\sameKey (.int .i64 b) (.int .i64 a)=some false:=by
 rw[TK,TK];constructor
 ·rw[show(a == b)=false by simpa using h]
 ·rw[show(b == a)=false by simpa using fun e=>h e.symm]
theorem Te{m:List<|Int×Int}(h:dW m):lu<|cq m:=by
 unfold lu;induction m with
 |nil=>exact .nil
 |cons p l ih=>have h:(p.1::l.map (·.1)).Nodup:=h;obtain⟨h1,h2⟩:=List.nodup_cons.1 h;refine .cons (fun q hq=>?_)<|ih h2;obtain⟨z,hz,rfl⟩:=List.mem_map.1 hq;exact aa3 fun e=>h1 (by rw[e];exact List.mem_map.2 ⟨z,hz,rfl⟩)
theorem aaf{m:List<|Int×Int}(hk:dW m')(hp:m.Perm m')(h:OR ρ N (bA m) o'):OR σ N (bA m') o':=by have h:OR σ N (bA m) o':=uR h;obtain⟨l,bq,rfl,h1,h2,l',h3,h4⟩:=h;obtain⟨l2,q1,q2⟩:=acf hp h4;exact⟨l,bq,rfl,Te hk,h2,l2,h3.trans q1,q2⟩
theorem acg{m:List<|Int×Int}(hk:dW m)(h:OR ρ N (xX m) o'):OR σ N (bA m) o':=by obtain⟨l,h0,h1,h2⟩:∃l,o'= .map l m.length/\m.length=(cq m).length/\j0 ρ (cq m) l.toList 0:=h;subst h0;have hb:=h2.Vu;rw[←h1] at hb;have:OR ρ N (bA m)<|.map l m.length:=⟨l,m.length,rfl,Te hk,hb,l.toList,List.Perm.refl _,h2.eqs⟩;exact uR this
end Go.Rn
namespace Go.Rn
open Go.RowKit
variable {t:Tr AV} {s3:AS} {nt n fn:Nat} {v:AV} {aO:AF} {b a:Code}
noncomputable section
def vy(l:Nat)(fr:AF):AF:=⟨fr.fn,fr.tmps,fr.nt,fr.todo,fr.defers,some l⟩
end
section
variable {P:Program} {YR:aJ} {s s1:AS} {l:Nat}
theorem CV{fr:AF}(h:(M.pure (br.go fr):M br) s= .ok (.go aO) s1):aO=fr/\s1=s:=by
 obtain⟨h1,h2⟩:=bB h;injection h1 with h1
 exact⟨h1,h2⟩
theorem ach{fr:AF}(h:je P YR fr s= .ok (.go aO) s1):aO.round=fr.round/\(fr.round=none->aO.defers=[]->fr.defers=[]/\je P YR (vy l fr) s= .ok (.go<|vy l aO) s1):=by
 obtain⟨f,t,nt,K,d,r⟩:=fr;cases K with
 |nil=>have h':(M.pure (br.leave ⟨f,t,nt,[],d,r⟩ none):M br) s= .ok (.go aO) s1:=h;cases(bB h').1
 |cons it k=>
  have h':(vw P it).val YR f t nt d r k s= .ok (.go aO) s1:=h;have goal:∀(X:oy),(vw P it).val=X->X YR f t nt d r k s= .ok (.go aO) s1->(aO.round=r/\(r=none->aO.defers=[]->d=[]/\X YR f t nt d (some l) k s= .ok (.go<|vy l aO) s1))->aO.round=r/\(r=none->aO.defers=[]->d=[]/\je P YR (vy l ⟨f,t,nt,it::k,d,r⟩) s= .ok (.go<|vy l aO) s1):=by rintro X hX _ ⟨h1,h2⟩;refine⟨h1,fun a b=>?_⟩;obtain⟨c,e⟩:=h2 a b;refine⟨c,?_⟩;show(vw P it).val YR f t nt d (some l) k s=_;rw[hX];exact e
  have pop:∀k',(M.pure (br.go ⟨f,t,nt,k',d,r⟩):M br) s= .ok (.go aO) s1->aO.round=r/\(r=none->aO.defers=[]->d=[]/\(M.pure (br.go ⟨f,t,nt,k',d,some l⟩):M br) s= .ok (.go<|vy l aO) s1):=by intro k' h;obtain⟨rfl,rfl⟩:=CV h;exact⟨rfl,fun _ b=>⟨b,rfl⟩⟩
  cases it with
  |code c=>
   cases c with
   |skip=>exact goal qy rfl h'<|pop _ h'
   |label n=>exact goal qy rfl h'<|pop _ h'
   |seq a b=>exact goal (nF [.code a,.code b]) rfl h'<|pop _ h'
   |cond c a b=>refine goal (JL c a b) rfl h' ?_;obtain⟨v,h1,h2⟩:=bw (show(aA (aG t c) fun v=>aA (xg v) fun v=>M.pure<|br.go ⟨f,t,nt,.code (@Bool.rec (fun _=>Code) b a v)::k,d,r⟩) s=_ from h');obtain⟨v',h3,h4⟩:=bw h2;obtain⟨q1,q2⟩:=pop _ h4;refine⟨q1,fun a' b'=>⟨(q2 a' b').1,?_⟩⟩;show(aA (aG t c) fun v=>aA (xg v) fun v=>M.pure<|br.go ⟨f,t,nt,.code (@Bool.rec (fun _=>Code) b a v)::k,d,some l⟩) s=_;rw[h1,bV,h3,bV];exact(q2 a' b').2
   |block i b=>exact goal (nF [.code b,.inBlock i]) rfl h'<|pop _ h'
   |loop b=>exact goal (nF [.code b,.inLoop b]) rfl h'<|pop _ h'
   |scope b=>exact goal (nF [.code b,.inScope b]) rfl h'<|pop _ h'
   |exit i=>
    refine goal (Dq i) rfl h' ?_;have h2:(match exitTo i k with
     |some k'=>M.pure (br.go ⟨f,t,nt,k',d,r⟩)
     |none=>M.pure<|br.leave ⟨f,t,nt,.code (.exit i)::k,d,r⟩<|some<|.exit i) s= .ok (.go aO) s1:=h'
    cases e:exitTo i k with
    |none=>rw[e] at h2;cases(bB h2).1
    |some k'=>
     rw[e] at h2;obtain⟨q1,q2⟩:=pop _ h2;refine⟨q1,fun a' b'=>⟨(q2 a' b').1,?_⟩⟩;show(match exitTo i k with
      |some k'=>M.pure (br.go ⟨f,t,nt,k',d,some l⟩)
      |none=>M.pure<|br.leave ⟨f,t,nt,.code (.exit i)::k,d,some l⟩<|some<|.exit i) s=_
     rw[e];exact(q2 a' b').2
   |goto i=>
    refine goal (Dr i) rfl h' ?_;have h2:(match gotoIn i k with
     |some k'=>M.pure (br.go ⟨f,t,nt,k',d,r⟩)
     |none=>M.pure<|br.leave ⟨f,t,nt,.code (.goto i)::k,d,r⟩<|some<|.goto i) s= .ok (.go aO) s1:=h'
    cases e:gotoIn i k with
    |none=>rw[e] at h2;cases(bB h2).1
    |some k'=>
     rw[e] at h2;obtain⟨q1,q2⟩:=pop _ h2;refine⟨q1,fun a' b'=>⟨(q2 a' b').1,?_⟩⟩;show(match gotoIn i k with
      |some k'=>M.pure (br.go ⟨f,t,nt,k',d,some l⟩)
      |none=>M.pure<|br.leave ⟨f,t,nt,.code (.goto i)::k,d,some l⟩<|some<|.goto i) s=_
     rw[e];exact(q2 a' b').2
   |ret=>cases(bB (show(M.pure (br.leave ⟨f,t,nt,.code .ret::k,d,r⟩<|some .ret):M br) s= .ok (.go aO) s1 from h')).1
   |region i ops dr=>
    cases dr with
    |false=>refine goal (IF P ops) rfl h' ?_;obtain⟨t1,s2,h2,h3⟩:=M.aN (show((jj P YR nt ops ops.toList t).bind fun t=>M.pure<|br.go ⟨f,t,nt,k,d,r⟩) s= .ok (.go aO) s1 from h');obtain⟨rfl,rfl⟩:=CV h3;refine⟨rfl,fun a' b'=>⟨b',?_⟩⟩;show((jj P YR nt ops ops.toList t).bind fun t=>M.pure<|br.go ⟨f,t,nt,k,d,some l⟩) s=_;rw[M.bL h2];rfl
    |true=>refine goal (Ia P ops) rfl h' ?_;obtain⟨t1,s2,h2,h3⟩:=M.aN (show((qc P YR nt ops t).bind fun t=>M.pure<|br.go ⟨f,t,nt,k,d,r⟩) s= .ok (.go aO) s1 from h');obtain⟨rfl,rfl⟩:=CV h3;refine⟨rfl,fun a' b'=>⟨b',?_⟩⟩;show((qc P YR nt ops t).bind fun t=>M.pure<|br.go ⟨f,t,nt,k,d,some l⟩) s=_;rw[M.bL h2];rfl
   |rangeFunc g ps a b=>
    have h2:uZ g ps.toList a b YR f t nt d r k s= .ok (.go aO) s1:=h';unfold uZ at h2;cases r with
    |none=>obtain⟨df,s2,_,h3⟩:=M.aN h2;obtain⟨lo,s3,_,h3⟩:=M.aN h3;obtain⟨gv,_,h3⟩:=bw h3;obtain⟨y,s4,_,h3⟩:=M.aN h3;obtain⟨p,s5,_,h3⟩:=M.aN h3;obtain⟨rfl,rfl⟩:=CV h3;exact⟨rfl,fun _ b'=>by cases b'⟩
    |some l0=>
     obtain⟨o,s2,_,h3⟩:=M.aN h2;split at h3
     ·obtain⟨lo,s3,_,h3⟩:=M.aN h3;obtain⟨gv,_,h3⟩:=bw h3;obtain⟨y,s4,_,h3⟩:=M.aN h3;obtain⟨p,s5,_,h3⟩:=M.aN h3;obtain⟨rfl,rfl⟩:=CV h3;exact⟨rfl,fun a' _=>by cases a'⟩
     ·cases h3
   |refuse m=>cases h'
  |inBlock i=>exact goal qy rfl h'<|pop _ h'
  |inScope i=>exact goal qy rfl h'<|pop _ h'
  |inLoop b=>exact goal (nF [.code b,.inLoop b]) rfl h'<|pop _ h'
  |beginRound=>
   have h2:yY YR f t nt d r k s= .ok (.go aO) s1:=h';unfold yY at h2;cases r with
   |none=>cases h2
   |some l0=>
    obtain⟨o,s2,_,h3⟩:=M.aN h2;split at h3
    ·obtain⟨_,s3,_,h4⟩:=M.aN h3;obtain⟨rfl,rfl⟩:=CV h4;exact⟨rfl,fun a' _=>by cases a'⟩
    ·cases h3
  |_=>cases h'
theorem Sz:∀{k:Nat} {fr aO:AF} {s s1:AS},dX P YR k fr s= .ok (.go aO) s1->aO.round=fr.round/\(fr.round=none->aO.defers=[]->fr.defers=[]/\dX P YR k (vy l fr) s= .ok (.go<|vy l aO) s1)
 |0,fr,aO,s,s1,h=>by cases h;exact⟨rfl,fun _ b=>⟨b,rfl⟩⟩
 |k+1,fr,aO,s,s1,h=>by
  obtain⟨y,s2,h1,h2⟩:=M.aN (show((je P YR fr).bind fun x=> @br.rec (fun _=>M br) (dX P YR k) (fun fr j=>M.pure<|br.leave fr j) x) s= .ok _ s1 from h);cases y with
  |leave pV j=>cases(bB (show(M.pure (br.leave pV j):M br) s2=_ from h2)).1
  |go pV=>have h2:dX P YR k pV s2= .ok (.go aO) s1:=h2;obtain⟨a1,a2⟩:=Sz h2;obtain⟨b1,b2⟩:=ach (l:=l) h1;refine⟨a1.trans b1,fun q1 q2=>?_⟩;obtain⟨c1,c2⟩:=a2 (b1.trans q1) q2;obtain⟨d1,d2⟩:=b2 q1 c1;exact⟨d1,(AM d2).trans c2⟩
def Jk(P:Program)(YR:aJ)(l:Nat)(R:AF->Option Code->AS->Prop)(fr:AF)(s:AS):Prop:=fr.round=none/\fr.defers=[]/\Ev P YR R (vy l fr) s
theorem Chunk.round{R:AF->Option Code->AS->Prop}:Chunk P YR<|Jk P YR l R:=by rintro k fr aO s s1 h ⟨h1,h2,h3⟩;obtain⟨a1,a2⟩:=Sz (l:=l) h;obtain⟨b1,b2⟩:=a2 (a1.symm.trans h1) h2;exact⟨a1.symm.trans h1,b1,Chunk.ev k _ _ _ _ b2 h3⟩
end
section
variable {l:Nat}
theorem CN{E:Env}(hE:E.Ok)(uu:E.fg=false){f:Nat}{K:List Item}{s:AS}{R:AF->Option Code->AS->Prop}{C:x8}(hC:∀fr s p,C fr s p->Jk E.P (aZ E.P E.sp E.F n) l R fr s)(fuel:Nat)(p:Pl){T:Prop}(x:T)(h:T=wp E fuel n (.fr f nt K t s) p [] (fun _ _ _=>False) C:=by as_aux_lemma=>kernel_rfl):Ev E.P (aZ E.P E.sp E.F n) R ⟨f,t,nt,K,[],some l⟩ s:=(CK hE fuel n (.fr f nt K t s) p [] (fun _ _ _=>False) C (Jk E.P (aZ E.P E.sp E.F n) l R) Chunk.round (fun fr s j aO jm s1 v s2 p q1 q2 q3=>q3.elim) hC (fun _ _ _ _ _ _ _ _ _ q=>by rw[uu] at q;cases q) (fun _ _ _ _ _ _ _ _ _ _ _ q=>by rw[uu] at q;cases q) (fun _ _ _ _ _ _ _ _ _ q=>by rw[uu] at q;cases q)<|h▸x).2.2
noncomputable section
def AR(P:Program)(YR:aJ)(l:Nat)(fr:AF)(s:AS):Option<|AV×AS:=
 match dX P YR 4 (vy l fr) s with
 | .ok (.leave _ j) s1=>(match endRound l j s1 with
  | .ok v s2=>some (v,s2)
  | .bad=>none)
 |_=>none
end
theorem EP{P:Program}{YR:aJ}{fr:AF}{s:AS}(h1:fr.round=none)(h2:fr.defers=[])(h:AR P YR l fr s=some (v,s3)):Jk P YR l (fun _ j s2=>endRound l j s2= .ok v s3) fr s:=by
 refine⟨h1,h2,?_⟩;unfold AR at h;split at h
 ·rename_i aO j s1 e;split at h
  ·rename_i v2 s2 e2;injection h with h;injection h with h3 h4
   subst h3;subst h4;exact⟨4,aO,j,s1,e,e2⟩
  ·cases h
 ·cases h
theorem ER{P:Program}{sp:Sp}{F:Nat->Option (List AV)}{args:List AV}{s s0:AS}{st:LoopState}{bN:Option Code}{d:Nat}{ps:List Tmp}(hg:getLoop l s= .ok (.loop st bN fn t nt ps a b d) s0)(hlen:(and (Nat.beq args.length ps.length)<|ps.all fun p=>Nat.blt p nt)=true)(H:Ev P (aZ P sp F n) (fun _ j s2=>endRound l j s2= .ok v s3) ⟨fn,jz ps args t,nt,[.code a,.beginRound,.code b],[],some l⟩ s0):aZ P sp F (n+1) (.round l) args s= .ok v s3:=by obtain⟨k,aO,j,s2,h1,h2⟩:=H;show wM P (aZ P sp F n) l args s=_;unfold wM;rw[M.bL hg];show(aF (and (Nat.beq args.length ps.length)<|ps.all fun p=>Nat.blt p nt) <| (pv P (aZ P sp F n) ⟨fn,jz ps args t,nt,[.code a,.beginRound,.code b],[],some l⟩).bind fun st=> @br.rec (fun _=>M AV) (fun _=>fail) (fun _ j=>endRound l j) st) s0=_;rw[hlen,dA,M.bL<|HU h1];exact h2
theorem Im{P:Program}{YR:aJ}{s s1 s2 s4:AS}{df lo:Nat}{k:List Item}{f:Operand}{ps:Array Tmp}{gv y:AV}{p:Option Code}(h1:gC .defs s= .ok df s1)(h2:gC (.loop .ready none fn t nt ps.toList a b df) s1= .ok lo s2)(h3:aG t f=some gv)(h4:mX YR gv [.yield lo] s2= .ok y s3)(h5:lQ lo s3= .ok p s4):
 dX P YR 1 ⟨fn,t,nt,.code (.rangeFunc f ps a b)::k,[],none⟩ s= .ok (.go ⟨fn,t,nt,andThen p k,[df],none⟩) s4:=by
 refine AM ?_;show uZ f ps.toList a b YR fn t nt [] none k s=_;unfold uZ;simp only;rw[M.bL h1,M.bL h2,h3,bV,M.bL h4,M.bL h5];rfl
end
end Go.Rn
namespace Go.Rn
open Go.RowKit
variable {J k:Nat} {B:aI} {v:AV} {rs:List ResultVar} {aO:AF} {Q:Tr AV->List Nat->Option Code->AS->Prop}
noncomputable section
def vD(l:Nat)(fr:AF):AF:=⟨fr.fn,fr.tmps,fr.nt,fr.todo,[l],fr.round⟩
end
section
variable {P:Program} {YR:aJ} {s s1:AS} {l:Nat}
theorem CO{fr:AF}(h:(M.pure (br.go fr):M br) s= .ok (.go aO) s1):aO=fr/\s1=s:=by
 obtain⟨h1,h2⟩:=bB h;injection h1 with h1
 exact⟨h1,h2⟩
theorem aan{fr:AF}(h:je P YR fr s= .ok (.go aO) s1):aO.round=fr.round/\(fr.round=none->aO.defers=[]->fr.defers=[]/\je P YR (vD l fr) s= .ok (.go<|vD l aO) s1):=by
 obtain⟨f,t,nt,K,d,r⟩:=fr;cases K with
 |nil=>have h':(M.pure (br.leave ⟨f,t,nt,[],d,r⟩ none):M br) s= .ok (.go aO) s1:=h;cases(bB h').1
 |cons it k=>
  have h':(vw P it).val YR f t nt d r k s= .ok (.go aO) s1:=h;have goal:∀(X:oy),(vw P it).val=X->X YR f t nt d r k s= .ok (.go aO) s1->(aO.round=r/\(r=none->aO.defers=[]->d=[]/\X YR f t nt [l] r k s= .ok (.go<|vD l aO) s1))->aO.round=r/\(r=none->aO.defers=[]->d=[]/\je P YR (vD l ⟨f,t,nt,it::k,d,r⟩) s= .ok (.go<|vD l aO) s1):=by rintro X hX _ ⟨h1,h2⟩;refine⟨h1,fun a b=>?_⟩;obtain⟨c,e⟩:=h2 a b;refine⟨c,?_⟩;show(vw P it).val YR f t nt [l] r k s=_;rw[hX];exact e
  have pop:∀k',(M.pure (br.go ⟨f,t,nt,k',d,r⟩):M br) s= .ok (.go aO) s1->aO.round=r/\(r=none->aO.defers=[]->d=[]/\(M.pure (br.go ⟨f,t,nt,k',[l],r⟩):M br) s= .ok (.go<|vD l aO) s1):=by intro k' h;obtain⟨rfl,rfl⟩:=CO h;exact⟨rfl,fun _ b=>⟨b,rfl⟩⟩
  cases it with
  |code c=>
   cases c with
   |skip=>exact goal qy rfl h'<|pop _ h'
   |label n=>exact goal qy rfl h'<|pop _ h'
   |seq a b=>exact goal (nF [.code a,.code b]) rfl h'<|pop _ h'
   |cond c a b=>refine goal (JL c a b) rfl h' ?_;obtain⟨v,h1,h2⟩:=bw (show(aA (aG t c) fun v=>aA (xg v) fun v=>M.pure<|br.go ⟨f,t,nt,.code (@Bool.rec (fun _=>Code) b a v)::k,d,r⟩) s=_ from h');obtain⟨v',h3,h4⟩:=bw h2;obtain⟨q1,q2⟩:=pop _ h4;refine⟨q1,fun a' b'=>⟨(q2 a' b').1,?_⟩⟩;show(aA (aG t c) fun v=>aA (xg v) fun v=>M.pure<|br.go ⟨f,t,nt,.code (@Bool.rec (fun _=>Code) b a v)::k,[l],r⟩) s=_;rw[h1,bV,h3,bV];exact(q2 a' b').2
   |block i b=>exact goal (nF [.code b,.inBlock i]) rfl h'<|pop _ h'
   |loop b=>exact goal (nF [.code b,.inLoop b]) rfl h'<|pop _ h'
   |scope b=>exact goal (nF [.code b,.inScope b]) rfl h'<|pop _ h'
   |exit i=>
    refine goal (Dq i) rfl h' ?_;have h2:(match exitTo i k with
     |some k'=>M.pure (br.go ⟨f,t,nt,k',d,r⟩)
     |none=>M.pure<|br.leave ⟨f,t,nt,.code (.exit i)::k,d,r⟩<|some<|.exit i) s= .ok (.go aO) s1:=h'
    cases e:exitTo i k with
    |none=>rw[e] at h2;cases(bB h2).1
    |some k'=>
     rw[e] at h2;obtain⟨q1,q2⟩:=pop _ h2;refine⟨q1,fun a' b'=>⟨(q2 a' b').1,?_⟩⟩;show(match exitTo i k with
      |some k'=>M.pure (br.go ⟨f,t,nt,k',[l],r⟩)
      |none=>M.pure<|br.leave ⟨f,t,nt,.code (.exit i)::k,[l],r⟩<|some<|.exit i) s=_
     rw[e];exact(q2 a' b').2
   |goto i=>
    refine goal (Dr i) rfl h' ?_;have h2:(match gotoIn i k with
     |some k'=>M.pure (br.go ⟨f,t,nt,k',d,r⟩)
     |none=>M.pure<|br.leave ⟨f,t,nt,.code (.goto i)::k,d,r⟩<|some<|.goto i) s= .ok (.go aO) s1:=h'
    cases e:gotoIn i k with
    |none=>rw[e] at h2;cases(bB h2).1
    |some k'=>
     rw[e] at h2;obtain⟨q1,q2⟩:=pop _ h2;refine⟨q1,fun a' b'=>⟨(q2 a' b').1,?_⟩⟩;show(match gotoIn i k with
      |some k'=>M.pure (br.go ⟨f,t,nt,k',[l],r⟩)
      |none=>M.pure<|br.leave ⟨f,t,nt,.code (.goto i)::k,[l],r⟩<|some<|.goto i) s=_
     rw[e];exact(q2 a' b').2
   |ret=>cases(bB (show(M.pure (br.leave ⟨f,t,nt,.code .ret::k,d,r⟩<|some .ret):M br) s= .ok (.go aO) s1 from h')).1
   |region i ops dr=>
    cases dr with
    |false=>refine goal (IF P ops) rfl h' ?_;obtain⟨t1,s2,h2,h3⟩:=M.aN (show((jj P YR nt ops ops.toList t).bind fun t=>M.pure<|br.go ⟨f,t,nt,k,d,r⟩) s= .ok (.go aO) s1 from h');obtain⟨rfl,rfl⟩:=CO h3;refine⟨rfl,fun a' b'=>⟨b',?_⟩⟩;show((jj P YR nt ops ops.toList t).bind fun t=>M.pure<|br.go ⟨f,t,nt,k,[l],r⟩) s=_;rw[M.bL h2];rfl
    |true=>refine goal (Ia P ops) rfl h' ?_;obtain⟨t1,s2,h2,h3⟩:=M.aN (show((qc P YR nt ops t).bind fun t=>M.pure<|br.go ⟨f,t,nt,k,d,r⟩) s= .ok (.go aO) s1 from h');obtain⟨rfl,rfl⟩:=CO h3;refine⟨rfl,fun a' b'=>⟨b',?_⟩⟩;show((qc P YR nt ops t).bind fun t=>M.pure<|br.go ⟨f,t,nt,k,[l],r⟩) s=_;rw[M.bL h2];rfl
   |rangeFunc g ps a b=>
    have h2:uZ g ps.toList a b YR f t nt d r k s= .ok (.go aO) s1:=h';unfold uZ at h2;cases r with
    |none=>obtain⟨df,s2,_,h3⟩:=M.aN h2;obtain⟨lo,s3,_,h3⟩:=M.aN h3;obtain⟨gv,_,h3⟩:=bw h3;obtain⟨y,s4,_,h3⟩:=M.aN h3;obtain⟨p,s5,_,h3⟩:=M.aN h3;obtain⟨rfl,rfl⟩:=CO h3;exact⟨rfl,fun _ b'=>by cases b'⟩
    |some l0=>
     obtain⟨o,s2,_,h3⟩:=M.aN h2;split at h3
     ·obtain⟨lo,s3,_,h3⟩:=M.aN h3;obtain⟨gv,_,h3⟩:=bw h3;obtain⟨y,s4,_,h3⟩:=M.aN h3;obtain⟨p,s5,_,h3⟩:=M.aN h3;obtain⟨rfl,rfl⟩:=CO h3;exact⟨rfl,fun a' _=>by cases a'⟩
     ·cases h3
   |refuse m=>cases h'
  |inBlock i=>exact goal qy rfl h'<|pop _ h'
  |inScope i=>exact goal qy rfl h'<|pop _ h'
  |inLoop b=>exact goal (nF [.code b,.inLoop b]) rfl h'<|pop _ h'
  |beginRound=>
   have h2:yY YR f t nt d r k s= .ok (.go aO) s1:=h';unfold yY at h2;cases r with
   |none=>cases h2
   |some l0=>
    obtain⟨o,s2,_,h3⟩:=M.aN h2;split at h3
    ·obtain⟨_,s3,_,h4⟩:=M.aN h3;obtain⟨rfl,rfl⟩:=CO h4;exact⟨rfl,fun a' _=>by cases a'⟩
    ·cases h3
  |_=>cases h'
theorem Tm:∀{k:Nat} {fr aO:AF} {s s1:AS},dX P YR k fr s= .ok (.go aO) s1->aO.round=fr.round/\(fr.round=none->aO.defers=[]->fr.defers=[]/\dX P YR k (vD l fr) s= .ok (.go<|vD l aO) s1)
 |0,fr,aO,s,s1,h=>by cases h;exact⟨rfl,fun _ b=>⟨b,rfl⟩⟩
 |k+1,fr,aO,s,s1,h=>by
  obtain⟨y,s2,h1,h2⟩:=M.aN (show((je P YR fr).bind fun x=> @br.rec (fun _=>M br) (dX P YR k) (fun fr j=>M.pure<|br.leave fr j) x) s= .ok _ s1 from h);cases y with
  |leave pV j=>cases(bB (show(M.pure (br.leave pV j):M br) s2=_ from h2)).1
  |go pV=>have h2:dX P YR k pV s2= .ok (.go aO) s1:=h2;obtain⟨a1,a2⟩:=Tm h2;obtain⟨b1,b2⟩:=aan (l:=l) h1;refine⟨a1.trans b1,fun q1 q2=>?_⟩;obtain⟨c1,c2⟩:=a2 (b1.trans q1) q2;obtain⟨d1,d2⟩:=b2 q1 c1;exact⟨d1,(AM d2).trans c2⟩
def GD(P:Program)(YR:aJ)(B:aI)(J:Nat)(Q:Tr AV->List Nat->Option Code->AS->Prop)(l:Nat)(fr:AF)(s:AS):Prop:=fr.round=none/\fr.defers=[]/\zC P B J Q (vD l fr) s
theorem Chunk.defs(bI:P.follows .mixedOrders=true)(hc:fT P B YR)(hl:∀t a,YQ<|YR t a):Chunk P YR<|GD P YR B J Q l:=by rintro k fr aO s s1 h ⟨h1,h2,h3⟩;obtain⟨a1,a2⟩:=Tm (l:=l) h;obtain⟨b1,b2⟩:=a2 (a1.symm.trans h1) h2;exact⟨a1.symm.trans h1,b1,Chunk.Em bI hc hl k _ _ _ _ b2 h3⟩
noncomputable section
def GF(P:Program)(YR:aJ)(rs:List ResultVar)(k l:Nat)(fr:AF)(s:AS):Option<|AV×AS:=
 match dX P YR k (vD l fr) s with
 | .ok (.leave aO j) s1=>(match finish P rs aO j s1 with
  | .ok v s2=>some (v,s2)
  | .bad=>none)
 |_=>none
end
theorem Nn{fr:AF}{R:AV->AS->Prop}{s2:AS}(bI:P.follows .mixedOrders=true)(hc:fT P B YR)(hl:∀t a,YQ<|YR t a)(h1:fr.round=none)(h2:fr.defers=[])(h:GF P YR rs k l fr s=some (v,s2))(hR:R v s2):GD P YR B J (Fin P rs R) l fr s:=by
 refine⟨h1,h2,fun h0=>?_⟩;unfold GF at h;split at h
 ·rename_i aO j s1 e;split at h
  ·rename_i v2 s3 e2;injection h with h;injection h with h3 h4
   subst h3;subst h4;exact au.leave bI hc hl e h0 ⟨v2,s3,by rw[←E3];exact e2,hR⟩
  ·cases h
 ·cases h
end
noncomputable section
def Pn(P:Program)(YR:aJ)(rs:List ResultVar)(k l:Nat)(fr:AF)(s:AS):Option AV:=match GF P YR rs k l fr s with
 |some (v,_)=>some v
 |none=>none
end
theorem MP{P:Program}{YR:aJ}{l:Nat}{s:AS}{fr:AF}(bI:P.follows .mixedOrders=true)(hc:fT P B YR)(hl:∀t a,YQ<|YR t a)(h1:fr.round=none)(h2:fr.defers=[])(h:Pn P YR rs k l fr s=some v):GD P YR B J (Fin P rs fun y _=>y=v) l fr s:=by
 unfold Pn at h;split at h
 ·rename_i v2 s2 e;injection h with h;subst h
  exact Nn bI hc hl h1 h2 e rfl
 ·cases h
theorem adJ{E:Env}(hE:E.Ok){n f nt l:Nat}{t:Tr AV}{K:List Item}{s:AS}{C:x8}(uu:E.fg=false)(bI:E.P.follows .mixedOrders=true)(hc:fT E.P B<|aZ E.P E.sp E.F n)(hl:∀t a,YQ<|aZ E.P E.sp E.F n t a)(hC:∀fr s p,C fr s p->GD E.P (aZ E.P E.sp E.F n) B J Q l fr s)(h0:J<=s.nx)(fuel:Nat)(p:Pl){T:Prop}(x:T)(h:T=wp E fuel n (.fr f nt K t s) p [] (fun _ _ _=>False) C:=by as_aux_lemma=>kernel_rfl):au E.P B J Q ⟨f,t,nt,K,[l],none⟩ s:=(CK hE fuel n (.fr f nt K t s) p [] (fun _ _ _=>False) C (GD E.P (aZ E.P E.sp E.F n) B J Q l) (Chunk.defs bI hc hl) (fun fr s j aO jm s1 v s2 p q1 q2 q3=>q3.elim) hC (fun _ _ _ _ _ _ _ _ _ q=>by rw[uu] at q;cases q) (fun _ _ _ _ _ _ _ _ _ _ _ q=>by rw[uu] at q;cases q) (fun _ _ _ _ _ _ _ _ _ q=>by rw[uu] at q;cases q)<|h▸x).2.2 h0
end Go.Rn
namespace Go.Rn
open Go.RowKit
theorem VR.IP{ρ:Ren}{n o:Nat}{v:Value}(ht:top<=n)(h:VR ρ (.U n o 0) v):VR ρ (.U top 0 0) v\/VR ρ (.U (top+1) 0 0) v:=by
 simp only[VR] at h ⊢;rcases h with⟨_,_,a,c,rfl,hz⟩|⟨b,sh,c,_,rfl,_⟩
 ·cases a with
  |none=>exact .inl<|.inl ⟨Nat.le_refl _,trivial,none,c,rfl,hz.1,(fun _=>rfl),fun e=>by omega⟩
  |some a=>exact .inr<|.inl ⟨by omega,trivial,some a,c,rfl,(fun e=>by cases e),(fun e=>by omega),fun _ e=>by cases e⟩
 ·exact .inr<|.inl ⟨by omega,trivial,_,c,rfl,(fun e=>by cases e),(fun e=>by omega),fun _ e=>by cases e⟩
theorem au.IP{P:Program}{B:aI}{J:Nat}{Q:Tr AV->List Nat->Option Code->AS->Prop}{f nt:Nat}{t:Tr AV}{K:List Item}{d:List Nat}{r:Option Nat}{s:AS}{i n o:Nat}(hi:t.get i=some (.U n o 0))(ht:top<=n)(pT:i<top)(H1:au P B J Q ⟨f,t.put i<|some<|.U top 0 0,nt,K,d,r⟩ s)(H2:au P B J Q ⟨f,t.put i<|some<|.U (top+1) 0 0,nt,K,d,r⟩ s):au P B J Q ⟨f,t,nt,K,d,r⟩ s:=by
 intro ρ w b a cs bD ax hf;have hv:=ax.tr.2 i _ hi;have ar:∀x,VR ρ x (a.tmps.getD i Go.undef)->At B ρ s nt (t.put i<|some x) w a:=fun x hx=>by
  obtain⟨h1,h2,h3,h4,h5⟩:=ax;refine⟨⟨h1.1,fun j y hy=>?_⟩,h2,h3,h4,h5⟩;rw[Tr.lP _ _ _ _ pT] at hy;by_cases e:j=i
  ·rw[if_pos e] at hy;cases hy;rw[e];exact hx
  ·rw[if_neg e] at hy;exact h1.2 j y hy
 obtain⟨f1,f2,f3,f4,f5⟩:=bD;rcases hv.IP ht with q|q
 ·exact H1 ρ w b a cs ⟨f1,f2,f3,f4,f5⟩ (ar _ q) hf
 ·exact H2 ρ w b a cs ⟨f1,f2,f3,f4,f5⟩ (ar _ q) hf
end Go.Rn
namespace Go.Rn
open Go.RowKit
section
variable {X:TX} {P:Program} {J:Nat} {ns:List Nat} {h0:Tr ae} {L:bO} {g:Nat} {fn:Func} {body:Code}
theorem aco(hP:bS P)(ga:fL<=J)(dM:J<=top)(dL:∀n o,n<top->h0.get n=some o->n∈ns)(eC:∀n∈ns,n<J){val:List AV->Option AV}(h:dT X J P<|dt J ns h0 L)(cm:P.funcs[g]? =some fn)(cw:fn.body=some body)(dF:(fn.name == "runtime.NumGoroutine")=false)(eV:∀args v,val args=some v->max fn.ntmps args.length<=top/\∃L',dT X J P (dt J ns h0 L')/\∀B:aI,qE X P J ns h0 L' B->
 au P B J (Fin P fn.results.toList fun y _=>y=v) ⟨g,dc args,max fn.ntmps args.length,[.code body],[],none⟩ ⟨h0,J,0,[],[]⟩):dT X J P<|dt J ns h0<|(g,.val val)::L:=by
 refine(show dT X J P (oQ (dt J ns h0 L) g<|px J ns h0 val) from h.my (fun YR _ args=>YQ.px _ _ _ _ YR args) fun B hB hT YR hc hl args x s s1 ρ w vs fi r hg hf hm hv=>?_);refine R6 hP cm cw dF ga dM dL eC (fun args v e=>?_) r hg hm hv;obtain⟨q1,L',h',q2⟩:=eV args v e;exact⟨q1,fun B' lJ lK=>q2 B'<|qF hP h' (lJ.trans hB)<|lK.trans hT⟩
end
end Go.Rn
namespace Go.Rn
open Go.RowKit
variable {s:AS}
section
variable {P:Program} {B:aI} {J:Nat} {Q:Tr AV->List Nat->Option Code->AS->Prop} {YR:aJ}
theorem au.W9{fr aO:AF}{s1:AS}{ρ:Ren}{w:World}{b:Frame}{a:Act}{cs:List Frame}(bD:Fr ρ fr b a)(hf:∀k,s.nx<=k->k<top->ρ k=none)(lh:s.nx<=s1.nx)(h0:J<=s.nx)(hw:lV P B ρ s s1 w fr b cs (lone (b.atR a fr.todo) cs w)<|.go aO)(H:au P B J Q aO s1):
 ∃(kv:AF) (j:Option Code) (s2:AS) (σ:Ren) (a2:Act) (w2:World),Q kv.tmps kv.defers j s2/\J<=s2.nx/\(∀k,k<J->k<top->σ k=ρ k)/\(∀k x,top<=k->ρ k=some x->σ k=some x)/\(∀k,s2.nx<=k->k<top->σ k=none)/\At B σ s2 fr.nt kv.tmps w2 a2/\vL σ kv.defers a2.defers/\cx B w w2/\(kv.fn=fr.fn/\kv.nt=fr.nt/\kv.round=fr.round)/\jC kv.todo/\Leaves j kv.todo/\Steps P (lone (b.atR a fr.todo) cs w) (lone (b.atR a2 kv.todo) cs w2):=by
 obtain⟨σ,a1,w1,e1,e2,e3,e4,⟨e5,e6,e7⟩,e8,_,e9⟩:=hw;have El:aO.fn=fr.fn:=e5;have iY:aO.nt=fr.nt:=e6;have pU:aO.round=fr.round:=e7;obtain⟨kv,j,s2,τ,a2,w2,q0,qn,q1,G5,q2,q3,q4,q5,⟨q6,q7,q8⟩,q9,Qz,QA⟩:=H σ w1 b a1 cs ⟨bD.fn.trans El.symm,bD.kind,by rw[pU];exact bD.round.mono e1.le,e3,e8⟩ (by rw[iY];exact e2) fun k hk ht=>(e1.out k ht aj).trans<|hf k aj ht;exact⟨kv,j,s2,τ,a2,w2,q0,qn,fun k hk gu=>(q1 k hk gu).trans<|e1.out k gu aj,fun k x hk hx=>G5 k x hk<|e1.le _ _ hx,q2,by rw[←iY];exact q3,q4,e4.trans q5,⟨q6.trans El,q7.trans iY,q8.trans pU⟩,q9,Qz,Steps.trans e9 QA⟩
theorem au.next(hc:fT P B YR)(hl:∀t a,YQ<|YR t a){fr:AF}{s2:AS}{it:Operand}{o:Oper}{ops:Array Oper}{rest:List Oper}{k:List Item}{n m:Nat}{es:List<|AV×AV}{ex:Bool}{left:List<|AV×AV}{cur:Option<|AV×AV}(e:AD fr=some (it,o,ops,rest,k))(h0:J<=s.nx)(e1:ri fr it s= .ok (n,.iter m es ex left cur) s2)(H0:left=[]->∃aO s3,nz P YR fr n m es ex o ops rest k s2= .ok aO s3/\au P B J Q aO s3)(H1:∀x r,(x,r)∈xF left->∃aO s3,nB P YR fr n (.iter m es ex r<|some x) o ops rest k (.tuple [.bool true,x.1,x.2]) s2= .ok aO s3/\au P B J Q aO s3):au P B J Q fr s:=by
 intro ρ w b a cs bD ax hf;obtain⟨id,oz,ml,B1,ho⟩:=RL e;obtain⟨h1,h2⟩:=R4 e1;obtain⟨hx,hg,hh,ct⟩:=fX h2;have dz:bC s2:=(YQ.bu n).cn ax.cn h2;have ht:n<top:=Nat.lt_of_lt_of_le hx ax.cn.nx;have hd:∀c,o.op≠ .defer c:=fun c q=>by rw[ho] at q;cases q
 obtain⟨o5,fu,u⟩:=ax.rel.iter n m es ex left cur ht hg;obtain⟨bn,N,hn,pA⟩:=u.next (P:=P) o.type;have G2:VR ρ (.ptr<|some (n,0))<|a.eval it:=CS ax.tr ax.g h1;have Eh:a.eval it= .pointer (some ⟨bn,0,none⟩):=by simp only[VR] at G2;obtain⟨b',N',q1,q2⟩:=G2;rw[hn] at q1;cases q1;exact q2
 have F2:∀v w',(Instr.next (.pointer<|some ⟨bn,0,none⟩) false o.type).run P w= .ok v w'->(execOp a.eval o).run P w= .ok (.value v) w':=by intro v w' q;simp only[execOp,ho,Eh,Sem.run_bind,q,Result.andThen_ok,Sem.run_pure]
 obtain⟨_,_,_,hB⟩:=ax.rel.block ht hg hn;have free:∀{a b:Nat},s.nx<=a->dB a b ρ:=fun ha k h1 _ h3=>hf k aj h3;rcases pA with⟨Kd,qz⟩|⟨x,r,v1,v2,w',ir,Ek,rV,qz,G3,hblk,Qy⟩
 ·obtain⟨aO,s3,e3,HS⟩:=H0 Kd;have ju:=(YQ.nz P hl fr n m es ex o ops rest k).cn dz e3;have B0:=(YQ.nz P hl fr n m es ex o ops rest k).le dz e3;refine au.W9 bD hf aj h0 ?_ HS;unfold nz at e3;obtain⟨u1,s4,i1,i2⟩:=M.aN e3;obtain⟨u2,s5,i3,i4⟩:=M.aN i2;obtain⟨t1,s6,i5,i6⟩:=M.aN i4;obtain⟨t2,s7,i7,i8⟩:=M.aN i6;obtain⟨rfl,rfl⟩:=bB i8;obtain⟨i9,rfl⟩:=gS i5;obtain⟨_,_,_,j1,j2⟩:=jB i1;obtain⟨_,_,_,j3,j4⟩:=jB i3;have B2:bC s6:=(YQ.bK m _).cn ((YQ.bK n _).cn dz i1) i3;have lk:s.h.get n=some (.iter m es ex [] cur):=by rw[hg,Kd]
  have By:Rel B ρ s6.h w:=by rw[j3,j1,hh];exact ax.rel.WS ht lk
  have B3:VR ρ (.tuple [.bool false])<|.tuple #[.bool false]:=by simp only[VR,ay];exact⟨_,rfl,_,_,rfl,rfl,rfl⟩
  obtain⟨q1,q2⟩:=CG (a:=a) ax.tr ax.nt i9 B3;exact HE hc hl bD oz ml B1 hd (F2 _ _ qz) (cx.refl _ _) ⟨q1,By,ax.g,ax.nt,B2⟩ (by rw[j4,j2,ct]) (free (by rw[j4,j2,ct];exact Nat.le_refl _)) i7
 ·obtain⟨aO,s3,e3,HS⟩:=H1 x r ir;have ju:=(YQ.nB P hl fr n (.iter m es ex r<|some x) o ops rest k<|.tuple [.bool true,x.1,x.2]).cn dz e3;have B0:=(YQ.nB P hl fr n (.iter m es ex r<|some x) o ops rest k<|.tuple [.bool true,x.1,x.2]).le dz e3;refine au.W9 bD hf aj h0 ?_ HS;unfold nB at e3;obtain⟨u1,s4,i1,i2⟩:=M.aN e3;obtain⟨t1,s6,i5,i6⟩:=M.aN i2;obtain⟨t2,s7,i7,i8⟩:=M.aN i6;obtain⟨rfl,rfl⟩:=bB i8;obtain⟨i9,rfl⟩:=gS i5;obtain⟨_,_,_,j1,j2⟩:=jB i1;have B2:bC s6:=(YQ.bK n _).cn dz i1;have By:Rel B ρ s6.h w':=by rw[j1,hh];exact ax.rel.Vx ht hg hn G3 hblk Qy
  have B3:VR ρ (.tuple [.bool true,x.1,x.2])<|.tuple #[.bool true,v1,v2]:=by simp only[VR,ay];exact⟨_,rfl,_,_,rfl,rfl,_,_,rfl,Ek,_,_,rfl,rV,rfl⟩
  obtain⟨q1,q2⟩:=CG (a:=a) ax.tr ax.nt i9 B3;exact HE hc hl bD oz ml B1 hd (F2 _ _ qz) (G3.below<|hB rfl) ⟨q1,By,ax.g,ax.nt,B2⟩ (by rw[j2,ct]) (free (by rw[j2,ct];exact Nat.le_refl _)) i7
end
end Go.Rn
namespace Go.Rn
open Go.RowKit
variable {ρ σ:Ren} {off:Nat} {cs:List AV} {x:AV} {w:World} {s:AS} {B:aI}
def AV.xR(x:AV):Bool:=match x with
 | .agg l=>l.all AV.flat
 | .tuple l=>l.all AV.flat
 |x=>x.flat
theorem ay.flat:∀{l:List AV} {vs:List Value},l.all AV.flat=true->ay ρ l vs->ay σ l vs
 |[],_,_,hv=>by simpa only[ay] using hv
 |y::l,vs,hy,hv=>by obtain⟨h1,h2⟩:=and_true.1 (show(y.flat&&l.all AV.flat)=true from hy);simp only[ay] at hv ⊢;obtain⟨a,as,e,h3,h4⟩:=hv;exact⟨a,as,e,VR.flat h1 h3,ay.flat h2 h4⟩
theorem VR.xR{v:Value}(h:x.xR=true)(k:VR ρ x v):VR σ x v:=by
 unfold AV.xR at h;split at h
 ·simp only[VR] at k ⊢;obtain⟨a,e,q⟩:=k;exact⟨a,e,ay.flat h q⟩
 ·simp only[VR] at k ⊢;obtain⟨a,e,q⟩:=k;exact⟨a,e,ay.flat h q⟩
 ·exact VR.flat h k
theorem acu{fG:Ren}{h h0:Tr ae}{j b:Nat}{c:Array Value}{e:TypeId}{fr:Nat×Nat}(R0:Rel (rB B ρ w) fG h0 w)(GI:∀n o,n<top->h0.get n=some o->o.mL=true)(jf:fG (hn j b off)=none)(hF:B.F j=some cs)(hb:w.heap[b]? =some (.cells c e fr))(qM:∀i x,cs[i]? =some x->∃v,c[off+i]? =some v/\VR (gp fG) x v/\x.bR=true)(hold:∀k,ρ k≠none->eQ fG (hn j b off) (b,0) k≠none):
 Rel (rB B (eQ fG (hn j b off) (b,0)) w) (eQ fG (hn j b off) (b,0)) h0 w:=by
 have hl:fG.le<|eQ fG (hn j b off) (b,0):=om jf;have cO:∀k,k<top->eQ fG (hn j b off) (b,0) k=fG k:=fun k hk=>gK _ _ (by have:=gf j b off;omega);have Yj:∀x,j8 (eQ fG (hn j b off) (b,0)) h0 x:=fun x m o N hm hg hr=>by rw[ae.ki<|GI m o hm hg] at hr;cases hr
 refine⟨fun n o fw ho=>?_,fun n m o p b1 N M fw hm h1 h2 cS e1 e2=>?_,fun n m es ex left cur fw ho=>?_,R0.size,R0.lone,fun n x sh q=>?_,?_⟩
 ·obtain⟨b1,N,o',i1,i2,i3,i4⟩:=R0.is n o fw ho;exact⟨b1,N,o',hl _ _ i1,i2,i3.mono hl,i4⟩
 ·rw[cO n fw] at e1;rw[cO m hm] at e2;exact R0.one n m o p b1 N M fw hm h1 h2 cS e1 e2
 ·have:=GI n _ fw ho;cases this
 ·by_cases z:hn n x sh=hn j b off
  ·obtain⟨rfl,rfl,rfl⟩:=I9 z;refine⟨.inl q,cs,c,e,fr,hF,hb,Yj _,fun i y hy=>?_⟩;obtain⟨v,k1,k2,k3⟩:=qM i y hy;exact⟨v,k1,VR.mono (Fe hl) _ _ k2,k3⟩
  ·have q':fG (hn n x sh)≠none:=by rw[gK _ _ z] at q;exact q
   obtain⟨_,l,c1,e1,aO,g1,g2,_,g4⟩:=R0.fz n x sh q';refine⟨.inl q,l,c1,e1,aO,g1,g2,Yj _,fun i y hy=>?_⟩;obtain⟨v,k1,k2,k3⟩:=g4 i y hy;exact⟨v,k1,VR.mono (Fe hl) _ _ k2,k3⟩
 ·refine uf.no (fun n k v fw hg=>by have:=GI n _ fw hg;cases this) ⟨R0.tk.1.1,fun m o hm hg hf=>?_⟩;obtain⟨b1,N,e1,e2⟩:=R0.tk.1.2 m o hm hg hf;exact⟨b1,N,hl _ _ e1,e2⟩
noncomputable section
def Gd(len:Nat):bZ->Bool
 | .known c=>Nat.ble len c
 | .aq _ _=>true
 | .lost=>false
def vU(J:Nat)(ns:List Nat)(h0:Tr ae)(val:List AV->Option AV):aJ->List AV->M AV:=fun _ args=>match args with
  | [a,.slice (some (n,off)) len cap,b]=>aF (a.hi&&(b.hi&&Gd len cap)) <| (fI J h0 ns).bind fun _=>(bu n).bind fun o=>aA (cellsOf (some o) off len) fun cs=>aF (cs.all AV.gh&&Nat.blt n top) <|
    aA (val [a,.U (nm cs) 0 len,b]) fun v=>aF v.xR <| M.pure v
  |_=>fail
end
theorem YQ.vU(J:Nat)(ns:List Nat)(h0:Tr ae)(val:List AV->Option AV)(YR:aJ)(args:List AV):YQ<|vU J ns h0 val YR args:=by
 unfold Rn.vU;split
 ·exact YQ.aF fun _=>YQ.bind (YQ.fI J h0 ns) fun _=>YQ.bind (YQ.bu _) fun _=>YQ.aA fun _ _=>YQ.aF fun _=>YQ.aA fun _ _=>YQ.aF fun _=>YQ.pure _
 ·exact YQ.fail
theorem ZH{o:ae}{k:Nat}(h:cellsOf (some o) off k=some cs):∃m t z,o= .cells m t z/\off+k<=m/\lS t z k off=some cs:=by
 unfold cellsOf at h;split at h
 ·rename_i m t z e;injection e with e
  split at h
  ·rename_i q;exact⟨m,t,z,e,aK.1 q,h⟩
  ·cases h
 ·cases h
theorem ad2{P:Program}{f J:Nat}{ns:List Nat}{h0:Tr ae}{val:List AV->Option AV}{fn:Func}{body:Code}{s1:AS}(hP:bS P)(cm:P.funcs[f]? =some fn)(cw:fn.body=some body)(dF:(fn.name == "runtime.NumGoroutine")=false)(hFU:B.F=FU)(ga:fL<=J)(dM:J<=top)(dL:∀n o,n<top->h0.get n=some o->n∈ns)(eC:∀n∈ns,n<J)(eV:∀args v,val args=some v->max fn.ntmps args.length<=top/\∀B':aI,B'.F=B.F->B'.inv=B.inv->au P B' J (Fin P fn.results.toList fun y _=>y=v) ⟨f,dc args,max fn.ntmps args.length,[.code body],[],none⟩ ⟨h0,J,0,[],[]⟩){YR:aJ}{args:List AV}{vs:Array Value}(r:Rel B ρ s.h w)(hg:gD ρ)(h:vU J ns h0 val YR args s= .ok x s1)(hv:ay ρ args vs.toList):jk P ((callFunc f vs).run P w)<|km B ρ s s1 w x:=by
 unfold vU at h;split at h
 case h_2=>cases h
 rename_i a n off len cap a2;obtain⟨gI,h1⟩:=cX h;obtain⟨ha,yo⟩:=and_true.1 gI;obtain⟨hb,Ka⟩:=and_true.1 yo;obtain⟨u,s2,h2,h3⟩:=M.aN h1;obtain⟨o,s3,h4,h5⟩:=M.aN h3;obtain⟨cs,h6,h7⟩:=bw h5;obtain⟨hcd,h8⟩:=cX h7;obtain⟨Yl,iX⟩:=and_true.1 hcd;have iX:n<top:=(blt_eq _ _).mp iX;obtain⟨v,h9,gG⟩:=bw h8;obtain⟨yq,uo⟩:=cX gG;obtain⟨rfl,rfl⟩:=bB uo;obtain⟨a1,a2',a3⟩:=uI h2;obtain⟨b1,b2,b3,b4⟩:=fX h4;obtain⟨m,t,z,rfl,c1,c2⟩:=ZH h6;have iS:s.h.get n=some (.cells m t z):=by rw[←a1];exact b2
 obtain⟨bb,N,o',d1,d2,d3,_⟩:=r.is n _ iX iS;have Ym:=d3;simp only[OR] at Ym;obtain⟨c,e,rfl,_,d4,d5⟩:=Ym;obtain⟨g1,g2⟩:=HB c2;have Yn:∀n∈ns,∃o p,s.h.get n=some o/\h0.get n=some p/\ou J o p=true:=fun n hn=>by obtain⟨_,o,p,h⟩:=a3 n hn;exact⟨o,p,h⟩
 have R0:=Dy dM r dL eC Yn;have GI:∀n o,n<top->h0.get n=some o->o.mL=true:=fun n o hn ho=>by obtain⟨p1,p2,_,c3,c4⟩:=Yn n<|dL n o hn ho;rw[ho] at c3;cases c3;unfold ou at c4;split at c4<;>first|rfl|cases c4
 have afC:ρ (hn (nm cs) bb off)=none:=Classical.byContradiction fun q=>by obtain⟨_,_,_,_,_,_,_,z3,_⟩:=r.fz _ _ _ q;exact z3 n _ N iX iS rfl d1
 have jf:gj J ρ (hn (nm cs) bb off)=none:=by rw[sR dM<|gf _ _ _];exact afC
 have R1:=acu (B:=B) (ρ:=gj J ρ) (fG:=gj J ρ) (j:=nm cs) (b:=bb) (off:=off) (cs:=cs) (c:=c) (e:=e) (fr:=(0,0)) (h:=s.h) (h0:=h0) (w:=w) ⟨R0.is,R0.one,R0.iter,R0.size,R0.lone,fun n x sh q=>by
  obtain⟨_,g⟩:=R0.fz n x sh q;exact⟨.inl q,g⟩,R0.tk⟩ GI jf (by rw[hFU];exact Dx Yl) d2 (fun i x hx=>by
  have hi:i<len:=by rw[←g1];exact(List.getElem?_eq_some_iff.1 hx).1
  obtain⟨x',v',k1,k2,k3,k4⟩:=d5 (off+i) aj;rw[g2 i hi,hx] at k1;injection k1 with k1;subst k1
  have hxc:x.gh=true:=List.all_eq_true.1 Yl x<|List.mem_of_getElem? hx;refine⟨v',k3,AV.u7 (fun k y hk q=>?_) (CL hxc) k4,k2⟩;unfold gp;rw[if_pos hk,sR dM hk];exact q) (fun k q=>by
  unfold eQ;split
  ·exact fun q=>by cases q
  ·exact q)
 obtain⟨q1,q2⟩:=eV _ _ h9;have fi:bC (⟨h0,J,0,[],[]⟩:AS):=⟨Nat.zero_le _,dM⟩;have z6:gD<|eQ (gj J ρ) (hn (nm cs) bb off) (bb,0):=fun g iE=>by obtain⟨N,e⟩:=hg g iE;exact⟨N,om jf _ _ (by unfold gj;rw[if_pos<|Nat.lt_of_lt_of_le iE ga];exact e)⟩
 have hi:jl ρ<|eQ (gj J ρ) (hn (nm cs) bb off) (bb,0):=fun k y hk e=>om jf _ _ (by rw[sR dM hk];exact e);have ks:ay (eQ (gj J ρ) (hn (nm cs) bb off) (bb,0)) [a,.U (nm cs) 0 len,a2] vs.toList:=by
  simp only[ay] at hv ⊢;obtain⟨v0,vr,e1,k1,v1,vr1,e2,k2,v2,vr2,e3,k3,k4⟩:=hv;refine⟨v0,vr,e1,AV.pB hi ha k1,v1,vr1,e2,?_,v2,vr2,e3,AV.pB hi hb k3,k4⟩;have ax:qw (eQ (gj J ρ) (hn (nm cs) bb off) (bb,0)) (nm cs) bb off:=.inr ⟨cN _,by rw[iQ];exact fun q=>by cases q⟩;cases cap with
  |known cc=>simp only[VR] at k2 ⊢;obtain⟨b',N',e4,e5⟩:=k2;rw[d1] at e4;cases e4;exact .inr ⟨bb,off,cc,ax,e5,fun _=>⟨aK.1 Ka,(zj cs).1⟩⟩
  |aq lo ee=>simp only[VR] at k2 ⊢;obtain⟨b',N',cc,e4,e5,e6,e7,_⟩:=k2;rw[d1] at e4;cases e4;exact .inr ⟨bb,off,cc,ax,e5,fun _=>⟨e7,(zj cs).1⟩⟩
  |lost=>cases Ka
 have bH:=au.calls (B:=rB B (eQ (gj J ρ) (hn (nm cs) bb off) (bb,0)) w) (s:=⟨h0,J,0,[],[]⟩) (args:=[a,.U (nm cs) 0 len,a2]) (vs:=vs) hP cm cw q1 (q2 _ rfl rfl) fi R1 z6 (fun k k1 k2=>by have k1:J<=k:=k1;rw[gK _ _ (by have:=gf (nm cs) bb off;omega)];unfold gj gp;rw[if_neg aj,if_neg aj]) ks;rw[sB cm cw dF];show Calls P f vs w _;refine bH.mono fun e w'=>?_;rintro ⟨y,x',s4,rfl,rfl,_,_,σ,e1,e2,e3,e4⟩;have gr:gP w w':=⟨e4.os,e4.tape,e4.output,e4.size,fun k hk=>e4.block k hk (by show ¬(w.heap.size<=k);omega)⟩;exact⟨y,rfl,ρ,by rw[b4,a2'];exact Ext.refl _ _ _,VR.xR yq e2,by rw[b3,a1];exact r.Bu gr,gr.below r.size⟩
section
variable {X:TX} {P:Program} {J:Nat} {ns:List Nat} {h0:Tr ae} {kn:List<|Nat×Option ae} {L L':bO} {g k:Nat} {fn:Func} {body:Code}
theorem ad3(hP:bS P)(ga:fL<=J)(dM:J<=top)(dL:∀n o,n<top->h0.get n=some o->n∈ns)(eC:∀n∈ns,n<J){val:List AV->Option AV}(h:dT X J P<|dt J ns h0 L)(h':dT X J P<|dt J ns h0 L')(cm:P.funcs[g]? =some fn)(cw:fn.body=some body)(dF:(fn.name == "runtime.NumGoroutine")=false)(eV:∀args v,val args=some v->max fn.ntmps args.length<=top/\∀B:aI,qE X P J ns h0 L' B->
 au P B J (Fin P fn.results.toList fun y _=>y=v) ⟨g,dc args,max fn.ntmps args.length,[.code body],[],none⟩ ⟨h0,J,0,[],[]⟩):dT X J P<|dt J ns h0<|(g,.raw fun a b c=>vU a b c val)::L:=by
 refine(show dT X J P (oQ (dt J ns h0 L) g<|vU J ns h0 val) from h.my (fun YR _ args=>YQ.vU _ _ _ _ YR args) fun B hB hT YR hc hl args x s s1 ρ w vs fi r hg hf hm hv=>?_);refine ad2 hP cm cw dF hB ga dM dL eC (fun args v e=>?_) r hg hm hv;obtain⟨q1,q2⟩:=eV args v e;exact⟨q1,fun B' lJ lK=>q2 B'<|qF hP h' (lJ.trans hB)<|lK.trans hT⟩
end
theorem acv{P:Program}{F:Nat->Option (List AV)}{sp:Sp}{g n J:Nat}{h0:Tr ae}{ns:List Nat}{val:List AV->Option AV}(h:sp g=some (vU J ns h0 val)){a b:AV}{m len:Nat}{cap:bZ}{v:AV}(h1:(a.hi&&(b.hi&&Gd len cap))=true)(hk:pM J h0 ns s=true)(hm:Nat.blt m (dC J h0 ns s).nx=true)(ht:Nat.blt m top=true)(h2:cellsOf ((dC J h0 ns s).h.get m) off len=some cs)(h3:cs.all AV.gh=true)(h4:val [a,.U (nm cs) 0 len,b]=some v)(h5:v.xR=true):
 aZ P sp F (n+1) (.fn g) [a,.slice (some (m,off)) len cap,b] s= .ok v (aV m<|dC J h0 ns s):=by
 show jK P sp g (aZ P sp F n) [a,.slice (some (m,off)) len cap,b] s=_;rw[rp h];cases q:(dC J h0 ns s).h.get m with
 |none=>rw[q] at h2;cases h2
 |some o=>rw[q] at h2;show(aF (a.hi&&(b.hi&&Gd len cap)) <| (fI J h0 ns).bind fun _=>(bu m).bind fun o=>aA (cellsOf (some o) off len) fun cs=>aF (cs.all AV.gh&&Nat.blt m top) <| aA (val [a,.U (nm cs) 0 len,b]) fun v=>aF v.xR <| M.pure v) s=_;rw[h1,dA,M.bL<|xp hk,M.bL<|lR hm q,h2,bV,h3,ht];show(aF true <| aA (val [a,.U (nm cs) 0 len,b]) fun v=>aF v.xR <| M.pure v) _=_;rw[dA,h4,bV,h5,dA];rfl
end Go.Rn
namespace Go.Rn
open Go.RowKit
variable {r2 r1 N n:Nat} {ρ σ:Ren} {o':Obj} {cs a rest b:List AV} {y v:AV} {sp:Sp} {s:AS} {o:ae} {F:Nat->Option (List AV)}
noncomputable def bT(cs:List AV):ae:=.cells cs.length (Tr.fill cs 0 .nil) []
theorem acw(ha:a.length<=top)(hb:b.length<=top)(h:bT a=bT b):a=b:=by
 unfold bT at h;injection h with h1 h2 _
 refine List.ext_getElem? fun i=>?_;by_cases q:i<a.length
 ·have e1:=yJ ha q;have e2:=yJ hb (show i<b.length by omega);rw[←e1, ←e2,h2]
 ·rw[List.getElem?_eq_none aj,List.getElem?_eq_none aj]
open Classical in
noncomputable def rowOf(o:ae):Option<|List AV:=if h:∃cs,cs.length<=top/\o=bT cs then some h.choose else none
theorem H5(h:rowOf o=some cs):o=bT cs/\cs.length<=top:=by
 unfold rowOf at h;split at h
 ·rename_i q;injection h with h;rw[←h];exact⟨q.choose_spec.2,q.choose_spec.1⟩
 ·cases h
theorem H6(h:cs.length<=top):rowOf (bT cs)=some cs:=by unfold rowOf;have q:∃wz,wz.length<=top/\bT cs=bT wz:=⟨cs,h,rfl⟩;rw[dif_pos q];exact congrArg some (acw h q.choose_spec.1 q.choose_spec.2).symm
structure RS where
 pre:List AV
 len:Nat
 cap:bZ
 post:List AV
def dQ(R:RS)(r1 r2:Nat):List AV:=R.pre++(.ptr (some (r1,0)):: .slice (some (r2,0)) R.len R.cap::R.post)
def rootOf(kp:Nat)(cs:List AV):Option<|RS×Nat×Nat:=match cs.drop kp with
 | .ptr (some (r1,0)):: .slice (some (r2,0)) len cap::post=>some (⟨cs.take kp,len,cap,post⟩,r1,r2)
 |_=>none
theorem R7{R:RS}{kp:Nat}(h:R.pre.length=kp):rootOf kp (dQ R r1 r2)=some (R,r1,r2):=by subst h;unfold rootOf dQ;rw[List.drop_left,List.take_left];rfl
theorem SD{kp:Nat}{q:RS×Nat×Nat}(h:rootOf kp cs=some q):cs=dQ q.1 q.2.1 q.2.2:=by
 unfold rootOf at h;split at h
 ·rename_i e;injection h with h;subst h
  unfold dQ;rw[←e,List.take_append_drop]
 ·cases h
structure VS where
 R:RS
 u:AV
 row:List AV
def xS(k:Nat)(o:ae):Option AV:=match o with
 | .tok k' v=>(match Nat.beq k k' with|true=>some v|false=>none)
 |_=>none
theorem MS{k:Nat}(h:xS k o=some v):o= .tok k v:=by
 unfold xS at h;split at h
 ·split at h
  ·rename_i q;injection h with h;rw[h,Nat.eq_of_beq_eq_true q]
  ·cases h
 ·cases h
theorem MT{k:Nat}:xS k (.tok k v)=some v:=by show(match Nat.beq k k with|true=>some v|false=>none)=some v;rw[eA.2 rfl]
def su(R:RS):Bool:=R.pre.all AV.cP&&R.post.all AV.cP
def bE(kp:Nat)(st:VS):Bool:=su st.R&&(st.row.all AV.cP&&(Nat.ble (dQ st.R 0 0).length top&&Nat.ble st.row.length top))
noncomputable section
def nf(kp k:Nat)(val:VS->List AV->Option (AV×VS))(J:Nat)(ns:List Nat)(h0:Tr ae):aJ->List AV->M AV:=fun _ args=>match args with
 | .ptr (some (n,0))::rest=>aF (rest.all AV.hi) <| (fI J h0 ns).bind fun _=>(bu n).bind fun o=>aA (rowOf o) fun cs=>aA (rootOf kp cs) fun q=>(bu q.2.1).bind fun o1=>aA (xS k o1) fun u=>(bu q.2.2).bind fun o2=>aA (rowOf o2) fun row=>
  aF (su q.1&&row.all AV.cP) <| aF (!Nat.beq n q.2.1&&(!Nat.beq n q.2.2&& !Nat.beq q.2.1 q.2.2)) <| aA (val ⟨q.1,u,row⟩ rest) fun p=>aF (p.1.hi&&bE kp p.2) <|
  (bK n<|some<|bT<|dQ p.2.R q.2.1 q.2.2).bind fun _=>(ll q.2.1<|some<|.tok k p.2.u).bind fun _=>(bK q.2.2<|some<|bT p.2.row).bind fun _=>M.pure p.1
 |_=>fail
def dD(J k:Nat)(st:VS):List<|Nat×ae:=[(J,bT<|dQ st.R (J+1)<|J+2),(J+1,.tok k st.u),(J+2,bT st.row)]
end
theorem YQ.nf(kp k:Nat)(val:VS->List AV->Option (AV×VS))(J:Nat)(ns:List Nat)(h0:Tr ae)(YR:aJ)(args:List AV):YQ<|nf kp k val J ns h0 YR args:=by
 unfold Rn.nf;split
 ·exact YQ.aF fun _=>YQ.bind (YQ.fI J h0 ns) fun _=>YQ.bind (YQ.bu _) fun _=>YQ.aA fun _ _=>YQ.aA fun _ _=>YQ.bind (YQ.bu _) fun _=>YQ.aA fun _ _=>YQ.bind (YQ.bu _) fun _=>YQ.aA fun _ _=>YQ.aF fun _=>YQ.aF fun _=>YQ.aA fun _ _=>YQ.aF fun _=>YQ.bind (YQ.bK _ _) fun _=>YQ.bind (YQ.ll _ _) fun _=>YQ.bind (YQ.bK _ _) fun _=>YQ.pure _
 ·exact YQ.fail
def gX(J k:Nat)(P:Program)(rs:List ResultVar)(y:AV)(st:VS):=Fin P rs fun y1 s'=>y1=y/\∀m o,(m,o)∈dD J k st->s'.h.get m=some o
theorem U1(ha:a.length<=top)(hb:b.length<=top)(hl:b.length=a.length)(hc:∀(i:Nat) (x y:AV),a[i]? =some x->b[i]? =some y->(x.bR=true->y.bR=true)/\∀v,VR ρ x v->VR σ y v)(h:OR ρ N (bT a) o'):OR σ N (bT b) o':=by unfold bT at h ⊢;simp only[OR] at h ⊢;obtain⟨c,e,rfl,h1,h2,h3⟩:=h;refine⟨c,e,rfl,h1,by omega,fun i hi=>?_⟩;obtain⟨x,v,k1,k2,k3,k4⟩:=h3 i aj;rw[yJ ha aj] at k1;have fm:b[i]? =some (b[i]'hi):=List.getElem?_eq_getElem hi;obtain⟨q1,q2⟩:=hc i x _ k1 fm;exact⟨_,v,by rw[yJ hb hi];exact fm,q1 k2,k3,q2 v k4⟩
theorem Ge(jv:jl ρ σ)(ha:a.length<=top)(hh:a.all AV.cP=true)(h:OR ρ N (bT a) o'):OR σ N (bT a) o':=U1 ha ha rfl (fun i x y e1 e2=>by rw[e1] at e2;cases e2;exact⟨id,fun v k=>AV.u7 jv (List.all_eq_true.1 hh x<|List.mem_of_getElem? e1) k⟩) h
theorem Av{R:RS}{r3 r4:Nat}:(dQ R r1 r2).length=(dQ R r3 r4).length:=by unfold dQ;simp only[List.length_append,List.length_cons]
theorem IT{R:RS}{s1 s2:Nat}(jv:jl ρ σ)(hl:(dQ R r1 r2).length<=top)(hR:su R=true)(e1:∀x,ρ r1=some x->σ s1=some x)(e2:∀x,ρ r2=some x->σ s2=some x)(h:OR ρ N (bT<|dQ R r1 r2) o'):OR σ N (bT<|dQ R s1 s2) o':=by
 obtain⟨hp,hq⟩:=and_true.1 hR;refine U1 hl (by rw[Av (r3:=r1) (r4:=r2)];exact hl) Av (fun i x y k1 k2=>?_) h;unfold dQ at k1 k2;by_cases c1:i<R.pre.length
 ·rw[List.getElem?_append_left c1] at k1 k2;rw[k1] at k2;cases k2;exact⟨id,fun v k=>AV.u7 jv (List.all_eq_true.1 hp x<|List.mem_of_getElem? k1) k⟩
 ·rw[List.getElem?_append_right aj] at k1 k2;generalize i - R.pre.length=j at k1 k2
  match j with
  |0=>simp only[List.getElem?_cons_zero,Option.some.injEq] at k1 k2;subst k1;subst k2;refine⟨fun _=>rfl,fun v k=>?_⟩;simp only[VR] at k ⊢;obtain⟨b,N,a1,a2⟩:=k;exact⟨b,N,e1 _ a1,a2⟩
  |1=>
   simp only[List.getElem?_cons_succ,List.getElem?_cons_zero,Option.some.injEq] at k1 k2;subst k1;subst k2;refine⟨fun _=>rfl,fun v k=>?_⟩;generalize R.cap=cp at k ⊢;cases cp<;>simp only[VR] at k ⊢
   ·obtain⟨b,N,a1,a2⟩:=k;exact⟨b,N,e2 _ a1,a2⟩
   ·obtain⟨b,N,c,a1,a2⟩:=k;exact⟨b,N,c,e2 _ a1,a2⟩
   ·obtain⟨l,b,N,p,c,a1,a2⟩:=k;exact⟨l,b,N,p,c,e2 _ a1,a2⟩
  |j+2=>simp only[List.getElem?_cons_succ] at k1 k2;rw[k1] at k2;cases k2;exact⟨id,fun v k=>AV.u7 jv (List.all_eq_true.1 hq x<|List.mem_of_getElem? k1) k⟩
theorem abi{P:Program}{B:aI}{f J kp k:Nat}{ns:List Nat}{h0:Tr ae}{kn:List<|Nat×Option ae}{val:VS->List AV->Option (AV×VS)}{fn:Func}{body:Code}{w:World}{s1:AS}(hP:bS P)(cm:P.funcs[f]? =some fn)(cw:fn.body=some body)(dF:(fn.name == "runtime.NumGoroutine")=false)(ga:fL<=J)(dM:J+3<=top)(dL:∀n o,n<top->h0.get n=some o->n∈ns)(eC:∀n∈ns,n<J)(jt:∀n o,(n,some o)∈kn->h0.get n=some o)(jw:∀p∈kn,p.1<top)(eV:∀st rest y aW,val st rest=some (y,aW)->max fn.ntmps (rest.length+1)<=top/\∀B':aI,B'.F=B.F->B'.inv=B.inv->
 au P B' (J+3) (gX J k P fn.results.toList y aW) ⟨f,dc<|.ptr (some (J,0))::rest,max fn.ntmps<|rest.length+1,[.code body],[],none⟩ ⟨fU<|kn++aY (dD J k st),J+3,0,[],[]⟩){YR:aJ}{args:List AV}{x:AV}{vs:Array Value}(r:Rel B ρ s.h w)(hg:gD ρ)(h:nf kp k val J ns h0 YR args s= .ok x s1)(hv:ay ρ args vs.toList):jk P ((callFunc f vs).run P w)<|km B ρ s s1 w x:=by
 unfold nf at h;split at h
 case h_2=>cases h
 rename_i n rest;obtain⟨gI,h⟩:=cX h;obtain⟨u,s2,h2,h⟩:=M.aN h;obtain⟨a1,a2,a3⟩:=uI h2;obtain⟨o,s3,k1,h⟩:=M.aN h;obtain⟨cs,m1,h⟩:=bw h;obtain⟨q,m2,h⟩:=bw h;obtain⟨o1,s4,k2,h⟩:=M.aN h;obtain⟨tv,m3,h⟩:=bw h;obtain⟨o2,s5,k3,h⟩:=M.aN h;obtain⟨row,m4,h⟩:=bw h;obtain⟨fP,h⟩:=cX h;obtain⟨GJ,eU⟩:=and_true.1 fP;obtain⟨ch,h⟩:=cX h;obtain⟨p,hp,h⟩:=bw h;obtain⟨lE,h⟩:=cX h;obtain⟨QU,hS⟩:=and_true.1 lE;obtain⟨hSR,hS⟩:=and_true.1 hS;obtain⟨ahe,hS⟩:=and_true.1 hS;obtain⟨hSl,aiC⟩:=and_true.1 hS;obtain⟨_,t1,w1,h⟩:=M.aN h;obtain⟨_,t2,w2,h⟩:=M.aN h;obtain⟨_,t3,w3,h⟩:=M.aN h;obtain⟨rfl,rfl⟩:=bB h;obtain⟨R,n1,n2⟩:=q;obtain⟨y,aW⟩:=p;have DW:n≠n1/\n≠n2/\n1≠n2:=by
  obtain⟨c1,c2⟩:=and_true.1 ch;obtain⟨c2,c3⟩:=and_true.1 c2;refine⟨fun e=>?_,fun e=>?_,fun e=>?_⟩<;>subst e
  ·rw[eA.2 rfl] at c1;cases c1
  ·rw[eA.2 rfl] at c2;cases c2
  ·rw[show Nat.beq n1 n1=true from eA.2 rfl] at c3;cases c3
 obtain⟨d1,d2,d3⟩:=DW;obtain⟨rfl,oZ⟩:=H5 m1;have qM:=SD m2;subst qM;have Hh:=MS m3;subst Hh;obtain⟨rfl,Hi⟩:=H5 m4;obtain⟨b1,b2,b3,b4⟩:=fX k1;obtain⟨b5,b6,b7,b8⟩:=fX k2;obtain⟨b9,QV,QW,QX⟩:=fX k3;obtain⟨x1,x2,_,x4,x5⟩:=jB w1;obtain⟨y1,y2,y3,y4⟩:=TU w2;obtain⟨z1,z2,_,z4,z5⟩:=jB w3;have g1:s.h.get n=some (bT<|dQ R n1 n2):=by rw[←a1];exact b2
 have g2:s.h.get n1=some (.tok k tv):=by rw[←a1, ←b3];exact b6
 have g3:s.h.get n2=some (bT row):=by rw[←a1, ←b3, ←b7];exact QV
 let V:Vw:=[(J,n,bT<|dQ R (J+1)<|J+2),(J+1,n1,.tok k tv),(J+2,n2,bT row)];have mem:∀q∈V,q=(J,n,bT<|dQ R (J+1)<|J+2)\/q=(J+1,n1,.tok k tv)\/q=(J+2,n2,bT row):=fun q hq=>by simpa[V] using hq
 have V0:(J,n,bT<|dQ R (J+1)<|J+2)∈V:=by simp[V]
 have V1:(J+1,n1,ae.tok k tv)∈V:=by simp[V]
 have V2:(J+2,n2,bT row)∈V:=by simp[V]
 have e0:eW J ρ V J=ρ n:=by
  unfold eW;rw[if_neg aj,if_neg aj];have:gL V J=some n:=by simp[gL,V]
  rw[this]
 have e1:eW J ρ V (J+1)=ρ n1:=by
  unfold eW;rw[if_neg aj,if_neg aj];have:gL V (J+1)=some n1:=by simp[gL,V]
  rw[this]
 have e2:eW J ρ V (J+2)=ρ n2:=by
  unfold eW;rw[if_neg aj,if_neg aj];have:gL V (J+2)=some n2:=by simp[gL,V]
  rw[this]
 have hi:jl ρ<|eW J ρ V:=fun m x hm e=>by rw[yT aj hm];exact e
 have hV:z7 J ρ s.h V:=by
  refine⟨fun q hq=>?_,fun q hq q' eg e=>?_,fun q hq q' eg e=>?_,fun q hq=>?_⟩
  ·rcases mem q hq with rfl|rfl|rfl
   ·exact⟨Nat.le_refl _,by show J<top;omega,x2⟩
   ·exact⟨by show J<=J+1;omega,by show J+1<top;omega,y2⟩
   ·exact⟨by show J<=J+2;omega,by show J+2<top;omega,z2⟩
  ·rcases mem q hq with rfl|rfl|rfl<;>rcases mem q' eg with rfl|rfl|rfl<;>first|rfl|(simp only at e;omega)
  ·rcases mem q hq with rfl|rfl|rfl<;>rcases mem q' eg with rfl|rfl|rfl<;>first|rfl|(exact absurd e<|by assumption)|(exact absurd e.symm<|by assumption)
  ·rcases mem q hq with rfl|rfl|rfl
   ·exact⟨_,g1,.inl ⟨rfl,rfl,fun N o' hO=>IT hi oZ GJ (fun x e=>e1.trans e) (fun x e=>e2.trans e) hO⟩⟩
   ·exact⟨_,g2,.inr ⟨k,tv,rfl,rfl⟩⟩
   ·exact⟨_,g3,.inl ⟨rfl,rfl,fun N o' hO=>Ge hi Hi eU hO⟩⟩
 obtain⟨_,cW,T⟩:=r.tk;have T:DV B ρ s.h w cW:=T;have nK:=JW aj r T dL eC jt jw (fun n hn=>by obtain⟨_,o,p,h⟩:=a3 n hn;exact⟨o,p,h⟩) hV;obtain⟨q1,q2⟩:=eV _ _ _ _ hp;have fi:bC (⟨fU<|kn++aY (dD J k ⟨R,tv,row⟩),J+3,0,[],[]⟩:AS):=⟨Nat.zero_le _,dM⟩;have ks:ay (eW J ρ V) (.ptr (some (J,0))::rest) vs.toList:=by simp only[ay,VR] at hv ⊢;obtain⟨v0,vr,q1,⟨b',N',q2,q3⟩,q4⟩:=hv;exact⟨v0,vr,q1,⟨b',N',e0.trans q2,q3⟩,AV.Ba hi gI q4⟩
 have bH:=au.FK (B:=tE B ρ w<|wH ρ cW V) (s:=⟨fU<|kn++aY (dD J k ⟨R,tv,row⟩),J+3,0,[],[]⟩) (args:=.ptr (some (J,0))::rest) (vs:=vs) hP cm cw q1 (q2 _ rfl rfl) fi nK (fun g iE=>by
  obtain⟨N,e⟩:=hg g iE;exact⟨N,by rw[CU<|Nat.lt_of_lt_of_le iE ga];exact e⟩) (fun m hm kg=>by
  have hm:J+3<=m:=hm;exact HX aj kg fun q hq=>by rcases mem q hq with rfl|rfl|rfl<;>(show _≠m;simp only;omega)) ks
 rw[sB cm cw dF];show Calls P f vs w _;refine bH.mono fun e w'=>?_;rintro ⟨Ce,x',s7,rfl,⟨rfl,hL⟩,_,σ,i0,Cf,i1,i2,i3⟩;have sV:∀q∈V,σ q.1=ρ q.2.1:=fun q hq=>by
  rcases mem q hq with rfl|rfl|rfl
  ·exact(i0 J aj aj).trans e0
  ·exact(i0 (J+1) aj aj).trans e1
  ·exact(i0 (J+2) aj aj).trans e2
 have j1:=hL J _ (by simp[dD];rfl);have j2:=hL (J+1) (.tok k aW.u) (by simp[dD]);have j3:=hL (J+2) (bT aW.row) (by simp[dD]);have ku:(dQ aW.R (J+1)<|J+2).length<=top:=by rw[Av (r3:=0) (r4:=0)];exact aK.1 hSl
 have Gf:∀k,k<top->cF ρ σ k=ρ k:=fun k hk=>by unfold cF;rw[if_neg aj]
 have qR:jl σ<|cF ρ σ:=fun k x hk e=>by unfold cF;rw[if_pos hk];exact e
 obtain⟨f1,f2,f3,f4⟩:=Ji (a:=s.nx) (L2:=[(n,bT<|dQ aW.R n1 n2),(n1,.tok k aW.u),(n2,bT aW.row)]) (h':=s1.h) r T hV i2 i3 sV (fun m z hm q=>Cf m z hm<|hi m z hm q) (fun m q hm=>by
  rcases List.mem_cons.1 hm with hm|hm
  ·cases hm;exact⟨_,V0,rfl,_,j1,.inl ⟨rfl,rfl,fun N o' hO=>IT qR ku hSR (fun x e=>by rw[Gf _ y2, ←sV _ V1];exact e) (fun x e=>by rw[Gf _ z2, ←sV _ V2];exact e) hO⟩⟩
  rcases List.mem_cons.1 hm with hm|hm
  ·cases hm;exact⟨_,V1,rfl,_,j2,.inr ⟨k,_,tv,rfl,rfl,rfl⟩⟩
  rcases List.mem_cons.1 hm with hm|hm
  ·cases hm;exact⟨_,V2,rfl,_,j3,.inl ⟨rfl,rfl,fun N o' hO=>Ge qR (aK.1 aiC) ahe hO⟩⟩
  cases hm) (fun q hq cr=>by
  rcases mem q hq with rfl|rfl|rfl
  ·exact⟨_,j1,rfl⟩
  ·cases cr
  ·exact⟨_,j3,rfl⟩) (fun m hm=>by
  have G9:s1.h=((s.h.put n<|some<|bT<|dQ aW.R n1 n2).put n1<|some<|.tok k aW.u).put n2 (some<|bT aW.row):=by rw[z4,y3,x4,QW,b7,b3,a1]
  rw[G9,Tr.di _ _ _ _ z2 hm,Tr.di _ _ _ _ y2 hm,Tr.di _ _ _ _ x2 hm];by_cases c3:m=n2
  ·subst c3;exact .inl ⟨_,by simp,if_pos rfl⟩
  rw[if_neg c3];by_cases c2:m=n1
  ·subst c2;exact .inl ⟨_,by simp,if_pos rfl⟩
  rw[if_neg c2];by_cases c1:m=n
  ·subst c1;exact .inl ⟨_,by simp,if_pos rfl⟩
  rw[if_neg c1];exact .inr ⟨fun q hq=>by rcases mem q hq with rfl|rfl|rfl<;>(intro e;exact absurd e.symm<|by assumption),rfl⟩)
 refine⟨Ce,rfl,cF ρ σ,?_,AV.pB qR QU i1,f3,f4⟩;have ct:s1.nx=s.nx:=by rw[z5,y4,x5,QX,b8,b4,a2]
 rw[ct];exact f1
section
variable {X:TX} {P:Program} {J kp k:Nat} {ns:List Nat} {h0:Tr ae} {kn:List<|Nat×Option ae} {L L':bO} {g:Nat} {fn:Func} {body:Code}
theorem Iu(hP:bS P)(ga:fL<=J)(dM:J+3<=top)(dL:∀n o,n<top->h0.get n=some o->n∈ns)(eC:∀n∈ns,n<J)(jt:∀n o,(n,some o)∈kn->h0.get n=some o)(jw:∀p∈kn,p.1<top){val:VS->List AV->Option (AV×VS)}(h:dT X J P<|dt J ns h0 L)(h':dT X J P<|dt J ns h0 L')(cm:P.funcs[g]? =some fn)(cw:fn.body=some body)(dF:(fn.name == "runtime.NumGoroutine")=false)(eV:∀st rest y aW,val st rest=some (y,aW)->max fn.ntmps (rest.length+1)<=top/\∀B:aI,qE X P J ns h0 L' B->
 au P B (J+3) (gX J k P fn.results.toList y aW) ⟨g,dc<|.ptr (some (J,0))::rest,max fn.ntmps<|rest.length+1,[.code body],[],none⟩ ⟨fU<|kn++aY (dD J k st),J+3,0,[],[]⟩):dT X J P<|dt J ns h0<|(g,.raw<|nf kp k val)::L:=by
 refine(show dT X J P (oQ (dt J ns h0 L) g<|nf kp k val J ns h0) from h.my (fun YR _ args=>YQ.nf _ _ _ _ _ _ YR args) fun B hB hT YR hc hl args x s s1 ρ w vs fi r hg hf hm hv=>?_);refine abi hP cm cw dF ga dM dL eC jt jw (fun st rest y aW e=>?_) r hg hm hv;obtain⟨q1,q2⟩:=eV st rest y aW e;exact⟨q1,fun B' lJ lK=>q2 B'<|qF hP h' (lJ.trans hB)<|lK.trans hT⟩
end
theorem Gg(n:Nat)(o:Option ae)(s:AS):(fp n o s).nx=s.nx/\(fp n o s).h=s.h.put n o:=by unfold fp;cases Nat.blt n s.mark<;>exact⟨rfl,rfl⟩
theorem abj{P:Program}{g J kp k:Nat}{h0:Tr ae}{ns:List Nat}{val:VS->List AV->Option (AV×VS)}(h:sp g=some (nf kp k val J ns h0)){a:Nat}{st aW:VS}(hk:pM J h0 ns s=true)(hr:rest.all AV.hi=true)(hd:(!Nat.beq a r1&&(!Nat.beq a r2&& !Nat.beq r1 r2))=true)(hn:(Nat.blt a (dC J h0 ns s).nx&&(Nat.blt r1 (dC J h0 ns s).nx&&Nat.blt r2 (dC J h0 ns s).nx))=true)(ht:(Nat.blt a top&&(Nat.blt r1 top&&Nat.blt r2 top))=true)(g1:(dC J h0 ns s).h.get a=some (bT<|dQ st.R r1 r2))(g2:(dC J h0 ns s).h.get r1=some (.tok k st.u))(g3:(dC J h0 ns s).h.get r2=some (bT st.row))(Cn:st.R.pre.length=kp)(ho:bE kp st=true)(hv:val st rest=some (y,aW))(hy:y.hi=true)(kJ:bE kp aW=true):
 aZ P sp F (n+1) (.fn g) (.ptr (some (a,0))::rest) s= .ok y (fp r2 (some<|bT aW.row)<|fp r1 (some<|.tok k aW.u)<|fp a (some<|bT<|dQ aW.R r1 r2)<|aV r2<|aV r1<|aV a<|dC J h0 ns s):=by
 obtain⟨R,u,row⟩:=st;show jK P sp g (aZ P sp F n) (.ptr (some (a,0))::rest) s=_;rw[rp h];have BS:=ho;obtain⟨o1,ho⟩:=and_true.1 ho;obtain⟨o2,ho⟩:=and_true.1 ho;obtain⟨o3,o4⟩:=and_true.1 ho;obtain⟨n1,hn⟩:=and_true.1 hn;obtain⟨n2,n3⟩:=and_true.1 hn;obtain⟨t1,ht⟩:=and_true.1 ht;obtain⟨t2,t3⟩:=and_true.1 ht;have ch:a≠r1/\a≠r2/\r1≠r2:=by
  obtain⟨c1,c2⟩:=and_true.1 hd;obtain⟨c2,c3⟩:=and_true.1 c2;refine⟨fun e=>?_,fun e=>?_,fun e=>?_⟩<;>subst e
  ·rw[eA.2 rfl] at c1;cases c1
  ·rw[eA.2 rfl] at c2;cases c2
  ·rw[show Nat.beq r1 r1=true from eA.2 rfl] at c3;cases c3
 obtain⟨d1,d2,d3⟩:=ch;have ta:=(blt_eq _ _).mp t1;have tb:=(blt_eq _ _).mp t2;have tc:=(blt_eq _ _).mp t3;show(aF (rest.all AV.hi) <| (fI J h0 ns).bind fun _=>(bu a).bind fun o=>aA (rowOf o) fun cs=>aA (rootOf kp cs) fun q=>(bu q.2.1).bind fun o1=>aA (xS k o1) fun u=>(bu q.2.2).bind fun o2=>aA (rowOf o2) fun row=>
  aF (su q.1&&row.all AV.cP) <| aF (!Nat.beq a q.2.1&&(!Nat.beq a q.2.2&& !Nat.beq q.2.1 q.2.2)) <| aA (val ⟨q.1,u,row⟩ rest) fun p=>aF (p.1.hi&&bE kp p.2) <|
  (bK a<|some<|bT<|dQ p.2.R q.2.1 q.2.2).bind fun _=>(ll q.2.1<|some<|.tok k p.2.u).bind fun _=>(bK q.2.2<|some<|bT p.2.row).bind fun _=>M.pure p.1) s=_
 rw[hr,dA,M.bL<|xp hk,M.bL<|lR n1 g1];generalize dC J h0 ns s=z at*;rw[H6 (by rw[Av (r3:=0) (r4:=0)];exact aK.1 o3),bV,R7 Cn,bV];have QY:Nat.blt r1 (aV a z).nx=true:=by rw[(fN a z).2.1];exact n2
 have zR:(aV a z).h.get r1=some (.tok k u):=by rw[(fN a z).1];exact g2
 rw[M.bL<|lR QY zR,MT,bV];have QZ:Nat.blt r2 (aV r1<|aV a z).nx=true:=by rw[(fN r1 _).2.1,(fN a z).2.1];exact n3
 have Q0:(aV r1<|aV a z).h.get r2=some (bT row):=by rw[(fN r1 _).1,(fN a z).1];exact g3
 rw[M.bL<|lR QZ Q0,H6<|aK.1 o4,bV];show(aF (su R&&row.all AV.cP) <| aF (!Nat.beq a r1&&(!Nat.beq a r2&& !Nat.beq r1 r2)) <| aA (val ⟨R,u,row⟩ rest) fun p=>aF (p.1.hi&&bE kp p.2) <| (bK a<|some<|bT<|dQ p.2.R r1 r2).bind fun _=>(ll r1<|some<|.tok k p.2.u).bind fun _=>(bK r2<|some<|bT p.2.row).bind fun _=>M.pure p.1) (aV r2<|aV r1<|aV a z)=_;rw[show su R=true from o1,show row.all AV.cP=true from o2,hd,hv];show(aF true <| aF true <| aA (some (y,aW)) fun p=>aF (p.1.hi&&bE kp p.2) <| (bK a<|some<|bT<|dQ p.2.R r1 r2).bind fun _=>(ll r1<|some<|.tok k p.2.u).bind fun _=>(bK r2<|some<|bT p.2.row).bind fun _=>M.pure p.1) (aV r2<|aV r1<|aV a z)=_;rw[dA,dA,bV];show(aF (y.hi&&bE kp aW) <| (bK a<|some<|bT<|dQ aW.R r1 r2).bind fun _=>(ll r1<|some<|.tok k aW.u).bind fun _=>(bK r2<|some<|bT aW.row).bind fun _=>M.pure y) (aV r2<|aV r1<|aV a z)=_;rw[hy,kJ];show(aF true <| (bK a<|some<|bT<|dQ aW.R r1 r2).bind fun _=>(ll r1<|some<|.tok k aW.u).bind fun _=>(bK r2<|some<|bT aW.row).bind fun _=>M.pure y) (aV r2<|aV r1<|aV a z)=_;rw[dA];have zz:(aV r2<|aV r1<|aV a z).nx=z.nx/\(aV r2<|aV r1<|aV a z).h=z.h:=⟨by rw[(fN r2 _).2.1,(fN r1 _).2.1,(fN a z).2.1],by rw[(fN r2 _).1,(fN r1 _).1,(fN a z).1]⟩;generalize aV r2 (aV r1<|aV a z)=v at*;rw[M.bL<|wY (by rw[zz.1];exact n1) (by rw[zz.2];exact g1) rfl t1];have v1:(fp a (some<|bT<|dQ aW.R r1 r2) v).h.get r1=some (.tok k u):=by rw[(Gg _ _ _).2,Tr.di _ _ _ _ ta tb,if_neg<|Ne.symm d1,zz.2];exact g2
 have v2:(fp a (some<|bT<|dQ aW.R r1 r2) v).h.get r2=some (bT row):=by rw[(Gg _ _ _).2,Tr.di _ _ _ _ ta tc,if_neg<|Ne.symm d2,zz.2];exact g3
 have v3:(fp a (some<|bT<|dQ aW.R r1 r2) v).nx=z.nx:=by rw[(Gg _ _ _).1,zz.1]
 generalize fp a (some<|bT<|dQ aW.R r1 r2) v=v' at*;rw[M.bL<|NT (by rw[v3];exact n2) v1 rfl t2];rw[M.bL<|wY (by rw[(Gg _ _ _).1,v3];exact n3) (by rw[(Gg _ _ _).2,Tr.di _ _ _ _ tb tc,if_neg<|Ne.symm d3];exact v2) rfl t3];rfl
noncomputable section
def Gh(J:Nat)(h0:Tr ae)(ns:List Nat)(k a r1 r2:Nat)(st:VS)(s:AS):Prop:=pM J h0 ns s=true/\(Nat.blt a (dC J h0 ns s).nx&&(Nat.blt r1 (dC J h0 ns s).nx&&Nat.blt r2 (dC J h0 ns s).nx))=true/\(dC J h0 ns s).h.get a=some (bT<|dQ st.R r1 r2)/\(dC J h0 ns s).h.get r1=some (.tok k st.u)/\(dC J h0 ns s).h.get r2=some (bT st.row)
def J4(J:Nat)(h0:Tr ae)(ns:List Nat)(k a r1 r2:Nat)(aW:VS)(s:AS):AS:=fp r2 (some<|bT aW.row)<|fp r1 (some<|.tok k aW.u)<|fp a (some<|bT<|dQ aW.R r1 r2)<|aV r2<|aV r1<|aV a<|dC J h0 ns s
def Wu(J:Nat)(h0:Tr ae)(ns:List Nat)(a r1 r2:Nat)(s:AS):AS:=aV r2<|aV r1<|aV a<|dC J h0 ns s
end
theorem afD{a b c:ae}{T:Prop}(t:T):(true=true/\true=true/\some a=some a/\some b=some b/\some c=some c)/\T:=⟨⟨rfl,rfl,rfl,rfl,rfl⟩,t⟩
theorem Oa{P:Program}{g J kp k:Nat}{h0:Tr ae}{ns:List Nat}{val:VS->List AV->Option (AV×VS)}(h:sp g=some (nf kp k val J ns h0)){a:Nat}{st aW:VS}(hr:rest.all AV.hi=true)(hd:(!Nat.beq a r1&&(!Nat.beq a r2&& !Nat.beq r1 r2))=true)(ht:(Nat.blt a top&&(Nat.blt r1 top&&Nat.blt r2 top))=true)(Cn:st.R.pre.length=kp)(ho:bE kp st=true)(hv:val st rest=some (y,aW))(hy:y.hi=true)(kJ:bE kp aW=true):
 ∀s,Gh J h0 ns k a r1 r2 st s->aZ P sp F (n+1) (.fn g) (.ptr (some (a,0))::rest) s= .ok y (J4 J h0 ns k a r1 r2 aW s):=
 fun _ q=>abj h q.1 hr hd q.2.1 ht q.2.2.1 q.2.2.2.1 q.2.2.2.2 Cn ho hv hy kJ
end Go.Rn
namespace Go.Rn
open Go.RowKit
variable {y:AV} {st:VS} {sp:Sp} {s:AS} {rest:List AV} {r2 r1 n a:Nat} {F:Nat->Option (List AV)}
noncomputable section
def ng(kp k:Nat)(val:VS->List AV->Option AV)(J:Nat)(ns:List Nat)(h0:Tr ae):aJ->List AV->M AV:=fun _ args=>match args with
 | .ptr (some (n,0))::rest=>aF (rest.all AV.hi) <| (fI J h0 ns).bind fun _=>(bu n).bind fun o=>aA (rowOf o) fun cs=>aA (rootOf kp cs) fun q=>(bu q.2.1).bind fun o1=>aA (xS k o1) fun u=>(bu q.2.2).bind fun o2=>aA (rowOf o2) fun row=>aF (su q.1&&row.all AV.cP) <| aF (!Nat.beq n q.2.1&&(!Nat.beq n q.2.2&& !Nat.beq q.2.1 q.2.2)) <| aA (val ⟨q.1,u,row⟩ rest) fun y=>aF (y.hi&&(Nat.blt n top&&(Nat.blt q.2.1 top&&Nat.blt q.2.2 top))) <| M.pure y
 |_=>fail
end
theorem YQ.ng(kp k:Nat)(val:VS->List AV->Option AV)(J:Nat)(ns:List Nat)(h0:Tr ae)(YR:aJ)(args:List AV):YQ<|ng kp k val J ns h0 YR args:=by
 unfold Rn.ng;split
 ·exact YQ.aF fun _=>YQ.bind (YQ.fI J h0 ns) fun _=>YQ.bind (YQ.bu _) fun _=>YQ.aA fun _ _=>YQ.aA fun _ _=>YQ.bind (YQ.bu _) fun _=>YQ.aA fun _ _=>YQ.bind (YQ.bu _) fun _=>YQ.aA fun _ _=>YQ.aF fun _=>YQ.aF fun _=>YQ.aA fun _ _=>YQ.aF fun _=>YQ.pure _
 ·exact YQ.fail
theorem abk{P:Program}{B:aI}{f J kp k:Nat}{ns:List Nat}{h0:Tr ae}{kn:List<|Nat×Option ae}{val:VS->List AV->Option AV}{fn:Func}{body:Code}{ρ:Ren}{w:World}{s1:AS}(hP:bS P)(cm:P.funcs[f]? =some fn)(cw:fn.body=some body)(dF:(fn.name == "runtime.NumGoroutine")=false)(ga:fL<=J)(dM:J+3<=top)(dL:∀n o,n<top->h0.get n=some o->n∈ns)(eC:∀n∈ns,n<J)(jt:∀n o,(n,some o)∈kn->h0.get n=some o)(jw:∀p∈kn,p.1<top)(eV:∀st rest y,val st rest=some y->bE kp st=true->max fn.ntmps (rest.length+1)<=top/\∀B':aI,B'.F=B.F->B'.inv=B.inv->
 au P B' (J+3) (gX J k P fn.results.toList y st) ⟨f,dc<|.ptr (some (J,0))::rest,max fn.ntmps<|rest.length+1,[.code body],[],none⟩ ⟨fU<|kn++aY (dD J k st),J+3,0,[],[]⟩){YR:aJ}{args:List AV}{x:AV}{vs:Array Value}(r:Rel B ρ s.h w)(hg:gD ρ)(h:ng kp k val J ns h0 YR args s= .ok x s1)(hv:ay ρ args vs.toList):jk P ((callFunc f vs).run P w)<|km B ρ s s1 w x:=by
 unfold ng at h;split at h
 case h_2=>cases h
 rename_i n rest;obtain⟨gI,h⟩:=cX h;obtain⟨u,s2,h2,h⟩:=M.aN h;obtain⟨a1,a2,a3⟩:=uI h2;obtain⟨o,s3,k1,h⟩:=M.aN h;obtain⟨cs,m1,h⟩:=bw h;obtain⟨q,m2,h⟩:=bw h;obtain⟨o1,s4,k2,h⟩:=M.aN h;obtain⟨tv,m3,h⟩:=bw h;obtain⟨o2,s5,k3,h⟩:=M.aN h;obtain⟨row,m4,h⟩:=bw h;obtain⟨fP,h⟩:=cX h;obtain⟨GJ,eU⟩:=and_true.1 fP;obtain⟨ch,h⟩:=cX h;obtain⟨y,hp,h⟩:=bw h;obtain⟨lE,h⟩:=cX h;obtain⟨QU,lE⟩:=and_true.1 lE;obtain⟨x2,lE⟩:=and_true.1 lE;obtain⟨y2,z2⟩:=and_true.1 lE;have x2:=(blt_eq _ _).mp x2;have y2:=(blt_eq _ _).mp y2;have z2:=(blt_eq _ _).mp z2;obtain⟨rfl,rfl⟩:=bB h;obtain⟨R,n1,n2⟩:=q;have DW:n≠n1/\n≠n2/\n1≠n2:=by
  obtain⟨c1,c2⟩:=and_true.1 ch;obtain⟨c2,c3⟩:=and_true.1 c2;refine⟨fun e=>?_,fun e=>?_,fun e=>?_⟩<;>subst e
  ·rw[eA.2 rfl] at c1;cases c1
  ·rw[eA.2 rfl] at c2;cases c2
  ·rw[show Nat.beq n1 n1=true from eA.2 rfl] at c3;cases c3
 obtain⟨d1,d2,d3⟩:=DW;obtain⟨rfl,oZ⟩:=H5 m1;have qM:=SD m2;subst qM;have Hh:=MS m3;subst Hh;obtain⟨rfl,Hi⟩:=H5 m4;obtain⟨b1,b2,b3,b4⟩:=fX k1;obtain⟨b5,b6,b7,b8⟩:=fX k2;obtain⟨b9,QV,QW,QX⟩:=fX k3;have g1:s.h.get n=some (bT<|dQ R n1 n2):=by rw[←a1];exact b2
 have g2:s.h.get n1=some (.tok k tv):=by rw[←a1, ←b3];exact b6
 have g3:s.h.get n2=some (bT row):=by rw[←a1, ←b3, ←b7];exact QV
 let V:Vw:=[(J,n,bT<|dQ R (J+1)<|J+2),(J+1,n1,.tok k tv),(J+2,n2,bT row)];have mem:∀q∈V,q=(J,n,bT<|dQ R (J+1)<|J+2)\/q=(J+1,n1,.tok k tv)\/q=(J+2,n2,bT row):=fun q hq=>by simpa[V] using hq
 have V0:(J,n,bT<|dQ R (J+1)<|J+2)∈V:=by simp[V]
 have V1:(J+1,n1,ae.tok k tv)∈V:=by simp[V]
 have V2:(J+2,n2,bT row)∈V:=by simp[V]
 have e0:eW J ρ V J=ρ n:=by
  unfold eW;rw[if_neg aj,if_neg aj];have:gL V J=some n:=by simp[gL,V]
  rw[this]
 have e1:eW J ρ V (J+1)=ρ n1:=by
  unfold eW;rw[if_neg aj,if_neg aj];have:gL V (J+1)=some n1:=by simp[gL,V]
  rw[this]
 have e2:eW J ρ V (J+2)=ρ n2:=by
  unfold eW;rw[if_neg aj,if_neg aj];have:gL V (J+2)=some n2:=by simp[gL,V]
  rw[this]
 have hi:jl ρ<|eW J ρ V:=fun m x hm e=>by rw[yT aj hm];exact e
 have hV:z7 J ρ s.h V:=by
  refine⟨fun q hq=>?_,fun q hq q' eg e=>?_,fun q hq q' eg e=>?_,fun q hq=>?_⟩
  ·rcases mem q hq with rfl|rfl|rfl
   ·exact⟨Nat.le_refl _,by show J<top;omega,x2⟩
   ·exact⟨by show J<=J+1;omega,by show J+1<top;omega,y2⟩
   ·exact⟨by show J<=J+2;omega,by show J+2<top;omega,z2⟩
  ·rcases mem q hq with rfl|rfl|rfl<;>rcases mem q' eg with rfl|rfl|rfl<;>first|rfl|(simp only at e;omega)
  ·rcases mem q hq with rfl|rfl|rfl<;>rcases mem q' eg with rfl|rfl|rfl<;>first|rfl|(exact absurd e<|by assumption)|(exact absurd e.symm<|by assumption)
  ·rcases mem q hq with rfl|rfl|rfl
   ·exact⟨_,g1,.inl ⟨rfl,rfl,fun N o' hO=>IT hi oZ GJ (fun x e=>e1.trans e) (fun x e=>e2.trans e) hO⟩⟩
   ·exact⟨_,g2,.inr ⟨k,tv,rfl,rfl⟩⟩
   ·exact⟨_,g3,.inl ⟨rfl,rfl,fun N o' hO=>Ge hi Hi eU hO⟩⟩
 obtain⟨_,cW,T⟩:=r.tk;have T:DV B ρ s.h w cW:=T;have nK:=JW aj r T dL eC jt jw (fun n hn=>by obtain⟨_,o,p,h⟩:=a3 n hn;exact⟨o,p,h⟩) hV;have hS:bE kp ⟨R,tv,row⟩=true:=and_true.2 ⟨GJ,and_true.2 ⟨eU,and_true.2 ⟨aK.2 (by rw[Av (r3:=n1) (r4:=n2)];exact oZ),aK.2 Hi⟩⟩⟩;obtain⟨q1,q2⟩:=eV _ _ _ hp hS;have fi:bC (⟨fU<|kn++aY (dD J k ⟨R,tv,row⟩),J+3,0,[],[]⟩:AS):=⟨Nat.zero_le _,dM⟩;have ks:ay (eW J ρ V) (.ptr (some (J,0))::rest) vs.toList:=by simp only[ay,VR] at hv ⊢;obtain⟨v0,vr,q1,⟨b',N',q2,q3⟩,q4⟩:=hv;exact⟨v0,vr,q1,⟨b',N',e0.trans q2,q3⟩,AV.Ba hi gI q4⟩
 have bH:=au.FK (B:=tE B ρ w<|wH ρ cW V) (s:=⟨fU<|kn++aY (dD J k ⟨R,tv,row⟩),J+3,0,[],[]⟩) (args:=.ptr (some (J,0))::rest) (vs:=vs) hP cm cw q1 (q2 _ rfl rfl) fi nK (fun g iE=>by
  obtain⟨N,e⟩:=hg g iE;exact⟨N,by rw[CU<|Nat.lt_of_lt_of_le iE ga];exact e⟩) (fun m hm kg=>by
  have hm:J+3<=m:=hm;exact HX aj kg fun q hq=>by rcases mem q hq with rfl|rfl|rfl<;>(show _≠m;simp only;omega)) ks
 rw[sB cm cw dF];show Calls P f vs w _;refine bH.mono fun e w'=>?_;rintro ⟨Ce,x',s7,rfl,⟨rfl,hL⟩,_,σ,i0,Cf,i1,i2,i3⟩;have sV:∀q∈V,σ q.1=ρ q.2.1:=fun q hq=>by
  rcases mem q hq with rfl|rfl|rfl
  ·exact(i0 J aj aj).trans e0
  ·exact(i0 (J+1) aj aj).trans e1
  ·exact(i0 (J+2) aj aj).trans e2
 have j1:=hL J (bT<|dQ R (J+1)<|J+2) (by simp[dD]);have j2:=hL (J+1) (.tok k tv) (by simp[dD]);have j3:=hL (J+2) (bT row) (by simp[dD]);have ku:(dQ R (J+1)<|J+2).length<=top:=by rw[Av (r3:=n1) (r4:=n2)];exact oZ
 have Gf:∀k,k<top->cF ρ σ k=ρ k:=fun k hk=>by unfold cF;rw[if_neg aj]
 have qR:jl σ<|cF ρ σ:=fun k x hk e=>by unfold cF;rw[if_pos hk];exact e
 have hh1:s1.h=s.h:=by rw[QW,b7,b3,a1]
 obtain⟨f1,f2,f3,f4⟩:=Ji (a:=s.nx) (L2:=[(n,bT<|dQ R n1 n2),(n1,.tok k tv),(n2,bT row)]) (h':=s1.h) r T hV i2 i3 sV (fun m z hm q=>Cf m z hm<|hi m z hm q) (fun m q hm=>by
  rcases List.mem_cons.1 hm with hm|hm
  ·cases hm;exact⟨_,V0,rfl,_,j1,.inl ⟨rfl,rfl,fun N o' hO=>IT qR ku GJ (fun x e=>by rw[Gf _ y2, ←sV _ V1];exact e) (fun x e=>by rw[Gf _ z2, ←sV _ V2];exact e) hO⟩⟩
  rcases List.mem_cons.1 hm with hm|hm
  ·cases hm;exact⟨_,V1,rfl,_,j2,.inr ⟨k,_,tv,rfl,rfl,rfl⟩⟩
  rcases List.mem_cons.1 hm with hm|hm
  ·cases hm;exact⟨_,V2,rfl,_,j3,.inl ⟨rfl,rfl,fun N o' hO=>Ge qR Hi eU hO⟩⟩
  cases hm) (fun q hq cr=>by
  rcases mem q hq with rfl|rfl|rfl
  ·exact⟨_,j1,rfl⟩
  ·cases cr
  ·exact⟨_,j3,rfl⟩) (fun m hm=>by
  rw[hh1];by_cases c3:m=n2
  ·subst c3;exact .inl ⟨_,by simp,g3⟩
  by_cases c2:m=n1
  ·subst c2;exact .inl ⟨_,by simp,g2⟩
  by_cases c1:m=n
  ·subst c1;exact .inl ⟨_,by simp,g1⟩
  exact .inr ⟨fun q hq=>by rcases mem q hq with rfl|rfl|rfl<;>(intro e;exact absurd e.symm<|by assumption),rfl⟩)
 refine⟨Ce,rfl,cF ρ σ,?_,AV.pB qR QU i1,f3,f4⟩;have ct:s1.nx=s.nx:=by rw[QX,b8,b4,a2]
 rw[ct];exact f1
section
variable {X:TX} {P:Program} {J kp k:Nat} {ns:List Nat} {h0:Tr ae} {kn:List<|Nat×Option ae} {L L':bO} {g:Nat} {fn:Func} {body:Code}
theorem Fa(hP:bS P)(ga:fL<=J)(dM:J+3<=top)(dL:∀n o,n<top->h0.get n=some o->n∈ns)(eC:∀n∈ns,n<J)(jt:∀n o,(n,some o)∈kn->h0.get n=some o)(jw:∀p∈kn,p.1<top){val:VS->List AV->Option AV}(h:dT X J P<|dt J ns h0 L)(h':dT X J P<|dt J ns h0 L')(cm:P.funcs[g]? =some fn)(cw:fn.body=some body)(dF:(fn.name == "runtime.NumGoroutine")=false)(eV:∀st rest y,val st rest=some y->bE kp st=true->max fn.ntmps (rest.length+1)<=top/\∀B:aI,qE X P J ns h0 L' B->
 au P B (J+3) (gX J k P fn.results.toList y st) ⟨g,dc<|.ptr (some (J,0))::rest,max fn.ntmps<|rest.length+1,[.code body],[],none⟩ ⟨fU<|kn++aY (dD J k st),J+3,0,[],[]⟩):dT X J P<|dt J ns h0<|(g,.raw<|ng kp k val)::L:=by
 refine(show dT X J P (oQ (dt J ns h0 L) g<|ng kp k val J ns h0) from h.my (fun YR _ args=>YQ.ng _ _ _ _ _ _ YR args) fun B hB hT YR hc hl args x s s1 ρ w vs fi r hg hf hm hv=>?_);refine abk hP cm cw dF ga dM dL eC jt jw (fun st rest y e eo=>?_) r hg hm hv;obtain⟨q1,q2⟩:=eV st rest y e eo;exact⟨q1,fun B' lJ lK=>q2 B'<|qF hP h' (lJ.trans hB)<|lK.trans hT⟩
end
theorem aat{P:Program}{g J kp k:Nat}{h0:Tr ae}{ns:List Nat}{val:VS->List AV->Option AV}(h:sp g=some (ng kp k val J ns h0))(hk:pM J h0 ns s=true)(hr:rest.all AV.hi=true)(hd:(!Nat.beq a r1&&(!Nat.beq a r2&& !Nat.beq r1 r2))=true)(hn:(Nat.blt a (dC J h0 ns s).nx&&(Nat.blt r1 (dC J h0 ns s).nx&&Nat.blt r2 (dC J h0 ns s).nx))=true)(ht:(Nat.blt a top&&(Nat.blt r1 top&&Nat.blt r2 top))=true)(g1:(dC J h0 ns s).h.get a=some (bT<|dQ st.R r1 r2))(g2:(dC J h0 ns s).h.get r1=some (.tok k st.u))(g3:(dC J h0 ns s).h.get r2=some (bT st.row))(Cn:st.R.pre.length=kp)(ho:bE kp st=true)(hv:val st rest=some y)(hy:y.hi=true):
 aZ P sp F (n+1) (.fn g) (.ptr (some (a,0))::rest) s= .ok y (aV r2<|aV r1<|aV a<|dC J h0 ns s):=by
 obtain⟨R,u,row⟩:=st;show jK P sp g (aZ P sp F n) (.ptr (some (a,0))::rest) s=_;rw[rp h];have BS:=ho;obtain⟨o1,ho⟩:=and_true.1 ho;obtain⟨o2,ho⟩:=and_true.1 ho;obtain⟨o3,o4⟩:=and_true.1 ho;obtain⟨n1,hn⟩:=and_true.1 hn;obtain⟨n2,n3⟩:=and_true.1 hn;obtain⟨t1,ht⟩:=and_true.1 ht;obtain⟨t2,t3⟩:=and_true.1 ht;have ch:a≠r1/\a≠r2/\r1≠r2:=by
  obtain⟨c1,c2⟩:=and_true.1 hd;obtain⟨c2,c3⟩:=and_true.1 c2;refine⟨fun e=>?_,fun e=>?_,fun e=>?_⟩<;>subst e
  ·rw[eA.2 rfl] at c1;cases c1
  ·rw[eA.2 rfl] at c2;cases c2
  ·rw[show Nat.beq r1 r1=true from eA.2 rfl] at c3;cases c3
 obtain⟨d1,d2,d3⟩:=ch;have ta:=(blt_eq _ _).mp t1;have tb:=(blt_eq _ _).mp t2;have tc:=(blt_eq _ _).mp t3;show(aF (rest.all AV.hi) <| (fI J h0 ns).bind fun _=>(bu a).bind fun o=>aA (rowOf o) fun cs=>aA (rootOf kp cs) fun q=>(bu q.2.1).bind fun o1=>aA (xS k o1) fun u=>(bu q.2.2).bind fun o2=>aA (rowOf o2) fun row=>aF (su q.1&&row.all AV.cP) <| aF (!Nat.beq a q.2.1&&(!Nat.beq a q.2.2&& !Nat.beq q.2.1 q.2.2)) <| aA (val ⟨q.1,u,row⟩ rest) fun y=>aF (y.hi&&(Nat.blt a top&&(Nat.blt q.2.1 top&&Nat.blt q.2.2 top))) <| M.pure y) s=_;rw[hr,dA,M.bL<|xp hk,M.bL<|lR n1 g1];generalize dC J h0 ns s=z at*;rw[H6 (by rw[Av (r3:=0) (r4:=0)];exact aK.1 o3),bV,R7 Cn,bV];have QY:Nat.blt r1 (aV a z).nx=true:=by rw[(fN a z).2.1];exact n2
 have zR:(aV a z).h.get r1=some (.tok k u):=by rw[(fN a z).1];exact g2
 rw[M.bL<|lR QY zR,MT,bV];have QZ:Nat.blt r2 (aV r1<|aV a z).nx=true:=by rw[(fN r1 _).2.1,(fN a z).2.1];exact n3
 have Q0:(aV r1<|aV a z).h.get r2=some (bT row):=by rw[(fN r1 _).1,(fN a z).1];exact g3
 rw[M.bL<|lR QZ Q0,H6<|aK.1 o4,bV];show(aF (su R&&row.all AV.cP) <| aF (!Nat.beq a r1&&(!Nat.beq a r2&& !Nat.beq r1 r2)) <| aA (val ⟨R,u,row⟩ rest) fun y=>aF (y.hi&&(Nat.blt a top&&(Nat.blt r1 top&&Nat.blt r2 top))) <| M.pure y) (aV r2<|aV r1<|aV a z)=_;rw[show su R=true from o1,show row.all AV.cP=true from o2,hd,hv];show(aF true <| aF true <| aA (some y) fun y=>aF (y.hi&&(Nat.blt a top&&(Nat.blt r1 top&&Nat.blt r2 top))) <| M.pure y) (aV r2<|aV r1<|aV a z)=_;rw[dA,dA,bV,hy,t1,t2,t3];rfl
theorem acx{P:Program}{g J kp k:Nat}{h0:Tr ae}{ns:List Nat}{val:VS->List AV->Option AV}(h:sp g=some (ng kp k val J ns h0))(hr:rest.all AV.hi=true)(hd:(!Nat.beq a r1&&(!Nat.beq a r2&& !Nat.beq r1 r2))=true)(ht:(Nat.blt a top&&(Nat.blt r1 top&&Nat.blt r2 top))=true)(Cn:st.R.pre.length=kp)(ho:bE kp st=true)(hv:val st rest=some y)(hy:y.hi=true):
 ∀s,Gh J h0 ns k a r1 r2 st s->aZ P sp F (n+1) (.fn g) (.ptr (some (a,0))::rest) s= .ok y (Wu J h0 ns a r1 r2 s):=
 fun _ q=>aat h q.1 hr hd q.2.1 ht q.2.2.1 q.2.2.2.1 q.2.2.2.2 Cn ho hv hy
end Go.Rn
namespace Go.Rn
open Go.RowKit
variable {rest:List AV} {n:Nat}
noncomputable section
def oV(k:Nat)(val:AV->List AV->Option AV)(J:Nat)(ns:List Nat)(h0:Tr ae):aJ->List AV->M AV:=fun _ args=>match args with
 | .ptr (some (n,0))::rest=>aF (rest.all AV.hi&&Nat.ble J n) <| (fI J h0 ns).bind fun _=>(bu n).bind fun o=>aA (xS k o) fun v=>aA (val v rest) fun y=>aF (y.hi&&Nat.blt n top) <| M.pure y
 |_=>fail
end
theorem YQ.oV(k:Nat)(val:AV->List AV->Option AV)(J:Nat)(ns:List Nat)(h0:Tr ae)(YR:aJ)(args:List AV):YQ<|oV k val J ns h0 YR args:=by
 unfold Rn.oV;split
 ·exact YQ.aF fun _=>YQ.bind (YQ.fI J h0 ns) fun _=>YQ.bind (YQ.bu _) fun _=>YQ.aA fun _ _=>YQ.aA fun _ _=>YQ.aF fun _=>YQ.pure _
 ·exact YQ.fail
noncomputable def DG(val:AV->List AV->Option AV)(v:AV)(rest:List AV):Option<|AV×AV:=(val v rest).map fun y=>(y,v)
theorem abq{J k:Nat}{ns:List Nat}{h0:Tr ae}{val:AV->List AV->Option AV}{YR:aJ}{x:AV}{s s1:AS}(h:oV k val J ns h0 YR (.ptr (some (n,0))::rest) s= .ok x s1):
 ∃Et,yc J ns h0 k (DG val) YR (.ptr (some (n,0))::rest) s= .ok x Et/\Et.nx=s1.nx/\∀m,m<top->s1.h.get m=Et.h.get m:=by
 unfold oV at h;obtain⟨hh,h1⟩:=cX h;obtain⟨u,s2,h2,h3⟩:=M.aN h1;obtain⟨o,s3,h4,h5⟩:=M.aN h3;obtain⟨v,h6,h7⟩:=bw h5;obtain⟨y,h8,h9⟩:=bw h7;obtain⟨gG,uo⟩:=cX h9;obtain⟨hy,ht⟩:=and_true.1 gG;obtain⟨rfl,rfl⟩:=bB uo;have ho:=MS h6;subst ho;obtain⟨b1,b2,b3,b4⟩:=fX h4;have hg:s1.h.get n=some (.tok k v):=by rw[b3];exact b2
 have hn:Nat.blt n s1.nx=true:=(blt_eq _ _).mpr (by rw[b4];exact b1);have hw:=NT (p:=.tok k v) (o:=some<|.tok k v) hn hg rfl ht;refine⟨fp n (some<|.tok k v) s1,?_,?_,fun m hm=>?_⟩
 ·show(aF (rest.all AV.hi&&Nat.ble J n) <| (fI J h0 ns).bind fun _=>(bu n).bind fun o=>match o with
   | .tok k' v=>aF (Nat.beq k k') <| aA (DG val v rest) fun p=>aF p.1.hi <| (ll n<|some<|.tok k p.2).bind fun _=>M.pure p.1
   |_=>fail) s=_
  rw[hh,dA,M.bL h2,M.bL h4];show(aF (Nat.beq k k) <| aA (DG val v rest) fun p=>aF p.1.hi <| (ll n<|some<|.tok k p.2).bind fun _=>M.pure p.1) s1=_;rw[eA.2 rfl,dA];unfold DG;rw[h8];show(aF x.hi <| (ll n<|some<|.tok k v).bind fun _=>M.pure x) s1=_;rw[hy,dA,M.bL hw];rfl
 ·unfold fp;cases Nat.blt n s1.mark<;>rfl
 ·have e:(fp n (some<|.tok k v) s1).h=s1.h.put n (some<|.tok k v):=by unfold fp;cases Nat.blt n s1.mark<;>rfl
  rw[e,Tr.lP _ _ _ _<|(blt_eq _ _).mp ht];by_cases q:m=n
  ·rw[if_pos q,q,hg]
  ·rw[if_neg q]
section
variable {X:TX} {P:Program} {J k:Nat} {ns:List Nat} {h0:Tr ae} {kn:List<|Nat×Option ae} {L L':bO} {g:Nat} {fn:Func} {body:Code}
theorem Iw(hX:yv X J)(hP:bS P)(ga:fL<=J)(dM:J<=top)(dL:∀n o,n<top->h0.get n=some o->n∈ns)(eC:∀n∈ns,n<J)(jt:∀n o,(n,some o)∈kn->h0.get n=some o)(jw:∀p∈kn,p.1<top){val:AV->List AV->Option AV}(h:dT X J P<|dt J ns h0 L)(h':dT X J P<|dt J ns h0 L')(cm:P.funcs[g]? =some fn)(cw:fn.body=some body)(dF:(fn.name == "runtime.NumGoroutine")=false)(eV:∀v rest y,val v rest=some y->max fn.ntmps (rest.length+1)<=top/\∀L,X k v L->∃nx,J<nx/\nx<=top/\(∀p∈L,p.1<nx)/\∀B:aI,qE X P J ns h0 L' B->
 au P B (J+1) (iU X P fn.results.toList k y v) ⟨g,dc<|.ptr (some (J,0))::rest,max fn.ntmps<|rest.length+1,[.code body],[],none⟩ ⟨fU<|kn++aY L,nx,0,[],[]⟩):dT X J P<|dt J ns h0<|(g,.raw<|oV k val)::L:=by
 refine(show dT X J P (oQ (dt J ns h0 L) g<|oV k val J ns h0) from h.my (fun YR _ args=>YQ.oV _ _ _ _ _ YR args) fun B hB hT YR hc hl args x s s1 ρ w vs fi r hg hf hm hv=>?_);have ha:∃n rest,args= .ptr (some (n,0))::rest:=by
  unfold oV at hm;split at hm
  ·exact⟨_,_,rfl⟩
  ·cases hm
 obtain⟨n,rest,rfl⟩:=ha;obtain⟨Et,e1,e2,e3⟩:=abq hm;have key:=TV (val:=DG val) hX hT hP cm cw dF ga dM dL eC jt jw (fun v rest y v' e=>by
  unfold DG at e;cases q:val v rest with
  |none=>rw[q] at e;cases e
  |some y1=>
   rw[q] at e;injection e with e;injection e with e1 e2
   subst e1;subst e2;obtain⟨q1,q2⟩:=eV v rest y1 q;refine⟨q1,fun L1 hL=>?_⟩;obtain⟨nx,n1,n2,n3,q3⟩:=q2 L1 hL;exact⟨nx,n1,n2,n3,fun B' lJ lK=>q3 B'<|qF hP h' (lJ.trans hB)<|lK.trans hT⟩) r hg e1 hv
 rw[sB cm cw dF] at key ⊢;refine Calls.mono key fun e w'=>?_;rintro ⟨y,rfl,σ,c1,c2,c3,c4⟩;exact⟨y,rfl,σ,by rw[←e2];exact c1,c2,c3.congr e3,c4⟩
end
noncomputable section
def Xm(J:Nat)(h0:Tr ae)(ns:List Nat)(k n:Nat)(v:AV)(s:AS):Prop:=pM J h0 ns s=true/\Nat.blt n (dC J h0 ns s).nx=true/\(dC J h0 ns s).h.get n=some (.tok k v)
def Xn(J:Nat)(h0:Tr ae)(ns:List Nat)(n:Nat)(s:AS):AS:=aV n<|dC J h0 ns s
end
theorem aej{P:Program}{F:Nat->Option (List AV)}{sp:Sp}{g m J k:Nat}{h0:Tr ae}{ns:List Nat}{val:AV->List AV->Option AV}(h:sp g=some (oV k val J ns h0)){v y:AV}(hr:(rest.all AV.hi&&Nat.ble J n)=true)(ht:Nat.blt n top=true)(hv:val v rest=some y)(hy:y.hi=true):
 ∀s,Xm J h0 ns k n v s->aZ P sp F (m+1) (.fn g) (.ptr (some (n,0))::rest) s= .ok y (Xn J h0 ns n s):=fun s q=>by
 obtain⟨q1,q2,q3⟩:=q;show jK P sp g (aZ P sp F m) (.ptr (some (n,0))::rest) s=_;rw[rp h];show(aF (rest.all AV.hi&&Nat.ble J n) <| (fI J h0 ns).bind fun _=>(bu n).bind fun o=>aA (xS k o) fun v=>aA (val v rest) fun y=>aF (y.hi&&Nat.blt n top) <| M.pure y) s=_;rw[hr,dA,M.bL<|xp q1,M.bL<|lR q2 q3,MT,bV,hv,bV,hy,ht];rfl
end Go.Rn
namespace Go.Rn
open Go.RowKit
def Fix(J:Nat)(os:List<|Nat×Option ae)(o:ae):Prop:=(o.kj=true/\∀r:Nat->Nat,(∀k,k<J->r k=k)->(∀k,top<=k->r k=k)->fD [] r o o)\/o= .iy\/∃m es ex left cur,o= .iter m es ex left cur/\m<J/\(m,some .iy)∈os/\qC es/\qC left/\∀x,cur=some x->qC [x]
theorem wR:∀l:List<|Nat×ae,aY l=l.map fun p=>(p.1,some p.2)
 |[]=>rfl
 |p::l=>congrArg _<|wR l
theorem U9{m:Nat}{o:ae}:∀{l:List<|Nat×Option ae},(∀p∈l,p.1<top)->(∀p∈l,∀q∈l,p.1=q.1->p=q)->(m,some o)∈l->(fU l).get m=some o
 |[],_,_,h=>by cases h
 |p::l,h1,h2,h3=>by
  show((fU l).put p.1 p.2).get m=_;have hm:m<top:=h1 _ h3;rw[Tr.di _ _ _ _ (h1 p List.mem_cons_self) hm];by_cases e:m=p.1
  ·rw[if_pos e];have:=h2 _ h3 p List.mem_cons_self e;rw[←this]
  ·rw[if_neg e];rcases List.mem_cons.1 h3 with rfl|h3
   ·exact absurd rfl e
   ·exact U9 (fun q hq=>h1 q<|List.mem_cons_of_mem _ hq) (fun q hq q' eg=>h2 q (List.mem_cons_of_mem _ hq) q'<|List.mem_cons_of_mem _ eg) h3
theorem au.mv{P:Program}{B:aI}{J:Nat}{Q:Tr AV->List Nat->Option Code->AS->Prop}{s:AS}{t:Tr AV}{nt f:Nat}{K:List Item}{os:List<|Nat×Option ae}{l0 l:List<|Nat×AV}{a:Nat}{x:ae}(hg:fL<=J)(hn:J+1<top)(ha:J<=a/\a<top)(hs:s.nx<top)(h1:∀p∈l0,t.get p.1=some p.2)(h2:∀p∈os,s.h.get p.1=p.2)(h3:s.h.get a=some x)(eY:∀p∈os,p.1<J)(hl:∀p∈l,p.1<top)(ht:∀r:Nat->Nat,(∀k,k<J->r k=k)->(∀k,top<=k->r k=k)->r J=a->∀p∈l,∃y,(p.1,y)∈l0/\jF [] r y p.2)(ho:∀p∈os,∀y,p.2=some y->Fix J os y)(hx:x.kj=true/\∀r:Nat->Nat,(∀k,top<=k->r k=k)->fD [] r x x)(H:au P B J Q ⟨f,aC l,nt,K,[],none⟩<|ah (os++[(J,some x)])<|J+1):au P B J Q ⟨f,t,nt,K,[],none⟩ s:=by
 have zX:∀p∈os,∀q∈os,p.1=q.1->p=q:=fun p hp q hq e=>by have a1:=h2 p hp;rw[e,h2 q hq] at a1;exact Prod.ext e a1.symm
 let r:Nat->Nat:=fun k=>if k<J\/top<=k then k else if k=J then a else max k s.nx
 have r1:∀k,k<J->r k=k:=fun k hk=>if_pos<|.inl hk;have r2:∀k,top<=k->r k=k:=fun k hk=>if_pos<|.inr hk;have r3:r J=a:=by show(if _ then _ else _)=_;rw[if_neg aj,if_pos rfl]
 have cO:∀p∈os++[(J,some x)],p.1<top:=fun p hp=>by
  rcases List.mem_append.1 hp with hp|hp
  ·have:=eY p hp;omega
  ·rw[List.mem_singleton] at hp;subst hp;show J<top;omega
 have aiH:∀p∈os++[(J,some x)],∀q∈os++[(J,some x)],p.1=q.1->p=q:=fun p hp q hq e=>by
  rcases List.mem_append.1 hp with hp|hp<;>rcases List.mem_append.1 hq with hq|hq
  ·exact zX p hp q hq e
  ·rw[List.mem_singleton] at hq;have:=eY p hp;rw[hq] at e;have e:p.1=J:=e;omega
  ·rw[List.mem_singleton] at hp;have:=eY q hq;rw[hp] at e;have e:J=q.1:=e;omega
  ·rw[List.mem_singleton] at hp hq;rw[hp,hq]
 have iS:∀n y,n<top->(fU<|os++[(J,some x)]).get n=some y->(n,some y)∈os\/(n=J/\y=x):=fun n y hn hg=>by
  rcases List.mem_append.1 (uQ cO hg) with h|h
  ·exact .inl h
  ·rw[List.mem_singleton] at h;injection h with e1 e2;injection e2 with e2;exact .inr ⟨e1,e2⟩
 refine au.weaken (s2:=ah (os++[(J,some x)])<|J+1) (t2:=aC l) [] r r1 (fun k hk ht=>?_) r2 hg ⟨Nat.zero_le _,by show J+1<=top;omega⟩ rfl rfl (fun _ h=>by cases h) (fun i y hy=>?_) (fun n y hn hg=>?_) (fun _ h=>by cases h) (fun n m y z hn hm e1 e2 e=>?_) H
 ·have Eb:J+1<=k:=hk;show s.nx<=(if _ then _ else _)/\(if _ then _ else _)<top;rw[if_neg aj,if_neg aj];omega
 ·obtain⟨y0,a1,a2⟩:=ht r r1 r2 r3 _<|CH hl hy;exact⟨y0,h1 _ a1,a2⟩
 ·rcases iS n y hn hg with h|⟨rfl,rfl⟩
  ·have cf:n<J:=eY _ h;rw[r1 n cf];have hh:s.h.get n=some y:=h2 _ h;rcases ho _ h y rfl with⟨q1,q2⟩|q|⟨m,es,ex,left,cur,q,q1,q2,q3,q4,q5⟩
   ·exact⟨hn,.inl q1,y,hh,fM.refl _,q2 r r1 r2⟩
   ·have q:y= .iy:=q;subst q;exact⟨hn,.inr ⟨r1 n cf,hh,trivial⟩,_,hh,fM.refl _,fun _ _ _ _ _ k=>k⟩
   ·have q:y= .iter m es ex left cur:=q;subst q;refine⟨hn,.inr ⟨r1 n cf,hh,r1 m q1,U9 cO aiH<|List.mem_append_left _ q2,q3,q4,q5⟩,_,hh,fM.refl _,fun ρ fG N o hm k=>?_⟩;simp only[OR] at k ⊢;obtain⟨b,M,c,s',k1,k2⟩:=k;exact⟨b,M,c,s',by rw[r1 m q1];exact hm.1 _ _ k1,k2⟩
  ·rw[r3];exact⟨ha.2,.inl hx.1,y,h3,fM.refl _,hx.2 r r2⟩
 ·rcases iS n y hn e1 with h|⟨c1,_⟩<;>rcases iS m z hm e2 with h'|⟨c2,_⟩
  ·have a1:n<J:=eY _ h;have a2:m<J:=eY _ h';rw[r1 n a1,r1 m a2] at e;exact e
  ·have a1:n<J:=eY _ h;rw[r1 n a1,c2,r3] at e;omega
  ·have a1:m<J:=eY _ h';rw[r1 m a1,c1,r3] at e;omega
  ·rw[c1,c2]
end Go.Rn
namespace Go.Rn
open Go.RowKit
variable {l:List<|Int×Int} {x:AV} {sp:Sp} {n:Nat} {F:Nat->Option (List AV)}
def aS(p:Int×Int):List AV:=[.int .i64 p.1,.int .i64 p.2]
def lD(p:Int×Int):List Value:=[.int .i64 p.1,.int .i64 p.2]
theorem Tu(x y:Int×Int)(h:aS x=aS y):x=y:=by obtain⟨a,b⟩:=x;obtain⟨c,d⟩:=y;simp only[aS,List.cons.injEq,AV.int.injEq,true_and,_root_.and_true] at h;rw[h.1,h.2]
theorem Iy{L:List AV}(hl:L.length<=top){i:Nat}(hx:L[i]? =some x):cellAt (Tr.fill L 0 .nil) [] i=some x:=by have hi:=(List.getElem?_eq_some_iff.1 hx).1;unfold cellAt;rw[Tr.sH _ _ _ _ aj,if_pos aj,Nat.sub_zero,hx]
def lU(l:List<|Int×Int):List Int:=(l.map fun p=>[p.1,p.2]).flatten
theorem uX:∀l,(l.map aS).flatten=(lU l).map (AV.int .i64)
 |[]=>rfl
 |p::l=>by show aS p++(l.map aS).flatten=_;rw[uX l];rfl
theorem FC:∀l,(l.map lD).flatten=(lU l).map (Value.int .i64)
 |[]=>rfl
 |p::l=>by show lD p++(l.map lD).flatten=_;rw[FC l];rfl
theorem CC:∀l,(lU l).length=l.length*2
 |[]=>rfl
 |p::l=>by show([p.1,p.2]++lU l).length=_;rw[List.length_append,CC l];show 2+_=(l.length+1)*2;omega
def dR(l:List<|Int×Int):List<|Int×Int:=l.mergeSort fun a b=>decide<|a.1<=b.1
theorem Cz(l:List<|Int×Int):(dR l).Perm l:=List.mergeSort_perm l _
theorem Aw(l:List<|Int×Int):(dR l).length=l.length:=(Cz l).length_eq
theorem Ny(l:List<|Int×Int):(dR l).Pairwise fun a b=>a.1<=b.1:=by
 have:=List.pairwise_mergeSort (le:=fun a b:Int×Int=>decide<|a.1<=b.1) (fun a b c h1 h2=>decide_eq_true<|Int.le_trans (of_decide_eq_true h1)<|of_decide_eq_true h2) (fun a b=>by
  cases e:decide (a.1<=b.1)
  ·have:=of_decide_eq_false e;rw[decide_eq_true (show b.1<=a.1 by omega)];rfl
  ·rfl) l
 exact this.imp fun h=>of_decide_eq_true h
theorem aek(nd:(l.map (·.1)).Nodup){a b:Int×Int}(ha:a∈l)(hb:b∈l)(h:a.1=b.1):a=b:=by
 induction l with
 |nil=>cases ha
 |cons c l ih=>
  rw[List.map_cons,List.nodup_cons] at nd;rcases List.mem_cons.1 ha with ea|qJ<;>rcases List.mem_cons.1 hb with eb|fm
  ·rw[ea,eb]
  ·exact absurd (show c.1∈l.map (·.1) by rw[←ea,h];exact List.mem_map_of_mem fm) nd.1
  ·exact absurd (show c.1∈l.map (·.1) by rw[←eb, ←h];exact List.mem_map_of_mem qJ) nd.1
  ·exact ih nd.2 qJ fm
theorem Ud{m:List<|Int×Int}(nd:(l.map (·.1)).Nodup)(hp:m.Perm l)(hs:m.Pairwise fun a b=>a.1<=b.1):m=dR l:=by refine List.Perm.eq_of_pairwise (le:=fun a b=>a.1<=b.1) (fun a b ha hb h1 h2=>?_) hs (Ny l)<|hp.trans (Cz l).symm;exact aek nd (hp.subset ha) ((Cz l).subset hb)<|Int.le_antisymm h1 h2
structure Di (P:Program) (f g:FuncId):Prop where
 is:∃fn body,P.funcs[f]? =some fn/\fn.body=some body/\(fn.name == "runtime.NumGoroutine")=false
 Xo:∀(a:Option Addr) (c:Nat) (w:World),Calls P f #[.slice a 0 c,.func (.func g) #[] #[]] w fun e w'=>e= .returned (.tuple #[])/\w'=w
 rows:∀(b c:Nat) (l:List<|Int×Int) (cs:Array Value) (e:TypeId) (w:World),w.heap[b]? =some (.cells cs e (0,0))->(∀(i:Nat) (v:Value),(l.map lD).flatten[i]? =some v->cs[i]? =some v)->l.length<=1000000->(l.map (·.1)).Nodup->
  Calls P f #[.slice (some ⟨b,0,none⟩) l.length c,.func (.func g) #[] #[]] w fun e' w'=>e'= .returned (.tuple #[])/\(w'.os=w.os/\w'.tape=w.tape/\w'.output=w.output/\w.heap.size<=w'.heap.size)/\(∀k,k<w.heap.size->k≠b->w'.heap[k]? =w.heap[k]?)/\
   ∃wz,w'.heap[b]? =some (.cells wz e (0,0))/\wz.size=cs.size/\∀(i:Nat) (v:Value),((dR l).map lD).flatten[i]? =some v->wz[i]? =some v
open Classical in
noncomputable def DH(o:ae):Option<|List<|Int×Int:=if h:∃l:List<|Int×Int,o=aD aS l/\l.length<=1000000 then some h.choose else none
theorem abt{o:ae}(h:DH o=some l):o=aD aS l/\l.length<=1000000:=by
 unfold DH at h;split at h
 ·rename_i q;injection h with h;rw[←h];exact q.choose_spec
 ·cases h
theorem Fs(h:l.length<=1000000):(l.map aS).flatten.length<=top:=by rw[uX,List.length_map,CC];unfold top;omega
theorem acH{m:List<|Int×Int}(hl:l.length<=1000000)(hm:m.length<=1000000)(h:aD aS l=aD aS m):l=m:=by
 have ht:=Fs hl;have hu:=Fs hm;unfold aD at h;injection h with h1 h2 _
 have key:∀{l m:List<|Int×Int},lU l=lU m->l=m:=by
  intro l;induction l with
  |nil=>intro m e;cases m with
   |nil=>rfl
   |cons=>cases e
  |cons x l ih=>intro m e;cases m with
   |nil=>cases e
   |cons y m=>
    have e:x.1::x.2::lU l=y.1::y.2::lU m:=e;injection e with e1 e;injection e with e2 e
    rw[ih e,show x=y from Prod.ext e1 e2]
 refine key<|List.ext_getElem? fun i=>?_;have e0:(lU l).length=(lU m).length:=by rw[uX,uX,List.length_map,List.length_map] at h1;exact h1
 by_cases q:i<(lU l).length
 ·have e1:=Iy ht (show(l.map aS).flatten[i]? =some (.int .i64 (lU l)[i]) by rw[uX,List.getElem?_map,List.getElem?_eq_getElem q];rfl);have e2:=Iy hu (show(m.map aS).flatten[i]? =some (.int .i64<|(lU m)[i]'aj) by rw[uX,List.getElem?_map,List.getElem?_eq_getElem aj];rfl);rw[h2,e2] at e1;injection e1 with e1;injection e1 with _ e1
  rw[List.getElem?_eq_getElem q,List.getElem?_eq_getElem aj,e1]
 ·rw[List.getElem?_eq_none aj,List.getElem?_eq_none aj]
theorem abu(h:l.length<=1000000):DH (aD aS l)=some l:=by unfold DH;have q:∃l':List<|Int×Int,aD aS l=aD aS l'/\l'.length<=1000000:=⟨l,rfl,h⟩;rw[dif_pos q];exact congrArg some (acH h q.choose_spec.2 q.choose_spec.1).symm
noncomputable def tJ(g:FuncId):aJ->List AV->M AV:=fun _ args=>match args with
 |[.slice none _ _,.func (.func g') [] []]=>iI (g'=g) <| M.pure<|.tuple []
 |[.slice (some (n,0)) len (.aq _ _),.func (.func g') [] []]=>iI (g'=g) <| (bu n).bind fun o=>aA (DH o) fun l=>iI (len=l.length/\(l.map (·.1)).Nodup) <| (bK n<|some<|aD aS<|dR l).bind fun _=>M.pure<|.tuple []
 |_=>fail
theorem YQ.tJ(g:FuncId)(YR:aJ)(args:List AV):YQ<|tJ g YR args:=by
 unfold Rn.tJ;split
 ·exact YQ.iI<|YQ.pure _
 ·exact YQ.iI <| YQ.bind (YQ.bu _) fun _=>YQ.aA fun _ _=>YQ.iI <| YQ.bind (YQ.bK _ _) fun _=>YQ.pure _
 ·exact YQ.fail
theorem VQ{ρ:Ren}{N:Nat}{o:Obj}(hl:l.length<=1000000):OR ρ N (aD aS l) o↔∃c e,o= .cells c e (0,0)/\c.size=N/\l.length*2<=N/\∀(i:Nat) (v:Value),(l.map lD).flatten[i]? =some v->c[i]? =some v:=by
 have ht:=Fs hl;have hn:(l.map aS).flatten.length=l.length*2:=by rw[uX,List.length_map,CC]
 unfold aD;simp only[OR];constructor
 ·rintro ⟨c,e,rfl,h1,h2,h3⟩;refine⟨c,e,rfl,h1,by omega,fun i v hv=>?_⟩;rw[FC,List.getElem?_map] at hv;cases hz:(lU l)[i]? with
  |none=>rw[hz] at hv;cases hv
  |some z=>
   rw[hz] at hv;injection hv with hv
   have hi:i<(lU l).length:=(List.getElem?_eq_some_iff.1 hz).1;obtain⟨x,v',a1,_,a3,a4⟩:=h3 i (by rw[uX,List.length_map];exact hi);have a0:cellAt (Tr.fill (l.map aS).flatten 0 .nil) [] i=some (.int .i64 z):=Iy ht (by rw[uX,List.getElem?_map,hz];rfl);rw[a0] at a1;injection a1 with a1;subst a1
   simp only[VR] at a4;rw[a3,a4, ←hv]
 ·rintro ⟨c,e,rfl,h1,h2,h3⟩;refine⟨c,e,rfl,h1,by omega,fun i hi=>?_⟩;have iu:i<(lU l).length:=by rw[CC];omega
  have hz:(lU l)[i]? =some (lU l)[i]:=List.getElem?_eq_getElem iu;refine⟨.int .i64 (lU l)[i],.int .i64 (lU l)[i],Iy ht (by rw[uX,List.getElem?_map,hz];rfl),rfl,h3 i _ (by rw[FC,List.getElem?_map,hz];rfl),by simp only[VR]⟩
section
variable {P:Program} {B:aI} {ρ:Ren} {w:World} {s s1:AS} {f g:FuncId}
theorem abv(hj:Di P f g){YR:aJ}{args:List AV}{vs:Array Value}(r:Rel B ρ s.h w)(hv:ay ρ args vs.toList)(h:tJ g YR args s= .ok x s1):jk P ((callFunc f vs).run P w)<|km B ρ s s1 w x:=by
 obtain⟨fn,body,cm,cw,dF⟩:=hj.is;rw[sB cm cw dF];show Calls P f vs w _;obtain⟨vs⟩:=vs;unfold tJ at h;split at h
 ·rename_i len c g';obtain⟨hg,h3⟩:=wN h;subst hg;obtain⟨rfl,rfl⟩:=bB h3;simp only[ay] at hv;obtain⟨v1,l1,rfl,h1,v2,l2,rfl,h2,rfl⟩:=hv;obtain⟨rfl,_,rfl⟩:=lN h1;simp only[VR] at h2;obtain⟨_,⟨f1⟩,⟨c1⟩,rfl,e1,e2⟩:=h2;simp only[ay] at e1 e2;subst e1;subst e2;refine(hj.Xo none _ w).mono fun e w'=>?_;rintro ⟨rfl,rfl⟩;exact⟨_,rfl,ρ,Ext.refl _ _ _,by simp only[VR,ay];exact⟨_,rfl,rfl⟩,r,cx.refl _ _⟩
 ·rename_i n len lo ke g';obtain⟨hg,h3⟩:=wN h;subst hg;obtain⟨o,s2,k1,h4⟩:=M.aN h3;obtain⟨l,k2,h5⟩:=bw h4;obtain⟨⟨rfl,nd⟩,h6⟩:=wN h5;obtain⟨u,s3,k3,h7⟩:=M.aN h6;obtain⟨rfl,rfl⟩:=bB h7;obtain⟨rfl,hl⟩:=abt k2;obtain⟨a1,a2,a3,a4⟩:=fX k1;obtain⟨b1,b2,_,b4,b5⟩:=jB k3;simp only[ay] at hv;obtain⟨v1,l1,rfl,h1,v2,l2,rfl,h2,rfl⟩:=hv;simp only[VR] at h1;obtain⟨b,N,cc,jv,rfl,c1,c2,c3⟩:=h1;simp only[VR] at h2;obtain⟨_,⟨f1⟩,⟨c1⟩,rfl,e1,e2⟩:=h2;simp only[ay] at e1 e2;subst e1;subst e2;obtain⟨o',hb,hO,hB⟩:=r.block b2 a2 jv;obtain⟨cs,e,rfl,q1,q2,q3⟩:=(VQ hl).1 hO;refine(hj.rows b cc l cs e w hb q3 hl nd).mono fun e' w'=>?_;rintro ⟨rfl,⟨w1,w2,w3,w4⟩,w5,wz,w6,w7,w8⟩;have Lv:=ib hb;let W:World:={w with heap:=w.heap.setIfInBounds b<|.cells wz e (0,0)};have o1:u0 b w W:=⟨rfl,rfl,rfl,Array.size_setIfInBounds,fun k hk=>Array.getElem?_setIfInBounds_ne<|Ne.symm hk⟩;have o2:W.heap[b]? =some (.cells wz e (0,0)):=Array.getElem?_setIfInBounds_self_of_lt Lv;have hs:W.heap.size=w.heap.size:=Array.size_setIfInBounds;have o3:gP W w':=⟨w1,w2,w3,by rw[hs];exact w4,fun k hk=>by
   by_cases q:k=b
   ·subst q;rw[o2,w6]
   ·rw[w5 k (by rw[←hs];exact hk) q,o1.block k q]⟩
  have r1:Rel B ρ (s.h.put n<|some<|aD aS<|dR l) W:=r.put b2 a2 rfl rfl jv rfl o1 o2<|(VQ (by rw[Aw];exact hl)).2 ⟨wz,e,rfl,by rw[w7];exact q1,by rw[Aw];exact q2,w8⟩;refine⟨_,rfl,ρ,by rw[b5,a4];exact Ext.refl _ _ _,by simp only[VR,ay];exact⟨_,rfl,rfl⟩,by rw[b4,a3];exact r1.Bu o3,(o1.below<|hB rfl).trans<|o3.below fun k hk=>r.size k (by rw[←hs];exact hk)⟩
 ·cases h
end
theorem acI{X:TX}{P:Program}{J:Nat}{ns:List Nat}{h0:Tr ae}{L:bO}{f g:FuncId}(h:dT X J P<|dt J ns h0 L)(hj:Di P f g):dT X J P<|dt J ns h0<|(f,.raw fun _ _ _=>tJ g)::L:=(show dT X J P (oQ (dt J ns h0 L) f<|tJ g) from h.my (fun YR _ args=>YQ.tJ _ YR args) fun B hB hT YR hc hl args x s s1 ρ w vs fi r hg hf hm hv=>abv hj r hv hm)
theorem abw{P:Program}{f g:Nat}(h:sp f=some (tJ g)){a lo ke:Nat}{s:AS}(ha:Nat.blt a s.nx=true)(ax:Nat.blt a top=true)(hg:s.h.get a=some (aD aS l))(hl:l.length<=1000000)(nd:(l.map (·.1)).Nodup):
 aZ P sp F (n+1) (.fn f) [.slice (some (a,0)) l.length<|.aq lo ke,.func (.func g) [] []] s= .ok (.tuple []) (fp a (some<|aD aS<|dR l)<|aV a s):=by
 show jK P sp f (aZ P sp F n) [.slice (some (a,0)) l.length<|.aq lo ke,.func (.func g) [] []] s=_;rw[rp h];show(iI (g=g) <| (bu a).bind fun o=>aA (DH o) fun l'=>iI (l.length=l'.length/\(l'.map (·.1)).Nodup) <| (bK a<|some<|aD aS<|dR l').bind fun _=>M.pure<|AV.tuple []) s=_;rw[wQ rfl,M.bL<|lR ha hg,abu hl,bV,wQ ⟨rfl,nd⟩];have h1:Nat.blt a (aV a s).nx=true:=by rw[(fN a s).2.1];exact ha
 have h2:(aV a s).h.get a=some (aD aS l):=by rw[(fN a s).1];exact hg
 rw[M.bL<|wY h1 h2 rfl ax];rfl
theorem acJ{P:Program}{f g:Nat}(h:sp f=some (tJ g)){s:AS}{len:Nat}{c:bZ}:aZ P sp F (n+1) (.fn f) [.slice none len c,.func (.func g) [] []] s= .ok (.tuple []) s:=by show jK P sp f (aZ P sp F n) [.slice none len c,.func (.func g) [] []] s=_;rw[rp h];show(iI (g=g) <| M.pure<|AV.tuple []) s=_;rw[wQ rfl];rfl
end Go.Rn
open Go
namespace Go.Rn
section
variable {X:TX} {P:Program} {J:Nat} {ns:List Nat} {h0:Tr ae} {L:bO} {g:Nat} {fn:Func} {body:Code}
theorem aax{j9:FuncId->Nat}(hw:∀B,Vy P B j9)(hP:bS P)(ga:fL<=J)(dM:J<=top)(dL:∀n o,n<top->h0.get n=some o->n∈ns)(eC:∀n∈ns,n<J){val:List AV->Option AV}(h:dT X J P<|dt J ns h0 L)(cm:P.funcs[g]? =some fn)(cw:fn.body=some body)(dF:(fn.name == "runtime.NumGoroutine")=false)(eV:∀args v,val args=some v->∃n s1,zA P j9 n (.fn g) args ⟨h0,J,0,[],[]⟩= .ok v s1):dT X J P<|dt J ns h0<|(g,.val val)::L:=by
 refine(show dT X J P (oQ (dt J ns h0 L) g<|px J ns h0 val) from h.my (fun YR _ args=>YQ.px _ _ _ _ YR args) fun B hB hT YR hc hl args x s s1 ρ w vs fi r hg hf hm hv=>?_);unfold px at hm;obtain⟨gI,h1⟩:=cX hm;obtain⟨u,s2,h2,h3⟩:=M.aN h1;obtain⟨v,h4,h5⟩:=bw h3;obtain⟨h6,h7⟩:=cX h5;obtain⟨rfl,rfl⟩:=bB h7;obtain⟨a1,a2,a3⟩:=uI h2;obtain⟨n,s4,q⟩:=eV _ _ h4;have nK:=Dy dM r dL eC (fun n hn=>by obtain⟨_,o,p,h⟩:=a3 n hn;exact⟨o,p,h⟩);have fi:bC (⟨h0,J,0,[],[]⟩:AS):=⟨Nat.zero_le _,dM⟩;have z6:gD<|gj J ρ:=fun g iE=>by obtain⟨N,e⟩:=hg g iE;exact⟨N,by unfold gj;rw[if_pos<|Nat.lt_of_lt_of_le iE ga];exact e⟩
 have bH:=(TC (B:=rB B ρ w) hP (hw _) n).fn g args x ⟨h0,J,0,[],[]⟩ s4 (gj J ρ) w vs fi nK z6 (fun k k1 _ k2=>by
  have k1:J<=k:=k1;unfold gj gp;rw[if_neg aj,if_neg aj])
  q (AV.Ba (fun k y hk e=>by rw[sR dM hk];exact e) gI hv)
 rw[sB cm cw dF] at bH ⊢;have bH:Calls P g vs w _:=bH;show Calls P g vs w _;refine bH.mono fun e w'=>?_;rintro ⟨y,rfl,σ,e1,e2,e3,e4⟩;obtain⟨b1,b2,b3,b4⟩:=Jg (a:=s.nx) dM r e3 e4 e1.le;exact⟨y,rfl,cF ρ σ,by rw[a2];exact b1,AV.pB b2 h6 e2,by rw[a1];exact b3,b4⟩
end
end Go.Rn
