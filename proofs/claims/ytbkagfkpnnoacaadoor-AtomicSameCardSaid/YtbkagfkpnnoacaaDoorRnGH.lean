import Derived.Test.YtbkagfkpnnoacaaDoorRnGG
import Derived.Test.YtbkagfkpnnoacaaDoorRnGE
import Derived.Test.YtbkagfkpnnoacaaDoorRnGC
import Derived.Test.YtbkagfkpnnoacaaDoorRnGF
import Derived.Test.YtbkagfkpnnoacaaDoorRnGD
set_option maxRecDepth 100000
set_option maxHeartbeats 8000000
set_option linter.unusedSimpArgs false
set_option linter.unusedVariables false
namespace Go.Rn
open Go.RowKit
variable {J g:Nat} {ns:List Nat} {h0:Tr ae} {P:Program} {ρ:Ren} {s:AS} {kn:List<|Nat×Option ae} {fn:Func} {body:Code}
def fe(d s:List<|Int×Int):List<|Int×Int:=s.foldl (fun d p=>fM d p.1 p.2) d
theorem UA:∀{a b:List<|Int×Int},cn a=cn b->a=b
 |[],[],_=>rfl
 |[],_::_,h=>by cases h
 |_::_,[],h=>by cases h
 |(x,y)::a,(z,u)::b,h=>by have h:(AV.int .i64 x,AV.int .i64 y)::cn a=(.int .i64 z,.int .i64 u)::cn b:=h;simp only[List.cons.injEq,Prod.mk.injEq,AV.int.injEq,true_and] at h;rw[h.1.1,h.1.2,UA h.2]
open Classical in
noncomputable def yR(o:ae):Option<|List<|Int×Int:=if h:∃m,o=bz m then some h.choose else none
theorem Sh{o:ae}{m:List<|Int×Int}(h:yR o=some m):o=bz m:=by
 unfold yR at h;split at h
 ·rename_i q;injection h with h;rw[←h];exact q.choose_spec
 ·cases h
theorem Si(m:List<|Int×Int):yR (bz m)=some m:=by
 unfold yR;have q:∃m',bz m=bz m':=⟨m,rfl⟩;rw[dif_pos q];have e:=q.choose_spec;have e:ae.lq (cn m)= .lq (cn q.choose):=e;injection e with e
 exact congrArg some (UA e).symm
noncomputable def wc(J:Nat)(ns:List Nat)(h0:Tr ae):aK->List AV->M AV:=fun _ args=>match args with
 |[.map (some a),.map (some b)]=>(fG J h0 ns).bind fun _=>iI (a≠b) <| (bt a).bind fun o1=>(bt b).bind fun o2=>
  aB (yR o1) fun m1=>aB (yR o2) fun m2=>iI ((m1.map (·.1)).Nodup/\(m2.map (·.1)).Nodup) <|
  (bJ a<|some<|bz<|fe m1 m2).bind fun _=>(bJ b<|some<|bz m2).bind fun _=>M.pure<|.tuple []
 |_=>fail
theorem YF.wc(J:Nat)(ns:List Nat)(h0:Tr ae)(YG:aK)(args:List AV):YF<|wc J ns h0 YG args:=by
 unfold Rn.wc;split
 ·refine YF.bind (YF.fG J h0 ns) fun _=>YF.iI <| YF.bind (YF.bt _) fun _=>YF.bind (YF.bt _) fun _=>YF.aB fun _ _=>YF.aB fun _ _=>YF.iI <| YF.bind (YF.bJ _ _) fun _=>YF.bind (YF.bJ _ _) fun _=>YF.pure _
 ·exact YF.fail
def PS(J:Nat)(P:Program)(rs:List ResultVar)(m1 m2:List<|Int×Int):=Fin P rs fun y s'=>y= .tuple []/\s'.h.get J=some (bz<|fe m1 m2)/\s'.h.get (J+1)=some (bz m2)
theorem uL{σ:Ren}{N:Nat}{o':Obj}{m:List<|Int×Int}(h:OR ρ N (bz m) o'):OR σ N (bz m) o':=by
 obtain⟨l,bp,rfl,h1,h2,l',h3,h4⟩:=h;refine⟨l,bp,rfl,h1,h2,l',h3,?_⟩;have:∀(m:List<|Int×Int) (l:List MapEntry),dM ρ (cn m) l->dM σ (cn m) l:=by
  intro m;induction m with
  |nil=>intro l h;simpa only[cn,List.map_nil,dM] using h
  |cons p m ih=>intro l h;have h:dM ρ ((.int .i64 p.1,.int .i64 p.2)::cn m) l:=h;show dM σ ((.int .i64 p.1,.int .i64 p.2)::cn m) l;simp only[dM,VR] at h ⊢;obtain⟨e,l',h1,h2,h3,h4⟩:=h;exact⟨e,l',h1,h2,h3,ih l' h4⟩
 exact this m l' h4
theorem adj{B:aJ}{f:Nat}{w:World}{s1:AS}(hP:bS P)(cj:P.funcs[f]? =some fn)(ct:fn.body=some body)(dE:(fn.name == "runtime.NumGoroutine")=false)(fY:fI<=J)(dK:J+2<=top)(dJ:∀n o,n<top->h0.get n=some o->n∈ns)(eD:∀n∈ns,n<J)(jl:∀n o,(n,some o)∈kn->h0.get n=some o)(jr:∀p∈kn,p.1<top)(eT:∀m1 m2:List<|Int×Int,(m1.map (·.1)).Nodup->(m2.map (·.1)).Nodup->max fn.ntmps 2<=top/\∀B':aJ,B'.F=B.F->B'.inv=B.inv->
 au P B' (J+2) (PS J P fn.results.toList m1 m2) ⟨f,dt [.map<|some J,.map<|some<|J+1],max fn.ntmps 2,[.code body],[],none⟩ ⟨fR<|kn++aX [(J,bz m1),(J+1,bz m2)],J+2,0,[],[]⟩){YG:aK}{args:List AV}{x:AV}{vs:Array Value}(r:Rel B ρ s.h w)(hg:gC ρ)(h:wc J ns h0 YG args s= .ok x s1)(hv:ay ρ args vs.toList):jg P ((callFunc f vs).run P w)<|ki B ρ s s1 w x:=by
 unfold wc at h;split at h
 ·rename_i n1 n2;obtain⟨u,s2,h2,h3⟩:=M.aN h;obtain⟨a1,a2,a3⟩:=uC h2;obtain⟨cf,h3⟩:=wG h3;obtain⟨o1,s3,k1,h3⟩:=M.aN h3;obtain⟨o2,s4,k2,h3⟩:=M.aN h3;obtain⟨m1,KZ,h3⟩:=bu h3;obtain⟨m2,cN,h3⟩:=bu h3;obtain⟨⟨nd1,nd2⟩,h3⟩:=wG h3;obtain⟨u1,t1,w1,h3⟩:=M.aN h3;obtain⟨u2,t2,w2,h3⟩:=M.aN h3;obtain⟨rfl,rfl⟩:=bA h3;obtain⟨r1,r2,r3,r4⟩:=fU k1;obtain⟨r5,r6,r7,r8⟩:=fU k2;obtain⟨x1,x2,_,x4,x5⟩:=jx w1;obtain⟨y1,y2,_,y4,y5⟩:=jx w2;rw[Sh KZ,a1] at r2;rw[Sh cN,r3,a1] at r6;let V:Vw:=[(J,n1,bz m1),(J+1,n2,bz m2)];have mem:∀q∈V,q=(J,n1,bz m1)\/q=(J+1,n2,bz m2):=fun q hq=>by simpa[V] using hq
  have e0:∀gF:Ren,eU J gF V J=gF n1:=fun gF=>by
   unfold eU;rw[if_neg aj,if_neg aj];have:gJ V J=some n1:=by simp[gJ,V]
   rw[this]
  have e1:∀gF:Ren,eU J gF V (J+1)=gF n2:=fun gF=>by
   unfold eU;rw[if_neg aj,if_neg aj];have:gJ V (J+1)=some n2:=by simp[gJ,V]
   rw[this]
  have hi:jh ρ<|eU J ρ V:=fun m x hm e=>by rw[yJ aj hm];exact e
  have hV:zS J ρ s.h V:=by
   refine⟨fun q hq=>?_,fun q hq q' dY e=>?_,fun q hq q' dY e=>?_,fun q hq=>?_⟩
   ·rcases mem q hq with rfl|rfl
    ·exact⟨Nat.le_refl _,by omega,x2⟩
    ·exact⟨by omega,by omega,y2⟩
   ·rcases mem q hq with rfl|rfl<;>rcases mem q' dY with rfl|rfl<;>first|rfl|(simp only at e;omega)
   ·rcases mem q hq with rfl|rfl<;>rcases mem q' dY with rfl|rfl<;>first|rfl|(simp only at e;omega)
   ·rcases mem q hq with rfl|rfl
    ·exact⟨_,r2,.inl ⟨rfl,rfl,fun N o' hO=>uL hO⟩⟩
    ·exact⟨_,r6,.inl ⟨rfl,rfl,fun N o' hO=>uL hO⟩⟩
  obtain⟨_,cU,T⟩:=r.tk;have T:DL B ρ s.h w cU:=T;have nJ:=JN aj r T dJ eD jl jr (fun n hn=>by obtain⟨_,o,p,h⟩:=a3 n hn;exact⟨o,p,h⟩) hV;obtain⟨d1,d2⟩:=eT m1 m2 nd1 nd2;have fi:bB (⟨fR<|kn++aX [(J,bz m1),(J+1,bz m2)],J+2,0,[],[]⟩:AS):=⟨Nat.zero_le _,dK⟩;have kq:ay (eU J ρ V) [.map<|some J,.map<|some<|J+1] vs.toList:=by simp only[ay,VR] at hv ⊢;obtain⟨y0,ys,q1,⟨b',N',q2,Qr⟩,y3,D4,q3,⟨b'',N'',q4,q5⟩,q6⟩:=hv;exact⟨y0,ys,q1,⟨b',N',(e0 ρ).trans q2,Qr⟩,y3,D4,q3,⟨b'',N'',(e1 ρ).trans q4,q5⟩,q6⟩
  have bG:=au.FB (B:=tw B ρ w<|wH ρ cU V) (s:=⟨fR<|kn++aX [(J,bz m1),(J+1,bz m2)],J+2,0,[],[]⟩) (args:=[.map<|some J,.map<|some<|J+1]) (vs:=vs) hP cj ct d1 (d2 _ rfl rfl) fi nJ (fun g iF=>by
   obtain⟨N,e⟩:=hg g iF;exact⟨N,by rw[CL<|Nat.lt_of_lt_of_le iF fY];exact e⟩) (fun m hm j9=>by
   have hm:J+2<=m:=hm;exact HT aj j9 fun q hq=>by rcases mem q hq with rfl|rfl<;>(show _≠m;simp only;omega)) kq
  rw[si cj ct dE];show Calls P f vs w _;refine bG.mono fun e w'=>?_;rintro ⟨B4,x',s7,rfl,⟨rfl,j1,j2⟩,_,σ,i0,B5,i1,i2,i3⟩;have sV:∀q∈V,σ q.1=ρ q.2.1:=fun q hq=>by
   rcases mem q hq with rfl|rfl
   ·exact(i0 J aj aj).trans<|e0 ρ
   ·exact(i0 (J+1) aj aj).trans<|e1 ρ
  have qM:jh σ<|cC ρ σ:=fun k x hk e=>by unfold cC;rw[if_pos hk];exact e
  have V0:(J,n1,bz m1)∈V:=by simp[V]
  have V1:(J+1,n2,bz m2)∈V:=by simp[V]
  obtain⟨b1,b2,b3,b4⟩:=I9 (a:=s.nx) (L2:=[(n1,bz<|fe m1 m2),(n2,bz m2)]) (h':=s1.h) r T hV i2 i3 sV (fun m z hm q=>B5 m z hm<|hi m z hm q) (fun n q hm=>by
   rcases List.mem_cons.1 hm with hm|hm
   ·cases hm;exact⟨_,V0,rfl,_,j1,.inl ⟨rfl,rfl,fun N o' hO=>uL hO⟩⟩
   rcases List.mem_cons.1 hm with hm|hm
   ·cases hm;exact⟨_,V1,rfl,_,j2,.inl ⟨rfl,rfl,fun N o' hO=>uL hO⟩⟩
   cases hm) (fun q hq _=>by
   rcases mem q hq with rfl|rfl
   ·exact⟨_,j1,rfl⟩
   ·exact⟨_,j2,rfl⟩) (fun k hk=>by
   have G1:s1.h=(s.h.put n1<|some<|bz<|fe m1 m2).put n2 (some<|bz m2):=by rw[y4,x4,r7,r3,a1]
   rw[G1,Tr.da _ _ _ _ y2 hk,Tr.da _ _ _ _ x2 hk];by_cases q2:k=n2
   ·subst q2;exact .inl ⟨_,by simp,if_pos rfl⟩
   rw[if_neg q2];by_cases q1:k=n1
   ·subst q1;exact .inl ⟨_,by simp,if_pos rfl⟩
   rw[if_neg q1];exact .inr ⟨fun q hq=>by rcases mem q hq with rfl|rfl<;>(intro e;exact absurd e.symm<|by assumption),rfl⟩)
  refine⟨B4,rfl,cC ρ σ,?_,AV.pB qM rfl i1,b3,b4⟩;have cr:s1.nx=s.nx:=by rw[y5,x5,r8,r4,a2]
  rw[cr];exact b1
 ·cases h
theorem ae3{X:TX}{L L':bO}(hP:bS P)(fY:fI<=J)(dK:J+2<=top)(dJ:∀n o,n<top->h0.get n=some o->n∈ns)(eD:∀n∈ns,n<J)(jl:∀n o,(n,some o)∈kn->h0.get n=some o)(jr:∀p∈kn,p.1<top)(h:dR X J P<|dk J ns h0 L)(h':dR X J P<|dk J ns h0 L')(cj:P.funcs[g]? =some fn)(ct:fn.body=some body)(dE:(fn.name == "runtime.NumGoroutine")=false)(eT:∀m1 m2:List<|Int×Int,(m1.map (·.1)).Nodup->(m2.map (·.1)).Nodup->max fn.ntmps 2<=top/\∀B:aJ,qz X P J ns h0 L' B->
 au P B (J+2) (PS J P fn.results.toList m1 m2) ⟨g,dt [.map<|some J,.map<|some<|J+1],max fn.ntmps 2,[.code body],[],none⟩ ⟨fR<|kn++aX [(J,bz m1),(J+1,bz m2)],J+2,0,[],[]⟩):dR X J P<|dk J ns h0<|(g,.raw wc)::L:=by
 refine(show dR X J P (oT (dk J ns h0 L) g<|wc J ns h0) from h.mq (fun YG _ args=>YF.wc _ _ _ YG args) fun B hB hT YG hc hl args x s s1 ρ w vs fi r hg hf hm hv=>?_);refine adj hP cj ct dE fY dK dJ eD jl jr (fun m1 m2 n1 n2=>?_) r hg hm hv;obtain⟨q1,q2⟩:=eT m1 m2 n1 n2;exact⟨q1,fun B' lE lF=>q2 B'<|qA hP h' (lE.trans hB)<|lF.trans hT⟩
theorem UB{F:Nat->Option (List AV)}{sp:Sp}{n:Nat}(h:sp g=some (wc J ns h0)){a b:Nat}{m1 m2:List<|Int×Int}(hk:pK J h0 ns s=true)(GL:a≠b)(ha:Nat.blt a (dB J h0 ns s).nx=true)(hb:Nat.blt b (dB J h0 ns s).nx=true)(ax:Nat.blt a top=true)(XR:Nat.blt b top=true)(g1:(dB J h0 ns s).h.get a=some (bz m1))(g2:(dB J h0 ns s).h.get b=some (bz m2))(n1:(m1.map (·.1)).Nodup)(n2:(m2.map (·.1)).Nodup):
 bc P sp F (n+1) (.fn g) [.map<|some a,.map<|some b] s= .ok (.tuple []) (fl b (some<|bz m2)<|fl a (some<|bz<|fe m1 m2)<|aU b<|aU a<|dB J h0 ns s):=by
 show jH P sp g (bc P sp F n) [.map<|some a,.map<|some b] s=_;rw[qZ h];show((fG J h0 ns).bind fun _=>iI (a≠b) <| (bt a).bind fun o1=>(bt b).bind fun o2=>
  aB (yR o1) fun m1=>aB (yR o2) fun m2=>iI ((m1.map (·.1)).Nodup/\(m2.map (·.1)).Nodup) <|
  (bJ a<|some<|bz<|fe m1 m2).bind fun _=>(bJ b<|some<|bz m2).bind fun _=>M.pure<|AV.tuple []) s=_
 rw[M.bK<|xg hk,wL GL,M.bK<|lN ha g1];generalize dB J h0 ns s=z at*;have fN:Nat.blt b (aU a z).nx=true:=by rw[(fL a z).2.1];exact hb
 have zI:(aU a z).h.get b=some (bz m2):=by rw[(fL a z).1];exact g2
 rw[M.bK<|lN fN zI,Si,bQ,Si,bQ,wL ⟨n1,n2⟩];have ha2:Nat.blt a (aU b<|aU a z).nx=true:=by rw[(fL b _).2.1,(fL a z).2.1];exact ha
 have ga2:(aU b<|aU a z).h.get a=some (bz m1):=by rw[(fL b _).1,(fL a z).1];exact g1
 rw[M.bK<|wT ha2 ga2 rfl ax];have wn:∀(n:Nat) (o:Option ae) (s:AS),(fl n o s).nx=s.nx/\(fl n o s).h=s.h.put n o:=fun n o s=>by unfold fl;cases Nat.blt n s.mark<;>exact⟨rfl,rfl⟩
 have hb3:Nat.blt b (fl a (some<|bz<|fe m1 m2)<|aU b<|aU a z).nx=true:=by rw[(wn _ _ _).1,(fL b _).2.1];exact fN
 have gb3:(fl a (some<|bz<|fe m1 m2)<|aU b<|aU a z).h.get b=some (bz m2):=by rw[(wn _ _ _).2,Tr.da _ _ _ _ ((blt_eq _ _).mp ax)<|(blt_eq _ _).mp XR,if_neg<|Ne.symm GL,(fL b _).1];exact zI
 rw[M.bK<|wT hb3 gb3 rfl XR];rfl
end Go.Rn
namespace Go.Rn
open Go.RowKit
variable {ρ σ:Ren} {o':Obj} {m' b a:List<|Int×Int} {N:Nat}
abbrev dU(m:List<|Int×Int):Prop:=(m.map (·.1)).Nodup
def jV:List (Int×Int)->Int->Option Int
 |[],_=>none
 |p::l,k=>if p.1=k then some p.2 else jV l k
theorem adk(m:List<|Int×Int)(k v j:Int):jV (fM m k v) j=if k=j then some v else jV m j:=by
 induction m with
 |nil=>simp[fM,jV]
 |cons p l ih=>
  unfold fM;by_cases e:p.1=k
  ·rw[if_pos e];by_cases q:k=j
   ·simp[jV,q]
   ·simp[jV,q,e]
  ·rw[if_neg e];by_cases q:p.1=j
   ·have:k≠j:=fun h=>e<|q.trans h.symm;simp[jV,q,this]
   ·simp only[jV,if_neg q];exact ih
theorem ab0(m:List<|Int×Int)(k v:Int):∀j,j∈(fM m k v).map (·.1)↔j=k\/j∈m.map (·.1):=by
 intro j;induction m with
 |nil=>simp[fM]
 |cons p l ih=>
  unfold fM;by_cases e:p.1=k
  ·rw[if_pos e];simp only[List.map_cons,List.mem_cons];constructor
   ·rintro (h|h)
    ·exact .inl h
    ·exact .inr<|.inr h
   ·rintro (h|h|h)
    ·exact .inl h
    ·exact .inl<|h.trans e
    ·exact .inr h
  ·rw[if_neg e];simp only[List.map_cons,List.mem_cons];rw[ih];constructor
   ·rintro (h|h|h)
    ·exact .inr<|.inl h
    ·exact .inl h
    ·exact .inr<|.inr h
   ·rintro (h|h|h)
    ·exact .inr<|.inl h
    ·exact .inl h
    ·exact .inr<|.inr h
theorem dU.set{m:List<|Int×Int}(h:dU m)(k v:Int):dU<|fM m k v:=by
 induction m with
 |nil=>simp[dU,fM]
 |cons p l ih=>
  have h:(p.1::l.map (·.1)).Nodup:=h;obtain⟨h1,h2⟩:=List.nodup_cons.1 h;unfold fM;by_cases e:p.1=k
  ·rw[if_pos e];show(k::l.map (·.1)).Nodup;rw[←e];exact h
  ·rw[if_neg e];show(p.1::(fM l k v).map (·.1)).Nodup;refine List.nodup_cons.2 ⟨fun q=>?_,ih h2⟩;rcases(ab0 l k v p.1).1 q with q|q
   ·exact e q
   ·exact h1 q
theorem AJ{m:List<|Int×Int}(h:dU m)(k v:Int):(k,v)∈m↔jV m k=some v:=by
 induction m with
 |nil=>simp[jV]
 |cons p l ih=>
  have h:(p.1::l.map (·.1)).Nodup:=h;obtain⟨h1,h2⟩:=List.nodup_cons.1 h;unfold jV;by_cases e:p.1=k
  ·rw[if_pos e,List.mem_cons];constructor
   ·rintro (q|q)
    ·rw[←q]
    ·exact absurd (List.mem_map.2 ⟨_,q,rfl⟩) (by rw[←e] at*;exact h1)
   ·intro q;injection q with q
    obtain⟨a,b⟩:=p;simp only at e q;rw[e,q];exact .inl rfl
  ·rw[if_neg e,List.mem_cons, ←ih h2];constructor
   ·rintro (q|q)
    ·rw[←q] at e;exact absurd rfl e
    ·exact q
   ·exact .inr
theorem dU.nodup{m:List<|Int×Int}(h:dU m):m.Nodup:=by
 induction m with
 |nil=>exact List.nodup_nil
 |cons p l ih=>have h:(p.1::l.map (·.1)).Nodup:=h;obtain⟨h1,h2⟩:=List.nodup_cons.1 h;exact List.nodup_cons.2 ⟨fun q=>h1<|List.mem_map.2 ⟨_,q,rfl⟩,ih h2⟩
theorem ab1(ha:dU a)(hb:dU b)(h:∀k,jV a k=jV b k):a.Perm b:=(List.perm_ext_iff_of_nodup ha.nodup hb.nodup).2 fun⟨k,v⟩=>by rw[AJ ha,AJ hb,h]
theorem ab2(ha:dU a)(h:a.Perm b)(k:Int):jV a k=jV b k:=by
 have hb:dU b:=(h.map (·.1)).nodup_iff.1 ha;cases e:jV a k with
 |some v=>exact((AJ hb k v).1<|h.mem_iff.1<|(AJ ha k v).2 e).symm
 |none=>
  cases e2:jV b k with
  |none=>rfl
  |some v=>have:=(AJ ha k v).1<|h.mem_iff.2<|(AJ hb k v).2 e2;rw[e] at this;cases this
theorem dU.merge:∀{s d:List<|Int×Int},dU d->dU (fe d s)
 |[],d,h=>h
 |p::s,d,h=>dU.merge (s:=s)<|h.set p.1 p.2
theorem MB:∀(s d:List<|Int×Int) (k:Int),dU s->jV (fe d s) k=match jV s k with|some v=>some v|none=>jV d k
 |[],d,k,_=>rfl
 |p::s,d,k,h=>by
  have h:(p.1::s.map (·.1)).Nodup:=h;obtain⟨h1,h2⟩:=List.nodup_cons.1 h;show jV (fe (fM d p.1 p.2) s) k=_;have oc:jV (p::s) k=if p.1=k then some p.2 else jV s k:=rfl
  rw[MB s _ k h2,adk,oc];by_cases e:p.1=k
  ·rw[if_pos e,if_pos e];have:jV s k=none:=by
    cases q:jV s k with
    |none=>rfl
    |some v=>exact absurd (List.mem_map.2 ⟨_,(AJ h2 k v).2 q,rfl⟩) (by rw[←e];exact h1)
   rw[this]
  ·rw[if_neg e,if_neg e]
theorem Z1{d s s':List<|Int×Int}(hd:dU d)(hs:dU s)(h:s.Perm s'):(fe d s).Perm<|fe d s':=by have Qz:dU s':=(h.map (·.1)).nodup_iff.1 hs;refine ab1 hd.merge hd.merge fun k=>?_;rw[MB s d k hs,MB s' d k Qz,ab2 hs h]
theorem Z2(d s:List<|Int×Int)(p:Int×Int):fe d (s++[p])=fM (fe d s) p.1 p.2:=by unfold fe;rw[List.foldl_append];rfl
theorem HU:∀{l:List<|Int×Int} {x:AV×AV} {r:List<|AV×AV},(x,r)∈xw (cn l)->∃(p:Int×Int) (l':List<|Int×Int),x=(.int .i64 p.1,.int .i64 p.2)/\r=cn l'/\l.Perm (p::l')
 |[],x,r,h=>by cases h
 |a::l,x,r,h=>by
  have h:(x,r)∈(((AV.int .i64 a.1,AV.int .i64 a.2),cn l)::(xw<|cn l).map fun(y,r)=>(y,(AV.int .i64 a.1,AV.int .i64 a.2)::r)):=h;rcases List.mem_cons.1 h with h|h
  ·injection h with h1 h2
   exact⟨a,l,h1,h2,List.Perm.refl _⟩
  ·obtain⟨⟨y,r'⟩,hm,e⟩:=List.mem_map.1 h;simp only[Prod.mk.injEq] at e;obtain⟨p,l',h1,h2,h3⟩:=HU hm;refine⟨p,a::l',by rw[←e.1];exact h1,by rw[←e.2,h2];rfl,?_⟩;exact(h3.cons a).trans<|List.Perm.swap p a l'
theorem ab3{m:List<|Int×Int}(h:m.Perm m'):∀{l:List MapEntry},dM ρ (cn m) l->∃l',l.Perm l'/\dM ρ (cn m') l':=by
 induction h with
 |nil=>intro l h;exact⟨l,List.Perm.refl _,h⟩
 |cons x _ ih=>intro l h;have h:dM ρ ((.int .i64 x.1,.int .i64 x.2)::cn _) l:=h;simp only[dM] at h;obtain⟨e,es,rfl,h1,h2,h3⟩:=h;obtain⟨l',q1,q2⟩:=ih h3;exact⟨e::l',q1.cons e,by show dM ρ ((.int .i64 x.1,.int .i64 x.2)::cn _) _;simp only[dM];exact⟨e,l',rfl,h1,h2,q2⟩⟩
 |swap x y l0=>intro l h;have h:dM ρ ((.int .i64 y.1,.int .i64 y.2)::(.int .i64 x.1,.int .i64 x.2)::cn l0) l:=h;simp only[dM] at h;obtain⟨e,es,rfl,h1,h2,e',gY,rfl,h3,h4,h5⟩:=h;exact⟨e'::e::gY,List.Perm.swap _ _ _,by show dM ρ ((.int .i64 x.1,.int .i64 x.2)::(.int .i64 y.1,.int .i64 y.2)::cn l0) _;simp only[dM];exact⟨e',_,rfl,h3,h4,e,gY,rfl,h1,h2,h5⟩⟩
 |trans _ _ ih1 ih2=>intro l h;obtain⟨l1,q1,q2⟩:=ih1 h;obtain⟨l2,q3,q4⟩:=ih2 q2;exact⟨l2,q1.trans q3,q4⟩
theorem aaR{a b:Int}(h:a≠b):sameKey (.int .i64 a) (.int .i64 b)=some false/\sameKey (.int .i64 b) (.int .i64 a)=some false:=by
 rw[Ty,Ty];constructor
 ·rw[show(a == b)=false by simpa using h]
 ·rw[show(b == a)=false by simpa using fun e=>h e.symm]
theorem S3{m:List<|Int×Int}(h:dU m):lp<|cn m:=by
 unfold lp;induction m with
 |nil=>exact .nil
 |cons p l ih=>have h:(p.1::l.map (·.1)).Nodup:=h;obtain⟨h1,h2⟩:=List.nodup_cons.1 h;refine .cons (fun q hq=>?_)<|ih h2;obtain⟨z,hz,rfl⟩:=List.mem_map.1 hq;exact aaR fun e=>h1 (by rw[e];exact List.mem_map.2 ⟨z,hz,rfl⟩)
theorem Z3{m:List<|Int×Int}(hk:dU m')(hp:m.Perm m')(h:OR ρ N (bz m) o'):OR σ N (bz m') o':=by have h:OR σ N (bz m) o':=uL h;obtain⟨l,bp,rfl,h1,h2,l',h3,h4⟩:=h;obtain⟨l2,q1,q2⟩:=ab3 hp h4;exact⟨l,bp,rfl,S3 hk,h2,l2,h3.trans q1,q2⟩
theorem ab4{m:List<|Int×Int}(hk:dU m)(h:OR ρ N (xQ m) o'):OR σ N (bz m) o':=by obtain⟨l,h0,h1,h2⟩:∃l,o'= .map l m.length/\m.length=(cn m).length/\jY ρ (cn m) l.toList 0:=h;subst h0;have hb:=h2.Vj;rw[←h1] at hb;have:OR ρ N (bz m)<|.map l m.length:=⟨l,m.length,rfl,S3 hk,hb,l.toList,List.Perm.refl _,h2.eqs⟩;exact uL this
end Go.Rn
namespace Go.Rn
open Go.RowKit
variable {t:Tr AV} {s3:AS} {nt n fn:Nat} {v:AV} {aO:AF} {b a:Code}
noncomputable section
def vp(l:Nat)(fr:AF):AF:=⟨fr.fn,fr.tmps,fr.nt,fr.todo,fr.defers,some l⟩
end
section
variable {P:Program} {YG:aK} {s s1:AS} {l:Nat}
theorem CN{fr:AF}(h:(M.pure (bq.go fr):M bq) s= .ok (.go aO) s1):aO=fr/\s1=s:=by
 obtain⟨h1,h2⟩:=bA h;injection h1 with h1
 exact⟨h1,h2⟩
theorem ab5{fr:AF}(h:ja P YG fr s= .ok (.go aO) s1):aO.round=fr.round/\(fr.round=none->aO.defers=[]->fr.defers=[]/\ja P YG (vp l fr) s= .ok (.go<|vp l aO) s1):=by
 obtain⟨f,t,nt,K,d,r⟩:=fr;cases K with
 |nil=>have h':(M.pure (bq.leave ⟨f,t,nt,[],d,r⟩ none):M bq) s= .ok (.go aO) s1:=h;cases(bA h').1
 |cons it k=>
  have h':(vh P it).val YG f t nt d r k s= .ok (.go aO) s1:=h;have goal:∀(X:oy),(vh P it).val=X->X YG f t nt d r k s= .ok (.go aO) s1->(aO.round=r/\(r=none->aO.defers=[]->d=[]/\X YG f t nt d (some l) k s= .ok (.go<|vp l aO) s1))->aO.round=r/\(r=none->aO.defers=[]->d=[]/\ja P YG (vp l ⟨f,t,nt,it::k,d,r⟩) s= .ok (.go<|vp l aO) s1):=by rintro X hX _ ⟨h1,h2⟩;refine⟨h1,fun a b=>?_⟩;obtain⟨c,e⟩:=h2 a b;refine⟨c,?_⟩;show(vh P it).val YG f t nt d (some l) k s=_;rw[hX];exact e
  have pop:∀k',(M.pure (bq.go ⟨f,t,nt,k',d,r⟩):M bq) s= .ok (.go aO) s1->aO.round=r/\(r=none->aO.defers=[]->d=[]/\(M.pure (bq.go ⟨f,t,nt,k',d,some l⟩):M bq) s= .ok (.go<|vp l aO) s1):=by intro k' h;obtain⟨rfl,rfl⟩:=CN h;exact⟨rfl,fun _ b=>⟨b,rfl⟩⟩
  cases it with
  |code c=>
   cases c with
   |skip=>exact goal qq rfl h'<|pop _ h'
   |label n=>exact goal qq rfl h'<|pop _ h'
   |seq a b=>exact goal (nC [.code a,.code b]) rfl h'<|pop _ h'
   |cond c a b=>refine goal (JC c a b) rfl h' ?_;obtain⟨v,h1,h2⟩:=bu (show(aB (aH t c) fun v=>aB (w9 v) fun v=>M.pure<|bq.go ⟨f,t,nt,.code (@Bool.rec (fun _=>Code) b a v)::k,d,r⟩) s=_ from h');obtain⟨v',h3,h4⟩:=bu h2;obtain⟨q1,q2⟩:=pop _ h4;refine⟨q1,fun a' b'=>⟨(q2 a' b').1,?_⟩⟩;show(aB (aH t c) fun v=>aB (w9 v) fun v=>M.pure<|bq.go ⟨f,t,nt,.code (@Bool.rec (fun _=>Code) b a v)::k,d,some l⟩) s=_;rw[h1,bQ,h3,bQ];exact(q2 a' b').2
   |block i b=>exact goal (nC [.code b,.inBlock i]) rfl h'<|pop _ h'
   |loop b=>exact goal (nC [.code b,.inLoop b]) rfl h'<|pop _ h'
   |scope b=>exact goal (nC [.code b,.inScope b]) rfl h'<|pop _ h'
   |exit i=>
    refine goal (Df i) rfl h' ?_;have h2:(match exitTo i k with
     |some k'=>M.pure (bq.go ⟨f,t,nt,k',d,r⟩)
     |none=>M.pure<|bq.leave ⟨f,t,nt,.code (.exit i)::k,d,r⟩<|some<|.exit i) s= .ok (.go aO) s1:=h'
    cases e:exitTo i k with
    |none=>rw[e] at h2;cases(bA h2).1
    |some k'=>
     rw[e] at h2;obtain⟨q1,q2⟩:=pop _ h2;refine⟨q1,fun a' b'=>⟨(q2 a' b').1,?_⟩⟩;show(match exitTo i k with
      |some k'=>M.pure (bq.go ⟨f,t,nt,k',d,some l⟩)
      |none=>M.pure<|bq.leave ⟨f,t,nt,.code (.exit i)::k,d,some l⟩<|some<|.exit i) s=_
     rw[e];exact(q2 a' b').2
   |goto i=>
    refine goal (Dg i) rfl h' ?_;have h2:(match gotoIn i k with
     |some k'=>M.pure (bq.go ⟨f,t,nt,k',d,r⟩)
     |none=>M.pure<|bq.leave ⟨f,t,nt,.code (.goto i)::k,d,r⟩<|some<|.goto i) s= .ok (.go aO) s1:=h'
    cases e:gotoIn i k with
    |none=>rw[e] at h2;cases(bA h2).1
    |some k'=>
     rw[e] at h2;obtain⟨q1,q2⟩:=pop _ h2;refine⟨q1,fun a' b'=>⟨(q2 a' b').1,?_⟩⟩;show(match gotoIn i k with
      |some k'=>M.pure (bq.go ⟨f,t,nt,k',d,some l⟩)
      |none=>M.pure<|bq.leave ⟨f,t,nt,.code (.goto i)::k,d,some l⟩<|some<|.goto i) s=_
     rw[e];exact(q2 a' b').2
   |ret=>cases(bA (show(M.pure (bq.leave ⟨f,t,nt,.code .ret::k,d,r⟩<|some .ret):M bq) s= .ok (.go aO) s1 from h')).1
   |region i ops dr=>
    cases dr with
    |false=>refine goal (Iy P ops) rfl h' ?_;obtain⟨t1,s2,h2,h3⟩:=M.aN (show((jf P YG nt ops ops.toList t).bind fun t=>M.pure<|bq.go ⟨f,t,nt,k,d,r⟩) s= .ok (.go aO) s1 from h');obtain⟨rfl,rfl⟩:=CN h3;refine⟨rfl,fun a' b'=>⟨b',?_⟩⟩;show((jf P YG nt ops ops.toList t).bind fun t=>M.pure<|bq.go ⟨f,t,nt,k,d,some l⟩) s=_;rw[M.bK h2];rfl
    |true=>refine goal (H6 P ops) rfl h' ?_;obtain⟨t1,s2,h2,h3⟩:=M.aN (show((p7 P YG nt ops t).bind fun t=>M.pure<|bq.go ⟨f,t,nt,k,d,r⟩) s= .ok (.go aO) s1 from h');obtain⟨rfl,rfl⟩:=CN h3;refine⟨rfl,fun a' b'=>⟨b',?_⟩⟩;show((p7 P YG nt ops t).bind fun t=>M.pure<|bq.go ⟨f,t,nt,k,d,some l⟩) s=_;rw[M.bK h2];rfl
   |rangeFunc g ps a b=>
    have h2:uT g ps.toList a b YG f t nt d r k s= .ok (.go aO) s1:=h';unfold uT at h2;cases r with
    |none=>obtain⟨df,s2,_,h3⟩:=M.aN h2;obtain⟨lo,s3,_,h3⟩:=M.aN h3;obtain⟨gv,_,h3⟩:=bu h3;obtain⟨y,s4,_,h3⟩:=M.aN h3;obtain⟨p,s5,_,h3⟩:=M.aN h3;obtain⟨rfl,rfl⟩:=CN h3;exact⟨rfl,fun _ b'=>by cases b'⟩
    |some l0=>
     obtain⟨o,s2,_,h3⟩:=M.aN h2;split at h3
     ·obtain⟨lo,s3,_,h3⟩:=M.aN h3;obtain⟨gv,_,h3⟩:=bu h3;obtain⟨y,s4,_,h3⟩:=M.aN h3;obtain⟨p,s5,_,h3⟩:=M.aN h3;obtain⟨rfl,rfl⟩:=CN h3;exact⟨rfl,fun a' _=>by cases a'⟩
     ·cases h3
   |refuse m=>cases h'
  |inBlock i=>exact goal qq rfl h'<|pop _ h'
  |inScope i=>exact goal qq rfl h'<|pop _ h'
  |inLoop b=>exact goal (nC [.code b,.inLoop b]) rfl h'<|pop _ h'
  |beginRound=>
   have h2:yO YG f t nt d r k s= .ok (.go aO) s1:=h';unfold yO at h2;cases r with
   |none=>cases h2
   |some l0=>
    obtain⟨o,s2,_,h3⟩:=M.aN h2;split at h3
    ·obtain⟨_,s3,_,h4⟩:=M.aN h3;obtain⟨rfl,rfl⟩:=CN h4;exact⟨rfl,fun a' _=>by cases a'⟩
    ·cases h3
  |_=>cases h'
theorem Sj:∀{k:Nat} {fr aO:AF} {s s1:AS},dV P YG k fr s= .ok (.go aO) s1->aO.round=fr.round/\(fr.round=none->aO.defers=[]->fr.defers=[]/\dV P YG k (vp l fr) s= .ok (.go<|vp l aO) s1)
 |0,fr,aO,s,s1,h=>by cases h;exact⟨rfl,fun _ b=>⟨b,rfl⟩⟩
 |k+1,fr,aO,s,s1,h=>by
  obtain⟨y,s2,h1,h2⟩:=M.aN (show((ja P YG fr).bind fun x=> @bq.rec (fun _=>M bq) (dV P YG k) (fun fr j=>M.pure<|bq.leave fr j) x) s= .ok _ s1 from h);cases y with
  |leave pS j=>cases(bA (show(M.pure (bq.leave pS j):M bq) s2=_ from h2)).1
  |go pS=>have h2:dV P YG k pS s2= .ok (.go aO) s1:=h2;obtain⟨a1,a2⟩:=Sj h2;obtain⟨b1,b2⟩:=ab5 (l:=l) h1;refine⟨a1.trans b1,fun q1 q2=>?_⟩;obtain⟨c1,c2⟩:=a2 (b1.trans q1) q2;obtain⟨d1,d2⟩:=b2 q1 c1;exact⟨d1,(AD d2).trans c2⟩
def Jb(P:Program)(YG:aK)(l:Nat)(R:AF->Option Code->AS->Prop)(fr:AF)(s:AS):Prop:=fr.round=none/\fr.defers=[]/\Ev P YG R (vp l fr) s
theorem Chunk.round{R:AF->Option Code->AS->Prop}:Chunk P YG<|Jb P YG l R:=by rintro k fr aO s s1 h ⟨h1,h2,h3⟩;obtain⟨a1,a2⟩:=Sj (l:=l) h;obtain⟨b1,b2⟩:=a2 (a1.symm.trans h1) h2;exact⟨a1.symm.trans h1,b1,Chunk.ev k _ _ _ _ b2 h3⟩
end
section
variable {l:Nat}
theorem CE{E:Env}(hE:E.Ok)(uj:E.fg=false){f:Nat}{K:List Item}{s:AS}{R:AF->Option Code->AS->Prop}{C:xT}(hC:∀fr s p,C fr s p->Jb E.P (bc E.P E.sp E.F n) l R fr s)(fuel:Nat)(p:Pl){T:Prop}(x:T)(h:T=wp E fuel n (.fr f nt K t s) p [] (fun _ _ _=>False) C:=by as_aux_lemma=>kernel_rfl):Ev E.P (bc E.P E.sp E.F n) R ⟨f,t,nt,K,[],some l⟩ s:=(CC hE fuel n (.fr f nt K t s) p [] (fun _ _ _=>False) C (Jb E.P (bc E.P E.sp E.F n) l R) Chunk.round (fun fr s j aO jm s1 v s2 p q1 q2 q3=>q3.elim) hC (fun _ _ _ _ _ _ _ _ _ q=>by rw[uj] at q;cases q) (fun _ _ _ _ _ _ _ _ _ _ _ q=>by rw[uj] at q;cases q) (fun _ _ _ _ _ _ _ _ _ q=>by rw[uj] at q;cases q)<|h▸x).2.2
noncomputable section
def AK(P:Program)(YG:aK)(l:Nat)(fr:AF)(s:AS):Option<|AV×AS:=
 match dV P YG 4 (vp l fr) s with
 | .ok (.leave _ j) s1=>(match endRound l j s1 with
  | .ok v s2=>some (v,s2)
  | .bad=>none)
 |_=>none
end
theorem EB{P:Program}{YG:aK}{fr:AF}{s:AS}(h1:fr.round=none)(h2:fr.defers=[])(h:AK P YG l fr s=some (v,s3)):Jb P YG l (fun _ j s2=>endRound l j s2= .ok v s3) fr s:=by
 refine⟨h1,h2,?_⟩;unfold AK at h;split at h
 ·rename_i aO j s1 e;split at h
  ·rename_i v2 s2 e2;injection h with h;injection h with h3 h4
   subst h3;subst h4;exact⟨4,aO,j,s1,e,e2⟩
  ·cases h
 ·cases h
theorem EC{P:Program}{sp:Sp}{F:Nat->Option (List AV)}{args:List AV}{s s0:AS}{st:LoopState}{bL:Option Code}{d:Nat}{ps:List Tmp}(hg:getLoop l s= .ok (.loop st bL fn t nt ps a b d) s0)(hlen:(and (Nat.beq args.length ps.length)<|ps.all fun p=>Nat.blt p nt)=true)(H:Ev P (bc P sp F n) (fun _ j s2=>endRound l j s2= .ok v s3) ⟨fn,jw ps args t,nt,[.code a,.beginRound,.code b],[],some l⟩ s0):bc P sp F (n+1) (.round l) args s= .ok v s3:=by obtain⟨k,aO,j,s2,h1,h2⟩:=H;show wF P (bc P sp F n) l args s=_;unfold wF;rw[M.bK hg];show(aG (and (Nat.beq args.length ps.length)<|ps.all fun p=>Nat.blt p nt) <| (pq P (bc P sp F n) ⟨fn,jw ps args t,nt,[.code a,.beginRound,.code b],[],some l⟩).bind fun st=> @bq.rec (fun _=>M AV) (fun _=>fail) (fun _ j=>endRound l j) st) s0=_;rw[hlen,dq,M.bK<|HP h1];exact h2
theorem Ih{P:Program}{YG:aK}{s s1 s2 s4:AS}{df lo:Nat}{k:List Item}{f:Operand}{ps:Array Tmp}{gv y:AV}{p:Option Code}(h1:gA .defs s= .ok df s1)(h2:gA (.loop .ready none fn t nt ps.toList a b df) s1= .ok lo s2)(h3:aH t f=some gv)(h4:mV YG gv [.yield lo] s2= .ok y s3)(h5:lM lo s3= .ok p s4):
 dV P YG 1 ⟨fn,t,nt,.code (.rangeFunc f ps a b)::k,[],none⟩ s= .ok (.go ⟨fn,t,nt,andThen p k,[df],none⟩) s4:=by
 refine AD ?_;show uT f ps.toList a b YG fn t nt [] none k s=_;unfold uT;simp only;rw[M.bK h1,M.bK h2,h3,bQ,M.bK h4,M.bK h5];rfl
end
end Go.Rn
namespace Go.Rn
open Go.RowKit
variable {J k:Nat} {B:aJ} {v:AV} {rs:List ResultVar} {aO:AF} {Q:Tr AV->List Nat->Option Code->AS->Prop}
noncomputable section
def vw(l:Nat)(fr:AF):AF:=⟨fr.fn,fr.tmps,fr.nt,fr.todo,[l],fr.round⟩
end
section
variable {P:Program} {YG:aK} {s s1:AS} {l:Nat}
theorem CF{fr:AF}(h:(M.pure (bq.go fr):M bq) s= .ok (.go aO) s1):aO=fr/\s1=s:=by
 obtain⟨h1,h2⟩:=bA h;injection h1 with h1
 exact⟨h1,h2⟩
theorem aac{fr:AF}(h:ja P YG fr s= .ok (.go aO) s1):aO.round=fr.round/\(fr.round=none->aO.defers=[]->fr.defers=[]/\ja P YG (vw l fr) s= .ok (.go<|vw l aO) s1):=by
 obtain⟨f,t,nt,K,d,r⟩:=fr;cases K with
 |nil=>have h':(M.pure (bq.leave ⟨f,t,nt,[],d,r⟩ none):M bq) s= .ok (.go aO) s1:=h;cases(bA h').1
 |cons it k=>
  have h':(vh P it).val YG f t nt d r k s= .ok (.go aO) s1:=h;have goal:∀(X:oy),(vh P it).val=X->X YG f t nt d r k s= .ok (.go aO) s1->(aO.round=r/\(r=none->aO.defers=[]->d=[]/\X YG f t nt [l] r k s= .ok (.go<|vw l aO) s1))->aO.round=r/\(r=none->aO.defers=[]->d=[]/\ja P YG (vw l ⟨f,t,nt,it::k,d,r⟩) s= .ok (.go<|vw l aO) s1):=by rintro X hX _ ⟨h1,h2⟩;refine⟨h1,fun a b=>?_⟩;obtain⟨c,e⟩:=h2 a b;refine⟨c,?_⟩;show(vh P it).val YG f t nt [l] r k s=_;rw[hX];exact e
  have pop:∀k',(M.pure (bq.go ⟨f,t,nt,k',d,r⟩):M bq) s= .ok (.go aO) s1->aO.round=r/\(r=none->aO.defers=[]->d=[]/\(M.pure (bq.go ⟨f,t,nt,k',[l],r⟩):M bq) s= .ok (.go<|vw l aO) s1):=by intro k' h;obtain⟨rfl,rfl⟩:=CF h;exact⟨rfl,fun _ b=>⟨b,rfl⟩⟩
  cases it with
  |code c=>
   cases c with
   |skip=>exact goal qq rfl h'<|pop _ h'
   |label n=>exact goal qq rfl h'<|pop _ h'
   |seq a b=>exact goal (nC [.code a,.code b]) rfl h'<|pop _ h'
   |cond c a b=>refine goal (JC c a b) rfl h' ?_;obtain⟨v,h1,h2⟩:=bu (show(aB (aH t c) fun v=>aB (w9 v) fun v=>M.pure<|bq.go ⟨f,t,nt,.code (@Bool.rec (fun _=>Code) b a v)::k,d,r⟩) s=_ from h');obtain⟨v',h3,h4⟩:=bu h2;obtain⟨q1,q2⟩:=pop _ h4;refine⟨q1,fun a' b'=>⟨(q2 a' b').1,?_⟩⟩;show(aB (aH t c) fun v=>aB (w9 v) fun v=>M.pure<|bq.go ⟨f,t,nt,.code (@Bool.rec (fun _=>Code) b a v)::k,[l],r⟩) s=_;rw[h1,bQ,h3,bQ];exact(q2 a' b').2
   |block i b=>exact goal (nC [.code b,.inBlock i]) rfl h'<|pop _ h'
   |loop b=>exact goal (nC [.code b,.inLoop b]) rfl h'<|pop _ h'
   |scope b=>exact goal (nC [.code b,.inScope b]) rfl h'<|pop _ h'
   |exit i=>
    refine goal (Df i) rfl h' ?_;have h2:(match exitTo i k with
     |some k'=>M.pure (bq.go ⟨f,t,nt,k',d,r⟩)
     |none=>M.pure<|bq.leave ⟨f,t,nt,.code (.exit i)::k,d,r⟩<|some<|.exit i) s= .ok (.go aO) s1:=h'
    cases e:exitTo i k with
    |none=>rw[e] at h2;cases(bA h2).1
    |some k'=>
     rw[e] at h2;obtain⟨q1,q2⟩:=pop _ h2;refine⟨q1,fun a' b'=>⟨(q2 a' b').1,?_⟩⟩;show(match exitTo i k with
      |some k'=>M.pure (bq.go ⟨f,t,nt,k',[l],r⟩)
      |none=>M.pure<|bq.leave ⟨f,t,nt,.code (.exit i)::k,[l],r⟩<|some<|.exit i) s=_
     rw[e];exact(q2 a' b').2
   |goto i=>
    refine goal (Dg i) rfl h' ?_;have h2:(match gotoIn i k with
     |some k'=>M.pure (bq.go ⟨f,t,nt,k',d,r⟩)
     |none=>M.pure<|bq.leave ⟨f,t,nt,.code (.goto i)::k,d,r⟩<|some<|.goto i) s= .ok (.go aO) s1:=h'
    cases e:gotoIn i k with
    |none=>rw[e] at h2;cases(bA h2).1
    |some k'=>
     rw[e] at h2;obtain⟨q1,q2⟩:=pop _ h2;refine⟨q1,fun a' b'=>⟨(q2 a' b').1,?_⟩⟩;show(match gotoIn i k with
      |some k'=>M.pure (bq.go ⟨f,t,nt,k',[l],r⟩)
      |none=>M.pure<|bq.leave ⟨f,t,nt,.code (.goto i)::k,[l],r⟩<|some<|.goto i) s=_
     rw[e];exact(q2 a' b').2
   |ret=>cases(bA (show(M.pure (bq.leave ⟨f,t,nt,.code .ret::k,d,r⟩<|some .ret):M bq) s= .ok (.go aO) s1 from h')).1
   |region i ops dr=>
    cases dr with
    |false=>refine goal (Iy P ops) rfl h' ?_;obtain⟨t1,s2,h2,h3⟩:=M.aN (show((jf P YG nt ops ops.toList t).bind fun t=>M.pure<|bq.go ⟨f,t,nt,k,d,r⟩) s= .ok (.go aO) s1 from h');obtain⟨rfl,rfl⟩:=CF h3;refine⟨rfl,fun a' b'=>⟨b',?_⟩⟩;show((jf P YG nt ops ops.toList t).bind fun t=>M.pure<|bq.go ⟨f,t,nt,k,[l],r⟩) s=_;rw[M.bK h2];rfl
    |true=>refine goal (H6 P ops) rfl h' ?_;obtain⟨t1,s2,h2,h3⟩:=M.aN (show((p7 P YG nt ops t).bind fun t=>M.pure<|bq.go ⟨f,t,nt,k,d,r⟩) s= .ok (.go aO) s1 from h');obtain⟨rfl,rfl⟩:=CF h3;refine⟨rfl,fun a' b'=>⟨b',?_⟩⟩;show((p7 P YG nt ops t).bind fun t=>M.pure<|bq.go ⟨f,t,nt,k,[l],r⟩) s=_;rw[M.bK h2];rfl
   |rangeFunc g ps a b=>
    have h2:uT g ps.toList a b YG f t nt d r k s= .ok (.go aO) s1:=h';unfold uT at h2;cases r with
    |none=>obtain⟨df,s2,_,h3⟩:=M.aN h2;obtain⟨lo,s3,_,h3⟩:=M.aN h3;obtain⟨gv,_,h3⟩:=bu h3;obtain⟨y,s4,_,h3⟩:=M.aN h3;obtain⟨p,s5,_,h3⟩:=M.aN h3;obtain⟨rfl,rfl⟩:=CF h3;exact⟨rfl,fun _ b'=>by cases b'⟩
    |some l0=>
     obtain⟨o,s2,_,h3⟩:=M.aN h2;split at h3
     ·obtain⟨lo,s3,_,h3⟩:=M.aN h3;obtain⟨gv,_,h3⟩:=bu h3;obtain⟨y,s4,_,h3⟩:=M.aN h3;obtain⟨p,s5,_,h3⟩:=M.aN h3;obtain⟨rfl,rfl⟩:=CF h3;exact⟨rfl,fun a' _=>by cases a'⟩
     ·cases h3
   |refuse m=>cases h'
  |inBlock i=>exact goal qq rfl h'<|pop _ h'
  |inScope i=>exact goal qq rfl h'<|pop _ h'
  |inLoop b=>exact goal (nC [.code b,.inLoop b]) rfl h'<|pop _ h'
  |beginRound=>
   have h2:yO YG f t nt d r k s= .ok (.go aO) s1:=h';unfold yO at h2;cases r with
   |none=>cases h2
   |some l0=>
    obtain⟨o,s2,_,h3⟩:=M.aN h2;split at h3
    ·obtain⟨_,s3,_,h4⟩:=M.aN h3;obtain⟨rfl,rfl⟩:=CF h4;exact⟨rfl,fun a' _=>by cases a'⟩
    ·cases h3
  |_=>cases h'
theorem Tb:∀{k:Nat} {fr aO:AF} {s s1:AS},dV P YG k fr s= .ok (.go aO) s1->aO.round=fr.round/\(fr.round=none->aO.defers=[]->fr.defers=[]/\dV P YG k (vw l fr) s= .ok (.go<|vw l aO) s1)
 |0,fr,aO,s,s1,h=>by cases h;exact⟨rfl,fun _ b=>⟨b,rfl⟩⟩
 |k+1,fr,aO,s,s1,h=>by
  obtain⟨y,s2,h1,h2⟩:=M.aN (show((ja P YG fr).bind fun x=> @bq.rec (fun _=>M bq) (dV P YG k) (fun fr j=>M.pure<|bq.leave fr j) x) s= .ok _ s1 from h);cases y with
  |leave pS j=>cases(bA (show(M.pure (bq.leave pS j):M bq) s2=_ from h2)).1
  |go pS=>have h2:dV P YG k pS s2= .ok (.go aO) s1:=h2;obtain⟨a1,a2⟩:=Tb h2;obtain⟨b1,b2⟩:=aac (l:=l) h1;refine⟨a1.trans b1,fun q1 q2=>?_⟩;obtain⟨c1,c2⟩:=a2 (b1.trans q1) q2;obtain⟨d1,d2⟩:=b2 q1 c1;exact⟨d1,(AD d2).trans c2⟩
def GD(P:Program)(YG:aK)(B:aJ)(J:Nat)(Q:Tr AV->List Nat->Option Code->AS->Prop)(l:Nat)(fr:AF)(s:AS):Prop:=fr.round=none/\fr.defers=[]/\zp P B J Q (vw l fr) s
theorem Chunk.defs(bH:P.follows .mixedOrders=true)(hc:fQ P B YG)(hl:∀t a,YF<|YG t a):Chunk P YG<|GD P YG B J Q l:=by rintro k fr aO s s1 h ⟨h1,h2,h3⟩;obtain⟨a1,a2⟩:=Tb (l:=l) h;obtain⟨b1,b2⟩:=a2 (a1.symm.trans h1) h2;exact⟨a1.symm.trans h1,b1,Chunk.Eb bH hc hl k _ _ _ _ b2 h3⟩
noncomputable section
def Gw(P:Program)(YG:aK)(rs:List ResultVar)(k l:Nat)(fr:AF)(s:AS):Option<|AV×AS:=
 match dV P YG k (vw l fr) s with
 | .ok (.leave aO j) s1=>(match finish P rs aO j s1 with
  | .ok v s2=>some (v,s2)
  | .bad=>none)
 |_=>none
end
theorem M8{fr:AF}{R:AV->AS->Prop}{s2:AS}(bH:P.follows .mixedOrders=true)(hc:fQ P B YG)(hl:∀t a,YF<|YG t a)(h1:fr.round=none)(h2:fr.defers=[])(h:Gw P YG rs k l fr s=some (v,s2))(hR:R v s2):GD P YG B J (Fin P rs R) l fr s:=by
 refine⟨h1,h2,fun h0=>?_⟩;unfold Gw at h;split at h
 ·rename_i aO j s1 e;split at h
  ·rename_i v2 s3 e2;injection h with h;injection h with h3 h4
   subst h3;subst h4;exact au.leave bH hc hl e h0 ⟨v2,s3,by rw[←EM];exact e2,hR⟩
  ·cases h
 ·cases h
end
noncomputable section
def Pc(P:Program)(YG:aK)(rs:List ResultVar)(k l:Nat)(fr:AF)(s:AS):Option AV:=match Gw P YG rs k l fr s with
 |some (v,_)=>some v
 |none=>none
end
theorem ME{P:Program}{YG:aK}{l:Nat}{s:AS}{fr:AF}(bH:P.follows .mixedOrders=true)(hc:fQ P B YG)(hl:∀t a,YF<|YG t a)(h1:fr.round=none)(h2:fr.defers=[])(h:Pc P YG rs k l fr s=some v):GD P YG B J (Fin P rs fun y _=>y=v) l fr s:=by
 unfold Pc at h;split at h
 ·rename_i v2 s2 e;injection h with h;subst h
  exact M8 bH hc hl h1 h2 e rfl
 ·cases h
theorem adC{E:Env}(hE:E.Ok){n f nt l:Nat}{t:Tr AV}{K:List Item}{s:AS}{C:xT}(uj:E.fg=false)(bH:E.P.follows .mixedOrders=true)(hc:fQ E.P B<|bc E.P E.sp E.F n)(hl:∀t a,YF<|bc E.P E.sp E.F n t a)(hC:∀fr s p,C fr s p->GD E.P (bc E.P E.sp E.F n) B J Q l fr s)(h0:J<=s.nx)(fuel:Nat)(p:Pl){T:Prop}(x:T)(h:T=wp E fuel n (.fr f nt K t s) p [] (fun _ _ _=>False) C:=by as_aux_lemma=>kernel_rfl):au E.P B J Q ⟨f,t,nt,K,[l],none⟩ s:=(CC hE fuel n (.fr f nt K t s) p [] (fun _ _ _=>False) C (GD E.P (bc E.P E.sp E.F n) B J Q l) (Chunk.defs bH hc hl) (fun fr s j aO jm s1 v s2 p q1 q2 q3=>q3.elim) hC (fun _ _ _ _ _ _ _ _ _ q=>by rw[uj] at q;cases q) (fun _ _ _ _ _ _ _ _ _ _ _ q=>by rw[uj] at q;cases q) (fun _ _ _ _ _ _ _ _ _ q=>by rw[uj] at q;cases q)<|h▸x).2.2 h0
end Go.Rn
namespace Go.Rn
open Go.RowKit
theorem VR.IG{ρ:Ren}{n o:Nat}{v:Value}(ht:top<=n)(h:VR ρ (.U n o 0) v):VR ρ (.U top 0 0) v\/VR ρ (.U (top+1) 0 0) v:=by
 simp only[VR] at h ⊢;rcases h with⟨_,_,a,c,rfl,hz⟩|⟨b,sh,c,_,rfl,_⟩
 ·cases a with
  |none=>exact .inl<|.inl ⟨Nat.le_refl _,trivial,none,c,rfl,hz.1,(fun _=>rfl),fun e=>by omega⟩
  |some a=>exact .inr<|.inl ⟨by omega,trivial,some a,c,rfl,(fun e=>by cases e),(fun e=>by omega),fun _ e=>by cases e⟩
 ·exact .inr<|.inl ⟨by omega,trivial,_,c,rfl,(fun e=>by cases e),(fun e=>by omega),fun _ e=>by cases e⟩
theorem au.IG{P:Program}{B:aJ}{J:Nat}{Q:Tr AV->List Nat->Option Code->AS->Prop}{f nt:Nat}{t:Tr AV}{K:List Item}{d:List Nat}{r:Option Nat}{s:AS}{i n o:Nat}(hi:t.get i=some (.U n o 0))(ht:top<=n)(pQ:i<top)(H1:au P B J Q ⟨f,t.put i<|some<|.U top 0 0,nt,K,d,r⟩ s)(H2:au P B J Q ⟨f,t.put i<|some<|.U (top+1) 0 0,nt,K,d,r⟩ s):au P B J Q ⟨f,t,nt,K,d,r⟩ s:=by
 intro ρ w b a cs bC ax hf;have hv:=ax.tr.2 i _ hi;have ak:∀x,VR ρ x (a.tmps.getD i Go.undef)->At B ρ s nt (t.put i<|some x) w a:=fun x hx=>by
  obtain⟨h1,h2,h3,h4,h5⟩:=ax;refine⟨⟨h1.1,fun j y hy=>?_⟩,h2,h3,h4,h5⟩;rw[Tr.lL _ _ _ _ pQ] at hy;by_cases e:j=i
  ·rw[if_pos e] at hy;cases hy;rw[e];exact hx
  ·rw[if_neg e] at hy;exact h1.2 j y hy
 obtain⟨f1,f2,f3,f4,f5⟩:=bC;rcases hv.IG ht with q|q
 ·exact H1 ρ w b a cs ⟨f1,f2,f3,f4,f5⟩ (ak _ q) hf
 ·exact H2 ρ w b a cs ⟨f1,f2,f3,f4,f5⟩ (ak _ q) hf
end Go.Rn
namespace Go.Rn
open Go.RowKit
section
variable {X:TX} {P:Program} {J:Nat} {ns:List Nat} {h0:Tr ae} {L:bO} {g:Nat} {fn:Func} {body:Code}
theorem acb(hP:bS P)(fY:fI<=J)(dK:J<=top)(dJ:∀n o,n<top->h0.get n=some o->n∈ns)(eD:∀n∈ns,n<J){val:List AV->Option AV}(h:dR X J P<|dk J ns h0 L)(cj:P.funcs[g]? =some fn)(ct:fn.body=some body)(dE:(fn.name == "runtime.NumGoroutine")=false)(eT:∀args v,val args=some v->max fn.ntmps args.length<=top/\∃L',dR X J P (dk J ns h0 L')/\∀B:aJ,qz X P J ns h0 L' B->
 au P B J (Fin P fn.results.toList fun y _=>y=v) ⟨g,dt args,max fn.ntmps args.length,[.code body],[],none⟩ ⟨h0,J,0,[],[]⟩):dR X J P<|dk J ns h0<|(g,.val val)::L:=by
 refine(show dR X J P (oT (dk J ns h0 L) g<|pw J ns h0 val) from h.mq (fun YG _ args=>YF.pw _ _ _ _ YG args) fun B hB hT YG hc hl args x s s1 ρ w vs fi r hg hf hm hv=>?_);refine RQ hP cj ct dE fY dK dJ eD (fun args v e=>?_) r hg hm hv;obtain⟨q1,L',h',q2⟩:=eT args v e;exact⟨q1,fun B' lE lF=>q2 B'<|qA hP h' (lE.trans hB)<|lF.trans hT⟩
end
end Go.Rn
namespace Go.Rn
open Go.RowKit
variable {s:AS}
section
variable {P:Program} {B:aJ} {J:Nat} {Q:Tr AV->List Nat->Option Code->AS->Prop} {YG:aK}
theorem au.WV{fr aO:AF}{s1:AS}{ρ:Ren}{w:World}{b:Frame}{a:Act}{cs:List Frame}(bC:Fr ρ fr b a)(hf:∀k,s.nx<=k->k<top->ρ k=none)(kX:s.nx<=s1.nx)(h0:J<=s.nx)(hw:lR P B ρ s s1 w fr b cs (lone (b.atR a fr.todo) cs w)<|.go aO)(H:au P B J Q aO s1):
 ∃(ks:AF) (j:Option Code) (s2:AS) (σ:Ren) (a2:Act) (w2:World),Q ks.tmps ks.defers j s2/\J<=s2.nx/\(∀k,k<J->k<top->σ k=ρ k)/\(∀k x,top<=k->ρ k=some x->σ k=some x)/\(∀k,s2.nx<=k->k<top->σ k=none)/\At B σ s2 fr.nt ks.tmps w2 a2/\vD σ ks.defers a2.defers/\cw B w w2/\(ks.fn=fr.fn/\ks.nt=fr.nt/\ks.round=fr.round)/\jy ks.todo/\Leaves j ks.todo/\Steps P (lone (b.atR a fr.todo) cs w) (lone (b.atR a2 ks.todo) cs w2):=by
 obtain⟨σ,a1,w1,e1,e2,e3,e4,⟨e5,e6,e7⟩,e8,_,e9⟩:=hw;have Ea:aO.fn=fr.fn:=e5;have iW:aO.nt=fr.nt:=e6;have pR:aO.round=fr.round:=e7;obtain⟨ks,j,s2,τ,a2,w2,q0,qn,q1,GX,q2,q3,q4,q5,⟨q6,q7,q8⟩,q9,Qp,Qq⟩:=H σ w1 b a1 cs ⟨bC.fn.trans Ea.symm,bC.kind,by rw[pR];exact bC.round.mono e1.le,e3,e8⟩ (by rw[iW];exact e2) fun k hk ht=>(e1.out k ht aj).trans<|hf k aj ht;exact⟨ks,j,s2,τ,a2,w2,q0,qn,fun k hk gq=>(q1 k hk gq).trans<|e1.out k gq aj,fun k x hk hx=>GX k x hk<|e1.le _ _ hx,q2,by rw[←iW];exact q3,q4,e4.trans q5,⟨q6.trans Ea,q7.trans iW,q8.trans pR⟩,q9,Qp,Steps.trans e9 Qq⟩
theorem au.next(hc:fQ P B YG)(hl:∀t a,YF<|YG t a){fr:AF}{s2:AS}{it:Operand}{o:Oper}{ops:Array Oper}{rest:List Oper}{k:List Item}{n m:Nat}{es:List<|AV×AV}{ex:Bool}{left:List<|AV×AV}{cur:Option<|AV×AV}(e:As fr=some (it,o,ops,rest,k))(h0:J<=s.nx)(e1:qW fr it s= .ok (n,.iter m es ex left cur) s2)(H0:left=[]->∃aO s3,nu P YG fr n m es ex o ops rest k s2= .ok aO s3/\au P B J Q aO s3)(H1:∀x r,(x,r)∈xw left->∃aO s3,ny P YG fr n (.iter m es ex r<|some x) o ops rest k (.tuple [.bool true,x.1,x.2]) s2= .ok aO s3/\au P B J Q aO s3):au P B J Q fr s:=by
 intro ρ w b a cs bC ax hf;obtain⟨id,oz,me,BS,ho⟩:=Rz e;obtain⟨h1,h2⟩:=RO e1;obtain⟨hx,hg,hh,cr⟩:=fU h2;have dz:bB s2:=(YF.bt n).cm ax.cm h2;have ht:n<top:=Nat.lt_of_lt_of_le hx ax.cm.nx;have hd:∀c,o.op≠ .defer c:=fun c q=>by rw[ho] at q;cases q
 obtain⟨o6,fq,u⟩:=ax.rel.iter n m es ex left cur ht hg;obtain⟨bn,N,hn,pA⟩:=u.next (P:=P) o.type;have GU:VR ρ (.ptr<|some (n,0))<|a.eval it:=CJ ax.tr ax.g h1;have D6:a.eval it= .pointer (some ⟨bn,0,none⟩):=by simp only[VR] at GU;obtain⟨b',N',q1,q2⟩:=GU;rw[hn] at q1;cases q1;exact q2
 have FT:∀v w',(Instr.next (.pointer<|some ⟨bn,0,none⟩) false o.type).run P w= .ok v w'->(execOp a.eval o).run P w= .ok (.value v) w':=by intro v w' q;simp only[execOp,ho,D6,Sem.run_bind,q,Result.andThen_ok,Sem.run_pure]
 obtain⟨_,_,_,hB⟩:=ax.rel.block ht hg hn;have free:∀{a b:Nat},s.nx<=a->dA a b ρ:=fun ha k h1 _ h3=>hf k aj h3;rcases pA with⟨J3,qu⟩|⟨x,r,v1,v2,w',iu,D9,rO,qu,GV,hblk,Qo⟩
 ·obtain⟨aO,s3,e3,HS⟩:=H0 J3;have jo:=(YF.nu P hl fr n m es ex o ops rest k).cm dz e3;have BR:=(YF.nu P hl fr n m es ex o ops rest k).le dz e3;refine au.WV bC hf aj h0 ?_ HS;unfold nu at e3;obtain⟨u1,s4,i1,i2⟩:=M.aN e3;obtain⟨u2,s5,i3,i4⟩:=M.aN i2;obtain⟨t1,s6,i5,i6⟩:=M.aN i4;obtain⟨t2,s7,i7,i8⟩:=M.aN i6;obtain⟨rfl,rfl⟩:=bA i8;obtain⟨i9,rfl⟩:=gT i5;obtain⟨_,_,_,j1,j2⟩:=jx i1;obtain⟨_,_,_,j3,j4⟩:=jx i3;have BT:bB s6:=(YF.bJ m _).cm ((YF.bJ n _).cm dz i1) i3;have kY:s.h.get n=some (.iter m es ex [] cur):=by rw[hg,J3]
  have Bq:Rel B ρ s6.h w:=by rw[j3,j1,hh];exact ax.rel.WD ht kY
  have BU:VR ρ (.tuple [.bool false])<|.tuple #[.bool false]:=by simp only[VR,ay];exact⟨_,rfl,_,_,rfl,rfl,rfl⟩
  obtain⟨q1,q2⟩:=Cy (a:=a) ax.tr ax.nt i9 BU;exact HA hc hl bC oz me BS hd (FT _ _ qu) (cw.refl _ _) ⟨q1,Bq,ax.g,ax.nt,BT⟩ (by rw[j4,j2,cr]) (free (by rw[j4,j2,cr];exact Nat.le_refl _)) i7
 ·obtain⟨aO,s3,e3,HS⟩:=H1 x r iu;have jo:=(YF.ny P hl fr n (.iter m es ex r<|some x) o ops rest k<|.tuple [.bool true,x.1,x.2]).cm dz e3;have BR:=(YF.ny P hl fr n (.iter m es ex r<|some x) o ops rest k<|.tuple [.bool true,x.1,x.2]).le dz e3;refine au.WV bC hf aj h0 ?_ HS;unfold ny at e3;obtain⟨u1,s4,i1,i2⟩:=M.aN e3;obtain⟨t1,s6,i5,i6⟩:=M.aN i2;obtain⟨t2,s7,i7,i8⟩:=M.aN i6;obtain⟨rfl,rfl⟩:=bA i8;obtain⟨i9,rfl⟩:=gT i5;obtain⟨_,_,_,j1,j2⟩:=jx i1;have BT:bB s6:=(YF.bJ n _).cm dz i1;have Bq:Rel B ρ s6.h w':=by rw[j1,hh];exact ax.rel.Vl ht hg hn GV hblk Qo
  have BU:VR ρ (.tuple [.bool true,x.1,x.2])<|.tuple #[.bool true,v1,v2]:=by simp only[VR,ay];exact⟨_,rfl,_,_,rfl,rfl,_,_,rfl,D9,_,_,rfl,rO,rfl⟩
  obtain⟨q1,q2⟩:=Cy (a:=a) ax.tr ax.nt i9 BU;exact HA hc hl bC oz me BS hd (FT _ _ qu) (GV.below<|hB rfl) ⟨q1,Bq,ax.g,ax.nt,BT⟩ (by rw[j2,cr]) (free (by rw[j2,cr];exact Nat.le_refl _)) i7
end
end Go.Rn
namespace Go.Rn
open Go.RowKit
variable {ρ σ:Ren} {off:Nat} {cs:List AV} {x:AV} {w:World} {s:AS} {B:aJ}
def AV.xK(x:AV):Bool:=match x with
 | .agg l=>l.all AV.flat
 | .tuple l=>l.all AV.flat
 |x=>x.flat
theorem ay.flat:∀{l:List AV} {vs:List Value},l.all AV.flat=true->ay ρ l vs->ay σ l vs
 |[],_,_,hv=>by simpa only[ay] using hv
 |y::l,vs,hy,hv=>by obtain⟨h1,h2⟩:=and_true.1 (show(y.flat&&l.all AV.flat)=true from hy);simp only[ay] at hv ⊢;obtain⟨a,as,e,h3,h4⟩:=hv;exact⟨a,as,e,VR.flat h1 h3,ay.flat h2 h4⟩
theorem VR.xK{v:Value}(h:x.xK=true)(k:VR ρ x v):VR σ x v:=by
 unfold AV.xK at h;split at h
 ·simp only[VR] at k ⊢;obtain⟨a,e,q⟩:=k;exact⟨a,e,ay.flat h q⟩
 ·simp only[VR] at k ⊢;obtain⟨a,e,q⟩:=k;exact⟨a,e,ay.flat h q⟩
 ·exact VR.flat h k
theorem ach{fE:Ren}{h h0:Tr ae}{j b:Nat}{c:Array Value}{e:TypeId}{fr:Nat×Nat}(R0:Rel (rk B ρ w) fE h0 w)(Gz:∀n o,n<top->h0.get n=some o->o.mJ=true)(jb:fE (hn j b off)=none)(hF:B.F j=some cs)(hb:w.heap[b]? =some (.cells c e fr))(qH:∀i x,cs[i]? =some x->∃v,c[off+i]? =some v/\VR (gm fE) x v/\x.bR=true)(hold:∀k,ρ k≠none->eM fE (hn j b off) (b,0) k≠none):
 Rel (rk B (eM fE (hn j b off) (b,0)) w) (eM fE (hn j b off) (b,0)) h0 w:=by
 have hl:fE.le<|eM fE (hn j b off) (b,0):=oi jb;have cL:∀k,k<top->eM fE (hn j b off) (b,0) k=fE k:=fun k hk=>gI _ _ (by have:=gb j b off;omega);have X5:∀x,jZ (eM fE (hn j b off) (b,0)) h0 x:=fun x m o N hm hg hr=>by rw[ae.kg<|Gz m o hm hg] at hr;cases hr
 refine⟨fun n o fu ho=>?_,fun n m o p b1 N M fu hm h1 h2 cP e1 e2=>?_,fun n m es ex left cur fu ho=>?_,R0.size,R0.lone,fun n x sh q=>?_,?_⟩
 ·obtain⟨b1,N,o',i1,i2,i3,i4⟩:=R0.is n o fu ho;exact⟨b1,N,o',hl _ _ i1,i2,i3.mono hl,i4⟩
 ·rw[cL n fu] at e1;rw[cL m hm] at e2;exact R0.one n m o p b1 N M fu hm h1 h2 cP e1 e2
 ·have:=Gz n _ fu ho;cases this
 ·by_cases z:hn n x sh=hn j b off
  ·obtain⟨rfl,rfl,rfl⟩:=I1 z;refine⟨.inl q,cs,c,e,fr,hF,hb,X5 _,fun i y hy=>?_⟩;obtain⟨v,k1,k2,k3⟩:=qH i y hy;exact⟨v,k1,VR.mono (EV hl) _ _ k2,k3⟩
  ·have q':fE (hn n x sh)≠none:=by rw[gI _ _ z] at q;exact q
   obtain⟨_,l,c1,e1,aO,g1,g2,_,g4⟩:=R0.fz n x sh q';refine⟨.inl q,l,c1,e1,aO,g1,g2,X5 _,fun i y hy=>?_⟩;obtain⟨v,k1,k2,k3⟩:=g4 i y hy;exact⟨v,k1,VR.mono (EV hl) _ _ k2,k3⟩
 ·refine tY.no (fun n k v fu hg=>by have:=Gz n _ fu hg;cases this) ⟨R0.tk.1.1,fun m o hm hg hf=>?_⟩;obtain⟨b1,N,e1,e2⟩:=R0.tk.1.2 m o hm hg hf;exact⟨b1,N,hl _ _ e1,e2⟩
noncomputable section
def F5(len:Nat):bW->Bool
 | .known c=>Nat.ble len c
 | .aq _ _=>true
 | .lost=>false
def vM(J:Nat)(ns:List Nat)(h0:Tr ae)(val:List AV->Option AV):aK->List AV->M AV:=fun _ args=>match args with
  | [a,.slice (some (n,off)) len cap,b]=>aG (a.hi&&(b.hi&&F5 len cap)) <| (fG J h0 ns).bind fun _=>(bt n).bind fun o=>aB (cellsOf (some o) off len) fun cs=>aG (cs.all AV.gg&&Nat.blt n top) <|
    aB (val [a,.U (nm cs) 0 len,b]) fun v=>aG v.xK <| M.pure v
  |_=>fail
end
theorem YF.vM(J:Nat)(ns:List Nat)(h0:Tr ae)(val:List AV->Option AV)(YG:aK)(args:List AV):YF<|vM J ns h0 val YG args:=by
 unfold Rn.vM;split
 ·exact YF.aG fun _=>YF.bind (YF.fG J h0 ns) fun _=>YF.bind (YF.bt _) fun _=>YF.aB fun _ _=>YF.aG fun _=>YF.aB fun _ _=>YF.aG fun _=>YF.pure _
 ·exact YF.fail
theorem Zw{o:ae}{k:Nat}(h:cellsOf (some o) off k=some cs):∃m t z,o= .cells m t z/\off+k<=m/\lO t z k off=some cs:=by
 unfold cellsOf at h;split at h
 ·rename_i m t z e;injection e with e
  split at h
  ·rename_i q;exact⟨m,t,z,e,aL.1 q,h⟩
  ·cases h
 ·cases h
theorem adV{P:Program}{f J:Nat}{ns:List Nat}{h0:Tr ae}{val:List AV->Option AV}{fn:Func}{body:Code}{s1:AS}(hP:bS P)(cj:P.funcs[f]? =some fn)(ct:fn.body=some body)(dE:(fn.name == "runtime.NumGoroutine")=false)(hFU:B.F=FU)(fY:fI<=J)(dK:J<=top)(dJ:∀n o,n<top->h0.get n=some o->n∈ns)(eD:∀n∈ns,n<J)(eT:∀args v,val args=some v->max fn.ntmps args.length<=top/\∀B':aJ,B'.F=B.F->B'.inv=B.inv->au P B' J (Fin P fn.results.toList fun y _=>y=v) ⟨f,dt args,max fn.ntmps args.length,[.code body],[],none⟩ ⟨h0,J,0,[],[]⟩){YG:aK}{args:List AV}{vs:Array Value}(r:Rel B ρ s.h w)(hg:gC ρ)(h:vM J ns h0 val YG args s= .ok x s1)(hv:ay ρ args vs.toList):jg P ((callFunc f vs).run P w)<|ki B ρ s s1 w x:=by
 unfold vM at h;split at h
 case h_2=>cases h
 rename_i a n off len cap a2;obtain⟨gG,h1⟩:=cV h;obtain⟨ha,ye⟩:=and_true.1 gG;obtain⟨hb,J0⟩:=and_true.1 ye;obtain⟨u,s2,h2,h3⟩:=M.aN h1;obtain⟨o,s3,h4,h5⟩:=M.aN h3;obtain⟨cs,h6,h7⟩:=bu h5;obtain⟨hcd,h8⟩:=cV h7;obtain⟨X7,iV⟩:=and_true.1 hcd;have iV:n<top:=(blt_eq _ _).mp iV;obtain⟨v,h9,gE⟩:=bu h8;obtain⟨yg,ug⟩:=cV gE;obtain⟨rfl,rfl⟩:=bA ug;obtain⟨a1,a2',a3⟩:=uC h2;obtain⟨b1,b2,b3,b4⟩:=fU h4;obtain⟨m,t,z,rfl,c1,c2⟩:=Zw h6;have iR:s.h.get n=some (.cells m t z):=by rw[←a1];exact b2
 obtain⟨bb,N,o',d1,d2,d3,_⟩:=r.is n _ iV iR;have X8:=d3;simp only[OR] at X8;obtain⟨c,e,rfl,_,d4,d5⟩:=X8;obtain⟨g1,g2⟩:=Hx c2;have X9:∀n∈ns,∃o p,s.h.get n=some o/\h0.get n=some p/\ou J o p=true:=fun n hn=>by obtain⟨_,o,p,h⟩:=a3 n hn;exact⟨o,p,h⟩
 have R0:=Dn dK r dJ eD X9;have Gz:∀n o,n<top->h0.get n=some o->o.mJ=true:=fun n o hn ho=>by obtain⟨p1,p2,_,c3,c4⟩:=X9 n<|dJ n o hn ho;rw[ho] at c3;cases c3;unfold ou at c4;split at c4<;>first|rfl|cases c4
 have afw:ρ (hn (nm cs) bb off)=none:=Classical.byContradiction fun q=>by obtain⟨_,_,_,_,_,_,_,z3,_⟩:=r.fz _ _ _ q;exact z3 n _ N iV iR rfl d1
 have jb:gi J ρ (hn (nm cs) bb off)=none:=by rw[sH dK<|gb _ _ _];exact afw
 have R1:=ach (B:=B) (ρ:=gi J ρ) (fE:=gi J ρ) (j:=nm cs) (b:=bb) (off:=off) (cs:=cs) (c:=c) (e:=e) (fr:=(0,0)) (h:=s.h) (h0:=h0) (w:=w) ⟨R0.is,R0.one,R0.iter,R0.size,R0.lone,fun n x sh q=>by
  obtain⟨_,g⟩:=R0.fz n x sh q;exact⟨.inl q,g⟩,R0.tk⟩ Gz jb (by rw[hFU];exact Dm X7) d2 (fun i x hx=>by
  have hi:i<len:=by rw[←g1];exact(List.getElem?_eq_some_iff.1 hx).1
  obtain⟨x',v',k1,k2,k3,k4⟩:=d5 (off+i) aj;rw[g2 i hi,hx] at k1;injection k1 with k1;subst k1
  have hxc:x.gg=true:=List.all_eq_true.1 X7 x<|List.mem_of_getElem? hx;refine⟨v',k3,AV.uW (fun k y hk q=>?_) (CD hxc) k4,k2⟩;unfold gm;rw[if_pos hk,sH dK hk];exact q) (fun k q=>by
  unfold eM;split
  ·exact fun q=>by cases q
  ·exact q)
 obtain⟨q1,q2⟩:=eT _ _ h9;have fi:bB (⟨h0,J,0,[],[]⟩:AS):=⟨Nat.zero_le _,dK⟩;have zR:gC<|eM (gi J ρ) (hn (nm cs) bb off) (bb,0):=fun g iF=>by obtain⟨N,e⟩:=hg g iF;exact⟨N,oi jb _ _ (by unfold gi;rw[if_pos<|Nat.lt_of_lt_of_le iF fY];exact e)⟩
 have hi:jh ρ<|eM (gi J ρ) (hn (nm cs) bb off) (bb,0):=fun k y hk e=>oi jb _ _ (by rw[sH dK hk];exact e);have kq:ay (eM (gi J ρ) (hn (nm cs) bb off) (bb,0)) [a,.U (nm cs) 0 len,a2] vs.toList:=by
  simp only[ay] at hv ⊢;obtain⟨v0,vr,e1,k1,v1,vr1,e2,k2,v2,vr2,e3,k3,k4⟩:=hv;refine⟨v0,vr,e1,AV.pB hi ha k1,v1,vr1,e2,?_,v2,vr2,e3,AV.pB hi hb k3,k4⟩;have ax:qo (eM (gi J ρ) (hn (nm cs) bb off) (bb,0)) (nm cs) bb off:=.inr ⟨cF _,by rw[iP];exact fun q=>by cases q⟩;cases cap with
  |known cc=>simp only[VR] at k2 ⊢;obtain⟨b',N',e4,e5⟩:=k2;rw[d1] at e4;cases e4;exact .inr ⟨bb,off,cc,ax,e5,fun _=>⟨aL.1 J0,(y9 cs).1⟩⟩
  |aq lo ee=>simp only[VR] at k2 ⊢;obtain⟨b',N',cc,e4,e5,e6,e7,_⟩:=k2;rw[d1] at e4;cases e4;exact .inr ⟨bb,off,cc,ax,e5,fun _=>⟨e7,(y9 cs).1⟩⟩
  |lost=>cases J0
 have bG:=au.calls (B:=rk B (eM (gi J ρ) (hn (nm cs) bb off) (bb,0)) w) (s:=⟨h0,J,0,[],[]⟩) (args:=[a,.U (nm cs) 0 len,a2]) (vs:=vs) hP cj ct q1 (q2 _ rfl rfl) fi R1 zR (fun k k1 k2=>by have k1:J<=k:=k1;rw[gI _ _ (by have:=gb (nm cs) bb off;omega)];unfold gi gm;rw[if_neg aj,if_neg aj]) kq;rw[si cj ct dE];show Calls P f vs w _;refine bG.mono fun e w'=>?_;rintro ⟨y,x',s4,rfl,rfl,_,_,σ,e1,e2,e3,e4⟩;have gr:gN w w':=⟨e4.os,e4.tape,e4.output,e4.size,fun k hk=>e4.block k hk (by show ¬(w.heap.size<=k);omega)⟩;exact⟨y,rfl,ρ,by rw[b4,a2'];exact Ext.refl _ _ _,VR.xK yg e2,by rw[b3,a1];exact r.Bm gr,gr.below r.size⟩
section
variable {X:TX} {P:Program} {J:Nat} {ns:List Nat} {h0:Tr ae} {kn:List<|Nat×Option ae} {L L':bO} {g k:Nat} {fn:Func} {body:Code}
theorem adW(hP:bS P)(fY:fI<=J)(dK:J<=top)(dJ:∀n o,n<top->h0.get n=some o->n∈ns)(eD:∀n∈ns,n<J){val:List AV->Option AV}(h:dR X J P<|dk J ns h0 L)(h':dR X J P<|dk J ns h0 L')(cj:P.funcs[g]? =some fn)(ct:fn.body=some body)(dE:(fn.name == "runtime.NumGoroutine")=false)(eT:∀args v,val args=some v->max fn.ntmps args.length<=top/\∀B:aJ,qz X P J ns h0 L' B->
 au P B J (Fin P fn.results.toList fun y _=>y=v) ⟨g,dt args,max fn.ntmps args.length,[.code body],[],none⟩ ⟨h0,J,0,[],[]⟩):dR X J P<|dk J ns h0<|(g,.raw fun a b c=>vM a b c val)::L:=by
 refine(show dR X J P (oT (dk J ns h0 L) g<|vM J ns h0 val) from h.mq (fun YG _ args=>YF.vM _ _ _ _ YG args) fun B hB hT YG hc hl args x s s1 ρ w vs fi r hg hf hm hv=>?_);refine adV hP cj ct dE hB fY dK dJ eD (fun args v e=>?_) r hg hm hv;obtain⟨q1,q2⟩:=eT args v e;exact⟨q1,fun B' lE lF=>q2 B'<|qA hP h' (lE.trans hB)<|lF.trans hT⟩
end
theorem aci{P:Program}{F:Nat->Option (List AV)}{sp:Sp}{g n J:Nat}{h0:Tr ae}{ns:List Nat}{val:List AV->Option AV}(h:sp g=some (vM J ns h0 val)){a b:AV}{m len:Nat}{cap:bW}{v:AV}(h1:(a.hi&&(b.hi&&F5 len cap))=true)(hk:pK J h0 ns s=true)(hm:Nat.blt m (dB J h0 ns s).nx=true)(ht:Nat.blt m top=true)(h2:cellsOf ((dB J h0 ns s).h.get m) off len=some cs)(h3:cs.all AV.gg=true)(h4:val [a,.U (nm cs) 0 len,b]=some v)(h5:v.xK=true):
 bc P sp F (n+1) (.fn g) [a,.slice (some (m,off)) len cap,b] s= .ok v (aU m<|dB J h0 ns s):=by
 show jH P sp g (bc P sp F n) [a,.slice (some (m,off)) len cap,b] s=_;rw[qZ h];cases q:(dB J h0 ns s).h.get m with
 |none=>rw[q] at h2;cases h2
 |some o=>rw[q] at h2;show(aG (a.hi&&(b.hi&&F5 len cap)) <| (fG J h0 ns).bind fun _=>(bt m).bind fun o=>aB (cellsOf (some o) off len) fun cs=>aG (cs.all AV.gg&&Nat.blt m top) <| aB (val [a,.U (nm cs) 0 len,b]) fun v=>aG v.xK <| M.pure v) s=_;rw[h1,dq,M.bK<|xg hk,M.bK<|lN hm q,h2,bQ,h3,ht];show(aG true <| aB (val [a,.U (nm cs) 0 len,b]) fun v=>aG v.xK <| M.pure v) _=_;rw[dq,h4,bQ,h5,dq];rfl
end Go.Rn
namespace Go.Rn
open Go.RowKit
variable {r2 r1 N n:Nat} {ρ σ:Ren} {o':Obj} {cs a rest b:List AV} {y v:AV} {sp:Sp} {s:AS} {o:ae} {F:Nat->Option (List AV)}
noncomputable def bT(cs:List AV):ae:=.cells cs.length (Tr.fill cs 0 .nil) []
theorem acj(ha:a.length<=top)(hb:b.length<=top)(h:bT a=bT b):a=b:=by
 unfold bT at h;injection h with h1 h2 _
 refine List.ext_getElem? fun i=>?_;by_cases q:i<a.length
 ·have e1:=yz ha q;have e2:=yz hb (show i<b.length by omega);rw[←e1, ←e2,h2]
 ·rw[List.getElem?_eq_none aj,List.getElem?_eq_none aj]
open Classical in
noncomputable def rowOf(o:ae):Option<|List AV:=if h:∃cs,cs.length<=top/\o=bT cs then some h.choose else none
theorem HX(h:rowOf o=some cs):o=bT cs/\cs.length<=top:=by
 unfold rowOf at h;split at h
 ·rename_i q;injection h with h;rw[←h];exact⟨q.choose_spec.2,q.choose_spec.1⟩
 ·cases h
theorem HY(h:cs.length<=top):rowOf (bT cs)=some cs:=by unfold rowOf;have q:∃wm,wm.length<=top/\bT cs=bT wm:=⟨cs,h,rfl⟩;rw[dif_pos q];exact congrArg some (acj h q.choose_spec.1 q.choose_spec.2).symm
structure RS where
 pre:List AV
 len:Nat
 cap:bW
 post:List AV
def dO(R:RS)(r1 r2:Nat):List AV:=R.pre++(.ptr (some (r1,0)):: .slice (some (r2,0)) R.len R.cap::R.post)
def rootOf(kp:Nat)(cs:List AV):Option<|RS×Nat×Nat:=match cs.drop kp with
 | .ptr (some (r1,0)):: .slice (some (r2,0)) len cap::post=>some (⟨cs.take kp,len,cap,post⟩,r1,r2)
 |_=>none
theorem RR{R:RS}{kp:Nat}(h:R.pre.length=kp):rootOf kp (dO R r1 r2)=some (R,r1,r2):=by subst h;unfold rootOf dO;rw[List.drop_left,List.take_left];rfl
theorem Sn{kp:Nat}{q:RS×Nat×Nat}(h:rootOf kp cs=some q):cs=dO q.1 q.2.1 q.2.2:=by
 unfold rootOf at h;split at h
 ·rename_i e;injection h with h;subst h
  unfold dO;rw[←e,List.take_append_drop]
 ·cases h
structure VS where
 R:RS
 u:AV
 row:List AV
def xL(k:Nat)(o:ae):Option AV:=match o with
 | .tok k' v=>(match Nat.beq k k' with|true=>some v|false=>none)
 |_=>none
theorem MH{k:Nat}(h:xL k o=some v):o= .tok k v:=by
 unfold xL at h;split at h
 ·split at h
  ·rename_i q;injection h with h;rw[h,Nat.eq_of_beq_eq_true q]
  ·cases h
 ·cases h
theorem MI{k:Nat}:xL k (.tok k v)=some v:=by show(match Nat.beq k k with|true=>some v|false=>none)=some v;rw[ey.2 rfl]
def se(R:RS):Bool:=R.pre.all AV.cM&&R.post.all AV.cM
def bD(kp:Nat)(st:VS):Bool:=se st.R&&(st.row.all AV.cM&&(Nat.ble (dO st.R 0 0).length top&&Nat.ble st.row.length top))
noncomputable section
def mY(kp k:Nat)(val:VS->List AV->Option (AV×VS))(J:Nat)(ns:List Nat)(h0:Tr ae):aK->List AV->M AV:=fun _ args=>match args with
 | .ptr (some (n,0))::rest=>aG (rest.all AV.hi) <| (fG J h0 ns).bind fun _=>(bt n).bind fun o=>aB (rowOf o) fun cs=>aB (rootOf kp cs) fun q=>(bt q.2.1).bind fun o1=>aB (xL k o1) fun u=>(bt q.2.2).bind fun o2=>aB (rowOf o2) fun row=>
  aG (se q.1&&row.all AV.cM) <| aG (!Nat.beq n q.2.1&&(!Nat.beq n q.2.2&& !Nat.beq q.2.1 q.2.2)) <| aB (val ⟨q.1,u,row⟩ rest) fun p=>aG (p.1.hi&&bD kp p.2) <|
  (bJ n<|some<|bT<|dO p.2.R q.2.1 q.2.2).bind fun _=>(kZ q.2.1<|some<|.tok k p.2.u).bind fun _=>(bJ q.2.2<|some<|bT p.2.row).bind fun _=>M.pure p.1
 |_=>fail
def dC(J k:Nat)(st:VS):List<|Nat×ae:=[(J,bT<|dO st.R (J+1)<|J+2),(J+1,.tok k st.u),(J+2,bT st.row)]
end
theorem YF.mY(kp k:Nat)(val:VS->List AV->Option (AV×VS))(J:Nat)(ns:List Nat)(h0:Tr ae)(YG:aK)(args:List AV):YF<|mY kp k val J ns h0 YG args:=by
 unfold Rn.mY;split
 ·exact YF.aG fun _=>YF.bind (YF.fG J h0 ns) fun _=>YF.bind (YF.bt _) fun _=>YF.aB fun _ _=>YF.aB fun _ _=>YF.bind (YF.bt _) fun _=>YF.aB fun _ _=>YF.bind (YF.bt _) fun _=>YF.aB fun _ _=>YF.aG fun _=>YF.aG fun _=>YF.aB fun _ _=>YF.aG fun _=>YF.bind (YF.bJ _ _) fun _=>YF.bind (YF.kZ _ _) fun _=>YF.bind (YF.bJ _ _) fun _=>YF.pure _
 ·exact YF.fail
def gX(J k:Nat)(P:Program)(rs:List ResultVar)(y:AV)(st:VS):=Fin P rs fun y1 s'=>y1=y/\∀m o,(m,o)∈dC J k st->s'.h.get m=some o
theorem UP(ha:a.length<=top)(hb:b.length<=top)(hl:b.length=a.length)(hc:∀(i:Nat) (x y:AV),a[i]? =some x->b[i]? =some y->(x.bR=true->y.bR=true)/\∀v,VR ρ x v->VR σ y v)(h:OR ρ N (bT a) o'):OR σ N (bT b) o':=by unfold bT at h ⊢;simp only[OR] at h ⊢;obtain⟨c,e,rfl,h1,h2,h3⟩:=h;refine⟨c,e,rfl,h1,by omega,fun i hi=>?_⟩;obtain⟨x,v,k1,k2,k3,k4⟩:=h3 i aj;rw[yz ha aj] at k1;have fN:b[i]? =some (b[i]'hi):=List.getElem?_eq_getElem hi;obtain⟨q1,q2⟩:=hc i x _ k1 fN;exact⟨_,v,by rw[yz hb hi];exact fN,q1 k2,k3,q2 v k4⟩
theorem F6(jq:jh ρ σ)(ha:a.length<=top)(hh:a.all AV.cM=true)(h:OR ρ N (bT a) o'):OR σ N (bT a) o':=UP ha ha rfl (fun i x y e1 e2=>by rw[e1] at e2;cases e2;exact⟨id,fun v k=>AV.uW jq (List.all_eq_true.1 hh x<|List.mem_of_getElem? e1) k⟩) h
theorem Al{R:RS}{r3 r4:Nat}:(dO R r1 r2).length=(dO R r3 r4).length:=by unfold dO;simp only[List.length_append,List.length_cons]
theorem IJ{R:RS}{s1 s2:Nat}(jq:jh ρ σ)(hl:(dO R r1 r2).length<=top)(hR:se R=true)(e1:∀x,ρ r1=some x->σ s1=some x)(e2:∀x,ρ r2=some x->σ s2=some x)(h:OR ρ N (bT<|dO R r1 r2) o'):OR σ N (bT<|dO R s1 s2) o':=by
 obtain⟨hp,hq⟩:=and_true.1 hR;refine UP hl (by rw[Al (r3:=r1) (r4:=r2)];exact hl) Al (fun i x y k1 k2=>?_) h;unfold dO at k1 k2;by_cases c1:i<R.pre.length
 ·rw[List.getElem?_append_left c1] at k1 k2;rw[k1] at k2;cases k2;exact⟨id,fun v k=>AV.uW jq (List.all_eq_true.1 hp x<|List.mem_of_getElem? k1) k⟩
 ·rw[List.getElem?_append_right aj] at k1 k2;generalize i - R.pre.length=j at k1 k2
  match j with
  |0=>simp only[List.getElem?_cons_zero,Option.some.injEq] at k1 k2;subst k1;subst k2;refine⟨fun _=>rfl,fun v k=>?_⟩;simp only[VR] at k ⊢;obtain⟨b,N,a1,a2⟩:=k;exact⟨b,N,e1 _ a1,a2⟩
  |1=>
   simp only[List.getElem?_cons_succ,List.getElem?_cons_zero,Option.some.injEq] at k1 k2;subst k1;subst k2;refine⟨fun _=>rfl,fun v k=>?_⟩;generalize R.cap=cp at k ⊢;cases cp<;>simp only[VR] at k ⊢
   ·obtain⟨b,N,a1,a2⟩:=k;exact⟨b,N,e2 _ a1,a2⟩
   ·obtain⟨b,N,c,a1,a2⟩:=k;exact⟨b,N,c,e2 _ a1,a2⟩
   ·obtain⟨l,b,N,p,c,a1,a2⟩:=k;exact⟨l,b,N,p,c,e2 _ a1,a2⟩
  |j+2=>simp only[List.getElem?_cons_succ] at k1 k2;rw[k1] at k2;cases k2;exact⟨id,fun v k=>AV.uW jq (List.all_eq_true.1 hq x<|List.mem_of_getElem? k1) k⟩
theorem aa6{P:Program}{B:aJ}{f J kp k:Nat}{ns:List Nat}{h0:Tr ae}{kn:List<|Nat×Option ae}{val:VS->List AV->Option (AV×VS)}{fn:Func}{body:Code}{w:World}{s1:AS}(hP:bS P)(cj:P.funcs[f]? =some fn)(ct:fn.body=some body)(dE:(fn.name == "runtime.NumGoroutine")=false)(fY:fI<=J)(dK:J+3<=top)(dJ:∀n o,n<top->h0.get n=some o->n∈ns)(eD:∀n∈ns,n<J)(jl:∀n o,(n,some o)∈kn->h0.get n=some o)(jr:∀p∈kn,p.1<top)(eT:∀st rest y aV,val st rest=some (y,aV)->max fn.ntmps (rest.length+1)<=top/\∀B':aJ,B'.F=B.F->B'.inv=B.inv->
 au P B' (J+3) (gX J k P fn.results.toList y aV) ⟨f,dt<|.ptr (some (J,0))::rest,max fn.ntmps<|rest.length+1,[.code body],[],none⟩ ⟨fR<|kn++aX (dC J k st),J+3,0,[],[]⟩){YG:aK}{args:List AV}{x:AV}{vs:Array Value}(r:Rel B ρ s.h w)(hg:gC ρ)(h:mY kp k val J ns h0 YG args s= .ok x s1)(hv:ay ρ args vs.toList):jg P ((callFunc f vs).run P w)<|ki B ρ s s1 w x:=by
 unfold mY at h;split at h
 case h_2=>cases h
 rename_i n rest;obtain⟨gG,h⟩:=cV h;obtain⟨u,s2,h2,h⟩:=M.aN h;obtain⟨a1,a2,a3⟩:=uC h2;obtain⟨o,s3,k1,h⟩:=M.aN h;obtain⟨cs,m1,h⟩:=bu h;obtain⟨q,m2,h⟩:=bu h;obtain⟨o1,s4,k2,h⟩:=M.aN h;obtain⟨tv,m3,h⟩:=bu h;obtain⟨o2,s5,k3,h⟩:=M.aN h;obtain⟨row,m4,h⟩:=bu h;obtain⟨eN,h⟩:=cV h;obtain⟨GA,eR⟩:=and_true.1 eN;obtain⟨cf,h⟩:=cV h;obtain⟨p,hp,h⟩:=bu h;obtain⟨lA,h⟩:=cV h;obtain⟨QK,hS⟩:=and_true.1 lA;obtain⟨hSR,hS⟩:=and_true.1 hS;obtain⟨ahb,hS⟩:=and_true.1 hS;obtain⟨hSl,aiD⟩:=and_true.1 hS;obtain⟨_,t1,w1,h⟩:=M.aN h;obtain⟨_,t2,w2,h⟩:=M.aN h;obtain⟨_,t3,w3,h⟩:=M.aN h;obtain⟨rfl,rfl⟩:=bA h;obtain⟨R,n1,n2⟩:=q;obtain⟨y,aV⟩:=p;have DM:n≠n1/\n≠n2/\n1≠n2:=by
  obtain⟨c1,c2⟩:=and_true.1 cf;obtain⟨c2,c3⟩:=and_true.1 c2;refine⟨fun e=>?_,fun e=>?_,fun e=>?_⟩<;>subst e
  ·rw[ey.2 rfl] at c1;cases c1
  ·rw[ey.2 rfl] at c2;cases c2
  ·rw[show Nat.beq n1 n1=true from ey.2 rfl] at c3;cases c3
 obtain⟨d1,d2,d3⟩:=DM;obtain⟨rfl,o5⟩:=HX m1;have qH:=Sn m2;subst qH;have Ha:=MH m3;subst Ha;obtain⟨rfl,Hb⟩:=HX m4;obtain⟨b1,b2,b3,b4⟩:=fU k1;obtain⟨b5,b6,b7,b8⟩:=fU k2;obtain⟨b9,QL,QM,QN⟩:=fU k3;obtain⟨x1,x2,_,x4,x5⟩:=jx w1;obtain⟨y1,y2,y3,y4⟩:=TH w2;obtain⟨z1,z2,_,z4,z5⟩:=jx w3;have g1:s.h.get n=some (bT<|dO R n1 n2):=by rw[←a1];exact b2
 have g2:s.h.get n1=some (.tok k tv):=by rw[←a1, ←b3];exact b6
 have g3:s.h.get n2=some (bT row):=by rw[←a1, ←b3, ←b7];exact QL
 let V:Vw:=[(J,n,bT<|dO R (J+1)<|J+2),(J+1,n1,.tok k tv),(J+2,n2,bT row)];have mem:∀q∈V,q=(J,n,bT<|dO R (J+1)<|J+2)\/q=(J+1,n1,.tok k tv)\/q=(J+2,n2,bT row):=fun q hq=>by simpa[V] using hq
 have V0:(J,n,bT<|dO R (J+1)<|J+2)∈V:=by simp[V]
 have V1:(J+1,n1,ae.tok k tv)∈V:=by simp[V]
 have V2:(J+2,n2,bT row)∈V:=by simp[V]
 have e0:eU J ρ V J=ρ n:=by
  unfold eU;rw[if_neg aj,if_neg aj];have:gJ V J=some n:=by simp[gJ,V]
  rw[this]
 have e1:eU J ρ V (J+1)=ρ n1:=by
  unfold eU;rw[if_neg aj,if_neg aj];have:gJ V (J+1)=some n1:=by simp[gJ,V]
  rw[this]
 have e2:eU J ρ V (J+2)=ρ n2:=by
  unfold eU;rw[if_neg aj,if_neg aj];have:gJ V (J+2)=some n2:=by simp[gJ,V]
  rw[this]
 have hi:jh ρ<|eU J ρ V:=fun m x hm e=>by rw[yJ aj hm];exact e
 have hV:zS J ρ s.h V:=by
  refine⟨fun q hq=>?_,fun q hq q' dY e=>?_,fun q hq q' dY e=>?_,fun q hq=>?_⟩
  ·rcases mem q hq with rfl|rfl|rfl
   ·exact⟨Nat.le_refl _,by show J<top;omega,x2⟩
   ·exact⟨by show J<=J+1;omega,by show J+1<top;omega,y2⟩
   ·exact⟨by show J<=J+2;omega,by show J+2<top;omega,z2⟩
  ·rcases mem q hq with rfl|rfl|rfl<;>rcases mem q' dY with rfl|rfl|rfl<;>first|rfl|(simp only at e;omega)
  ·rcases mem q hq with rfl|rfl|rfl<;>rcases mem q' dY with rfl|rfl|rfl<;>first|rfl|(exact absurd e<|by assumption)|(exact absurd e.symm<|by assumption)
  ·rcases mem q hq with rfl|rfl|rfl
   ·exact⟨_,g1,.inl ⟨rfl,rfl,fun N o' hO=>IJ hi o5 GA (fun x e=>e1.trans e) (fun x e=>e2.trans e) hO⟩⟩
   ·exact⟨_,g2,.inr ⟨k,tv,rfl,rfl⟩⟩
   ·exact⟨_,g3,.inl ⟨rfl,rfl,fun N o' hO=>F6 hi Hb eR hO⟩⟩
 obtain⟨_,cU,T⟩:=r.tk;have T:DL B ρ s.h w cU:=T;have nJ:=JN aj r T dJ eD jl jr (fun n hn=>by obtain⟨_,o,p,h⟩:=a3 n hn;exact⟨o,p,h⟩) hV;obtain⟨q1,q2⟩:=eT _ _ _ _ hp;have fi:bB (⟨fR<|kn++aX (dC J k ⟨R,tv,row⟩),J+3,0,[],[]⟩:AS):=⟨Nat.zero_le _,dK⟩;have kq:ay (eU J ρ V) (.ptr (some (J,0))::rest) vs.toList:=by simp only[ay,VR] at hv ⊢;obtain⟨v0,vr,q1,⟨b',N',q2,q3⟩,q4⟩:=hv;exact⟨v0,vr,q1,⟨b',N',e0.trans q2,q3⟩,AV.A0 hi gG q4⟩
 have bG:=au.FB (B:=tw B ρ w<|wH ρ cU V) (s:=⟨fR<|kn++aX (dC J k ⟨R,tv,row⟩),J+3,0,[],[]⟩) (args:=.ptr (some (J,0))::rest) (vs:=vs) hP cj ct q1 (q2 _ rfl rfl) fi nJ (fun g iF=>by
  obtain⟨N,e⟩:=hg g iF;exact⟨N,by rw[CL<|Nat.lt_of_lt_of_le iF fY];exact e⟩) (fun m hm j9=>by
  have hm:J+3<=m:=hm;exact HT aj j9 fun q hq=>by rcases mem q hq with rfl|rfl|rfl<;>(show _≠m;simp only;omega)) kq
 rw[si cj ct dE];show Calls P f vs w _;refine bG.mono fun e w'=>?_;rintro ⟨B4,x',s7,rfl,⟨rfl,hL⟩,_,σ,i0,B5,i1,i2,i3⟩;have sV:∀q∈V,σ q.1=ρ q.2.1:=fun q hq=>by
  rcases mem q hq with rfl|rfl|rfl
  ·exact(i0 J aj aj).trans e0
  ·exact(i0 (J+1) aj aj).trans e1
  ·exact(i0 (J+2) aj aj).trans e2
 have j1:=hL J _ (by simp[dC];rfl);have j2:=hL (J+1) (.tok k aV.u) (by simp[dC]);have j3:=hL (J+2) (bT aV.row) (by simp[dC]);have kr:(dO aV.R (J+1)<|J+2).length<=top:=by rw[Al (r3:=0) (r4:=0)];exact aL.1 hSl
 have F7:∀k,k<top->cC ρ σ k=ρ k:=fun k hk=>by unfold cC;rw[if_neg aj]
 have qM:jh σ<|cC ρ σ:=fun k x hk e=>by unfold cC;rw[if_pos hk];exact e
 obtain⟨f1,f2,f3,f4⟩:=I9 (a:=s.nx) (L2:=[(n,bT<|dO aV.R n1 n2),(n1,.tok k aV.u),(n2,bT aV.row)]) (h':=s1.h) r T hV i2 i3 sV (fun m z hm q=>B5 m z hm<|hi m z hm q) (fun m q hm=>by
  rcases List.mem_cons.1 hm with hm|hm
  ·cases hm;exact⟨_,V0,rfl,_,j1,.inl ⟨rfl,rfl,fun N o' hO=>IJ qM kr hSR (fun x e=>by rw[F7 _ y2, ←sV _ V1];exact e) (fun x e=>by rw[F7 _ z2, ←sV _ V2];exact e) hO⟩⟩
  rcases List.mem_cons.1 hm with hm|hm
  ·cases hm;exact⟨_,V1,rfl,_,j2,.inr ⟨k,_,tv,rfl,rfl,rfl⟩⟩
  rcases List.mem_cons.1 hm with hm|hm
  ·cases hm;exact⟨_,V2,rfl,_,j3,.inl ⟨rfl,rfl,fun N o' hO=>F6 qM (aL.1 aiD) ahb hO⟩⟩
  cases hm) (fun q hq cq=>by
  rcases mem q hq with rfl|rfl|rfl
  ·exact⟨_,j1,rfl⟩
  ·cases cq
  ·exact⟨_,j3,rfl⟩) (fun m hm=>by
  have G1:s1.h=((s.h.put n<|some<|bT<|dO aV.R n1 n2).put n1<|some<|.tok k aV.u).put n2 (some<|bT aV.row):=by rw[z4,y3,x4,QM,b7,b3,a1]
  rw[G1,Tr.da _ _ _ _ z2 hm,Tr.da _ _ _ _ y2 hm,Tr.da _ _ _ _ x2 hm];by_cases c3:m=n2
  ·subst c3;exact .inl ⟨_,by simp,if_pos rfl⟩
  rw[if_neg c3];by_cases c2:m=n1
  ·subst c2;exact .inl ⟨_,by simp,if_pos rfl⟩
  rw[if_neg c2];by_cases c1:m=n
  ·subst c1;exact .inl ⟨_,by simp,if_pos rfl⟩
  rw[if_neg c1];exact .inr ⟨fun q hq=>by rcases mem q hq with rfl|rfl|rfl<;>(intro e;exact absurd e.symm<|by assumption),rfl⟩)
 refine⟨B4,rfl,cC ρ σ,?_,AV.pB qM QK i1,f3,f4⟩;have cr:s1.nx=s.nx:=by rw[z5,y4,x5,QN,b8,b4,a2]
 rw[cr];exact f1
section
variable {X:TX} {P:Program} {J kp k:Nat} {ns:List Nat} {h0:Tr ae} {kn:List<|Nat×Option ae} {L L':bO} {g:Nat} {fn:Func} {body:Code}
theorem Io(hP:bS P)(fY:fI<=J)(dK:J+3<=top)(dJ:∀n o,n<top->h0.get n=some o->n∈ns)(eD:∀n∈ns,n<J)(jl:∀n o,(n,some o)∈kn->h0.get n=some o)(jr:∀p∈kn,p.1<top){val:VS->List AV->Option (AV×VS)}(h:dR X J P<|dk J ns h0 L)(h':dR X J P<|dk J ns h0 L')(cj:P.funcs[g]? =some fn)(ct:fn.body=some body)(dE:(fn.name == "runtime.NumGoroutine")=false)(eT:∀st rest y aV,val st rest=some (y,aV)->max fn.ntmps (rest.length+1)<=top/\∀B:aJ,qz X P J ns h0 L' B->
 au P B (J+3) (gX J k P fn.results.toList y aV) ⟨g,dt<|.ptr (some (J,0))::rest,max fn.ntmps<|rest.length+1,[.code body],[],none⟩ ⟨fR<|kn++aX (dC J k st),J+3,0,[],[]⟩):dR X J P<|dk J ns h0<|(g,.raw<|mY kp k val)::L:=by
 refine(show dR X J P (oT (dk J ns h0 L) g<|mY kp k val J ns h0) from h.mq (fun YG _ args=>YF.mY _ _ _ _ _ _ YG args) fun B hB hT YG hc hl args x s s1 ρ w vs fi r hg hf hm hv=>?_);refine aa6 hP cj ct dE fY dK dJ eD jl jr (fun st rest y aV e=>?_) r hg hm hv;obtain⟨q1,q2⟩:=eT st rest y aV e;exact⟨q1,fun B' lE lF=>q2 B'<|qA hP h' (lE.trans hB)<|lF.trans hT⟩
end
theorem F8(n:Nat)(o:Option ae)(s:AS):(fl n o s).nx=s.nx/\(fl n o s).h=s.h.put n o:=by unfold fl;cases Nat.blt n s.mark<;>exact⟨rfl,rfl⟩
theorem aa7{P:Program}{g J kp k:Nat}{h0:Tr ae}{ns:List Nat}{val:VS->List AV->Option (AV×VS)}(h:sp g=some (mY kp k val J ns h0)){a:Nat}{st aV:VS}(hk:pK J h0 ns s=true)(hr:rest.all AV.hi=true)(hd:(!Nat.beq a r1&&(!Nat.beq a r2&& !Nat.beq r1 r2))=true)(hn:(Nat.blt a (dB J h0 ns s).nx&&(Nat.blt r1 (dB J h0 ns s).nx&&Nat.blt r2 (dB J h0 ns s).nx))=true)(ht:(Nat.blt a top&&(Nat.blt r1 top&&Nat.blt r2 top))=true)(g1:(dB J h0 ns s).h.get a=some (bT<|dO st.R r1 r2))(g2:(dB J h0 ns s).h.get r1=some (.tok k st.u))(g3:(dB J h0 ns s).h.get r2=some (bT st.row))(Ce:st.R.pre.length=kp)(ho:bD kp st=true)(hv:val st rest=some (y,aV))(hy:y.hi=true)(kE:bD kp aV=true):
 bc P sp F (n+1) (.fn g) (.ptr (some (a,0))::rest) s= .ok y (fl r2 (some<|bT aV.row)<|fl r1 (some<|.tok k aV.u)<|fl a (some<|bT<|dO aV.R r1 r2)<|aU r2<|aU r1<|aU a<|dB J h0 ns s):=by
 obtain⟨R,u,row⟩:=st;show jH P sp g (bc P sp F n) (.ptr (some (a,0))::rest) s=_;rw[qZ h];have BJ:=ho;obtain⟨o1,ho⟩:=and_true.1 ho;obtain⟨o2,ho⟩:=and_true.1 ho;obtain⟨o3,o4⟩:=and_true.1 ho;obtain⟨n1,hn⟩:=and_true.1 hn;obtain⟨n2,n3⟩:=and_true.1 hn;obtain⟨t1,ht⟩:=and_true.1 ht;obtain⟨t2,t3⟩:=and_true.1 ht;have cf:a≠r1/\a≠r2/\r1≠r2:=by
  obtain⟨c1,c2⟩:=and_true.1 hd;obtain⟨c2,c3⟩:=and_true.1 c2;refine⟨fun e=>?_,fun e=>?_,fun e=>?_⟩<;>subst e
  ·rw[ey.2 rfl] at c1;cases c1
  ·rw[ey.2 rfl] at c2;cases c2
  ·rw[show Nat.beq r1 r1=true from ey.2 rfl] at c3;cases c3
 obtain⟨d1,d2,d3⟩:=cf;have ta:=(blt_eq _ _).mp t1;have tb:=(blt_eq _ _).mp t2;have tc:=(blt_eq _ _).mp t3;show(aG (rest.all AV.hi) <| (fG J h0 ns).bind fun _=>(bt a).bind fun o=>aB (rowOf o) fun cs=>aB (rootOf kp cs) fun q=>(bt q.2.1).bind fun o1=>aB (xL k o1) fun u=>(bt q.2.2).bind fun o2=>aB (rowOf o2) fun row=>
  aG (se q.1&&row.all AV.cM) <| aG (!Nat.beq a q.2.1&&(!Nat.beq a q.2.2&& !Nat.beq q.2.1 q.2.2)) <| aB (val ⟨q.1,u,row⟩ rest) fun p=>aG (p.1.hi&&bD kp p.2) <|
  (bJ a<|some<|bT<|dO p.2.R q.2.1 q.2.2).bind fun _=>(kZ q.2.1<|some<|.tok k p.2.u).bind fun _=>(bJ q.2.2<|some<|bT p.2.row).bind fun _=>M.pure p.1) s=_
 rw[hr,dq,M.bK<|xg hk,M.bK<|lN n1 g1];generalize dB J h0 ns s=z at*;rw[HY (by rw[Al (r3:=0) (r4:=0)];exact aL.1 o3),bQ,RR Ce,bQ];have QO:Nat.blt r1 (aU a z).nx=true:=by rw[(fL a z).2.1];exact n2
 have zI:(aU a z).h.get r1=some (.tok k u):=by rw[(fL a z).1];exact g2
 rw[M.bK<|lN QO zI,MI,bQ];have QP:Nat.blt r2 (aU r1<|aU a z).nx=true:=by rw[(fL r1 _).2.1,(fL a z).2.1];exact n3
 have QQ:(aU r1<|aU a z).h.get r2=some (bT row):=by rw[(fL r1 _).1,(fL a z).1];exact g3
 rw[M.bK<|lN QP QQ,HY<|aL.1 o4,bQ];show(aG (se R&&row.all AV.cM) <| aG (!Nat.beq a r1&&(!Nat.beq a r2&& !Nat.beq r1 r2)) <| aB (val ⟨R,u,row⟩ rest) fun p=>aG (p.1.hi&&bD kp p.2) <| (bJ a<|some<|bT<|dO p.2.R r1 r2).bind fun _=>(kZ r1<|some<|.tok k p.2.u).bind fun _=>(bJ r2<|some<|bT p.2.row).bind fun _=>M.pure p.1) (aU r2<|aU r1<|aU a z)=_;rw[show se R=true from o1,show row.all AV.cM=true from o2,hd,hv];show(aG true <| aG true <| aB (some (y,aV)) fun p=>aG (p.1.hi&&bD kp p.2) <| (bJ a<|some<|bT<|dO p.2.R r1 r2).bind fun _=>(kZ r1<|some<|.tok k p.2.u).bind fun _=>(bJ r2<|some<|bT p.2.row).bind fun _=>M.pure p.1) (aU r2<|aU r1<|aU a z)=_;rw[dq,dq,bQ];show(aG (y.hi&&bD kp aV) <| (bJ a<|some<|bT<|dO aV.R r1 r2).bind fun _=>(kZ r1<|some<|.tok k aV.u).bind fun _=>(bJ r2<|some<|bT aV.row).bind fun _=>M.pure y) (aU r2<|aU r1<|aU a z)=_;rw[hy,kE];show(aG true <| (bJ a<|some<|bT<|dO aV.R r1 r2).bind fun _=>(kZ r1<|some<|.tok k aV.u).bind fun _=>(bJ r2<|some<|bT aV.row).bind fun _=>M.pure y) (aU r2<|aU r1<|aU a z)=_;rw[dq];have zz:(aU r2<|aU r1<|aU a z).nx=z.nx/\(aU r2<|aU r1<|aU a z).h=z.h:=⟨by rw[(fL r2 _).2.1,(fL r1 _).2.1,(fL a z).2.1],by rw[(fL r2 _).1,(fL r1 _).1,(fL a z).1]⟩;generalize aU r2 (aU r1<|aU a z)=v at*;rw[M.bK<|wT (by rw[zz.1];exact n1) (by rw[zz.2];exact g1) rfl t1];have v1:(fl a (some<|bT<|dO aV.R r1 r2) v).h.get r1=some (.tok k u):=by rw[(F8 _ _ _).2,Tr.da _ _ _ _ ta tb,if_neg<|Ne.symm d1,zz.2];exact g2
 have v2:(fl a (some<|bT<|dO aV.R r1 r2) v).h.get r2=some (bT row):=by rw[(F8 _ _ _).2,Tr.da _ _ _ _ ta tc,if_neg<|Ne.symm d2,zz.2];exact g3
 have v3:(fl a (some<|bT<|dO aV.R r1 r2) v).nx=z.nx:=by rw[(F8 _ _ _).1,zz.1]
 generalize fl a (some<|bT<|dO aV.R r1 r2) v=v' at*;rw[M.bK<|NK (by rw[v3];exact n2) v1 rfl t2];rw[M.bK<|wT (by rw[(F8 _ _ _).1,v3];exact n3) (by rw[(F8 _ _ _).2,Tr.da _ _ _ _ tb tc,if_neg<|Ne.symm d3];exact v2) rfl t3];rfl
noncomputable section
def F9(J:Nat)(h0:Tr ae)(ns:List Nat)(k a r1 r2:Nat)(st:VS)(s:AS):Prop:=pK J h0 ns s=true/\(Nat.blt a (dB J h0 ns s).nx&&(Nat.blt r1 (dB J h0 ns s).nx&&Nat.blt r2 (dB J h0 ns s).nx))=true/\(dB J h0 ns s).h.get a=some (bT<|dO st.R r1 r2)/\(dB J h0 ns s).h.get r1=some (.tok k st.u)/\(dB J h0 ns s).h.get r2=some (bT st.row)
def JV(J:Nat)(h0:Tr ae)(ns:List Nat)(k a r1 r2:Nat)(aV:VS)(s:AS):AS:=fl r2 (some<|bT aV.row)<|fl r1 (some<|.tok k aV.u)<|fl a (some<|bT<|dO aV.R r1 r2)<|aU r2<|aU r1<|aU a<|dB J h0 ns s
def Wf(J:Nat)(h0:Tr ae)(ns:List Nat)(a r1 r2:Nat)(s:AS):AS:=aU r2<|aU r1<|aU a<|dB J h0 ns s
end
theorem afx{a b c:ae}{T:Prop}(t:T):(true=true/\true=true/\some a=some a/\some b=some b/\some c=some c)/\T:=⟨⟨rfl,rfl,rfl,rfl,rfl⟩,t⟩
theorem NW{P:Program}{g J kp k:Nat}{h0:Tr ae}{ns:List Nat}{val:VS->List AV->Option (AV×VS)}(h:sp g=some (mY kp k val J ns h0)){a:Nat}{st aV:VS}(hr:rest.all AV.hi=true)(hd:(!Nat.beq a r1&&(!Nat.beq a r2&& !Nat.beq r1 r2))=true)(ht:(Nat.blt a top&&(Nat.blt r1 top&&Nat.blt r2 top))=true)(Ce:st.R.pre.length=kp)(ho:bD kp st=true)(hv:val st rest=some (y,aV))(hy:y.hi=true)(kE:bD kp aV=true):
 ∀s,F9 J h0 ns k a r1 r2 st s->bc P sp F (n+1) (.fn g) (.ptr (some (a,0))::rest) s= .ok y (JV J h0 ns k a r1 r2 aV s):=
 fun _ q=>aa7 h q.1 hr hd q.2.1 ht q.2.2.1 q.2.2.2.1 q.2.2.2.2 Ce ho hv hy kE
end Go.Rn
namespace Go.Rn
open Go.RowKit
variable {y:AV} {st:VS} {sp:Sp} {s:AS} {rest:List AV} {r2 r1 n a:Nat} {F:Nat->Option (List AV)}
noncomputable section
def mZ(kp k:Nat)(val:VS->List AV->Option AV)(J:Nat)(ns:List Nat)(h0:Tr ae):aK->List AV->M AV:=fun _ args=>match args with
 | .ptr (some (n,0))::rest=>aG (rest.all AV.hi) <| (fG J h0 ns).bind fun _=>(bt n).bind fun o=>aB (rowOf o) fun cs=>aB (rootOf kp cs) fun q=>(bt q.2.1).bind fun o1=>aB (xL k o1) fun u=>(bt q.2.2).bind fun o2=>aB (rowOf o2) fun row=>aG (se q.1&&row.all AV.cM) <| aG (!Nat.beq n q.2.1&&(!Nat.beq n q.2.2&& !Nat.beq q.2.1 q.2.2)) <| aB (val ⟨q.1,u,row⟩ rest) fun y=>aG (y.hi&&(Nat.blt n top&&(Nat.blt q.2.1 top&&Nat.blt q.2.2 top))) <| M.pure y
 |_=>fail
end
theorem YF.mZ(kp k:Nat)(val:VS->List AV->Option AV)(J:Nat)(ns:List Nat)(h0:Tr ae)(YG:aK)(args:List AV):YF<|mZ kp k val J ns h0 YG args:=by
 unfold Rn.mZ;split
 ·exact YF.aG fun _=>YF.bind (YF.fG J h0 ns) fun _=>YF.bind (YF.bt _) fun _=>YF.aB fun _ _=>YF.aB fun _ _=>YF.bind (YF.bt _) fun _=>YF.aB fun _ _=>YF.bind (YF.bt _) fun _=>YF.aB fun _ _=>YF.aG fun _=>YF.aG fun _=>YF.aB fun _ _=>YF.aG fun _=>YF.pure _
 ·exact YF.fail
theorem aa8{P:Program}{B:aJ}{f J kp k:Nat}{ns:List Nat}{h0:Tr ae}{kn:List<|Nat×Option ae}{val:VS->List AV->Option AV}{fn:Func}{body:Code}{ρ:Ren}{w:World}{s1:AS}(hP:bS P)(cj:P.funcs[f]? =some fn)(ct:fn.body=some body)(dE:(fn.name == "runtime.NumGoroutine")=false)(fY:fI<=J)(dK:J+3<=top)(dJ:∀n o,n<top->h0.get n=some o->n∈ns)(eD:∀n∈ns,n<J)(jl:∀n o,(n,some o)∈kn->h0.get n=some o)(jr:∀p∈kn,p.1<top)(eT:∀st rest y,val st rest=some y->bD kp st=true->max fn.ntmps (rest.length+1)<=top/\∀B':aJ,B'.F=B.F->B'.inv=B.inv->
 au P B' (J+3) (gX J k P fn.results.toList y st) ⟨f,dt<|.ptr (some (J,0))::rest,max fn.ntmps<|rest.length+1,[.code body],[],none⟩ ⟨fR<|kn++aX (dC J k st),J+3,0,[],[]⟩){YG:aK}{args:List AV}{x:AV}{vs:Array Value}(r:Rel B ρ s.h w)(hg:gC ρ)(h:mZ kp k val J ns h0 YG args s= .ok x s1)(hv:ay ρ args vs.toList):jg P ((callFunc f vs).run P w)<|ki B ρ s s1 w x:=by
 unfold mZ at h;split at h
 case h_2=>cases h
 rename_i n rest;obtain⟨gG,h⟩:=cV h;obtain⟨u,s2,h2,h⟩:=M.aN h;obtain⟨a1,a2,a3⟩:=uC h2;obtain⟨o,s3,k1,h⟩:=M.aN h;obtain⟨cs,m1,h⟩:=bu h;obtain⟨q,m2,h⟩:=bu h;obtain⟨o1,s4,k2,h⟩:=M.aN h;obtain⟨tv,m3,h⟩:=bu h;obtain⟨o2,s5,k3,h⟩:=M.aN h;obtain⟨row,m4,h⟩:=bu h;obtain⟨eN,h⟩:=cV h;obtain⟨GA,eR⟩:=and_true.1 eN;obtain⟨cf,h⟩:=cV h;obtain⟨y,hp,h⟩:=bu h;obtain⟨lA,h⟩:=cV h;obtain⟨QK,lA⟩:=and_true.1 lA;obtain⟨x2,lA⟩:=and_true.1 lA;obtain⟨y2,z2⟩:=and_true.1 lA;have x2:=(blt_eq _ _).mp x2;have y2:=(blt_eq _ _).mp y2;have z2:=(blt_eq _ _).mp z2;obtain⟨rfl,rfl⟩:=bA h;obtain⟨R,n1,n2⟩:=q;have DM:n≠n1/\n≠n2/\n1≠n2:=by
  obtain⟨c1,c2⟩:=and_true.1 cf;obtain⟨c2,c3⟩:=and_true.1 c2;refine⟨fun e=>?_,fun e=>?_,fun e=>?_⟩<;>subst e
  ·rw[ey.2 rfl] at c1;cases c1
  ·rw[ey.2 rfl] at c2;cases c2
  ·rw[show Nat.beq n1 n1=true from ey.2 rfl] at c3;cases c3
 obtain⟨d1,d2,d3⟩:=DM;obtain⟨rfl,o5⟩:=HX m1;have qH:=Sn m2;subst qH;have Ha:=MH m3;subst Ha;obtain⟨rfl,Hb⟩:=HX m4;obtain⟨b1,b2,b3,b4⟩:=fU k1;obtain⟨b5,b6,b7,b8⟩:=fU k2;obtain⟨b9,QL,QM,QN⟩:=fU k3;have g1:s.h.get n=some (bT<|dO R n1 n2):=by rw[←a1];exact b2
 have g2:s.h.get n1=some (.tok k tv):=by rw[←a1, ←b3];exact b6
 have g3:s.h.get n2=some (bT row):=by rw[←a1, ←b3, ←b7];exact QL
 let V:Vw:=[(J,n,bT<|dO R (J+1)<|J+2),(J+1,n1,.tok k tv),(J+2,n2,bT row)];have mem:∀q∈V,q=(J,n,bT<|dO R (J+1)<|J+2)\/q=(J+1,n1,.tok k tv)\/q=(J+2,n2,bT row):=fun q hq=>by simpa[V] using hq
 have V0:(J,n,bT<|dO R (J+1)<|J+2)∈V:=by simp[V]
 have V1:(J+1,n1,ae.tok k tv)∈V:=by simp[V]
 have V2:(J+2,n2,bT row)∈V:=by simp[V]
 have e0:eU J ρ V J=ρ n:=by
  unfold eU;rw[if_neg aj,if_neg aj];have:gJ V J=some n:=by simp[gJ,V]
  rw[this]
 have e1:eU J ρ V (J+1)=ρ n1:=by
  unfold eU;rw[if_neg aj,if_neg aj];have:gJ V (J+1)=some n1:=by simp[gJ,V]
  rw[this]
 have e2:eU J ρ V (J+2)=ρ n2:=by
  unfold eU;rw[if_neg aj,if_neg aj];have:gJ V (J+2)=some n2:=by simp[gJ,V]
  rw[this]
 have hi:jh ρ<|eU J ρ V:=fun m x hm e=>by rw[yJ aj hm];exact e
 have hV:zS J ρ s.h V:=by
  refine⟨fun q hq=>?_,fun q hq q' dY e=>?_,fun q hq q' dY e=>?_,fun q hq=>?_⟩
  ·rcases mem q hq with rfl|rfl|rfl
   ·exact⟨Nat.le_refl _,by show J<top;omega,x2⟩
   ·exact⟨by show J<=J+1;omega,by show J+1<top;omega,y2⟩
   ·exact⟨by show J<=J+2;omega,by show J+2<top;omega,z2⟩
  ·rcases mem q hq with rfl|rfl|rfl<;>rcases mem q' dY with rfl|rfl|rfl<;>first|rfl|(simp only at e;omega)
  ·rcases mem q hq with rfl|rfl|rfl<;>rcases mem q' dY with rfl|rfl|rfl<;>first|rfl|(exact absurd e<|by assumption)|(exact absurd e.symm<|by assumption)
  ·rcases mem q hq with rfl|rfl|rfl
   ·exact⟨_,g1,.inl ⟨rfl,rfl,fun N o' hO=>IJ hi o5 GA (fun x e=>e1.trans e) (fun x e=>e2.trans e) hO⟩⟩
   ·exact⟨_,g2,.inr ⟨k,tv,rfl,rfl⟩⟩
   ·exact⟨_,g3,.inl ⟨rfl,rfl,fun N o' hO=>F6 hi Hb eR hO⟩⟩
 obtain⟨_,cU,T⟩:=r.tk;have T:DL B ρ s.h w cU:=T;have nJ:=JN aj r T dJ eD jl jr (fun n hn=>by obtain⟨_,o,p,h⟩:=a3 n hn;exact⟨o,p,h⟩) hV;have hS:bD kp ⟨R,tv,row⟩=true:=and_true.2 ⟨GA,and_true.2 ⟨eR,and_true.2 ⟨aL.2 (by rw[Al (r3:=n1) (r4:=n2)];exact o5),aL.2 Hb⟩⟩⟩;obtain⟨q1,q2⟩:=eT _ _ _ hp hS;have fi:bB (⟨fR<|kn++aX (dC J k ⟨R,tv,row⟩),J+3,0,[],[]⟩:AS):=⟨Nat.zero_le _,dK⟩;have kq:ay (eU J ρ V) (.ptr (some (J,0))::rest) vs.toList:=by simp only[ay,VR] at hv ⊢;obtain⟨v0,vr,q1,⟨b',N',q2,q3⟩,q4⟩:=hv;exact⟨v0,vr,q1,⟨b',N',e0.trans q2,q3⟩,AV.A0 hi gG q4⟩
 have bG:=au.FB (B:=tw B ρ w<|wH ρ cU V) (s:=⟨fR<|kn++aX (dC J k ⟨R,tv,row⟩),J+3,0,[],[]⟩) (args:=.ptr (some (J,0))::rest) (vs:=vs) hP cj ct q1 (q2 _ rfl rfl) fi nJ (fun g iF=>by
  obtain⟨N,e⟩:=hg g iF;exact⟨N,by rw[CL<|Nat.lt_of_lt_of_le iF fY];exact e⟩) (fun m hm j9=>by
  have hm:J+3<=m:=hm;exact HT aj j9 fun q hq=>by rcases mem q hq with rfl|rfl|rfl<;>(show _≠m;simp only;omega)) kq
 rw[si cj ct dE];show Calls P f vs w _;refine bG.mono fun e w'=>?_;rintro ⟨B4,x',s7,rfl,⟨rfl,hL⟩,_,σ,i0,B5,i1,i2,i3⟩;have sV:∀q∈V,σ q.1=ρ q.2.1:=fun q hq=>by
  rcases mem q hq with rfl|rfl|rfl
  ·exact(i0 J aj aj).trans e0
  ·exact(i0 (J+1) aj aj).trans e1
  ·exact(i0 (J+2) aj aj).trans e2
 have j1:=hL J (bT<|dO R (J+1)<|J+2) (by simp[dC]);have j2:=hL (J+1) (.tok k tv) (by simp[dC]);have j3:=hL (J+2) (bT row) (by simp[dC]);have kr:(dO R (J+1)<|J+2).length<=top:=by rw[Al (r3:=n1) (r4:=n2)];exact o5
 have F7:∀k,k<top->cC ρ σ k=ρ k:=fun k hk=>by unfold cC;rw[if_neg aj]
 have qM:jh σ<|cC ρ σ:=fun k x hk e=>by unfold cC;rw[if_pos hk];exact e
 have hh1:s1.h=s.h:=by rw[QM,b7,b3,a1]
 obtain⟨f1,f2,f3,f4⟩:=I9 (a:=s.nx) (L2:=[(n,bT<|dO R n1 n2),(n1,.tok k tv),(n2,bT row)]) (h':=s1.h) r T hV i2 i3 sV (fun m z hm q=>B5 m z hm<|hi m z hm q) (fun m q hm=>by
  rcases List.mem_cons.1 hm with hm|hm
  ·cases hm;exact⟨_,V0,rfl,_,j1,.inl ⟨rfl,rfl,fun N o' hO=>IJ qM kr GA (fun x e=>by rw[F7 _ y2, ←sV _ V1];exact e) (fun x e=>by rw[F7 _ z2, ←sV _ V2];exact e) hO⟩⟩
  rcases List.mem_cons.1 hm with hm|hm
  ·cases hm;exact⟨_,V1,rfl,_,j2,.inr ⟨k,_,tv,rfl,rfl,rfl⟩⟩
  rcases List.mem_cons.1 hm with hm|hm
  ·cases hm;exact⟨_,V2,rfl,_,j3,.inl ⟨rfl,rfl,fun N o' hO=>F6 qM Hb eR hO⟩⟩
  cases hm) (fun q hq cq=>by
  rcases mem q hq with rfl|rfl|rfl
  ·exact⟨_,j1,rfl⟩
  ·cases cq
  ·exact⟨_,j3,rfl⟩) (fun m hm=>by
  rw[hh1];by_cases c3:m=n2
  ·subst c3;exact .inl ⟨_,by simp,g3⟩
  by_cases c2:m=n1
  ·subst c2;exact .inl ⟨_,by simp,g2⟩
  by_cases c1:m=n
  ·subst c1;exact .inl ⟨_,by simp,g1⟩
  exact .inr ⟨fun q hq=>by rcases mem q hq with rfl|rfl|rfl<;>(intro e;exact absurd e.symm<|by assumption),rfl⟩)
 refine⟨B4,rfl,cC ρ σ,?_,AV.pB qM QK i1,f3,f4⟩;have cr:s1.nx=s.nx:=by rw[QN,b8,b4,a2]
 rw[cr];exact f1
section
variable {X:TX} {P:Program} {J kp k:Nat} {ns:List Nat} {h0:Tr ae} {kn:List<|Nat×Option ae} {L L':bO} {g:Nat} {fn:Func} {body:Code}
theorem ES(hP:bS P)(fY:fI<=J)(dK:J+3<=top)(dJ:∀n o,n<top->h0.get n=some o->n∈ns)(eD:∀n∈ns,n<J)(jl:∀n o,(n,some o)∈kn->h0.get n=some o)(jr:∀p∈kn,p.1<top){val:VS->List AV->Option AV}(h:dR X J P<|dk J ns h0 L)(h':dR X J P<|dk J ns h0 L')(cj:P.funcs[g]? =some fn)(ct:fn.body=some body)(dE:(fn.name == "runtime.NumGoroutine")=false)(eT:∀st rest y,val st rest=some y->bD kp st=true->max fn.ntmps (rest.length+1)<=top/\∀B:aJ,qz X P J ns h0 L' B->
 au P B (J+3) (gX J k P fn.results.toList y st) ⟨g,dt<|.ptr (some (J,0))::rest,max fn.ntmps<|rest.length+1,[.code body],[],none⟩ ⟨fR<|kn++aX (dC J k st),J+3,0,[],[]⟩):dR X J P<|dk J ns h0<|(g,.raw<|mZ kp k val)::L:=by
 refine(show dR X J P (oT (dk J ns h0 L) g<|mZ kp k val J ns h0) from h.mq (fun YG _ args=>YF.mZ _ _ _ _ _ _ YG args) fun B hB hT YG hc hl args x s s1 ρ w vs fi r hg hf hm hv=>?_);refine aa8 hP cj ct dE fY dK dJ eD jl jr (fun st rest y e eo=>?_) r hg hm hv;obtain⟨q1,q2⟩:=eT st rest y e eo;exact⟨q1,fun B' lE lF=>q2 B'<|qA hP h' (lE.trans hB)<|lF.trans hT⟩
end
theorem aai{P:Program}{g J kp k:Nat}{h0:Tr ae}{ns:List Nat}{val:VS->List AV->Option AV}(h:sp g=some (mZ kp k val J ns h0))(hk:pK J h0 ns s=true)(hr:rest.all AV.hi=true)(hd:(!Nat.beq a r1&&(!Nat.beq a r2&& !Nat.beq r1 r2))=true)(hn:(Nat.blt a (dB J h0 ns s).nx&&(Nat.blt r1 (dB J h0 ns s).nx&&Nat.blt r2 (dB J h0 ns s).nx))=true)(ht:(Nat.blt a top&&(Nat.blt r1 top&&Nat.blt r2 top))=true)(g1:(dB J h0 ns s).h.get a=some (bT<|dO st.R r1 r2))(g2:(dB J h0 ns s).h.get r1=some (.tok k st.u))(g3:(dB J h0 ns s).h.get r2=some (bT st.row))(Ce:st.R.pre.length=kp)(ho:bD kp st=true)(hv:val st rest=some y)(hy:y.hi=true):
 bc P sp F (n+1) (.fn g) (.ptr (some (a,0))::rest) s= .ok y (aU r2<|aU r1<|aU a<|dB J h0 ns s):=by
 obtain⟨R,u,row⟩:=st;show jH P sp g (bc P sp F n) (.ptr (some (a,0))::rest) s=_;rw[qZ h];have BJ:=ho;obtain⟨o1,ho⟩:=and_true.1 ho;obtain⟨o2,ho⟩:=and_true.1 ho;obtain⟨o3,o4⟩:=and_true.1 ho;obtain⟨n1,hn⟩:=and_true.1 hn;obtain⟨n2,n3⟩:=and_true.1 hn;obtain⟨t1,ht⟩:=and_true.1 ht;obtain⟨t2,t3⟩:=and_true.1 ht;have cf:a≠r1/\a≠r2/\r1≠r2:=by
  obtain⟨c1,c2⟩:=and_true.1 hd;obtain⟨c2,c3⟩:=and_true.1 c2;refine⟨fun e=>?_,fun e=>?_,fun e=>?_⟩<;>subst e
  ·rw[ey.2 rfl] at c1;cases c1
  ·rw[ey.2 rfl] at c2;cases c2
  ·rw[show Nat.beq r1 r1=true from ey.2 rfl] at c3;cases c3
 obtain⟨d1,d2,d3⟩:=cf;have ta:=(blt_eq _ _).mp t1;have tb:=(blt_eq _ _).mp t2;have tc:=(blt_eq _ _).mp t3;show(aG (rest.all AV.hi) <| (fG J h0 ns).bind fun _=>(bt a).bind fun o=>aB (rowOf o) fun cs=>aB (rootOf kp cs) fun q=>(bt q.2.1).bind fun o1=>aB (xL k o1) fun u=>(bt q.2.2).bind fun o2=>aB (rowOf o2) fun row=>aG (se q.1&&row.all AV.cM) <| aG (!Nat.beq a q.2.1&&(!Nat.beq a q.2.2&& !Nat.beq q.2.1 q.2.2)) <| aB (val ⟨q.1,u,row⟩ rest) fun y=>aG (y.hi&&(Nat.blt a top&&(Nat.blt q.2.1 top&&Nat.blt q.2.2 top))) <| M.pure y) s=_;rw[hr,dq,M.bK<|xg hk,M.bK<|lN n1 g1];generalize dB J h0 ns s=z at*;rw[HY (by rw[Al (r3:=0) (r4:=0)];exact aL.1 o3),bQ,RR Ce,bQ];have QO:Nat.blt r1 (aU a z).nx=true:=by rw[(fL a z).2.1];exact n2
 have zI:(aU a z).h.get r1=some (.tok k u):=by rw[(fL a z).1];exact g2
 rw[M.bK<|lN QO zI,MI,bQ];have QP:Nat.blt r2 (aU r1<|aU a z).nx=true:=by rw[(fL r1 _).2.1,(fL a z).2.1];exact n3
 have QQ:(aU r1<|aU a z).h.get r2=some (bT row):=by rw[(fL r1 _).1,(fL a z).1];exact g3
 rw[M.bK<|lN QP QQ,HY<|aL.1 o4,bQ];show(aG (se R&&row.all AV.cM) <| aG (!Nat.beq a r1&&(!Nat.beq a r2&& !Nat.beq r1 r2)) <| aB (val ⟨R,u,row⟩ rest) fun y=>aG (y.hi&&(Nat.blt a top&&(Nat.blt r1 top&&Nat.blt r2 top))) <| M.pure y) (aU r2<|aU r1<|aU a z)=_;rw[show se R=true from o1,show row.all AV.cM=true from o2,hd,hv];show(aG true <| aG true <| aB (some y) fun y=>aG (y.hi&&(Nat.blt a top&&(Nat.blt r1 top&&Nat.blt r2 top))) <| M.pure y) (aU r2<|aU r1<|aU a z)=_;rw[dq,dq,bQ,hy,t1,t2,t3];rfl
theorem ack{P:Program}{g J kp k:Nat}{h0:Tr ae}{ns:List Nat}{val:VS->List AV->Option AV}(h:sp g=some (mZ kp k val J ns h0))(hr:rest.all AV.hi=true)(hd:(!Nat.beq a r1&&(!Nat.beq a r2&& !Nat.beq r1 r2))=true)(ht:(Nat.blt a top&&(Nat.blt r1 top&&Nat.blt r2 top))=true)(Ce:st.R.pre.length=kp)(ho:bD kp st=true)(hv:val st rest=some y)(hy:y.hi=true):
 ∀s,F9 J h0 ns k a r1 r2 st s->bc P sp F (n+1) (.fn g) (.ptr (some (a,0))::rest) s= .ok y (Wf J h0 ns a r1 r2 s):=
 fun _ q=>aai h q.1 hr hd q.2.1 ht q.2.2.1 q.2.2.2.1 q.2.2.2.2 Ce ho hv hy
end Go.Rn
namespace Go.Rn
open Go.RowKit
variable {rest:List AV} {n:Nat}
noncomputable section
def oY(k:Nat)(val:AV->List AV->Option AV)(J:Nat)(ns:List Nat)(h0:Tr ae):aK->List AV->M AV:=fun _ args=>match args with
 | .ptr (some (n,0))::rest=>aG (rest.all AV.hi&&Nat.ble J n) <| (fG J h0 ns).bind fun _=>(bt n).bind fun o=>aB (xL k o) fun v=>aB (val v rest) fun y=>aG (y.hi&&Nat.blt n top) <| M.pure y
 |_=>fail
end
theorem YF.oY(k:Nat)(val:AV->List AV->Option AV)(J:Nat)(ns:List Nat)(h0:Tr ae)(YG:aK)(args:List AV):YF<|oY k val J ns h0 YG args:=by
 unfold Rn.oY;split
 ·exact YF.aG fun _=>YF.bind (YF.fG J h0 ns) fun _=>YF.bind (YF.bt _) fun _=>YF.aB fun _ _=>YF.aB fun _ _=>YF.aG fun _=>YF.pure _
 ·exact YF.fail
noncomputable def Dw(val:AV->List AV->Option AV)(v:AV)(rest:List AV):Option<|AV×AV:=(val v rest).map fun y=>(y,v)
theorem abe{J k:Nat}{ns:List Nat}{h0:Tr ae}{val:AV->List AV->Option AV}{YG:aK}{x:AV}{s s1:AS}(h:oY k val J ns h0 YG (.ptr (some (n,0))::rest) s= .ok x s1):
 ∃Eh,xW J ns h0 k (Dw val) YG (.ptr (some (n,0))::rest) s= .ok x Eh/\Eh.nx=s1.nx/\∀m,m<top->s1.h.get m=Eh.h.get m:=by
 unfold oY at h;obtain⟨hh,h1⟩:=cV h;obtain⟨u,s2,h2,h3⟩:=M.aN h1;obtain⟨o,s3,h4,h5⟩:=M.aN h3;obtain⟨v,h6,h7⟩:=bu h5;obtain⟨y,h8,h9⟩:=bu h7;obtain⟨gE,ug⟩:=cV h9;obtain⟨hy,ht⟩:=and_true.1 gE;obtain⟨rfl,rfl⟩:=bA ug;have ho:=MH h6;subst ho;obtain⟨b1,b2,b3,b4⟩:=fU h4;have hg:s1.h.get n=some (.tok k v):=by rw[b3];exact b2
 have hn:Nat.blt n s1.nx=true:=(blt_eq _ _).mpr (by rw[b4];exact b1);have hw:=NK (p:=.tok k v) (o:=some<|.tok k v) hn hg rfl ht;refine⟨fl n (some<|.tok k v) s1,?_,?_,fun m hm=>?_⟩
 ·show(aG (rest.all AV.hi&&Nat.ble J n) <| (fG J h0 ns).bind fun _=>(bt n).bind fun o=>match o with
   | .tok k' v=>aG (Nat.beq k k') <| aB (Dw val v rest) fun p=>aG p.1.hi <| (kZ n<|some<|.tok k p.2).bind fun _=>M.pure p.1
   |_=>fail) s=_
  rw[hh,dq,M.bK h2,M.bK h4];show(aG (Nat.beq k k) <| aB (Dw val v rest) fun p=>aG p.1.hi <| (kZ n<|some<|.tok k p.2).bind fun _=>M.pure p.1) s1=_;rw[ey.2 rfl,dq];unfold Dw;rw[h8];show(aG x.hi <| (kZ n<|some<|.tok k v).bind fun _=>M.pure x) s1=_;rw[hy,dq,M.bK hw];rfl
 ·unfold fl;cases Nat.blt n s1.mark<;>rfl
 ·have e:(fl n (some<|.tok k v) s1).h=s1.h.put n (some<|.tok k v):=by unfold fl;cases Nat.blt n s1.mark<;>rfl
  rw[e,Tr.lL _ _ _ _<|(blt_eq _ _).mp ht];by_cases q:m=n
  ·rw[if_pos q,q,hg]
  ·rw[if_neg q]
section
variable {X:TX} {P:Program} {J k:Nat} {ns:List Nat} {h0:Tr ae} {kn:List<|Nat×Option ae} {L L':bO} {g:Nat} {fn:Func} {body:Code}
theorem Iq(hX:yk X J)(hP:bS P)(fY:fI<=J)(dK:J<=top)(dJ:∀n o,n<top->h0.get n=some o->n∈ns)(eD:∀n∈ns,n<J)(jl:∀n o,(n,some o)∈kn->h0.get n=some o)(jr:∀p∈kn,p.1<top){val:AV->List AV->Option AV}(h:dR X J P<|dk J ns h0 L)(h':dR X J P<|dk J ns h0 L')(cj:P.funcs[g]? =some fn)(ct:fn.body=some body)(dE:(fn.name == "runtime.NumGoroutine")=false)(eT:∀v rest y,val v rest=some y->max fn.ntmps (rest.length+1)<=top/\∀L,X k v L->∃nx,J<nx/\nx<=top/\(∀p∈L,p.1<nx)/\∀B:aJ,qz X P J ns h0 L' B->
 au P B (J+1) (iS X P fn.results.toList k y v) ⟨g,dt<|.ptr (some (J,0))::rest,max fn.ntmps<|rest.length+1,[.code body],[],none⟩ ⟨fR<|kn++aX L,nx,0,[],[]⟩):dR X J P<|dk J ns h0<|(g,.raw<|oY k val)::L:=by
 refine(show dR X J P (oT (dk J ns h0 L) g<|oY k val J ns h0) from h.mq (fun YG _ args=>YF.oY _ _ _ _ _ YG args) fun B hB hT YG hc hl args x s s1 ρ w vs fi r hg hf hm hv=>?_);have ha:∃n rest,args= .ptr (some (n,0))::rest:=by
  unfold oY at hm;split at hm
  ·exact⟨_,_,rfl⟩
  ·cases hm
 obtain⟨n,rest,rfl⟩:=ha;obtain⟨Eh,e1,e2,e3⟩:=abe hm;have key:=TI (val:=Dw val) hX hT hP cj ct dE fY dK dJ eD jl jr (fun v rest y v' e=>by
  unfold Dw at e;cases q:val v rest with
  |none=>rw[q] at e;cases e
  |some y1=>
   rw[q] at e;injection e with e;injection e with e1 e2
   subst e1;subst e2;obtain⟨q1,q2⟩:=eT v rest y1 q;refine⟨q1,fun L1 hL=>?_⟩;obtain⟨nx,n1,n2,n3,q3⟩:=q2 L1 hL;exact⟨nx,n1,n2,n3,fun B' lE lF=>q3 B'<|qA hP h' (lE.trans hB)<|lF.trans hT⟩) r hg e1 hv
 rw[si cj ct dE] at key ⊢;refine Calls.mono key fun e w'=>?_;rintro ⟨y,rfl,σ,c1,c2,c3,c4⟩;exact⟨y,rfl,σ,by rw[←e2];exact c1,c2,c3.congr e3,c4⟩
end
noncomputable section
def W8(J:Nat)(h0:Tr ae)(ns:List Nat)(k n:Nat)(v:AV)(s:AS):Prop:=pK J h0 ns s=true/\Nat.blt n (dB J h0 ns s).nx=true/\(dB J h0 ns s).h.get n=some (.tok k v)
def W9(J:Nat)(h0:Tr ae)(ns:List Nat)(n:Nat)(s:AS):AS:=aU n<|dB J h0 ns s
end
theorem aec{P:Program}{F:Nat->Option (List AV)}{sp:Sp}{g m J k:Nat}{h0:Tr ae}{ns:List Nat}{val:AV->List AV->Option AV}(h:sp g=some (oY k val J ns h0)){v y:AV}(hr:(rest.all AV.hi&&Nat.ble J n)=true)(ht:Nat.blt n top=true)(hv:val v rest=some y)(hy:y.hi=true):
 ∀s,W8 J h0 ns k n v s->bc P sp F (m+1) (.fn g) (.ptr (some (n,0))::rest) s= .ok y (W9 J h0 ns n s):=fun s q=>by
 obtain⟨q1,q2,q3⟩:=q;show jH P sp g (bc P sp F m) (.ptr (some (n,0))::rest) s=_;rw[qZ h];show(aG (rest.all AV.hi&&Nat.ble J n) <| (fG J h0 ns).bind fun _=>(bt n).bind fun o=>aB (xL k o) fun v=>aB (val v rest) fun y=>aG (y.hi&&Nat.blt n top) <| M.pure y) s=_;rw[hr,dq,M.bK<|xg q1,M.bK<|lN q2 q3,MI,bQ,hv,bQ,hy,ht];rfl
end Go.Rn
namespace Go.Rn
open Go.RowKit
def Fix(J:Nat)(os:List<|Nat×Option ae)(o:ae):Prop:=(o.jP=true/\∀r:Nat->Nat,(∀k,k<J->r k=k)->(∀k,top<=k->r k=k)->fj [] r o o)\/o= .iA\/∃m es ex left cur,o= .iter m es ex left cur/\m<J/\(m,some .iA)∈os/\qx es/\qx left/\∀x,cur=some x->qx [x]
theorem wM:∀l:List<|Nat×ae,aX l=l.map fun p=>(p.1,some p.2)
 |[]=>rfl
 |p::l=>congrArg _<|wM l
theorem UY{m:Nat}{o:ae}:∀{l:List<|Nat×Option ae},(∀p∈l,p.1<top)->(∀p∈l,∀q∈l,p.1=q.1->p=q)->(m,some o)∈l->(fR l).get m=some o
 |[],_,_,h=>by cases h
 |p::l,h1,h2,h3=>by
  show((fR l).put p.1 p.2).get m=_;have hm:m<top:=h1 _ h3;rw[Tr.da _ _ _ _ (h1 p List.mem_cons_self) hm];by_cases e:m=p.1
  ·rw[if_pos e];have:=h2 _ h3 p List.mem_cons_self e;rw[←this]
  ·rw[if_neg e];rcases List.mem_cons.1 h3 with rfl|h3
   ·exact absurd rfl e
   ·exact UY (fun q hq=>h1 q<|List.mem_cons_of_mem _ hq) (fun q hq q' dY=>h2 q (List.mem_cons_of_mem _ hq) q'<|List.mem_cons_of_mem _ dY) h3
theorem au.mv{P:Program}{B:aJ}{J:Nat}{Q:Tr AV->List Nat->Option Code->AS->Prop}{s:AS}{t:Tr AV}{nt f:Nat}{K:List Item}{os:List<|Nat×Option ae}{l0 l:List<|Nat×AV}{a:Nat}{x:ae}(hg:fI<=J)(hn:J+1<top)(ha:J<=a/\a<top)(hs:s.nx<top)(h1:∀p∈l0,t.get p.1=some p.2)(h2:∀p∈os,s.h.get p.1=p.2)(h3:s.h.get a=some x)(eW:∀p∈os,p.1<J)(hl:∀p∈l,p.1<top)(ht:∀r:Nat->Nat,(∀k,k<J->r k=k)->(∀k,top<=k->r k=k)->r J=a->∀p∈l,∃y,(p.1,y)∈l0/\jC [] r y p.2)(ho:∀p∈os,∀y,p.2=some y->Fix J os y)(hx:x.jP=true/\∀r:Nat->Nat,(∀k,top<=k->r k=k)->fj [] r x x)(H:au P B J Q ⟨f,aE l,nt,K,[],none⟩<|ah (os++[(J,some x)])<|J+1):au P B J Q ⟨f,t,nt,K,[],none⟩ s:=by
 have zO:∀p∈os,∀q∈os,p.1=q.1->p=q:=fun p hp q hq e=>by have a1:=h2 p hp;rw[e,h2 q hq] at a1;exact Prod.ext e a1.symm
 let r:Nat->Nat:=fun k=>if k<J\/top<=k then k else if k=J then a else max k s.nx
 have r1:∀k,k<J->r k=k:=fun k hk=>if_pos<|.inl hk;have r2:∀k,top<=k->r k=k:=fun k hk=>if_pos<|.inr hk;have r3:r J=a:=by show(if _ then _ else _)=_;rw[if_neg aj,if_pos rfl]
 have cL:∀p∈os++[(J,some x)],p.1<top:=fun p hp=>by
  rcases List.mem_append.1 hp with hp|hp
  ·have:=eW p hp;omega
  ·rw[List.mem_singleton] at hp;subst hp;show J<top;omega
 have aiI:∀p∈os++[(J,some x)],∀q∈os++[(J,some x)],p.1=q.1->p=q:=fun p hp q hq e=>by
  rcases List.mem_append.1 hp with hp|hp<;>rcases List.mem_append.1 hq with hq|hq
  ·exact zO p hp q hq e
  ·rw[List.mem_singleton] at hq;have:=eW p hp;rw[hq] at e;have e:p.1=J:=e;omega
  ·rw[List.mem_singleton] at hp;have:=eW q hq;rw[hp] at e;have e:J=q.1:=e;omega
  ·rw[List.mem_singleton] at hp hq;rw[hp,hq]
 have iR:∀n y,n<top->(fR<|os++[(J,some x)]).get n=some y->(n,some y)∈os\/(n=J/\y=x):=fun n y hn hg=>by
  rcases List.mem_append.1 (uK cL hg) with h|h
  ·exact .inl h
  ·rw[List.mem_singleton] at h;injection h with e1 e2;injection e2 with e2;exact .inr ⟨e1,e2⟩
 refine au.weaken (s2:=ah (os++[(J,some x)])<|J+1) (t2:=aE l) [] r r1 (fun k hk ht=>?_) r2 hg ⟨Nat.zero_le _,by show J+1<=top;omega⟩ rfl rfl (fun _ h=>by cases h) (fun i y hy=>?_) (fun n y hn hg=>?_) (fun _ h=>by cases h) (fun n m y z hn hm e1 e2 e=>?_) H
 ·have zG:J+1<=k:=hk;show s.nx<=(if _ then _ else _)/\(if _ then _ else _)<top;rw[if_neg aj,if_neg aj];omega
 ·obtain⟨y0,a1,a2⟩:=ht r r1 r2 r3 _<|Cz hl hy;exact⟨y0,h1 _ a1,a2⟩
 ·rcases iR n y hn hg with h|⟨rfl,rfl⟩
  ·have bZ:n<J:=eW _ h;rw[r1 n bZ];have hh:s.h.get n=some y:=h2 _ h;rcases ho _ h y rfl with⟨q1,q2⟩|q|⟨m,es,ex,left,cur,q,q1,q2,q3,q4,q5⟩
   ·exact⟨hn,.inl q1,y,hh,fK.refl _,q2 r r1 r2⟩
   ·have q:y= .iA:=q;subst q;exact⟨hn,.inr ⟨r1 n bZ,hh,trivial⟩,_,hh,fK.refl _,fun _ _ _ _ _ k=>k⟩
   ·have q:y= .iter m es ex left cur:=q;subst q;refine⟨hn,.inr ⟨r1 n bZ,hh,r1 m q1,UY cL aiI<|List.mem_append_left _ q2,q3,q4,q5⟩,_,hh,fK.refl _,fun ρ fE N o hm k=>?_⟩;simp only[OR] at k ⊢;obtain⟨b,M,c,s',k1,k2⟩:=k;exact⟨b,M,c,s',by rw[r1 m q1];exact hm.1 _ _ k1,k2⟩
  ·rw[r3];exact⟨ha.2,.inl hx.1,y,h3,fK.refl _,hx.2 r r2⟩
 ·rcases iR n y hn e1 with h|⟨c1,_⟩<;>rcases iR m z hm e2 with h'|⟨c2,_⟩
  ·have a1:n<J:=eW _ h;have a2:m<J:=eW _ h';rw[r1 n a1,r1 m a2] at e;exact e
  ·have a1:n<J:=eW _ h;rw[r1 n a1,c2,r3] at e;omega
  ·have a1:m<J:=eW _ h';rw[r1 m a1,c1,r3] at e;omega
  ·rw[c1,c2]
end Go.Rn
namespace Go.Rn
open Go.RowKit
variable {l:List<|Int×Int} {x:AV} {sp:Sp} {n:Nat} {F:Nat->Option (List AV)}
def aS(p:Int×Int):List AV:=[.int .i64 p.1,.int .i64 p.2]
def lz(p:Int×Int):List Value:=[.int .i64 p.1,.int .i64 p.2]
theorem Ti(x y:Int×Int)(h:aS x=aS y):x=y:=by obtain⟨a,b⟩:=x;obtain⟨c,d⟩:=y;simp only[aS,List.cons.injEq,AV.int.injEq,true_and,_root_.and_true] at h;rw[h.1,h.2]
theorem It{L:List AV}(hl:L.length<=top){i:Nat}(hx:L[i]? =some x):cellAt (Tr.fill L 0 .nil) [] i=some x:=by have hi:=(List.getElem?_eq_some_iff.1 hx).1;unfold cellAt;rw[Tr.sq _ _ _ _ aj,if_pos aj,Nat.sub_zero,hx]
def lQ(l:List<|Int×Int):List Int:=(l.map fun p=>[p.1,p.2]).flatten
theorem uR:∀l,(l.map aS).flatten=(lQ l).map (AV.int .i64)
 |[]=>rfl
 |p::l=>by show aS p++(l.map aS).flatten=_;rw[uR l];rfl
theorem Fq:∀l,(l.map lz).flatten=(lQ l).map (Value.int .i64)
 |[]=>rfl
 |p::l=>by show lz p++(l.map lz).flatten=_;rw[Fq l];rfl
theorem Ct:∀l,(lQ l).length=l.length*2
 |[]=>rfl
 |p::l=>by show([p.1,p.2]++lQ l).length=_;rw[List.length_append,Ct l];show 2+_=(l.length+1)*2;omega
def dP(l:List<|Int×Int):List<|Int×Int:=l.mergeSort fun a b=>decide<|a.1<=b.1
theorem Cq(l:List<|Int×Int):(dP l).Perm l:=List.mergeSort_perm l _
theorem Am(l:List<|Int×Int):(dP l).length=l.length:=(Cq l).length_eq
theorem No(l:List<|Int×Int):(dP l).Pairwise fun a b=>a.1<=b.1:=by
 have:=List.pairwise_mergeSort (le:=fun a b:Int×Int=>decide<|a.1<=b.1) (fun a b c h1 h2=>decide_eq_true<|Int.le_trans (of_decide_eq_true h1)<|of_decide_eq_true h2) (fun a b=>by
  cases e:decide (a.1<=b.1)
  ·have:=of_decide_eq_false e;rw[decide_eq_true (show b.1<=a.1 by omega)];rfl
  ·rfl) l
 exact this.imp fun h=>of_decide_eq_true h
theorem aed(nd:(l.map (·.1)).Nodup){a b:Int×Int}(ha:a∈l)(hb:b∈l)(h:a.1=b.1):a=b:=by
 induction l with
 |nil=>cases ha
 |cons c l ih=>
  rw[List.map_cons,List.nodup_cons] at nd;rcases List.mem_cons.1 ha with ea|qE<;>rcases List.mem_cons.1 hb with eb|fN
  ·rw[ea,eb]
  ·exact absurd (show c.1∈l.map (·.1) by rw[←ea,h];exact List.mem_map_of_mem fN) nd.1
  ·exact absurd (show c.1∈l.map (·.1) by rw[←eb, ←h];exact List.mem_map_of_mem qE) nd.1
  ·exact ih nd.2 qE fN
theorem T2{m:List<|Int×Int}(nd:(l.map (·.1)).Nodup)(hp:m.Perm l)(hs:m.Pairwise fun a b=>a.1<=b.1):m=dP l:=by refine List.Perm.eq_of_pairwise (le:=fun a b=>a.1<=b.1) (fun a b ha hb h1 h2=>?_) hs (No l)<|hp.trans (Cq l).symm;exact aed nd (hp.subset ha) ((Cq l).subset hb)<|Int.le_antisymm h1 h2
structure Da (P:Program) (f g:FuncId):Prop where
 is:∃fn body,P.funcs[f]? =some fn/\fn.body=some body/\(fn.name == "runtime.NumGoroutine")=false
 Xa:∀(a:Option Addr) (c:Nat) (w:World),Calls P f #[.slice a 0 c,.func (.func g) #[] #[]] w fun e w'=>e= .returned (.tuple #[])/\w'=w
 rows:∀(b c:Nat) (l:List<|Int×Int) (cs:Array Value) (e:TypeId) (w:World),w.heap[b]? =some (.cells cs e (0,0))->(∀(i:Nat) (v:Value),(l.map lz).flatten[i]? =some v->cs[i]? =some v)->l.length<=1000000->(l.map (·.1)).Nodup->
  Calls P f #[.slice (some ⟨b,0,none⟩) l.length c,.func (.func g) #[] #[]] w fun e' w'=>e'= .returned (.tuple #[])/\(w'.os=w.os/\w'.tape=w.tape/\w'.output=w.output/\w.heap.size<=w'.heap.size)/\(∀k,k<w.heap.size->k≠b->w'.heap[k]? =w.heap[k]?)/\
   ∃wm,w'.heap[b]? =some (.cells wm e (0,0))/\wm.size=cs.size/\∀(i:Nat) (v:Value),((dP l).map lz).flatten[i]? =some v->wm[i]? =some v
open Classical in
noncomputable def Dx(o:ae):Option<|List<|Int×Int:=if h:∃l:List<|Int×Int,o=aC aS l/\l.length<=1000000 then some h.choose else none
theorem abg{o:ae}(h:Dx o=some l):o=aC aS l/\l.length<=1000000:=by
 unfold Dx at h;split at h
 ·rename_i q;injection h with h;rw[←h];exact q.choose_spec
 ·cases h
theorem Fe(h:l.length<=1000000):(l.map aS).flatten.length<=top:=by rw[uR,List.length_map,Ct];unfold top;omega
theorem acw{m:List<|Int×Int}(hl:l.length<=1000000)(hm:m.length<=1000000)(h:aC aS l=aC aS m):l=m:=by
 have ht:=Fe hl;have hu:=Fe hm;unfold aC at h;injection h with h1 h2 _
 have key:∀{l m:List<|Int×Int},lQ l=lQ m->l=m:=by
  intro l;induction l with
  |nil=>intro m e;cases m with
   |nil=>rfl
   |cons=>cases e
  |cons x l ih=>intro m e;cases m with
   |nil=>cases e
   |cons y m=>
    have e:x.1::x.2::lQ l=y.1::y.2::lQ m:=e;injection e with e1 e;injection e with e2 e
    rw[ih e,show x=y from Prod.ext e1 e2]
 refine key<|List.ext_getElem? fun i=>?_;have e0:(lQ l).length=(lQ m).length:=by rw[uR,uR,List.length_map,List.length_map] at h1;exact h1
 by_cases q:i<(lQ l).length
 ·have e1:=It ht (show(l.map aS).flatten[i]? =some (.int .i64 (lQ l)[i]) by rw[uR,List.getElem?_map,List.getElem?_eq_getElem q];rfl);have e2:=It hu (show(m.map aS).flatten[i]? =some (.int .i64<|(lQ m)[i]'aj) by rw[uR,List.getElem?_map,List.getElem?_eq_getElem aj];rfl);rw[h2,e2] at e1;injection e1 with e1;injection e1 with _ e1
  rw[List.getElem?_eq_getElem q,List.getElem?_eq_getElem aj,e1]
 ·rw[List.getElem?_eq_none aj,List.getElem?_eq_none aj]
theorem abh(h:l.length<=1000000):Dx (aC aS l)=some l:=by unfold Dx;have q:∃l':List<|Int×Int,aC aS l=aC aS l'/\l'.length<=1000000:=⟨l,rfl,h⟩;rw[dif_pos q];exact congrArg some (acw h q.choose_spec.2 q.choose_spec.1).symm
noncomputable def tC(g:FuncId):aK->List AV->M AV:=fun _ args=>match args with
 |[.slice none _ _,.func (.func g') [] []]=>iI (g'=g) <| M.pure<|.tuple []
 |[.slice (some (n,0)) len (.aq _ _),.func (.func g') [] []]=>iI (g'=g) <| (bt n).bind fun o=>aB (Dx o) fun l=>iI (len=l.length/\(l.map (·.1)).Nodup) <| (bJ n<|some<|aC aS<|dP l).bind fun _=>M.pure<|.tuple []
 |_=>fail
theorem YF.tC(g:FuncId)(YG:aK)(args:List AV):YF<|tC g YG args:=by
 unfold Rn.tC;split
 ·exact YF.iI<|YF.pure _
 ·exact YF.iI <| YF.bind (YF.bt _) fun _=>YF.aB fun _ _=>YF.iI <| YF.bind (YF.bJ _ _) fun _=>YF.pure _
 ·exact YF.fail
theorem VF{ρ:Ren}{N:Nat}{o:Obj}(hl:l.length<=1000000):OR ρ N (aC aS l) o↔∃c e,o= .cells c e (0,0)/\c.size=N/\l.length*2<=N/\∀(i:Nat) (v:Value),(l.map lz).flatten[i]? =some v->c[i]? =some v:=by
 have ht:=Fe hl;have hn:(l.map aS).flatten.length=l.length*2:=by rw[uR,List.length_map,Ct]
 unfold aC;simp only[OR];constructor
 ·rintro ⟨c,e,rfl,h1,h2,h3⟩;refine⟨c,e,rfl,h1,by omega,fun i v hv=>?_⟩;rw[Fq,List.getElem?_map] at hv;cases hz:(lQ l)[i]? with
  |none=>rw[hz] at hv;cases hv
  |some z=>
   rw[hz] at hv;injection hv with hv
   have hi:i<(lQ l).length:=(List.getElem?_eq_some_iff.1 hz).1;obtain⟨x,v',a1,_,a3,a4⟩:=h3 i (by rw[uR,List.length_map];exact hi);have a0:cellAt (Tr.fill (l.map aS).flatten 0 .nil) [] i=some (.int .i64 z):=It ht (by rw[uR,List.getElem?_map,hz];rfl);rw[a0] at a1;injection a1 with a1;subst a1
   simp only[VR] at a4;rw[a3,a4, ←hv]
 ·rintro ⟨c,e,rfl,h1,h2,h3⟩;refine⟨c,e,rfl,h1,by omega,fun i hi=>?_⟩;have iv:i<(lQ l).length:=by rw[Ct];omega
  have hz:(lQ l)[i]? =some (lQ l)[i]:=List.getElem?_eq_getElem iv;refine⟨.int .i64 (lQ l)[i],.int .i64 (lQ l)[i],It ht (by rw[uR,List.getElem?_map,hz];rfl),rfl,h3 i _ (by rw[Fq,List.getElem?_map,hz];rfl),by simp only[VR]⟩
section
variable {P:Program} {B:aJ} {ρ:Ren} {w:World} {s s1:AS} {f g:FuncId}
theorem abi(hj:Da P f g){YG:aK}{args:List AV}{vs:Array Value}(r:Rel B ρ s.h w)(hv:ay ρ args vs.toList)(h:tC g YG args s= .ok x s1):jg P ((callFunc f vs).run P w)<|ki B ρ s s1 w x:=by
 obtain⟨fn,body,cj,ct,dE⟩:=hj.is;rw[si cj ct dE];show Calls P f vs w _;obtain⟨vs⟩:=vs;unfold tC at h;split at h
 ·rename_i len c g';obtain⟨hg,h3⟩:=wG h;subst hg;obtain⟨rfl,rfl⟩:=bA h3;simp only[ay] at hv;obtain⟨v1,l1,rfl,h1,v2,l2,rfl,h2,rfl⟩:=hv;obtain⟨rfl,_,rfl⟩:=lJ h1;simp only[VR] at h2;obtain⟨_,⟨f1⟩,⟨c1⟩,rfl,e1,e2⟩:=h2;simp only[ay] at e1 e2;subst e1;subst e2;refine(hj.Xa none _ w).mono fun e w'=>?_;rintro ⟨rfl,rfl⟩;exact⟨_,rfl,ρ,Ext.refl _ _ _,by simp only[VR,ay];exact⟨_,rfl,rfl⟩,r,cw.refl _ _⟩
 ·rename_i n len lo ke g';obtain⟨hg,h3⟩:=wG h;subst hg;obtain⟨o,s2,k1,h4⟩:=M.aN h3;obtain⟨l,k2,h5⟩:=bu h4;obtain⟨⟨rfl,nd⟩,h6⟩:=wG h5;obtain⟨u,s3,k3,h7⟩:=M.aN h6;obtain⟨rfl,rfl⟩:=bA h7;obtain⟨rfl,hl⟩:=abg k2;obtain⟨a1,a2,a3,a4⟩:=fU k1;obtain⟨b1,b2,_,b4,b5⟩:=jx k3;simp only[ay] at hv;obtain⟨v1,l1,rfl,h1,v2,l2,rfl,h2,rfl⟩:=hv;simp only[VR] at h1;obtain⟨b,N,cc,jq,rfl,c1,c2,c3⟩:=h1;simp only[VR] at h2;obtain⟨_,⟨f1⟩,⟨c1⟩,rfl,e1,e2⟩:=h2;simp only[ay] at e1 e2;subst e1;subst e2;obtain⟨o',hb,hO,hB⟩:=r.block b2 a2 jq;obtain⟨cs,e,rfl,q1,q2,q3⟩:=(VF hl).1 hO;refine(hj.rows b cc l cs e w hb q3 hl nd).mono fun e' w'=>?_;rintro ⟨rfl,⟨w1,w2,w3,w4⟩,w5,wm,w6,w7,w8⟩;have Lh:=ib hb;let W:World:={w with heap:=w.heap.setIfInBounds b<|.cells wm e (0,0)};have o1:uU b w W:=⟨rfl,rfl,rfl,Array.size_setIfInBounds,fun k hk=>Array.getElem?_setIfInBounds_ne<|Ne.symm hk⟩;have o2:W.heap[b]? =some (.cells wm e (0,0)):=Array.getElem?_setIfInBounds_self_of_lt Lh;have hs:W.heap.size=w.heap.size:=Array.size_setIfInBounds;have o3:gN W w':=⟨w1,w2,w3,by rw[hs];exact w4,fun k hk=>by
   by_cases q:k=b
   ·subst q;rw[o2,w6]
   ·rw[w5 k (by rw[←hs];exact hk) q,o1.block k q]⟩
  have r1:Rel B ρ (s.h.put n<|some<|aC aS<|dP l) W:=r.put b2 a2 rfl rfl jq rfl o1 o2<|(VF (by rw[Am];exact hl)).2 ⟨wm,e,rfl,by rw[w7];exact q1,by rw[Am];exact q2,w8⟩;refine⟨_,rfl,ρ,by rw[b5,a4];exact Ext.refl _ _ _,by simp only[VR,ay];exact⟨_,rfl,rfl⟩,by rw[b4,a3];exact r1.Bm o3,(o1.below<|hB rfl).trans<|o3.below fun k hk=>r.size k (by rw[←hs];exact hk)⟩
 ·cases h
end
theorem acx{X:TX}{P:Program}{J:Nat}{ns:List Nat}{h0:Tr ae}{L:bO}{f g:FuncId}(h:dR X J P<|dk J ns h0 L)(hj:Da P f g):dR X J P<|dk J ns h0<|(f,.raw fun _ _ _=>tC g)::L:=(show dR X J P (oT (dk J ns h0 L) f<|tC g) from h.mq (fun YG _ args=>YF.tC _ YG args) fun B hB hT YG hc hl args x s s1 ρ w vs fi r hg hf hm hv=>abi hj r hv hm)
theorem abj{P:Program}{f g:Nat}(h:sp f=some (tC g)){a lo ke:Nat}{s:AS}(ha:Nat.blt a s.nx=true)(ax:Nat.blt a top=true)(hg:s.h.get a=some (aC aS l))(hl:l.length<=1000000)(nd:(l.map (·.1)).Nodup):
 bc P sp F (n+1) (.fn f) [.slice (some (a,0)) l.length<|.aq lo ke,.func (.func g) [] []] s= .ok (.tuple []) (fl a (some<|aC aS<|dP l)<|aU a s):=by
 show jH P sp f (bc P sp F n) [.slice (some (a,0)) l.length<|.aq lo ke,.func (.func g) [] []] s=_;rw[qZ h];show(iI (g=g) <| (bt a).bind fun o=>aB (Dx o) fun l'=>iI (l.length=l'.length/\(l'.map (·.1)).Nodup) <| (bJ a<|some<|aC aS<|dP l').bind fun _=>M.pure<|AV.tuple []) s=_;rw[wL rfl,M.bK<|lN ha hg,abh hl,bQ,wL ⟨rfl,nd⟩];have h1:Nat.blt a (aU a s).nx=true:=by rw[(fL a s).2.1];exact ha
 have h2:(aU a s).h.get a=some (aC aS l):=by rw[(fL a s).1];exact hg
 rw[M.bK<|wT h1 h2 rfl ax];rfl
theorem acy{P:Program}{f g:Nat}(h:sp f=some (tC g)){s:AS}{len:Nat}{c:bW}:bc P sp F (n+1) (.fn f) [.slice none len c,.func (.func g) [] []] s= .ok (.tuple []) s:=by show jH P sp f (bc P sp F n) [.slice none len c,.func (.func g) [] []] s=_;rw[qZ h];show(iI (g=g) <| M.pure<|AV.tuple []) s=_;rw[wL rfl];rfl
end Go.Rn
open Go
namespace Go.Rn
section
variable {X:TX} {P:Program} {J:Nat} {ns:List Nat} {h0:Tr ae} {L:bO} {g:Nat} {fn:Func} {body:Code}
theorem aam{j0:FuncId->Nat}(hw:∀B,Vm P B j0)(hP:bS P)(fY:fI<=J)(dK:J<=top)(dJ:∀n o,n<top->h0.get n=some o->n∈ns)(eD:∀n∈ns,n<J){val:List AV->Option AV}(h:dR X J P<|dk J ns h0 L)(cj:P.funcs[g]? =some fn)(ct:fn.body=some body)(dE:(fn.name == "runtime.NumGoroutine")=false)(eT:∀args v,val args=some v->∃n s1,zn P j0 n (.fn g) args ⟨h0,J,0,[],[]⟩= .ok v s1):dR X J P<|dk J ns h0<|(g,.val val)::L:=by
 refine(show dR X J P (oT (dk J ns h0 L) g<|pw J ns h0 val) from h.mq (fun YG _ args=>YF.pw _ _ _ _ YG args) fun B hB hT YG hc hl args x s s1 ρ w vs fi r hg hf hm hv=>?_);unfold pw at hm;obtain⟨gG,h1⟩:=cV hm;obtain⟨u,s2,h2,h3⟩:=M.aN h1;obtain⟨v,h4,h5⟩:=bu h3;obtain⟨h6,h7⟩:=cV h5;obtain⟨rfl,rfl⟩:=bA h7;obtain⟨a1,a2,a3⟩:=uC h2;obtain⟨n,s4,q⟩:=eT _ _ h4;have nJ:=Dn dK r dJ eD (fun n hn=>by obtain⟨_,o,p,h⟩:=a3 n hn;exact⟨o,p,h⟩);have fi:bB (⟨h0,J,0,[],[]⟩:AS):=⟨Nat.zero_le _,dK⟩;have zR:gC<|gi J ρ:=fun g iF=>by obtain⟨N,e⟩:=hg g iF;exact⟨N,by unfold gi;rw[if_pos<|Nat.lt_of_lt_of_le iF fY];exact e⟩
 have bG:=(Tq (B:=rk B ρ w) hP (hw _) n).fn g args x ⟨h0,J,0,[],[]⟩ s4 (gi J ρ) w vs fi nJ zR (fun k k1 _ k2=>by
  have k1:J<=k:=k1;unfold gi gm;rw[if_neg aj,if_neg aj])
  q (AV.A0 (fun k y hk e=>by rw[sH dK hk];exact e) gG hv)
 rw[si cj ct dE] at bG ⊢;have bG:Calls P g vs w _:=bG;show Calls P g vs w _;refine bG.mono fun e w'=>?_;rintro ⟨y,rfl,σ,e1,e2,e3,e4⟩;obtain⟨b1,b2,b3,b4⟩:=I7 (a:=s.nx) dK r e3 e4 e1.le;exact⟨y,rfl,cC ρ σ,by rw[a2];exact b1,AV.pB b2 h6 e2,by rw[a1];exact b3,b4⟩
end
end Go.Rn
