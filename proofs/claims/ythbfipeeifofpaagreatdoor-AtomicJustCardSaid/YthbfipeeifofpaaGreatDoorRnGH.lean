import Derived.Test.YthbfipeeifofpaaGreatDoorRnGG
import Derived.Test.YthbfipeeifofpaaGreatDoorRnGE
import Derived.Test.YthbfipeeifofpaaGreatDoorRnGC
import Derived.Test.YthbfipeeifofpaaGreatDoorRnGF
import Derived.Test.YthbfipeeifofpaaGreatDoorRnGD
set_option maxRecDepth 100000
set_option maxHeartbeats 8000000
set_option linter.unusedSimpArgs false
set_option linter.unusedVariables false
namespace Go.Rn
open Go.RowKit
variable {J g:Nat} {ns:List Nat} {h0:Tr ae} {P:Program} {ρ:Ren} {s:AS} {kn:List<|Nat×Option ae} {fn:Func} {body:Code}
def fj(d s:List<|Int×Int):List<|Int×Int:=s.foldl (fun d p=>fM d p.1 p.2) d
theorem Uq:∀{a b:List<|Int×Int},cq a=cq b->a=b
 |[],[],_=>rfl
 |[],_::_,h=>by cases h
 |_::_,[],h=>by cases h
 |(x,y)::a,(z,u)::b,h=>by have h:(AV.int .i64 x,AV.int .i64 y)::cq a=(.int .i64 z,.int .i64 u)::cq b:=h;simp only[List.cons.injEq,Prod.mk.injEq,AV.int.injEq,true_and] at h;rw[h.1.1,h.1.2,Uq h.2]
open Classical in
noncomputable def yO(o:ae):Option<|List<|Int×Int:=if h:∃m,o=bz m then some h.choose else none
theorem R9{o:ae}{m:List<|Int×Int}(h:yO o=some m):o=bz m:=by
 unfold yO at h;split at h
 ·rename_i q;injection h with h;rw[←h];exact q.choose_spec
 ·cases h
theorem Sa(m:List<|Int×Int):yO (bz m)=some m:=by
 unfold yO;have q:∃m',bz m=bz m':=⟨m,rfl⟩;rw[dif_pos q];have e:=q.choose_spec;have e:ae.lk (cq m)= .lk (cq q.choose):=e;injection e with e
 exact congrArg some (Uq e).symm
noncomputable def vY(J:Nat)(ns:List Nat)(h0:Tr ae):aK->List AV->M AV:=fun _ args=>match args with
 |[.map (some a),.map (some b)]=>(fG J h0 ns).bind fun _=>iG (a≠b) <| (bt a).bind fun o1=>(bt b).bind fun o2=>
  aB (yO o1) fun m1=>aB (yO o2) fun m2=>iG ((m1.map (·.1)).Nodup/\(m2.map (·.1)).Nodup) <|
  (bJ a<|some<|bz<|fj m1 m2).bind fun _=>(bJ b<|some<|bz m2).bind fun _=>M.pure<|.tuple []
 |_=>fail
theorem Yv.vY(J:Nat)(ns:List Nat)(h0:Tr ae)(Yw:aK)(args:List AV):Yv<|vY J ns h0 Yw args:=by
 unfold Rn.vY;split
 ·refine Yv.bind (Yv.fG J h0 ns) fun _=>Yv.iG <| Yv.bind (Yv.bt _) fun _=>Yv.bind (Yv.bt _) fun _=>Yv.aB fun _ _=>Yv.aB fun _ _=>Yv.iG <| Yv.bind (Yv.bJ _ _) fun _=>Yv.bind (Yv.bJ _ _) fun _=>Yv.pure _
 ·exact Yv.fail
def PK(J:Nat)(P:Program)(rs:List ResultVar)(m1 m2:List<|Int×Int):=Fin P rs fun y s'=>y= .tuple []/\s'.h.get J=some (bz<|fj m1 m2)/\s'.h.get (J+1)=some (bz m2)
theorem uF{σ:Ren}{N:Nat}{o':Obj}{m:List<|Int×Int}(h:OR ρ N (bz m) o'):OR σ N (bz m) o':=by
 obtain⟨l,bp,rfl,h1,h2,l',h3,h4⟩:=h;refine⟨l,bp,rfl,h1,h2,l',h3,?_⟩;have:∀(m:List<|Int×Int) (l:List MapEntry),dM ρ (cq m) l->dM σ (cq m) l:=by
  intro m;induction m with
  |nil=>intro l h;simpa only[cq,List.map_nil,dM] using h
  |cons p m ih=>intro l h;have h:dM ρ ((.int .i64 p.1,.int .i64 p.2)::cq m) l:=h;show dM σ ((.int .i64 p.1,.int .i64 p.2)::cq m) l;simp only[dM,VR] at h ⊢;obtain⟨e,l',h1,h2,h3,h4⟩:=h;exact⟨e,l',h1,h2,h3,ih l' h4⟩
 exact this m l' h4
theorem ac2{B:aJ}{f:Nat}{w:World}{s1:AS}(hP:bR P)(cj:P.funcs[f]? =some fn)(cw:fn.body=some body)(dD:(fn.name == "runtime.NumGoroutine")=false)(fY:fI<=J)(dK:J+2<=top)(dJ:∀n o,n<top->h0.get n=some o->n∈ns)(eD:∀n∈ns,n<J)(jk:∀n o,(n,some o)∈kn->h0.get n=some o)(jq:∀p∈kn,p.1<top)(eT:∀m1 m2:List<|Int×Int,(m1.map (·.1)).Nodup->(m2.map (·.1)).Nodup->max fn.ntmps 2<=top/\∀B':aJ,B'.F=B.F->B'.inv=B.inv->
 au P B' (J+2) (PK J P fn.results.toList m1 m2) ⟨f,dt [.map<|some J,.map<|some<|J+1],max fn.ntmps 2,[.code body],[],none⟩ ⟨fR<|kn++aW [(J,bz m1),(J+1,bz m2)],J+2,0,[],[]⟩){Yw:aK}{args:List AV}{x:AV}{vs:Array Value}(r:Rel B ρ s.h w)(hg:gC ρ)(h:vY J ns h0 Yw args s= .ok x s1)(hv:ay ρ args vs.toList):jf P ((callFunc f vs).run P w)<|kh B ρ s s1 w x:=by
 unfold vY at h;split at h
 ·rename_i n1 n2;obtain⟨u,s2,h2,h3⟩:=M.aN h;obtain⟨a1,a2,a3⟩:=uw h2;obtain⟨cf,h3⟩:=wA h3;obtain⟨o1,s3,k1,h3⟩:=M.aN h3;obtain⟨o2,s4,k2,h3⟩:=M.aN h3;obtain⟨m1,KR,h3⟩:=bu h3;obtain⟨m2,cN,h3⟩:=bu h3;obtain⟨⟨nd1,nd2⟩,h3⟩:=wA h3;obtain⟨u1,t1,w1,h3⟩:=M.aN h3;obtain⟨u2,t2,w2,h3⟩:=M.aN h3;obtain⟨rfl,rfl⟩:=bA h3;obtain⟨r1,r2,r3,r4⟩:=fU k1;obtain⟨r5,r6,r7,r8⟩:=fU k2;obtain⟨x1,x2,_,x4,x5⟩:=jv w1;obtain⟨y1,y2,_,y4,y5⟩:=jv w2;rw[R9 KR,a1] at r2;rw[R9 cN,r3,a1] at r6;let V:Vw:=[(J,n1,bz m1),(J+1,n2,bz m2)];have mem:∀q∈V,q=(J,n1,bz m1)\/q=(J+1,n2,bz m2):=fun q hq=>by simpa[V] using hq
  have e0:∀gF:Ren,eU J gF V J=gF n1:=fun gF=>by
   unfold eU;rw[if_neg aj,if_neg aj];have:gJ V J=some n1:=by simp[gJ,V]
   rw[this]
  have e1:∀gF:Ren,eU J gF V (J+1)=gF n2:=fun gF=>by
   unfold eU;rw[if_neg aj,if_neg aj];have:gJ V (J+1)=some n2:=by simp[gJ,V]
   rw[this]
  have hi:jg ρ<|eU J ρ V:=fun m x hm e=>by rw[yG aj hm];exact e
  have hV:zP J ρ s.h V:=by
   refine⟨fun q hq=>?_,fun q hq q' dY e=>?_,fun q hq q' dY e=>?_,fun q hq=>?_⟩
   ·rcases mem q hq with rfl|rfl
    ·exact⟨Nat.le_refl _,by omega,x2⟩
    ·exact⟨by omega,by omega,y2⟩
   ·rcases mem q hq with rfl|rfl<;>rcases mem q' dY with rfl|rfl<;>first|rfl|(simp only at e;omega)
   ·rcases mem q hq with rfl|rfl<;>rcases mem q' dY with rfl|rfl<;>first|rfl|(simp only at e;omega)
   ·rcases mem q hq with rfl|rfl
    ·exact⟨_,r2,.inl ⟨rfl,rfl,fun N o' hO=>uF hO⟩⟩
    ·exact⟨_,r6,.inl ⟨rfl,rfl,fun N o' hO=>uF hO⟩⟩
  obtain⟨_,cU,T⟩:=r.tk;have T:DG B ρ s.h w cU:=T;have nE:=JE aj r T dJ eD jk jq (fun n hn=>by obtain⟨_,o,p,h⟩:=a3 n hn;exact⟨o,p,h⟩) hV;obtain⟨d1,d2⟩:=eT m1 m2 nd1 nd2;have fi:bB (⟨fR<|kn++aW [(J,bz m1),(J+1,bz m2)],J+2,0,[],[]⟩:AS):=⟨Nat.zero_le _,dK⟩;have km:ay (eU J ρ V) [.map<|some J,.map<|some<|J+1] vs.toList:=by simp only[ay,VR] at hv ⊢;obtain⟨y0,ys,q1,⟨b',N',q2,Qj⟩,y3,D0,q3,⟨b'',N'',q4,q5⟩,q6⟩:=hv;exact⟨y0,ys,q1,⟨b',N',(e0 ρ).trans q2,Qj⟩,y3,D0,q3,⟨b'',N'',(e1 ρ).trans q4,q5⟩,q6⟩
  have bG:=au.Fs (B:=tg B ρ w<|wH ρ cU V) (s:=⟨fR<|kn++aW [(J,bz m1),(J+1,bz m2)],J+2,0,[],[]⟩) (args:=[.map<|some J,.map<|some<|J+1]) (vs:=vs) hP cj cw d1 (d2 _ rfl rfl) fi nE (fun g iD=>by
   obtain⟨N,e⟩:=hg g iD;exact⟨N,by rw[CG<|Nat.lt_of_lt_of_le iD fY];exact e⟩) (fun m hm j8=>by
   have hm:J+2<=m:=hm;exact HG aj j8 fun q hq=>by rcases mem q hq with rfl|rfl<;>(show _≠m;simp only;omega)) km
  rw[sd cj cw dD];show Calls P f vs w _;refine bG.mono fun e w'=>?_;rintro ⟨B2,x',s7,rfl,⟨rfl,j1,j2⟩,_,σ,i0,B3,i1,i2,i3⟩;have sV:∀q∈V,σ q.1=ρ q.2.1:=fun q hq=>by
   rcases mem q hq with rfl|rfl
   ·exact(i0 J aj aj).trans<|e0 ρ
   ·exact(i0 (J+1) aj aj).trans<|e1 ρ
  have qK:jg σ<|cC ρ σ:=fun k x hk e=>by unfold cC;rw[if_pos hk];exact e
  have V0:(J,n1,bz m1)∈V:=by simp[V]
  have V1:(J+1,n2,bz m2)∈V:=by simp[V]
  obtain⟨b1,b2,b3,b4⟩:=I0 (a:=s.nx) (L2:=[(n1,bz<|fj m1 m2),(n2,bz m2)]) (h':=s1.h) r T hV i2 i3 sV (fun m z hm q=>B3 m z hm<|hi m z hm q) (fun n q hm=>by
   rcases List.mem_cons.1 hm with hm|hm
   ·cases hm;exact⟨_,V0,rfl,_,j1,.inl ⟨rfl,rfl,fun N o' hO=>uF hO⟩⟩
   rcases List.mem_cons.1 hm with hm|hm
   ·cases hm;exact⟨_,V1,rfl,_,j2,.inl ⟨rfl,rfl,fun N o' hO=>uF hO⟩⟩
   cases hm) (fun q hq _=>by
   rcases mem q hq with rfl|rfl
   ·exact⟨_,j1,rfl⟩
   ·exact⟨_,j2,rfl⟩) (fun k hk=>by
   have GR:s1.h=(s.h.put n1<|some<|bz<|fj m1 m2).put n2 (some<|bz m2):=by rw[y4,x4,r7,r3,a1]
   rw[GR,Tr.da _ _ _ _ y2 hk,Tr.da _ _ _ _ x2 hk];by_cases q2:k=n2
   ·subst q2;exact .inl ⟨_,by simp,if_pos rfl⟩
   rw[if_neg q2];by_cases q1:k=n1
   ·subst q1;exact .inl ⟨_,by simp,if_pos rfl⟩
   rw[if_neg q1];exact .inr ⟨fun q hq=>by rcases mem q hq with rfl|rfl<;>(intro e;exact absurd e.symm<|by assumption),rfl⟩)
  refine⟨B2,rfl,cC ρ σ,?_,AV.pq qK rfl i1,b3,b4⟩;have cv:s1.nx=s.nx:=by rw[y5,x5,r8,r4,a2]
  rw[cv];exact b1
 ·cases h
theorem aeO{X:TX}{L L':bO}(hP:bR P)(fY:fI<=J)(dK:J+2<=top)(dJ:∀n o,n<top->h0.get n=some o->n∈ns)(eD:∀n∈ns,n<J)(jk:∀n o,(n,some o)∈kn->h0.get n=some o)(jq:∀p∈kn,p.1<top)(h:dR X J P<|dk J ns h0 L)(h':dR X J P<|dk J ns h0 L')(cj:P.funcs[g]? =some fn)(cw:fn.body=some body)(dD:(fn.name == "runtime.NumGoroutine")=false)(eT:∀m1 m2:List<|Int×Int,(m1.map (·.1)).Nodup->(m2.map (·.1)).Nodup->max fn.ntmps 2<=top/\∀B:aJ,qx X P J ns h0 L' B->
 au P B (J+2) (PK J P fn.results.toList m1 m2) ⟨g,dt [.map<|some J,.map<|some<|J+1],max fn.ntmps 2,[.code body],[],none⟩ ⟨fR<|kn++aW [(J,bz m1),(J+1,bz m2)],J+2,0,[],[]⟩):dR X J P<|dk J ns h0<|(g,.raw vY)::L:=by
 refine(show dR X J P (oB (dk J ns h0 L) g<|vY J ns h0) from h.mh (fun Yw _ args=>Yv.vY _ _ _ Yw args) fun B hB hT Yw hc hl args x s s1 ρ w vs fi r hg hf hm hv=>?_);refine ac2 hP cj cw dD fY dK dJ eD jk jq (fun m1 m2 n1 n2=>?_) r hg hm hv;obtain⟨q1,q2⟩:=eT m1 m2 n1 n2;exact⟨q1,fun B' lA lB=>q2 B'<|qy hP h' (lA.trans hB)<|lB.trans hT⟩
theorem Ur{F:Nat->Option (List AV)}{sp:Sp}{n:Nat}(h:sp g=some (vY J ns h0)){a b:Nat}{m1 m2:List<|Int×Int}(hk:pC J h0 ns s=true)(Gz:a≠b)(ha:Nat.blt a (dA J h0 ns s).nx=true)(hb:Nat.blt b (dA J h0 ns s).nx=true)(aw:Nat.blt a top=true)(XI:Nat.blt b top=true)(g1:(dA J h0 ns s).h.get a=some (bz m1))(g2:(dA J h0 ns s).h.get b=some (bz m2))(n1:(m1.map (·.1)).Nodup)(n2:(m2.map (·.1)).Nodup):
 aZ P sp F (n+1) (.fn g) [.map<|some a,.map<|some b] s= .ok (.tuple []) (fm b (some<|bz m2)<|fm a (some<|bz<|fj m1 m2)<|aT b<|aT a<|dA J h0 ns s):=by
 show jF P sp g (aZ P sp F n) [.map<|some a,.map<|some b] s=_;rw[qX h];show((fG J h0 ns).bind fun _=>iG (a≠b) <| (bt a).bind fun o1=>(bt b).bind fun o2=>
  aB (yO o1) fun m1=>aB (yO o2) fun m2=>iG ((m1.map (·.1)).Nodup/\(m2.map (·.1)).Nodup) <|
  (bJ a<|some<|bz<|fj m1 m2).bind fun _=>(bJ b<|some<|bz m2).bind fun _=>M.pure<|AV.tuple []) s=_
 rw[M.bK<|w9 hk,wE Gz,M.bK<|lJ ha g1];generalize dA J h0 ns s=z at*;have fN:Nat.blt b (aT a z).nx=true:=by rw[(fL a z).2.1];exact hb
 have zF:(aT a z).h.get b=some (bz m2):=by rw[(fL a z).1];exact g2
 rw[M.bK<|lJ fN zF,Sa,bT,Sa,bT,wE ⟨n1,n2⟩];have ha2:Nat.blt a (aT b<|aT a z).nx=true:=by rw[(fL b _).2.1,(fL a z).2.1];exact ha
 have ga2:(aT b<|aT a z).h.get a=some (bz m1):=by rw[(fL b _).1,(fL a z).1];exact g1
 rw[M.bK<|wN ha2 ga2 rfl aw];have wn:∀(n:Nat) (o:Option ae) (s:AS),(fm n o s).nx=s.nx/\(fm n o s).h=s.h.put n o:=fun n o s=>by unfold fm;cases Nat.blt n s.mark<;>exact⟨rfl,rfl⟩
 have hb3:Nat.blt b (fm a (some<|bz<|fj m1 m2)<|aT b<|aT a z).nx=true:=by rw[(wn _ _ _).1,(fL b _).2.1];exact fN
 have gb3:(fm a (some<|bz<|fj m1 m2)<|aT b<|aT a z).h.get b=some (bz m2):=by rw[(wn _ _ _).2,Tr.da _ _ _ _ ((blt_eq _ _).mp aw)<|(blt_eq _ _).mp XI,if_neg<|Ne.symm Gz,(fL b _).1];exact zF
 rw[M.bK<|wN hb3 gb3 rfl XI];rfl
end Go.Rn
namespace Go.Rn
open Go.RowKit
variable {ρ σ:Ren} {o':Obj} {m' b a:List<|Int×Int} {N:Nat}
abbrev dU(m:List<|Int×Int):Prop:=(m.map (·.1)).Nodup
def jU:List (Int×Int)->Int->Option Int
 |[],_=>none
 |p::l,k=>if p.1=k then some p.2 else jU l k
theorem ac3(m:List<|Int×Int)(k v j:Int):jU (fM m k v) j=if k=j then some v else jU m j:=by
 induction m with
 |nil=>simp[fM,jU]
 |cons p l ih=>
  unfold fM;by_cases e:p.1=k
  ·rw[if_pos e];by_cases q:k=j
   ·simp[jU,q]
   ·simp[jU,q,e]
  ·rw[if_neg e];by_cases q:p.1=j
   ·have:k≠j:=fun h=>e<|q.trans h.symm;simp[jU,q,this]
   ·simp only[jU,if_neg q];exact ih
theorem abQ(m:List<|Int×Int)(k v:Int):∀j,j∈(fM m k v).map (·.1)↔j=k\/j∈m.map (·.1):=by
 intro j;induction m with
 |nil=>simp[fM]
 |cons p l ih=>
  unfold fM;by_cases e:p.1=k
  ·rw[if_pos e];simp only[List.map_cons,List.mem_cons];constructor
   ·rintro (h|h)
    ·exact .inl h
    ·exact .inr<|.inr h
   ·rintro (h|h|h)
    ·exact .inl h
    ·exact .inl<|h.trans e
    ·exact .inr h
  ·rw[if_neg e];simp only[List.map_cons,List.mem_cons];rw[ih];constructor
   ·rintro (h|h|h)
    ·exact .inr<|.inl h
    ·exact .inl h
    ·exact .inr<|.inr h
   ·rintro (h|h|h)
    ·exact .inr<|.inl h
    ·exact .inl h
    ·exact .inr<|.inr h
theorem dU.set{m:List<|Int×Int}(h:dU m)(k v:Int):dU<|fM m k v:=by
 induction m with
 |nil=>simp[dU,fM]
 |cons p l ih=>
  have h:(p.1::l.map (·.1)).Nodup:=h;obtain⟨h1,h2⟩:=List.nodup_cons.1 h;unfold fM;by_cases e:p.1=k
  ·rw[if_pos e];show(k::l.map (·.1)).Nodup;rw[←e];exact h
  ·rw[if_neg e];show(p.1::(fM l k v).map (·.1)).Nodup;refine List.nodup_cons.2 ⟨fun q=>?_,ih h2⟩;rcases(abQ l k v p.1).1 q with q|q
   ·exact e q
   ·exact h1 q
theorem AD{m:List<|Int×Int}(h:dU m)(k v:Int):(k,v)∈m↔jU m k=some v:=by
 induction m with
 |nil=>simp[jU]
 |cons p l ih=>
  have h:(p.1::l.map (·.1)).Nodup:=h;obtain⟨h1,h2⟩:=List.nodup_cons.1 h;unfold jU;by_cases e:p.1=k
  ·rw[if_pos e,List.mem_cons];constructor
   ·rintro (q|q)
    ·rw[←q]
    ·exact absurd (List.mem_map.2 ⟨_,q,rfl⟩) (by rw[←e] at*;exact h1)
   ·intro q;injection q with q
    obtain⟨a,b⟩:=p;simp only at e q;rw[e,q];exact .inl rfl
  ·rw[if_neg e,List.mem_cons, ←ih h2];constructor
   ·rintro (q|q)
    ·rw[←q] at e;exact absurd rfl e
    ·exact q
   ·exact .inr
theorem dU.nodup{m:List<|Int×Int}(h:dU m):m.Nodup:=by
 induction m with
 |nil=>exact List.nodup_nil
 |cons p l ih=>have h:(p.1::l.map (·.1)).Nodup:=h;obtain⟨h1,h2⟩:=List.nodup_cons.1 h;exact List.nodup_cons.2 ⟨fun q=>h1<|List.mem_map.2 ⟨_,q,rfl⟩,ih h2⟩
theorem abR(ha:dU a)(hb:dU b)(h:∀k,jU a k=jU b k):a.Perm b:=(List.perm_ext_iff_of_nodup ha.nodup hb.nodup).2 fun⟨k,v⟩=>by rw[AD ha,AD hb,h]
theorem abS(ha:dU a)(h:a.Perm b)(k:Int):jU a k=jU b k:=by
 have hb:dU b:=(h.map (·.1)).nodup_iff.1 ha;cases e:jU a k with
 |some v=>exact((AD hb k v).1<|h.mem_iff.1<|(AD ha k v).2 e).symm
 |none=>
  cases e2:jU b k with
  |none=>rfl
  |some v=>have:=(AD ha k v).1<|h.mem_iff.2<|(AD hb k v).2 e2;rw[e] at this;cases this
theorem dU.merge:∀{s d:List<|Int×Int},dU d->dU (fj d s)
 |[],d,h=>h
 |p::s,d,h=>dU.merge (s:=s)<|h.set p.1 p.2
theorem Ms:∀(s d:List<|Int×Int) (k:Int),dU s->jU (fj d s) k=match jU s k with|some v=>some v|none=>jU d k
 |[],d,k,_=>rfl
 |p::s,d,k,h=>by
  have h:(p.1::s.map (·.1)).Nodup:=h;obtain⟨h1,h2⟩:=List.nodup_cons.1 h;show jU (fj (fM d p.1 p.2) s) k=_;have oc:jU (p::s) k=if p.1=k then some p.2 else jU s k:=rfl
  rw[Ms s _ k h2,ac3,oc];by_cases e:p.1=k
  ·rw[if_pos e,if_pos e];have:jU s k=none:=by
    cases q:jU s k with
    |none=>rfl
    |some v=>exact absurd (List.mem_map.2 ⟨_,(AD h2 k v).2 q,rfl⟩) (by rw[←e];exact h1)
   rw[this]
  ·rw[if_neg e,if_neg e]
theorem ZR{d s s':List<|Int×Int}(hd:dU d)(hs:dU s)(h:s.Perm s'):(fj d s).Perm<|fj d s':=by have Qr:dU s':=(h.map (·.1)).nodup_iff.1 hs;refine abR hd.merge hd.merge fun k=>?_;rw[Ms s d k hs,Ms s' d k Qr,abS hs h]
theorem ZS(d s:List<|Int×Int)(p:Int×Int):fj d (s++[p])=fM (fj d s) p.1 p.2:=by unfold fj;rw[List.foldl_append];rfl
theorem HH:∀{l:List<|Int×Int} {x:AV×AV} {r:List<|AV×AV},(x,r)∈xm (cq l)->∃(p:Int×Int) (l':List<|Int×Int),x=(.int .i64 p.1,.int .i64 p.2)/\r=cq l'/\l.Perm (p::l')
 |[],x,r,h=>by cases h
 |a::l,x,r,h=>by
  have h:(x,r)∈(((AV.int .i64 a.1,AV.int .i64 a.2),cq l)::(xm<|cq l).map fun(y,r)=>(y,(AV.int .i64 a.1,AV.int .i64 a.2)::r)):=h;rcases List.mem_cons.1 h with h|h
  ·injection h with h1 h2
   exact⟨a,l,h1,h2,List.Perm.refl _⟩
  ·obtain⟨⟨y,r'⟩,hm,e⟩:=List.mem_map.1 h;simp only[Prod.mk.injEq] at e;obtain⟨p,l',h1,h2,h3⟩:=HH hm;refine⟨p,a::l',by rw[←e.1];exact h1,by rw[←e.2,h2];rfl,?_⟩;exact(h3.cons a).trans<|List.Perm.swap p a l'
theorem abT{m:List<|Int×Int}(h:m.Perm m'):∀{l:List MapEntry},dM ρ (cq m) l->∃l',l.Perm l'/\dM ρ (cq m') l':=by
 induction h with
 |nil=>intro l h;exact⟨l,List.Perm.refl _,h⟩
 |cons x _ ih=>intro l h;have h:dM ρ ((.int .i64 x.1,.int .i64 x.2)::cq _) l:=h;simp only[dM] at h;obtain⟨e,es,rfl,h1,h2,h3⟩:=h;obtain⟨l',q1,q2⟩:=ih h3;exact⟨e::l',q1.cons e,by show dM ρ ((.int .i64 x.1,.int .i64 x.2)::cq _) _;simp only[dM];exact⟨e,l',rfl,h1,h2,q2⟩⟩
 |swap x y l0=>intro l h;have h:dM ρ ((.int .i64 y.1,.int .i64 y.2)::(.int .i64 x.1,.int .i64 x.2)::cq l0) l:=h;simp only[dM] at h;obtain⟨e,es,rfl,h1,h2,e',gX,rfl,h3,h4,h5⟩:=h;exact⟨e'::e::gX,List.Perm.swap _ _ _,by show dM ρ ((.int .i64 x.1,.int .i64 x.2)::(.int .i64 y.1,.int .i64 y.2)::cq l0) _;simp only[dM];exact⟨e',_,rfl,h3,h4,e,gX,rfl,h1,h2,h5⟩⟩
 |trans _ _ ih1 ih2=>intro l h;obtain⟨l1,q1,q2⟩:=ih1 h;obtain⟨l2,q3,q4⟩:=ih2 q2;exact⟨l2,q1.trans q3,q4⟩
theorem aaH{a b:Int}(h:a≠b):sameKey (.int .i64 a) (.int .i64 b)=some false/\sameKey (.int .i64 b) (.int .i64 a)=some false:=by
 rw[Tn,Tn];constructor
 ·rw[show(a == b)=false by simpa using h]
 ·rw[show(b == a)=false by simpa using fun e=>h e.symm]
theorem SR{m:List<|Int×Int}(h:dU m):lh<|cq m:=by
 unfold lh;induction m with
 |nil=>exact .nil
 |cons p l ih=>have h:(p.1::l.map (·.1)).Nodup:=h;obtain⟨h1,h2⟩:=List.nodup_cons.1 h;refine .cons (fun q hq=>?_)<|ih h2;obtain⟨z,hz,rfl⟩:=List.mem_map.1 hq;exact aaH fun e=>h1 (by rw[e];exact List.mem_map.2 ⟨z,hz,rfl⟩)
theorem ZT{m:List<|Int×Int}(hk:dU m')(hp:m.Perm m')(h:OR ρ N (bz m) o'):OR σ N (bz m') o':=by have h:OR σ N (bz m) o':=uF h;obtain⟨l,bp,rfl,h1,h2,l',h3,h4⟩:=h;obtain⟨l2,q1,q2⟩:=abT hp h4;exact⟨l,bp,rfl,SR hk,h2,l2,h3.trans q1,q2⟩
theorem abU{m:List<|Int×Int}(hk:dU m)(h:OR ρ N (xL m) o'):OR σ N (bz m) o':=by obtain⟨l,h0,h1,h2⟩:∃l,o'= .map l m.length/\m.length=(cq m).length/\jX ρ (cq m) l.toList 0:=h;subst h0;have hb:=h2.U8;rw[←h1] at hb;have:OR ρ N (bz m)<|.map l m.length:=⟨l,m.length,rfl,SR hk,hb,l.toList,List.Perm.refl _,h2.eqs⟩;exact uF this
end Go.Rn
namespace Go.Rn
open Go.RowKit
variable {t:Tr AV} {s3:AS} {nt n fn:Nat} {v:AV} {aO:AF} {b a:Code}
noncomputable section
def u9(l:Nat)(fr:AF):AF:=⟨fr.fn,fr.tmps,fr.nt,fr.todo,fr.defers,some l⟩
end
section
variable {P:Program} {Yw:aK} {s s1:AS} {l:Nat}
theorem CH{fr:AF}(h:(M.pure (bq.go fr):M bq) s= .ok (.go aO) s1):aO=fr/\s1=s:=by
 obtain⟨h1,h2⟩:=bA h;injection h1 with h1
 exact⟨h1,h2⟩
theorem abV{fr:AF}(h:iZ P Yw fr s= .ok (.go aO) s1):aO.round=fr.round/\(fr.round=none->aO.defers=[]->fr.defers=[]/\iZ P Yw (u9 l fr) s= .ok (.go<|u9 l aO) s1):=by
 obtain⟨f,t,nt,K,d,r⟩:=fr;cases K with
 |nil=>have h':(M.pure (bq.leave ⟨f,t,nt,[],d,r⟩ none):M bq) s= .ok (.go aO) s1:=h;cases(bA h').1
 |cons it k=>
  have h':(u6 P it).val Yw f t nt d r k s= .ok (.go aO) s1:=h;have goal:∀(X:oo),(u6 P it).val=X->X Yw f t nt d r k s= .ok (.go aO) s1->(aO.round=r/\(r=none->aO.defers=[]->d=[]/\X Yw f t nt d (some l) k s= .ok (.go<|u9 l aO) s1))->aO.round=r/\(r=none->aO.defers=[]->d=[]/\iZ P Yw (u9 l ⟨f,t,nt,it::k,d,r⟩) s= .ok (.go<|u9 l aO) s1):=by rintro X hX _ ⟨h1,h2⟩;refine⟨h1,fun a b=>?_⟩;obtain⟨c,e⟩:=h2 a b;refine⟨c,?_⟩;show(u6 P it).val Yw f t nt d (some l) k s=_;rw[hX];exact e
  have pop:∀k',(M.pure (bq.go ⟨f,t,nt,k',d,r⟩):M bq) s= .ok (.go aO) s1->aO.round=r/\(r=none->aO.defers=[]->d=[]/\(M.pure (bq.go ⟨f,t,nt,k',d,some l⟩):M bq) s= .ok (.go<|u9 l aO) s1):=by intro k' h;obtain⟨rfl,rfl⟩:=CH h;exact⟨rfl,fun _ b=>⟨b,rfl⟩⟩
  cases it with
  |code c=>
   cases c with
   |skip=>exact goal qo rfl h'<|pop _ h'
   |label n=>exact goal qo rfl h'<|pop _ h'
   |seq a b=>exact goal (ny [.code a,.code b]) rfl h'<|pop _ h'
   |cond c a b=>refine goal (Jt c a b) rfl h' ?_;obtain⟨v,h1,h2⟩:=bu (show(aB (aH t c) fun v=>aB (wV v) fun v=>M.pure<|bq.go ⟨f,t,nt,.code (@Bool.rec (fun _=>Code) b a v)::k,d,r⟩) s=_ from h');obtain⟨v',h3,h4⟩:=bu h2;obtain⟨q1,q2⟩:=pop _ h4;refine⟨q1,fun a' b'=>⟨(q2 a' b').1,?_⟩⟩;show(aB (aH t c) fun v=>aB (wV v) fun v=>M.pure<|bq.go ⟨f,t,nt,.code (@Bool.rec (fun _=>Code) b a v)::k,d,some l⟩) s=_;rw[h1,bT,h3,bT];exact(q2 a' b').2
   |block i b=>exact goal (ny [.code b,.inBlock i]) rfl h'<|pop _ h'
   |loop b=>exact goal (ny [.code b,.inLoop b]) rfl h'<|pop _ h'
   |scope b=>exact goal (ny [.code b,.inScope b]) rfl h'<|pop _ h'
   |exit i=>
    refine goal (Da i) rfl h' ?_;have h2:(match exitTo i k with
     |some k'=>M.pure (bq.go ⟨f,t,nt,k',d,r⟩)
     |none=>M.pure<|bq.leave ⟨f,t,nt,.code (.exit i)::k,d,r⟩<|some<|.exit i) s= .ok (.go aO) s1:=h'
    cases e:exitTo i k with
    |none=>rw[e] at h2;cases(bA h2).1
    |some k'=>
     rw[e] at h2;obtain⟨q1,q2⟩:=pop _ h2;refine⟨q1,fun a' b'=>⟨(q2 a' b').1,?_⟩⟩;show(match exitTo i k with
      |some k'=>M.pure (bq.go ⟨f,t,nt,k',d,some l⟩)
      |none=>M.pure<|bq.leave ⟨f,t,nt,.code (.exit i)::k,d,some l⟩<|some<|.exit i) s=_
     rw[e];exact(q2 a' b').2
   |goto i=>
    refine goal (Db i) rfl h' ?_;have h2:(match gotoIn i k with
     |some k'=>M.pure (bq.go ⟨f,t,nt,k',d,r⟩)
     |none=>M.pure<|bq.leave ⟨f,t,nt,.code (.goto i)::k,d,r⟩<|some<|.goto i) s= .ok (.go aO) s1:=h'
    cases e:gotoIn i k with
    |none=>rw[e] at h2;cases(bA h2).1
    |some k'=>
     rw[e] at h2;obtain⟨q1,q2⟩:=pop _ h2;refine⟨q1,fun a' b'=>⟨(q2 a' b').1,?_⟩⟩;show(match gotoIn i k with
      |some k'=>M.pure (bq.go ⟨f,t,nt,k',d,some l⟩)
      |none=>M.pure<|bq.leave ⟨f,t,nt,.code (.goto i)::k,d,some l⟩<|some<|.goto i) s=_
     rw[e];exact(q2 a' b').2
   |ret=>cases(bA (show(M.pure (bq.leave ⟨f,t,nt,.code .ret::k,d,r⟩<|some .ret):M bq) s= .ok (.go aO) s1 from h')).1
   |region i ops dr=>
    cases dr with
    |false=>refine goal (Im P ops) rfl h' ?_;obtain⟨t1,s2,h2,h3⟩:=M.aN (show((je P Yw nt ops ops.toList t).bind fun t=>M.pure<|bq.go ⟨f,t,nt,k,d,r⟩) s= .ok (.go aO) s1 from h');obtain⟨rfl,rfl⟩:=CH h3;refine⟨rfl,fun a' b'=>⟨b',?_⟩⟩;show((je P Yw nt ops ops.toList t).bind fun t=>M.pure<|bq.go ⟨f,t,nt,k,d,some l⟩) s=_;rw[M.bK h2];rfl
    |true=>refine goal (HP P ops) rfl h' ?_;obtain⟨t1,s2,h2,h3⟩:=M.aN (show((pX P Yw nt ops t).bind fun t=>M.pure<|bq.go ⟨f,t,nt,k,d,r⟩) s= .ok (.go aO) s1 from h');obtain⟨rfl,rfl⟩:=CH h3;refine⟨rfl,fun a' b'=>⟨b',?_⟩⟩;show((pX P Yw nt ops t).bind fun t=>M.pure<|bq.go ⟨f,t,nt,k,d,some l⟩) s=_;rw[M.bK h2];rfl
   |rangeFunc g ps a b=>
    have h2:uN g ps.toList a b Yw f t nt d r k s= .ok (.go aO) s1:=h';unfold uN at h2;cases r with
    |none=>obtain⟨df,s2,_,h3⟩:=M.aN h2;obtain⟨lo,s3,_,h3⟩:=M.aN h3;obtain⟨gv,_,h3⟩:=bu h3;obtain⟨y,s4,_,h3⟩:=M.aN h3;obtain⟨p,s5,_,h3⟩:=M.aN h3;obtain⟨rfl,rfl⟩:=CH h3;exact⟨rfl,fun _ b'=>by cases b'⟩
    |some l0=>
     obtain⟨o,s2,_,h3⟩:=M.aN h2;split at h3
     ·obtain⟨lo,s3,_,h3⟩:=M.aN h3;obtain⟨gv,_,h3⟩:=bu h3;obtain⟨y,s4,_,h3⟩:=M.aN h3;obtain⟨p,s5,_,h3⟩:=M.aN h3;obtain⟨rfl,rfl⟩:=CH h3;exact⟨rfl,fun a' _=>by cases a'⟩
     ·cases h3
   |refuse m=>cases h'
  |inBlock i=>exact goal qo rfl h'<|pop _ h'
  |inScope i=>exact goal qo rfl h'<|pop _ h'
  |inLoop b=>exact goal (ny [.code b,.inLoop b]) rfl h'<|pop _ h'
  |beginRound=>
   have h2:yL Yw f t nt d r k s= .ok (.go aO) s1:=h';unfold yL at h2;cases r with
   |none=>cases h2
   |some l0=>
    obtain⟨o,s2,_,h3⟩:=M.aN h2;split at h3
    ·obtain⟨_,s3,_,h4⟩:=M.aN h3;obtain⟨rfl,rfl⟩:=CH h4;exact⟨rfl,fun a' _=>by cases a'⟩
    ·cases h3
  |_=>cases h'
theorem Sb:∀{k:Nat} {fr aO:AF} {s s1:AS},dV P Yw k fr s= .ok (.go aO) s1->aO.round=fr.round/\(fr.round=none->aO.defers=[]->fr.defers=[]/\dV P Yw k (u9 l fr) s= .ok (.go<|u9 l aO) s1)
 |0,fr,aO,s,s1,h=>by cases h;exact⟨rfl,fun _ b=>⟨b,rfl⟩⟩
 |k+1,fr,aO,s,s1,h=>by
  obtain⟨y,s2,h1,h2⟩:=M.aN (show((iZ P Yw fr).bind fun x=> @bq.rec (fun _=>M bq) (dV P Yw k) (fun fr j=>M.pure<|bq.leave fr j) x) s= .ok _ s1 from h);cases y with
  |leave pM j=>cases(bA (show(M.pure (bq.leave pM j):M bq) s2=_ from h2)).1
  |go pM=>have h2:dV P Yw k pM s2= .ok (.go aO) s1:=h2;obtain⟨a1,a2⟩:=Sb h2;obtain⟨b1,b2⟩:=abV (l:=l) h1;refine⟨a1.trans b1,fun q1 q2=>?_⟩;obtain⟨c1,c2⟩:=a2 (b1.trans q1) q2;obtain⟨d1,d2⟩:=b2 q1 c1;exact⟨d1,(Ay d2).trans c2⟩
def I2(P:Program)(Yw:aK)(l:Nat)(R:AF->Option Code->AS->Prop)(fr:AF)(s:AS):Prop:=fr.round=none/\fr.defers=[]/\Ev P Yw R (u9 l fr) s
theorem Chunk.round{R:AF->Option Code->AS->Prop}:Chunk P Yw<|I2 P Yw l R:=by rintro k fr aO s s1 h ⟨h1,h2,h3⟩;obtain⟨a1,a2⟩:=Sb (l:=l) h;obtain⟨b1,b2⟩:=a2 (a1.symm.trans h1) h2;exact⟨a1.symm.trans h1,b1,Chunk.ev k _ _ _ _ b2 h3⟩
end
section
variable {l:Nat}
theorem Cz{E:Env}(hE:E.Ok)(ud:E.fg=false){f:Nat}{K:List Item}{s:AS}{R:AF->Option Code->AS->Prop}{C:xO}(hC:∀fr s p,C fr s p->I2 E.P (aZ E.P E.sp E.F n) l R fr s)(fuel:Nat)(p:Pl){T:Prop}(x:T)(h:T=wp E fuel n (.fr f nt K t s) p [] (fun _ _ _=>False) C:=by as_aux_lemma=>kernel_rfl):Ev E.P (aZ E.P E.sp E.F n) R ⟨f,t,nt,K,[],some l⟩ s:=(Cx hE fuel n (.fr f nt K t s) p [] (fun _ _ _=>False) C (I2 E.P (aZ E.P E.sp E.F n) l R) Chunk.round (fun fr s j aO jm s1 v s2 p q1 q2 q3=>q3.elim) hC (fun _ _ _ _ _ _ _ _ _ q=>by rw[ud] at q;cases q) (fun _ _ _ _ _ _ _ _ _ _ _ q=>by rw[ud] at q;cases q) (fun _ _ _ _ _ _ _ _ _ q=>by rw[ud] at q;cases q)<|h▸x).2.2
noncomputable section
def AE(P:Program)(Yw:aK)(l:Nat)(fr:AF)(s:AS):Option<|AV×AS:=
 match dV P Yw 4 (u9 l fr) s with
 | .ok (.leave _ j) s1=>(match endRound l j s1 with
  | .ok v s2=>some (v,s2)
  | .bad=>none)
 |_=>none
end
theorem Et{P:Program}{Yw:aK}{fr:AF}{s:AS}(h1:fr.round=none)(h2:fr.defers=[])(h:AE P Yw l fr s=some (v,s3)):I2 P Yw l (fun _ j s2=>endRound l j s2= .ok v s3) fr s:=by
 refine⟨h1,h2,?_⟩;unfold AE at h;split at h
 ·rename_i aO j s1 e;split at h
  ·rename_i v2 s2 e2;injection h with h;injection h with h3 h4
   subst h3;subst h4;exact⟨4,aO,j,s1,e,e2⟩
  ·cases h
 ·cases h
theorem Eu{P:Program}{sp:Sp}{F:Nat->Option (List AV)}{args:List AV}{s s0:AS}{st:LoopState}{bL:Option Code}{d:Nat}{ps:List Tmp}(hg:getLoop l s= .ok (.loop st bL fn t nt ps a b d) s0)(hlen:(and (Nat.beq args.length ps.length)<|ps.all fun p=>Nat.blt p nt)=true)(H:Ev P (aZ P sp F n) (fun _ j s2=>endRound l j s2= .ok v s3) ⟨fn,ju ps args t,nt,[.code a,.beginRound,.code b],[],some l⟩ s0):aZ P sp F (n+1) (.round l) args s= .ok v s3:=by obtain⟨k,aO,j,s2,h1,h2⟩:=H;show wz P (aZ P sp F n) l args s=_;unfold wz;rw[M.bK hg];show(aG (and (Nat.beq args.length ps.length)<|ps.all fun p=>Nat.blt p nt) <| (pd P (aZ P sp F n) ⟨fn,ju ps args t,nt,[.code a,.beginRound,.code b],[],some l⟩).bind fun st=> @bq.rec (fun _=>M AV) (fun _=>fail) (fun _ j=>endRound l j) st) s0=_;rw[hlen,dy,M.bK<|HD h1];exact h2
theorem H4{P:Program}{Yw:aK}{s s1 s2 s4:AS}{df lo:Nat}{k:List Item}{f:Operand}{ps:Array Tmp}{gv y:AV}{p:Option Code}(h1:gA .defs s= .ok df s1)(h2:gA (.loop .ready none fn t nt ps.toList a b df) s1= .ok lo s2)(h3:aH t f=some gv)(h4:mQ Yw gv [.yield lo] s2= .ok y s3)(h5:lI lo s3= .ok p s4):
 dV P Yw 1 ⟨fn,t,nt,.code (.rangeFunc f ps a b)::k,[],none⟩ s= .ok (.go ⟨fn,t,nt,andThen p k,[df],none⟩) s4:=by
 refine Ay ?_;show uN f ps.toList a b Yw fn t nt [] none k s=_;unfold uN;simp only;rw[M.bK h1,M.bK h2,h3,bT,M.bK h4,M.bK h5];rfl
end
end Go.Rn
namespace Go.Rn
open Go.RowKit
variable {J k:Nat} {B:aJ} {v:AV} {rs:List ResultVar} {aO:AF} {Q:Tr AV->List Nat->Option Code->AS->Prop}
noncomputable section
def vh(l:Nat)(fr:AF):AF:=⟨fr.fn,fr.tmps,fr.nt,fr.todo,[l],fr.round⟩
end
section
variable {P:Program} {Yw:aK} {s s1:AS} {l:Nat}
theorem CA{fr:AF}(h:(M.pure (bq.go fr):M bq) s= .ok (.go aO) s1):aO=fr/\s1=s:=by
 obtain⟨h1,h2⟩:=bA h;injection h1 with h1
 exact⟨h1,h2⟩
theorem Z1{fr:AF}(h:iZ P Yw fr s= .ok (.go aO) s1):aO.round=fr.round/\(fr.round=none->aO.defers=[]->fr.defers=[]/\iZ P Yw (vh l fr) s= .ok (.go<|vh l aO) s1):=by
 obtain⟨f,t,nt,K,d,r⟩:=fr;cases K with
 |nil=>have h':(M.pure (bq.leave ⟨f,t,nt,[],d,r⟩ none):M bq) s= .ok (.go aO) s1:=h;cases(bA h').1
 |cons it k=>
  have h':(u6 P it).val Yw f t nt d r k s= .ok (.go aO) s1:=h;have goal:∀(X:oo),(u6 P it).val=X->X Yw f t nt d r k s= .ok (.go aO) s1->(aO.round=r/\(r=none->aO.defers=[]->d=[]/\X Yw f t nt [l] r k s= .ok (.go<|vh l aO) s1))->aO.round=r/\(r=none->aO.defers=[]->d=[]/\iZ P Yw (vh l ⟨f,t,nt,it::k,d,r⟩) s= .ok (.go<|vh l aO) s1):=by rintro X hX _ ⟨h1,h2⟩;refine⟨h1,fun a b=>?_⟩;obtain⟨c,e⟩:=h2 a b;refine⟨c,?_⟩;show(u6 P it).val Yw f t nt [l] r k s=_;rw[hX];exact e
  have pop:∀k',(M.pure (bq.go ⟨f,t,nt,k',d,r⟩):M bq) s= .ok (.go aO) s1->aO.round=r/\(r=none->aO.defers=[]->d=[]/\(M.pure (bq.go ⟨f,t,nt,k',[l],r⟩):M bq) s= .ok (.go<|vh l aO) s1):=by intro k' h;obtain⟨rfl,rfl⟩:=CA h;exact⟨rfl,fun _ b=>⟨b,rfl⟩⟩
  cases it with
  |code c=>
   cases c with
   |skip=>exact goal qo rfl h'<|pop _ h'
   |label n=>exact goal qo rfl h'<|pop _ h'
   |seq a b=>exact goal (ny [.code a,.code b]) rfl h'<|pop _ h'
   |cond c a b=>refine goal (Jt c a b) rfl h' ?_;obtain⟨v,h1,h2⟩:=bu (show(aB (aH t c) fun v=>aB (wV v) fun v=>M.pure<|bq.go ⟨f,t,nt,.code (@Bool.rec (fun _=>Code) b a v)::k,d,r⟩) s=_ from h');obtain⟨v',h3,h4⟩:=bu h2;obtain⟨q1,q2⟩:=pop _ h4;refine⟨q1,fun a' b'=>⟨(q2 a' b').1,?_⟩⟩;show(aB (aH t c) fun v=>aB (wV v) fun v=>M.pure<|bq.go ⟨f,t,nt,.code (@Bool.rec (fun _=>Code) b a v)::k,[l],r⟩) s=_;rw[h1,bT,h3,bT];exact(q2 a' b').2
   |block i b=>exact goal (ny [.code b,.inBlock i]) rfl h'<|pop _ h'
   |loop b=>exact goal (ny [.code b,.inLoop b]) rfl h'<|pop _ h'
   |scope b=>exact goal (ny [.code b,.inScope b]) rfl h'<|pop _ h'
   |exit i=>
    refine goal (Da i) rfl h' ?_;have h2:(match exitTo i k with
     |some k'=>M.pure (bq.go ⟨f,t,nt,k',d,r⟩)
     |none=>M.pure<|bq.leave ⟨f,t,nt,.code (.exit i)::k,d,r⟩<|some<|.exit i) s= .ok (.go aO) s1:=h'
    cases e:exitTo i k with
    |none=>rw[e] at h2;cases(bA h2).1
    |some k'=>
     rw[e] at h2;obtain⟨q1,q2⟩:=pop _ h2;refine⟨q1,fun a' b'=>⟨(q2 a' b').1,?_⟩⟩;show(match exitTo i k with
      |some k'=>M.pure (bq.go ⟨f,t,nt,k',[l],r⟩)
      |none=>M.pure<|bq.leave ⟨f,t,nt,.code (.exit i)::k,[l],r⟩<|some<|.exit i) s=_
     rw[e];exact(q2 a' b').2
   |goto i=>
    refine goal (Db i) rfl h' ?_;have h2:(match gotoIn i k with
     |some k'=>M.pure (bq.go ⟨f,t,nt,k',d,r⟩)
     |none=>M.pure<|bq.leave ⟨f,t,nt,.code (.goto i)::k,d,r⟩<|some<|.goto i) s= .ok (.go aO) s1:=h'
    cases e:gotoIn i k with
    |none=>rw[e] at h2;cases(bA h2).1
    |some k'=>
     rw[e] at h2;obtain⟨q1,q2⟩:=pop _ h2;refine⟨q1,fun a' b'=>⟨(q2 a' b').1,?_⟩⟩;show(match gotoIn i k with
      |some k'=>M.pure (bq.go ⟨f,t,nt,k',[l],r⟩)
      |none=>M.pure<|bq.leave ⟨f,t,nt,.code (.goto i)::k,[l],r⟩<|some<|.goto i) s=_
     rw[e];exact(q2 a' b').2
   |ret=>cases(bA (show(M.pure (bq.leave ⟨f,t,nt,.code .ret::k,d,r⟩<|some .ret):M bq) s= .ok (.go aO) s1 from h')).1
   |region i ops dr=>
    cases dr with
    |false=>refine goal (Im P ops) rfl h' ?_;obtain⟨t1,s2,h2,h3⟩:=M.aN (show((je P Yw nt ops ops.toList t).bind fun t=>M.pure<|bq.go ⟨f,t,nt,k,d,r⟩) s= .ok (.go aO) s1 from h');obtain⟨rfl,rfl⟩:=CA h3;refine⟨rfl,fun a' b'=>⟨b',?_⟩⟩;show((je P Yw nt ops ops.toList t).bind fun t=>M.pure<|bq.go ⟨f,t,nt,k,[l],r⟩) s=_;rw[M.bK h2];rfl
    |true=>refine goal (HP P ops) rfl h' ?_;obtain⟨t1,s2,h2,h3⟩:=M.aN (show((pX P Yw nt ops t).bind fun t=>M.pure<|bq.go ⟨f,t,nt,k,d,r⟩) s= .ok (.go aO) s1 from h');obtain⟨rfl,rfl⟩:=CA h3;refine⟨rfl,fun a' b'=>⟨b',?_⟩⟩;show((pX P Yw nt ops t).bind fun t=>M.pure<|bq.go ⟨f,t,nt,k,[l],r⟩) s=_;rw[M.bK h2];rfl
   |rangeFunc g ps a b=>
    have h2:uN g ps.toList a b Yw f t nt d r k s= .ok (.go aO) s1:=h';unfold uN at h2;cases r with
    |none=>obtain⟨df,s2,_,h3⟩:=M.aN h2;obtain⟨lo,s3,_,h3⟩:=M.aN h3;obtain⟨gv,_,h3⟩:=bu h3;obtain⟨y,s4,_,h3⟩:=M.aN h3;obtain⟨p,s5,_,h3⟩:=M.aN h3;obtain⟨rfl,rfl⟩:=CA h3;exact⟨rfl,fun _ b'=>by cases b'⟩
    |some l0=>
     obtain⟨o,s2,_,h3⟩:=M.aN h2;split at h3
     ·obtain⟨lo,s3,_,h3⟩:=M.aN h3;obtain⟨gv,_,h3⟩:=bu h3;obtain⟨y,s4,_,h3⟩:=M.aN h3;obtain⟨p,s5,_,h3⟩:=M.aN h3;obtain⟨rfl,rfl⟩:=CA h3;exact⟨rfl,fun a' _=>by cases a'⟩
     ·cases h3
   |refuse m=>cases h'
  |inBlock i=>exact goal qo rfl h'<|pop _ h'
  |inScope i=>exact goal qo rfl h'<|pop _ h'
  |inLoop b=>exact goal (ny [.code b,.inLoop b]) rfl h'<|pop _ h'
  |beginRound=>
   have h2:yL Yw f t nt d r k s= .ok (.go aO) s1:=h';unfold yL at h2;cases r with
   |none=>cases h2
   |some l0=>
    obtain⟨o,s2,_,h3⟩:=M.aN h2;split at h3
    ·obtain⟨_,s3,_,h4⟩:=M.aN h3;obtain⟨rfl,rfl⟩:=CA h4;exact⟨rfl,fun a' _=>by cases a'⟩
    ·cases h3
  |_=>cases h'
theorem S2:∀{k:Nat} {fr aO:AF} {s s1:AS},dV P Yw k fr s= .ok (.go aO) s1->aO.round=fr.round/\(fr.round=none->aO.defers=[]->fr.defers=[]/\dV P Yw k (vh l fr) s= .ok (.go<|vh l aO) s1)
 |0,fr,aO,s,s1,h=>by cases h;exact⟨rfl,fun _ b=>⟨b,rfl⟩⟩
 |k+1,fr,aO,s,s1,h=>by
  obtain⟨y,s2,h1,h2⟩:=M.aN (show((iZ P Yw fr).bind fun x=> @bq.rec (fun _=>M bq) (dV P Yw k) (fun fr j=>M.pure<|bq.leave fr j) x) s= .ok _ s1 from h);cases y with
  |leave pM j=>cases(bA (show(M.pure (bq.leave pM j):M bq) s2=_ from h2)).1
  |go pM=>have h2:dV P Yw k pM s2= .ok (.go aO) s1:=h2;obtain⟨a1,a2⟩:=S2 h2;obtain⟨b1,b2⟩:=Z1 (l:=l) h1;refine⟨a1.trans b1,fun q1 q2=>?_⟩;obtain⟨c1,c2⟩:=a2 (b1.trans q1) q2;obtain⟨d1,d2⟩:=b2 q1 c1;exact⟨d1,(Ay d2).trans c2⟩
def GD(P:Program)(Yw:aK)(B:aJ)(J:Nat)(Q:Tr AV->List Nat->Option Code->AS->Prop)(l:Nat)(fr:AF)(s:AS):Prop:=fr.round=none/\fr.defers=[]/\zn P B J Q (vh l fr) s
theorem Chunk.defs(bH:P.follows .mixedOrders=true)(hc:fQ P B Yw)(hl:∀t a,Yv<|Yw t a):Chunk P Yw<|GD P Yw B J Q l:=by rintro k fr aO s s1 h ⟨h1,h2,h3⟩;obtain⟨a1,a2⟩:=S2 (l:=l) h;obtain⟨b1,b2⟩:=a2 (a1.symm.trans h1) h2;exact⟨a1.symm.trans h1,b1,Chunk.D6 bH hc hl k _ _ _ _ b2 h3⟩
noncomputable section
def Gl(P:Program)(Yw:aK)(rs:List ResultVar)(k l:Nat)(fr:AF)(s:AS):Option<|AV×AS:=
 match dV P Yw k (vh l fr) s with
 | .ok (.leave aO j) s1=>(match finish P rs aO j s1 with
  | .ok v s2=>some (v,s2)
  | .bad=>none)
 |_=>none
end
theorem MW{fr:AF}{R:AV->AS->Prop}{s2:AS}(bH:P.follows .mixedOrders=true)(hc:fQ P B Yw)(hl:∀t a,Yv<|Yw t a)(h1:fr.round=none)(h2:fr.defers=[])(h:Gl P Yw rs k l fr s=some (v,s2))(hR:R v s2):GD P Yw B J (Fin P rs R) l fr s:=by
 refine⟨h1,h2,fun h0=>?_⟩;unfold Gl at h;split at h
 ·rename_i aO j s1 e;split at h
  ·rename_i v2 s3 e2;injection h with h;injection h with h3 h4
   subst h3;subst h4;exact au.leave bH hc hl e h0 ⟨v2,s3,by rw[←EF];exact e2,hR⟩
  ·cases h
 ·cases h
end
noncomputable section
def O4(P:Program)(Yw:aK)(rs:List ResultVar)(k l:Nat)(fr:AF)(s:AS):Option AV:=match Gl P Yw rs k l fr s with
 |some (v,_)=>some v
 |none=>none
end
theorem Mw{P:Program}{Yw:aK}{l:Nat}{s:AS}{fr:AF}(bH:P.follows .mixedOrders=true)(hc:fQ P B Yw)(hl:∀t a,Yv<|Yw t a)(h1:fr.round=none)(h2:fr.defers=[])(h:O4 P Yw rs k l fr s=some v):GD P Yw B J (Fin P rs fun y _=>y=v) l fr s:=by
 unfold O4 at h;split at h
 ·rename_i v2 s2 e;injection h with h;subst h
  exact MW bH hc hl h1 h2 e rfl
 ·cases h
theorem adn{E:Env}(hE:E.Ok){n f nt l:Nat}{t:Tr AV}{K:List Item}{s:AS}{C:xO}(ud:E.fg=false)(bH:E.P.follows .mixedOrders=true)(hc:fQ E.P B<|aZ E.P E.sp E.F n)(hl:∀t a,Yv<|aZ E.P E.sp E.F n t a)(hC:∀fr s p,C fr s p->GD E.P (aZ E.P E.sp E.F n) B J Q l fr s)(h0:J<=s.nx)(fuel:Nat)(p:Pl){T:Prop}(x:T)(h:T=wp E fuel n (.fr f nt K t s) p [] (fun _ _ _=>False) C:=by as_aux_lemma=>kernel_rfl):au E.P B J Q ⟨f,t,nt,K,[l],none⟩ s:=(Cx hE fuel n (.fr f nt K t s) p [] (fun _ _ _=>False) C (GD E.P (aZ E.P E.sp E.F n) B J Q l) (Chunk.defs bH hc hl) (fun fr s j aO jm s1 v s2 p q1 q2 q3=>q3.elim) hC (fun _ _ _ _ _ _ _ _ _ q=>by rw[ud] at q;cases q) (fun _ _ _ _ _ _ _ _ _ _ _ q=>by rw[ud] at q;cases q) (fun _ _ _ _ _ _ _ _ _ q=>by rw[ud] at q;cases q)<|h▸x).2.2 h0
end Go.Rn
namespace Go.Rn
open Go.RowKit
theorem VR.Iw{ρ:Ren}{n o:Nat}{v:Value}(ht:top<=n)(h:VR ρ (.U n o 0) v):VR ρ (.U top 0 0) v\/VR ρ (.U (top+1) 0 0) v:=by
 simp only[VR] at h ⊢;rcases h with⟨_,_,a,c,rfl,hz⟩|⟨b,sh,c,_,rfl,_⟩
 ·cases a with
  |none=>exact .inl<|.inl ⟨Nat.le_refl _,trivial,none,c,rfl,hz.1,(fun _=>rfl),fun e=>by omega⟩
  |some a=>exact .inr<|.inl ⟨by omega,trivial,some a,c,rfl,(fun e=>by cases e),(fun e=>by omega),fun _ e=>by cases e⟩
 ·exact .inr<|.inl ⟨by omega,trivial,_,c,rfl,(fun e=>by cases e),(fun e=>by omega),fun _ e=>by cases e⟩
theorem au.Iw{P:Program}{B:aJ}{J:Nat}{Q:Tr AV->List Nat->Option Code->AS->Prop}{f nt:Nat}{t:Tr AV}{K:List Item}{d:List Nat}{r:Option Nat}{s:AS}{i n o:Nat}(hi:t.get i=some (.U n o 0))(ht:top<=n)(pK:i<top)(H1:au P B J Q ⟨f,t.put i<|some<|.U top 0 0,nt,K,d,r⟩ s)(H2:au P B J Q ⟨f,t.put i<|some<|.U (top+1) 0 0,nt,K,d,r⟩ s):au P B J Q ⟨f,t,nt,K,d,r⟩ s:=by
 intro ρ w b a cs bC aw hf;have hv:=aw.tr.2 i _ hi;have ak:∀x,VR ρ x (a.tmps.getD i Go.undef)->At B ρ s nt (t.put i<|some x) w a:=fun x hx=>by
  obtain⟨h1,h2,h3,h4,h5⟩:=aw;refine⟨⟨h1.1,fun j y hy=>?_⟩,h2,h3,h4,h5⟩;rw[Tr.lH _ _ _ _ pK] at hy;by_cases e:j=i
  ·rw[if_pos e] at hy;cases hy;rw[e];exact hx
  ·rw[if_neg e] at hy;exact h1.2 j y hy
 obtain⟨f1,f2,f3,f4,f5⟩:=bC;rcases hv.Iw ht with q|q
 ·exact H1 ρ w b a cs ⟨f1,f2,f3,f4,f5⟩ (ak _ q) hf
 ·exact H2 ρ w b a cs ⟨f1,f2,f3,f4,f5⟩ (ak _ q) hf
end Go.Rn
namespace Go.Rn
open Go.RowKit
section
variable {X:TX} {P:Program} {J:Nat} {ns:List Nat} {h0:Tr ae} {L:bO} {g:Nat} {fn:Func} {body:Code}
theorem ab1(hP:bR P)(fY:fI<=J)(dK:J<=top)(dJ:∀n o,n<top->h0.get n=some o->n∈ns)(eD:∀n∈ns,n<J){val:List AV->Option AV}(h:dR X J P<|dk J ns h0 L)(cj:P.funcs[g]? =some fn)(cw:fn.body=some body)(dD:(fn.name == "runtime.NumGoroutine")=false)(eT:∀args v,val args=some v->max fn.ntmps args.length<=top/\∃L',dR X J P (dk J ns h0 L')/\∀B:aJ,qx X P J ns h0 L' B->
 au P B J (Fin P fn.results.toList fun y _=>y=v) ⟨g,dt args,max fn.ntmps args.length,[.code body],[],none⟩ ⟨h0,J,0,[],[]⟩):dR X J P<|dk J ns h0<|(g,.val val)::L:=by
 refine(show dR X J P (oB (dk J ns h0 L) g<|pj J ns h0 val) from h.mh (fun Yw _ args=>Yv.pj _ _ _ _ Yw args) fun B hB hT Yw hc hl args x s s1 ρ w vs fi r hg hf hm hv=>?_);refine RI hP cj cw dD fY dK dJ eD (fun args v e=>?_) r hg hm hv;obtain⟨q1,L',h',q2⟩:=eT args v e;exact⟨q1,fun B' lA lB=>q2 B'<|qy hP h' (lA.trans hB)<|lB.trans hT⟩
end
end Go.Rn
namespace Go.Rn
open Go.RowKit
variable {s:AS}
section
variable {P:Program} {B:aJ} {J:Nat} {Q:Tr AV->List Nat->Option Code->AS->Prop} {Yw:aK}
theorem au.WJ{fr aO:AF}{s1:AS}{ρ:Ren}{w:World}{b:Frame}{a:Act}{cs:List Frame}(bC:Fr ρ fr b a)(hf:∀k,s.nx<=k->k<top->ρ k=none)(kR:s.nx<=s1.nx)(h0:J<=s.nx)(hw:lO P B ρ s s1 w fr b cs (lone (b.atR a fr.todo) cs w)<|.go aO)(H:au P B J Q aO s1):
 ∃(gq:AF) (j:Option Code) (s2:AS) (σ:Ren) (a2:Act) (w2:World),Q gq.tmps gq.defers j s2/\J<=s2.nx/\(∀k,k<J->k<top->σ k=ρ k)/\(∀k x,top<=k->ρ k=some x->σ k=some x)/\(∀k,s2.nx<=k->k<top->σ k=none)/\At B σ s2 fr.nt gq.tmps w2 a2/\vw σ gq.defers a2.defers/\cx B w w2/\(gq.fn=fr.fn/\gq.nt=fr.nt/\gq.round=fr.round)/\jw gq.todo/\Leaves j gq.todo/\Steps P (lone (b.atR a fr.todo) cs w) (lone (b.atR a2 gq.todo) cs w2):=by
 obtain⟨σ,a1,w1,e1,e2,e3,e4,⟨e5,e6,e7⟩,e8,_,e9⟩:=hw;have D5:aO.fn=fr.fn:=e5;have iU:aO.nt=fr.nt:=e6;have pL:aO.round=fr.round:=e7;obtain⟨gq,j,s2,τ,a2,w2,q0,qn,q1,GN,q2,q3,q4,q5,⟨q6,q7,q8⟩,q9,Qh,Qi⟩:=H σ w1 b a1 cs ⟨bC.fn.trans D5.symm,bC.kind,by rw[pL];exact bC.round.mono e1.le,e3,e8⟩ (by rw[iU];exact e2) fun k hk ht=>(e1.out k ht aj).trans<|hf k aj ht;exact⟨gq,j,s2,τ,a2,w2,q0,qn,fun k hk gp=>(q1 k hk gp).trans<|e1.out k gp aj,fun k x hk hx=>GN k x hk<|e1.le _ _ hx,q2,by rw[←iU];exact q3,q4,e4.trans q5,⟨q6.trans D5,q7.trans iU,q8.trans pL⟩,q9,Qh,Steps.trans e9 Qi⟩
theorem au.next(hc:fQ P B Yw)(hl:∀t a,Yv<|Yw t a){fr:AF}{s2:AS}{it:Operand}{o:Oper}{ops:Array Oper}{rest:List Oper}{k:List Item}{n m:Nat}{es:List<|AV×AV}{ex:Bool}{left:List<|AV×AV}{cur:Option<|AV×AV}(e:Ap fr=some (it,o,ops,rest,k))(h0:J<=s.nx)(e1:qU fr it s= .ok (n,.iter m es ex left cur) s2)(H0:left=[]->∃aO s3,np P Yw fr n m es ex o ops rest k s2= .ok aO s3/\au P B J Q aO s3)(H1:∀x r,(x,r)∈xm left->∃aO s3,nr P Yw fr n (.iter m es ex r<|some x) o ops rest k (.tuple [.bool true,x.1,x.2]) s2= .ok aO s3/\au P B J Q aO s3):au P B J Q fr s:=by
 intro ρ w b a cs bC aw hf;obtain⟨id,oq,l7,BQ,ho⟩:=Rq e;obtain⟨h1,h2⟩:=RG e1;obtain⟨hx,hg,hh,cv⟩:=fU h2;have dx:bB s2:=(Yv.bt n).cm aw.cm h2;have ht:n<top:=Nat.lt_of_lt_of_le hx aw.cm.nx;have hd:∀c,o.op≠ .defer c:=fun c q=>by rw[ho] at q;cases q
 obtain⟨oS,fu,u⟩:=aw.rel.iter n m es ex left cur ht hg;obtain⟨bn,N,hn,po⟩:=u.next (P:=P) o.type;have GK:VR ρ (.ptr<|some (n,0))<|a.eval it:=CE aw.tr aw.g h1;have D1:a.eval it= .pointer (some ⟨bn,0,none⟩):=by simp only[VR] at GK;obtain⟨b',N',q1,q2⟩:=GK;rw[hn] at q1;cases q1;exact q2
 have FH:∀v w',(Instr.next (.pointer<|some ⟨bn,0,none⟩) false o.type).run P w= .ok v w'->(execOp a.eval o).run P w= .ok (.value v) w':=by intro v w' q;simp only[execOp,ho,D1,Sem.run_bind,q,Result.andThen_ok,Sem.run_pure]
 obtain⟨_,_,_,hB⟩:=aw.rel.block ht hg hn;have free:∀{a b:Nat},s.nx<=a->dz a b ρ:=fun ha k h1 _ h3=>hf k aj h3;rcases po with⟨JV,qp⟩|⟨x,r,v1,v2,w',iq,D4,rK,qp,GL,hblk,Qg⟩
 ·obtain⟨aO,s3,e3,HS⟩:=H0 JV;have jl:=(Yv.np P hl fr n m es ex o ops rest k).cm dx e3;have BP:=(Yv.np P hl fr n m es ex o ops rest k).le dx e3;refine au.WJ bC hf aj h0 ?_ HS;unfold np at e3;obtain⟨u1,s4,i1,i2⟩:=M.aN e3;obtain⟨u2,s5,i3,i4⟩:=M.aN i2;obtain⟨t1,s6,i5,i6⟩:=M.aN i4;obtain⟨t2,s7,i7,i8⟩:=M.aN i6;obtain⟨rfl,rfl⟩:=bA i8;obtain⟨i9,rfl⟩:=gR i5;obtain⟨_,_,_,j1,j2⟩:=jv i1;obtain⟨_,_,_,j3,j4⟩:=jv i3;have BR:bB s6:=(Yv.bJ m _).cm ((Yv.bJ n _).cm dx i1) i3;have kS:s.h.get n=some (.iter m es ex [] cur):=by rw[hg,JV]
  have Bn:Rel B ρ s6.h w:=by rw[j3,j1,hh];exact aw.rel.Ws ht kS
  have BS:VR ρ (.tuple [.bool false])<|.tuple #[.bool false]:=by simp only[VR,ay];exact⟨_,rfl,_,_,rfl,rfl,rfl⟩
  obtain⟨q1,q2⟩:=Ct (a:=a) aw.tr aw.nt i9 BS;exact Hm hc hl bC oq l7 BQ hd (FH _ _ qp) (cx.refl _ _) ⟨q1,Bn,aw.g,aw.nt,BR⟩ (by rw[j4,j2,cv]) (free (by rw[j4,j2,cv];exact Nat.le_refl _)) i7
 ·obtain⟨aO,s3,e3,HS⟩:=H1 x r iq;have jl:=(Yv.nr P hl fr n (.iter m es ex r<|some x) o ops rest k<|.tuple [.bool true,x.1,x.2]).cm dx e3;have BP:=(Yv.nr P hl fr n (.iter m es ex r<|some x) o ops rest k<|.tuple [.bool true,x.1,x.2]).le dx e3;refine au.WJ bC hf aj h0 ?_ HS;unfold nr at e3;obtain⟨u1,s4,i1,i2⟩:=M.aN e3;obtain⟨t1,s6,i5,i6⟩:=M.aN i2;obtain⟨t2,s7,i7,i8⟩:=M.aN i6;obtain⟨rfl,rfl⟩:=bA i8;obtain⟨i9,rfl⟩:=gR i5;obtain⟨_,_,_,j1,j2⟩:=jv i1;have BR:bB s6:=(Yv.bJ n _).cm dx i1;have Bn:Rel B ρ s6.h w':=by rw[j1,hh];exact aw.rel.Va ht hg hn GL hblk Qg
  have BS:VR ρ (.tuple [.bool true,x.1,x.2])<|.tuple #[.bool true,v1,v2]:=by simp only[VR,ay];exact⟨_,rfl,_,_,rfl,rfl,_,_,rfl,D4,_,_,rfl,rK,rfl⟩
  obtain⟨q1,q2⟩:=Ct (a:=a) aw.tr aw.nt i9 BS;exact Hm hc hl bC oq l7 BQ hd (FH _ _ qp) (GL.below<|hB rfl) ⟨q1,Bn,aw.g,aw.nt,BR⟩ (by rw[j2,cv]) (free (by rw[j2,cv];exact Nat.le_refl _)) i7
end
end Go.Rn
namespace Go.Rn
open Go.RowKit
variable {ρ σ:Ren} {off:Nat} {cs:List AV} {x:AV} {w:World} {s:AS} {B:aJ}
def AV.xF(x:AV):Bool:=match x with
 | .agg l=>l.all AV.flat
 | .tuple l=>l.all AV.flat
 |x=>x.flat
theorem ay.flat:∀{l:List AV} {vs:List Value},l.all AV.flat=true->ay ρ l vs->ay σ l vs
 |[],_,_,hv=>by simpa only[ay] using hv
 |y::l,vs,hy,hv=>by obtain⟨h1,h2⟩:=and_true.1 (show(y.flat&&l.all AV.flat)=true from hy);simp only[ay] at hv ⊢;obtain⟨a,as,e,h3,h4⟩:=hv;exact⟨a,as,e,VR.flat h1 h3,ay.flat h2 h4⟩
theorem VR.xF{v:Value}(h:x.xF=true)(k:VR ρ x v):VR σ x v:=by
 unfold AV.xF at h;split at h
 ·simp only[VR] at k ⊢;obtain⟨a,e,q⟩:=k;exact⟨a,e,ay.flat h q⟩
 ·simp only[VR] at k ⊢;obtain⟨a,e,q⟩:=k;exact⟨a,e,ay.flat h q⟩
 ·exact VR.flat h k
theorem ab6{fE:Ren}{h h0:Tr ae}{j b:Nat}{c:Array Value}{e:TypeId}{fr:Nat×Nat}(R0:Rel (ri B ρ w) fE h0 w)(Gp:∀n o,n<top->h0.get n=some o->o.mD=true)(ja:fE (hn j b off)=none)(hF:B.F j=some cs)(hb:w.heap[b]? =some (.cells c e fr))(qF:∀i x,cs[i]? =some x->∃v,c[off+i]? =some v/\VR (gk fE) x v/\x.bQ=true)(hold:∀k,ρ k≠none->eM fE (hn j b off) (b,0) k≠none):
 Rel (ri B (eM fE (hn j b off) (b,0)) w) (eM fE (hn j b off) (b,0)) h0 w:=by
 have hl:fE.le<|eM fE (hn j b off) (b,0):=n9 ja;have cL:∀k,k<top->eM fE (hn j b off) (b,0) k=fE k:=fun k hk=>gI _ _ (by have:=gb j b off;omega);have XW:∀x,jY (eM fE (hn j b off) (b,0)) h0 x:=fun x m o N hm hg hr=>by rw[ae.kg<|Gp m o hm hg] at hr;cases hr
 refine⟨fun n o fw ho=>?_,fun n m o p b1 N M fw hm h1 h2 cP e1 e2=>?_,fun n m es ex left cur fw ho=>?_,R0.size,R0.lone,fun n x sh q=>?_,?_⟩
 ·obtain⟨b1,N,o',i1,i2,i3,i4⟩:=R0.is n o fw ho;exact⟨b1,N,o',hl _ _ i1,i2,i3.mono hl,i4⟩
 ·rw[cL n fw] at e1;rw[cL m hm] at e2;exact R0.one n m o p b1 N M fw hm h1 h2 cP e1 e2
 ·have:=Gp n _ fw ho;cases this
 ·by_cases z:hn n x sh=hn j b off
  ·obtain⟨rfl,rfl,rfl⟩:=IQ z;refine⟨.inl q,cs,c,e,fr,hF,hb,XW _,fun i y hy=>?_⟩;obtain⟨v,k1,k2,k3⟩:=qF i y hy;exact⟨v,k1,VR.mono (EO hl) _ _ k2,k3⟩
  ·have q':fE (hn n x sh)≠none:=by rw[gI _ _ z] at q;exact q
   obtain⟨_,l,c1,e1,aO,g1,g2,_,g4⟩:=R0.fz n x sh q';refine⟨.inl q,l,c1,e1,aO,g1,g2,XW _,fun i y hy=>?_⟩;obtain⟨v,k1,k2,k3⟩:=g4 i y hy;exact⟨v,k1,VR.mono (EO hl) _ _ k2,k3⟩
 ·refine tS.no (fun n k v fw hg=>by have:=Gp n _ fw hg;cases this) ⟨R0.tk.1.1,fun m o hm hg hf=>?_⟩;obtain⟨b1,N,e1,e2⟩:=R0.tk.1.2 m o hm hg hf;exact⟨b1,N,hl _ _ e1,e2⟩
noncomputable section
def FW(len:Nat):bW->Bool
 | .known c=>Nat.ble len c
 | .aq _ _=>true
 | .lost=>false
def vE(J:Nat)(ns:List Nat)(h0:Tr ae)(val:List AV->Option AV):aK->List AV->M AV:=fun _ args=>match args with
  | [a,.slice (some (n,off)) len cap,b]=>aG (a.hi&&(b.hi&&FW len cap)) <| (fG J h0 ns).bind fun _=>(bt n).bind fun o=>aB (cellsOf (some o) off len) fun cs=>aG (cs.all AV.gf&&Nat.blt n top) <|
    aB (val [a,.U (nm cs) 0 len,b]) fun v=>aG v.xF <| M.pure v
  |_=>fail
end
theorem Yv.vE(J:Nat)(ns:List Nat)(h0:Tr ae)(val:List AV->Option AV)(Yw:aK)(args:List AV):Yv<|vE J ns h0 val Yw args:=by
 unfold Rn.vE;split
 ·exact Yv.aG fun _=>Yv.bind (Yv.fG J h0 ns) fun _=>Yv.bind (Yv.bt _) fun _=>Yv.aB fun _ _=>Yv.aG fun _=>Yv.aB fun _ _=>Yv.aG fun _=>Yv.pure _
 ·exact Yv.fail
theorem Zm{o:ae}{k:Nat}(h:cellsOf (some o) off k=some cs):∃m t z,o= .cells m t z/\off+k<=m/\lK t z k off=some cs:=by
 unfold cellsOf at h;split at h
 ·rename_i m t z e;injection e with e
  split at h
  ·rename_i q;exact⟨m,t,z,e,aM.1 q,h⟩
  ·cases h
 ·cases h
theorem adG{P:Program}{f J:Nat}{ns:List Nat}{h0:Tr ae}{val:List AV->Option AV}{fn:Func}{body:Code}{s1:AS}(hP:bR P)(cj:P.funcs[f]? =some fn)(cw:fn.body=some body)(dD:(fn.name == "runtime.NumGoroutine")=false)(hFU:B.F=FU)(fY:fI<=J)(dK:J<=top)(dJ:∀n o,n<top->h0.get n=some o->n∈ns)(eD:∀n∈ns,n<J)(eT:∀args v,val args=some v->max fn.ntmps args.length<=top/\∀B':aJ,B'.F=B.F->B'.inv=B.inv->au P B' J (Fin P fn.results.toList fun y _=>y=v) ⟨f,dt args,max fn.ntmps args.length,[.code body],[],none⟩ ⟨h0,J,0,[],[]⟩){Yw:aK}{args:List AV}{vs:Array Value}(r:Rel B ρ s.h w)(hg:gC ρ)(h:vE J ns h0 val Yw args s= .ok x s1)(hv:ay ρ args vs.toList):jf P ((callFunc f vs).run P w)<|kh B ρ s s1 w x:=by
 unfold vE at h;split at h
 case h_2=>cases h
 rename_i a n off len cap a2;obtain⟨gG,h1⟩:=cV h;obtain⟨ha,x8⟩:=and_true.1 gG;obtain⟨hb,JS⟩:=and_true.1 x8;obtain⟨u,s2,h2,h3⟩:=M.aN h1;obtain⟨o,s3,h4,h5⟩:=M.aN h3;obtain⟨cs,h6,h7⟩:=bu h5;obtain⟨hcd,h8⟩:=cV h7;obtain⟨XY,iT⟩:=and_true.1 hcd;have iT:n<top:=(blt_eq _ _).mp iT;obtain⟨v,h9,gE⟩:=bu h8;obtain⟨yb,tY⟩:=cV gE;obtain⟨rfl,rfl⟩:=bA tY;obtain⟨a1,a2',a3⟩:=uw h2;obtain⟨b1,b2,b3,b4⟩:=fU h4;obtain⟨m,t,z,rfl,c1,c2⟩:=Zm h6;have iP:s.h.get n=some (.cells m t z):=by rw[←a1];exact b2
 obtain⟨bb,N,o',d1,d2,d3,_⟩:=r.is n _ iT iP;have XZ:=d3;simp only[OR] at XZ;obtain⟨c,e,rfl,_,d4,d5⟩:=XZ;obtain⟨g1,g2⟩:=Hj c2;have X0:∀n∈ns,∃o p,s.h.get n=some o/\h0.get n=some p/\oh J o p=true:=fun n hn=>by obtain⟨_,o,p,h⟩:=a3 n hn;exact⟨o,p,h⟩
 have R0:=Di dK r dJ eD X0;have Gp:∀n o,n<top->h0.get n=some o->o.mD=true:=fun n o hn ho=>by obtain⟨p1,p2,_,c3,c4⟩:=X0 n<|dJ n o hn ho;rw[ho] at c3;cases c3;unfold oh at c4;split at c4<;>first|rfl|cases c4
 have afh:ρ (hn (nm cs) bb off)=none:=Classical.byContradiction fun q=>by obtain⟨_,_,_,_,_,_,_,z3,_⟩:=r.fz _ _ _ q;exact z3 n _ N iT iP rfl d1
 have ja:gh J ρ (hn (nm cs) bb off)=none:=by rw[su dK<|gb _ _ _];exact afh
 have R1:=ab6 (B:=B) (ρ:=gh J ρ) (fE:=gh J ρ) (j:=nm cs) (b:=bb) (off:=off) (cs:=cs) (c:=c) (e:=e) (fr:=(0,0)) (h:=s.h) (h0:=h0) (w:=w) ⟨R0.is,R0.one,R0.iter,R0.size,R0.lone,fun n x sh q=>by
  obtain⟨_,g⟩:=R0.fz n x sh q;exact⟨.inl q,g⟩,R0.tk⟩ Gp ja (by rw[hFU];exact Dh XY) d2 (fun i x hx=>by
  have hi:i<len:=by rw[←g1];exact(List.getElem?_eq_some_iff.1 hx).1
  obtain⟨x',v',k1,k2,k3,k4⟩:=d5 (off+i) aj;rw[g2 i hi,hx] at k1;injection k1 with k1;subst k1
  have hxc:x.gf=true:=List.all_eq_true.1 XY x<|List.mem_of_getElem? hx;refine⟨v',k3,AV.uQ (fun k y hk q=>?_) (Cy hxc) k4,k2⟩;unfold gk;rw[if_pos hk,su dK hk];exact q) (fun k q=>by
  unfold eM;split
  ·exact fun q=>by cases q
  ·exact q)
 obtain⟨q1,q2⟩:=eT _ _ h9;have fi:bB (⟨h0,J,0,[],[]⟩:AS):=⟨Nat.zero_le _,dK⟩;have zO:gC<|eM (gh J ρ) (hn (nm cs) bb off) (bb,0):=fun g iD=>by obtain⟨N,e⟩:=hg g iD;exact⟨N,n9 ja _ _ (by unfold gh;rw[if_pos<|Nat.lt_of_lt_of_le iD fY];exact e)⟩
 have hi:jg ρ<|eM (gh J ρ) (hn (nm cs) bb off) (bb,0):=fun k y hk e=>n9 ja _ _ (by rw[su dK hk];exact e);have km:ay (eM (gh J ρ) (hn (nm cs) bb off) (bb,0)) [a,.U (nm cs) 0 len,a2] vs.toList:=by
  simp only[ay] at hv ⊢;obtain⟨v0,vr,e1,k1,v1,vr1,e2,k2,v2,vr2,e3,k3,k4⟩:=hv;refine⟨v0,vr,e1,AV.pq hi ha k1,v1,vr1,e2,?_,v2,vr2,e3,AV.pq hi hb k3,k4⟩;have aw:ql (eM (gh J ρ) (hn (nm cs) bb off) (bb,0)) (nm cs) bb off:=.inr ⟨cF _,by rw[iN];exact fun q=>by cases q⟩;cases cap with
  |known cc=>simp only[VR] at k2 ⊢;obtain⟨b',N',e4,e5⟩:=k2;rw[d1] at e4;cases e4;exact .inr ⟨bb,off,cc,aw,e5,fun _=>⟨aM.1 JS,(yY cs).1⟩⟩
  |aq lo ee=>simp only[VR] at k2 ⊢;obtain⟨b',N',cc,e4,e5,e6,e7,_⟩:=k2;rw[d1] at e4;cases e4;exact .inr ⟨bb,off,cc,aw,e5,fun _=>⟨e7,(yY cs).1⟩⟩
  |lost=>cases JS
 have bG:=au.calls (B:=ri B (eM (gh J ρ) (hn (nm cs) bb off) (bb,0)) w) (s:=⟨h0,J,0,[],[]⟩) (args:=[a,.U (nm cs) 0 len,a2]) (vs:=vs) hP cj cw q1 (q2 _ rfl rfl) fi R1 zO (fun k k1 k2=>by have k1:J<=k:=k1;rw[gI _ _ (by have:=gb (nm cs) bb off;omega)];unfold gh gk;rw[if_neg aj,if_neg aj]) km;rw[sd cj cw dD];show Calls P f vs w _;refine bG.mono fun e w'=>?_;rintro ⟨y,x',s4,rfl,rfl,_,_,σ,e1,e2,e3,e4⟩;have gr:gN w w':=⟨e4.os,e4.tape,e4.output,e4.size,fun k hk=>e4.block k hk (by show ¬(w.heap.size<=k);omega)⟩;exact⟨y,rfl,ρ,by rw[b4,a2'];exact Ext.refl _ _ _,VR.xF yb e2,by rw[b3,a1];exact r.Bi gr,gr.below r.size⟩
section
variable {X:TX} {P:Program} {J:Nat} {ns:List Nat} {h0:Tr ae} {kn:List<|Nat×Option ae} {L L':bO} {g k:Nat} {fn:Func} {body:Code}
theorem adH(hP:bR P)(fY:fI<=J)(dK:J<=top)(dJ:∀n o,n<top->h0.get n=some o->n∈ns)(eD:∀n∈ns,n<J){val:List AV->Option AV}(h:dR X J P<|dk J ns h0 L)(h':dR X J P<|dk J ns h0 L')(cj:P.funcs[g]? =some fn)(cw:fn.body=some body)(dD:(fn.name == "runtime.NumGoroutine")=false)(eT:∀args v,val args=some v->max fn.ntmps args.length<=top/\∀B:aJ,qx X P J ns h0 L' B->
 au P B J (Fin P fn.results.toList fun y _=>y=v) ⟨g,dt args,max fn.ntmps args.length,[.code body],[],none⟩ ⟨h0,J,0,[],[]⟩):dR X J P<|dk J ns h0<|(g,.raw fun a b c=>vE a b c val)::L:=by
 refine(show dR X J P (oB (dk J ns h0 L) g<|vE J ns h0 val) from h.mh (fun Yw _ args=>Yv.vE _ _ _ _ Yw args) fun B hB hT Yw hc hl args x s s1 ρ w vs fi r hg hf hm hv=>?_);refine adG hP cj cw dD hB fY dK dJ eD (fun args v e=>?_) r hg hm hv;obtain⟨q1,q2⟩:=eT args v e;exact⟨q1,fun B' lA lB=>q2 B'<|qy hP h' (lA.trans hB)<|lB.trans hT⟩
end
theorem ab7{P:Program}{F:Nat->Option (List AV)}{sp:Sp}{g n J:Nat}{h0:Tr ae}{ns:List Nat}{val:List AV->Option AV}(h:sp g=some (vE J ns h0 val)){a b:AV}{m len:Nat}{cap:bW}{v:AV}(h1:(a.hi&&(b.hi&&FW len cap))=true)(hk:pC J h0 ns s=true)(hm:Nat.blt m (dA J h0 ns s).nx=true)(ht:Nat.blt m top=true)(h2:cellsOf ((dA J h0 ns s).h.get m) off len=some cs)(h3:cs.all AV.gf=true)(h4:val [a,.U (nm cs) 0 len,b]=some v)(h5:v.xF=true):
 aZ P sp F (n+1) (.fn g) [a,.slice (some (m,off)) len cap,b] s= .ok v (aT m<|dA J h0 ns s):=by
 show jF P sp g (aZ P sp F n) [a,.slice (some (m,off)) len cap,b] s=_;rw[qX h];cases q:(dA J h0 ns s).h.get m with
 |none=>rw[q] at h2;cases h2
 |some o=>rw[q] at h2;show(aG (a.hi&&(b.hi&&FW len cap)) <| (fG J h0 ns).bind fun _=>(bt m).bind fun o=>aB (cellsOf (some o) off len) fun cs=>aG (cs.all AV.gf&&Nat.blt m top) <| aB (val [a,.U (nm cs) 0 len,b]) fun v=>aG v.xF <| M.pure v) s=_;rw[h1,dy,M.bK<|w9 hk,M.bK<|lJ hm q,h2,bT,h3,ht];show(aG true <| aB (val [a,.U (nm cs) 0 len,b]) fun v=>aG v.xF <| M.pure v) _=_;rw[dy,h4,bT,h5,dy];rfl
end Go.Rn
namespace Go.Rn
open Go.RowKit
variable {r2 r1 N n:Nat} {ρ σ:Ren} {o':Obj} {cs a rest b:List AV} {y v:AV} {sp:Sp} {s:AS} {o:ae} {F:Nat->Option (List AV)}
noncomputable def bS(cs:List AV):ae:=.cells cs.length (Tr.fill cs 0 .nil) []
theorem ab8(ha:a.length<=top)(hb:b.length<=top)(h:bS a=bS b):a=b:=by
 unfold bS at h;injection h with h1 h2 _
 refine List.ext_getElem? fun i=>?_;by_cases q:i<a.length
 ·have e1:=yw ha q;have e2:=yw hb (show i<b.length by omega);rw[←e1, ←e2,h2]
 ·rw[List.getElem?_eq_none aj,List.getElem?_eq_none aj]
open Classical in
noncomputable def rowOf(o:ae):Option<|List AV:=if h:∃cs,cs.length<=top/\o=bS cs then some h.choose else none
theorem HK(h:rowOf o=some cs):o=bS cs/\cs.length<=top:=by
 unfold rowOf at h;split at h
 ·rename_i q;injection h with h;rw[←h];exact⟨q.choose_spec.2,q.choose_spec.1⟩
 ·cases h
theorem HL(h:cs.length<=top):rowOf (bS cs)=some cs:=by unfold rowOf;have q:∃we,we.length<=top/\bS cs=bS we:=⟨cs,h,rfl⟩;rw[dif_pos q];exact congrArg some (ab8 h q.choose_spec.1 q.choose_spec.2).symm
structure RS where
 pre:List AV
 len:Nat
 cap:bW
 post:List AV
def dO(R:RS)(r1 r2:Nat):List AV:=R.pre++(.ptr (some (r1,0)):: .slice (some (r2,0)) R.len R.cap::R.post)
def rootOf(kp:Nat)(cs:List AV):Option<|RS×Nat×Nat:=match cs.drop kp with
 | .ptr (some (r1,0)):: .slice (some (r2,0)) len cap::post=>some (⟨cs.take kp,len,cap,post⟩,r1,r2)
 |_=>none
theorem RJ{R:RS}{kp:Nat}(h:R.pre.length=kp):rootOf kp (dO R r1 r2)=some (R,r1,r2):=by subst h;unfold rootOf dO;rw[List.drop_left,List.take_left];rfl
theorem Se{kp:Nat}{q:RS×Nat×Nat}(h:rootOf kp cs=some q):cs=dO q.1 q.2.1 q.2.2:=by
 unfold rootOf at h;split at h
 ·rename_i e;injection h with h;subst h
  unfold dO;rw[←e,List.take_append_drop]
 ·cases h
structure VS where
 R:RS
 u:AV
 row:List AV
def xG(k:Nat)(o:ae):Option AV:=match o with
 | .tok k' v=>(match Nat.beq k k' with|true=>some v|false=>none)
 |_=>none
theorem Mz{k:Nat}(h:xG k o=some v):o= .tok k v:=by
 unfold xG at h;split at h
 ·split at h
  ·rename_i q;injection h with h;rw[h,Nat.eq_of_beq_eq_true q]
  ·cases h
 ·cases h
theorem MA{k:Nat}:xG k (.tok k v)=some v:=by show(match Nat.beq k k with|true=>some v|false=>none)=some v;rw[ey.2 rfl]
def sa(R:RS):Bool:=R.pre.all AV.cM&&R.post.all AV.cM
def bD(kp:Nat)(st:VS):Bool:=sa st.R&&(st.row.all AV.cM&&(Nat.ble (dO st.R 0 0).length top&&Nat.ble st.row.length top))
noncomputable section
def mU(kp k:Nat)(val:VS->List AV->Option (AV×VS))(J:Nat)(ns:List Nat)(h0:Tr ae):aK->List AV->M AV:=fun _ args=>match args with
 | .ptr (some (n,0))::rest=>aG (rest.all AV.hi) <| (fG J h0 ns).bind fun _=>(bt n).bind fun o=>aB (rowOf o) fun cs=>aB (rootOf kp cs) fun q=>(bt q.2.1).bind fun o1=>aB (xG k o1) fun u=>(bt q.2.2).bind fun o2=>aB (rowOf o2) fun row=>
  aG (sa q.1&&row.all AV.cM) <| aG (!Nat.beq n q.2.1&&(!Nat.beq n q.2.2&& !Nat.beq q.2.1 q.2.2)) <| aB (val ⟨q.1,u,row⟩ rest) fun p=>aG (p.1.hi&&bD kp p.2) <|
  (bJ n<|some<|bS<|dO p.2.R q.2.1 q.2.2).bind fun _=>(kU q.2.1<|some<|.tok k p.2.u).bind fun _=>(bJ q.2.2<|some<|bS p.2.row).bind fun _=>M.pure p.1
 |_=>fail
def dB(J k:Nat)(st:VS):List<|Nat×ae:=[(J,bS<|dO st.R (J+1)<|J+2),(J+1,.tok k st.u),(J+2,bS st.row)]
end
theorem Yv.mU(kp k:Nat)(val:VS->List AV->Option (AV×VS))(J:Nat)(ns:List Nat)(h0:Tr ae)(Yw:aK)(args:List AV):Yv<|mU kp k val J ns h0 Yw args:=by
 unfold Rn.mU;split
 ·exact Yv.aG fun _=>Yv.bind (Yv.fG J h0 ns) fun _=>Yv.bind (Yv.bt _) fun _=>Yv.aB fun _ _=>Yv.aB fun _ _=>Yv.bind (Yv.bt _) fun _=>Yv.aB fun _ _=>Yv.bind (Yv.bt _) fun _=>Yv.aB fun _ _=>Yv.aG fun _=>Yv.aG fun _=>Yv.aB fun _ _=>Yv.aG fun _=>Yv.bind (Yv.bJ _ _) fun _=>Yv.bind (Yv.kU _ _) fun _=>Yv.bind (Yv.bJ _ _) fun _=>Yv.pure _
 ·exact Yv.fail
def gW(J k:Nat)(P:Program)(rs:List ResultVar)(y:AV)(st:VS):=Fin P rs fun y1 s'=>y1=y/\∀m o,(m,o)∈dB J k st->s'.h.get m=some o
theorem UF(ha:a.length<=top)(hb:b.length<=top)(hl:b.length=a.length)(hc:∀(i:Nat) (x y:AV),a[i]? =some x->b[i]? =some y->(x.bQ=true->y.bQ=true)/\∀v,VR ρ x v->VR σ y v)(h:OR ρ N (bS a) o'):OR σ N (bS b) o':=by unfold bS at h ⊢;simp only[OR] at h ⊢;obtain⟨c,e,rfl,h1,h2,h3⟩:=h;refine⟨c,e,rfl,h1,by omega,fun i hi=>?_⟩;obtain⟨x,v,k1,k2,k3,k4⟩:=h3 i aj;rw[yw ha aj] at k1;have fN:b[i]? =some (b[i]'hi):=List.getElem?_eq_getElem hi;obtain⟨q1,q2⟩:=hc i x _ k1 fN;exact⟨_,v,by rw[yw hb hi];exact fN,q1 k2,k3,q2 v k4⟩
theorem FX(jo:jg ρ σ)(ha:a.length<=top)(hh:a.all AV.cM=true)(h:OR ρ N (bS a) o'):OR σ N (bS a) o':=UF ha ha rfl (fun i x y e1 e2=>by rw[e1] at e2;cases e2;exact⟨id,fun v k=>AV.uQ jo (List.all_eq_true.1 hh x<|List.mem_of_getElem? e1) k⟩) h
theorem Ai{R:RS}{r3 r4:Nat}:(dO R r1 r2).length=(dO R r3 r4).length:=by unfold dO;simp only[List.length_append,List.length_cons]
theorem Iz{R:RS}{s1 s2:Nat}(jo:jg ρ σ)(hl:(dO R r1 r2).length<=top)(hR:sa R=true)(e1:∀x,ρ r1=some x->σ s1=some x)(e2:∀x,ρ r2=some x->σ s2=some x)(h:OR ρ N (bS<|dO R r1 r2) o'):OR σ N (bS<|dO R s1 s2) o':=by
 obtain⟨hp,hq⟩:=and_true.1 hR;refine UF hl (by rw[Ai (r3:=r1) (r4:=r2)];exact hl) Ai (fun i x y k1 k2=>?_) h;unfold dO at k1 k2;by_cases c1:i<R.pre.length
 ·rw[List.getElem?_append_left c1] at k1 k2;rw[k1] at k2;cases k2;exact⟨id,fun v k=>AV.uQ jo (List.all_eq_true.1 hp x<|List.mem_of_getElem? k1) k⟩
 ·rw[List.getElem?_append_right aj] at k1 k2;generalize i - R.pre.length=j at k1 k2
  match j with
  |0=>simp only[List.getElem?_cons_zero,Option.some.injEq] at k1 k2;subst k1;subst k2;refine⟨fun _=>rfl,fun v k=>?_⟩;simp only[VR] at k ⊢;obtain⟨b,N,a1,a2⟩:=k;exact⟨b,N,e1 _ a1,a2⟩
  |1=>
   simp only[List.getElem?_cons_succ,List.getElem?_cons_zero,Option.some.injEq] at k1 k2;subst k1;subst k2;refine⟨fun _=>rfl,fun v k=>?_⟩;generalize R.cap=cp at k ⊢;cases cp<;>simp only[VR] at k ⊢
   ·obtain⟨b,N,a1,a2⟩:=k;exact⟨b,N,e2 _ a1,a2⟩
   ·obtain⟨b,N,c,a1,a2⟩:=k;exact⟨b,N,c,e2 _ a1,a2⟩
   ·obtain⟨l,b,N,p,c,a1,a2⟩:=k;exact⟨l,b,N,p,c,e2 _ a1,a2⟩
  |j+2=>simp only[List.getElem?_cons_succ] at k1 k2;rw[k1] at k2;cases k2;exact⟨id,fun v k=>AV.uQ jo (List.all_eq_true.1 hq x<|List.mem_of_getElem? k1) k⟩
theorem aaW{P:Program}{B:aJ}{f J kp k:Nat}{ns:List Nat}{h0:Tr ae}{kn:List<|Nat×Option ae}{val:VS->List AV->Option (AV×VS)}{fn:Func}{body:Code}{w:World}{s1:AS}(hP:bR P)(cj:P.funcs[f]? =some fn)(cw:fn.body=some body)(dD:(fn.name == "runtime.NumGoroutine")=false)(fY:fI<=J)(dK:J+3<=top)(dJ:∀n o,n<top->h0.get n=some o->n∈ns)(eD:∀n∈ns,n<J)(jk:∀n o,(n,some o)∈kn->h0.get n=some o)(jq:∀p∈kn,p.1<top)(eT:∀st rest y aU,val st rest=some (y,aU)->max fn.ntmps (rest.length+1)<=top/\∀B':aJ,B'.F=B.F->B'.inv=B.inv->
 au P B' (J+3) (gW J k P fn.results.toList y aU) ⟨f,dt<|.ptr (some (J,0))::rest,max fn.ntmps<|rest.length+1,[.code body],[],none⟩ ⟨fR<|kn++aW (dB J k st),J+3,0,[],[]⟩){Yw:aK}{args:List AV}{x:AV}{vs:Array Value}(r:Rel B ρ s.h w)(hg:gC ρ)(h:mU kp k val J ns h0 Yw args s= .ok x s1)(hv:ay ρ args vs.toList):jf P ((callFunc f vs).run P w)<|kh B ρ s s1 w x:=by
 unfold mU at h;split at h
 case h_2=>cases h
 rename_i n rest;obtain⟨gG,h⟩:=cV h;obtain⟨u,s2,h2,h⟩:=M.aN h;obtain⟨a1,a2,a3⟩:=uw h2;obtain⟨o,s3,k1,h⟩:=M.aN h;obtain⟨cs,m1,h⟩:=bu h;obtain⟨q,m2,h⟩:=bu h;obtain⟨o1,s4,k2,h⟩:=M.aN h;obtain⟨tv,m3,h⟩:=bu h;obtain⟨o2,s5,k3,h⟩:=M.aN h;obtain⟨row,m4,h⟩:=bu h;obtain⟨eN,h⟩:=cV h;obtain⟨Gq,eR⟩:=and_true.1 eN;obtain⟨cf,h⟩:=cV h;obtain⟨p,hp,h⟩:=bu h;obtain⟨lu,h⟩:=cV h;obtain⟨QC,hS⟩:=and_true.1 lu;obtain⟨hSR,hS⟩:=and_true.1 hS;obtain⟨agU,hS⟩:=and_true.1 hS;obtain⟨hSl,aik⟩:=and_true.1 hS;obtain⟨_,t1,w1,h⟩:=M.aN h;obtain⟨_,t2,w2,h⟩:=M.aN h;obtain⟨_,t3,w3,h⟩:=M.aN h;obtain⟨rfl,rfl⟩:=bA h;obtain⟨R,n1,n2⟩:=q;obtain⟨y,aU⟩:=p;have DH:n≠n1/\n≠n2/\n1≠n2:=by
  obtain⟨c1,c2⟩:=and_true.1 cf;obtain⟨c2,c3⟩:=and_true.1 c2;refine⟨fun e=>?_,fun e=>?_,fun e=>?_⟩<;>subst e
  ·rw[ey.2 rfl] at c1;cases c1
  ·rw[ey.2 rfl] at c2;cases c2
  ·rw[show Nat.beq n1 n1=true from ey.2 rfl] at c3;cases c3
 obtain⟨d1,d2,d3⟩:=DH;obtain⟨rfl,oQ⟩:=HK m1;have qF:=Se m2;subst qF;have G1:=Mz m3;subst G1;obtain⟨rfl,G2⟩:=HK m4;obtain⟨b1,b2,b3,b4⟩:=fU k1;obtain⟨b5,b6,b7,b8⟩:=fU k2;obtain⟨b9,QD,QE,QF⟩:=fU k3;obtain⟨x1,x2,_,x4,x5⟩:=jv w1;obtain⟨y1,y2,y3,y4⟩:=Tw w2;obtain⟨z1,z2,_,z4,z5⟩:=jv w3;have g1:s.h.get n=some (bS<|dO R n1 n2):=by rw[←a1];exact b2
 have g2:s.h.get n1=some (.tok k tv):=by rw[←a1, ←b3];exact b6
 have g3:s.h.get n2=some (bS row):=by rw[←a1, ←b3, ←b7];exact QD
 let V:Vw:=[(J,n,bS<|dO R (J+1)<|J+2),(J+1,n1,.tok k tv),(J+2,n2,bS row)];have mem:∀q∈V,q=(J,n,bS<|dO R (J+1)<|J+2)\/q=(J+1,n1,.tok k tv)\/q=(J+2,n2,bS row):=fun q hq=>by simpa[V] using hq
 have V0:(J,n,bS<|dO R (J+1)<|J+2)∈V:=by simp[V]
 have V1:(J+1,n1,ae.tok k tv)∈V:=by simp[V]
 have V2:(J+2,n2,bS row)∈V:=by simp[V]
 have e0:eU J ρ V J=ρ n:=by
  unfold eU;rw[if_neg aj,if_neg aj];have:gJ V J=some n:=by simp[gJ,V]
  rw[this]
 have e1:eU J ρ V (J+1)=ρ n1:=by
  unfold eU;rw[if_neg aj,if_neg aj];have:gJ V (J+1)=some n1:=by simp[gJ,V]
  rw[this]
 have e2:eU J ρ V (J+2)=ρ n2:=by
  unfold eU;rw[if_neg aj,if_neg aj];have:gJ V (J+2)=some n2:=by simp[gJ,V]
  rw[this]
 have hi:jg ρ<|eU J ρ V:=fun m x hm e=>by rw[yG aj hm];exact e
 have hV:zP J ρ s.h V:=by
  refine⟨fun q hq=>?_,fun q hq q' dY e=>?_,fun q hq q' dY e=>?_,fun q hq=>?_⟩
  ·rcases mem q hq with rfl|rfl|rfl
   ·exact⟨Nat.le_refl _,by show J<top;omega,x2⟩
   ·exact⟨by show J<=J+1;omega,by show J+1<top;omega,y2⟩
   ·exact⟨by show J<=J+2;omega,by show J+2<top;omega,z2⟩
  ·rcases mem q hq with rfl|rfl|rfl<;>rcases mem q' dY with rfl|rfl|rfl<;>first|rfl|(simp only at e;omega)
  ·rcases mem q hq with rfl|rfl|rfl<;>rcases mem q' dY with rfl|rfl|rfl<;>first|rfl|(exact absurd e<|by assumption)|(exact absurd e.symm<|by assumption)
  ·rcases mem q hq with rfl|rfl|rfl
   ·exact⟨_,g1,.inl ⟨rfl,rfl,fun N o' hO=>Iz hi oQ Gq (fun x e=>e1.trans e) (fun x e=>e2.trans e) hO⟩⟩
   ·exact⟨_,g2,.inr ⟨k,tv,rfl,rfl⟩⟩
   ·exact⟨_,g3,.inl ⟨rfl,rfl,fun N o' hO=>FX hi G2 eR hO⟩⟩
 obtain⟨_,cU,T⟩:=r.tk;have T:DG B ρ s.h w cU:=T;have nE:=JE aj r T dJ eD jk jq (fun n hn=>by obtain⟨_,o,p,h⟩:=a3 n hn;exact⟨o,p,h⟩) hV;obtain⟨q1,q2⟩:=eT _ _ _ _ hp;have fi:bB (⟨fR<|kn++aW (dB J k ⟨R,tv,row⟩),J+3,0,[],[]⟩:AS):=⟨Nat.zero_le _,dK⟩;have km:ay (eU J ρ V) (.ptr (some (J,0))::rest) vs.toList:=by simp only[ay,VR] at hv ⊢;obtain⟨v0,vr,q1,⟨b',N',q2,q3⟩,q4⟩:=hv;exact⟨v0,vr,q1,⟨b',N',e0.trans q2,q3⟩,AV.AU hi gG q4⟩
 have bG:=au.Fs (B:=tg B ρ w<|wH ρ cU V) (s:=⟨fR<|kn++aW (dB J k ⟨R,tv,row⟩),J+3,0,[],[]⟩) (args:=.ptr (some (J,0))::rest) (vs:=vs) hP cj cw q1 (q2 _ rfl rfl) fi nE (fun g iD=>by
  obtain⟨N,e⟩:=hg g iD;exact⟨N,by rw[CG<|Nat.lt_of_lt_of_le iD fY];exact e⟩) (fun m hm j8=>by
  have hm:J+3<=m:=hm;exact HG aj j8 fun q hq=>by rcases mem q hq with rfl|rfl|rfl<;>(show _≠m;simp only;omega)) km
 rw[sd cj cw dD];show Calls P f vs w _;refine bG.mono fun e w'=>?_;rintro ⟨B2,x',s7,rfl,⟨rfl,hL⟩,_,σ,i0,B3,i1,i2,i3⟩;have sV:∀q∈V,σ q.1=ρ q.2.1:=fun q hq=>by
  rcases mem q hq with rfl|rfl|rfl
  ·exact(i0 J aj aj).trans e0
  ·exact(i0 (J+1) aj aj).trans e1
  ·exact(i0 (J+2) aj aj).trans e2
 have j1:=hL J _ (by simp[dB];rfl);have j2:=hL (J+1) (.tok k aU.u) (by simp[dB]);have j3:=hL (J+2) (bS aU.row) (by simp[dB]);have ko:(dO aU.R (J+1)<|J+2).length<=top:=by rw[Ai (r3:=0) (r4:=0)];exact aM.1 hSl
 have FY:∀k,k<top->cC ρ σ k=ρ k:=fun k hk=>by unfold cC;rw[if_neg aj]
 have qK:jg σ<|cC ρ σ:=fun k x hk e=>by unfold cC;rw[if_pos hk];exact e
 obtain⟨f1,f2,f3,f4⟩:=I0 (a:=s.nx) (L2:=[(n,bS<|dO aU.R n1 n2),(n1,.tok k aU.u),(n2,bS aU.row)]) (h':=s1.h) r T hV i2 i3 sV (fun m z hm q=>B3 m z hm<|hi m z hm q) (fun m q hm=>by
  rcases List.mem_cons.1 hm with hm|hm
  ·cases hm;exact⟨_,V0,rfl,_,j1,.inl ⟨rfl,rfl,fun N o' hO=>Iz qK ko hSR (fun x e=>by rw[FY _ y2, ←sV _ V1];exact e) (fun x e=>by rw[FY _ z2, ←sV _ V2];exact e) hO⟩⟩
  rcases List.mem_cons.1 hm with hm|hm
  ·cases hm;exact⟨_,V1,rfl,_,j2,.inr ⟨k,_,tv,rfl,rfl,rfl⟩⟩
  rcases List.mem_cons.1 hm with hm|hm
  ·cases hm;exact⟨_,V2,rfl,_,j3,.inl ⟨rfl,rfl,fun N o' hO=>FX qK (aM.1 aik) agU hO⟩⟩
  cases hm) (fun q hq ct=>by
  rcases mem q hq with rfl|rfl|rfl
  ·exact⟨_,j1,rfl⟩
  ·cases ct
  ·exact⟨_,j3,rfl⟩) (fun m hm=>by
  have GR:s1.h=((s.h.put n<|some<|bS<|dO aU.R n1 n2).put n1<|some<|.tok k aU.u).put n2 (some<|bS aU.row):=by rw[z4,y3,x4,QE,b7,b3,a1]
  rw[GR,Tr.da _ _ _ _ z2 hm,Tr.da _ _ _ _ y2 hm,Tr.da _ _ _ _ x2 hm];by_cases c3:m=n2
  ·subst c3;exact .inl ⟨_,by simp,if_pos rfl⟩
  rw[if_neg c3];by_cases c2:m=n1
  ·subst c2;exact .inl ⟨_,by simp,if_pos rfl⟩
  rw[if_neg c2];by_cases c1:m=n
  ·subst c1;exact .inl ⟨_,by simp,if_pos rfl⟩
  rw[if_neg c1];exact .inr ⟨fun q hq=>by rcases mem q hq with rfl|rfl|rfl<;>(intro e;exact absurd e.symm<|by assumption),rfl⟩)
 refine⟨B2,rfl,cC ρ σ,?_,AV.pq qK QC i1,f3,f4⟩;have cv:s1.nx=s.nx:=by rw[z5,y4,x5,QF,b8,b4,a2]
 rw[cv];exact f1
section
variable {X:TX} {P:Program} {J kp k:Nat} {ns:List Nat} {h0:Tr ae} {kn:List<|Nat×Option ae} {L L':bO} {g:Nat} {fn:Func} {body:Code}
theorem Ia(hP:bR P)(fY:fI<=J)(dK:J+3<=top)(dJ:∀n o,n<top->h0.get n=some o->n∈ns)(eD:∀n∈ns,n<J)(jk:∀n o,(n,some o)∈kn->h0.get n=some o)(jq:∀p∈kn,p.1<top){val:VS->List AV->Option (AV×VS)}(h:dR X J P<|dk J ns h0 L)(h':dR X J P<|dk J ns h0 L')(cj:P.funcs[g]? =some fn)(cw:fn.body=some body)(dD:(fn.name == "runtime.NumGoroutine")=false)(eT:∀st rest y aU,val st rest=some (y,aU)->max fn.ntmps (rest.length+1)<=top/\∀B:aJ,qx X P J ns h0 L' B->
 au P B (J+3) (gW J k P fn.results.toList y aU) ⟨g,dt<|.ptr (some (J,0))::rest,max fn.ntmps<|rest.length+1,[.code body],[],none⟩ ⟨fR<|kn++aW (dB J k st),J+3,0,[],[]⟩):dR X J P<|dk J ns h0<|(g,.raw<|mU kp k val)::L:=by
 refine(show dR X J P (oB (dk J ns h0 L) g<|mU kp k val J ns h0) from h.mh (fun Yw _ args=>Yv.mU _ _ _ _ _ _ Yw args) fun B hB hT Yw hc hl args x s s1 ρ w vs fi r hg hf hm hv=>?_);refine aaW hP cj cw dD fY dK dJ eD jk jq (fun st rest y aU e=>?_) r hg hm hv;obtain⟨q1,q2⟩:=eT st rest y aU e;exact⟨q1,fun B' lA lB=>q2 B'<|qy hP h' (lA.trans hB)<|lB.trans hT⟩
end
theorem FZ(n:Nat)(o:Option ae)(s:AS):(fm n o s).nx=s.nx/\(fm n o s).h=s.h.put n o:=by unfold fm;cases Nat.blt n s.mark<;>exact⟨rfl,rfl⟩
theorem aaX{P:Program}{g J kp k:Nat}{h0:Tr ae}{ns:List Nat}{val:VS->List AV->Option (AV×VS)}(h:sp g=some (mU kp k val J ns h0)){a:Nat}{st aU:VS}(hk:pC J h0 ns s=true)(hr:rest.all AV.hi=true)(hd:(!Nat.beq a r1&&(!Nat.beq a r2&& !Nat.beq r1 r2))=true)(hn:(Nat.blt a (dA J h0 ns s).nx&&(Nat.blt r1 (dA J h0 ns s).nx&&Nat.blt r2 (dA J h0 ns s).nx))=true)(ht:(Nat.blt a top&&(Nat.blt r1 top&&Nat.blt r2 top))=true)(g1:(dA J h0 ns s).h.get a=some (bS<|dO st.R r1 r2))(g2:(dA J h0 ns s).h.get r1=some (.tok k st.u))(g3:(dA J h0 ns s).h.get r2=some (bS st.row))(Cc:st.R.pre.length=kp)(ho:bD kp st=true)(hv:val st rest=some (y,aU))(hy:y.hi=true)(kx:bD kp aU=true):
 aZ P sp F (n+1) (.fn g) (.ptr (some (a,0))::rest) s= .ok y (fm r2 (some<|bS aU.row)<|fm r1 (some<|.tok k aU.u)<|fm a (some<|bS<|dO aU.R r1 r2)<|aT r2<|aT r1<|aT a<|dA J h0 ns s):=by
 obtain⟨R,u,row⟩:=st;show jF P sp g (aZ P sp F n) (.ptr (some (a,0))::rest) s=_;rw[qX h];have BH:=ho;obtain⟨o1,ho⟩:=and_true.1 ho;obtain⟨o2,ho⟩:=and_true.1 ho;obtain⟨o3,o4⟩:=and_true.1 ho;obtain⟨n1,hn⟩:=and_true.1 hn;obtain⟨n2,n3⟩:=and_true.1 hn;obtain⟨t1,ht⟩:=and_true.1 ht;obtain⟨t2,t3⟩:=and_true.1 ht;have cf:a≠r1/\a≠r2/\r1≠r2:=by
  obtain⟨c1,c2⟩:=and_true.1 hd;obtain⟨c2,c3⟩:=and_true.1 c2;refine⟨fun e=>?_,fun e=>?_,fun e=>?_⟩<;>subst e
  ·rw[ey.2 rfl] at c1;cases c1
  ·rw[ey.2 rfl] at c2;cases c2
  ·rw[show Nat.beq r1 r1=true from ey.2 rfl] at c3;cases c3
 obtain⟨d1,d2,d3⟩:=cf;have ta:=(blt_eq _ _).mp t1;have tb:=(blt_eq _ _).mp t2;have tc:=(blt_eq _ _).mp t3;show(aG (rest.all AV.hi) <| (fG J h0 ns).bind fun _=>(bt a).bind fun o=>aB (rowOf o) fun cs=>aB (rootOf kp cs) fun q=>(bt q.2.1).bind fun o1=>aB (xG k o1) fun u=>(bt q.2.2).bind fun o2=>aB (rowOf o2) fun row=>
  aG (sa q.1&&row.all AV.cM) <| aG (!Nat.beq a q.2.1&&(!Nat.beq a q.2.2&& !Nat.beq q.2.1 q.2.2)) <| aB (val ⟨q.1,u,row⟩ rest) fun p=>aG (p.1.hi&&bD kp p.2) <|
  (bJ a<|some<|bS<|dO p.2.R q.2.1 q.2.2).bind fun _=>(kU q.2.1<|some<|.tok k p.2.u).bind fun _=>(bJ q.2.2<|some<|bS p.2.row).bind fun _=>M.pure p.1) s=_
 rw[hr,dy,M.bK<|w9 hk,M.bK<|lJ n1 g1];generalize dA J h0 ns s=z at*;rw[HL (by rw[Ai (r3:=0) (r4:=0)];exact aM.1 o3),bT,RJ Cc,bT];have QG:Nat.blt r1 (aT a z).nx=true:=by rw[(fL a z).2.1];exact n2
 have zF:(aT a z).h.get r1=some (.tok k u):=by rw[(fL a z).1];exact g2
 rw[M.bK<|lJ QG zF,MA,bT];have QH:Nat.blt r2 (aT r1<|aT a z).nx=true:=by rw[(fL r1 _).2.1,(fL a z).2.1];exact n3
 have QI:(aT r1<|aT a z).h.get r2=some (bS row):=by rw[(fL r1 _).1,(fL a z).1];exact g3
 rw[M.bK<|lJ QH QI,HL<|aM.1 o4,bT];show(aG (sa R&&row.all AV.cM) <| aG (!Nat.beq a r1&&(!Nat.beq a r2&& !Nat.beq r1 r2)) <| aB (val ⟨R,u,row⟩ rest) fun p=>aG (p.1.hi&&bD kp p.2) <| (bJ a<|some<|bS<|dO p.2.R r1 r2).bind fun _=>(kU r1<|some<|.tok k p.2.u).bind fun _=>(bJ r2<|some<|bS p.2.row).bind fun _=>M.pure p.1) (aT r2<|aT r1<|aT a z)=_;rw[show sa R=true from o1,show row.all AV.cM=true from o2,hd,hv];show(aG true <| aG true <| aB (some (y,aU)) fun p=>aG (p.1.hi&&bD kp p.2) <| (bJ a<|some<|bS<|dO p.2.R r1 r2).bind fun _=>(kU r1<|some<|.tok k p.2.u).bind fun _=>(bJ r2<|some<|bS p.2.row).bind fun _=>M.pure p.1) (aT r2<|aT r1<|aT a z)=_;rw[dy,dy,bT];show(aG (y.hi&&bD kp aU) <| (bJ a<|some<|bS<|dO aU.R r1 r2).bind fun _=>(kU r1<|some<|.tok k aU.u).bind fun _=>(bJ r2<|some<|bS aU.row).bind fun _=>M.pure y) (aT r2<|aT r1<|aT a z)=_;rw[hy,kx];show(aG true <| (bJ a<|some<|bS<|dO aU.R r1 r2).bind fun _=>(kU r1<|some<|.tok k aU.u).bind fun _=>(bJ r2<|some<|bS aU.row).bind fun _=>M.pure y) (aT r2<|aT r1<|aT a z)=_;rw[dy];have zz:(aT r2<|aT r1<|aT a z).nx=z.nx/\(aT r2<|aT r1<|aT a z).h=z.h:=⟨by rw[(fL r2 _).2.1,(fL r1 _).2.1,(fL a z).2.1],by rw[(fL r2 _).1,(fL r1 _).1,(fL a z).1]⟩;generalize aT r2 (aT r1<|aT a z)=v at*;rw[M.bK<|wN (by rw[zz.1];exact n1) (by rw[zz.2];exact g1) rfl t1];have v1:(fm a (some<|bS<|dO aU.R r1 r2) v).h.get r1=some (.tok k u):=by rw[(FZ _ _ _).2,Tr.da _ _ _ _ ta tb,if_neg<|Ne.symm d1,zz.2];exact g2
 have v2:(fm a (some<|bS<|dO aU.R r1 r2) v).h.get r2=some (bS row):=by rw[(FZ _ _ _).2,Tr.da _ _ _ _ ta tc,if_neg<|Ne.symm d2,zz.2];exact g3
 have v3:(fm a (some<|bS<|dO aU.R r1 r2) v).nx=z.nx:=by rw[(FZ _ _ _).1,zz.1]
 generalize fm a (some<|bS<|dO aU.R r1 r2) v=v' at*;rw[M.bK<|NA (by rw[v3];exact n2) v1 rfl t2];rw[M.bK<|wN (by rw[(FZ _ _ _).1,v3];exact n3) (by rw[(FZ _ _ _).2,Tr.da _ _ _ _ tb tc,if_neg<|Ne.symm d3];exact v2) rfl t3];rfl
noncomputable section
def F0(J:Nat)(h0:Tr ae)(ns:List Nat)(k a r1 r2:Nat)(st:VS)(s:AS):Prop:=pC J h0 ns s=true/\(Nat.blt a (dA J h0 ns s).nx&&(Nat.blt r1 (dA J h0 ns s).nx&&Nat.blt r2 (dA J h0 ns s).nx))=true/\(dA J h0 ns s).h.get a=some (bS<|dO st.R r1 r2)/\(dA J h0 ns s).h.get r1=some (.tok k st.u)/\(dA J h0 ns s).h.get r2=some (bS st.row)
def JM(J:Nat)(h0:Tr ae)(ns:List Nat)(k a r1 r2:Nat)(aU:VS)(s:AS):AS:=fm r2 (some<|bS aU.row)<|fm r1 (some<|.tok k aU.u)<|fm a (some<|bS<|dO aU.R r1 r2)<|aT r2<|aT r1<|aT a<|dA J h0 ns s
def V4(J:Nat)(h0:Tr ae)(ns:List Nat)(a r1 r2:Nat)(s:AS):AS:=aT r2<|aT r1<|aT a<|dA J h0 ns s
end
theorem afi{a b c:ae}{T:Prop}(t:T):(true=true/\true=true/\some a=some a/\some b=some b/\some c=some c)/\T:=⟨⟨rfl,rfl,rfl,rfl,rfl⟩,t⟩
theorem NN{P:Program}{g J kp k:Nat}{h0:Tr ae}{ns:List Nat}{val:VS->List AV->Option (AV×VS)}(h:sp g=some (mU kp k val J ns h0)){a:Nat}{st aU:VS}(hr:rest.all AV.hi=true)(hd:(!Nat.beq a r1&&(!Nat.beq a r2&& !Nat.beq r1 r2))=true)(ht:(Nat.blt a top&&(Nat.blt r1 top&&Nat.blt r2 top))=true)(Cc:st.R.pre.length=kp)(ho:bD kp st=true)(hv:val st rest=some (y,aU))(hy:y.hi=true)(kx:bD kp aU=true):
 ∀s,F0 J h0 ns k a r1 r2 st s->aZ P sp F (n+1) (.fn g) (.ptr (some (a,0))::rest) s= .ok y (JM J h0 ns k a r1 r2 aU s):=
 fun _ q=>aaX h q.1 hr hd q.2.1 ht q.2.2.1 q.2.2.2.1 q.2.2.2.2 Cc ho hv hy kx
end Go.Rn
namespace Go.Rn
open Go.RowKit
variable {y:AV} {st:VS} {sp:Sp} {s:AS} {rest:List AV} {r2 r1 n a:Nat} {F:Nat->Option (List AV)}
noncomputable section
def mV(kp k:Nat)(val:VS->List AV->Option AV)(J:Nat)(ns:List Nat)(h0:Tr ae):aK->List AV->M AV:=fun _ args=>match args with
 | .ptr (some (n,0))::rest=>aG (rest.all AV.hi) <| (fG J h0 ns).bind fun _=>(bt n).bind fun o=>aB (rowOf o) fun cs=>aB (rootOf kp cs) fun q=>(bt q.2.1).bind fun o1=>aB (xG k o1) fun u=>(bt q.2.2).bind fun o2=>aB (rowOf o2) fun row=>aG (sa q.1&&row.all AV.cM) <| aG (!Nat.beq n q.2.1&&(!Nat.beq n q.2.2&& !Nat.beq q.2.1 q.2.2)) <| aB (val ⟨q.1,u,row⟩ rest) fun y=>aG (y.hi&&(Nat.blt n top&&(Nat.blt q.2.1 top&&Nat.blt q.2.2 top))) <| M.pure y
 |_=>fail
end
theorem Yv.mV(kp k:Nat)(val:VS->List AV->Option AV)(J:Nat)(ns:List Nat)(h0:Tr ae)(Yw:aK)(args:List AV):Yv<|mV kp k val J ns h0 Yw args:=by
 unfold Rn.mV;split
 ·exact Yv.aG fun _=>Yv.bind (Yv.fG J h0 ns) fun _=>Yv.bind (Yv.bt _) fun _=>Yv.aB fun _ _=>Yv.aB fun _ _=>Yv.bind (Yv.bt _) fun _=>Yv.aB fun _ _=>Yv.bind (Yv.bt _) fun _=>Yv.aB fun _ _=>Yv.aG fun _=>Yv.aG fun _=>Yv.aB fun _ _=>Yv.aG fun _=>Yv.pure _
 ·exact Yv.fail
theorem aaY{P:Program}{B:aJ}{f J kp k:Nat}{ns:List Nat}{h0:Tr ae}{kn:List<|Nat×Option ae}{val:VS->List AV->Option AV}{fn:Func}{body:Code}{ρ:Ren}{w:World}{s1:AS}(hP:bR P)(cj:P.funcs[f]? =some fn)(cw:fn.body=some body)(dD:(fn.name == "runtime.NumGoroutine")=false)(fY:fI<=J)(dK:J+3<=top)(dJ:∀n o,n<top->h0.get n=some o->n∈ns)(eD:∀n∈ns,n<J)(jk:∀n o,(n,some o)∈kn->h0.get n=some o)(jq:∀p∈kn,p.1<top)(eT:∀st rest y,val st rest=some y->bD kp st=true->max fn.ntmps (rest.length+1)<=top/\∀B':aJ,B'.F=B.F->B'.inv=B.inv->
 au P B' (J+3) (gW J k P fn.results.toList y st) ⟨f,dt<|.ptr (some (J,0))::rest,max fn.ntmps<|rest.length+1,[.code body],[],none⟩ ⟨fR<|kn++aW (dB J k st),J+3,0,[],[]⟩){Yw:aK}{args:List AV}{x:AV}{vs:Array Value}(r:Rel B ρ s.h w)(hg:gC ρ)(h:mV kp k val J ns h0 Yw args s= .ok x s1)(hv:ay ρ args vs.toList):jf P ((callFunc f vs).run P w)<|kh B ρ s s1 w x:=by
 unfold mV at h;split at h
 case h_2=>cases h
 rename_i n rest;obtain⟨gG,h⟩:=cV h;obtain⟨u,s2,h2,h⟩:=M.aN h;obtain⟨a1,a2,a3⟩:=uw h2;obtain⟨o,s3,k1,h⟩:=M.aN h;obtain⟨cs,m1,h⟩:=bu h;obtain⟨q,m2,h⟩:=bu h;obtain⟨o1,s4,k2,h⟩:=M.aN h;obtain⟨tv,m3,h⟩:=bu h;obtain⟨o2,s5,k3,h⟩:=M.aN h;obtain⟨row,m4,h⟩:=bu h;obtain⟨eN,h⟩:=cV h;obtain⟨Gq,eR⟩:=and_true.1 eN;obtain⟨cf,h⟩:=cV h;obtain⟨y,hp,h⟩:=bu h;obtain⟨lu,h⟩:=cV h;obtain⟨QC,lu⟩:=and_true.1 lu;obtain⟨x2,lu⟩:=and_true.1 lu;obtain⟨y2,z2⟩:=and_true.1 lu;have x2:=(blt_eq _ _).mp x2;have y2:=(blt_eq _ _).mp y2;have z2:=(blt_eq _ _).mp z2;obtain⟨rfl,rfl⟩:=bA h;obtain⟨R,n1,n2⟩:=q;have DH:n≠n1/\n≠n2/\n1≠n2:=by
  obtain⟨c1,c2⟩:=and_true.1 cf;obtain⟨c2,c3⟩:=and_true.1 c2;refine⟨fun e=>?_,fun e=>?_,fun e=>?_⟩<;>subst e
  ·rw[ey.2 rfl] at c1;cases c1
  ·rw[ey.2 rfl] at c2;cases c2
  ·rw[show Nat.beq n1 n1=true from ey.2 rfl] at c3;cases c3
 obtain⟨d1,d2,d3⟩:=DH;obtain⟨rfl,oQ⟩:=HK m1;have qF:=Se m2;subst qF;have G1:=Mz m3;subst G1;obtain⟨rfl,G2⟩:=HK m4;obtain⟨b1,b2,b3,b4⟩:=fU k1;obtain⟨b5,b6,b7,b8⟩:=fU k2;obtain⟨b9,QD,QE,QF⟩:=fU k3;have g1:s.h.get n=some (bS<|dO R n1 n2):=by rw[←a1];exact b2
 have g2:s.h.get n1=some (.tok k tv):=by rw[←a1, ←b3];exact b6
 have g3:s.h.get n2=some (bS row):=by rw[←a1, ←b3, ←b7];exact QD
 let V:Vw:=[(J,n,bS<|dO R (J+1)<|J+2),(J+1,n1,.tok k tv),(J+2,n2,bS row)];have mem:∀q∈V,q=(J,n,bS<|dO R (J+1)<|J+2)\/q=(J+1,n1,.tok k tv)\/q=(J+2,n2,bS row):=fun q hq=>by simpa[V] using hq
 have V0:(J,n,bS<|dO R (J+1)<|J+2)∈V:=by simp[V]
 have V1:(J+1,n1,ae.tok k tv)∈V:=by simp[V]
 have V2:(J+2,n2,bS row)∈V:=by simp[V]
 have e0:eU J ρ V J=ρ n:=by
  unfold eU;rw[if_neg aj,if_neg aj];have:gJ V J=some n:=by simp[gJ,V]
  rw[this]
 have e1:eU J ρ V (J+1)=ρ n1:=by
  unfold eU;rw[if_neg aj,if_neg aj];have:gJ V (J+1)=some n1:=by simp[gJ,V]
  rw[this]
 have e2:eU J ρ V (J+2)=ρ n2:=by
  unfold eU;rw[if_neg aj,if_neg aj];have:gJ V (J+2)=some n2:=by simp[gJ,V]
  rw[this]
 have hi:jg ρ<|eU J ρ V:=fun m x hm e=>by rw[yG aj hm];exact e
 have hV:zP J ρ s.h V:=by
  refine⟨fun q hq=>?_,fun q hq q' dY e=>?_,fun q hq q' dY e=>?_,fun q hq=>?_⟩
  ·rcases mem q hq with rfl|rfl|rfl
   ·exact⟨Nat.le_refl _,by show J<top;omega,x2⟩
   ·exact⟨by show J<=J+1;omega,by show J+1<top;omega,y2⟩
   ·exact⟨by show J<=J+2;omega,by show J+2<top;omega,z2⟩
  ·rcases mem q hq with rfl|rfl|rfl<;>rcases mem q' dY with rfl|rfl|rfl<;>first|rfl|(simp only at e;omega)
  ·rcases mem q hq with rfl|rfl|rfl<;>rcases mem q' dY with rfl|rfl|rfl<;>first|rfl|(exact absurd e<|by assumption)|(exact absurd e.symm<|by assumption)
  ·rcases mem q hq with rfl|rfl|rfl
   ·exact⟨_,g1,.inl ⟨rfl,rfl,fun N o' hO=>Iz hi oQ Gq (fun x e=>e1.trans e) (fun x e=>e2.trans e) hO⟩⟩
   ·exact⟨_,g2,.inr ⟨k,tv,rfl,rfl⟩⟩
   ·exact⟨_,g3,.inl ⟨rfl,rfl,fun N o' hO=>FX hi G2 eR hO⟩⟩
 obtain⟨_,cU,T⟩:=r.tk;have T:DG B ρ s.h w cU:=T;have nE:=JE aj r T dJ eD jk jq (fun n hn=>by obtain⟨_,o,p,h⟩:=a3 n hn;exact⟨o,p,h⟩) hV;have hS:bD kp ⟨R,tv,row⟩=true:=and_true.2 ⟨Gq,and_true.2 ⟨eR,and_true.2 ⟨aM.2 (by rw[Ai (r3:=n1) (r4:=n2)];exact oQ),aM.2 G2⟩⟩⟩;obtain⟨q1,q2⟩:=eT _ _ _ hp hS;have fi:bB (⟨fR<|kn++aW (dB J k ⟨R,tv,row⟩),J+3,0,[],[]⟩:AS):=⟨Nat.zero_le _,dK⟩;have km:ay (eU J ρ V) (.ptr (some (J,0))::rest) vs.toList:=by simp only[ay,VR] at hv ⊢;obtain⟨v0,vr,q1,⟨b',N',q2,q3⟩,q4⟩:=hv;exact⟨v0,vr,q1,⟨b',N',e0.trans q2,q3⟩,AV.AU hi gG q4⟩
 have bG:=au.Fs (B:=tg B ρ w<|wH ρ cU V) (s:=⟨fR<|kn++aW (dB J k ⟨R,tv,row⟩),J+3,0,[],[]⟩) (args:=.ptr (some (J,0))::rest) (vs:=vs) hP cj cw q1 (q2 _ rfl rfl) fi nE (fun g iD=>by
  obtain⟨N,e⟩:=hg g iD;exact⟨N,by rw[CG<|Nat.lt_of_lt_of_le iD fY];exact e⟩) (fun m hm j8=>by
  have hm:J+3<=m:=hm;exact HG aj j8 fun q hq=>by rcases mem q hq with rfl|rfl|rfl<;>(show _≠m;simp only;omega)) km
 rw[sd cj cw dD];show Calls P f vs w _;refine bG.mono fun e w'=>?_;rintro ⟨B2,x',s7,rfl,⟨rfl,hL⟩,_,σ,i0,B3,i1,i2,i3⟩;have sV:∀q∈V,σ q.1=ρ q.2.1:=fun q hq=>by
  rcases mem q hq with rfl|rfl|rfl
  ·exact(i0 J aj aj).trans e0
  ·exact(i0 (J+1) aj aj).trans e1
  ·exact(i0 (J+2) aj aj).trans e2
 have j1:=hL J (bS<|dO R (J+1)<|J+2) (by simp[dB]);have j2:=hL (J+1) (.tok k tv) (by simp[dB]);have j3:=hL (J+2) (bS row) (by simp[dB]);have ko:(dO R (J+1)<|J+2).length<=top:=by rw[Ai (r3:=n1) (r4:=n2)];exact oQ
 have FY:∀k,k<top->cC ρ σ k=ρ k:=fun k hk=>by unfold cC;rw[if_neg aj]
 have qK:jg σ<|cC ρ σ:=fun k x hk e=>by unfold cC;rw[if_pos hk];exact e
 have hh1:s1.h=s.h:=by rw[QE,b7,b3,a1]
 obtain⟨f1,f2,f3,f4⟩:=I0 (a:=s.nx) (L2:=[(n,bS<|dO R n1 n2),(n1,.tok k tv),(n2,bS row)]) (h':=s1.h) r T hV i2 i3 sV (fun m z hm q=>B3 m z hm<|hi m z hm q) (fun m q hm=>by
  rcases List.mem_cons.1 hm with hm|hm
  ·cases hm;exact⟨_,V0,rfl,_,j1,.inl ⟨rfl,rfl,fun N o' hO=>Iz qK ko Gq (fun x e=>by rw[FY _ y2, ←sV _ V1];exact e) (fun x e=>by rw[FY _ z2, ←sV _ V2];exact e) hO⟩⟩
  rcases List.mem_cons.1 hm with hm|hm
  ·cases hm;exact⟨_,V1,rfl,_,j2,.inr ⟨k,_,tv,rfl,rfl,rfl⟩⟩
  rcases List.mem_cons.1 hm with hm|hm
  ·cases hm;exact⟨_,V2,rfl,_,j3,.inl ⟨rfl,rfl,fun N o' hO=>FX qK G2 eR hO⟩⟩
  cases hm) (fun q hq ct=>by
  rcases mem q hq with rfl|rfl|rfl
  ·exact⟨_,j1,rfl⟩
  ·cases ct
  ·exact⟨_,j3,rfl⟩) (fun m hm=>by
  rw[hh1];by_cases c3:m=n2
  ·subst c3;exact .inl ⟨_,by simp,g3⟩
  by_cases c2:m=n1
  ·subst c2;exact .inl ⟨_,by simp,g2⟩
  by_cases c1:m=n
  ·subst c1;exact .inl ⟨_,by simp,g1⟩
  exact .inr ⟨fun q hq=>by rcases mem q hq with rfl|rfl|rfl<;>(intro e;exact absurd e.symm<|by assumption),rfl⟩)
 refine⟨B2,rfl,cC ρ σ,?_,AV.pq qK QC i1,f3,f4⟩;have cv:s1.nx=s.nx:=by rw[QF,b8,b4,a2]
 rw[cv];exact f1
section
variable {X:TX} {P:Program} {J kp k:Nat} {ns:List Nat} {h0:Tr ae} {kn:List<|Nat×Option ae} {L L':bO} {g:Nat} {fn:Func} {body:Code}
theorem EL(hP:bR P)(fY:fI<=J)(dK:J+3<=top)(dJ:∀n o,n<top->h0.get n=some o->n∈ns)(eD:∀n∈ns,n<J)(jk:∀n o,(n,some o)∈kn->h0.get n=some o)(jq:∀p∈kn,p.1<top){val:VS->List AV->Option AV}(h:dR X J P<|dk J ns h0 L)(h':dR X J P<|dk J ns h0 L')(cj:P.funcs[g]? =some fn)(cw:fn.body=some body)(dD:(fn.name == "runtime.NumGoroutine")=false)(eT:∀st rest y,val st rest=some y->bD kp st=true->max fn.ntmps (rest.length+1)<=top/\∀B:aJ,qx X P J ns h0 L' B->
 au P B (J+3) (gW J k P fn.results.toList y st) ⟨g,dt<|.ptr (some (J,0))::rest,max fn.ntmps<|rest.length+1,[.code body],[],none⟩ ⟨fR<|kn++aW (dB J k st),J+3,0,[],[]⟩):dR X J P<|dk J ns h0<|(g,.raw<|mV kp k val)::L:=by
 refine(show dR X J P (oB (dk J ns h0 L) g<|mV kp k val J ns h0) from h.mh (fun Yw _ args=>Yv.mV _ _ _ _ _ _ Yw args) fun B hB hT Yw hc hl args x s s1 ρ w vs fi r hg hf hm hv=>?_);refine aaY hP cj cw dD fY dK dJ eD jk jq (fun st rest y e eo=>?_) r hg hm hv;obtain⟨q1,q2⟩:=eT st rest y e eo;exact⟨q1,fun B' lA lB=>q2 B'<|qy hP h' (lA.trans hB)<|lB.trans hT⟩
end
theorem Z7{P:Program}{g J kp k:Nat}{h0:Tr ae}{ns:List Nat}{val:VS->List AV->Option AV}(h:sp g=some (mV kp k val J ns h0))(hk:pC J h0 ns s=true)(hr:rest.all AV.hi=true)(hd:(!Nat.beq a r1&&(!Nat.beq a r2&& !Nat.beq r1 r2))=true)(hn:(Nat.blt a (dA J h0 ns s).nx&&(Nat.blt r1 (dA J h0 ns s).nx&&Nat.blt r2 (dA J h0 ns s).nx))=true)(ht:(Nat.blt a top&&(Nat.blt r1 top&&Nat.blt r2 top))=true)(g1:(dA J h0 ns s).h.get a=some (bS<|dO st.R r1 r2))(g2:(dA J h0 ns s).h.get r1=some (.tok k st.u))(g3:(dA J h0 ns s).h.get r2=some (bS st.row))(Cc:st.R.pre.length=kp)(ho:bD kp st=true)(hv:val st rest=some y)(hy:y.hi=true):
 aZ P sp F (n+1) (.fn g) (.ptr (some (a,0))::rest) s= .ok y (aT r2<|aT r1<|aT a<|dA J h0 ns s):=by
 obtain⟨R,u,row⟩:=st;show jF P sp g (aZ P sp F n) (.ptr (some (a,0))::rest) s=_;rw[qX h];have BH:=ho;obtain⟨o1,ho⟩:=and_true.1 ho;obtain⟨o2,ho⟩:=and_true.1 ho;obtain⟨o3,o4⟩:=and_true.1 ho;obtain⟨n1,hn⟩:=and_true.1 hn;obtain⟨n2,n3⟩:=and_true.1 hn;obtain⟨t1,ht⟩:=and_true.1 ht;obtain⟨t2,t3⟩:=and_true.1 ht;have cf:a≠r1/\a≠r2/\r1≠r2:=by
  obtain⟨c1,c2⟩:=and_true.1 hd;obtain⟨c2,c3⟩:=and_true.1 c2;refine⟨fun e=>?_,fun e=>?_,fun e=>?_⟩<;>subst e
  ·rw[ey.2 rfl] at c1;cases c1
  ·rw[ey.2 rfl] at c2;cases c2
  ·rw[show Nat.beq r1 r1=true from ey.2 rfl] at c3;cases c3
 obtain⟨d1,d2,d3⟩:=cf;have ta:=(blt_eq _ _).mp t1;have tb:=(blt_eq _ _).mp t2;have tc:=(blt_eq _ _).mp t3;show(aG (rest.all AV.hi) <| (fG J h0 ns).bind fun _=>(bt a).bind fun o=>aB (rowOf o) fun cs=>aB (rootOf kp cs) fun q=>(bt q.2.1).bind fun o1=>aB (xG k o1) fun u=>(bt q.2.2).bind fun o2=>aB (rowOf o2) fun row=>aG (sa q.1&&row.all AV.cM) <| aG (!Nat.beq a q.2.1&&(!Nat.beq a q.2.2&& !Nat.beq q.2.1 q.2.2)) <| aB (val ⟨q.1,u,row⟩ rest) fun y=>aG (y.hi&&(Nat.blt a top&&(Nat.blt q.2.1 top&&Nat.blt q.2.2 top))) <| M.pure y) s=_;rw[hr,dy,M.bK<|w9 hk,M.bK<|lJ n1 g1];generalize dA J h0 ns s=z at*;rw[HL (by rw[Ai (r3:=0) (r4:=0)];exact aM.1 o3),bT,RJ Cc,bT];have QG:Nat.blt r1 (aT a z).nx=true:=by rw[(fL a z).2.1];exact n2
 have zF:(aT a z).h.get r1=some (.tok k u):=by rw[(fL a z).1];exact g2
 rw[M.bK<|lJ QG zF,MA,bT];have QH:Nat.blt r2 (aT r1<|aT a z).nx=true:=by rw[(fL r1 _).2.1,(fL a z).2.1];exact n3
 have QI:(aT r1<|aT a z).h.get r2=some (bS row):=by rw[(fL r1 _).1,(fL a z).1];exact g3
 rw[M.bK<|lJ QH QI,HL<|aM.1 o4,bT];show(aG (sa R&&row.all AV.cM) <| aG (!Nat.beq a r1&&(!Nat.beq a r2&& !Nat.beq r1 r2)) <| aB (val ⟨R,u,row⟩ rest) fun y=>aG (y.hi&&(Nat.blt a top&&(Nat.blt r1 top&&Nat.blt r2 top))) <| M.pure y) (aT r2<|aT r1<|aT a z)=_;rw[show sa R=true from o1,show row.all AV.cM=true from o2,hd,hv];show(aG true <| aG true <| aB (some y) fun y=>aG (y.hi&&(Nat.blt a top&&(Nat.blt r1 top&&Nat.blt r2 top))) <| M.pure y) (aT r2<|aT r1<|aT a z)=_;rw[dy,dy,bT,hy,t1,t2,t3];rfl
theorem ab9{P:Program}{g J kp k:Nat}{h0:Tr ae}{ns:List Nat}{val:VS->List AV->Option AV}(h:sp g=some (mV kp k val J ns h0))(hr:rest.all AV.hi=true)(hd:(!Nat.beq a r1&&(!Nat.beq a r2&& !Nat.beq r1 r2))=true)(ht:(Nat.blt a top&&(Nat.blt r1 top&&Nat.blt r2 top))=true)(Cc:st.R.pre.length=kp)(ho:bD kp st=true)(hv:val st rest=some y)(hy:y.hi=true):
 ∀s,F0 J h0 ns k a r1 r2 st s->aZ P sp F (n+1) (.fn g) (.ptr (some (a,0))::rest) s= .ok y (V4 J h0 ns a r1 r2 s):=
 fun _ q=>Z7 h q.1 hr hd q.2.1 ht q.2.2.1 q.2.2.2.1 q.2.2.2.2 Cc ho hv hy
end Go.Rn
namespace Go.Rn
open Go.RowKit
variable {rest:List AV} {n:Nat}
noncomputable section
def oK(k:Nat)(val:AV->List AV->Option AV)(J:Nat)(ns:List Nat)(h0:Tr ae):aK->List AV->M AV:=fun _ args=>match args with
 | .ptr (some (n,0))::rest=>aG (rest.all AV.hi&&Nat.ble J n) <| (fG J h0 ns).bind fun _=>(bt n).bind fun o=>aB (xG k o) fun v=>aB (val v rest) fun y=>aG (y.hi&&Nat.blt n top) <| M.pure y
 |_=>fail
end
theorem Yv.oK(k:Nat)(val:AV->List AV->Option AV)(J:Nat)(ns:List Nat)(h0:Tr ae)(Yw:aK)(args:List AV):Yv<|oK k val J ns h0 Yw args:=by
 unfold Rn.oK;split
 ·exact Yv.aG fun _=>Yv.bind (Yv.fG J h0 ns) fun _=>Yv.bind (Yv.bt _) fun _=>Yv.aB fun _ _=>Yv.aB fun _ _=>Yv.aG fun _=>Yv.pure _
 ·exact Yv.fail
noncomputable def Dr(val:AV->List AV->Option AV)(v:AV)(rest:List AV):Option<|AV×AV:=(val v rest).map fun y=>(y,v)
theorem aa4{J k:Nat}{ns:List Nat}{h0:Tr ae}{val:AV->List AV->Option AV}{Yw:aK}{x:AV}{s s1:AS}(h:oK k val J ns h0 Yw (.ptr (some (n,0))::rest) s= .ok x s1):
 ∃Ec,xR J ns h0 k (Dr val) Yw (.ptr (some (n,0))::rest) s= .ok x Ec/\Ec.nx=s1.nx/\∀m,m<top->s1.h.get m=Ec.h.get m:=by
 unfold oK at h;obtain⟨hh,h1⟩:=cV h;obtain⟨u,s2,h2,h3⟩:=M.aN h1;obtain⟨o,s3,h4,h5⟩:=M.aN h3;obtain⟨v,h6,h7⟩:=bu h5;obtain⟨y,h8,h9⟩:=bu h7;obtain⟨gE,tY⟩:=cV h9;obtain⟨hy,ht⟩:=and_true.1 gE;obtain⟨rfl,rfl⟩:=bA tY;have ho:=Mz h6;subst ho;obtain⟨b1,b2,b3,b4⟩:=fU h4;have hg:s1.h.get n=some (.tok k v):=by rw[b3];exact b2
 have hn:Nat.blt n s1.nx=true:=(blt_eq _ _).mpr (by rw[b4];exact b1);have hw:=NA (p:=.tok k v) (o:=some<|.tok k v) hn hg rfl ht;refine⟨fm n (some<|.tok k v) s1,?_,?_,fun m hm=>?_⟩
 ·show(aG (rest.all AV.hi&&Nat.ble J n) <| (fG J h0 ns).bind fun _=>(bt n).bind fun o=>match o with
   | .tok k' v=>aG (Nat.beq k k') <| aB (Dr val v rest) fun p=>aG p.1.hi <| (kU n<|some<|.tok k p.2).bind fun _=>M.pure p.1
   |_=>fail) s=_
  rw[hh,dy,M.bK h2,M.bK h4];show(aG (Nat.beq k k) <| aB (Dr val v rest) fun p=>aG p.1.hi <| (kU n<|some<|.tok k p.2).bind fun _=>M.pure p.1) s1=_;rw[ey.2 rfl,dy];unfold Dr;rw[h8];show(aG x.hi <| (kU n<|some<|.tok k v).bind fun _=>M.pure x) s1=_;rw[hy,dy,M.bK hw];rfl
 ·unfold fm;cases Nat.blt n s1.mark<;>rfl
 ·have e:(fm n (some<|.tok k v) s1).h=s1.h.put n (some<|.tok k v):=by unfold fm;cases Nat.blt n s1.mark<;>rfl
  rw[e,Tr.lH _ _ _ _<|(blt_eq _ _).mp ht];by_cases q:m=n
  ·rw[if_pos q,q,hg]
  ·rw[if_neg q]
section
variable {X:TX} {P:Program} {J k:Nat} {ns:List Nat} {h0:Tr ae} {kn:List<|Nat×Option ae} {L L':bO} {g:Nat} {fn:Func} {body:Code}
theorem Ic(hX:ye X J)(hP:bR P)(fY:fI<=J)(dK:J<=top)(dJ:∀n o,n<top->h0.get n=some o->n∈ns)(eD:∀n∈ns,n<J)(jk:∀n o,(n,some o)∈kn->h0.get n=some o)(jq:∀p∈kn,p.1<top){val:AV->List AV->Option AV}(h:dR X J P<|dk J ns h0 L)(h':dR X J P<|dk J ns h0 L')(cj:P.funcs[g]? =some fn)(cw:fn.body=some body)(dD:(fn.name == "runtime.NumGoroutine")=false)(eT:∀v rest y,val v rest=some y->max fn.ntmps (rest.length+1)<=top/\∀L,X k v L->∃nx,J<nx/\nx<=top/\(∀p∈L,p.1<nx)/\∀B:aJ,qx X P J ns h0 L' B->
 au P B (J+1) (iQ X P fn.results.toList k y v) ⟨g,dt<|.ptr (some (J,0))::rest,max fn.ntmps<|rest.length+1,[.code body],[],none⟩ ⟨fR<|kn++aW L,nx,0,[],[]⟩):dR X J P<|dk J ns h0<|(g,.raw<|oK k val)::L:=by
 refine(show dR X J P (oB (dk J ns h0 L) g<|oK k val J ns h0) from h.mh (fun Yw _ args=>Yv.oK _ _ _ _ _ Yw args) fun B hB hT Yw hc hl args x s s1 ρ w vs fi r hg hf hm hv=>?_);have ha:∃n rest,args= .ptr (some (n,0))::rest:=by
  unfold oK at hm;split at hm
  ·exact⟨_,_,rfl⟩
  ·cases hm
 obtain⟨n,rest,rfl⟩:=ha;obtain⟨Ec,e1,e2,e3⟩:=aa4 hm;have key:=Tx (val:=Dr val) hX hT hP cj cw dD fY dK dJ eD jk jq (fun v rest y v' e=>by
  unfold Dr at e;cases q:val v rest with
  |none=>rw[q] at e;cases e
  |some y1=>
   rw[q] at e;injection e with e;injection e with e1 e2
   subst e1;subst e2;obtain⟨q1,q2⟩:=eT v rest y1 q;refine⟨q1,fun L1 hL=>?_⟩;obtain⟨nx,n1,n2,n3,q3⟩:=q2 L1 hL;exact⟨nx,n1,n2,n3,fun B' lA lB=>q3 B'<|qy hP h' (lA.trans hB)<|lB.trans hT⟩) r hg e1 hv
 rw[sd cj cw dD] at key ⊢;refine Calls.mono key fun e w'=>?_;rintro ⟨y,rfl,σ,c1,c2,c3,c4⟩;exact⟨y,rfl,σ,by rw[←e2];exact c1,c2,c3.congr e3,c4⟩
end
noncomputable section
def WX(J:Nat)(h0:Tr ae)(ns:List Nat)(k n:Nat)(v:AV)(s:AS):Prop:=pC J h0 ns s=true/\Nat.blt n (dA J h0 ns s).nx=true/\(dA J h0 ns s).h.get n=some (.tok k v)
def WY(J:Nat)(h0:Tr ae)(ns:List Nat)(n:Nat)(s:AS):AS:=aT n<|dA J h0 ns s
end
theorem adX{P:Program}{F:Nat->Option (List AV)}{sp:Sp}{g m J k:Nat}{h0:Tr ae}{ns:List Nat}{val:AV->List AV->Option AV}(h:sp g=some (oK k val J ns h0)){v y:AV}(hr:(rest.all AV.hi&&Nat.ble J n)=true)(ht:Nat.blt n top=true)(hv:val v rest=some y)(hy:y.hi=true):
 ∀s,WX J h0 ns k n v s->aZ P sp F (m+1) (.fn g) (.ptr (some (n,0))::rest) s= .ok y (WY J h0 ns n s):=fun s q=>by
 obtain⟨q1,q2,q3⟩:=q;show jF P sp g (aZ P sp F m) (.ptr (some (n,0))::rest) s=_;rw[qX h];show(aG (rest.all AV.hi&&Nat.ble J n) <| (fG J h0 ns).bind fun _=>(bt n).bind fun o=>aB (xG k o) fun v=>aB (val v rest) fun y=>aG (y.hi&&Nat.blt n top) <| M.pure y) s=_;rw[hr,dy,M.bK<|w9 q1,M.bK<|lJ q2 q3,MA,bT,hv,bT,hy,ht];rfl
end Go.Rn
namespace Go.Rn
open Go.RowKit
def Fix(J:Nat)(os:List<|Nat×Option ae)(o:ae):Prop:=(o.jO=true/\∀r:Nat->Nat,(∀k,k<J->r k=k)->(∀k,top<=k->r k=k)->eZ [] r o o)\/o= .iw\/∃m es ex left cur,o= .iter m es ex left cur/\m<J/\(m,some .iw)∈os/\qv es/\qv left/\∀x,cur=some x->qv [x]
theorem wF:∀l:List<|Nat×ae,aW l=l.map fun p=>(p.1,some p.2)
 |[]=>rfl
 |p::l=>congrArg _<|wF l
theorem UN{m:Nat}{o:ae}:∀{l:List<|Nat×Option ae},(∀p∈l,p.1<top)->(∀p∈l,∀q∈l,p.1=q.1->p=q)->(m,some o)∈l->(fR l).get m=some o
 |[],_,_,h=>by cases h
 |p::l,h1,h2,h3=>by
  show((fR l).put p.1 p.2).get m=_;have hm:m<top:=h1 _ h3;rw[Tr.da _ _ _ _ (h1 p List.mem_cons_self) hm];by_cases e:m=p.1
  ·rw[if_pos e];have:=h2 _ h3 p List.mem_cons_self e;rw[←this]
  ·rw[if_neg e];rcases List.mem_cons.1 h3 with rfl|h3
   ·exact absurd rfl e
   ·exact UN (fun q hq=>h1 q<|List.mem_cons_of_mem _ hq) (fun q hq q' dY=>h2 q (List.mem_cons_of_mem _ hq) q'<|List.mem_cons_of_mem _ dY) h3
theorem au.mv{P:Program}{B:aJ}{J:Nat}{Q:Tr AV->List Nat->Option Code->AS->Prop}{s:AS}{t:Tr AV}{nt f:Nat}{K:List Item}{os:List<|Nat×Option ae}{l0 l:List<|Nat×AV}{a:Nat}{x:ae}(hg:fI<=J)(hn:J+1<top)(ha:J<=a/\a<top)(hs:s.nx<top)(h1:∀p∈l0,t.get p.1=some p.2)(h2:∀p∈os,s.h.get p.1=p.2)(h3:s.h.get a=some x)(eW:∀p∈os,p.1<J)(hl:∀p∈l,p.1<top)(ht:∀r:Nat->Nat,(∀k,k<J->r k=k)->(∀k,top<=k->r k=k)->r J=a->∀p∈l,∃y,(p.1,y)∈l0/\jz [] r y p.2)(ho:∀p∈os,∀y,p.2=some y->Fix J os y)(hx:x.jO=true/\∀r:Nat->Nat,(∀k,top<=k->r k=k)->eZ [] r x x)(H:au P B J Q ⟨f,aE l,nt,K,[],none⟩<|ah (os++[(J,some x)])<|J+1):au P B J Q ⟨f,t,nt,K,[],none⟩ s:=by
 have zL:∀p∈os,∀q∈os,p.1=q.1->p=q:=fun p hp q hq e=>by have a1:=h2 p hp;rw[e,h2 q hq] at a1;exact Prod.ext e a1.symm
 let r:Nat->Nat:=fun k=>if k<J\/top<=k then k else if k=J then a else max k s.nx
 have r1:∀k,k<J->r k=k:=fun k hk=>if_pos<|.inl hk;have r2:∀k,top<=k->r k=k:=fun k hk=>if_pos<|.inr hk;have r3:r J=a:=by show(if _ then _ else _)=_;rw[if_neg aj,if_pos rfl]
 have cL:∀p∈os++[(J,some x)],p.1<top:=fun p hp=>by
  rcases List.mem_append.1 hp with hp|hp
  ·have:=eW p hp;omega
  ·rw[List.mem_singleton] at hp;subst hp;show J<top;omega
 have aip:∀p∈os++[(J,some x)],∀q∈os++[(J,some x)],p.1=q.1->p=q:=fun p hp q hq e=>by
  rcases List.mem_append.1 hp with hp|hp<;>rcases List.mem_append.1 hq with hq|hq
  ·exact zL p hp q hq e
  ·rw[List.mem_singleton] at hq;have:=eW p hp;rw[hq] at e;have e:p.1=J:=e;omega
  ·rw[List.mem_singleton] at hp;have:=eW q hq;rw[hp] at e;have e:J=q.1:=e;omega
  ·rw[List.mem_singleton] at hp hq;rw[hp,hq]
 have iP:∀n y,n<top->(fR<|os++[(J,some x)]).get n=some y->(n,some y)∈os\/(n=J/\y=x):=fun n y hn hg=>by
  rcases List.mem_append.1 (uE cL hg) with h|h
  ·exact .inl h
  ·rw[List.mem_singleton] at h;injection h with e1 e2;injection e2 with e2;exact .inr ⟨e1,e2⟩
 refine au.weaken (s2:=ah (os++[(J,some x)])<|J+1) (t2:=aE l) [] r r1 (fun k hk ht=>?_) r2 hg ⟨Nat.zero_le _,by show J+1<=top;omega⟩ rfl rfl (fun _ h=>by cases h) (fun i y hy=>?_) (fun n y hn hg=>?_) (fun _ h=>by cases h) (fun n m y z hn hm e1 e2 e=>?_) H
 ·have DW:J+1<=k:=hk;show s.nx<=(if _ then _ else _)/\(if _ then _ else _)<top;rw[if_neg aj,if_neg aj];omega
 ·obtain⟨y0,a1,a2⟩:=ht r r1 r2 r3 _<|Cu hl hy;exact⟨y0,h1 _ a1,a2⟩
 ·rcases iP n y hn hg with h|⟨rfl,rfl⟩
  ·have bZ:n<J:=eW _ h;rw[r1 n bZ];have hh:s.h.get n=some y:=h2 _ h;rcases ho _ h y rfl with⟨q1,q2⟩|q|⟨m,es,ex,left,cur,q,q1,q2,q3,q4,q5⟩
   ·exact⟨hn,.inl q1,y,hh,fK.refl _,q2 r r1 r2⟩
   ·have q:y= .iw:=q;subst q;exact⟨hn,.inr ⟨r1 n bZ,hh,trivial⟩,_,hh,fK.refl _,fun _ _ _ _ _ k=>k⟩
   ·have q:y= .iter m es ex left cur:=q;subst q;refine⟨hn,.inr ⟨r1 n bZ,hh,r1 m q1,UN cL aip<|List.mem_append_left _ q2,q3,q4,q5⟩,_,hh,fK.refl _,fun ρ fE N o hm k=>?_⟩;simp only[OR] at k ⊢;obtain⟨b,M,c,s',k1,k2⟩:=k;exact⟨b,M,c,s',by rw[r1 m q1];exact hm.1 _ _ k1,k2⟩
  ·rw[r3];exact⟨ha.2,.inl hx.1,y,h3,fK.refl _,hx.2 r r2⟩
 ·rcases iP n y hn e1 with h|⟨c1,_⟩<;>rcases iP m z hm e2 with h'|⟨c2,_⟩
  ·have a1:n<J:=eW _ h;have a2:m<J:=eW _ h';rw[r1 n a1,r1 m a2] at e;exact e
  ·have a1:n<J:=eW _ h;rw[r1 n a1,c2,r3] at e;omega
  ·have a1:m<J:=eW _ h';rw[r1 m a1,c1,r3] at e;omega
  ·rw[c1,c2]
end Go.Rn
namespace Go.Rn
open Go.RowKit
variable {l:List<|Int×Int} {x:AV} {sp:Sp} {n:Nat} {F:Nat->Option (List AV)}
def aX(p:Int×Int):List AV:=[.int .i64 p.1,.int .i64 p.2]
def lr(p:Int×Int):List Value:=[.int .i64 p.1,.int .i64 p.2]
theorem aa6(x y:Int×Int)(h:aX x=aX y):x=y:=by obtain⟨a,b⟩:=x;obtain⟨c,d⟩:=y;simp only[aX,List.cons.injEq,AV.int.injEq,true_and,_root_.and_true] at h;rw[h.1,h.2]
theorem Ig{L:List AV}(hl:L.length<=top){i:Nat}(hx:L[i]? =some x):cellAt (Tr.fill L 0 .nil) [] i=some x:=by have hi:=(List.getElem?_eq_some_iff.1 hx).1;unfold cellAt;rw[Tr.sg _ _ _ _ aj,if_pos aj,Nat.sub_zero,hx]
def lM(l:List<|Int×Int):List Int:=(l.map fun p=>[p.1,p.2]).flatten
theorem uL:∀l,(l.map aX).flatten=(lM l).map (AV.int .i64)
 |[]=>rfl
 |p::l=>by show aX p++(l.map aX).flatten=_;rw[uL l];rfl
theorem Fi:∀l,(l.map lr).flatten=(lM l).map (Value.int .i64)
 |[]=>rfl
 |p::l=>by show lr p++(l.map lr).flatten=_;rw[Fi l];rfl
theorem Cp:∀l,(lM l).length=l.length*2
 |[]=>rfl
 |p::l=>by show([p.1,p.2]++lM l).length=_;rw[List.length_append,Cp l];show 2+_=(l.length+1)*2;omega
def dP(l:List<|Int×Int):List<|Int×Int:=l.mergeSort fun a b=>decide<|a.1<=b.1
theorem Cm(l:List<|Int×Int):(dP l).Perm l:=List.mergeSort_perm l _
theorem Aj(l:List<|Int×Int):(dP l).length=l.length:=(Cm l).length_eq
theorem Nf(l:List<|Int×Int):(dP l).Pairwise fun a b=>a.1<=b.1:=by
 have:=List.pairwise_mergeSort (le:=fun a b:Int×Int=>decide<|a.1<=b.1) (fun a b c h1 h2=>decide_eq_true<|Int.le_trans (of_decide_eq_true h1)<|of_decide_eq_true h2) (fun a b=>by
  cases e:decide (a.1<=b.1)
  ·have:=of_decide_eq_false e;rw[decide_eq_true (show b.1<=a.1 by omega)];rfl
  ·rfl) l
 exact this.imp fun h=>of_decide_eq_true h
theorem adY(nd:(l.map (·.1)).Nodup){a b:Int×Int}(ha:a∈l)(hb:b∈l)(h:a.1=b.1):a=b:=by
 induction l with
 |nil=>cases ha
 |cons c l ih=>
  rw[List.map_cons,List.nodup_cons] at nd;rcases List.mem_cons.1 ha with ea|qC<;>rcases List.mem_cons.1 hb with eb|fN
  ·rw[ea,eb]
  ·exact absurd (show c.1∈l.map (·.1) by rw[←ea,h];exact List.mem_map_of_mem fN) nd.1
  ·exact absurd (show c.1∈l.map (·.1) by rw[←eb, ←h];exact List.mem_map_of_mem qC) nd.1
  ·exact ih nd.2 qC fN
theorem TP{m:List<|Int×Int}(nd:(l.map (·.1)).Nodup)(hp:m.Perm l)(hs:m.Pairwise fun a b=>a.1<=b.1):m=dP l:=by refine List.Perm.eq_of_pairwise (le:=fun a b=>a.1<=b.1) (fun a b ha hb h1 h2=>?_) hs (Nf l)<|hp.trans (Cm l).symm;exact adY nd (hp.subset ha) ((Cm l).subset hb)<|Int.le_antisymm h1 h2
structure C5 (P:Program) (f g:FuncId):Prop where
 is:∃fn body,P.funcs[f]? =some fn/\fn.body=some body/\(fn.name == "runtime.NumGoroutine")=false
 WZ:∀(a:Option Addr) (c:Nat) (w:World),Calls P f #[.slice a 0 c,.func (.func g) #[] #[]] w fun e w'=>e= .returned (.tuple #[])/\w'=w
 rows:∀(b c:Nat) (l:List<|Int×Int) (cs:Array Value) (e:TypeId) (w:World),w.heap[b]? =some (.cells cs e (0,0))->(∀(i:Nat) (v:Value),(l.map lr).flatten[i]? =some v->cs[i]? =some v)->l.length<=1000000->(l.map (·.1)).Nodup->
  Calls P f #[.slice (some ⟨b,0,none⟩) l.length c,.func (.func g) #[] #[]] w fun e' w'=>e'= .returned (.tuple #[])/\(w'.os=w.os/\w'.tape=w.tape/\w'.output=w.output/\w.heap.size<=w'.heap.size)/\(∀k,k<w.heap.size->k≠b->w'.heap[k]? =w.heap[k]?)/\
   ∃we,w'.heap[b]? =some (.cells we e (0,0))/\we.size=cs.size/\∀(i:Nat) (v:Value),((dP l).map lr).flatten[i]? =some v->we[i]? =some v
open Classical in
noncomputable def Ds(o:ae):Option<|List<|Int×Int:=if h:∃l:List<|Int×Int,o=aA aX l/\l.length<=1000000 then some h.choose else none
theorem aa7{o:ae}(h:Ds o=some l):o=aA aX l/\l.length<=1000000:=by
 unfold Ds at h;split at h
 ·rename_i q;injection h with h;rw[←h];exact q.choose_spec
 ·cases h
theorem E4(h:l.length<=1000000):(l.map aX).flatten.length<=top:=by rw[uL,List.length_map,Cp];unfold top;omega
theorem ack{m:List<|Int×Int}(hl:l.length<=1000000)(hm:m.length<=1000000)(h:aA aX l=aA aX m):l=m:=by
 have ht:=E4 hl;have hu:=E4 hm;unfold aA at h;injection h with h1 h2 _
 have key:∀{l m:List<|Int×Int},lM l=lM m->l=m:=by
  intro l;induction l with
  |nil=>intro m e;cases m with
   |nil=>rfl
   |cons=>cases e
  |cons x l ih=>intro m e;cases m with
   |nil=>cases e
   |cons y m=>
    have e:x.1::x.2::lM l=y.1::y.2::lM m:=e;injection e with e1 e;injection e with e2 e
    rw[ih e,show x=y from Prod.ext e1 e2]
 refine key<|List.ext_getElem? fun i=>?_;have e0:(lM l).length=(lM m).length:=by rw[uL,uL,List.length_map,List.length_map] at h1;exact h1
 by_cases q:i<(lM l).length
 ·have e1:=Ig ht (show(l.map aX).flatten[i]? =some (.int .i64 (lM l)[i]) by rw[uL,List.getElem?_map,List.getElem?_eq_getElem q];rfl);have e2:=Ig hu (show(m.map aX).flatten[i]? =some (.int .i64<|(lM m)[i]'aj) by rw[uL,List.getElem?_map,List.getElem?_eq_getElem aj];rfl);rw[h2,e2] at e1;injection e1 with e1;injection e1 with _ e1
  rw[List.getElem?_eq_getElem q,List.getElem?_eq_getElem aj,e1]
 ·rw[List.getElem?_eq_none aj,List.getElem?_eq_none aj]
theorem aa8(h:l.length<=1000000):Ds (aA aX l)=some l:=by unfold Ds;have q:∃l':List<|Int×Int,aA aX l=aA aX l'/\l'.length<=1000000:=⟨l,rfl,h⟩;rw[dif_pos q];exact congrArg some (ack h q.choose_spec.2 q.choose_spec.1).symm
noncomputable def tq(g:FuncId):aK->List AV->M AV:=fun _ args=>match args with
 |[.slice none _ _,.func (.func g') [] []]=>iG (g'=g) <| M.pure<|.tuple []
 |[.slice (some (n,0)) len (.aq _ _),.func (.func g') [] []]=>iG (g'=g) <| (bt n).bind fun o=>aB (Ds o) fun l=>iG (len=l.length/\(l.map (·.1)).Nodup) <| (bJ n<|some<|aA aX<|dP l).bind fun _=>M.pure<|.tuple []
 |_=>fail
theorem Yv.tq(g:FuncId)(Yw:aK)(args:List AV):Yv<|tq g Yw args:=by
 unfold Rn.tq;split
 ·exact Yv.iG<|Yv.pure _
 ·exact Yv.iG <| Yv.bind (Yv.bt _) fun _=>Yv.aB fun _ _=>Yv.iG <| Yv.bind (Yv.bJ _ _) fun _=>Yv.pure _
 ·exact Yv.fail
theorem Vt{ρ:Ren}{N:Nat}{o:Obj}(hl:l.length<=1000000):OR ρ N (aA aX l) o↔∃c e,o= .cells c e (0,0)/\c.size=N/\l.length*2<=N/\∀(i:Nat) (v:Value),(l.map lr).flatten[i]? =some v->c[i]? =some v:=by
 have ht:=E4 hl;have hn:(l.map aX).flatten.length=l.length*2:=by rw[uL,List.length_map,Cp]
 unfold aA;simp only[OR];constructor
 ·rintro ⟨c,e,rfl,h1,h2,h3⟩;refine⟨c,e,rfl,h1,by omega,fun i v hv=>?_⟩;rw[Fi,List.getElem?_map] at hv;cases hz:(lM l)[i]? with
  |none=>rw[hz] at hv;cases hv
  |some z=>
   rw[hz] at hv;injection hv with hv
   have hi:i<(lM l).length:=(List.getElem?_eq_some_iff.1 hz).1;obtain⟨x,v',a1,_,a3,a4⟩:=h3 i (by rw[uL,List.length_map];exact hi);have a0:cellAt (Tr.fill (l.map aX).flatten 0 .nil) [] i=some (.int .i64 z):=Ig ht (by rw[uL,List.getElem?_map,hz];rfl);rw[a0] at a1;injection a1 with a1;subst a1
   simp only[VR] at a4;rw[a3,a4, ←hv]
 ·rintro ⟨c,e,rfl,h1,h2,h3⟩;refine⟨c,e,rfl,h1,by omega,fun i hi=>?_⟩;have ir:i<(lM l).length:=by rw[Cp];omega
  have hz:(lM l)[i]? =some (lM l)[i]:=List.getElem?_eq_getElem ir;refine⟨.int .i64 (lM l)[i],.int .i64 (lM l)[i],Ig ht (by rw[uL,List.getElem?_map,hz];rfl),rfl,h3 i _ (by rw[Fi,List.getElem?_map,hz];rfl),by simp only[VR]⟩
section
variable {P:Program} {B:aJ} {ρ:Ren} {w:World} {s s1:AS} {f g:FuncId}
theorem aa9(hj:C5 P f g){Yw:aK}{args:List AV}{vs:Array Value}(r:Rel B ρ s.h w)(hv:ay ρ args vs.toList)(h:tq g Yw args s= .ok x s1):jf P ((callFunc f vs).run P w)<|kh B ρ s s1 w x:=by
 obtain⟨fn,body,cj,cw,dD⟩:=hj.is;rw[sd cj cw dD];show Calls P f vs w _;obtain⟨vs⟩:=vs;unfold tq at h;split at h
 ·rename_i len c g';obtain⟨hg,h3⟩:=wA h;subst hg;obtain⟨rfl,rfl⟩:=bA h3;simp only[ay] at hv;obtain⟨v1,l1,rfl,h1,v2,l2,rfl,h2,rfl⟩:=hv;obtain⟨rfl,_,rfl⟩:=lF h1;simp only[VR] at h2;obtain⟨_,⟨f1⟩,⟨c1⟩,rfl,e1,e2⟩:=h2;simp only[ay] at e1 e2;subst e1;subst e2;refine(hj.WZ none _ w).mono fun e w'=>?_;rintro ⟨rfl,rfl⟩;exact⟨_,rfl,ρ,Ext.refl _ _ _,by simp only[VR,ay];exact⟨_,rfl,rfl⟩,r,cx.refl _ _⟩
 ·rename_i n len lo ke g';obtain⟨hg,h3⟩:=wA h;subst hg;obtain⟨o,s2,k1,h4⟩:=M.aN h3;obtain⟨l,k2,h5⟩:=bu h4;obtain⟨⟨rfl,nd⟩,h6⟩:=wA h5;obtain⟨u,s3,k3,h7⟩:=M.aN h6;obtain⟨rfl,rfl⟩:=bA h7;obtain⟨rfl,hl⟩:=aa7 k2;obtain⟨a1,a2,a3,a4⟩:=fU k1;obtain⟨b1,b2,_,b4,b5⟩:=jv k3;simp only[ay] at hv;obtain⟨v1,l1,rfl,h1,v2,l2,rfl,h2,rfl⟩:=hv;simp only[VR] at h1;obtain⟨b,N,cc,jo,rfl,c1,c2,c3⟩:=h1;simp only[VR] at h2;obtain⟨_,⟨f1⟩,⟨c1⟩,rfl,e1,e2⟩:=h2;simp only[ay] at e1 e2;subst e1;subst e2;obtain⟨o',hb,hO,hB⟩:=r.block b2 a2 jo;obtain⟨cs,e,rfl,q1,q2,q3⟩:=(Vt hl).1 hO;refine(hj.rows b cc l cs e w hb q3 hl nd).mono fun e' w'=>?_;rintro ⟨rfl,⟨w1,w2,w3,w4⟩,w5,we,w6,w7,w8⟩;have K6:=hZ hb;let W:World:={w with heap:=w.heap.setIfInBounds b<|.cells we e (0,0)};have o1:uO b w W:=⟨rfl,rfl,rfl,Array.size_setIfInBounds,fun k hk=>Array.getElem?_setIfInBounds_ne<|Ne.symm hk⟩;have o2:W.heap[b]? =some (.cells we e (0,0)):=Array.getElem?_setIfInBounds_self_of_lt K6;have hs:W.heap.size=w.heap.size:=Array.size_setIfInBounds;have o3:gN W w':=⟨w1,w2,w3,by rw[hs];exact w4,fun k hk=>by
   by_cases q:k=b
   ·subst q;rw[o2,w6]
   ·rw[w5 k (by rw[←hs];exact hk) q,o1.block k q]⟩
  have r1:Rel B ρ (s.h.put n<|some<|aA aX<|dP l) W:=r.put b2 a2 rfl rfl jo rfl o1 o2<|(Vt (by rw[Aj];exact hl)).2 ⟨we,e,rfl,by rw[w7];exact q1,by rw[Aj];exact q2,w8⟩;refine⟨_,rfl,ρ,by rw[b5,a4];exact Ext.refl _ _ _,by simp only[VR,ay];exact⟨_,rfl,rfl⟩,by rw[b4,a3];exact r1.Bi o3,(o1.below<|hB rfl).trans<|o3.below fun k hk=>r.size k (by rw[←hs];exact hk)⟩
 ·cases h
end
theorem acm{X:TX}{P:Program}{J:Nat}{ns:List Nat}{h0:Tr ae}{L:bO}{f g:FuncId}(h:dR X J P<|dk J ns h0 L)(hj:C5 P f g):dR X J P<|dk J ns h0<|(f,.raw fun _ _ _=>tq g)::L:=(show dR X J P (oB (dk J ns h0 L) f<|tq g) from h.mh (fun Yw _ args=>Yv.tq _ Yw args) fun B hB hT Yw hc hl args x s s1 ρ w vs fi r hg hf hm hv=>aa9 hj r hv hm)
theorem aba{P:Program}{f g:Nat}(h:sp f=some (tq g)){a lo ke:Nat}{s:AS}(ha:Nat.blt a s.nx=true)(aw:Nat.blt a top=true)(hg:s.h.get a=some (aA aX l))(hl:l.length<=1000000)(nd:(l.map (·.1)).Nodup):
 aZ P sp F (n+1) (.fn f) [.slice (some (a,0)) l.length<|.aq lo ke,.func (.func g) [] []] s= .ok (.tuple []) (fm a (some<|aA aX<|dP l)<|aT a s):=by
 show jF P sp f (aZ P sp F n) [.slice (some (a,0)) l.length<|.aq lo ke,.func (.func g) [] []] s=_;rw[qX h];show(iG (g=g) <| (bt a).bind fun o=>aB (Ds o) fun l'=>iG (l.length=l'.length/\(l'.map (·.1)).Nodup) <| (bJ a<|some<|aA aX<|dP l').bind fun _=>M.pure<|AV.tuple []) s=_;rw[wE rfl,M.bK<|lJ ha hg,aa8 hl,bT,wE ⟨rfl,nd⟩];have h1:Nat.blt a (aT a s).nx=true:=by rw[(fL a s).2.1];exact ha
 have h2:(aT a s).h.get a=some (aA aX l):=by rw[(fL a s).1];exact hg
 rw[M.bK<|wN h1 h2 rfl aw];rfl
theorem acn{P:Program}{f g:Nat}(h:sp f=some (tq g)){s:AS}{len:Nat}{c:bW}:aZ P sp F (n+1) (.fn f) [.slice none len c,.func (.func g) [] []] s= .ok (.tuple []) s:=by show jF P sp f (aZ P sp F n) [.slice none len c,.func (.func g) [] []] s=_;rw[qX h];show(iG (g=g) <| M.pure<|AV.tuple []) s=_;rw[wE rfl];rfl
end Go.Rn
open Go
namespace Go.Rn
section
variable {X:TX} {P:Program} {J:Nat} {ns:List Nat} {h0:Tr ae} {L:bO} {g:Nat} {fn:Func} {body:Code}
theorem aac{jZ:FuncId->Nat}(hw:∀B,Vb P B jZ)(hP:bR P)(fY:fI<=J)(dK:J<=top)(dJ:∀n o,n<top->h0.get n=some o->n∈ns)(eD:∀n∈ns,n<J){val:List AV->Option AV}(h:dR X J P<|dk J ns h0 L)(cj:P.funcs[g]? =some fn)(cw:fn.body=some body)(dD:(fn.name == "runtime.NumGoroutine")=false)(eT:∀args v,val args=some v->∃n s1,zl P jZ n (.fn g) args ⟨h0,J,0,[],[]⟩= .ok v s1):dR X J P<|dk J ns h0<|(g,.val val)::L:=by
 refine(show dR X J P (oB (dk J ns h0 L) g<|pj J ns h0 val) from h.mh (fun Yw _ args=>Yv.pj _ _ _ _ Yw args) fun B hB hT Yw hc hl args x s s1 ρ w vs fi r hg hf hm hv=>?_);unfold pj at hm;obtain⟨gG,h1⟩:=cV hm;obtain⟨u,s2,h2,h3⟩:=M.aN h1;obtain⟨v,h4,h5⟩:=bu h3;obtain⟨h6,h7⟩:=cV h5;obtain⟨rfl,rfl⟩:=bA h7;obtain⟨a1,a2,a3⟩:=uw h2;obtain⟨n,s4,q⟩:=eT _ _ h4;have nE:=Di dK r dJ eD (fun n hn=>by obtain⟨_,o,p,h⟩:=a3 n hn;exact⟨o,p,h⟩);have fi:bB (⟨h0,J,0,[],[]⟩:AS):=⟨Nat.zero_le _,dK⟩;have zO:gC<|gh J ρ:=fun g iD=>by obtain⟨N,e⟩:=hg g iD;exact⟨N,by unfold gh;rw[if_pos<|Nat.lt_of_lt_of_le iD fY];exact e⟩
 have bG:=(Tg (B:=ri B ρ w) hP (hw _) n).fn g args x ⟨h0,J,0,[],[]⟩ s4 (gh J ρ) w vs fi nE zO (fun k k1 _ k2=>by
  have k1:J<=k:=k1;unfold gh gk;rw[if_neg aj,if_neg aj])
  q (AV.AU (fun k y hk e=>by rw[su dK hk];exact e) gG hv)
 rw[sd cj cw dD] at bG ⊢;have bG:Calls P g vs w _:=bG;show Calls P g vs w _;refine bG.mono fun e w'=>?_;rintro ⟨y,rfl,σ,e1,e2,e3,e4⟩;obtain⟨b1,b2,b3,b4⟩:=IY (a:=s.nx) dK r e3 e4 e1.le;exact⟨y,rfl,cC ρ σ,by rw[a2];exact b1,AV.pq b2 h6 e2,by rw[a1];exact b3,b4⟩
end
end Go.Rn
