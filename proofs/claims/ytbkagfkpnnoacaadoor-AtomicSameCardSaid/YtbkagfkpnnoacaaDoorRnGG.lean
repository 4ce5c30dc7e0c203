import Derived.Test.YtbkagfkpnnoacaaDoorRnGF
set_option maxRecDepth 100000
set_option maxHeartbeats 8000000
set_option linter.unusedSimpArgs false
set_option linter.unusedVariables false
namespace Go.Rn
open Go.RowKit
noncomputable section
def xW(J:Nat)(ns:List Nat)(h0:Tr ae)(k:Nat)(val:AV->List AV->Option (AV×AV)):aK->List AV->M AV:=fun _ args=>
 match args with
 | .ptr (some (n,0))::rest=>aG (rest.all AV.hi&&Nat.ble J n) <| (fG J h0 ns).bind fun _=>(bt n).bind fun o=>match o with
  | .tok k' v=>aG (Nat.beq k k') <| aB (val v rest) fun p=>aG p.1.hi <| (kZ n<|some<|.tok k p.2).bind fun _=>M.pure p.1
  |_=>fail
 |_=>fail
end
theorem YF.xW(J:Nat)(ns:List Nat)(h0:Tr ae)(k:Nat)(val:AV->List AV->Option (AV×AV))(YG:aK)(args:List AV):YF<|xW J ns h0 k val YG args:=by
 unfold Rn.xW;split
 ·refine YF.aG fun _=>YF.bind (YF.fG J h0 ns) fun _=>YF.bind (YF.bt _) fun o=>?_;split
  ·exact YF.aG fun _=>YF.aB fun p _=>YF.aG fun _=>YF.bind (YF.kZ _ _) fun _=>YF.pure _
  ·exact YF.fail
 ·exact YF.fail
def mg(J:Nat)(ρ loc:Ren):Ren:=fun m=>if m<J then ρ m else if top<=m then ρ m else loc m
def tw(B:aJ)(ρ:Ren)(w:World)(H:Nat->Prop):aJ:=⟨fun x=>w.heap.size<=x\/H x,B.F,fun m=>ρ m≠none,B.inv,B.lim,B.mono⟩
theorem agh{X:TX}{J k:Nat}{v:AV}{B:aJ}{ρ:Ren}{w:World}{h h0:Tr ae}{ns:List Nat}{kn:List<|Nat×Option ae}{b:Nat}{H:Nat->Prop}(hX:yk X J)(hT:B.inv=nH X J)(ht:J<=top)(r:Rel B ρ h w)(dJ:∀n o,n<top->h0.get n=some o->n∈ns)(eD:∀n∈ns,n<J)(jl:∀n o,(n,some o)∈kn->h0.get n=some o)(jr:∀p∈kn,p.1<top)(a3:∀n∈ns,∃o p,h.get n=some o/\h0.get n=some p/\ou J o p=true)(hH:∀x,H x->(x<w.heap.size/\B.lim<=x)/\B.may x/\jZ ρ h x/\∀j sh,ρ (hn j x sh)=none)(I:nH X J k v ρ w b H):
 ∃L loc N0,X k v L/\loc J=some (b,N0)/\(∀m y,loc m=some y->∃o,(m,o)∈L)/\Rel (tw B ρ w H) (mg J ρ loc) (fR<|kn++aX L) w:=by
 obtain⟨L,Gn,bl,H1,N0,hx,root,low,is,one,tok,JL,sub,own,apart⟩:=I;have r0:=Dn ht r dJ eD a3;have nm:=hX.nm k v L hx;let loc:Ren:=fun m=>if m∈L.map (·.1) then Gn m else none
 have BY:∀m o,(m,o)∈L->m∈L.map (·.1):=fun m o hm=>List.mem_map.2 ⟨_,hm,rfl⟩;have WE:∀m,m∈L.map (·.1)->loc m=Gn m:=fun m hm=>if_pos hm;have agi:∀m,m ∉ L.map (·.1)->loc m=none:=fun m hm=>if_neg hm;have ge:∀m,m∈L.map (·.1)->J<=m/\m<top:=fun m hm=>by obtain⟨p,hp,rfl⟩:=List.mem_map.1 hm;exact⟨(nm p hp).1,(nm p hp).2.1⟩
 obtain⟨oR,hR⟩:=hX.root k v L hx;have tm:∀m,m∈L.map (·.1)->mg J ρ loc m=Gn m:=fun m hm=>by obtain⟨q1,q2⟩:=ge m hm;unfold mg;rw[if_neg aj,if_neg aj];exact WE m hm
 have tk:∀m,top<=m->mg J ρ loc m=ρ m:=fun m hm=>by unfold mg;rw[if_neg aj,if_pos hm]
 have tl:∀m,m<J->mg J ρ loc m=ρ m:=fun m hm=>by unfold mg;rw[if_pos hm]
 have uk:(gi J ρ).le<|mg J ρ loc:=by
  intro m x e;unfold gi at e;split at e
  ·rename_i q;rw[tl m q];exact e
  ·unfold gm at e;split at e
   ·rename_i q;rw[tk m q];exact e
   ·cases e
 have cL:∀p∈kn++aX L,p.1<top:=fun p hp=>by
  rcases List.mem_append.1 hp with hp|hp
  ·exact jr p hp
  ·exact Mz (fun q hq=>(nm q hq).2.1) p hp
 have mle:∀{N:Nat} {o:ae} {o':Obj},lu (L.map (·.1)) o->OR (xV Gn ρ) N o o'->OR (mg J ρ loc) N o o':=fun hf hO=>(hf _ _ _ hO).mono fun i y hi=>by
  have hi:(if top<=i\/i∈L.map (·.1) then xV Gn ρ i else none)=some y:=hi;split at hi
  ·rename_i q;unfold xV at hi;rcases q with q|q
   ·rw[if_pos q] at hi;rw[tk i q];exact hi
   ·rw[if_neg (by have:=(ge i q).2;omega)] at hi;rw[tm i q];exact hi
  ·cases hi
 have ak:∀m o,(fR<|kn++aX L).get m=some o->(m∈ns/\h0.get m=some o/\o.mJ=true)\/(m,o)∈L:=fun m o hg=>by
  rcases List.mem_append.1 (uK cL hg) with q|q
  ·have q2:=jl m o q;have iu:=dJ m o (jr _ q) q2;obtain⟨p1,p2,_,c3,c4⟩:=a3 m iu;rw[q2] at c3;cases c3;refine .inl ⟨iu,q2,?_⟩;unfold ou at c4;split at c4<;>first|rfl|cases c4
  ·exact .inr<|Mq q
 have BZ:∀m N x,m∈ns->mg J ρ loc m=some (x,N)->x<B.lim:=fun m N x q1 e=>by rw[tl m<|eD m q1] at e;obtain⟨p1,p2,c2,c3,c4⟩:=a3 m q1;obtain⟨b',N',e1,e2⟩:=r.tk.1.2 m p1 (Nat.lt_of_lt_of_le (eD m q1) ht) c2<|HB c4;rw[e] at e1;cases e1;exact e2
 have Ed:∀m o N x,(m,o)∈L->mg J ρ loc m=some (x,N)->x=bl m/\H x:=fun m o N x hm e=>by rw[tm m<|BY m o hm] at e;obtain⟨N',o',e1,_,_,e4⟩:=is m o hm;rw[e] at e1;cases e1;exact⟨rfl,e4⟩
 refine⟨L,loc,N0,hx,(WE _<|BY _ _ hR).trans root,fun m y e=>?_,fun m o hm hg=>?_,fun m n o p x N M hm fu hg kY cP e1 e2=>?_,fun m i es ex left cur hm hg=>?_,fun x hx=>.inl hx,fun i j m es ex left cur gY iU iH iJ hi _ hg _=>?_,fun j x sh e=>?_,?_⟩
 ·by_cases q:m∈L.map (·.1)
  ·obtain⟨p,hp,rfl⟩:=List.mem_map.1 q;exact⟨p.2,hp⟩
  ·rw[agi m q] at e;cases e
 ·rcases ak m o hg with⟨q1,q3,q4⟩|q
  ·obtain⟨b',N',o',e1,e2,e3,_⟩:=r0.is m o hm q3;exact⟨b',N',o',uk _ _ e1,e2,e3.mono uk,fun z=>by rw[ae.kg q4] at z;cases z⟩
  ·obtain⟨N',o',e1,e2,e3,e4⟩:=is m o q;exact⟨bl m,N',o',(tm m<|BY m o q).trans e1,e2,mle (nm _ q).2.2.2 e3,fun _=>.inr e4⟩
 ·rcases ak m o hg with⟨q1,q3,q4⟩|q
  ·rcases ak n p kY with⟨z1,z3,z4⟩|z
   ·rcases cP with y|y
    ·rw[ae.kg q4] at y;cases y
    ·rw[ae.kg z4] at y;cases y
   ·have y1:=BZ m N x q1 e1;have y2:=(hH x (Ed n p M x z e2).2).1.2;omega
  ·rcases ak n p kY with⟨z1,z3,z4⟩|z
   ·have y1:=BZ n M x z1 e2;have y2:=(hH x (Ed m o N x q e1).2).1.2;omega
   ·exact one m n o p q z<|(Ed m o N x q e1).1.symm.trans (Ed n p M x z e2).1
 ·rcases ak m _ hg with⟨_,_,q4⟩|q
  ·cases q4
  ·rcases(nm _ q).2.2.1 with y|y<;>cases y
 ·rcases ak i _ hg with⟨_,_,q4⟩|q
  ·cases q4
  ·rcases(nm _ q).2.2.1 with y|y<;>cases y
 ·rw[tk _<|gb _ _ _] at e;obtain⟨g0,l,c,e',fr,g1,g2,g3,g4⟩:=r0.fz j x sh (by rw[sH ht<|gb _ _ _];exact e);refine⟨.inl e,l,c,e',fr,g1,g2,fun m o N hm hg cq hr=>?_,fun i y hy=>?_⟩
  ·rcases ak m o hg with⟨_,_,q4⟩|q
   ·rw[ae.kg q4] at cq;cases cq
   ·exact e<|(hH x (Ed m o N x q hr).2).2.2.2 j sh
  ·obtain⟨v',k1,k2,k3⟩:=g4 i y hy;refine⟨v',k1,VR.mono (fun i z q=>?_) _ _ k2,k3⟩;unfold gm at q ⊢;split at q
   ·rename_i hk;rw[if_pos hk];exact uk _ _ q
   ·cases q
 ·refine⟨⟨r.tk.1.1,fun m o hm hg hf=>?_⟩,H1,fun m k' v' hm hg=>?_,fun m n x k' v' KU vY hm fu hg kY cf hZ nW=>?_⟩
  ·rcases ak m o hg with⟨q1,q3,q4⟩|q
   ·obtain⟨b',N',o',e1,e2,e3,_⟩:=r0.is m o hm q3;exact⟨b',N',uk _ _ e1,BZ m N' b' q1<|uk _ _ e1⟩
   ·rcases(nm _ q).2.2.1 with y|y
    ·have:=(ae.uG y).2;rw[ae.kg hf] at this;cases this
    ·cases o<;>first|(cases y;done)|cases hf
  ·rcases ak m _ hg with⟨_,_,q4⟩|q
   ·cases q4
   ·obtain⟨N',o',e1,e2,e3,e4⟩:=is m _ q;refine⟨bl m,N',(tm m<|BY m _ q).trans e1,?_,JL m k' v' q,fun x hZ=>?_⟩
    ·show B.inv k' v' (mg J ρ loc) w (bl m)<|H1 m;rw[hT];exact(tok m k' v' q).mono (fun i y hi e=>by rw[tk i hi];exact e) fun _ _=>rfl
    ·have nW:=sub m k' v' q x hZ;obtain⟨c1,c2,c3,c4⟩:=hH x nW;refine⟨c1,.inr nW,fun n o N fu kY cq hr=>?_,fun j sh=>by rw[tk _<|gb _ _ _];exact c4 j sh⟩;rcases ak n o kY with⟨_,_,q4⟩|z
     ·rw[ae.kg q4] at cq;cases cq
     ·refine own m k' v' n o q z ?_ (by rw[←(Ed n o N x z hr).1];exact hZ);cases o<;>first|rfl|cases cq
  ·rcases ak m _ hg with⟨_,_,q4⟩|q
   ·cases q4
   ·rcases ak n _ kY with⟨_,_,q4⟩|z
    ·cases q4
    ·exact apart m k' v' n KU vY x q z cf hZ nW
end Go.Rn
namespace Go.Rn
open Go.RowKit
theorem aeX{X:TX}{J k n a:Nat}{v v':AV}{B:aJ}{ρ σ:Ren}{w w':World}{h h4:Tr ae}{b N N0:Nat}{cU:Nat->Nat->Prop}{L':List<|Nat×ae}(hX:yk X J)(hT:B.inv=nH X J)(oZ:n<top)(hg:h.get n=some (.tok k v))(hr:ρ n=some (b,N))(r:Rel B ρ h w)(h1:∀n k v,n<top->h.get n=some (.tok k v)->∃b N,ρ n=some (b,N)/\B.inv k v ρ w b (cU n)/\cU n b/\∀x,cU n x->(x<w.heap.size/\B.lim<=x)/\B.may x/\jZ ρ h x/\∀j sh,ρ (hn j x sh)=none)(h2:∀n m x k v k' v',n<top->m<top->h.get n=some (.tok k v)->h.get m=some (.tok k' v')->n≠m->cU n x->¬cU m x)(q3:Rel (tw B ρ w<|cU n) σ h4 w')(q4:cw (tw B ρ w<|cU n) w w')(oH:σ J=some (b,N0))(yl:∀m x,top<=m->ρ m=some x->σ m=some x)(hx:X k v' L')(hL:∀m o,(m,o)∈L'->h4.get m=some o):
 Ext a a ρ (cC ρ σ)/\jh σ (cC ρ σ)/\Rel B (cC ρ σ) (h.put n<|some<|.tok k v') w'/\cw B w w':=by
 obtain⟨b0,M0,r1,_,alQ,hH⟩:=h1 n k v oZ hg;rw[hr] at r1;cases r1;have nm:=hX.nm k v' L' hx;have hl:ρ.le<|cC ρ σ:=by
  intro k x e;unfold cC;by_cases hk:top<=k
  ·rw[if_pos hk];exact yl k x hk e
  ·rw[if_neg hk];exact e
 have cL:∀k,k<top->cC ρ σ k=ρ k:=fun k hk=>by unfold cC;rw[if_neg aj]
 have gG:∀k,top<=k->cC ρ σ k=σ k:=fun k hk=>by unfold cC;rw[if_pos hk]
 have g:∀m,m<top->(h.put n<|some<|.tok k v').get m=if m=n then some (.tok k v') else h.get m:=fun m hm=>Tr.da _ _ _ _ oZ hm
 have Bp:cw B w w':=⟨q4.os,q4.tape,q4.output,q4.size,fun x hx hm=>q4.block x hx fun z=>by
  rcases z with z|z
  ·have z:w.heap.size<=x:=z;omega
  ·exact hm (hH x z).2.1⟩
 have mK:∀x,x<w.heap.size->¬cU n x->w'.heap[x]? =w.heap[x]? :=fun x hx hm=>q4.block x hx fun z=>by
  rcases z with z|z
  ·have z:w.heap.size<=x:=z;omega
  ·exact hm z
 have other:∀m o x M,m<top->m≠n->h.get m=some o->ρ m=some (x,M)->¬cU n x:=fun m o x M hm cf ho e hZ=>by
  obtain⟨⟨_,c1⟩,_,c3,_⟩:=hH x hZ;cases cq:o.dh with
  |false=>exact c3 m o M hm ho cq e
  |true=>
   by_cases hf:o.mJ=true
   ·obtain⟨b',N',e1,e2⟩:=r.tk.1.2 m o hm ho hf;rw[e] at e1;cases e1;omega
   ·cases o<;>first|(cases cq;done)|(exact hf rfl)|skip
    rename_i k' vY;obtain⟨b',N',e1,_,e3,_⟩:=h1 m k' vY hm ho;rw[e] at e1;cases e1;exact h2 n m x k v k' vY oZ hm hg ho (Ne.symm cf) hZ e3
 have rU:∀x,jZ ρ h x->jZ (cC ρ σ) (h.put n<|some<|.tok k v') x:=fun x hn m o M hm ho cq e=>by
  rw[g m hm] at ho;by_cases q:m=n
  ·rw[if_pos q] at ho;cases ho;cases cq
  ·rw[if_neg q] at ho;rw[cL m hm] at e;exact hn m o M hm ho cq e
 have zq:∀x,w.heap.size<=x->jZ (cC ρ σ) (h.put n<|some<|.tok k v') x:=fun x hx m o M hm ho cq e=>by
  rw[g m hm] at ho;by_cases q:m=n
  ·rw[if_pos q] at ho;cases ho;cases cq
  ·rw[if_neg q] at ho;rw[cL m hm] at e;obtain⟨b1,N1,o1,e1,e2,_⟩:=r.is m o hm ho;rw[e] at e1;cases e1;have:=ib e2;omega
 obtain⟨⟨_,_⟩,Hq,t1,t2⟩:=q3.tk;obtain⟨oR,hR⟩:=hX.root k v' L' hx;have fX:∀m o,(m,o)∈L'->m<top:=fun m o hm=>(nm _ hm).2.1;have qI:∀m o,(m,o)∈L'->∃x M o',σ m=some (x,M)/\w'.heap[x]? =some o'/\OR σ M o o'/\(o.dh=false->w.heap.size<=x\/cU n x):=fun m o hm=>q3.is m o (fX m o hm)<|hL m o hm;have kind:∀m o,(m,o)∈L'->o.dh=false\/∃k1 v1,o= .tok k1 v1:=fun m o hm=>by
  rcases(nm _ hm).2.2.1 with y|y
  ·exact .inl (ae.uG y).2
  ·cases o<;>first|exact .inr ⟨_,_,rfl⟩|cases y
 let Hn:Nat->Prop:=fun x=>(∃m o M,(m,o)∈L'/\o.dh=false/\σ m=some (x,M))\/∃m k1 v1,(m,ae.tok k1 v1)∈L'/\Hq m x;have FY:∀m o,(m,o)∈L'->∀x M,σ m=some (x,M)->Hn x:=fun m o hm x M e=>by
  rcases kind m o hm with q|⟨k1,v1,rfl⟩
  ·exact .inl ⟨m,o,M,hm,q,e⟩
  ·obtain⟨b1,N1,e1,_,e3,_⟩:=t1 m k1 v1 (fX _ _ hm)<|hL _ _ hm;rw[e] at e1;cases e1;exact .inr ⟨m,k1,v1,hm,e3⟩
 have DH:∀x,Hn x->x<w'.heap.size/\(w.heap.size<=x\/cU n x)/\∀j sh,σ (hn j x sh)=none:=fun x hx=>by
  rcases hx with⟨m,o,M,hm,q,e⟩|⟨m,k1,v1,hm,q⟩
  ·obtain⟨x1,M1,o',e1,e2,_,e4⟩:=qI m o hm;rw[e] at e1;cases e1;refine⟨ib e2,e4 q,fun j sh=>Classical.byContradiction fun z=>?_⟩;obtain⟨_,_,_,_,_,_,_,z3,_⟩:=q3.fz j x sh z;exact z3 m o M (fX m o hm) (hL m o hm) q e
  ·obtain⟨b1,N1,_,_,_,e4⟩:=t1 m k1 v1 (fX _ _ hm)<|hL _ _ hm;obtain⟨⟨c1,_⟩,c2,_,c4⟩:=e4 x q;exact⟨c1,c2,c4⟩
 refine⟨⟨hl,fun k hk _=>cL k hk⟩,fun k x hk e=>by rw[gG k hk];exact e,⟨fun m o hm ho=>?_,fun m m2 o p x M M2 hm cN ho hp cP e1 e2=>?_,fun m i es ex left cur hm ho=>?_,fun x hx=>r.size x<|Nat.le_trans q4.size hx,fun i j m es ex left cur gY iU iH iJ hi hj ho hp=>?_,fun j x sh e=>?_,?_⟩,Bp⟩
 ·rw[g m hm] at ho;by_cases q:m=n
  ·subst q;rw[if_pos rfl] at ho;cases ho;obtain⟨x,M,o',e1,e2,_,_⟩:=qI J oR hR;rw[oH] at e1;cases e1;exact⟨b,N,o',(cL m hm).trans hr,e2,trivial,fun z=>by cases z⟩
  ·rw[if_neg q] at ho;obtain⟨b1,N1,o1,e1,e2,e3,e4⟩:=r.is m o hm ho;exact⟨b1,N1,o1,(cL m hm).trans e1,(mK b1 (ib e2)<|other m o b1 N1 hm q ho e1).trans e2,e3.mono hl,e4⟩
 ·rw[cL m hm] at e1;rw[cL m2 cN] at e2;rw[g m hm] at ho;rw[g m2 cN] at hp;have dy:∀m o,(if m=n then some (ae.tok k v') else h.get m)=some o->∃q,h.get m=some q/\(o.dh=false->q.dh=false):=fun m o ho=>by
   by_cases q:m=n
   ·rw[if_pos q] at ho;cases ho;rw[q];exact⟨_,hg,fun z=>by cases z⟩
   ·rw[if_neg q] at ho;exact⟨o,ho,id⟩
  obtain⟨o1,a1,a2⟩:=dy m o ho;obtain⟨o2,a3,a4⟩:=dy m2 p hp;exact r.one m m2 o1 o2 x M M2 hm cN a1 a3 (cP.imp a2 a4) e1 e2
 ·rw[g m hm] at ho;by_cases q:m=n
  ·rw[if_pos q] at ho;cases ho
  ·rw[if_neg q] at ho;obtain⟨hi,fq,b1,N1,bm,M,l,bp,seen,u1,u2,u3,u4,u5⟩:=r.iter m i es ex left cur hm ho;have iu:i≠n:=by intro e;subst e;rw[hg] at fq;cases fq
   have u:mT ρ w' m i es ex left cur:=⟨b1,N1,bm,M,l,bp,seen,u1,u2,(mK b1 (ib u3)<|other m _ b1 N1 hm q ho u1).trans u3,(mK bm (ib u4)<|other i _ bm M hi iu fq u2).trans u4,u5⟩;exact⟨hi,by rw[g i hi,if_neg iu];exact fq,u.mono hl⟩
 ·rw[g i hi] at ho;rw[g j hj] at hp;by_cases q:i=n
  ·rw[if_pos q] at ho;cases ho
  ·rw[if_neg q] at ho;by_cases q2:j=n
   ·rw[if_pos q2] at hp;cases hp
   ·rw[if_neg q2] at hp;exact r.lone i j m es ex left cur gY iU iH iJ hi hj ho hp
 ·rw[gG _<|gb _ _ _] at e;obtain⟨g0,l,c,e',fr,g1,g2,_,g4⟩:=q3.fz j x sh e;have mF:∀i y,l[i]? =some y->∃v,c[sh+i]? =some v/\VR (gm<|cC ρ σ) y v/\y.bR=true:=fun i y hy=>by
   obtain⟨v,k1,k2,k3⟩:=g4 i y hy;refine⟨v,k1,VR.mono (fun z u q=>?_) _ _ k2,k3⟩;unfold gm at q ⊢;split at q
   ·rename_i hk;rw[if_pos hk,gG z hk];exact q
   ·cases q
  by_cases q:ρ (hn j x sh)≠none
  ·obtain⟨z0,l',c',e2,ks,z1,z2,z3,_⟩:=r.fz j x sh q;exact⟨z0,l,c,e',fr,g1,g2,rU x z3,mF⟩
  ·rcases g0.resolve_left q with z|z
   ·have z:w.heap.size<=x:=z;exact⟨.inr<|r.size x z,l,c,e',fr,g1,g2,zq x z,mF⟩
   ·exact⟨.inr (hH x z).2.1,l,c,e',fr,g1,g2,rU x (hH x z).2.2.1,mF⟩
 ·let H':Nat->Nat->Prop:=fun m x=>if m=n then Hn x else cU m x
  have Qz:∀x,Hn x->H' n x:=fun x hx=>by show(if n=n then Hn x else _);rw[if_pos rfl];exact hx
  have hsn:∀x,H' n x->Hn x:=fun x hx=>by have hx:(if n=n then Hn x else cU n x):=hx;rw[if_pos rfl] at hx;exact hx
  have hso:∀m x,m≠n->H' m x->cU m x:=fun m x hm hx=>by have hx:(if m=n then Hn x else cU m x):=hx;rw[if_neg hm] at hx;exact hx
  have ahY:∀m x,m≠n->cU m x->H' m x:=fun m x hm hx=>by show(if m=n then Hn x else cU m x);rw[if_neg hm];exact hx
  have B0:H' n=Hn:=funext fun x=>propext ⟨hsn x,Qz x⟩;have ym:∀m,m≠n->H' m=cU m:=fun m hm=>funext fun x=>propext ⟨hso m x hm,ahY m x hm⟩;refine⟨⟨Nat.le_trans r.tk.1.1 q4.size,fun m o hm ho hf=>?_⟩,H',fun m k1 v1 hm ho=>?_,fun m m2 x k1 v1 k2 v2 hm cN ho hp cf y1 y2=>?_⟩
  ·rw[g m hm] at ho;by_cases q:m=n
   ·rw[if_pos q] at ho;cases ho;cases hf
   ·rw[if_neg q] at ho;obtain⟨b1,N1,e1,e2⟩:=r.tk.1.2 m o hm ho hf;exact⟨b1,N1,(cL m hm).trans e1,e2⟩
  ·rw[g m hm] at ho;by_cases q:m=n
   ·subst q;rw[if_pos rfl] at ho;cases ho;rw[B0];refine⟨b,N,(cL m hm).trans hr,?_,FY J oR hR b N0 oH,fun x hx=>?_⟩
    ·rw[hT];let bl:Nat->Nat:=fun m=>match σ m with|some (x,_)=>x|none=>0
     have nk:∀m x M,σ m=some (x,M)->bl m=x:=fun m x M e=>by show(match σ m with|some (x,_)=>x|none=>0)=x;rw[e]
     refine .mk L' (fun m=>if m∈L'.map (·.1) then σ m else none) bl Hq N0 hx ?_ (fun m hm=>?_) (fun m o hm=>?_) (fun m m2 o p hm cN e=>?_) (fun m k1 v1 hm=>?_) (fun m k1 v1 hm=>?_) (fun m k1 v1 hm x hx=>.inr ⟨m,k1,v1,hm,hx⟩) (fun m k1 v1 m2 o hm cN ho y=>?_) fun m k1 v1 m2 k2 v2 x hm cN cf y1 y2=>t2 m m2 x k1 v1 k2 v2 (fX _ _ hm) (fX _ _ cN) (hL _ _ hm) (hL _ _ cN) cf y1 y2
     ·rw[if_pos<|List.mem_map.2 ⟨_,hR,rfl⟩];exact oH
     ·refine if_neg fun z=>?_;obtain⟨p,hp,rfl⟩:=List.mem_map.1 z;have:=(nm p hp).1;omega
     ·obtain⟨x,M,o',e1,e2,e3,_⟩:=qI m o hm;refine⟨M,o',?_,by rw[nk m x M e1];exact e2,?_,by rw[nk m x M e1];exact FY m o hm x M e1⟩
      ·rw[if_pos<|List.mem_map.2 ⟨_,hm,rfl⟩,nk m x M e1];exact e1
      ·refine((nm _ hm).2.2.2 _ _ _ e3).mono fun i y hi=>?_;have hi:(if top<=i\/i∈L'.map (·.1) then σ i else none)=some y:=hi;unfold xV;split at hi
       ·rename_i q;rcases q with q|q
        ·rw[if_pos q,gG i q];exact hi
        ·by_cases z:top<=i
         ·rw[if_pos z,gG i z];exact hi
         ·rw[if_neg z];show(if i∈L'.map (·.1) then σ i else none)=_;rw[if_pos q];exact hi
       ·cases hi
     ·obtain⟨x,M,_,e1,_,_,_⟩:=qI m o hm;obtain⟨x2,M2,_,e2,_,_,_⟩:=qI m2 p cN;rw[nk m x M e1,nk m2 x2 M2 e2] at e;subst e;rcases kind m o hm with y|⟨k1,v1,rfl⟩
      ·exact q3.one m m2 o p x M M2 (fX _ _ hm) (fX _ _ cN) (hL _ _ hm) (hL _ _ cN) (.inl y) e1 e2
      ·rcases kind m2 p cN with y|⟨k2,v2,rfl⟩
       ·exact q3.one m m2 _ p x M M2 (fX _ _ hm) (fX _ _ cN) (hL _ _ hm) (hL _ _ cN) (.inr y) e1 e2
       ·refine Classical.byContradiction fun cf=>?_;obtain⟨b1,N1,f1,_,f3,_⟩:=t1 m k1 v1 (fX _ _ hm)<|hL _ _ hm;obtain⟨b2,N2,f4,_,f6,_⟩:=t1 m2 k2 v2 (fX _ _ cN)<|hL _ _ cN;rw[e1] at f1;cases f1;rw[e2] at f4;cases f4;exact t2 m m2 x k1 v1 k2 v2 (fX _ _ hm) (fX _ _ cN) (hL _ _ hm) (hL _ _ cN) cf f3 f6
     ·obtain⟨b1,N1,f1,f2,_,_⟩:=t1 m k1 v1 (fX _ _ hm)<|hL _ _ hm;rw[nk m b1 N1 f1];have f2:B.inv k1 v1 σ w' b1<|Hq m:=f2;rw[hT] at f2;exact f2.mono (fun i y hi e=>by rw[gG i hi];exact e) fun _ _=>rfl
     ·obtain⟨b1,N1,f1,_,f3,_⟩:=t1 m k1 v1 (fX _ _ hm)<|hL _ _ hm;rw[nk m b1 N1 f1];exact f3
     ·obtain⟨b1,N1,_,_,_,f4⟩:=t1 m k1 v1 (fX _ _ hm)<|hL _ _ hm;obtain⟨x2,M2,_,e2,_,_,_⟩:=qI m2 o cN;rw[nk m2 x2 M2 e2] at y;obtain⟨_,_,c3,_⟩:=f4 x2 y;rcases kind m2 o cN with z|⟨k2,v2,rfl⟩
      ·exact c3 m2 o M2 (fX _ _ cN) (hL _ _ cN) z e2
      ·cases ho
    ·obtain⟨c1,c2,c3⟩:=DH x hx;refine⟨⟨c1,?_⟩,?_,?_,fun j sh=>by rw[gG _<|gb _ _ _];exact c3 j sh⟩
     ·rcases c2 with z|z
      ·exact Nat.le_trans r.tk.1.1 z
      ·exact(hH x z).1.2
     ·rcases c2 with z|z
      ·exact r.size x z
      ·exact(hH x z).2.1
     ·rcases c2 with z|z
      ·exact zq x z
      ·exact rU x (hH x z).2.2.1
   ·rw[if_neg q] at ho;rw[ym m q];obtain⟨b1,N1,f1,f2,f3,f4⟩:=h1 m k1 v1 hm ho;refine⟨b1,N1,(cL m hm).trans f1,B.mono f2 (fun i y _ e=>hl _ _ e) fun x hx=>?_,f3,fun x hx=>?_⟩
    ·exact mK x (f4 x hx).1.1 fun z=>h2 n m x k v k1 v1 oZ hm hg ho (Ne.symm q) z hx
    ·obtain⟨⟨c1,cl⟩,c2,c3,c4⟩:=f4 x hx;refine⟨⟨Nat.lt_of_lt_of_le c1 q4.size,cl⟩,c2,rU x c3,fun j sh=>Classical.byContradiction fun z=>?_⟩;rw[gG _<|gb _ _ _] at z;rcases(q3.fz j x sh z).1 with y|y
     ·exact y<|c4 j sh
     ·rcases y with y|y
      ·have y:w.heap.size<=x:=y;omega
      ·exact h2 n m x k v k1 v1 oZ hm hg ho (Ne.symm q) y hx
  ·rw[g m hm] at ho;rw[g m2 cN] at hp;have cl:∀m k1 v1,m<top->m≠n->h.get m=some (.tok k1 v1)->∀x,Hn x->¬cU m x:=fun m k1 v1 hm cf ho x hx y=>by
    obtain⟨_,c2,_⟩:=DH x hx;rcases c2 with z|z
    ·obtain⟨b1,N1,_,_,_,f4⟩:=h1 m k1 v1 hm ho;have:=(f4 x y).1.1;omega
    ·exact h2 n m x k v k1 v1 oZ hm hg ho (Ne.symm cf) z y
   by_cases q:m=n
   ·rw[if_pos q] at ho;cases ho;have q2:m2≠n:=fun e=>cf<|q.trans e.symm;rw[if_neg q2] at hp;rw[q,B0] at y1;rw[ym m2 q2] at y2;exact cl m2 k2 v2 cN q2 hp x y1 y2
   ·rw[if_neg q] at ho;rw[ym m q] at y1;by_cases q2:m2=n
    ·rw[if_pos q2] at hp;cases hp;rw[q2,B0] at y2;exact cl m k1 v1 hm q ho x y2 y1
    ·rw[if_neg q2] at hp;rw[ym m2 q2] at y2;exact h2 m m2 x k1 v1 k2 v2 hm cN ho hp cf y1 y2
end Go.Rn
namespace Go.Rn
open Go.RowKit
variable {s1 s:AS}
theorem TH{n:Nat}{o:Option ae}{u:Unit}(h:kZ n o s= .ok u s1):
 n<s.nx/\n<top/\s1.h=s.h.put n o/\s1.nx=s.nx:=by
 obtain⟨h1,h2,h3,rfl⟩:=Uu h;by_cases e:n<s.mark
 ·rw[if_pos e];exact⟨h1,h2,rfl,rfl⟩
 ·rw[if_neg e];exact⟨h1,h2,rfl,rfl⟩
def iS(X:TX)(P:Program)(rs:List ResultVar)(k:Nat)(y:AV)(v':AV):=Fin P rs fun y1 s'=>y1=y/\∃L',X k v' L'/\∀m o,(m,o)∈L'->s'.h.get m=some o
theorem TI{X:TX}{P:Program}{B:aJ}{f J k:Nat}{ns:List Nat}{h0:Tr ae}{kn:List<|Nat×Option ae}{val:AV->List AV->Option (AV×AV)}{fn:Func}{body:Code}{ρ:Ren}{w:World}(hX:yk X J)(hT:B.inv=nH X J)(hP:bS P)(cj:P.funcs[f]? =some fn)(ct:fn.body=some body)(dE:(fn.name == "runtime.NumGoroutine")=false)(fY:fI<=J)(dK:J<=top)(dJ:∀n o,n<top->h0.get n=some o->n∈ns)(eD:∀n∈ns,n<J)(jl:∀n o,(n,some o)∈kn->h0.get n=some o)(jr:∀p∈kn,p.1<top)(eT:∀v rest y v',val v rest=some (y,v')->max fn.ntmps (rest.length+1)<=top/\∀L,X k v L->∃nx,J<nx/\nx<=top/\(∀p∈L,p.1<nx)/\∀B':aJ,B'.F=B.F->B'.inv=B.inv->
 au P B' (J+1) (iS X P fn.results.toList k y v') ⟨f,dt<|.ptr (some (J,0))::rest,max fn.ntmps<|rest.length+1,[.code body],[],none⟩ ⟨fR<|kn++aX L,nx,0,[],[]⟩){YG:aK}{args:List AV}{x:AV}{vs:Array Value}(r:Rel B ρ s.h w)(hg:gC ρ)(h:xW J ns h0 k val YG args s= .ok x s1)(hv:ay ρ args vs.toList):jg P ((callFunc f vs).run P w)<|ki B ρ s s1 w x:=by
 unfold xW at h;split at h
 ·rename_i n rest;obtain⟨hh,h1⟩:=cV h;obtain⟨gG,GN⟩:=and_true.1 hh;obtain⟨u,s2,h2,h3⟩:=M.aN h1;obtain⟨o,s3,h4,h5⟩:=M.aN h3;obtain⟨a1,a2,a3⟩:=uC h2;obtain⟨b1,b2,b3,b4⟩:=fU h4;split at h5
  ·rename_i k' v;obtain⟨hk,h6⟩:=cV h5;have hk:=Nat.eq_of_beq_eq_true hk;subst hk;obtain⟨p,h7,h8⟩:=bu h6;obtain⟨h9,gE⟩:=cV h8;obtain⟨u2,s4,ug,qF⟩:=M.aN gE;obtain⟨rfl,rfl⟩:=bA qF;obtain⟨c1,c2,c3,c4⟩:=TH ug;obtain⟨y,v'⟩:=p;have iR:s.h.get n=some (.tok k v):=by rw[←a1];exact b2
   obtain⟨_,cU,t1,t2⟩:=r.tk;obtain⟨b,N,d1,d2,d3,d4⟩:=t1 n k v c2 iR;have XF:=d2;rw[hT] at XF;obtain⟨L,loc,N0,hx,oH,agj,nJ⟩:=agh hX hT dK r dJ eD jl jr (fun n hn=>by obtain⟨_,o,p,h⟩:=a3 n hn;exact⟨o,p,h⟩) d4 XF;obtain⟨q1,q2⟩:=eT _ _ _ _ h7;obtain⟨nx,n1,n2,n3,q3⟩:=q2 L hx;have fi:bB (⟨fR<|kn++aX L,nx,0,[],[]⟩:AS):=⟨Nat.zero_le _,n2⟩;have ahZ:J<top:=Nat.lt_of_lt_of_le n1 n2;have hi:jh ρ<|mg J ρ loc:=fun m x hm e=>by unfold mg;rw[if_neg aj,if_pos hm];exact e
   have Vr:mg J ρ loc J=some (b,N0):=by unfold mg;rw[if_neg aj,if_neg aj];exact oH
   have kq:ay (mg J ρ loc) (.ptr (some (J,0))::rest) vs.toList:=by simp only[ay,VR] at hv ⊢;obtain⟨v0,vr,e1,⟨b',N',e2,e3⟩,e4⟩:=hv;rw[d1] at e2;cases e2;exact⟨v0,vr,e1,⟨b,N0,Vr,e3⟩,AV.A0 hi gG e4⟩
   have bG:=au.FB (B:=tw B ρ w<|cU n) (s:=⟨fR<|kn++aX L,nx,0,[],[]⟩) (args:=.ptr (some (J,0))::rest) (vs:=vs) hP cj ct q1 (q3 _ rfl rfl) fi nJ (fun g iF=>by
    obtain⟨N,e⟩:=hg g iF;exact⟨N,by unfold mg;rw[if_pos<|Nat.lt_of_lt_of_le iF fY];exact e⟩) (fun m hm j9=>by
    have hm:nx<=m:=hm;unfold mg;rw[if_neg aj,if_neg aj];cases e:loc m with
    |none=>rfl
    |some z=>obtain⟨o,q⟩:=agj m z e;have:=n3 _ q;have:m<nx:=this;omega) kq
   rw[si cj ct dE];show Calls P f vs w _;refine bG.mono fun e w'=>?_;rintro ⟨y1,x',s5,rfl,⟨rfl,L',qG,KV⟩,_,σ,e0,GY,e1,e2,e3⟩;obtain⟨g1,g2,g3,g4⟩:=aeX (a:=s.nx) (v':=v') hX hT c2 iR d1 r t1 t2 e2 e3 ((e0 J (Nat.lt_succ_self _) ahZ).trans Vr) (fun m z hm q=>GY m z hm<|hi m z hm q) qG KV;refine⟨y1,rfl,cC ρ σ,by rw[c4,b4,a2];exact g1,AV.pB g2 h9 e1,?_,g4⟩;rw[c3,b3,a1];exact g3
  ·cases h5
 ·cases h
end Go.Rn
namespace Go.Rn
open Go.RowKit
theorem aeY{X:TX}{J k a:Nat}{v:AV}{B:aJ}{ρ σ:Ren}{w w':World}{h h4:Tr ae}{b N0:Nat}{L':List<|Nat×ae}(hX:yk X J)(hT:B.inv=nH X J)(ht:J<=top)(ax:a<top)(ha:ρ a=none)(r:Rel B ρ h w)(q3:Rel (rk B ρ w) σ h4 w')(q4:cw (rk B ρ w) w w')(hle:(gi J ρ).le σ)(oH:σ J=some (b,N0))(hx:X k v L')(hL:∀m o,(m,o)∈L'->h4.get m=some o):
 Ext a (a+1) ρ (eM (cC ρ σ) a (b,0))/\jh σ (eM (cC ρ σ) a (b,0))/\Rel B (eM (cC ρ σ) a (b,0)) (h.put a<|some<|.tok k v) w'/\cw B w w':=by
 obtain⟨b1,b2,R1,b4⟩:=I7 (a:=a) ht r q3 q4 hle;have nm:=hX.nm k v L' hx;have cL:∀k,k<top->cC ρ σ k=ρ k:=fun k hk=>by unfold cC;rw[if_neg aj]
 have gG:∀k,top<=k->cC ρ σ k=σ k:=fun k hk=>by unfold cC;rw[if_pos hk]
 have QA:cC ρ σ a=none:=(cL a ax).trans ha;have hl:(cC ρ σ).le<|eM (cC ρ σ) a (b,0):=oi QA;have DI:∀k,top<=k->eM (cC ρ σ) a (b,0) k=σ k:=fun k hk=>by rw[gI _ _ aj];exact gG k hk
 have ko:h.get a=none:=by
  cases e:h.get a with
  |none=>rfl
  |some p=>obtain⟨_,_,_,h1,_⟩:=r.is a p ax e;rw[ha] at h1;cases h1
 have g:∀m,m<top->(h.put a<|some<|.tok k v).get m=if m=a then some (.tok k v) else h.get m:=fun m hm=>Tr.da _ _ _ _ ax hm
 have mK:∀x,x<w.heap.size->w'.heap[x]? =w.heap[x]? :=fun x hx=>q4.block x hx fun z=>by have z:w.heap.size<=x:=z;omega
 have rU:∀x,jZ ρ h x->jZ (eM (cC ρ σ) a (b,0)) (h.put a<|some<|.tok k v) x:=fun x hn m o M hm ho cq e=>by
  rw[g m hm] at ho;by_cases q:m=a
  ·rw[if_pos q] at ho;cases ho;cases cq
  ·rw[if_neg q] at ho;rw[gI _ _ q,cL m hm] at e;exact hn m o M hm ho cq e
 have zq:∀x,w.heap.size<=x->jZ ρ h x:=fun x hx m o M hm ho cq e=>by obtain⟨b1,N1,o1,e1,e2,_⟩:=r.is m o hm ho;rw[e] at e1;cases e1;have:=ib e2;omega
 obtain⟨⟨_,_⟩,cU,h1,h2⟩:=r.tk;obtain⟨⟨_,_⟩,Hq,t1,t2⟩:=q3.tk;obtain⟨oR,hR⟩:=hX.root k v L' hx;have fX:∀m o,(m,o)∈L'->m<top:=fun m o hm=>(nm _ hm).2.1;have qI:∀m o,(m,o)∈L'->∃x M o',σ m=some (x,M)/\w'.heap[x]? =some o'/\OR σ M o o'/\(o.dh=false->w.heap.size<=x):=fun m o hm=>q3.is m o (fX m o hm)<|hL m o hm;have kind:∀m o,(m,o)∈L'->o.dh=false\/∃k1 v1,o= .tok k1 v1:=fun m o hm=>by
  rcases(nm _ hm).2.2.1 with y|y
  ·exact .inl (ae.uG y).2
  ·cases o<;>first|exact .inr ⟨_,_,rfl⟩|cases y
 let Hn:Nat->Prop:=fun x=>(∃m o M,(m,o)∈L'/\o.dh=false/\σ m=some (x,M))\/∃m k1 v1,(m,ae.tok k1 v1)∈L'/\Hq m x;have FY:∀m o,(m,o)∈L'->∀x M,σ m=some (x,M)->Hn x:=fun m o hm x M e=>by
  rcases kind m o hm with q|⟨k1,v1,rfl⟩
  ·exact .inl ⟨m,o,M,hm,q,e⟩
  ·obtain⟨b1,N1,e1,_,e3,_⟩:=t1 m k1 v1 (fX _ _ hm)<|hL _ _ hm;rw[e] at e1;cases e1;exact .inr ⟨m,k1,v1,hm,e3⟩
 have DH:∀x,Hn x->x<w'.heap.size/\w.heap.size<=x/\∀j sh,σ (hn j x sh)=none:=fun x hx=>by
  rcases hx with⟨m,o,M,hm,q,e⟩|⟨m,k1,v1,hm,q⟩
  ·obtain⟨x1,M1,o',e1,e2,_,e4⟩:=qI m o hm;rw[e] at e1;cases e1;refine⟨ib e2,e4 q,fun j sh=>Classical.byContradiction fun z=>?_⟩;obtain⟨_,_,_,_,_,_,_,z3,_⟩:=q3.fz j x sh z;exact z3 m o M (fX m o hm) (hL m o hm) q e
  ·obtain⟨b1,N1,_,_,_,e4⟩:=t1 m k1 v1 (fX _ _ hm)<|hL _ _ hm;obtain⟨⟨c1,_⟩,c2,_,c4⟩:=e4 x q;exact⟨c1,c2,c4⟩
 have GZ:Hn b:=FY J oR hR b N0 oH;refine⟨⟨Ren.le_trans b1.le hl,fun k hk hka=>(gI _ _ aj).trans<|b1.out k hk aj⟩,fun m x hm e=>by rw[DI m hm];exact e,⟨fun m o hm ho=>?_,fun m m2 o p x M M2 hm cN ho hp cP e1 e2=>?_,fun m i es ex left cur hm ho=>?_,R1.size,fun i j m es ex left cur gY iU iH iJ hi hj ho hp=>?_,fun j x sh e=>?_,?_⟩,b4⟩
 ·rw[g m hm] at ho;by_cases q:m=a
  ·subst q;rw[if_pos rfl] at ho;cases ho;obtain⟨x,M,o',e1,e2,_,_⟩:=qI J oR hR;rw[oH] at e1;cases e1;exact⟨b,0,o',iP _ _ _,e2,trivial,fun z=>by cases z⟩
  ·rw[if_neg q] at ho;obtain⟨b1,N1,o1,e1,e2,e3,e4⟩:=R1.is m o hm ho;exact⟨b1,N1,o1,hl _ _ e1,e2,e3.mono hl,e4⟩
 ·rw[g m hm] at ho;rw[g m2 cN] at hp;have rM:∀m o M,m<top->h.get m=some o->o.dh=false->ρ m=some (b,M)->False:=fun m o M hm ho cq e=>zq b (DH b GZ).2.1 m o M hm ho cq e;by_cases q:m=a
  ·rw[if_pos q] at ho;cases ho;by_cases q2:m2=a
   ·rw[q,q2]
   ·rw[if_neg q2] at hp;rw[q,iP] at e1;cases e1;rw[gI _ _ q2,cL m2 cN] at e2;exact(rM m2 p M2 cN hp (cP.resolve_left fun z=>by cases z) e2).elim
  ·rw[if_neg q] at ho;by_cases q2:m2=a
   ·rw[if_pos q2] at hp;cases hp;rw[q2,iP] at e2;cases e2;rw[gI _ _ q,cL m hm] at e1;exact(rM m o M hm ho (cP.resolve_right fun z=>by cases z) e1).elim
   ·rw[if_neg q2] at hp;rw[gI _ _ q] at e1;rw[gI _ _ q2] at e2;exact R1.one m m2 o p x M M2 hm cN ho hp cP e1 e2
 ·rw[g m hm] at ho;by_cases q:m=a
  ·rw[if_pos q] at ho;cases ho
  ·rw[if_neg q] at ho;obtain⟨hi,fq,u⟩:=R1.iter m i es ex left cur hm ho;have iu:i≠a:=by intro e;subst e;rw[ko] at fq;cases fq
   exact⟨hi,by rw[g i hi,if_neg iu];exact fq,u.mono hl⟩
 ·rw[g i hi] at ho;rw[g j hj] at hp;by_cases q:i=a
  ·rw[if_pos q] at ho;cases ho
  ·rw[if_neg q] at ho;by_cases q2:j=a
   ·rw[if_pos q2] at hp;cases hp
   ·rw[if_neg q2] at hp;exact R1.lone i j m es ex left cur gY iU iH iJ hi hj ho hp
 ·rw[gI _ _ (by have:=gb j x sh;omega)] at e;obtain⟨g0,l,c,e',fr,g1,g2,g3,g4⟩:=R1.fz j x sh e;refine⟨g0,l,c,e',fr,g1,g2,fun m o M hm ho cq e=>?_,fun i y hy=>by obtain⟨v,k1,k2,k3⟩:=g4 i y hy;exact⟨v,k1,VR.mono (EV hl) _ _ k2,k3⟩⟩;rw[g m hm] at ho;by_cases q:m=a
  ·rw[if_pos q] at ho;cases ho;cases cq
  ·rw[if_neg q] at ho;rw[gI _ _ q] at e;exact g3 m o M hm ho cq e
 ·let H':Nat->Nat->Prop:=fun m x=>if m=a then Hn x else cU m x
  have B0:H' a=Hn:=funext fun x=>if_pos rfl;have ym:∀m,m≠a->H' m=cU m:=fun m hm=>funext fun x=>if_neg hm;refine⟨⟨Nat.le_trans r.tk.1.1 q4.size,fun m o hm ho hf=>?_⟩,H',fun m k1 v1 hm ho=>?_,fun m m2 x k1 v1 k2 v2 hm cN ho hp cf y1 y2=>?_⟩
  ·rw[g m hm] at ho;by_cases q:m=a
   ·rw[if_pos q] at ho;cases ho;cases hf
   ·rw[if_neg q] at ho;obtain⟨b1,N1,e1,e2⟩:=r.tk.1.2 m o hm ho hf;exact⟨b1,N1,(gI _ _ q).trans<|(cL m hm).trans e1,e2⟩
  ·rw[g m hm] at ho;by_cases q:m=a
   ·subst q;rw[if_pos rfl] at ho;cases ho;rw[B0];refine⟨b,0,iP _ _ _,?_,GZ,fun x hx=>?_⟩
    ·rw[hT];let bl:Nat->Nat:=fun m=>match σ m with|some (x,_)=>x|none=>0
     have nk:∀m x M,σ m=some (x,M)->bl m=x:=fun m x M e=>by show(match σ m with|some (x,_)=>x|none=>0)=x;rw[e]
     refine .mk L' (fun m=>if m∈L'.map (·.1) then σ m else none) bl Hq N0 hx ?_ (fun m hm=>?_) (fun m o hm=>?_) (fun m m2 o p hm cN e=>?_) (fun m k1 v1 hm=>?_) (fun m k1 v1 hm=>?_) (fun m k1 v1 hm x hx=>.inr ⟨m,k1,v1,hm,hx⟩) (fun m k1 v1 m2 o hm cN ho y=>?_) fun m k1 v1 m2 k2 v2 x hm cN cf y1 y2=>t2 m m2 x k1 v1 k2 v2 (fX _ _ hm) (fX _ _ cN) (hL _ _ hm) (hL _ _ cN) cf y1 y2
     ·rw[if_pos<|List.mem_map.2 ⟨_,hR,rfl⟩];exact oH
     ·refine if_neg fun z=>?_;obtain⟨p,hp,rfl⟩:=List.mem_map.1 z;have:=(nm p hp).1;omega
     ·obtain⟨x,M,o',e1,e2,e3,_⟩:=qI m o hm;refine⟨M,o',?_,by rw[nk m x M e1];exact e2,?_,by rw[nk m x M e1];exact FY m o hm x M e1⟩
      ·rw[if_pos<|List.mem_map.2 ⟨_,hm,rfl⟩,nk m x M e1];exact e1
      ·refine((nm _ hm).2.2.2 _ _ _ e3).mono fun i y hi=>?_;have hi:(if top<=i\/i∈L'.map (·.1) then σ i else none)=some y:=hi;unfold xV;split at hi
       ·rename_i q;rcases q with q|q
        ·rw[if_pos q,DI i q];exact hi
        ·by_cases z:top<=i
         ·rw[if_pos z,DI i z];exact hi
         ·rw[if_neg z];show(if i∈L'.map (·.1) then σ i else none)=_;rw[if_pos q];exact hi
       ·cases hi
     ·obtain⟨x,M,_,e1,_,_,_⟩:=qI m o hm;obtain⟨x2,M2,_,e2,_,_,_⟩:=qI m2 p cN;rw[nk m x M e1,nk m2 x2 M2 e2] at e;subst e;rcases kind m o hm with y|⟨k1,v1,rfl⟩
      ·exact q3.one m m2 o p x M M2 (fX _ _ hm) (fX _ _ cN) (hL _ _ hm) (hL _ _ cN) (.inl y) e1 e2
      ·rcases kind m2 p cN with y|⟨k2,v2,rfl⟩
       ·exact q3.one m m2 _ p x M M2 (fX _ _ hm) (fX _ _ cN) (hL _ _ hm) (hL _ _ cN) (.inr y) e1 e2
       ·refine Classical.byContradiction fun cf=>?_;obtain⟨b1,N1,f1,_,f3,_⟩:=t1 m k1 v1 (fX _ _ hm)<|hL _ _ hm;obtain⟨b2,N2,f4,_,f6,_⟩:=t1 m2 k2 v2 (fX _ _ cN)<|hL _ _ cN;rw[e1] at f1;cases f1;rw[e2] at f4;cases f4;exact t2 m m2 x k1 v1 k2 v2 (fX _ _ hm) (fX _ _ cN) (hL _ _ hm) (hL _ _ cN) cf f3 f6
     ·obtain⟨b1,N1,f1,f2,_,_⟩:=t1 m k1 v1 (fX _ _ hm)<|hL _ _ hm;rw[nk m b1 N1 f1];have f2:B.inv k1 v1 σ w' b1<|Hq m:=f2;rw[hT] at f2;exact f2.mono (fun i y hi e=>by rw[DI i hi];exact e) fun _ _=>rfl
     ·obtain⟨b1,N1,f1,_,f3,_⟩:=t1 m k1 v1 (fX _ _ hm)<|hL _ _ hm;rw[nk m b1 N1 f1];exact f3
     ·obtain⟨b1,N1,_,_,_,f4⟩:=t1 m k1 v1 (fX _ _ hm)<|hL _ _ hm;obtain⟨x2,M2,_,e2,_,_,_⟩:=qI m2 o cN;rw[nk m2 x2 M2 e2] at y;obtain⟨_,_,c3,_⟩:=f4 x2 y;rcases kind m2 o cN with z|⟨k2,v2,rfl⟩
      ·exact c3 m2 o M2 (fX _ _ cN) (hL _ _ cN) z e2
      ·cases ho
    ·obtain⟨c1,c2,c3⟩:=DH x hx;exact⟨⟨c1,Nat.le_trans r.tk.1.1 c2⟩,r.size x c2,rU x<|zq x c2,fun j sh=>by rw[DI _<|gb _ _ _];exact c3 j sh⟩
   ·rw[if_neg q] at ho;rw[ym m q];obtain⟨XG,N1,f1,f2,f3,f4⟩:=h1 m k1 v1 hm ho;refine⟨XG,N1,(gI _ _ q).trans<|(cL m hm).trans f1,B.mono f2 (fun i y _ e=>hl _ _<|b1.le _ _ e) fun x hx=>mK x (f4 x hx).1.1,f3,fun x hx=>?_⟩;obtain⟨⟨c1,cl⟩,c2,c3,c4⟩:=f4 x hx;refine⟨⟨Nat.lt_of_lt_of_le c1 q4.size,cl⟩,c2,rU x c3,fun j sh=>Classical.byContradiction fun z=>?_⟩;rw[DI _<|gb _ _ _] at z;rcases(q3.fz j x sh z).1 with y|y
    ·exact y<|c4 j sh
    ·have y:w.heap.size<=x:=y;omega
  ·rw[g m hm] at ho;rw[g m2 cN] at hp;have cl:∀m k1 v1,m<top->h.get m=some (.tok k1 v1)->∀x,Hn x->¬cU m x:=fun m k1 v1 hm ho x hx y=>by obtain⟨_,c2,_⟩:=DH x hx;obtain⟨b1,N1,_,_,_,f4⟩:=h1 m k1 v1 hm ho;have:=(f4 x y).1.1;omega
   by_cases q:m=a
   ·have q2:m2≠a:=fun e=>cf<|q.trans e.symm;rw[if_neg q2] at hp;rw[q,B0] at y1;rw[ym m2 q2] at y2;exact cl m2 k2 v2 cN hp x y1 y2
   ·rw[if_neg q] at ho;rw[ym m q] at y1;by_cases q2:m2=a
    ·rw[q2,B0] at y2;exact cl m k1 v1 hm ho x y2 y1
    ·rw[if_neg q2] at hp;rw[ym m2 q2] at y2;exact h2 m m2 x k1 v1 k2 v2 hm cN ho hp cf y1 y2
end Go.Rn
namespace Go.Rn
open Go.RowKit
variable {J:Nat} {x:AV}
noncomputable section
def Bs(J:Nat)(ns:List Nat)(h0:Tr ae)(k:Nat)(val:List AV->Option (Option AV×(AV->AV))):aK->List AV->M AV:=fun _ args=>
 aG (args.all AV.hi) <| (fG J h0 ns).bind fun _=>aB (val args) fun p=>match p.1 with
  |none=>aG (p.2<|.ptr none).hi <| M.pure<|p.2<|.ptr none
  |some v=>(gA<|.tok k v).bind fun n=>M.pure<|p.2<|.ptr<|some (n,0)
end
theorem YF.Bs(J:Nat)(ns:List Nat)(h0:Tr ae)(k:Nat)(val:List AV->Option (Option AV×(AV->AV)))(YG:aK)(args:List AV):YF<|Bs J ns h0 k val YG args:=by
 refine YF.aG fun _=>YF.bind (YF.fG J h0 ns) fun _=>YF.aB fun p _=>?_;split
 ·exact YF.aG fun _=>YF.pure _
 ·exact YF.bind (YF.gA _) fun _=>YF.pure _
def za(J:Nat)(res:AV->AV):Prop:=∀(σ G0:Ren) (n:Nat) (y:Value),jh σ G0->(∀b N,σ J=some (b,N)->∃N',G0 n=some (b,N'))->VR σ (res<|.ptr<|some (J,0)) y->VR G0 (res<|.ptr<|some (n,0)) y
theorem abX{X:TX}{P:Program}{B:aJ}{f k:Nat}{ns:List Nat}{h0:Tr ae}{val:List AV->Option (Option AV×(AV->AV))}{fn:Func}{body:Code}{ρ:Ren}{w:World}{s s1:AS}(hX:yk X J)(hT:B.inv=nH X J)(hP:bS P)(cj:P.funcs[f]? =some fn)(ct:fn.body=some body)(dE:(fn.name == "runtime.NumGoroutine")=false)(fY:fI<=J)(dK:J<top)(dJ:∀n o,n<top->h0.get n=some o->n∈ns)(eD:∀n∈ns,n<J)(eT:∀args p,val args=some p->max fn.ntmps args.length<=top/\(p.1=none->∀B':aJ,B'.F=B.F->B'.inv=B.inv->
 au P B' J (Fin P fn.results.toList fun y _=>y=p.2 (.ptr none)) ⟨f,dt args,max fn.ntmps args.length,[.code body],[],none⟩ ⟨h0,J,0,[],[]⟩)/\
 ∀v,p.1=some v->za J p.2/\∀B':aJ,B'.F=B.F->B'.inv=B.inv->au P B' J (iS X P fn.results.toList k (p.2<|.ptr<|some (J,0)) v) ⟨f,dt args,max fn.ntmps args.length,[.code body],[],none⟩ ⟨h0,J,0,[],[]⟩){YG:aK}{args:List AV}{vs:Array Value}(r:Rel B ρ s.h w)(hg:gC ρ)(hf:dA s.nx s1.nx ρ)(h:Bs J ns h0 k val YG args s= .ok x s1)(hv:ay ρ args vs.toList):jg P ((callFunc f vs).run P w)<|ki B ρ s s1 w x:=by
 have Gp:=Nat.le_of_lt dK;unfold Bs at h;obtain⟨gG,h1⟩:=cV h;obtain⟨u,s2,h2,h3⟩:=M.aN h1;obtain⟨p,h4,h5⟩:=bu h3;obtain⟨a1,a2,a3⟩:=uC h2;obtain⟨q1,q2,q3⟩:=eT _ _ h4;have nJ:=Dn Gp r dJ eD (fun n hn=>by obtain⟨_,o,p,h⟩:=a3 n hn;exact⟨o,p,h⟩);have fi:bB (⟨h0,J,0,[],[]⟩:AS):=⟨Nat.zero_le _,Gp⟩;have zR:gC<|gi J ρ:=fun g iF=>by obtain⟨N,e⟩:=hg g iF;exact⟨N,by unfold gi;rw[if_pos<|Nat.lt_of_lt_of_le iF fY];exact e⟩
 have lP:∀k,(⟨h0,J,0,[],[]⟩:AS).nx<=k->k<top->gi J ρ k=none:=fun k k1 k2=>by have k1:J<=k:=k1;unfold gi gm;rw[if_neg aj,if_neg aj]
 have XH:=AV.A0 (ρ:=ρ) (σ:=gi J ρ) (fun k y hk e=>by rw[sH Gp hk];exact e) gG hv;rw[si cj ct dE];show Calls P f vs w _;obtain⟨st,res⟩:=p;cases st with
 |none=>have e0:(none:Option AV)=none:=rfl;obtain⟨h6,h7⟩:=cV (show aG (res<|.ptr none).hi (M.pure<|res<|.ptr none) s2= .ok x s1 from h5);obtain⟨rfl,rfl⟩:=bA h7;refine(au.calls (B:=rk B ρ w) (s:=⟨h0,J,0,[],[]⟩) (args:=args) (vs:=vs) hP cj ct q1 (q2 e0 _ rfl rfl) fi nJ zR lP XH).mono fun e w'=>?_;rintro ⟨y,x',s4,rfl,rfl,_,_,σ,e1,e2,e3,e4⟩;obtain⟨b1,b2,b3,b4⟩:=I7 (a:=s.nx) Gp r e3 e4 e1.le;exact⟨y,rfl,cC ρ σ,by rw[a2];exact b1,AV.pB b2 h6 e2,by rw[a1];exact b3,b4⟩
 |some v=>
  have e0:(some v:Option AV)=some v:=rfl;obtain⟨n,s3,h6,h7⟩:=M.aN (show((gA<|.tok k v).bind fun n=>M.pure<|res<|.ptr<|some (n,0)) s2= .ok x s1 from h5);obtain⟨rfl,rfl⟩:=bA h7;obtain⟨D3,rfl,rfl⟩:=uJ h6;obtain⟨lA,ah0⟩:=q3 v e0;refine(au.calls (B:=rk B ρ w) (s:=⟨h0,J,0,[],[]⟩) (args:=args) (vs:=vs) hP cj ct q1 (ah0 _ rfl rfl) fi nJ zR lP XH).mono fun e w'=>?_;rintro ⟨y,x',s4,rfl,⟨rfl,L',qG,KV⟩,_,_,σ,e1,e2,e3,e4⟩;obtain⟨oR,hR⟩:=hX.root _ _ _ qG;obtain⟨b,N0,o',r1,_,_,_⟩:=e3.is J oR dK<|KV _ _ hR;have QA:ρ s.nx=none:=hf s.nx (Nat.le_refl _) (by show s.nx<s2.nx+1;omega) aj;obtain⟨b1,b2,b3,b4⟩:=aeY (a:=s.nx) hX hT Gp aj QA r e3 e4 e1.le r1 qG KV;refine⟨y,rfl,_,?_,lA σ _ s2.nx y b2 (fun b' N' e=>?_) e2,?_,b4⟩
  ·show Ext s.nx (s2.nx+1) ρ _;rw[a2];exact b1
  ·rw[r1] at e;cases e;rw[a2];exact⟨0,iP _ _ _⟩
  ·show Rel B _ (s2.h.put s2.nx<|some<|.tok k v) w';rw[a1,a2];exact b3
theorem za.ptr:za J fun p=>p:=fun σ G0 n y _ h2 h=>by simp only[VR] at h ⊢;obtain⟨b,N,e1,e2⟩:=h;obtain⟨N',e3⟩:=h2 b N e1;exact⟨b,N',e3,e2⟩
theorem za.tup(hx:x.cM=true):za J fun p=>.tuple [p,x]:=fun σ G0 n y h1 h2 h=>by simp only[VR,ay] at h ⊢;obtain⟨a,e1,v,l,e2,⟨b,N,e3,e4⟩,v2,l2,e5,e6,e7⟩:=h;obtain⟨N',e8⟩:=h2 b N e3;exact⟨a,e1,v,l,e2,⟨b,N',e8,e4⟩,v2,l2,e5,AV.uW h1 hx e6,e7⟩
end Go.Rn
namespace Go.Rn
open Go.RowKit
variable {β α:Type} {J:Nat} {ns:List Nat} {h0:Tr ae}
theorem NK{s:AS}{n:Nat}{o:Option ae}{p:ae}(h1:Nat.blt n s.nx=true)(h2:s.h.get n=some p)(h3:p.kN=true)(ht:Nat.blt n top=true):kZ n o s= .ok () (fl n o s):=by obtain⟨hh,nx,mark,rd,wr⟩:=s;have e1:(Nat.blt n nx&&Nat.blt n top)=true:=and_true.2 ⟨h1,ht⟩;have e2:hh.get n=some p:=h2;show @Bool.rec (fun _=>R Unit) .bad (@Option.rec ae (fun _=>R Unit) .bad (fun p=> @Bool.rec (fun _=>R Unit) (@Bool.rec (fun _=>R Unit) (.ok () ⟨hh.put n o,nx,mark,rd,wr⟩) (.ok () ⟨hh.put n o,nx,mark,n::rd,n::wr⟩)<|Nat.blt n mark) .bad<|!p.kN)<|hh.get n) (Nat.blt n nx&&Nat.blt n top)=_;rw[e1,e2];show @Bool.rec (fun _=>R Unit) (@Bool.rec (fun _=>R Unit) (.ok () ⟨hh.put n o,nx,mark,rd,wr⟩) (.ok () ⟨hh.put n o,nx,mark,n::rd,n::wr⟩)<|Nat.blt n mark) .bad (!p.kN)=_;rw[h3];show @Bool.rec (fun _=>R Unit) (.ok () ⟨hh.put n o,nx,mark,rd,wr⟩) (.ok () ⟨hh.put n o,nx,mark,n::rd,n::wr⟩) (Nat.blt n mark)= .ok () (@Bool.rec (fun _=>AS) ⟨hh.put n o,nx,mark,rd,wr⟩ ⟨hh.put n o,nx,mark,n::rd,n::wr⟩<|Nat.blt n mark);cases Nat.blt n mark<;>rfl
noncomputable section
inductive KE where
 |val (v:List AV->Option AV)
 |tok (k:Nat) (v:AV->List AV->Option (AV×AV))
 |new (k:Nat) (v:List AV->Option (Option AV×(AV->AV)))
 |raw (m:Nat->List Nat->Tr ae->aK->List AV->M AV)
abbrev bO:=List<|FuncId×KE
def KE.m(J:Nat)(ns:List Nat)(h0:Tr ae):KE->aK->List AV->M AV
 | .val v=>pw J ns h0 v
 | .tok k v=>xW J ns h0 k v
 | .new k v=>Bs J ns h0 k v
 | .raw m=>m J ns h0
def dk(J:Nat)(ns:List Nat)(h0:Tr ae):bO->Sp
 |[]=>fun _=>none
 |p::l=>fun f=>bif Nat.beq f p.1 then some (p.2.m J ns h0) else dk J ns h0 l f
def iK(val:AV->List AV->Option (AV×AV))(v:AV)(rest:List AV):Option<|AV×AV:=match rest.all AV.hi with
 |true=>(val v rest).bind fun p=>match p.1.hi with
  |true=>some p
  |false=>none
 |false=>none
def rC(val:List AV->Option (Option AV×(AV->AV)))(args:List AV):Option<|Option AV×(AV->AV):=match args.all AV.hi with
 |true=>(val args).bind fun p=>match p.1 with
  |none=>match (p.2<|.ptr none).hi with
   |true=>some p
   |false=>none
  |some _=>some p
 |false=>none
def Dp:bO->FuncId->Option KE
 |[]=>fun _=>none
 |p::l=>fun f=>bif Nat.beq f p.1 then some p.2 else Dp l f
def KE.v1:KE->Option (List AV->Option AV)
 | .val v=>some<|ba v
 |_=>none
def KE.v2:KE->Option (Nat×(AV->List AV->Option (AV×AV)))
 | .tok k v=>some (k,iK v)
 |_=>none
def KE.v3:KE->Option (Nat×(List AV->Option (Option AV×(AV->AV))))
 | .new k v=>some (k,rC v)
 |_=>none
def Kd(o:Option α)(f:α->Option β):Option β:=match o with
 |some a=>f a
 |none=>none
def xX(P:Program)(J:Nat)(ns:List Nat)(h0:Tr ae)(L:bO)(lo:Nat)(fg:Bool):Env:=⟨P,dk J ns h0 L,FU,fun g=>Kd (Dp L g) KE.v1,fun _=>false,pK J h0 ns,dB J h0 ns,lo,fg,fun g=>Kd (Dp L g) KE.v2,fun g=>Kd (Dp L g) KE.v3,J⟩
end
theorem Ie:∀{L:bO} {g:FuncId} {e:KE},Dp L g=some e->dk J ns h0 L g=some (e.m J ns h0)
 |[],g,e,h=>by cases h
 |p::l,g,e,h=>by
  unfold Dp at h;unfold dk;cases q:Nat.beq g p.1 with
  |true=>rw[q] at h;injection h with h;rw[h];rfl
  |false=>rw[q] at h;exact Ie h
theorem M4{o:Option α}{f:α->Option β}{b:β}(h:Kd o f=some b):∃a,o=some a/\f a=some b:=by
 cases o with
 |none=>cases h
 |some a=>exact⟨a,rfl,h⟩
theorem eQ{P:Program}{L:bO}{lo:Nat}{fg:Bool}:(xX P J ns h0 L lo fg).Ok:=by
 refine⟨fun g val args v s n h1 h2 h3=>?_,fun g q m v rest y v' s n h1 h2 h3 h4 h5 h6 h7=>?_,fun g q args v res s n h1 h2 h3 h4=>?_,fun g h=>(by cases h)⟩
 ·obtain⟨e,k1,k2⟩:=M4 h1;have k3:=Ie (J:=J) (ns:=ns) (h0:=h0) k1;cases e with
  |val v0=>
   injection k2 with k2;subst k2
   show jH P (dk J ns h0 L) g (bc P (dk J ns h0 L) FU n) args s=_;rw[qZ k3];exact aaL (YG:=bc P (dk J ns h0 L) FU n) h2 h3
  |tok k v0=>cases k2
  |new k v0=>cases k2
  |raw m0=>cases k2
 ·obtain⟨e,k1,k2⟩:=M4 h1;have k3:=Ie (J:=J) (ns:=ns) (h0:=h0) k1;cases e with
  |val v0=>cases k2
  |new k v0=>cases k2
  |raw m0=>cases k2
  |tok k v0=>
   injection k2 with k2;subst k2
   show jH P (dk J ns h0 L) g (bc P (dk J ns h0 L) FU n) (.ptr (some (m,0))::rest) s=_;rw[qZ k3];have h7:iK v0 v rest=some (y,v'):=h7;unfold iK at h7;cases e1:rest.all AV.hi with
   |false=>rw[e1] at h7;cases h7
   |true=>
    rw[e1] at h7;cases e2:v0 v rest with
    |none=>rw[e2] at h7;cases h7
    |some p=>
     rw[e2] at h7;have h7:(match p.1.hi with|true=>some p|false=>none)=some (y,v'):=h7;cases e3:p.1.hi with
     |false=>rw[e3] at h7;cases h7
     |true=>
      rw[e3] at h7;injection h7 with h7
      subst h7;show(aG (rest.all AV.hi&&Nat.ble J m) <| (fG J h0 ns).bind fun _=>(bt m).bind fun o=>match o with
       | .tok k' v=>aG (Nat.beq k k') <| aB (v0 v rest) fun p=>aG p.1.hi <| (kZ m<|some<|.tok k p.2).bind fun _=>M.pure p.1
       |_=>fail) s=_
      have h3:Nat.ble J m=true:=h3;have h4:Nat.blt m (dB J h0 ns s).nx=true:=h4;have h6:(dB J h0 ns s).h.get m=some (.tok k v):=h6;rw[e1,h3,(show(true&&true)=true from rfl),dq,M.bK<|xg h2,M.bK<|lN h4 h6];show(aG (Nat.beq k k) <| aB (v0 v rest) fun p=>aG p.1.hi <| (kZ m<|some<|.tok k p.2).bind fun _=>M.pure p.1) (aU m<|dB J h0 ns s)=_;rw[ey.2 rfl,dq,e2,bQ,e3,dq,M.bK<|NK (p:=.tok k v) (by rw[(fL m _).2.1];exact h4) (by rw[(fL m _).1];exact h6) rfl h5];rfl
 ·obtain⟨e,k1,k2⟩:=M4 h1;have k3:=Ie (J:=J) (ns:=ns) (h0:=h0) k1;cases e with
  |val v0=>cases k2
  |tok k v0=>cases k2
  |raw m0=>cases k2
  |new k v0=>
   injection k2 with k2;subst k2
   show jH P (dk J ns h0 L) g (bc P (dk J ns h0 L) FU n) args s=_;rw[qZ k3];have h4:rC v0 args=some (v,res):=h4;unfold rC at h4;cases e1:args.all AV.hi with
   |false=>rw[e1] at h4;cases h4
   |true=>
    rw[e1] at h4;cases e2:v0 args with
    |none=>rw[e2] at h4;cases h4
    |some p=>
     obtain⟨st,r⟩:=p;rw[e2] at h4;show(aG (args.all AV.hi) <| (fG J h0 ns).bind fun _=>aB (v0 args) fun p=>match p.1 with
      |none=>aG (p.2<|.ptr none).hi <| M.pure (p.2<|.ptr none)
      |some v=>(gA<|.tok k v).bind fun n=>M.pure<|p.2<|.ptr<|some (n,0)) s=_
     rw[e1,dq,M.bK<|xg h2,e2,bQ];cases st with
     |none=>
      have h4:(match (r<|.ptr none).hi with|true=>some ((none:Option AV),r)|false=>none)=some (v,res):=h4;cases e3:(r<|.ptr none).hi with
      |false=>rw[e3] at h4;cases h4
      |true=>
       rw[e3] at h4;injection h4 with h4
       injection h4 with h5 h6
       subst h5;subst h6;show aG true (M.pure<|r<|.ptr none) _=_;rw[dq];rfl
     |some v1=>
      have h4:some (some v1,r)=some (v,res):=h4;injection h4 with h4
      injection h4 with h5 h6
      subst h5;subst h6;show((gA<|.tok k v1).bind fun n=>M.pure<|r<|.ptr<|some (n,0)) _=_;have h3:Nat.blt (dB J h0 ns s).nx top=true:=h3;rw[M.bK<|Ui<|(blt_eq _ _).mp h3];rfl
end Go.Rn
namespace Go.Rn
open Go.RowKit
variable {B:aJ}
theorem RQ{P:Program}{f J:Nat}{ns:List Nat}{h0:Tr ae}{val:List AV->Option AV}{fn:Func}{body:Code}{ρ:Ren}{w:World}{s s1:AS}(hP:bS P)(cj:P.funcs[f]? =some fn)(ct:fn.body=some body)(dE:(fn.name == "runtime.NumGoroutine")=false)(fY:fI<=J)(dK:J<=top)(dJ:∀n o,n<top->h0.get n=some o->n∈ns)(eD:∀n∈ns,n<J)(eT:∀args v,val args=some v->max fn.ntmps args.length<=top/\∀B':aJ,B'.F=B.F->B'.inv=B.inv->au P B' J (Fin P fn.results.toList fun y _=>y=v) ⟨f,dt args,max fn.ntmps args.length,[.code body],[],none⟩ ⟨h0,J,0,[],[]⟩){YG:aK}{args:List AV}{x:AV}{vs:Array Value}(r:Rel B ρ s.h w)(hg:gC ρ)(h:pw J ns h0 val YG args s= .ok x s1)(hv:ay ρ args vs.toList):jg P ((callFunc f vs).run P w)<|ki B ρ s s1 w x:=by
 unfold pw at h;obtain⟨gG,h1⟩:=cV h;obtain⟨u,s2,h2,h3⟩:=M.aN h1;obtain⟨v,h4,h5⟩:=bu h3;obtain⟨h6,h7⟩:=cV h5;obtain⟨rfl,rfl⟩:=bA h7;obtain⟨a1,a2,a3⟩:=uC h2;obtain⟨q1,q2⟩:=eT _ _ h4;have nJ:=Dn dK r dJ eD (fun n hn=>by obtain⟨_,o,p,h⟩:=a3 n hn;exact⟨o,p,h⟩);have fi:bB (⟨h0,J,0,[],[]⟩:AS):=⟨Nat.zero_le _,dK⟩;have zR:gC<|gi J ρ:=fun g iF=>by obtain⟨N,e⟩:=hg g iF;exact⟨N,by unfold gi;rw[if_pos<|Nat.lt_of_lt_of_le iF fY];exact e⟩
 have bG:=au.calls (B:=rk B ρ w) (s:=⟨h0,J,0,[],[]⟩) (args:=args) (vs:=vs) hP cj ct q1 (q2 _ rfl rfl) fi nJ zR (fun k k1 k2=>by
  have k1:J<=k:=k1;unfold gi gm;rw[if_neg aj,if_neg aj])
  (AV.A0 (fun k y hk e=>by rw[sH dK hk];exact e) gG hv)
 rw[si cj ct dE];show Calls P f vs w _;refine bG.mono fun e w'=>?_;rintro ⟨y,x',s4,rfl,rfl,_,_,σ,e1,e2,e3,e4⟩;obtain⟨b1,b2,b3,b4⟩:=I7 (a:=s.nx) dK r e3 e4 e1.le;exact⟨y,rfl,cC ρ σ,by rw[a2];exact b1,AV.pB b2 h6 e2,by rw[a1];exact b3,b4⟩
def dR(X:TX)(J:Nat)(P:Program)(sp:Sp):Prop:=∀B:aJ,B.F=FU->B.inv=nH X J->J9 P B sp
theorem dR.mq{X:TX}{J:Nat}{P:Program}{sp:Sp}{g:FuncId}{m:aK->List AV->M AV}(h:dR X J P sp)(hl:∀YG:aK,(∀t a,YF<|YG t a)->∀args,YF<|m YG args)(hs:∀B:aJ,B.F=FU->B.inv=nH X J->∀YG:aK,fQ P B YG->(∀t a,YF<|YG t a)->∀(args:List AV) (x:AV) (s s1:AS) (ρ:Ren) (w:World) (vs:Array Value),bB s->Rel B ρ s.h w->gC ρ->dA s.nx s1.nx ρ->
 m YG args s= .ok x s1->ay ρ args vs.toList->jg P ((callFunc g vs).run P w) (ki B ρ s s1 w x)):dR X J P<|oT sp g m:=by
 intro B hB hT;refine⟨fun f m' e YG kV args=>?_,fun f m' e YG hc kV args x s s1 ρ w vs fi r hg hf hm hv=>?_⟩
 ·rcases Sc e with⟨_,rfl⟩|e
  ·exact hl YG kV args
  ·exact(h B hB hT).loc f m' e YG kV args
 ·rcases Sc e with⟨rfl,rfl⟩|e
  ·exact hs B hB hT YG hc kV args x s s1 ρ w vs fi r hg hf hm hv
  ·exact(h B hB hT).Eb f m' e YG hc kV args x s s1 ρ w vs fi r hg hf hm hv
section
variable {X:TX} {P:Program} {J:Nat} {ns:List Nat} {h0:Tr ae} {kn:List<|Nat×Option ae} {L L':bO} {g k:Nat} {fn:Func} {body:Code}
theorem dc:dR X J P<|dk J ns h0 []:=fun _ _ _=>⟨fun f m h=>(by cases h),fun f m h=>(by cases h)⟩
def qz(X:TX)(P:Program)(J:Nat)(ns:List Nat)(h0:Tr ae)(L:bO)(B:aJ):Prop:=B.F=FU/\B.inv=nH X J/\fQ P B (bc P (dk J ns h0 L) FU 6)/\∀t a,YF<|bc P (dk J ns h0 L) FU 6 t a
theorem qA(hP:bS P)(h':dR X J P<|dk J ns h0 L)(h1:B.F=FU)(h2:B.inv=nH X J):qz X P J ns h0 L B:=⟨h1,h2,SM hP (h' B h1 h2) h1 6,Co P (h' B h1 h2) FU 6⟩
theorem adb(hP:bS P)(fY:fI<=J)(dK:J<=top)(dJ:∀n o,n<top->h0.get n=some o->n∈ns)(eD:∀n∈ns,n<J){val:List AV->Option AV}(h:dR X J P<|dk J ns h0 L)(h':dR X J P<|dk J ns h0 L')(cj:P.funcs[g]? =some fn)(ct:fn.body=some body)(dE:(fn.name == "runtime.NumGoroutine")=false)(eT:∀args v,val args=some v->max fn.ntmps args.length<=top/\∀B:aJ,qz X P J ns h0 L' B->
 au P B J (Fin P fn.results.toList fun y _=>y=v) ⟨g,dt args,max fn.ntmps args.length,[.code body],[],none⟩ ⟨h0,J,0,[],[]⟩):dR X J P<|dk J ns h0<|(g,.val val)::L:=by
 refine(show dR X J P (oT (dk J ns h0 L) g<|pw J ns h0 val) from h.mq (fun YG _ args=>YF.pw _ _ _ _ YG args) fun B hB hT YG hc hl args x s s1 ρ w vs fi r hg hf hm hv=>?_);refine RQ hP cj ct dE fY dK dJ eD (fun args v e=>?_) r hg hm hv;obtain⟨q1,q2⟩:=eT args v e;exact⟨q1,fun B' lE lF=>q2 B'<|qA hP h' (lE.trans hB)<|lF.trans hT⟩
theorem NL(hX:yk X J)(hP:bS P)(fY:fI<=J)(dK:J<=top)(dJ:∀n o,n<top->h0.get n=some o->n∈ns)(eD:∀n∈ns,n<J)(jl:∀n o,(n,some o)∈kn->h0.get n=some o)(jr:∀p∈kn,p.1<top){val:AV->List AV->Option (AV×AV)}(h:dR X J P<|dk J ns h0 L)(h':dR X J P<|dk J ns h0 L')(cj:P.funcs[g]? =some fn)(ct:fn.body=some body)(dE:(fn.name == "runtime.NumGoroutine")=false)(eT:∀v rest y v',val v rest=some (y,v')->max fn.ntmps (rest.length+1)<=top/\∀L,X k v L->∃nx,J<nx/\nx<=top/\(∀p∈L,p.1<nx)/\∀B:aJ,qz X P J ns h0 L' B->
 au P B (J+1) (iS X P fn.results.toList k y v') ⟨g,dt<|.ptr (some (J,0))::rest,max fn.ntmps<|rest.length+1,[.code body],[],none⟩ ⟨fR<|kn++aX L,nx,0,[],[]⟩):dR X J P<|dk J ns h0<|(g,.tok k val)::L:=by
 refine(show dR X J P (oT (dk J ns h0 L) g<|xW J ns h0 k val) from h.mq (fun YG _ args=>YF.xW _ _ _ _ _ YG args) fun B hB hT YG hc hl args x s s1 ρ w vs fi r hg hf hm hv=>?_);refine TI hX hT hP cj ct dE fY dK dJ eD jl jr (fun v rest y v' e=>?_) r hg hm hv;obtain⟨q1,q2⟩:=eT v rest y v' e;refine⟨q1,fun L1 hL=>?_⟩;obtain⟨nx,n1,n2,n3,q3⟩:=q2 L1 hL;exact⟨nx,n1,n2,n3,fun B' lE lF=>q3 B'<|qA hP h' (lE.trans hB)<|lF.trans hT⟩
theorem Uv(hX:yk X J)(hP:bS P)(fY:fI<=J)(dK:J<top)(dJ:∀n o,n<top->h0.get n=some o->n∈ns)(eD:∀n∈ns,n<J){val:List AV->Option (Option AV×(AV->AV))}(h:dR X J P<|dk J ns h0 L)(h':dR X J P<|dk J ns h0 L')(cj:P.funcs[g]? =some fn)(ct:fn.body=some body)(dE:(fn.name == "runtime.NumGoroutine")=false)(eT:∀args p,val args=some p->max fn.ntmps args.length<=top/\(p.1=none->∀B:aJ,qz X P J ns h0 L' B->
 au P B J (Fin P fn.results.toList fun y _=>y=p.2 (.ptr none)) ⟨g,dt args,max fn.ntmps args.length,[.code body],[],none⟩ ⟨h0,J,0,[],[]⟩)/\
 ∀v,p.1=some v->za J p.2/\∀B:aJ,qz X P J ns h0 L' B->au P B J (iS X P fn.results.toList k (p.2<|.ptr<|some (J,0)) v) ⟨g,dt args,max fn.ntmps args.length,[.code body],[],none⟩ ⟨h0,J,0,[],[]⟩):
 dR X J P (dk J ns h0<|(g,.new k val)::L):=by
 refine(show dR X J P (oT (dk J ns h0 L) g<|Bs J ns h0 k val) from h.mq (fun YG _ args=>YF.Bs _ _ _ _ _ YG args) fun B hB hT YG hc hl args x s s1 ρ w vs fi r hg hf hm hv=>?_);refine abX hX hT hP cj ct dE fY dK dJ eD (fun args p e=>?_) r hg hf hm hv;obtain⟨q1,q2,q3⟩:=eT args p e;refine⟨q1,fun e0 B' lE lF=>q2 e0 B'<|qA hP h' (lE.trans hB)<|lF.trans hT,fun v e0=>?_⟩;obtain⟨q4,q5⟩:=q3 v e0;exact⟨q4,fun B' lE lF=>q5 B'<|qA hP h' (lE.trans hB)<|lF.trans hT⟩
end
end Go.Rn
namespace Go.Rn
open Go.RowKit
variable {α:Type} {enc:α->List AV} {r:Nat->Nat} {fz:kR} {l:List α} {K n o:Nat} {a v:AV} {cap:bW} {args:List AV}
def dv(enc:α->List AV)(K:Nat)(a:AV)(l:List α):Prop:=∃n o,a= .U n o l.length/\top<=n/\∀(i:Nat) c,l[i]? =some c->cv FU n (o+i*K) K=some (enc c)
theorem dv.cM(h:dv enc K a l):a.cM=true:=by obtain⟨n,o,rfl,h1,_⟩:=h;exact aL.2 h1
theorem dv.hi(h:dv enc K a l):a.hi=true:=by have:=h.cM;obtain⟨n,o,rfl,h1,_⟩:=h;exact this
theorem dv.aw{α:Type}{enc:α->List AV}{K:Nat}(he:mf K enc)(l:List α):dv enc K (aw enc l) l:=⟨_,0,rfl,cF _,fun i c hc=>by have:=sS he hc 0 K aj;rw[Nat.zero_add];rw[Nat.add_zero,List.drop_zero, ←he.len c,List.take_length] at this;rw[he.len c] at this;exact this⟩
theorem dv.inj{m:List α}(DE:∀x y,enc x=enc y->x=y)(h:dv enc K a l)(k:dv enc K a m):l=m:=by
 obtain⟨n,o,rfl,_,h2⟩:=h;obtain⟨n',o',e,_,k2⟩:=k;injection e with e1 e2 e3
 subst e1;subst e2;refine List.ext_getElem? fun i=>?_;by_cases q:i<l.length
 ·have a1:l[i]? =some l[i]:=List.getElem?_eq_getElem q;have a2:m[i]? =some (m[i]'aj):=List.getElem?_eq_getElem aj;have b1:=h2 i _ a1;have b2:=k2 i _ a2;rw[b1] at b2;injection b2 with b2
  rw[a1,a2,DE _ _ b2]
 ·rw[List.getElem?_eq_none aj,List.getElem?_eq_none aj]
theorem dv.len{α:Type}{enc:α->List AV}{K n o len:Nat}{l:List α}(h:dv enc K (.U n o len) l):l.length=len/\top<=n/\∀(i:Nat) c,l[i]? =some c->cv FU n (o+i*K) K=some (enc c):=by
 obtain⟨n',o',e,ht,h3⟩:=h;injection e with e1 e2 e3
 subst e1;subst e2;exact⟨e3.symm,ht,h3⟩
theorem Fh{len:Nat}(hl:∀c,(enc c).length=K)(h:dv enc K (.U n o len) l):cv FU n o (len*K)=some (l.map enc).flatten\/l=[]:=by
 obtain⟨h1,_,h3⟩:=h.len;by_cases hn:l=[]
 ·exact .inr hn
 refine .inl ?_;have DF:0<l.length:=by cases l with|nil=>exact absurd rfl hn|cons _ _=>exact Nat.succ_pos _
 obtain⟨row,eR⟩:∃row,FU n=some row:=by
  have:=h3 0 l[0]<|List.getElem?_eq_getElem DF;unfold cv at this;cases e:FU n with
  |none=>rw[e] at this;cases this
  |some r=>exact⟨r,rfl⟩
 have ax:∀(i:Nat) c,l[i]? =some c->o+i*K+K<=row.length/\(row.drop<|o+i*K).take K=enc c:=by
  intro i c hc;have:=h3 i c hc;unfold cv at this;rw[eR] at this;simp only at this;cases q:Nat.ble (o+i*K+K) row.length with
  |false=>rw[q] at this;cases this
  |true=>rw[q] at this;injection this with this;exact⟨aL.1 q,this⟩
 have alR:=(ax (l.length - 1) l[l.length - 1]<|List.getElem?_eq_getElem aj).1;have hmul:(l.length - 1)*K+K=l.length*K:=by rw[←Nat.succ_mul];congr 1;omega
 have hle:o+len*K<=row.length:=by rw[←h1];omega
 unfold cv;rw[eR];simp only[(aL.2 hle:Nat.ble (o+len*K) row.length=true)];congr 1;have yg:(l.map enc).flatten.length=l.length*K:=by
  have:=uE (K:=K) (l:=l.map enc) fun c hc=>by obtain⟨a,_,rfl⟩:=List.mem_map.1 hc;exact hl a
  rw[this,List.length_map]
 refine List.ext_getElem? fun i=>?_;by_cases q:i<l.length*K
 ·rcases Nat.eq_zero_or_pos K with z|hK
  ·rw[z] at q;omega
  have hdiv:i / K<l.length:=Nat.div_lt_of_lt_mul (by rw[Nat.mul_comm];exact q);have Gi:i % K<K:=Nat.mod_lt _ hK;have Ec:i / K*K+i % K=i:=by rw[Nat.mul_comm];exact Nat.div_add_mod i K
  obtain⟨_,h4⟩:=ax (i / K) l[i / K]<|List.getElem?_eq_getElem hdiv;have h5:=LZ (l:=l.map enc) (K:=K) (i:=i / K) (c:=enc l[i / K]) (fun c hc=>by obtain⟨a,_,rfl⟩:=List.mem_map.1 hc;exact hl a) (by rw[List.getElem?_map,List.getElem?_eq_getElem hdiv];rfl);have h6:(row.drop<|o+i / K*K)[i % K]? =(enc l[i / K])[i % K]? :=by rw[←h4,List.getElem?_take_of_lt Gi]
  have h7:((l.map enc).flatten.drop<|i / K*K)[i % K]? =(enc l[i / K])[i % K]? :=by rw[←h5,List.getElem?_take_of_lt Gi]
  rw[List.getElem?_drop] at h6 h7;rw[List.getElem?_take_of_lt (by rw[←h1];exact q),List.getElem?_drop,show o+i=o+i / K*K+i % K by omega,h6, ←h7,Ec]
 ·rw[List.getElem?_eq_none (by rw[List.length_take, ←h1];omega),List.getElem?_eq_none aj]
theorem Fi(hm:(n,nm (l.map enc).flatten,(l.map enc).flatten)∈fz)(hr:∀k,top<=k->r k=k)(hc:(match cap with| .known c=>Nat.ble l.length c| .aq _ _=>true| .lost=>false)=true):jC fz r (.slice (some (n,0)) l.length cap)<|aw enc l:=by
 intro ρ fE v yl hv;have:∃b N c,ρ n=some (b,N)/\v= .slice (some ⟨b,0,none⟩) l.length c/\l.length<=c:=by
  cases cap with
  |known c=>simp only[VR] at hv;obtain⟨b,N,e,hv⟩:=hv;exact⟨b,N,c,e,hv,aL.1 hc⟩
  |aq lo e0=>simp only[VR] at hv;obtain⟨b,N,c,e,hv,_,h,_⟩:=hv;exact⟨b,N,c,e,hv,h⟩
  |lost=>cases hc
 obtain⟨b,N,c,e,rfl,hle⟩:=this;have hk:=yl.2.2 _ hm b N e;unfold aw;simp only[VR];exact .inr ⟨b,0,c,.inr ⟨cF _,fun z=>hk<|(congrArg fE<|hr _<|gb _ _ _).symm.trans z⟩,rfl,fun _=>⟨hle,(y9 _).1⟩⟩
theorem ID:jC fz r (.slice none 0<|.known 0)<|aw enc []:=by intro ρ fE v _ hv;simp only[VR] at hv;obtain⟨rfl,_,_⟩:=hv;unfold aw;simp only[VR];exact .inl ⟨cF _,rfl,none,0,rfl,(fun _=>rfl),(fun _=>rfl),fun e=>absurd e (y9 _).2⟩
theorem aaN:jC fz r (.slice (some (n,o)) 0 cap)<|aw enc []:=by
 intro ρ fE v _ hv;have:∃a c,v= .slice (some a) 0 c:=by
  cases cap<;>simp only[VR] at hv
  ·obtain⟨_,_,_,rfl⟩:=hv;exact⟨_,_,rfl⟩
  ·obtain⟨_,_,_,_,rfl,_⟩:=hv;exact⟨_,_,rfl⟩
  ·obtain⟨_,_,_,_,_,_,rfl⟩:=hv;exact⟨_,_,rfl⟩
 obtain⟨a,c,rfl⟩:=this;unfold aw;simp only[VR];exact .inl ⟨cF _,rfl,some a,c,rfl,(fun e=>by cases e),(fun e=>absurd e (y9 _).1),fun _ e=>by cases e⟩
theorem aeZ{len:Nat}(ht:top<=n)(hr:∀k,top<=k->r k=k):jC fz r (.U n o len)<|.U n o len:=(bg.U (hr n ht) hr).z
theorem IE(hr:∀k,top<=k->r k=k):jC fz r (aw enc l)<|aw enc l:=aeZ (cF _) hr
theorem Fj(he:mf K enc)(hl:l.length*K<=top)(n:Nat)(hn:n<top){o0:List<|Nat×Option ae}(hm:(n,some<|aC enc l)∈o0):
 n<top/\FU (nm (l.map enc).flatten)=some (l.map enc).flatten/\∃N t z,(n,some<|.cells N t z)∈o0/\∀i x,(l.map enc).flatten[i]? =some x->i<N/\cellAt t z i=some x/\x.bR=true/\x.cM=true:=by
 refine⟨hn,Dm<|he.all l,_,_,_,hm,fun i x hx=>?_⟩;have hi:=(List.getElem?_eq_some_iff.1 hx).1;have hc:=List.all_eq_true.1 (he.all l) x<|List.mem_of_getElem? hx;exact⟨hi,by rw[yz (by rw[he.length];exact hl) hi];exact hx,HR hc,CD hc⟩
def kK(fz:kR)(r:Nat->Nat):List AV->List AV->Prop
 |[],[]=>True
 |x::l,y::m=>jC fz r x y/\kK fz r l m
 |_,_=>False
theorem kK.length:∀{l m:List AV},kK fz r l m->l.length=m.length
 |[],[],_=>rfl
 |_::_,_::_,h=>by simp[kK.length h.2]
 |[],_::_,h=>by cases h
 |_::_,[],h=>by cases h
theorem kK.ak:∀{l m:List AV} {i:Nat} {x y:AV},kK fz r l m->l[i]? =some x->m[i]? =some y->jC fz r x y
 |x::l,y::m,0,a,b,h,h1,h2=>by simp at h1 h2;subst h1;subst h2;exact h.1
 |x::l,y::m,i+1,a,b,h,h1,h2=>kK.ak h.2 (by simpa using h1) (by simpa using h2)
 |[],[],_,_,_,_,h1,_=>by simp at h1
 |_::_,[],_,_,_,h,_,_=>by cases h
 |[],_::_,_,_,_,h,_,_=>by cases h
theorem fj.cells{l m:List AV}(hl:l.length<=top)(h:kK fz r l m)(h1:m.all AV.bR=true):fj fz r (.cells l.length (Tr.fill l 0 .nil) [])<|.cells m.length (Tr.fill m 0 .nil) []:=by
 have hlen:=h.length;intro ρ fE N o yl k;obtain⟨c,e,rfl,k1,k2,k3⟩:=k;refine⟨c,e,rfl,k1,by omega,fun i hi=>?_⟩;obtain⟨x,v,a1,a2,a3,a4⟩:=k3 i aj;have hx:l[i]? =some x:=by unfold cellAt at a1;rw[Tr.sq _ _ _ _ aj,if_pos aj,Nat.sub_zero,List.getElem?_eq_getElem aj] at a1;rw[List.getElem?_eq_getElem aj];exact a1
 have hy:m[i]? =some m[i]:=List.getElem?_eq_getElem hi;refine⟨m[i],v,?_,?_,a3,h.ak hx hy ρ fE v yl a4⟩
 ·unfold cellAt;rw[Tr.sq _ _ _ _ aj,if_pos aj,Nat.sub_zero,hy]
 ·exact List.all_eq_true.1 h1 _<|List.getElem_mem hi
open Classical in
noncomputable def aP(R:List AV->AV->Prop)(args:List AV):Option AV:=if h:∃v,R args v then some h.choose else none
theorem fV{R:List AV->AV->Prop}(h:aP R args=some v):R args v:=by
 unfold aP at h;split at h
 ·rename_i q;injection h with h;rw[←h];exact q.choose_spec
 ·cases h
theorem eK{R:List AV->AV->Prop}(hd:∀args v v',R args v->R args v'->v=v')(h:R args v):aP R args=some v:=by unfold aP;have q:∃v,R args v:=⟨v,h⟩;rw[dif_pos q,hd _ _ _ q.choose_spec h]
end Go.Rn
namespace Go.Rn
open Go.RowKit
variable {ns:List Nat} {v y v':AV} {rest args:List AV} {n o:Nat} {S:Type} {res:AV->AV} {f:S->List AV->Option (AV×S)} {enc:S->AV}
def zr(ns:List Nat)(σ:Ren):Ren:=fun m=>if top<=m\/m∈ns then σ m else none
def gy(ns:List Nat)(x:AV):Prop:=∀(σ:Ren) (v:Value),VR σ x v->VR (zr ns σ) x v
theorem ade(ns:List Nat)(σ:Ren):jh σ<|zr ns σ:=fun k x hk e=>by unfold zr;rw[if_pos<|.inl hk];exact e
theorem gy.hi{x:AV}(h:x.cM=true):gy ns x:=fun σ _ k=>AV.uW (ade ns σ) h k
theorem gy.ptr(h:n∈ns):gy ns<|.ptr<|some (n,o):=fun σ v k=>by simp only[VR] at k ⊢;obtain⟨b,N,e1,e2⟩:=k;exact⟨b,N,by unfold zr;rw[if_pos<|.inr h];exact e1,e2⟩
theorem gy.map(h:n∈ns):gy ns<|.map<|some n:=fun σ v k=>by simp only[VR] at k ⊢;obtain⟨b,N,e1,e2⟩:=k;exact⟨b,N,by unfold zr;rw[if_pos<|.inr h];exact e1,e2⟩
theorem gy.slice{len:Nat}{cap:bW}(h:n∈ns):gy ns<|.slice (some (n,o)) len cap:=fun σ v k=>by
 cases cap<;>simp only[VR] at k ⊢
 ·obtain⟨b,N,e1,e2⟩:=k;exact⟨b,N,by unfold zr;rw[if_pos<|.inr h];exact e1,e2⟩
 ·obtain⟨b,N,c,e1,e2⟩:=k;exact⟨b,N,c,by unfold zr;rw[if_pos<|.inr h];exact e1,e2⟩
 ·obtain⟨l,b,N,p,c,e1,e2⟩:=k;exact⟨l,b,N,p,c,by unfold zr;rw[if_pos<|.inr h];exact e1,e2⟩
theorem lu.tok{k:Nat}:lu ns<|.tok k v:=fun _ _ _ _=>trivial
theorem lu.cells{cs:List AV}(hl:cs.length<=top)(h:∀c∈cs,gy ns c):lu ns<|.cells cs.length (Tr.fill cs 0 .nil) []:=fun σ N o' k=>by obtain⟨c,e,r,s,u,f⟩:=k;refine⟨c,e,r,s,u,fun i hi=>?_⟩;obtain⟨x,v,a,b,d,q⟩:=f i hi;refine⟨x,v,a,b,d,h x ?_ σ v q⟩;have:=yz (l:=cs) (i:=i) hl hi;rw[this] at a;exact List.mem_of_getElem? a
theorem lu.row{α:Type}{enc:α->List AV}{l:List α}(hl:(l.map enc).flatten.length<=top)(h:∀c∈(l.map enc).flatten,gy ns c):lu ns<|aC enc l:=lu.cells hl h
noncomputable def gV(enc:S->AV)(f:S->List AV->Option (AV×S)):AV->List AV->Option (AV×AV):=fun v rest=> @dite _ (∃a,enc a=v) (Classical.propDecidable _) (fun h=>(f h.choose rest).map fun p=>(p.1,enc p.2)) fun _=>none
theorem AI(inj:∀a b,enc a=enc b->a=b){a:S}:gV enc f (enc a) rest=(f a rest).map fun p=>(p.1,enc p.2):=by unfold gV;have h:∃b,enc b=enc a:=⟨a,rfl⟩;rw[dif_pos h,inj _ _ h.choose_spec]
theorem Ig(h:gV enc f v rest=some (y,v')):∃a a',v=enc a/\f a rest=some (y,a')/\v'=enc a':=by
 unfold gV at h;split at h
 ·rename_i q;cases e:f q.choose rest with
  |none=>rw[e] at h;cases h
  |some p=>
   rw[e] at h;injection h with h
   injection h with h1 h2
   refine⟨_,p.2,q.choose_spec.symm,?_,h2.symm⟩;rw[e, ←h1]
 ·cases h
theorem adf{val:AV->List AV->Option (AV×AV)}(h:val v rest=some (y,v'))(h1:rest.all AV.hi=true)(h2:y.hi=true):iK val v rest=some (y,v'):=by unfold iK;rw[h1,h];show(match y.hi with|true=>some (y,v')|false=>none)=_;rw[h2]
theorem adg{val:List AV->Option (Option AV×(AV->AV))}(h:val args=some (some v,res))(h1:args.all AV.hi=true):rC val args=some (some v,res):=by unfold rC;rw[h1,h];rfl
theorem Uw{val:List AV->Option (Option AV×(AV->AV))}(h:val args=some (none,res))(h1:args.all AV.hi=true)(h2:(res<|.ptr none).hi=true):rC val args=some (none,res):=by unfold rC;rw[h1,h];show(match (res<|.ptr none).hi with|true=>some (none,res)|false=>none)=_;rw[h2]
end Go.Rn
namespace Go.Rn
open Go.RowKit
variable {ρ:Ren} {J:Nat}
abbrev Vw:=List<|Nat×Nat×ae
def gJ(L:Vw)(m:Nat):Option Nat:=(L.find? fun p=>Nat.beq p.1 m).map fun p=>p.2.1
def eU(J:Nat)(ρ:Ren)(L:Vw):Ren:=fun m=>if m<J then ρ m else if top<=m then ρ m else match gJ L m with
 |some n=>ρ n
 |none=>none
def JM(L:Vw):List<|Nat×ae:=L.map fun p=>(p.1,p.2.2)
theorem aaO{L:Vw}(fn:∀p∈L,∀q∈L,p.1=q.1->p=q){p:Nat×Nat×ae}(hp:p∈L):gJ L p.1=some p.2.1:=by
 unfold gJ;cases e:L.find? fun q=>Nat.beq q.1 p.1 with
 |none=>exact absurd (List.find?_eq_none.1 e p hp) jF
 |some q=>have h1:=List.mem_of_find?_eq_some e;have h2:=List.find?_some e;have h3:q.1=p.1:=Nat.eq_of_beq_eq_true h2;rw[fn q h1 p hp h3];rfl
theorem aaP{L:Vw}{m n:Nat}(h:gJ L m=some n):∃p∈L,p.1=m/\p.2.1=n:=by
 unfold gJ at h;cases e:L.find? fun q=>Nat.beq q.1 m with
 |none=>rw[e] at h;cases h
 |some q=>rw[e] at h;have h2:=List.find?_some e;refine⟨q,List.mem_of_find?_eq_some e,Nat.eq_of_beq_eq_true h2,?_⟩;injection h
theorem yJ{L:Vw}(ht:J<=top){m:Nat}(hm:top<=m):eU J ρ L m=ρ m:=by unfold eU;rw[if_neg aj,if_pos hm]
theorem CL{L:Vw}{m:Nat}(hm:m<J):eU J ρ L m=ρ m:=by unfold eU;rw[if_pos hm]
theorem HT{L:Vw}{m:Nat}(h1:J<=m)(h2:m<top)(h3:∀p∈L,p.1≠m):eU J ρ L m=none:=by
 unfold eU;rw[if_neg aj,if_neg aj];cases e:gJ L m with
 |none=>rfl
 |some n=>obtain⟨p,hp,e1,_⟩:=aaP e;exact absurd e1<|h3 p hp
end Go.Rn
namespace Go.Rn
open Go.RowKit
variable {ρ:Ren} {J:Nat} {h:Tr ae} {L:Vw}
structure zS (J:Nat) (ρ:Ren) (h:Tr ae) (L:Vw):Prop where
 nm:∀p∈L,J<=p.1/\p.1<top/\p.2.1<top
 fn:∀p∈L,∀q∈L,p.1=q.1->p=q
 inj:∀p∈L,∀q∈L,p.2.1=q.2.1->p=q
 is:∀p∈L,∃o,h.get p.2.1=some o/\((o.own=true/\p.2.2.own=true/\∀N o',OR ρ N o o'->OR (eU J ρ L) N p.2.2 o')\/∃k v,o= .tok k v/\p.2.2= .tok k v)
def wH(ρ:Ren)(cU:Nat->Nat->Prop)(L:Vw)(x:Nat):Prop:=(∃p∈L,p.2.2.dh=false/\∃N,ρ p.2.1=some (x,N))\/∃p∈L,p.2.2.kN=true/\cU p.2.1 x
theorem zS.wa(V:zS J ρ h L){p:Nat×Nat×ae}(hp:p∈L):eU J ρ L p.1=ρ p.2.1:=by obtain⟨q1,q2,_⟩:=V.nm p hp;unfold eU;rw[if_neg aj,if_neg aj,aaO V.fn hp]
def DL(B:aJ)(ρ:Ren)(h:Tr ae)(w:World)(cU:Nat->Nat->Prop):Prop:=(∀n k v,n<top->h.get n=some (.tok k v)->∃b N,ρ n=some (b,N)/\B.inv k v ρ w b (cU n)/\cU n b/\∀x,cU n x->(x<w.heap.size/\B.lim<=x)/\B.may x/\jZ ρ h x/\∀j sh,ρ (hn j x sh)=none)/\∀n m x k v k' v',n<top->m<top->h.get n=some (.tok k v)->h.get m=some (.tok k' v')->n≠m->cU n x->¬cU m x
theorem JN{B:aJ}{w:World}{h0:Tr ae}{ns:List Nat}{kn:List<|Nat×Option ae}{cU:Nat->Nat->Prop}(ht:J<=top)(r:Rel B ρ h w)(T:DL B ρ h w cU)(dJ:∀n o,n<top->h0.get n=some o->n∈ns)(eD:∀n∈ns,n<J)(jl:∀n o,(n,some o)∈kn->h0.get n=some o)(jr:∀p∈kn,p.1<top)(a3:∀n∈ns,∃o p,h.get n=some o/\h0.get n=some p/\ou J o p=true)(V:zS J ρ h L):Rel (tw B ρ w<|wH ρ cU L) (eU J ρ L) (fR<|kn++aX (JM L)) w:=by
 have r0:=Dn ht r dJ eD a3;obtain⟨t1,t2⟩:=T;have uk:(gi J ρ).le<|eU J ρ L:=by
  intro m x e;unfold gi at e;split at e
  ·rename_i q;rw[CL q];exact e
  ·unfold gm at e;split at e
   ·rename_i q;rw[yJ ht q];exact e
   ·cases e
 have BY:∀m o,(m,o)∈JM L->∃p∈L,p.1=m/\p.2.2=o:=fun m o hm=>by
  obtain⟨p,hp,e⟩:=List.mem_map.1 hm;injection e with e1 e2
  exact⟨p,hp,e1,e2⟩
 have cL:∀p∈kn++aX (JM L),p.1<top:=fun p hp=>by
  rcases List.mem_append.1 hp with hp|hp
  ·exact jr p hp
  ·refine Mz (fun q hq=>?_) p hp;obtain⟨p,hp,e1,_⟩:=BY q.1 q.2 hq;rw[←e1];exact(V.nm p hp).2.1
 have ak:∀m o,(fR<|kn++aX (JM L)).get m=some o->(m∈ns/\h0.get m=some o/\o.mJ=true)\/∃p∈L,p.1=m/\p.2.2=o:=fun m o hg=>by
  rcases List.mem_append.1 (uK cL hg) with q|q
  ·have q2:=jl m o q;have iu:=dJ m o (jr _ q) q2;obtain⟨p1,p2,_,c3,c4⟩:=a3 m iu;rw[q2] at c3;cases c3;refine .inl ⟨iu,q2,?_⟩;unfold ou at c4;split at c4<;>first|rfl|cases c4
  ·exact .inr<|BY m o<|Mq q
 have tK:∀p∈L,p.2.2.dh=false->∃o,h.get p.2.1=some o/\o.dh=false:=fun p hp e=>by
  obtain⟨o,g1,⟨g2,_⟩|⟨k,v,_,g2⟩⟩:=V.is p hp
  ·exact⟨o,g1,(ae.uG g2).2⟩
  ·rw[g2] at e;cases e
 have rE:∀p∈L,p.2.2.kN=true->∃k v,h.get p.2.1=some (.tok k v)/\p.2.2= .tok k v:=fun p hp e=>by
  obtain⟨o,g1,⟨_,g2,_⟩|⟨k,v,rfl,g2⟩⟩:=V.is p hp
  ·generalize p.2.2=q at e g2;cases q<;>first|(cases e;done)|cases g2
  ·exact⟨k,v,g1,g2⟩
 have ae1:∀p∈L,p.2.2.mJ=true->False:=fun p hp e=>by
  obtain⟨o,g1,⟨_,g2,_⟩|⟨k,v,_,g2⟩⟩:=V.is p hp
  ·generalize p.2.2=q at e g2;cases q<;>first|(cases e;done)|cases g2
  ·rw[g2] at e;cases e
 have QC:∀m N x,m∈ns->eU J ρ L m=some (x,N)->x<B.lim/\¬wH ρ cU L x:=fun m N x q1 e=>by
  rw[CL<|eD m q1] at e;obtain⟨p1,p2,c2,c3,c4⟩:=a3 m q1;have j9:m<top:=Nat.lt_of_lt_of_le (eD m q1) ht;obtain⟨b',N',e1,e2⟩:=r.tk.1.2 m p1 j9 c2<|HB c4;rw[e] at e1;cases e1;refine⟨e2,?_⟩;rintro (⟨p,hp,ho,M,e3⟩|⟨p,hp,ho,e3⟩)
  ·obtain⟨o,g1,g2⟩:=tK p hp ho;have:=r.one m p.2.1 p1 o x N M j9 (V.nm p hp).2.2 c2 g1 (.inr g2) e e3;rw[←this,c2] at g1;cases g1;rw[ae.kg<|HB c4] at g2;cases g2
  ·obtain⟨k,v,g1,_⟩:=rE p hp ho;obtain⟨_,_,_,_,_,f⟩:=t1 _ k v (V.nm p hp).2.2 g1;have:=(f x e3).1.2;omega
 have ae2:∀j x sh,ρ (hn j x sh)≠none->¬wH ρ cU L x:=fun j x sh e=>by
  obtain⟨_,_,_,_,_,_,_,z3,_⟩:=r.fz j x sh e;rintro (⟨p,hp,ho,M,e3⟩|⟨p,hp,ho,e3⟩)
  ·obtain⟨o,g1,g2⟩:=tK p hp ho;exact z3 p.2.1 o M (V.nm p hp).2.2 g1 g2 e3
  ·obtain⟨k,v,g1,_⟩:=rE p hp ho;obtain⟨_,_,_,_,_,f⟩:=t1 _ k v (V.nm p hp).2.2 g1;exact e<|(f x e3).2.2.2 j sh
 refine⟨fun m o hm hg=>?_,fun m n o p x N M hm fu hg kY cP e1 e2=>?_,fun m i es ex left cur hm hg=>?_,fun x hx=>.inl hx,fun i j m es ex left cur gY iU iH iJ hi _ hg _=>?_,fun j x sh e=>?_,?_⟩
 ·rcases ak m o hg with⟨q1,q3,q4⟩|⟨p,hp,rfl,rfl⟩
  ·obtain⟨b',N',o',e1,e2,e3,_⟩:=r0.is m o hm q3;exact⟨b',N',o',uk _ _ e1,e2,e3.mono uk,fun z=>by rw[ae.kg q4] at z;cases z⟩
  ·obtain⟨o,g1,g2⟩:=V.is p hp;obtain⟨b',N',o',e1,e2,e3,_⟩:=r.is p.2.1 o (V.nm p hp).2.2 g1;rcases g2 with⟨_,_,g3⟩|⟨k,v,_,g3⟩
   ·exact⟨b',N',o',(V.wa hp).trans e1,e2,g3 _ _ e3,fun z=>.inr<|.inl ⟨p,hp,z,N',e1⟩⟩
   ·rw[g3];exact⟨b',N',o',(V.wa hp).trans e1,e2,trivial,fun z=>by cases z⟩
 ·rcases ak m o hg with⟨q1,q3,q4⟩|⟨p1,iX,rfl,rfl⟩
  ·rcases ak n p kY with⟨z1,z3,z4⟩|⟨p2,eZ,rfl,rfl⟩
   ·rcases cP with y|y
    ·rw[ae.kg q4] at y;cases y
    ·rw[ae.kg z4] at y;cases y
   ·rw[V.wa eZ] at e2;rcases cP with y|y
    ·rw[ae.kg q4] at y;cases y
    ·exact absurd (.inl ⟨p2,eZ,y,M,e2⟩) (QC m N x q1 e1).2
  ·rw[V.wa iX] at e1;rcases ak n p kY with⟨z1,z3,z4⟩|⟨p2,eZ,rfl,rfl⟩
   ·rcases cP with y|y
    ·exact absurd (.inl ⟨p1,iX,y,N,e1⟩) (QC n M x z1 e2).2
    ·rw[ae.kg z4] at y;cases y
   ·rw[V.wa eZ] at e2;obtain⟨o1,g1,_⟩:=V.is p1 iX;obtain⟨o2,f1,_⟩:=V.is p2 eZ;have ah1:o1.dh=false\/o2.dh=false:=cP.imp (fun y=>by
     obtain⟨o,k1,k2⟩:=tK p1 iX y;rw[g1] at k1;cases k1;exact k2) (fun y=>by
     obtain⟨o,k1,k2⟩:=tK p2 eZ y;rw[f1] at k1;cases k1;exact k2)
    have:=r.one p1.2.1 p2.2.1 o1 o2 x N M (V.nm p1 iX).2.2 (V.nm p2 eZ).2.2 g1 f1 ah1 e1 e2;rw[V.inj p1 iX p2 eZ this]
 ·rcases ak m _ hg with⟨_,_,q4⟩|⟨p,hp,_,e⟩
  ·cases q4
  ·obtain⟨_,_,⟨_,g2,_⟩|⟨k,v,_,g2⟩⟩:=V.is p hp
   ·rw[e] at g2;cases g2
   ·rw[e] at g2;cases g2
 ·rcases ak i _ hg with⟨_,_,q4⟩|⟨p,hp,_,e⟩
  ·cases q4
  ·obtain⟨_,_,⟨_,g2,_⟩|⟨k,v,_,g2⟩⟩:=V.is p hp
   ·rw[e] at g2;cases g2
   ·rw[e] at g2;cases g2
 ·rw[yJ ht<|gb _ _ _] at e;obtain⟨g0,l,c,e',fr,g1,g2,g3,g4⟩:=r0.fz j x sh (by rw[sH ht<|gb _ _ _];exact e);refine⟨.inl e,l,c,e',fr,g1,g2,fun m o N hm hg cq hr=>?_,fun i y hy=>?_⟩
  ·rcases ak m o hg with⟨_,_,q4⟩|⟨p,hp,rfl,rfl⟩
   ·rw[ae.kg q4] at cq;cases cq
   ·rw[V.wa hp] at hr;exact ae2 j x sh e<|.inl ⟨p,hp,cq,N,hr⟩
  ·obtain⟨v',k1,k2,k3⟩:=g4 i y hy;refine⟨v',k1,VR.mono (fun i z q=>?_) _ _ k2,k3⟩;unfold gm at q ⊢;split at q
   ·rename_i hk;rw[if_pos hk];exact uk _ _ q
   ·cases q
 ·let H':Nat->Nat->Prop:=fun m x=>∃p∈L,p.1=m/\cU p.2.1 x;have QD:∀p∈L,H' p.1=cU p.2.1:=fun p hp=>funext fun x=>propext ⟨fun⟨q,hq,e1,e2⟩=>by rw[V.fn q hq p hp e1] at e2;exact e2,fun e=>⟨p,hp,rfl,e⟩⟩;refine⟨⟨r.tk.1.1,fun m o hm hg hf=>?_⟩,H',fun m k' v' hm hg=>?_,fun m n x k' v' KU vY hm fu hg kY cf hZ nW=>?_⟩
  ·rcases ak m o hg with⟨q1,q3,q4⟩|⟨p,hp,rfl,rfl⟩
   ·obtain⟨b',N',o',e1,e2,e3,_⟩:=r0.is m o hm q3;exact⟨b',N',uk _ _ e1,(QC m N' b' q1<|uk _ _ e1).1⟩
   ·exact(ae1 p hp hf).elim
  ·rcases ak m _ hg with⟨_,_,q4⟩|⟨p,hp,rfl,e⟩
   ·cases q4
   ·obtain⟨k,v,g1,g2⟩:=rE p hp (by rw[e];rfl);rw[e] at g2;cases g2;obtain⟨b,N,f1,f2,f3,f4⟩:=t1 _ _ _ (V.nm p hp).2.2 g1;refine⟨b,N,(V.wa hp).trans f1,?_,by rw[QD p hp];exact f3,fun x hx=>?_⟩
    ·rw[QD p hp];exact B.mono f2 (fun i y hi q=>by rw[yJ ht hi];exact q) fun _ _=>rfl
    ·rw[QD p hp] at hx;obtain⟨c1,c2,c3,c4⟩:=f4 x hx;refine⟨c1,.inr<|.inr ⟨p,hp,by rw[e];rfl,hx⟩,fun n o N fu kY cq hr=>?_,fun j sh=>by rw[yJ ht<|gb _ _ _];exact c4 j sh⟩;rcases ak n o kY with⟨_,_,q4⟩|⟨p2,eZ,rfl,rfl⟩
     ·rw[ae.kg q4] at cq;cases cq
     ·rw[V.wa eZ] at hr;obtain⟨o2,k1,k2⟩:=tK p2 eZ cq;exact c3 p2.2.1 o2 N (V.nm p2 eZ).2.2 k1 k2 hr
  ·obtain⟨p1,iX,y1,z1⟩:=hZ;obtain⟨p2,eZ,y2,z2⟩:=nW;rcases ak m _ hg with⟨_,_,q4⟩|⟨q1,KH,e1,e2⟩
   ·cases q4
   ·rcases ak n _ kY with⟨_,_,q4⟩|⟨q2,GO,e3,e4⟩
    ·cases q4
    ·have:=V.fn p1 iX q1 KH<|y1.trans e1.symm;subst this;have:=V.fn p2 eZ q2 GO<|y2.trans e3.symm;subst this;obtain⟨k1,v1,g1,_⟩:=rE p1 iX (by rw[e2];rfl);obtain⟨k2,v2,g2,_⟩:=rE p2 eZ (by rw[e4];rfl);exact t2 _ _ x _ _ _ _ (V.nm p1 iX).2.2 (V.nm p2 eZ).2.2 g1 g2 (fun q=>cf<|by rw[←y1, ←y2,V.inj p1 iX p2 eZ q]) z1 z2
end Go.Rn
namespace Go.Rn
open Go.RowKit
theorem I9{J a:Nat}{B:aJ}{ρ σ:Ren}{w w':World}{h h4 h':Tr ae}{L:Vw}{L2:List<|Nat×ae}{cU:Nat->Nat->Prop}(r:Rel B ρ h w)(T:DL B ρ h w cU)(V:zS J ρ h L)(q3:Rel (tw B ρ w<|wH ρ cU L) σ h4 w')(q4:cw (tw B ρ w<|wH ρ cU L) w w')(oH:∀p∈L,σ p.1=ρ p.2.1)(yl:∀m x,top<=m->ρ m=some x->σ m=some x)(h2:∀n q,(n,q)∈L2->∃p∈L,p.2.1=n/\∃o1,h4.get p.1=some o1/\((q.own=true/\p.2.2.own=true/\∀N o',OR σ N o1 o'->OR (cC ρ σ) N q o')\/∃k v v0,o1= .tok k v/\q= .tok k v/\p.2.2= .tok k v0))(h3:∀p∈L,p.2.2.dh=false->∃o1,h4.get p.1=some o1/\o1.dh=false)(hh:∀k,k<top->(∃q,(k,q)∈L2/\h'.get k=some q)\/((∀q∈L,q.2.1≠k)/\h'.get k=h.get k)):
 Ext a a ρ (cC ρ σ)/\jh σ (cC ρ σ)/\Rel B (cC ρ σ) h' w'/\cw B w w':=by
 obtain⟨t1,t2⟩:=T;have hl:ρ.le<|cC ρ σ:=by
  intro k x e;unfold cC;by_cases hk:top<=k
  ·rw[if_pos hk];exact yl k x hk e
  ·rw[if_neg hk];exact e
 have cL:∀k,k<top->cC ρ σ k=ρ k:=fun k hk=>by unfold cC;rw[if_neg aj]
 have gG:∀k,top<=k->cC ρ σ k=σ k:=fun k hk=>by unfold cC;rw[if_pos hk]
 have tK:∀p∈L,p.2.2.dh=false->∃o,h.get p.2.1=some o/\o.dh=false/\o.own=true:=fun p hp e=>by
  obtain⟨o,g1,⟨g2,_⟩|⟨k,v,_,g2⟩⟩:=V.is p hp
  ·exact⟨o,g1,(ae.uG g2).2,g2⟩
  ·rw[g2] at e;cases e
 have rE:∀p∈L,p.2.2.kN=true->∃k v,h.get p.2.1=some (.tok k v)/\p.2.2= .tok k v:=fun p hp e=>by
  obtain⟨o,g1,⟨_,g2,_⟩|⟨k,v,rfl,g2⟩⟩:=V.is p hp
  ·generalize p.2.2=q at e g2;cases q<;>first|(cases e;done)|cases g2
  ·exact⟨k,v,g1,g2⟩
 have pL:∀x,wH ρ cU L x->B.may x:=fun x hx=>by
  rcases hx with⟨p,hp,ho,N,e⟩|⟨p,hp,ho,e⟩
  ·obtain⟨o,g1,g2,_⟩:=tK p hp ho;obtain⟨x1,N1,_,e1,_,_,e3⟩:=r.is p.2.1 o (V.nm p hp).2.2 g1;rw[e] at e1;cases e1;exact e3 g2
  ·obtain⟨k,v,g1,_⟩:=rE p hp ho;obtain⟨_,_,_,_,_,f⟩:=t1 _ k v (V.nm p hp).2.2 g1;exact(f x e).2.1
 have Bp:cw B w w':=⟨q4.os,q4.tape,q4.output,q4.size,fun x hx hm=>q4.block x hx fun z=>by
  rcases z with z|z
  ·have z:w.heap.size<=x:=z;omega
  ·exact hm<|pL x z⟩
 have mK:∀x,x<w.heap.size->¬wH ρ cU L x->w'.heap[x]? =w.heap[x]? :=fun x hx hm=>q4.block x hx fun z=>by
  rcases z with z|z
  ·have z:w.heap.size<=x:=z;omega
  ·exact hm z
 have cs:∀m o,m<top->h'.get m=some o->(∃p∈L,p.2.1=m/\∃o1,h4.get p.1=some o1/\((o.own=true/\p.2.2.own=true/\∀N o',OR σ N o1 o'->OR (cC ρ σ) N o o')\/∃k v v0,o1= .tok k v/\o= .tok k v/\p.2.2= .tok k v0))\/((∀q∈L,q.2.1≠m)/\h.get m=some o):=fun m o hm ho=>by
  rcases hh m hm with⟨q,e1,e2⟩|⟨e1,e2⟩
  ·rw[ho] at e2;cases e2;exact .inl<|h2 m o e1
  ·exact .inr ⟨e1,by rw[←e2];exact ho⟩
 have dy:∀m o,m<top->h'.get m=some o->∃q,h.get m=some q/\(o.dh=false->q.dh=false):=fun m o hm ho=>by
  rcases cs m o hm ho with⟨p,hp,rfl,o1,g1,⟨y1,y2,_⟩|⟨k,v,v0,_,y1,_⟩⟩|⟨_,e⟩
  ·obtain⟨q,g1,g2,_⟩:=tK p hp (ae.uG y2).2;exact⟨q,g1,fun _=>g2⟩
  ·obtain⟨q,g1,_⟩:=V.is p hp;exact⟨q,g1,fun z=>by rw[y1] at z;cases z⟩
  ·exact⟨o,e,id⟩
 have other:∀m o x M,m<top->(∀q∈L,q.2.1≠m)->h.get m=some o->ρ m=some (x,M)->¬wH ρ cU L x:=fun m o x M hm cf ho e=>by
  rintro (⟨p,hp,iX,N,e1⟩|⟨p,hp,iX,e1⟩)
  ·obtain⟨q,g1,g2,_⟩:=tK p hp iX;exact cf p hp<|r.one p.2.1 m q o x N M (V.nm p hp).2.2 hm g1 ho (.inl g2) e1 e
  ·obtain⟨k,v,g1,_⟩:=rE p hp iX;obtain⟨_,_,_,_,_,f⟩:=t1 _ k v (V.nm p hp).2.2 g1;obtain⟨⟨_,c1⟩,_,c3,_⟩:=f x e1;cases cq:o.dh with
   |false=>exact c3 m o M hm ho cq e
   |true=>
    by_cases hf:o.mJ=true
    ·obtain⟨b',N',k1,k2⟩:=r.tk.1.2 m o hm ho hf;rw[e] at k1;cases k1;omega
    ·cases o<;>first|(cases cq;done)|(exact hf rfl)|skip
     rename_i k' vY;obtain⟨b',N',k1,_,k3,_⟩:=t1 m k' vY hm ho;rw[e] at k1;cases k1;exact t2 _ m x k v k' vY (V.nm p hp).2.2 hm g1 ho (cf p hp) e1 k3
 have rU:∀x,jZ ρ h x->jZ (cC ρ σ) h' x:=fun x hn m o M hm ho cq e=>by obtain⟨q,g1,g2⟩:=dy m o hm ho;rw[cL m hm] at e;exact hn m q M hm g1 (g2 cq) e
 have zq:∀x,w.heap.size<=x->jZ (cC ρ σ) h' x:=fun x hx m o M hm ho cq e=>by obtain⟨q,g1,_⟩:=dy m o hm ho;rw[cL m hm] at e;obtain⟨b1,N1,o1,e1,e2,_⟩:=r.is m q hm g1;rw[e] at e1;cases e1;have:=ib e2;omega
 have agk:∀p∈L,∀o,h.get p.2.1=some o->o.own=true\/o.kN=true:=fun p hp o ho=>by
  obtain⟨q,g1,⟨g2,_⟩|⟨k,v,g2,_⟩⟩:=V.is p hp
  ·rw[ho] at g1;cases g1;exact .inl g2
  ·rw[ho,g2] at g1;cases g1;exact .inr rfl
 have V6:∀i,h.get i=some .iA->∀q∈L,q.2.1≠i:=fun i e q hq z=>by rcases agk q hq .iA (by rw[z];exact e) with y|y<;>cases y
 obtain⟨⟨_,_⟩,Hq,s1,s2⟩:=q3.tk;refine⟨⟨hl,fun k hk _=>cL k hk⟩,fun k x hk e=>by rw[gG k hk];exact e,⟨fun m o hm ho=>?_,fun m m2 o p x M M2 hm cN ho hp cP e1 e2=>?_,fun m i es ex left cur hm ho=>?_,fun x hx=>r.size x<|Nat.le_trans q4.size hx,fun i j m es ex left cur gY iU iH iJ hi hj ho hp=>?_,fun j x sh e=>?_,?_⟩,Bp⟩
 ·rcases cs m o hm ho with⟨p,hp,rfl,o1,g1,⟨y1,y2,g2⟩|⟨k,v,v0,y1,y2,y3⟩⟩|⟨cf,e⟩
  ·obtain⟨b1,N1,o',e1,e2,e3,_⟩:=q3.is p.1 o1 (V.nm p hp).2.1 g1;rw[oH p hp] at e1;exact⟨b1,N1,o',(cL _ hm).trans e1,e2,g2 _ _ e3,fun _=>pL b1<|.inl ⟨p,hp,(ae.uG y2).2,N1,e1⟩⟩
  ·obtain⟨b1,N1,o',e1,e2,e3,_⟩:=q3.is p.1 o1 (V.nm p hp).2.1 g1;rw[oH p hp] at e1;rw[y2];exact⟨b1,N1,o',(cL _ hm).trans e1,e2,trivial,fun z=>by cases z⟩
  ·obtain⟨b1,N1,o1,e1,e2,e3,e4⟩:=r.is m o hm e;exact⟨b1,N1,o1,(cL m hm).trans e1,(mK b1 (ib e2)<|other m o b1 N1 hm cf e e1).trans e2,e3.mono hl,e4⟩
 ·rw[cL m hm] at e1;rw[cL m2 cN] at e2;obtain⟨o1,a1,a2⟩:=dy m o hm ho;obtain⟨o2,a3,a4⟩:=dy m2 p cN hp;exact r.one m m2 o1 o2 x M M2 hm cN a1 a3 (cP.imp a2 a4) e1 e2
 ·rcases cs m _ hm ho with⟨p,hp,_,_,_,⟨y1,_⟩|⟨k,v,v0,_,y2,_⟩⟩|⟨cf,e⟩
  ·cases y1
  ·cases y2
  ·obtain⟨hi,fq,b1,N1,bm,M,l,bp,seen,u1,u2,u3,u4,u5⟩:=r.iter m i es ex left cur hm e;have u:mT ρ w' m i es ex left cur:=⟨b1,N1,bm,M,l,bp,seen,u1,u2,(mK b1 (ib u3)<|other m _ b1 N1 hm cf e u1).trans u3,(mK bm (ib u4)<|other i _ bm M hi (V6 i fq) fq u2).trans u4,u5⟩;refine⟨hi,?_,u.mono hl⟩;rcases hh i hi with⟨q,f1,f2⟩|⟨_,f2⟩
   ·obtain⟨p,hp,f3,_⟩:=h2 i q f1;exact absurd f3<|V6 i fq p hp
   ·rw[f2];exact fq
 ·rcases cs i _ hi ho with⟨p,hp,_,_,_,⟨y1,_⟩|⟨k,v,v0,_,y2,_⟩⟩|⟨_,e⟩
  ·cases y1
  ·cases y2
  ·rcases cs j _ hj hp with⟨p,hp,_,_,_,⟨y1,_⟩|⟨k,v,v0,_,y2,_⟩⟩|⟨_,e'⟩
   ·cases y1
   ·cases y2
   ·exact r.lone i j m es ex left cur gY iU iH iJ hi hj e e'
 ·rw[gG _<|gb _ _ _] at e;obtain⟨g0,l,c,e',fr,g1,g2,gn,g4⟩:=q3.fz j x sh e;have mF:∀i y,l[i]? =some y->∃v,c[sh+i]? =some v/\VR (gm<|cC ρ σ) y v/\y.bR=true:=fun i y hy=>by
   obtain⟨v,k1,k2,k3⟩:=g4 i y hy;refine⟨v,k1,VR.mono (fun z u q=>?_) _ _ k2,k3⟩;unfold gm at q ⊢;split at q
   ·rename_i hk;rw[if_pos hk,gG z hk];exact q
   ·cases q
  by_cases q:ρ (hn j x sh)≠none
  ·obtain⟨z0,l',c',e2,ks,z1,z2,z3,_⟩:=r.fz j x sh q;exact⟨z0,l,c,e',fr,g1,g2,rU x z3,mF⟩
  ·rcases g0.resolve_left q with z|z
   ·have z:w.heap.size<=x:=z;exact⟨.inr<|r.size x z,l,c,e',fr,g1,g2,zq x z,mF⟩
   ·refine⟨.inr<|pL x z,l,c,e',fr,g1,g2,?_,mF⟩;rcases z with⟨p,hp,ho,N,e1⟩|⟨p,hp,ho,e1⟩
    ·obtain⟨o1,f1,f2⟩:=h3 p hp ho;exact absurd ((oH p hp).trans e1)<|gn p.1 o1 N (V.nm p hp).2.1 f1 f2
    ·obtain⟨k,v,k1,_⟩:=rE p hp ho;obtain⟨_,_,_,_,_,f⟩:=t1 _ k v (V.nm p hp).2.2 k1;exact rU x (f x e1).2.2.1
 ·let H':Nat->Nat->Prop:=fun m x=>(∃p∈L,p.2.1=m/\Hq p.1 x)\/((∀p∈L,p.2.1≠m)/\cU m x);have Ef:∀p∈L,H' p.2.1=Hq p.1:=fun p hp=>funext fun x=>propext ⟨fun z=>by
   rcases z with⟨q,hq,e1,e2⟩|⟨e1,_⟩
   ·rw[V.inj q hq p hp e1] at e2;exact e2
   ·exact absurd rfl<|e1 p hp,fun z=>.inl ⟨p,hp,rfl,z⟩⟩
  have Eg:∀m,(∀p∈L,p.2.1≠m)->H' m=cU m:=fun m hm=>funext fun x=>propext ⟨fun z=>by
   rcases z with⟨q,hq,e1,_⟩|⟨_,z⟩
   ·exact absurd e1 (hm q hq)
   ·exact z,fun z=>.inr ⟨hm,z⟩⟩
  have BZ:∀p∈L,∀k v,h4.get p.1=some (.tok k v)->∀x,Hq p.1 x->x<w'.heap.size/\(w.heap.size<=x\/wH ρ cU L x)/\∀j sh,σ (hn j x sh)=none:=fun p hp k v hg x hx=>by obtain⟨_,_,_,_,_,f⟩:=s1 p.1 k v (V.nm p hp).2.1 hg;obtain⟨⟨c1,_⟩,c2,_,c4⟩:=f x hx;exact⟨c1,c2,c4⟩
  have JO:∀m k v,m<top->h'.get m=some (.tok k v)->(∃p∈L,p.2.1=m/\h4.get p.1=some (.tok k v)/\∃v0,p.2.2= .tok k v0)\/((∀q∈L,q.2.1≠m)/\h.get m=some (.tok k v)):=fun m k v hm ho=>by
   rcases cs m _ hm ho with⟨p,hp,e0,o1,g1,⟨y1,_⟩|⟨k',v',v0,y1,y2,y3⟩⟩|z
   ·cases y1
   ·cases y2;exact .inl ⟨p,hp,e0,by rw[g1,y1],v0,y3⟩
   ·exact .inr z
  have sep:∀m k v,m<top->(∀q∈L,q.2.1≠m)->h.get m=some (.tok k v)->∀x,cU m x->(w.heap.size<=x\/wH ρ cU L x)->False:=fun m k1 v1 hm cf hg x hx z=>by
   obtain⟨_,_,_,_,_,f4⟩:=t1 m k1 v1 hm hg;rcases z with z|⟨p,hp,B2,N,e1⟩|⟨p,hp,B2,e1⟩
   ·have:=(f4 x hx).1.1;omega
   ·obtain⟨q,g1,g2,_⟩:=tK p hp B2;exact(f4 x hx).2.2.1 p.2.1 q N (V.nm p hp).2.2 g1 g2 e1
   ·obtain⟨k,v,g1,_⟩:=rE p hp B2;exact t2 _ m x k v k1 v1 (V.nm p hp).2.2 hm g1 hg (cf p hp) e1 hx
  refine⟨⟨Nat.le_trans r.tk.1.1 q4.size,fun m o hm ho hf=>?_⟩,H',fun m k1 v1 hm ho=>?_,fun m m2 x k1 v1 k2 v2 hm cN ho hp cf z1 z2=>?_⟩
  ·rcases cs m o hm ho with⟨p,hp,_,_,_,⟨y1,_⟩|⟨k,v,v0,_,y2,_⟩⟩|⟨_,e⟩
   ·cases o<;>first|(cases hf;done)|cases y1
   ·rw[y2] at hf;cases hf
   ·obtain⟨b1,N1,e1,e2⟩:=r.tk.1.2 m o hm e hf;exact⟨b1,N1,(cL m hm).trans e1,e2⟩
  ·rcases JO m k1 v1 hm ho with⟨p,hp,rfl,hg,v0,XM⟩|⟨cf,hg⟩
   ·obtain⟨b1,N1,f1,f2,f3,f4⟩:=s1 p.1 k1 v1 (V.nm p hp).2.1 hg;have hpt:p.2.2.kN=true:=by rw[XM];rfl
    refine⟨b1,N1,(cL _ hm).trans<|(oH p hp).symm.trans f1,?_,by rw[Ef p hp];exact f3,fun x hx=>?_⟩
    ·rw[Ef p hp];exact B.mono f2 (fun i y hi q=>by rw[gG i hi];exact q) fun _ _=>rfl
    ·rw[Ef p hp] at hx;obtain⟨c1,c2,c4⟩:=BZ p hp k1 v1 hg x hx;obtain⟨⟨_,ah2⟩,_,c3,_⟩:=f4 x hx;refine⟨⟨c1,ah2⟩,?_,?_,fun j sh=>by rw[gG _<|gb _ _ _];exact c4 j sh⟩
     ·rcases c2 with y|y
      ·exact r.size x y
      ·exact pL x y
     ·rcases c2 with y|y
      ·exact zq x y
      ·rcases y with⟨p2,eZ,QE,N2,e2⟩|⟨p2,eZ,QE,e2⟩
       ·obtain⟨o1,k1',k2'⟩:=h3 p2 eZ QE;exact absurd ((oH p2 eZ).trans e2)<|c3 p2.1 o1 N2 (V.nm p2 eZ).2.1 k1' k2'
       ·obtain⟨k,v,g1,_⟩:=rE p2 eZ QE;obtain⟨_,_,_,_,_,f⟩:=t1 _ k v (V.nm p2 eZ).2.2 g1;exact rU x (f x e2).2.2.1
   ·obtain⟨b1,N1,f1,f2,f3,f4⟩:=t1 m k1 v1 hm hg;have WQ:∀x,cU m x->¬wH ρ cU L x:=fun x hx z=>by
     rcases z with⟨p,hp,B2,N,e1⟩|⟨p,hp,B2,e1⟩
     ·obtain⟨q,g1,g2,_⟩:=tK p hp B2;exact(f4 x hx).2.2.1 p.2.1 q N (V.nm p hp).2.2 g1 g2 e1
     ·obtain⟨k,v,g1,_⟩:=rE p hp B2;exact t2 _ m x k v k1 v1 (V.nm p hp).2.2 hm g1 hg (cf p hp) e1 hx
    refine⟨b1,N1,(cL m hm).trans f1,?_,by rw[Eg m cf];exact f3,fun x hx=>?_⟩
    ·rw[Eg m cf];exact B.mono f2 (fun i y _ e=>hl _ _ e) fun x hx=>mK x (f4 x hx).1.1<|WQ x hx
    ·rw[Eg m cf] at hx;obtain⟨⟨c1,cl⟩,c2,c3,c4⟩:=f4 x hx;refine⟨⟨Nat.lt_of_lt_of_le c1 q4.size,cl⟩,c2,rU x c3,fun j sh=>Classical.byContradiction fun z=>?_⟩;rw[gG _<|gb _ _ _] at z;rcases(q3.fz j x sh z).1 with y|y
     ·exact y<|c4 j sh
     ·rcases y with y|y
      ·have y:w.heap.size<=x:=y;omega
      ·exact WQ x hx y
  ·rcases JO m k1 v1 hm ho with⟨p1,iX,rfl,hg,v0,XM⟩|⟨DM,hg⟩
   ·rw[Ef p1 iX] at z1;obtain⟨c1,c2,_⟩:=BZ p1 iX k1 v1 hg x z1;rcases JO m2 k2 v2 cN hp with⟨p2,eZ,rfl,B3,v02,ah3⟩|⟨Kf,B3⟩
    ·rw[Ef p2 eZ] at z2;exact s2 p1.1 p2.1 x k1 v1 k2 v2 (V.nm p1 iX).2.1 (V.nm p2 eZ).2.1 hg B3 (fun q=>cf<|by rw[V.fn p1 iX p2 eZ q]) z1 z2
    ·rw[Eg m2 Kf] at z2;exact sep m2 k2 v2 cN Kf B3 x z2 c2
   ·rw[Eg m DM] at z1;rcases JO m2 k2 v2 cN hp with⟨p2,eZ,rfl,B3,v02,ah3⟩|⟨Kf,B3⟩
    ·rw[Ef p2 eZ] at z2;exact sep m k1 v1 hm DM hg x z1 (BZ p2 eZ k2 v2 B3 x z2).2.1
    ·rw[Eg m2 Kf] at z2;exact t2 m m2 x k1 v1 k2 v2 hm cN hg B3 cf z1 z2
end Go.Rn
namespace Go.Rn
open Go.RowKit
variable {ρ σ:Ren} {β:Type} {o:ae} {v:AV} {s1 s:AS} {o':Obj} {c:Prop} {N:Nat}
structure Cb where
 fn:FuncId
 nt:Nat
 ps:List Tmp
 a:Code
 b:Code
 s1:Nat
 s2:Nat
structure fw where
 ret:Bool
 v1:AV
 v2:AV
 bL:Option Code
noncomputable section
def zb:ae->Option AV
 | .cells 1 t z=>cellAt t z 0
 |_=>none
def eH(v:AV):ae:=.cells 1 (Tr.fill [v] 0 .nil) []
def agl(p:Option Code):LoopState:=match p with
 |none=>.ready
 |some _=>.done
def Cb.loop(K:Cb)(bL:Option Code)(c1 c2 df:Nat):ae:=.loop (agl bL) bL K.fn (aE [(K.s1,.ptr<|some (c1,0)),(K.s2,.ptr<|some (c2,0))]) K.nt K.ps K.a K.b df
def Dq(v:Option AV):Option Nat:=match v with
 |some (.ptr (some (c,0)))=>some c
 |_=>none
open Classical in
def iI(c:Prop)(m:M β):M β:=aG (decide c) m
structure V7 where
 fn:FuncId
 t:Tr AV
 nt:Nat
 ps:List Tmp
 a:Code
 b:Code
 df:Nat
def JP:ae->Option V7
 | .loop .ready none fn t nt ps a b df=>some ⟨fn,t,nt,ps,a,b,df⟩
 |_=>none
def Gu(K:Cb)(val:AV->AV->AV->Option fw)(x:AV)(L:Nat):M AV:=
 (bt L).bind fun o=>aB (JP o) fun q=>
 iI (q.fn=K.fn/\q.nt=K.nt/\q.ps=K.ps/\q.a=K.a/\q.b=K.b) <|
 aB (Dq<|q.t.get K.s1) fun c1=>aB (Dq<|q.t.get K.s2) fun c2=>
 iI (L≠q.df/\L≠c1/\L≠c2/\q.df≠c1/\q.df≠c2/\c1≠c2) <|
 (bt q.df).bind fun od=>iI (od= .defs) <| (bt c1).bind fun o1=>(bt c2).bind fun o2=>
 aB (zb o1) fun v1=>aB (zb o2) fun v2=>aB (val x v1 v2) fun p=>
 iI (v1.hi=true/\v2.hi=true/\p.v1.hi=true/\p.v2.hi=true/\p.v1.bR=true/\p.v2.bR=true/\v1.bR=true/\v2.bR=true) <|
 (bJ L<|some<|K.loop p.bL c1 c2 q.df).bind fun _=>(bJ q.df<|some .defs).bind fun _=>(bJ c1<|some<|eH p.v1).bind fun _=>(bJ c2<|some<|eH p.v2).bind fun _=>M.pure<|.bool p.ret
def qL(K:Cb)(val:AV->AV->AV->Option fw)(J:Nat)(ns:List Nat)(h0:Tr ae):aK->List AV->M AV:=fun _ args=>match args with
 |[x,.yield L]=>aG x.hi <| (fG J h0 ns).bind fun _=>Gu K val x L
 |_=>fail
end
open Classical in
theorem wG{m:M β}{b:β}(h:iI c m s= .ok b s1):c/\m s= .ok b s1:=by unfold iI at h;obtain⟨h1,h2⟩:=cV h;exact⟨of_decide_eq_true h1,h2⟩
theorem wL{m:M β}(h:c):iI c m=m:=by unfold iI;simp only[h,decide_true];rfl
theorem YF.iI{β:Type}{c:Prop}{m:M β}(h:YF m):YF<|iI c m:=YF.aG fun _=>h
theorem YF.qL(K:Cb)(val:AV->AV->AV->Option fw)(J:Nat)(ns:List Nat)(h0:Tr ae)(YG:aK)(args:List AV):YF<|qL K val J ns h0 YG args:=by
 unfold Rn.qL;split
 ·refine YF.aG fun _=>YF.bind (YF.fG J h0 ns) fun _=>?_;unfold Gu;refine YF.bind (YF.bt _) fun o=>YF.aB fun q _=>YF.iI <| YF.aB fun c1 _=>YF.aB fun c2 _=>YF.iI <| YF.bind (YF.bt _) fun _=>YF.iI <| YF.bind (YF.bt _) fun _=>YF.bind (YF.bt _) fun _=>YF.aB fun _ _=>YF.aB fun _ _=>YF.aB fun _ _=>YF.iI <| YF.bind (YF.bJ _ _) fun _=>YF.bind (YF.bJ _ _) fun _=>YF.bind (YF.bJ _ _) fun _=>YF.bind (YF.bJ _ _) fun _=>YF.pure _
 ·exact YF.fail
theorem aaQ{q:V7}(h:JP o=some q):o= .loop .ready none q.fn q.t q.nt q.ps q.a q.b q.df:=by
 unfold JP at h;split at h
 ·injection h with h;subst h;rfl
 ·cases h
theorem S2{v:Option AV}{c:Nat}(h:Dq v=some c):v=some (.ptr<|some (c,0)):=by
 unfold Dq at h;split at h
 ·injection h with h;subst h;rfl
 ·cases h
theorem EP(h:zb o=some v):∃t z,o= .cells 1 t z/\cellAt t z 0=some v:=by
 unfold zb at h;split at h
 ·exact⟨_,_,rfl,h⟩
 ·cases h
noncomputable def rF(K:Cb)(J:Nat)(P:Program)(rs:List ResultVar)(p:fw):=Fin P rs fun y s'=>y= .bool p.ret/\s'.h.get J=some (K.loop p.bL (J+2) (J+3)<|J+1)/\s'.h.get (J+1)=some .defs/\s'.h.get (J+2)=some (eH p.v1)/\s'.h.get (J+3)=some (eH p.v2)
noncomputable def Ja(K:Cb)(J:Nat)(v1 v2:AV):List<|Nat×ae:=[(J,K.loop none (J+2) (J+3)<|J+1),(J+1,.defs),(J+2,eH v1),(J+3,eH v2)]
theorem Fk(hb:zb o=some v)(hv:v.hi=true)(h1:v.bR=true)(hr:jh ρ σ)(h:OR ρ N o o'):OR σ N (eH v) o':=by
 obtain⟨t,z,rfl,hc⟩:=EP hb;obtain⟨c,e,rfl,h2,h3,h4⟩:=h;obtain⟨x,v',a1,a2,a3,a4⟩:=h4 0 aj;rw[hc] at a1;cases a1;refine⟨c,e,rfl,h2,h3,fun i hi=>?_⟩;obtain rfl:i=0:=by omega
 exact⟨v,v',by rfl,h1,a3,AV.pB hr hv a4⟩
theorem wB(v:AV):zb (eH v)=some v:=rfl
theorem NM{K:Cb}{st:LoopState}{bL:Option Code}{t:Tr AV}{c1 c2 df d1 d2 dg:Nat}(ht1:K.s1<top)(D3:K.s2<top)(h1:t.get K.s1=some (.ptr<|some (c1,0)))(h2:t.get K.s2=some (.ptr<|some (c2,0)))(e1:∀x,ρ c1=some x->σ d1=some x)(e2:∀x,ρ c2=some x->σ d2=some x)(e3:∀x,ρ df=some x->σ dg=some x)(h:OR ρ N (.loop st bL K.fn t K.nt K.ps K.a K.b df) o'):OR σ N (.loop st bL K.fn (aE [(K.s1,.ptr<|some (d1,0)),(K.s2,.ptr<|some (d2,0))]) K.nt K.ps K.a K.b dg) o':=by
 obtain⟨a,b,M,rfl,h3,h4,h5,h6⟩:=h;refine⟨a,b,M,rfl,⟨h3.1,fun i x hx=>?_⟩,h4,e3 _ h5,h6⟩;have hm:=Cz (fun p hp=>by
  rcases List.mem_cons.1 hp with rfl|hp
  ·exact ht1
  ·rcases List.mem_cons.1 hp with rfl|hp
   ·exact D3
   ·cases hp) hx
 rcases List.mem_cons.1 hm with hm|hm
 ·cases hm;have:=h3.2 _ _ h1;simp only[VR] at this ⊢;obtain⟨b',N',q1,q2⟩:=this;exact⟨b',N',e1 _ q1,q2⟩
 ·rcases List.mem_cons.1 hm with hm|hm
  ·cases hm;have:=h3.2 _ _ h2;simp only[VR] at this ⊢;obtain⟨b',N',q1,q2⟩:=this;exact⟨b',N',e2 _ q1,q2⟩
  ·cases hm
theorem adi{P:Program}{B:aJ}{f J:Nat}{ns:List Nat}{h0:Tr ae}{kn:List<|Nat×Option ae}{K:Cb}{val:AV->AV->AV->Option fw}{fn:Func}{body:Code}{w:World}(hP:bS P)(cj:P.funcs[f]? =some fn)(ct:fn.body=some body)(dE:(fn.name == "runtime.NumGoroutine")=false)(fY:fI<=J)(dK:J+4<=top)(jJ:K.s1<top)(kB:K.s2<top)(mM:K.s1≠K.s2)(dJ:∀n o,n<top->h0.get n=some o->n∈ns)(eD:∀n∈ns,n<J)(jl:∀n o,(n,some o)∈kn->h0.get n=some o)(jr:∀p∈kn,p.1<top)(eT:∀x v1 v2 p,val x v1 v2=some p->max fn.ntmps 2<=top/\∀B':aJ,B'.F=B.F->B'.inv=B.inv->
 au P B' (J+4) (rF K J P fn.results.toList p) ⟨f,dt [x,.yield J],max fn.ntmps 2,[.code body],[],none⟩ ⟨fR<|kn++aX (Ja K J v1 v2),J+4,0,[],[]⟩){YG:aK}{args:List AV}{x:AV}{vs:Array Value}(r:Rel B ρ s.h w)(hg:gC ρ)(h:qL K val J ns h0 YG args s= .ok x s1)(hv:ay ρ args vs.toList):jg P ((callFunc f vs).run P w)<|ki B ρ s s1 w x:=by
 unfold qL at h;split at h
 ·rename_i x0 L;obtain⟨gG,h1⟩:=cV h;obtain⟨u,s2,h2,h3⟩:=M.aN h1;obtain⟨a1,a2,a3⟩:=uC h2;unfold Gu at h3;obtain⟨o,s3,k1,h3⟩:=M.aN h3;obtain⟨q,hq,h3⟩:=bu h3;obtain⟨⟨f1,f2,f3,f4,f5⟩,h3⟩:=wG h3;obtain⟨c1,jG,h3⟩:=bu h3;obtain⟨c2,vX,h3⟩:=bu h3;obtain⟨⟨n1,n2,n3,n4,n5,n6⟩,h3⟩:=wG h3;obtain⟨od,s4,k2,h3⟩:=M.aN h3;obtain⟨hod,h3⟩:=wG h3;obtain⟨o1,s5,k3,h3⟩:=M.aN h3;obtain⟨o2,s6,k4,h3⟩:=M.aN h3;obtain⟨v1,D9,h3⟩:=bu h3;obtain⟨v2,rO,h3⟩:=bu h3;obtain⟨p,hp,h3⟩:=bu h3;obtain⟨⟨g1,g2,g3,g4,g5,g6,g7,g8⟩,h3⟩:=wG h3;obtain⟨u1,t1,w1,h3⟩:=M.aN h3;obtain⟨u2,t2,w2,h3⟩:=M.aN h3;obtain⟨u3,t3,w3,h3⟩:=M.aN h3;obtain⟨u4,t4,w4,h3⟩:=M.aN h3;obtain⟨rfl,rfl⟩:=bA h3;obtain⟨r1,r2,r3,r4⟩:=fU k1;obtain⟨r5,r6,r7,r8⟩:=fU k2;obtain⟨r9,XN,XO,r12⟩:=fU k3;obtain⟨r13,XP,r15,r16⟩:=fU k4;obtain⟨x1,x2,_,x4,x5⟩:=jx w1;obtain⟨y1,y2,_,y4,y5⟩:=jx w2;obtain⟨z1,z2,_,z4,z5⟩:=jx w3;obtain⟨m1,m2,_,m4,m5⟩:=jx w4;have XQ:=aaQ hq;have p1:=S2 jG;have p2:=S2 vX;obtain⟨qfn,qt,qnt,qps,qa,qb,df⟩:=q;simp only at f1 f2 f3 f4 f5 n1 n2 n3 n4 n5 n6 XQ p1 p2 jG vX k2 k3 k4 w1 w2 w3 w4 y1 y2 y4 r5 r6 r7 r8 x4 hq;subst f1;subst f2;subst f3;subst f4;subst f5;subst hod;rw[XQ,a1] at r2;rw[r3,a1] at r6;rw[r7,r3,a1] at XN;rw[XO,r7,r3,a1] at XP;obtain⟨tz1,zz1,bo1,_⟩:=EP D9;obtain⟨tz2,zz2,bo2,_⟩:=EP rO;let V:Vw:=[(J,L,K.loop none (J+2) (J+3)<|J+1),(J+1,df,.defs),(J+2,c1,eH v1),(J+3,c2,eH v2)];have mem:∀q∈V,q=(J,L,K.loop none (J+2) (J+3)<|J+1)\/q=(J+1,df,.defs)\/q=(J+2,c1,eH v1)\/q=(J+3,c2,eH v2):=fun q hq=>by simpa[V] using hq
  have e0:∀gF:Ren,eU J gF V J=gF L:=fun gF=>by
   unfold eU;rw[if_neg aj,if_neg aj];show(match gJ V J with|some n=>gF n|none=>none)=_;have:gJ V J=some L:=by simp[gJ,V]
   rw[this]
  have e1:∀gF:Ren,eU J gF V (J+1)=gF df:=fun gF=>by
   unfold eU;rw[if_neg aj,if_neg aj];show(match gJ V (J+1) with|some n=>gF n|none=>none)=_;have:gJ V (J+1)=some df:=by simp[gJ,V]
   rw[this]
  have e2:∀gF:Ren,eU J gF V (J+2)=gF c1:=fun gF=>by
   unfold eU;rw[if_neg aj,if_neg aj];show(match gJ V (J+2) with|some n=>gF n|none=>none)=_;have:gJ V (J+2)=some c1:=by simp[gJ,V]
   rw[this]
  have e3:∀gF:Ren,eU J gF V (J+3)=gF c2:=fun gF=>by
   unfold eU;rw[if_neg aj,if_neg aj];show(match gJ V (J+3) with|some n=>gF n|none=>none)=_;have:gJ V (J+3)=some c2:=by simp[gJ,V]
   rw[this]
  have hi:jh ρ<|eU J ρ V:=fun m x hm e=>by rw[yJ aj hm];exact e
  have hV:zS J ρ s.h V:=by
   refine⟨fun q hq=>?_,fun q hq q' dY e=>?_,fun q hq q' dY e=>?_,fun q hq=>?_⟩
   ·rcases mem q hq with rfl|rfl|rfl|rfl
    ·exact⟨Nat.le_refl _,by omega,x2⟩
    ·exact⟨by omega,by omega,y2⟩
    ·exact⟨by omega,by omega,z2⟩
    ·exact⟨by omega,by omega,m2⟩
   ·rcases mem q hq with rfl|rfl|rfl|rfl<;>rcases mem q' dY with rfl|rfl|rfl|rfl<;>first|rfl|(simp only at e;omega)
   ·rcases mem q hq with rfl|rfl|rfl|rfl<;>rcases mem q' dY with rfl|rfl|rfl|rfl<;>first|rfl|(simp only at e;omega)
   ·rcases mem q hq with rfl|rfl|rfl|rfl
    ·exact⟨_,r2,.inl ⟨rfl,rfl,fun N o' hO=>NM jJ kB p1 p2 (fun x e=>by rw[e2];exact e) (fun x e=>by rw[e3];exact e) (fun x e=>by rw[e1];exact e) hO⟩⟩
    ·exact⟨_,r6,.inl ⟨rfl,rfl,fun N o' hO=>hO⟩⟩
    ·exact⟨_,XN,.inl ⟨by rw[bo1];rfl,rfl,fun N o' hO=>Fk D9 g1 g7 hi hO⟩⟩
    ·exact⟨_,XP,.inl ⟨by rw[bo2];rfl,rfl,fun N o' hO=>Fk rO g2 g8 hi hO⟩⟩
  obtain⟨_,cU,T⟩:=r.tk;have T:DL B ρ s.h w cU:=T;have nJ:=JN aj r T dJ eD jl jr (fun n hn=>by obtain⟨_,o,p,h⟩:=a3 n hn;exact⟨o,p,h⟩) hV;obtain⟨d1,d2⟩:=eT _ _ _ _ hp;have fi:bB (⟨fR<|kn++aX (Ja K J v1 v2),J+4,0,[],[]⟩:AS):=⟨Nat.zero_le _,dK⟩;have kq:ay (eU J ρ V) [x0,.yield J] vs.toList:=by simp only[ay,VR] at hv ⊢;obtain⟨y0,ys,q1,q2,y3,D4,q3,⟨b',N',q4,q5⟩,q6⟩:=hv;exact⟨y0,ys,q1,AV.pB hi gG q2,y3,D4,q3,⟨b',N',(e0 ρ).trans q4,q5⟩,q6⟩
  have bG:=au.FB (B:=tw B ρ w<|wH ρ cU V) (s:=⟨fR<|kn++aX (Ja K J v1 v2),J+4,0,[],[]⟩) (args:=[x0,.yield J]) (vs:=vs) hP cj ct d1 (d2 _ rfl rfl) fi nJ (fun g iF=>by
   obtain⟨N,e⟩:=hg g iF;exact⟨N,by rw[CL<|Nat.lt_of_lt_of_le iF fY];exact e⟩) (fun m hm j9=>by
   have hm:J+4<=m:=hm;exact HT aj j9 fun q hq=>by rcases mem q hq with rfl|rfl|rfl|rfl<;>(show _≠m;simp only;omega)) kq
  rw[si cj ct dE];show Calls P f vs w _;refine bG.mono fun e w'=>?_;rintro ⟨B4,x',s7,rfl,⟨rfl,j1,j2,j3,j4⟩,_,σ,i0,B5,i1,i2,i3⟩;have sV:∀q∈V,σ q.1=ρ q.2.1:=fun q hq=>by
   rcases mem q hq with rfl|rfl|rfl|rfl
   ·exact(i0 J aj aj).trans<|e0 ρ
   ·exact(i0 (J+1) aj aj).trans<|e1 ρ
   ·exact(i0 (J+2) aj aj).trans<|e2 ρ
   ·exact(i0 (J+3) aj aj).trans<|e3 ρ
  have qM:jh σ<|cC ρ σ:=fun k x hk e=>by unfold cC;rw[if_pos hk];exact e
  have PR:∀k,k<top->cC ρ σ k=ρ k:=fun k hk=>by unfold cC;rw[if_neg aj]
  have V0:(J,L,K.loop none (J+2) (J+3)<|J+1)∈V:=by simp[V]
  have V1:(J+1,df,ae.defs)∈V:=by simp[V]
  have V2:(J+2,c1,eH v1)∈V:=by simp[V]
  have V3:(J+3,c2,eH v2)∈V:=by simp[V]
  have Eh:σ (J+1)=ρ df:=sV _ V1;have s2':σ (J+2)=ρ c1:=sV _ V2;have s3':σ (J+3)=ρ c2:=sV _ V3;have gt:∀(k c d:Nat),(aE [(K.s1,AV.ptr<|some (c,0)),(K.s2,.ptr<|some (d,0))]).get K.s1=some (.ptr<|some (c,0))/\(aE [(K.s1,AV.ptr<|some (c,0)),(K.s2,.ptr<|some (d,0))]).get K.s2=some (.ptr<|some (d,0)):=fun k c d=>by
   constructor
   ·show(((Tr.nil:Tr AV).put K.s2 _).put K.s1 _).get K.s1=_;rw[Tr.lL _ _ _ _ jJ,if_pos rfl]
   ·show(((Tr.nil:Tr AV).put K.s2 _).put K.s1 _).get K.s2=_;rw[Tr.lL _ _ _ _ jJ,if_neg fun e=>mM e.symm,Tr.lL _ _ _ _ kB,if_pos rfl]
  obtain⟨b1,b2,b3,b4⟩:=I9 (a:=s.nx) (L2:=[(L,K.loop p.bL c1 c2 df),(df,.defs),(c1,eH p.v1),(c2,eH p.v2)]) (h':=s1.h) r T hV i2 i3 sV (fun m z hm q=>B5 m z hm<|hi m z hm q) (fun n q hm=>by
   rcases List.mem_cons.1 hm with hm|hm
   ·cases hm;exact⟨_,V0,rfl,_,j1,.inl ⟨rfl,rfl,fun N o' hO=>NM jJ kB (gt 0 _ _).1 (gt 0 _ _).2 (fun x e=>by rw[PR c1 z2, ←s2'];exact e) (fun x e=>by rw[PR c2 m2, ←s3'];exact e) (fun x e=>by rw[PR df y2, ←Eh];exact e) hO⟩⟩
   rcases List.mem_cons.1 hm with hm|hm
   ·cases hm;exact⟨_,V1,rfl,_,j2,.inl ⟨rfl,rfl,fun N o' hO=>hO⟩⟩
   rcases List.mem_cons.1 hm with hm|hm
   ·cases hm;exact⟨_,V2,rfl,_,j3,.inl ⟨rfl,rfl,fun N o' hO=>Fk (wB _) g3 g5 qM hO⟩⟩
   rcases List.mem_cons.1 hm with hm|hm
   ·cases hm;exact⟨_,V3,rfl,_,j4,.inl ⟨rfl,rfl,fun N o' hO=>Fk (wB _) g4 g6 qM hO⟩⟩
   cases hm) (fun q hq _=>by
   rcases mem q hq with rfl|rfl|rfl|rfl
   ·exact⟨_,j1,rfl⟩
   ·exact⟨_,j2,rfl⟩
   ·exact⟨_,j3,rfl⟩
   ·exact⟨_,j4,rfl⟩) (fun k hk=>by
   have G1:s1.h=(((s.h.put L<|some<|K.loop p.bL c1 c2 df).put df<|some .defs).put c1<|some<|eH p.v1).put c2 (some<|eH p.v2):=by rw[m4,z4,y4,x4,r15,XO,r7,r3,a1]
   rw[G1,Tr.da _ _ _ _ m2 hk,Tr.da _ _ _ _ z2 hk,Tr.da _ _ _ _ y2 hk,Tr.da _ _ _ _ x2 hk];by_cases q4:k=c2
   ·subst q4;exact .inl ⟨_,by simp,if_pos rfl⟩
   rw[if_neg q4];by_cases q3:k=c1
   ·subst q3;exact .inl ⟨_,by simp,if_pos rfl⟩
   rw[if_neg q3];by_cases q2:k=df
   ·subst q2;exact .inl ⟨_,by simp,if_pos rfl⟩
   rw[if_neg q2];by_cases q1:k=L
   ·subst q1;exact .inl ⟨_,by simp,if_pos rfl⟩
   rw[if_neg q1];exact .inr ⟨fun q hq=>by rcases mem q hq with rfl|rfl|rfl|rfl<;>(intro e;exact absurd e.symm<|by assumption),rfl⟩)
  refine⟨B4,rfl,cC ρ σ,?_,AV.pB qM rfl i1,b3,b4⟩;have cr:s1.nx=s.nx:=by rw[m5,z5,y5,x5,r16,r12,r8,r4,a2]
  rw[cr];exact b1
 ·cases h
end Go.Rn
namespace Go.Rn
open Go.RowKit
variable {r:Nat->Nat} {n J g df c2 c1:Nat} {s:AS} {K:Cb} {ns:List Nat} {h0:Tr ae} {P:Program}
theorem agm(h:s.mark=0):aU n s=s:=by obtain⟨hh,nx,mark,rd,wr⟩:=s;have h:mark=0:=h;subst h;rfl
theorem TK{J:Nat}{h0:Tr ae}:∀{ns:List Nat} {s s1:AS} {u:Unit},s.mark=0->fG J h0 ns s= .ok u s1->s1=s
 |[],s,s1,u,_,h=>(bA (show M.pure () s= .ok u s1 from h)).2
 |m::ns,s,s1,u,hm,h=>by obtain⟨o,s2,h1,h2⟩:=M.aN (show((bt m).bind fun o=>aB (h0.get m) fun p=>aG (ou J o p) <| fG J h0 ns) s= .ok u s1 from h);obtain⟨a1,a2,rfl⟩:=Nz h1;rw[if_neg aj] at h2;obtain⟨p,_,h3⟩:=bu h2;obtain⟨_,h4⟩:=cV h3;exact TK hm h4
theorem JQ{o:Option ae}{p:ae}(hm:s.mark=0)(h1:n<s.nx)(h2:n<top)(h3:s.h.get n=some p)(h4:p.dh=false):bJ n o s= .ok () ⟨s.h.put n o,s.nx,s.mark,s.rd,s.wr⟩:=by rw[N9 h1 h2 h3 h4,if_neg aj]
structure Kg (K:Cb) (s:AS) (L df c1 c2:Nat) (v1 v2:AV):Prop where
 mark:s.mark=0
 nx:s.nx<=top
 lt:L<s.nx/\df<s.nx/\c1<s.nx/\c2<s.nx
 ne:L≠df/\L≠c1/\L≠c2/\df≠c1/\df≠c2/\c1≠c2
 loop:∃t,s.h.get L=some (.loop .ready none K.fn t K.nt K.ps K.a K.b df)/\t.get K.s1=some (.ptr<|some (c1,0))/\t.get K.s2=some (.ptr<|some (c2,0))
 df:s.h.get df=some .defs
 b1:∃o,s.h.get c1=some o/\zb o=some v1
 b2:∃o,s.h.get c2=some o/\zb o=some v2
def okB(v:AV):Prop:=v.hi=true/\v.bR=true
noncomputable def KY(K:Cb)(s:AS)(L df c1 c2:Nat)(p:fw):AS:=⟨(((s.h.put L<|some<|K.loop p.bL c1 c2 df).put df<|some .defs).put c1<|some<|eH p.v1).put c2<|some<|eH p.v2,s.nx,s.mark,s.rd,s.wr⟩
theorem NN{F:Nat->Option (List AV)}{sp:Sp}{val:AV->AV->AV->Option fw}(h:sp g=some (qL K val J ns h0)){x v1 v2:AV}{L:Nat}{p:fw}(hx:x.hi=true)(hk:pK J h0 ns s=true)(I:Kg K s L df c1 c2 v1 v2)(hv:val x v1 v2=some p)(o1:okB v1)(o2:okB v2)(o3:okB p.v1)(o4:okB p.v2):
 bc P sp F (n+1) (.fn g) [x,.yield L] s= .ok (.bool p.ret) (KY K s L df c1 c2 p):=by
 show jH P sp g (bc P sp F n) [x,.yield L] s=_;rw[qZ h];show(aG x.hi <| (fG J h0 ns).bind fun _=>Gu K val x L) s=_;have hc:=xg hk;rw[TK I.mark hc] at hc;rw[hx,dq,M.bK hc];obtain⟨t,l1,l2,l3⟩:=I.loop;obtain⟨q1,q2,q3⟩:=I.b1;obtain⟨r1,r2,r3⟩:=I.b2;obtain⟨n1,n2,n3,n4,n5,n6⟩:=I.ne;obtain⟨t1,t2,t3,t4⟩:=I.lt;have rd:∀(m:Nat) (o:ae),m<s.nx->s.h.get m=some o->bt m s= .ok o s:=fun m o hm ho=>by have:=lN ((blt_eq _ _).mpr hm) ho;rw[agm I.mark] at this;exact this
 have tt:=I.nx;obtain⟨tz1,zz1,e1,_⟩:=EP q3;obtain⟨tz2,zz2,e2,_⟩:=EP r3;unfold Gu;rw[M.bK<|rd _ _ t1 l1];rw[show JP (.loop .ready none K.fn t K.nt K.ps K.a K.b df)=some ⟨K.fn,t,K.nt,K.ps,K.a,K.b,df⟩ from rfl,bQ];rw[wL (show K.fn=K.fn/\K.nt=K.nt/\K.ps=K.ps/\K.a=K.a/\K.b=K.b from⟨rfl,rfl,rfl,rfl,rfl⟩)];simp only;rw[l2,l3,show Dq (some<|.ptr<|some (c1,0))=some c1 from rfl,show Dq (some<|.ptr<|some (c2,0))=some c2 from rfl,bQ,bQ,wL ⟨n1,n2,n3,n4,n5,n6⟩,M.bK<|rd _ _ t2 I.df,wL rfl,M.bK<|rd _ _ t3 q2,M.bK<|rd _ _ t4 r2,q3,r3,bQ,bQ,hv,bQ,wL ⟨o1.1,o2.1,o3.1,o4.1,o3.2,o4.2,o1.2,o2.2⟩];have g1:∀(h:Tr ae) (m k:Nat) (o:Option ae) (p:ae),m<top->k<top->m≠k->h.get k=some p->(h.put m o).get k=some p:=fun h m k o p hm hk cf e=>by rw[Tr.da _ _ _ _ hm hk,if_neg<|Ne.symm cf];exact e
 rw[M.bK<|JQ I.mark t1 aj l1 rfl];rw[M.bK<|JQ (s:=⟨s.h.put L<|some<|K.loop p.bL c1 c2 df,s.nx,s.mark,s.rd,s.wr⟩) I.mark t2 aj (g1 _ _ _ _ _ aj aj n1 I.df) rfl];rw[M.bK<|JQ (s:=⟨(s.h.put L<|some<|K.loop p.bL c1 c2 df).put df<|some .defs,s.nx,s.mark,s.rd,s.wr⟩) I.mark t3 aj (g1 _ _ _ _ _ aj aj n4<|g1 _ _ _ _ _ aj aj n2 q2) (by rw[e1];rfl)];rw[M.bK<|JQ (s:=⟨((s.h.put L<|some<|K.loop p.bL c1 c2 df).put df<|some .defs).put c1<|some<|eH p.v1,s.nx,s.mark,s.rd,s.wr⟩) I.mark t4 aj (g1 _ _ _ _ _ aj aj n6<|g1 _ _ _ _ _ aj aj n5<|g1 _ _ _ _ _ aj aj n3 r2) (by rw[e2];rfl)];rfl
theorem Vt{X:TX}{kn:List<|Nat×Option ae}{L L':bO}{fn:Func}{body:Code}(hP:bS P)(fY:fI<=J)(dK:J+4<=top)(jJ:K.s1<top)(kB:K.s2<top)(mM:K.s1≠K.s2)(dJ:∀n o,n<top->h0.get n=some o->n∈ns)(eD:∀n∈ns,n<J)(jl:∀n o,(n,some o)∈kn->h0.get n=some o)(jr:∀p∈kn,p.1<top){val:AV->AV->AV->Option fw}(h:dR X J P<|dk J ns h0 L)(h':dR X J P<|dk J ns h0 L')(cj:P.funcs[g]? =some fn)(ct:fn.body=some body)(dE:(fn.name == "runtime.NumGoroutine")=false)(eT:∀x v1 v2 p,val x v1 v2=some p->max fn.ntmps 2<=top/\∀B:aJ,qz X P J ns h0 L' B->
 au P B (J+4) (rF K J P fn.results.toList p) ⟨g,dt [x,.yield J],max fn.ntmps 2,[.code body],[],none⟩ ⟨fR<|kn++aX (Ja K J v1 v2),J+4,0,[],[]⟩):dR X J P<|dk J ns h0<|(g,.raw<|qL K val)::L:=by
 refine(show dR X J P (oT (dk J ns h0 L) g<|qL K val J ns h0) from h.mq (fun YG _ args=>YF.qL _ _ _ _ _ YG args) fun B hB hT YG hc hl args x s s1 ρ w vs fi r hg hf hm hv=>?_);refine adi hP cj ct dE fY dK jJ kB mM dJ eD jl jr (fun x v1 v2 p e=>?_) r hg hm hv;obtain⟨q1,q2⟩:=eT x v1 v2 p e;exact⟨q1,fun B' lE lF=>q2 B'<|qA hP h' (lE.trans hB)<|lF.trans hT⟩
theorem abY{p:Option Code}(jJ:K.s1<top)(kB:K.s2<top)(mM:K.s1≠K.s2)(e1:r c1=c1)(e2:r c2=c2)(e3:r df=df):lS r (K.loop p c1 c2 df)<|K.loop p c1 c2 df:=by
 intro ρ N o h;have gt:(aE [(K.s1,AV.ptr<|some (c1,0)),(K.s2,.ptr<|some (c2,0))]).get K.s1=some (.ptr<|some (c1,0))/\(aE [(K.s1,AV.ptr<|some (c1,0)),(K.s2,.ptr<|some (c2,0))]).get K.s2=some (.ptr<|some (c2,0)):=by
  constructor
  ·show(((Tr.nil:Tr AV).put K.s2 _).put K.s1 _).get K.s1=_;rw[Tr.lL _ _ _ _ jJ,if_pos rfl]
  ·show(((Tr.nil:Tr AV).put K.s2 _).put K.s1 _).get K.s2=_;rw[Tr.lL _ _ _ _ jJ,if_neg fun e=>mM e.symm,Tr.lL _ _ _ _ kB,if_pos rfl]
 exact NM jJ kB gt.1 gt.2 (fun x e=>by rw[e1];exact e) (fun x e=>by rw[e2];exact e) (fun x e=>by rw[e3];exact e) h
theorem Uz{v:AV}(h:okB v)(hr:∀k,top<=k->r k=k):lS r (eH v)<|eH v:=by intro ρ N o k;exact Fk (wB v) h.1 h.2 (fun m x hm e=>by rw[hr m hm];exact e) k
theorem bg.yield(e:r n=n):bg r (.yield n)<|.yield n:=by intro ρ v h;simp only[VR] at h ⊢;obtain⟨b,N,h1,h2⟩:=h;exact⟨b,N,by rw[e];exact h1,h2⟩
theorem abZ:lS r .defs .defs:=fun ρ N o k=>k
end Go.Rn
