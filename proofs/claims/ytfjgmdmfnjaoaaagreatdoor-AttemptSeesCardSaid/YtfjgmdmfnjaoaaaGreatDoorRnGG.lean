import Derived.Test.YtfjgmdmfnjaoaaaGreatDoorRnGF
set_option maxRecDepth 100000
set_option maxHeartbeats 8000000
set_option linter.unusedSimpArgs false
set_option linter.unusedVariables false
namespace Go.Rn
open Go.RowKit
noncomputable section
def x8(J:Nat)(ns:List Nat)(h0:Tr ab)(k:Nat)(val:AV->List AV->Option (AV×AV)):aK->List AV->M AV:=fun _ args=>
 match args with
 | .ptr (some (n,0))::rest=>aH (rest.all AV.hi&&Nat.ble J n) <| (fG J h0 ns).bind fun _=>(bq n).bind fun o=>match o with
  | .tok k' v=>aH (Nat.beq k k') <| aC (val v rest) fun p=>aH p.1.hi <| (lk n<|some<|.tok k p.2).bind fun _=>M.pure p.1
  |_=>fail
 |_=>fail
end
theorem YN.x8(J:Nat)(ns:List Nat)(h0:Tr ab)(k:Nat)(val:AV->List AV->Option (AV×AV))(YO:aK)(args:List AV):YN<|x8 J ns h0 k val YO args:=by
 unfold Rn.x8;split
 ·refine YN.aH fun _=>YN.bind (YN.fG J h0 ns) fun _=>YN.bind (YN.bq _) fun o=>?_;split
  ·exact YN.aH fun _=>YN.aC fun p _=>YN.aH fun _=>YN.bind (YN.lk _ _) fun _=>YN.pure _
  ·exact YN.fail
 ·exact YN.fail
def my(J:Nat)(ρ loc:aw):aw:=fun m=>if m<J then ρ m else if top<=m then ρ m else loc m
def tN(B:aL)(ρ:aw)(w:World)(H:Nat->Prop):aL:=⟨fun x=>w.heap.size<=x\/H x,B.F,fun m=>ρ m≠none,B.inv,B.dA,B.mono⟩
theorem agR{X:TX}{J k:Nat}{v:AV}{B:aL}{ρ:aw}{w:World}{h h0:Tr ab}{ns:List Nat}{kn:List<|Nat×Option ab}{b:Nat}{H:Nat->Prop}(hX:yo X J)(hT:B.inv=nJ X J)(ht:J<=top)(r:Rel B ρ h w)(dM:∀n o,n<top->h0.get n=some o->n∈ns)(eA:∀n∈ns,n<J)(jv:∀n o,(n,some o)∈kn->h0.get n=some o)(jw:∀p∈kn,p.1<top)(a3:∀n∈ns,∃o p,h.get n=some o/\h0.get n=some p/\oz J o p=true)(hH:∀x,H x->(x<w.heap.size/\B.dA<=x)/\B.may x/\jU ρ h x/\∀j sh,ρ (hn j x sh)=none)(I:nJ X J k v ρ w b H):
 ∃L loc N0,X k v L/\loc J=some (b,N0)/\(∀m y,loc m=some y->∃o,(m,o)∈L)/\Rel (tN B ρ w H) (my J ρ loc) (gd<|kn++bx L) w:=by
 obtain⟨L,GS,bl,H1,N0,hx,root,low,is,one,tok,Kb,sub,own,apart⟩:=I;have r0:=DQ ht r dM eA a3;have nm:=hX.nm k v L hx;let loc:aw:=fun m=>if m∈L.map (·.1) then GS m else none
 have Cl:∀m o,(m,o)∈L->m∈L.map (·.1):=fun m o hm=>List.mem_map.2 ⟨_,hm,rfl⟩;have WW:∀m,m∈L.map (·.1)->loc m=GS m:=fun m hm=>if_pos hm;have agS:∀m,m ∉ L.map (·.1)->loc m=none:=fun m hm=>if_neg hm;have ge:∀m,m∈L.map (·.1)->J<=m/\m<top:=fun m hm=>by obtain⟨p,hp,rfl⟩:=List.mem_map.1 hm;exact⟨(nm p hp).1,(nm p hp).2.1⟩
 obtain⟨oR,hR⟩:=hX.root k v L hx;have tm:∀m,m∈L.map (·.1)->my J ρ loc m=GS m:=fun m hm=>by obtain⟨q1,q2⟩:=ge m hm;unfold my;rw[if_neg aj,if_neg aj];exact WW m hm
 have tk:∀m,top<=m->my J ρ loc m=ρ m:=fun m hm=>by unfold my;rw[if_neg aj,if_pos hm]
 have tl:∀m,m<J->my J ρ loc m=ρ m:=fun m hm=>by unfold my;rw[if_pos hm]
 have uz:(gf J ρ).le<|my J ρ loc:=by
  intro m x e;unfold gf at e;split at e
  ·rename_i q;rw[tl m q];exact e
  ·unfold gi at e;split at e
   ·rename_i q;rw[tk m q];exact e
   ·cases e
 have cU:∀p∈kn++bx L,p.1<top:=fun p hp=>by
  rcases List.mem_append.1 hp with hp|hp
  ·exact jw p hp
  ·exact MP (fun q hq=>(nm q hq).2.1) p hp
 have mle:∀{N:Nat} {o:ab} {o':Obj},lr (L.map (·.1)) o->OR (xZ GS ρ) N o o'->OR (my J ρ loc) N o o':=fun hf hO=>(hf _ _ _ hO).mono fun i y hi=>by
  have hi:(if top<=i\/i∈L.map (·.1) then xZ GS ρ i else none)=some y:=hi;split at hi
  ·rename_i q;unfold xZ at hi;rcases q with q|q
   ·rw[if_pos q] at hi;rw[tk i q];exact hi
   ·rw[if_neg (by have:=(ge i q).2;omega)] at hi;rw[tm i q];exact hi
  ·cases hi
 have ah:∀m o,(gd<|kn++bx L).get m=some o->(m∈ns/\h0.get m=some o/\o.mL=true)\/(m,o)∈L:=fun m o hg=>by
  rcases List.mem_append.1 (wR cU hg) with q|q
  ·have q2:=jv m o q;have iJ:=dM m o (jw _ q) q2;obtain⟨p1,p2,_,c3,c4⟩:=a3 m iJ;rw[q2] at c3;cases c3;refine .inl ⟨iJ,q2,?_⟩;unfold oz at c4;split at c4<;>first|rfl|cases c4
  ·exact .inr<|MG q
 have Cm:∀m N x,m∈ns->my J ρ loc m=some (x,N)->x<B.dA:=fun m N x q1 e=>by rw[tl m<|eA m q1] at e;obtain⟨p1,p2,c2,c3,c4⟩:=a3 m q1;obtain⟨b',N',e1,e2⟩:=r.tk.1.2 m p1 (Nat.lt_of_lt_of_le (eA m q1) ht) c2<|H5 c4;rw[e] at e1;cases e1;exact e2
 have EK:∀m o N x,(m,o)∈L->my J ρ loc m=some (x,N)->x=bl m/\H x:=fun m o N x hm e=>by rw[tm m<|Cl m o hm] at e;obtain⟨N',o',e1,_,_,e4⟩:=is m o hm;rw[e] at e1;cases e1;exact⟨rfl,e4⟩
 refine⟨L,loc,N0,hx,(WW _<|Cl _ _ hR).trans root,fun m y e=>?_,fun m o hm hg=>?_,fun m n o p x N M hm eZ hg l6 cV e1 e2=>?_,fun m i es ex left cur hm hg=>?_,fun x hx=>.inl hx,fun i j m es ex left cur hI jr iR iU hi _ hg _=>?_,fun j x sh e=>?_,?_⟩
 ·by_cases q:m∈L.map (·.1)
  ·obtain⟨p,hp,rfl⟩:=List.mem_map.1 q;exact⟨p.2,hp⟩
  ·rw[agS m q] at e;cases e
 ·rcases ah m o hg with⟨q1,q3,q4⟩|q
  ·obtain⟨b',N',o',e1,e2,e3,_⟩:=r0.is m o hm q3;exact⟨b',N',o',uz _ _ e1,e2,e3.mono uz,fun z=>by rw[ab.jY q4] at z;cases z⟩
  ·obtain⟨N',o',e1,e2,e3,e4⟩:=is m o q;exact⟨bl m,N',o',(tm m<|Cl m o q).trans e1,e2,mle (nm _ q).2.2.2 e3,fun _=>.inr e4⟩
 ·rcases ah m o hg with⟨q1,q3,q4⟩|q
  ·rcases ah n p l6 with⟨z1,z3,z4⟩|z
   ·rcases cV with y|y
    ·rw[ab.jY q4] at y;cases y
    ·rw[ab.jY z4] at y;cases y
   ·have y1:=Cm m N x q1 e1;have y2:=(hH x (EK n p M x z e2).2).1.2;omega
  ·rcases ah n p l6 with⟨z1,z3,z4⟩|z
   ·have y1:=Cm n M x z1 e2;have y2:=(hH x (EK m o N x q e1).2).1.2;omega
   ·exact one m n o p q z<|(EK m o N x q e1).1.symm.trans (EK n p M x z e2).1
 ·rcases ah m _ hg with⟨_,_,q4⟩|q
  ·cases q4
  ·rcases(nm _ q).2.2.1 with y|y<;>cases y
 ·rcases ah i _ hg with⟨_,_,q4⟩|q
  ·cases q4
  ·rcases(nm _ q).2.2.1 with y|y<;>cases y
 ·rw[tk _<|fY _ _ _] at e;obtain⟨g0,l,c,e',fr,g1,g2,g3,g4⟩:=r0.fz j x sh (by rw[sW ht<|fY _ _ _];exact e);refine⟨.inl e,l,c,e',fr,g1,g2,fun m o N hm hg cz hr=>?_,fun i y hy=>?_⟩
  ·rcases ah m o hg with⟨_,_,q4⟩|q
   ·rw[ab.jY q4] at cz;cases cz
   ·exact e<|(hH x (EK m o N x q hr).2).2.2.2 j sh
  ·obtain⟨v',k1,k2,k3⟩:=g4 i y hy;refine⟨v',k1,VR.mono (fun i z q=>?_) _ _ k2,k3⟩;unfold gi at q ⊢;split at q
   ·rename_i hk;rw[if_pos hk];exact uz _ _ q
   ·cases q
 ·refine⟨⟨r.tk.1.1,fun m o hm hg hf=>?_⟩,H1,fun m k' v' hm hg=>?_,fun m n x k' v' Lj wj hm eZ hg l6 ct jb pX=>?_⟩
  ·rcases ah m o hg with⟨q1,q3,q4⟩|q
   ·obtain⟨b',N',o',e1,e2,e3,_⟩:=r0.is m o hm q3;exact⟨b',N',uz _ _ e1,Cm m N' b' q1<|uz _ _ e1⟩
   ·rcases(nm _ q).2.2.1 with y|y
    ·have:=(ab.uK y).2;rw[ab.jY hf] at this;cases this
    ·cases o<;>first|(cases y;done)|cases hf
  ·rcases ah m _ hg with⟨_,_,q4⟩|q
   ·cases q4
   ·obtain⟨N',o',e1,e2,e3,e4⟩:=is m _ q;refine⟨bl m,N',(tm m<|Cl m _ q).trans e1,?_,Kb m k' v' q,fun x jb=>?_⟩
    ·show B.inv k' v' (my J ρ loc) w (bl m)<|H1 m;rw[hT];exact(tok m k' v' q).mono (fun i y hi e=>by rw[tk i hi];exact e) fun _ _=>rfl
    ·have pX:=sub m k' v' q x jb;obtain⟨c1,c2,c3,c4⟩:=hH x pX;refine⟨c1,.inr pX,fun n o N eZ l6 cz hr=>?_,fun j sh=>by rw[tk _<|fY _ _ _];exact c4 j sh⟩;rcases ah n o l6 with⟨_,_,q4⟩|z
     ·rw[ab.jY q4] at cz;cases cz
     ·refine own m k' v' n o q z ?_ (by rw[←(EK n o N x z hr).1];exact jb);cases o<;>first|rfl|cases cz
  ·rcases ah m _ hg with⟨_,_,q4⟩|q
   ·cases q4
   ·rcases ah n _ l6 with⟨_,_,q4⟩|z
    ·cases q4
    ·exact apart m k' v' n Lj wj x q z ct jb pX
end Go.Rn
namespace Go.Rn
open Go.RowKit
theorem afz{X:TX}{J k n a:Nat}{v v':AV}{B:aL}{ρ σ:aw}{w w':World}{h h4:Tr ab}{b N N0:Nat}{cY:Nat->Nat->Prop}{L':List<|Nat×ab}(hX:yo X J)(hT:B.inv=nJ X J)(o8:n<top)(hg:h.get n=some (.tok k v))(hr:ρ n=some (b,N))(r:Rel B ρ h w)(h1:∀n k v,n<top->h.get n=some (.tok k v)->∃b N,ρ n=some (b,N)/\B.inv k v ρ w b (cY n)/\cY n b/\∀x,cY n x->(x<w.heap.size/\B.dA<=x)/\B.may x/\jU ρ h x/\∀j sh,ρ (hn j x sh)=none)(h2:∀n m x k v k' v',n<top->m<top->h.get n=some (.tok k v)->h.get m=some (.tok k' v')->n≠m->cY n x->¬cY m x)(q3:Rel (tN B ρ w<|cY n) σ h4 w')(q4:cL (tN B ρ w<|cY n) w w')(oQ:σ J=some (b,N0))(yp:∀m x,top<=m->ρ m=some x->σ m=some x)(hx:X k v' L')(hL:∀m o,(m,o)∈L'->h4.get m=some o):
 Ext a a ρ (cI ρ σ)/\jl σ (cI ρ σ)/\Rel B (cI ρ σ) (h.put n<|some<|.tok k v') w'/\cL B w w':=by
 obtain⟨b0,M0,r1,_,amK,hH⟩:=h1 n k v o8 hg;rw[hr] at r1;cases r1;have nm:=hX.nm k v' L' hx;have hl:ρ.le<|cI ρ σ:=by
  intro k x e;unfold cI;by_cases hk:top<=k
  ·rw[if_pos hk];exact yp k x hk e
  ·rw[if_neg hk];exact e
 have cU:∀k,k<top->cI ρ σ k=ρ k:=fun k hk=>by unfold cI;rw[if_neg aj]
 have gG:∀k,top<=k->cI ρ σ k=σ k:=fun k hk=>by unfold cI;rw[if_pos hk]
 have g:∀m,m<top->(h.put n<|some<|.tok k v').get m=if m=n then some (.tok k v') else h.get m:=fun m hm=>Tr.du _ _ _ _ o8 hm
 have BJ:cL B w w':=⟨q4.os,q4.tape,q4.output,q4.size,fun x hx hm=>q4.block x hx fun z=>by
  rcases z with z|z
  ·have z:w.heap.size<=x:=z;omega
  ·exact hm (hH x z).2.1⟩
 have mN:∀x,x<w.heap.size->¬cY n x->w'.heap[x]? =w.heap[x]? :=fun x hx hm=>q4.block x hx fun z=>by
  rcases z with z|z
  ·have z:w.heap.size<=x:=z;omega
  ·exact hm z
 have other:∀m o x M,m<top->m≠n->h.get m=some o->ρ m=some (x,M)->¬cY n x:=fun m o x M hm ct ho e jb=>by
  obtain⟨⟨_,c1⟩,_,c3,_⟩:=hH x jb;cases cz:o.dm with
  |false=>exact c3 m o M hm ho cz e
  |true=>
   by_cases hf:o.mL=true
   ·obtain⟨b',N',e1,e2⟩:=r.tk.1.2 m o hm ho hf;rw[e] at e1;cases e1;omega
   ·cases o<;>first|(cases cz;done)|(exact hf rfl)|skip
    rename_i k' wj;obtain⟨b',N',e1,_,e3,_⟩:=h1 m k' wj hm ho;rw[e] at e1;cases e1;exact h2 n m x k v k' wj o8 hm hg ho (Ne.symm ct) jb e3
 have si:∀x,jU ρ h x->jU (cI ρ σ) (h.put n<|some<|.tok k v') x:=fun x hn m o M hm ho cz e=>by
  rw[g m hm] at ho;by_cases q:m=n
  ·rw[if_pos q] at ho;cases ho;cases cz
  ·rw[if_neg q] at ho;rw[cU m hm] at e;exact hn m o M hm ho cz e
 have zI:∀x,w.heap.size<=x->jU (cI ρ σ) (h.put n<|some<|.tok k v') x:=fun x hx m o M hm ho cz e=>by
  rw[g m hm] at ho;by_cases q:m=n
  ·rw[if_pos q] at ho;cases ho;cases cz
  ·rw[if_neg q] at ho;rw[cU m hm] at e;obtain⟨b1,N1,o1,e1,e2,_⟩:=r.is m o hm ho;rw[e] at e1;cases e1;have:=gS e2;omega
 obtain⟨⟨_,_⟩,Hq,t1,t2⟩:=q3.tk;obtain⟨oR,hR⟩:=hX.root k v' L' hx;have fU:∀m o,(m,o)∈L'->m<top:=fun m o hm=>(nm _ hm).2.1;have qO:∀m o,(m,o)∈L'->∃x M o',σ m=some (x,M)/\w'.heap[x]? =some o'/\OR σ M o o'/\(o.dm=false->w.heap.size<=x\/cY n x):=fun m o hm=>q3.is m o (fU m o hm)<|hL m o hm;have kind:∀m o,(m,o)∈L'->o.dm=false\/∃k1 v1,o= .tok k1 v1:=fun m o hm=>by
  rcases(nm _ hm).2.2.1 with y|y
  ·exact .inl (ab.uK y).2
  ·cases o<;>first|exact .inr ⟨_,_,rfl⟩|cases y
 let Hn:Nat->Prop:=fun x=>(∃m o M,(m,o)∈L'/\o.dm=false/\σ m=some (x,M))\/∃m k1 v1,(m,ab.tok k1 v1)∈L'/\Hq m x;have Gq:∀m o,(m,o)∈L'->∀x M,σ m=some (x,M)->Hn x:=fun m o hm x M e=>by
  rcases kind m o hm with q|⟨k1,v1,rfl⟩
  ·exact .inl ⟨m,o,M,hm,q,e⟩
  ·obtain⟨b1,N1,e1,_,e3,_⟩:=t1 m k1 v1 (fU _ _ hm)<|hL _ _ hm;rw[e] at e1;cases e1;exact .inr ⟨m,k1,v1,hm,e3⟩
 have Ed:∀x,Hn x->x<w'.heap.size/\(w.heap.size<=x\/cY n x)/\∀j sh,σ (hn j x sh)=none:=fun x hx=>by
  rcases hx with⟨m,o,M,hm,q,e⟩|⟨m,k1,v1,hm,q⟩
  ·obtain⟨x1,M1,o',e1,e2,_,e4⟩:=qO m o hm;rw[e] at e1;cases e1;refine⟨gS e2,e4 q,fun j sh=>Classical.byContradiction fun z=>?_⟩;obtain⟨_,_,_,_,_,_,_,z3,_⟩:=q3.fz j x sh z;exact z3 m o M (fU m o hm) (hL m o hm) q e
  ·obtain⟨b1,N1,_,_,_,e4⟩:=t1 m k1 v1 (fU _ _ hm)<|hL _ _ hm;obtain⟨⟨c1,_⟩,c2,_,c4⟩:=e4 x q;exact⟨c1,c2,c4⟩
 refine⟨⟨hl,fun k hk _=>cU k hk⟩,fun k x hk e=>by rw[gG k hk];exact e,⟨fun m o hm ho=>?_,fun m m2 o p x M M2 hm cS ho hp cV e1 e2=>?_,fun m i es ex left cur hm ho=>?_,fun x hx=>r.size x<|Nat.le_trans q4.size hx,fun i j m es ex left cur hI jr iR iU hi hj ho hp=>?_,fun j x sh e=>?_,?_⟩,BJ⟩
 ·rw[g m hm] at ho;by_cases q:m=n
  ·subst q;rw[if_pos rfl] at ho;cases ho;obtain⟨x,M,o',e1,e2,_,_⟩:=qO J oR hR;rw[oQ] at e1;cases e1;exact⟨b,N,o',(cU m hm).trans hr,e2,trivial,fun z=>by cases z⟩
  ·rw[if_neg q] at ho;obtain⟨b1,N1,o1,e1,e2,e3,e4⟩:=r.is m o hm ho;exact⟨b1,N1,o1,(cU m hm).trans e1,(mN b1 (gS e2)<|other m o b1 N1 hm q ho e1).trans e2,e3.mono hl,e4⟩
 ·rw[cU m hm] at e1;rw[cU m2 cS] at e2;rw[g m hm] at ho;rw[g m2 cS] at hp;have dz:∀m o,(if m=n then some (ab.tok k v') else h.get m)=some o->∃q,h.get m=some q/\(o.dm=false->q.dm=false):=fun m o ho=>by
   by_cases q:m=n
   ·rw[if_pos q] at ho;cases ho;rw[q];exact⟨_,hg,fun z=>by cases z⟩
   ·rw[if_neg q] at ho;exact⟨o,ho,id⟩
  obtain⟨o1,a1,a2⟩:=dz m o ho;obtain⟨o2,a3,a4⟩:=dz m2 p hp;exact r.one m m2 o1 o2 x M M2 hm cS a1 a3 (cV.imp a2 a4) e1 e2
 ·rw[g m hm] at ho;by_cases q:m=n
  ·rw[if_pos q] at ho;cases ho
  ·rw[if_neg q] at ho;obtain⟨hi,fC,b1,N1,bm,M,l,ay,seen,u1,u2,u3,u4,u5⟩:=r.iter m i es ex left cur hm ho;have iJ:i≠n:=by intro e;subst e;rw[hg] at fC;cases fC
   have u:oH ρ w' m i es ex left cur:=⟨b1,N1,bm,M,l,ay,seen,u1,u2,(mN b1 (gS u3)<|other m _ b1 N1 hm q ho u1).trans u3,(mN bm (gS u4)<|other i _ bm M hi iJ fC u2).trans u4,u5⟩;exact⟨hi,by rw[g i hi,if_neg iJ];exact fC,u.mono hl⟩
 ·rw[g i hi] at ho;rw[g j hj] at hp;by_cases q:i=n
  ·rw[if_pos q] at ho;cases ho
  ·rw[if_neg q] at ho;by_cases q2:j=n
   ·rw[if_pos q2] at hp;cases hp
   ·rw[if_neg q2] at hp;exact r.lone i j m es ex left cur hI jr iR iU hi hj ho hp
 ·rw[gG _<|fY _ _ _] at e;obtain⟨g0,l,c,e',fr,g1,g2,_,g4⟩:=q3.fz j x sh e;have mJ:∀i y,l[i]? =some y->∃v,c[sh+i]? =some v/\VR (gi<|cI ρ σ) y v/\y.cf=true:=fun i y hy=>by
   obtain⟨v,k1,k2,k3⟩:=g4 i y hy;refine⟨v,k1,VR.mono (fun z u q=>?_) _ _ k2,k3⟩;unfold gi at q ⊢;split at q
   ·rename_i hk;rw[if_pos hk,gG z hk];exact q
   ·cases q
  by_cases q:ρ (hn j x sh)≠none
  ·obtain⟨z0,l',c',e2,jV,z1,z2,z3,_⟩:=r.fz j x sh q;exact⟨z0,l,c,e',fr,g1,g2,si x z3,mJ⟩
  ·rcases g0.resolve_left q with z|z
   ·have z:w.heap.size<=x:=z;exact⟨.inr<|r.size x z,l,c,e',fr,g1,g2,zI x z,mJ⟩
   ·exact⟨.inr (hH x z).2.1,l,c,e',fr,g1,g2,si x (hH x z).2.2.1,mJ⟩
 ·let H':Nat->Nat->Prop:=fun m x=>if m=n then Hn x else cY m x
  have Cn:∀x,Hn x->H' n x:=fun x hx=>by show(if n=n then Hn x else _);rw[if_pos rfl];exact hx
  have XW:∀x,H' n x->Hn x:=fun x hx=>by have hx:(if n=n then Hn x else cY n x):=hx;rw[if_pos rfl] at hx;exact hx
  have hso:∀m x,m≠n->H' m x->cY m x:=fun m x hm hx=>by have hx:(if m=n then Hn x else cY m x):=hx;rw[if_neg hm] at hx;exact hx
  have aiR:∀m x,m≠n->cY m x->H' m x:=fun m x hm hx=>by show(if m=n then Hn x else cY m x);rw[if_neg hm];exact hx
  have Co:H' n=Hn:=funext fun x=>propext ⟨XW x,Cn x⟩;have yq:∀m,m≠n->H' m=cY m:=fun m hm=>funext fun x=>propext ⟨hso m x hm,aiR m x hm⟩;refine⟨⟨Nat.le_trans r.tk.1.1 q4.size,fun m o hm ho hf=>?_⟩,H',fun m k1 v1 hm ho=>?_,fun m m2 x k1 v1 k2 v2 hm cS ho hp ct y1 y2=>?_⟩
  ·rw[g m hm] at ho;by_cases q:m=n
   ·rw[if_pos q] at ho;cases ho;cases hf
   ·rw[if_neg q] at ho;obtain⟨b1,N1,e1,e2⟩:=r.tk.1.2 m o hm ho hf;exact⟨b1,N1,(cU m hm).trans e1,e2⟩
  ·rw[g m hm] at ho;by_cases q:m=n
   ·subst q;rw[if_pos rfl] at ho;cases ho;rw[Co];refine⟨b,N,(cU m hm).trans hr,?_,Gq J oR hR b N0 oQ,fun x hx=>?_⟩
    ·rw[hT];let bl:Nat->Nat:=fun m=>match σ m with|some (x,_)=>x|none=>0
     have nq:∀m x M,σ m=some (x,M)->bl m=x:=fun m x M e=>by show(match σ m with|some (x,_)=>x|none=>0)=x;rw[e]
     refine .mk L' (fun m=>if m∈L'.map (·.1) then σ m else none) bl Hq N0 hx ?_ (fun m hm=>?_) (fun m o hm=>?_) (fun m m2 o p hm cS e=>?_) (fun m k1 v1 hm=>?_) (fun m k1 v1 hm=>?_) (fun m k1 v1 hm x hx=>.inr ⟨m,k1,v1,hm,hx⟩) (fun m k1 v1 m2 o hm cS ho y=>?_) fun m k1 v1 m2 k2 v2 x hm cS ct y1 y2=>t2 m m2 x k1 v1 k2 v2 (fU _ _ hm) (fU _ _ cS) (hL _ _ hm) (hL _ _ cS) ct y1 y2
     ·rw[if_pos<|List.mem_map.2 ⟨_,hR,rfl⟩];exact oQ
     ·refine if_neg fun z=>?_;obtain⟨p,hp,rfl⟩:=List.mem_map.1 z;have:=(nm p hp).1;omega
     ·obtain⟨x,M,o',e1,e2,e3,_⟩:=qO m o hm;refine⟨M,o',?_,by rw[nq m x M e1];exact e2,?_,by rw[nq m x M e1];exact Gq m o hm x M e1⟩
      ·rw[if_pos<|List.mem_map.2 ⟨_,hm,rfl⟩,nq m x M e1];exact e1
      ·refine((nm _ hm).2.2.2 _ _ _ e3).mono fun i y hi=>?_;have hi:(if top<=i\/i∈L'.map (·.1) then σ i else none)=some y:=hi;unfold xZ;split at hi
       ·rename_i q;rcases q with q|q
        ·rw[if_pos q,gG i q];exact hi
        ·by_cases z:top<=i
         ·rw[if_pos z,gG i z];exact hi
         ·rw[if_neg z];show(if i∈L'.map (·.1) then σ i else none)=_;rw[if_pos q];exact hi
       ·cases hi
     ·obtain⟨x,M,_,e1,_,_,_⟩:=qO m o hm;obtain⟨x2,M2,_,e2,_,_,_⟩:=qO m2 p cS;rw[nq m x M e1,nq m2 x2 M2 e2] at e;subst e;rcases kind m o hm with y|⟨k1,v1,rfl⟩
      ·exact q3.one m m2 o p x M M2 (fU _ _ hm) (fU _ _ cS) (hL _ _ hm) (hL _ _ cS) (.inl y) e1 e2
      ·rcases kind m2 p cS with y|⟨k2,v2,rfl⟩
       ·exact q3.one m m2 _ p x M M2 (fU _ _ hm) (fU _ _ cS) (hL _ _ hm) (hL _ _ cS) (.inr y) e1 e2
       ·refine Classical.byContradiction fun ct=>?_;obtain⟨b1,N1,f1,_,f3,_⟩:=t1 m k1 v1 (fU _ _ hm)<|hL _ _ hm;obtain⟨b2,N2,f4,_,f6,_⟩:=t1 m2 k2 v2 (fU _ _ cS)<|hL _ _ cS;rw[e1] at f1;cases f1;rw[e2] at f4;cases f4;exact t2 m m2 x k1 v1 k2 v2 (fU _ _ hm) (fU _ _ cS) (hL _ _ hm) (hL _ _ cS) ct f3 f6
     ·obtain⟨b1,N1,f1,f2,_,_⟩:=t1 m k1 v1 (fU _ _ hm)<|hL _ _ hm;rw[nq m b1 N1 f1];have f2:B.inv k1 v1 σ w' b1<|Hq m:=f2;rw[hT] at f2;exact f2.mono (fun i y hi e=>by rw[gG i hi];exact e) fun _ _=>rfl
     ·obtain⟨b1,N1,f1,_,f3,_⟩:=t1 m k1 v1 (fU _ _ hm)<|hL _ _ hm;rw[nq m b1 N1 f1];exact f3
     ·obtain⟨b1,N1,_,_,_,f4⟩:=t1 m k1 v1 (fU _ _ hm)<|hL _ _ hm;obtain⟨x2,M2,_,e2,_,_,_⟩:=qO m2 o cS;rw[nq m2 x2 M2 e2] at y;obtain⟨_,_,c3,_⟩:=f4 x2 y;rcases kind m2 o cS with z|⟨k2,v2,rfl⟩
      ·exact c3 m2 o M2 (fU _ _ cS) (hL _ _ cS) z e2
      ·cases ho
    ·obtain⟨c1,c2,c3⟩:=Ed x hx;refine⟨⟨c1,?_⟩,?_,?_,fun j sh=>by rw[gG _<|fY _ _ _];exact c3 j sh⟩
     ·rcases c2 with z|z
      ·exact Nat.le_trans r.tk.1.1 z
      ·exact(hH x z).1.2
     ·rcases c2 with z|z
      ·exact r.size x z
      ·exact(hH x z).2.1
     ·rcases c2 with z|z
      ·exact zI x z
      ·exact si x (hH x z).2.2.1
   ·rw[if_neg q] at ho;rw[yq m q];obtain⟨b1,N1,f1,f2,f3,f4⟩:=h1 m k1 v1 hm ho;refine⟨b1,N1,(cU m hm).trans f1,B.mono f2 (fun i y _ e=>hl _ _ e) fun x hx=>?_,f3,fun x hx=>?_⟩
    ·exact mN x (f4 x hx).1.1 fun z=>h2 n m x k v k1 v1 o8 hm hg ho (Ne.symm q) z hx
    ·obtain⟨⟨c1,cl⟩,c2,c3,c4⟩:=f4 x hx;refine⟨⟨Nat.lt_of_lt_of_le c1 q4.size,cl⟩,c2,si x c3,fun j sh=>Classical.byContradiction fun z=>?_⟩;rw[gG _<|fY _ _ _] at z;rcases(q3.fz j x sh z).1 with y|y
     ·exact y<|c4 j sh
     ·rcases y with y|y
      ·have y:w.heap.size<=x:=y;omega
      ·exact h2 n m x k v k1 v1 o8 hm hg ho (Ne.symm q) y hx
  ·rw[g m hm] at ho;rw[g m2 cS] at hp;have cl:∀m k1 v1,m<top->m≠n->h.get m=some (.tok k1 v1)->∀x,Hn x->¬cY m x:=fun m k1 v1 hm ct ho x hx y=>by
    obtain⟨_,c2,_⟩:=Ed x hx;rcases c2 with z|z
    ·obtain⟨b1,N1,_,_,_,f4⟩:=h1 m k1 v1 hm ho;have:=(f4 x y).1.1;omega
    ·exact h2 n m x k v k1 v1 o8 hm hg ho (Ne.symm ct) z y
   by_cases q:m=n
   ·rw[if_pos q] at ho;cases ho;have q2:m2≠n:=fun e=>ct<|q.trans e.symm;rw[if_neg q2] at hp;rw[q,Co] at y1;rw[yq m2 q2] at y2;exact cl m2 k2 v2 cS q2 hp x y1 y2
   ·rw[if_neg q] at ho;rw[yq m q] at y1;by_cases q2:m2=n
    ·rw[if_pos q2] at hp;cases hp;rw[q2,Co] at y2;exact cl m k1 v1 hm q ho x y2 y1
    ·rw[if_neg q2] at hp;rw[yq m2 q2] at y2;exact h2 m m2 x k1 v1 k2 v2 hm cS ho hp ct y1 y2
end Go.Rn
namespace Go.Rn
open Go.RowKit
variable {s1 s:AS}
theorem TW{n:Nat}{o:Option ab}{u:Unit}(h:lk n o s= .ok u s1):
 n<s.nx/\n<top/\s1.h=s.h.put n o/\s1.nx=s.nx:=by
 obtain⟨h1,h2,h3,rfl⟩:=UJ h;by_cases e:n<s.mark
 ·rw[if_pos e];exact⟨h1,h2,rfl,rfl⟩
 ·rw[if_neg e];exact⟨h1,h2,rfl,rfl⟩
def iD(X:TX)(P:Program)(rs:List ResultVar)(k:Nat)(y:AV)(v':AV):=Fin P rs fun y1 s'=>y1=y/\∃L',X k v' L'/\∀m o,(m,o)∈L'->s'.h.get m=some o
theorem TY{X:TX}{P:Program}{B:aL}{f J k:Nat}{ns:List Nat}{h0:Tr ab}{kn:List<|Nat×Option ab}{val:AV->List AV->Option (AV×AV)}{fn:Func}{body:Code}{ρ:aw}{w:World}(hX:yo X J)(hT:B.inv=nJ X J)(hP:bE P)(cq:P.funcs[f]? =some fn)(cx:fn.body=some body)(dL:(fn.name == "runtime.NumGoroutine")=false)(fV:fM<=J)(dO:J<=top)(dM:∀n o,n<top->h0.get n=some o->n∈ns)(eA:∀n∈ns,n<J)(jv:∀n o,(n,some o)∈kn->h0.get n=some o)(jw:∀p∈kn,p.1<top)(eQ:∀v rest y v',val v rest=some (y,v')->max fn.ntmps (rest.length+1)<=top/\∀L,X k v L->∃nx,J<nx/\nx<=top/\(∀p∈L,p.1<nx)/\∀B':aL,B'.F=B.F->B'.inv=B.inv->
 au P B' (J+1) (iD X P fn.results.toList k y v') ⟨f,ep<|.ptr (some (J,0))::rest,max fn.ntmps<|rest.length+1,[.code body],[],none⟩ ⟨gd<|kn++bx L,nx,0,[],[]⟩){YO:aK}{args:List AV}{x:AV}{vs:Array Value}(r:Rel B ρ s.h w)(hg:gb ρ)(h:x8 J ns h0 k val YO args s= .ok x s1)(hv:aA ρ args vs.toList):jk P ((callFunc f vs).run P w)<|j8 B ρ s s1 w x:=by
 unfold x8 at h;split at h
 ·rename_i n rest;obtain⟨hh,h1⟩:=cZ h;obtain⟨gG,Hi⟩:=and_true.1 hh;obtain⟨u,s2,h2,h3⟩:=M.aR h1;obtain⟨o,s3,h4,h5⟩:=M.aR h3;obtain⟨a1,a2,a3⟩:=uG h2;obtain⟨b1,b2,b3,b4⟩:=fX h4;split at h5
  ·rename_i k' v;obtain⟨hk,h6⟩:=cZ h5;have hk:=Nat.eq_of_beq_eq_true hk;subst hk;obtain⟨p,h7,h8⟩:=bu h6;obtain⟨h9,gE⟩:=cZ h8;obtain⟨u2,s4,uv,qM⟩:=M.aR gE;obtain⟨rfl,rfl⟩:=bK qM;obtain⟨c1,c2,c3,c4⟩:=TW uv;obtain⟨y,v'⟩:=p;have j9:s.h.get n=some (.tok k v):=by rw[←a1];exact b2
   obtain⟨_,cY,t1,t2⟩:=r.tk;obtain⟨b,N,d1,d2,d3,d4⟩:=t1 n k v c2 j9;have XX:=d2;rw[hT] at XX;obtain⟨L,loc,N0,hx,oQ,agT,nK⟩:=agR hX hT dO r dM eA jv jw (fun n hn=>by obtain⟨_,o,p,h⟩:=a3 n hn;exact⟨o,p,h⟩) d4 XX;obtain⟨q1,q2⟩:=eQ _ _ _ _ h7;obtain⟨nx,n1,n2,n3,q3⟩:=q2 L hx;have fi:bD (⟨gd<|kn++bx L,nx,0,[],[]⟩:AS):=⟨Nat.zero_le _,n2⟩;have aiS:J<top:=Nat.lt_of_lt_of_le n1 n2;have hi:jl ρ<|my J ρ loc:=fun m x hm e=>by unfold my;rw[if_neg aj,if_pos hm];exact e
   have VD:my J ρ loc J=some (b,N0):=by unfold my;rw[if_neg aj,if_neg aj];exact oQ
   have kh:aA (my J ρ loc) (.ptr (some (J,0))::rest) vs.toList:=by simp only[aA,VR] at hv ⊢;obtain⟨v0,vr,e1,⟨b',N',e2,e3⟩,e4⟩:=hv;rw[d1] at e2;cases e2;exact⟨v0,vr,e1,⟨b,N0,VD,e3⟩,AV.Bh hi gG e4⟩
   have bI:=au.F4 (B:=tN B ρ w<|cY n) (s:=⟨gd<|kn++bx L,nx,0,[],[]⟩) (args:=.ptr (some (J,0))::rest) (vs:=vs) hP cq cx q1 (q3 _ rfl rfl) fi nK (fun g iA=>by
    obtain⟨N,e⟩:=hg g iA;exact⟨N,by unfold my;rw[if_pos<|Nat.lt_of_lt_of_le iA fV];exact e⟩) (fun m hm jW=>by
    have hm:nx<=m:=hm;unfold my;rw[if_neg aj,if_neg aj];cases e:loc m with
    |none=>rfl
    |some z=>obtain⟨o,q⟩:=agT m z e;have:=n3 _ q;have:m<nx:=this;omega) kh
   rw[uH cq cx dL];show Calls P f vs w _;refine bI.mono fun e w'=>?_;rintro ⟨y1,x',s5,rfl,⟨rfl,L',qN,Ll⟩,_,σ,e0,Hu,e1,e2,e3⟩;obtain⟨g1,g2,g3,g4⟩:=afz (a:=s.nx) (v':=v') hX hT c2 j9 d1 r t1 t2 e2 e3 ((e0 J (Nat.lt_succ_self _) aiS).trans VD) (fun m z hm q=>Hu m z hm<|hi m z hm q) qN Ll;refine⟨y1,rfl,cI ρ σ,by rw[c4,b4,a2];exact g1,AV.py g2 h9 e1,?_,g4⟩;rw[c3,b3,a1];exact g3
  ·cases h5
 ·cases h
end Go.Rn
namespace Go.Rn
open Go.RowKit
theorem afA{X:TX}{J k a:Nat}{v:AV}{B:aL}{ρ σ:aw}{w w':World}{h h4:Tr ab}{b N0:Nat}{L':List<|Nat×ab}(hX:yo X J)(hT:B.inv=nJ X J)(ht:J<=top)(aB:a<top)(ha:ρ a=none)(r:Rel B ρ h w)(q3:Rel (rE B ρ w) σ h4 w')(q4:cL (rE B ρ w) w w')(hle:(gf J ρ).le σ)(oQ:σ J=some (b,N0))(hx:X k v L')(hL:∀m o,(m,o)∈L'->h4.get m=some o):
 Ext a (a+1) ρ (eO (cI ρ σ) a (b,0))/\jl σ (eO (cI ρ σ) a (b,0))/\Rel B (eO (cI ρ σ) a (b,0)) (h.put a<|some<|.tok k v) w'/\cL B w w':=by
 obtain⟨b1,b2,R1,b4⟩:=Jy (a:=a) ht r q3 q4 hle;have nm:=hX.nm k v L' hx;have cU:∀k,k<top->cI ρ σ k=ρ k:=fun k hk=>by unfold cI;rw[if_neg aj]
 have gG:∀k,top<=k->cI ρ σ k=σ k:=fun k hk=>by unfold cI;rw[if_pos hk]
 have QI:cI ρ σ a=none:=(cU a aB).trans ha;have hl:(cI ρ σ).le<|eO (cI ρ σ) a (b,0):=ox QI;have Ee:∀k,top<=k->eO (cI ρ σ) a (b,0) k=σ k:=fun k hk=>by rw[gI _ _ aj];exact gG k hk
 have lY:h.get a=none:=by
  cases e:h.get a with
  |none=>rfl
  |some p=>obtain⟨_,_,_,h1,_⟩:=r.is a p aB e;rw[ha] at h1;cases h1
 have g:∀m,m<top->(h.put a<|some<|.tok k v).get m=if m=a then some (.tok k v) else h.get m:=fun m hm=>Tr.du _ _ _ _ aB hm
 have mN:∀x,x<w.heap.size->w'.heap[x]? =w.heap[x]? :=fun x hx=>q4.block x hx fun z=>by have z:w.heap.size<=x:=z;omega
 have si:∀x,jU ρ h x->jU (eO (cI ρ σ) a (b,0)) (h.put a<|some<|.tok k v) x:=fun x hn m o M hm ho cz e=>by
  rw[g m hm] at ho;by_cases q:m=a
  ·rw[if_pos q] at ho;cases ho;cases cz
  ·rw[if_neg q] at ho;rw[gI _ _ q,cU m hm] at e;exact hn m o M hm ho cz e
 have zI:∀x,w.heap.size<=x->jU ρ h x:=fun x hx m o M hm ho cz e=>by obtain⟨b1,N1,o1,e1,e2,_⟩:=r.is m o hm ho;rw[e] at e1;cases e1;have:=gS e2;omega
 obtain⟨⟨_,_⟩,cY,h1,h2⟩:=r.tk;obtain⟨⟨_,_⟩,Hq,t1,t2⟩:=q3.tk;obtain⟨oR,hR⟩:=hX.root k v L' hx;have fU:∀m o,(m,o)∈L'->m<top:=fun m o hm=>(nm _ hm).2.1;have qO:∀m o,(m,o)∈L'->∃x M o',σ m=some (x,M)/\w'.heap[x]? =some o'/\OR σ M o o'/\(o.dm=false->w.heap.size<=x):=fun m o hm=>q3.is m o (fU m o hm)<|hL m o hm;have kind:∀m o,(m,o)∈L'->o.dm=false\/∃k1 v1,o= .tok k1 v1:=fun m o hm=>by
  rcases(nm _ hm).2.2.1 with y|y
  ·exact .inl (ab.uK y).2
  ·cases o<;>first|exact .inr ⟨_,_,rfl⟩|cases y
 let Hn:Nat->Prop:=fun x=>(∃m o M,(m,o)∈L'/\o.dm=false/\σ m=some (x,M))\/∃m k1 v1,(m,ab.tok k1 v1)∈L'/\Hq m x;have Gq:∀m o,(m,o)∈L'->∀x M,σ m=some (x,M)->Hn x:=fun m o hm x M e=>by
  rcases kind m o hm with q|⟨k1,v1,rfl⟩
  ·exact .inl ⟨m,o,M,hm,q,e⟩
  ·obtain⟨b1,N1,e1,_,e3,_⟩:=t1 m k1 v1 (fU _ _ hm)<|hL _ _ hm;rw[e] at e1;cases e1;exact .inr ⟨m,k1,v1,hm,e3⟩
 have Ed:∀x,Hn x->x<w'.heap.size/\w.heap.size<=x/\∀j sh,σ (hn j x sh)=none:=fun x hx=>by
  rcases hx with⟨m,o,M,hm,q,e⟩|⟨m,k1,v1,hm,q⟩
  ·obtain⟨x1,M1,o',e1,e2,_,e4⟩:=qO m o hm;rw[e] at e1;cases e1;refine⟨gS e2,e4 q,fun j sh=>Classical.byContradiction fun z=>?_⟩;obtain⟨_,_,_,_,_,_,_,z3,_⟩:=q3.fz j x sh z;exact z3 m o M (fU m o hm) (hL m o hm) q e
  ·obtain⟨b1,N1,_,_,_,e4⟩:=t1 m k1 v1 (fU _ _ hm)<|hL _ _ hm;obtain⟨⟨c1,_⟩,c2,_,c4⟩:=e4 x q;exact⟨c1,c2,c4⟩
 have Cp:Hn b:=Gq J oR hR b N0 oQ;refine⟨⟨aw.le_trans b1.le hl,fun k hk hka=>(gI _ _ aj).trans<|b1.out k hk aj⟩,fun m x hm e=>by rw[Ee m hm];exact e,⟨fun m o hm ho=>?_,fun m m2 o p x M M2 hm cS ho hp cV e1 e2=>?_,fun m i es ex left cur hm ho=>?_,R1.size,fun i j m es ex left cur hI jr iR iU hi hj ho hp=>?_,fun j x sh e=>?_,?_⟩,b4⟩
 ·rw[g m hm] at ho;by_cases q:m=a
  ·subst q;rw[if_pos rfl] at ho;cases ho;obtain⟨x,M,o',e1,e2,_,_⟩:=qO J oR hR;rw[oQ] at e1;cases e1;exact⟨b,0,o',iN _ _ _,e2,trivial,fun z=>by cases z⟩
  ·rw[if_neg q] at ho;obtain⟨b1,N1,o1,e1,e2,e3,e4⟩:=R1.is m o hm ho;exact⟨b1,N1,o1,hl _ _ e1,e2,e3.mono hl,e4⟩
 ·rw[g m hm] at ho;rw[g m2 cS] at hp;have nV:∀m o M,m<top->h.get m=some o->o.dm=false->ρ m=some (b,M)->False:=fun m o M hm ho cz e=>zI b (Ed b Cp).2.1 m o M hm ho cz e;by_cases q:m=a
  ·rw[if_pos q] at ho;cases ho;by_cases q2:m2=a
   ·rw[q,q2]
   ·rw[if_neg q2] at hp;rw[q,iN] at e1;cases e1;rw[gI _ _ q2,cU m2 cS] at e2;exact(nV m2 p M2 cS hp (cV.resolve_left fun z=>by cases z) e2).elim
  ·rw[if_neg q] at ho;by_cases q2:m2=a
   ·rw[if_pos q2] at hp;cases hp;rw[q2,iN] at e2;cases e2;rw[gI _ _ q,cU m hm] at e1;exact(nV m o M hm ho (cV.resolve_right fun z=>by cases z) e1).elim
   ·rw[if_neg q2] at hp;rw[gI _ _ q] at e1;rw[gI _ _ q2] at e2;exact R1.one m m2 o p x M M2 hm cS ho hp cV e1 e2
 ·rw[g m hm] at ho;by_cases q:m=a
  ·rw[if_pos q] at ho;cases ho
  ·rw[if_neg q] at ho;obtain⟨hi,fC,u⟩:=R1.iter m i es ex left cur hm ho;have iJ:i≠a:=by intro e;subst e;rw[lY] at fC;cases fC
   exact⟨hi,by rw[g i hi,if_neg iJ];exact fC,u.mono hl⟩
 ·rw[g i hi] at ho;rw[g j hj] at hp;by_cases q:i=a
  ·rw[if_pos q] at ho;cases ho
  ·rw[if_neg q] at ho;by_cases q2:j=a
   ·rw[if_pos q2] at hp;cases hp
   ·rw[if_neg q2] at hp;exact R1.lone i j m es ex left cur hI jr iR iU hi hj ho hp
 ·rw[gI _ _ (by have:=fY j x sh;omega)] at e;obtain⟨g0,l,c,e',fr,g1,g2,g3,g4⟩:=R1.fz j x sh e;refine⟨g0,l,c,e',fr,g1,g2,fun m o M hm ho cz e=>?_,fun i y hy=>by obtain⟨v,k1,k2,k3⟩:=g4 i y hy;exact⟨v,k1,VR.mono (Fu hl) _ _ k2,k3⟩⟩;rw[g m hm] at ho;by_cases q:m=a
  ·rw[if_pos q] at ho;cases ho;cases cz
  ·rw[if_neg q] at ho;rw[gI _ _ q] at e;exact g3 m o M hm ho cz e
 ·let H':Nat->Nat->Prop:=fun m x=>if m=a then Hn x else cY m x
  have Co:H' a=Hn:=funext fun x=>if_pos rfl;have yq:∀m,m≠a->H' m=cY m:=fun m hm=>funext fun x=>if_neg hm;refine⟨⟨Nat.le_trans r.tk.1.1 q4.size,fun m o hm ho hf=>?_⟩,H',fun m k1 v1 hm ho=>?_,fun m m2 x k1 v1 k2 v2 hm cS ho hp ct y1 y2=>?_⟩
  ·rw[g m hm] at ho;by_cases q:m=a
   ·rw[if_pos q] at ho;cases ho;cases hf
   ·rw[if_neg q] at ho;obtain⟨b1,N1,e1,e2⟩:=r.tk.1.2 m o hm ho hf;exact⟨b1,N1,(gI _ _ q).trans<|(cU m hm).trans e1,e2⟩
  ·rw[g m hm] at ho;by_cases q:m=a
   ·subst q;rw[if_pos rfl] at ho;cases ho;rw[Co];refine⟨b,0,iN _ _ _,?_,Cp,fun x hx=>?_⟩
    ·rw[hT];let bl:Nat->Nat:=fun m=>match σ m with|some (x,_)=>x|none=>0
     have nq:∀m x M,σ m=some (x,M)->bl m=x:=fun m x M e=>by show(match σ m with|some (x,_)=>x|none=>0)=x;rw[e]
     refine .mk L' (fun m=>if m∈L'.map (·.1) then σ m else none) bl Hq N0 hx ?_ (fun m hm=>?_) (fun m o hm=>?_) (fun m m2 o p hm cS e=>?_) (fun m k1 v1 hm=>?_) (fun m k1 v1 hm=>?_) (fun m k1 v1 hm x hx=>.inr ⟨m,k1,v1,hm,hx⟩) (fun m k1 v1 m2 o hm cS ho y=>?_) fun m k1 v1 m2 k2 v2 x hm cS ct y1 y2=>t2 m m2 x k1 v1 k2 v2 (fU _ _ hm) (fU _ _ cS) (hL _ _ hm) (hL _ _ cS) ct y1 y2
     ·rw[if_pos<|List.mem_map.2 ⟨_,hR,rfl⟩];exact oQ
     ·refine if_neg fun z=>?_;obtain⟨p,hp,rfl⟩:=List.mem_map.1 z;have:=(nm p hp).1;omega
     ·obtain⟨x,M,o',e1,e2,e3,_⟩:=qO m o hm;refine⟨M,o',?_,by rw[nq m x M e1];exact e2,?_,by rw[nq m x M e1];exact Gq m o hm x M e1⟩
      ·rw[if_pos<|List.mem_map.2 ⟨_,hm,rfl⟩,nq m x M e1];exact e1
      ·refine((nm _ hm).2.2.2 _ _ _ e3).mono fun i y hi=>?_;have hi:(if top<=i\/i∈L'.map (·.1) then σ i else none)=some y:=hi;unfold xZ;split at hi
       ·rename_i q;rcases q with q|q
        ·rw[if_pos q,Ee i q];exact hi
        ·by_cases z:top<=i
         ·rw[if_pos z,Ee i z];exact hi
         ·rw[if_neg z];show(if i∈L'.map (·.1) then σ i else none)=_;rw[if_pos q];exact hi
       ·cases hi
     ·obtain⟨x,M,_,e1,_,_,_⟩:=qO m o hm;obtain⟨x2,M2,_,e2,_,_,_⟩:=qO m2 p cS;rw[nq m x M e1,nq m2 x2 M2 e2] at e;subst e;rcases kind m o hm with y|⟨k1,v1,rfl⟩
      ·exact q3.one m m2 o p x M M2 (fU _ _ hm) (fU _ _ cS) (hL _ _ hm) (hL _ _ cS) (.inl y) e1 e2
      ·rcases kind m2 p cS with y|⟨k2,v2,rfl⟩
       ·exact q3.one m m2 _ p x M M2 (fU _ _ hm) (fU _ _ cS) (hL _ _ hm) (hL _ _ cS) (.inr y) e1 e2
       ·refine Classical.byContradiction fun ct=>?_;obtain⟨b1,N1,f1,_,f3,_⟩:=t1 m k1 v1 (fU _ _ hm)<|hL _ _ hm;obtain⟨b2,N2,f4,_,f6,_⟩:=t1 m2 k2 v2 (fU _ _ cS)<|hL _ _ cS;rw[e1] at f1;cases f1;rw[e2] at f4;cases f4;exact t2 m m2 x k1 v1 k2 v2 (fU _ _ hm) (fU _ _ cS) (hL _ _ hm) (hL _ _ cS) ct f3 f6
     ·obtain⟨b1,N1,f1,f2,_,_⟩:=t1 m k1 v1 (fU _ _ hm)<|hL _ _ hm;rw[nq m b1 N1 f1];have f2:B.inv k1 v1 σ w' b1<|Hq m:=f2;rw[hT] at f2;exact f2.mono (fun i y hi e=>by rw[Ee i hi];exact e) fun _ _=>rfl
     ·obtain⟨b1,N1,f1,_,f3,_⟩:=t1 m k1 v1 (fU _ _ hm)<|hL _ _ hm;rw[nq m b1 N1 f1];exact f3
     ·obtain⟨b1,N1,_,_,_,f4⟩:=t1 m k1 v1 (fU _ _ hm)<|hL _ _ hm;obtain⟨x2,M2,_,e2,_,_,_⟩:=qO m2 o cS;rw[nq m2 x2 M2 e2] at y;obtain⟨_,_,c3,_⟩:=f4 x2 y;rcases kind m2 o cS with z|⟨k2,v2,rfl⟩
      ·exact c3 m2 o M2 (fU _ _ cS) (hL _ _ cS) z e2
      ·cases ho
    ·obtain⟨c1,c2,c3⟩:=Ed x hx;exact⟨⟨c1,Nat.le_trans r.tk.1.1 c2⟩,r.size x c2,si x<|zI x c2,fun j sh=>by rw[Ee _<|fY _ _ _];exact c3 j sh⟩
   ·rw[if_neg q] at ho;rw[yq m q];obtain⟨XY,N1,f1,f2,f3,f4⟩:=h1 m k1 v1 hm ho;refine⟨XY,N1,(gI _ _ q).trans<|(cU m hm).trans f1,B.mono f2 (fun i y _ e=>hl _ _<|b1.le _ _ e) fun x hx=>mN x (f4 x hx).1.1,f3,fun x hx=>?_⟩;obtain⟨⟨c1,cl⟩,c2,c3,c4⟩:=f4 x hx;refine⟨⟨Nat.lt_of_lt_of_le c1 q4.size,cl⟩,c2,si x c3,fun j sh=>Classical.byContradiction fun z=>?_⟩;rw[Ee _<|fY _ _ _] at z;rcases(q3.fz j x sh z).1 with y|y
    ·exact y<|c4 j sh
    ·have y:w.heap.size<=x:=y;omega
  ·rw[g m hm] at ho;rw[g m2 cS] at hp;have cl:∀m k1 v1,m<top->h.get m=some (.tok k1 v1)->∀x,Hn x->¬cY m x:=fun m k1 v1 hm ho x hx y=>by obtain⟨_,c2,_⟩:=Ed x hx;obtain⟨b1,N1,_,_,_,f4⟩:=h1 m k1 v1 hm ho;have:=(f4 x y).1.1;omega
   by_cases q:m=a
   ·have q2:m2≠a:=fun e=>ct<|q.trans e.symm;rw[if_neg q2] at hp;rw[q,Co] at y1;rw[yq m2 q2] at y2;exact cl m2 k2 v2 cS hp x y1 y2
   ·rw[if_neg q] at ho;rw[yq m q] at y1;by_cases q2:m2=a
    ·rw[q2,Co] at y2;exact cl m k1 v1 hm ho x y2 y1
    ·rw[if_neg q2] at hp;rw[yq m2 q2] at y2;exact h2 m m2 x k1 v1 k2 v2 hm cS ho hp ct y1 y2
end Go.Rn
namespace Go.Rn
open Go.RowKit
variable {J:Nat} {x:AV}
noncomputable section
def BL(J:Nat)(ns:List Nat)(h0:Tr ab)(k:Nat)(val:List AV->Option (Option AV×(AV->AV))):aK->List AV->M AV:=fun _ args=>
 aH (args.all AV.hi) <| (fG J h0 ns).bind fun _=>aC (val args) fun p=>match p.1 with
  |none=>aH (p.2<|.ptr none).hi <| M.pure<|p.2<|.ptr none
  |some v=>(fu<|.tok k v).bind fun n=>M.pure<|p.2<|.ptr<|some (n,0)
end
theorem YN.BL(J:Nat)(ns:List Nat)(h0:Tr ab)(k:Nat)(val:List AV->Option (Option AV×(AV->AV)))(YO:aK)(args:List AV):YN<|BL J ns h0 k val YO args:=by
 refine YN.aH fun _=>YN.bind (YN.fG J h0 ns) fun _=>YN.aC fun p _=>?_;split
 ·exact YN.aH fun _=>YN.pure _
 ·exact YN.bind (YN.fu _) fun _=>YN.pure _
def vx(J:Nat)(res:AV->AV):Prop:=∀(σ Hw:aw) (n:Nat) (y:Value),jl σ Hw->(∀b N,σ J=some (b,N)->∃N',Hw n=some (b,N'))->VR σ (res<|.ptr<|some (J,0)) y->VR Hw (res<|.ptr<|some (n,0)) y
theorem acp{X:TX}{P:Program}{B:aL}{f k:Nat}{ns:List Nat}{h0:Tr ab}{val:List AV->Option (Option AV×(AV->AV))}{fn:Func}{body:Code}{ρ:aw}{w:World}{s s1:AS}(hX:yo X J)(hT:B.inv=nJ X J)(hP:bE P)(cq:P.funcs[f]? =some fn)(cx:fn.body=some body)(dL:(fn.name == "runtime.NumGoroutine")=false)(fV:fM<=J)(dO:J<top)(dM:∀n o,n<top->h0.get n=some o->n∈ns)(eA:∀n∈ns,n<J)(eQ:∀args p,val args=some p->max fn.ntmps args.length<=top/\(p.1=none->∀B':aL,B'.F=B.F->B'.inv=B.inv->
 au P B' J (Fin P fn.results.toList fun y _=>y=p.2 (.ptr none)) ⟨f,ep args,max fn.ntmps args.length,[.code body],[],none⟩ ⟨h0,J,0,[],[]⟩)/\
 ∀v,p.1=some v->vx J p.2/\∀B':aL,B'.F=B.F->B'.inv=B.inv->au P B' J (iD X P fn.results.toList k (p.2<|.ptr<|some (J,0)) v) ⟨f,ep args,max fn.ntmps args.length,[.code body],[],none⟩ ⟨h0,J,0,[],[]⟩){YO:aK}{args:List AV}{vs:Array Value}(r:Rel B ρ s.h w)(hg:gb ρ)(hf:dF s.nx s1.nx ρ)(h:BL J ns h0 k val YO args s= .ok x s1)(hv:aA ρ args vs.toList):jk P ((callFunc f vs).run P w)<|j8 B ρ s s1 w x:=by
 have GU:=Nat.le_of_lt dO;unfold BL at h;obtain⟨gG,h1⟩:=cZ h;obtain⟨u,s2,h2,h3⟩:=M.aR h1;obtain⟨p,h4,h5⟩:=bu h3;obtain⟨a1,a2,a3⟩:=uG h2;obtain⟨q1,q2,q3⟩:=eQ _ _ h4;have nK:=DQ GU r dM eA (fun n hn=>by obtain⟨_,o,p,h⟩:=a3 n hn;exact⟨o,p,h⟩);have fi:bD (⟨h0,J,0,[],[]⟩:AS):=⟨Nat.zero_le _,GU⟩;have Ab:gb<|gf J ρ:=fun g iA=>by obtain⟨N,e⟩:=hg g iA;exact⟨N,by unfold gf;rw[if_pos<|Nat.lt_of_lt_of_le iA fV];exact e⟩
 have lP:∀k,(⟨h0,J,0,[],[]⟩:AS).nx<=k->k<top->gf J ρ k=none:=fun k k1 k2=>by have k1:J<=k:=k1;unfold gf gi;rw[if_neg aj,if_neg aj]
 have XZ:=AV.Bh (ρ:=ρ) (σ:=gf J ρ) (fun k y hk e=>by rw[sW GU hk];exact e) gG hv;rw[uH cq cx dL];show Calls P f vs w _;obtain⟨st,res⟩:=p;cases st with
 |none=>have e0:(none:Option AV)=none:=rfl;obtain⟨h6,h7⟩:=cZ (show aH (res<|.ptr none).hi (M.pure<|res<|.ptr none) s2= .ok x s1 from h5);obtain⟨rfl,rfl⟩:=bK h7;refine(au.calls (B:=rE B ρ w) (s:=⟨h0,J,0,[],[]⟩) (args:=args) (vs:=vs) hP cq cx q1 (q2 e0 _ rfl rfl) fi nK Ab lP XZ).mono fun e w'=>?_;rintro ⟨y,x',s4,rfl,rfl,_,_,σ,e1,e2,e3,e4⟩;obtain⟨b1,b2,b3,b4⟩:=Jy (a:=s.nx) GU r e3 e4 e1.le;exact⟨y,rfl,cI ρ σ,by rw[a2];exact b1,AV.py b2 h6 e2,by rw[a1];exact b3,b4⟩
 |some v=>
  have e0:(some v:Option AV)=some v:=rfl;obtain⟨n,s3,h6,h7⟩:=M.aR (show((fu<|.tok k v).bind fun n=>M.pure<|res<|.ptr<|some (n,0)) s2= .ok x s1 from h5);obtain⟨rfl,rfl⟩:=bK h7;obtain⟨EC,rfl,rfl⟩:=uM h6;obtain⟨kv,aiT⟩:=q3 v e0;refine(au.calls (B:=rE B ρ w) (s:=⟨h0,J,0,[],[]⟩) (args:=args) (vs:=vs) hP cq cx q1 (aiT _ rfl rfl) fi nK Ab lP XZ).mono fun e w'=>?_;rintro ⟨y,x',s4,rfl,⟨rfl,L',qN,Ll⟩,_,_,σ,e1,e2,e3,e4⟩;obtain⟨oR,hR⟩:=hX.root _ _ _ qN;obtain⟨b,N0,o',r1,_,_,_⟩:=e3.is J oR dO<|Ll _ _ hR;have QI:ρ s.nx=none:=hf s.nx (Nat.le_refl _) (by show s.nx<s2.nx+1;omega) aj;obtain⟨b1,b2,b3,b4⟩:=afA (a:=s.nx) hX hT GU aj QI r e3 e4 e1.le r1 qN Ll;refine⟨y,rfl,_,?_,kv σ _ s2.nx y b2 (fun b' N' e=>?_) e2,?_,b4⟩
  ·show Ext s.nx (s2.nx+1) ρ _;rw[a2];exact b1
  ·rw[r1] at e;cases e;rw[a2];exact⟨0,iN _ _ _⟩
  ·show Rel B _ (s2.h.put s2.nx<|some<|.tok k v) w';rw[a1,a2];exact b3
theorem vx.ptr:vx J fun p=>p:=fun σ Hw n y _ h2 h=>by simp only[VR] at h ⊢;obtain⟨b,N,e1,e2⟩:=h;obtain⟨N',e3⟩:=h2 b N e1;exact⟨b,N',e3,e2⟩
theorem vx.QJ(hx:x.bG=true):vx J fun p=>.tuple [p,x]:=fun σ Hw n y h1 h2 h=>by simp only[VR,aA] at h ⊢;obtain⟨a,e1,v,l,e2,⟨b,N,e3,e4⟩,v2,l2,e5,e6,e7⟩:=h;obtain⟨N',e8⟩:=h2 b N e3;exact⟨a,e1,v,l,e2,⟨b,N',e8,e4⟩,v2,l2,e5,AV.u0 h1 hx e6,e7⟩
end Go.Rn
namespace Go.Rn
open Go.RowKit
variable {β α:Type} {J:Nat} {ns:List Nat} {h0:Tr ab}
theorem NZ{s:AS}{n:Nat}{o:Option ab}{p:ab}(h1:Nat.blt n s.nx=true)(h2:s.h.get n=some p)(h3:p.kK=true)(ht:Nat.blt n top=true):lk n o s= .ok () (fF n o s):=by obtain⟨hh,nx,mark,rd,wr⟩:=s;have e1:(Nat.blt n nx&&Nat.blt n top)=true:=and_true.2 ⟨h1,ht⟩;have e2:hh.get n=some p:=h2;show @Bool.rec (fun _=>R Unit) .bad (@Option.rec ab (fun _=>R Unit) .bad (fun p=> @Bool.rec (fun _=>R Unit) (@Bool.rec (fun _=>R Unit) (.ok () ⟨hh.put n o,nx,mark,rd,wr⟩) (.ok () ⟨hh.put n o,nx,mark,n::rd,n::wr⟩)<|Nat.blt n mark) .bad<|!p.kK)<|hh.get n) (Nat.blt n nx&&Nat.blt n top)=_;rw[e1,e2];show @Bool.rec (fun _=>R Unit) (@Bool.rec (fun _=>R Unit) (.ok () ⟨hh.put n o,nx,mark,rd,wr⟩) (.ok () ⟨hh.put n o,nx,mark,n::rd,n::wr⟩)<|Nat.blt n mark) .bad (!p.kK)=_;rw[h3];show @Bool.rec (fun _=>R Unit) (.ok () ⟨hh.put n o,nx,mark,rd,wr⟩) (.ok () ⟨hh.put n o,nx,mark,n::rd,n::wr⟩) (Nat.blt n mark)= .ok () (@Bool.rec (fun _=>AS) ⟨hh.put n o,nx,mark,rd,wr⟩ ⟨hh.put n o,nx,mark,n::rd,n::wr⟩<|Nat.blt n mark);cases Nat.blt n mark<;>rfl
noncomputable section
inductive KE where
 |val (v:List AV->Option AV)
 |tok (k:Nat) (v:AV->List AV->Option (AV×AV))
 |new (k:Nat) (v:List AV->Option (Option AV×(AV->AV)))
 |raw (m:Nat->List Nat->Tr ab->aK->List AV->M AV)
abbrev bV:=List<|FuncId×KE
def KE.m(J:Nat)(ns:List Nat)(h0:Tr ab):KE->aK->List AV->M AV
 | .val v=>pq J ns h0 v
 | .tok k v=>x8 J ns h0 k v
 | .new k v=>BL J ns h0 k v
 | .raw m=>m J ns h0
def dB(J:Nat)(ns:List Nat)(h0:Tr ab):bV->Sp
 |[]=>fun _=>none
 |p::l=>fun f=>bif Nat.beq f p.1 then some (p.2.m J ns h0) else dB J ns h0 l f
def eR(val:AV->List AV->Option (AV×AV))(v:AV)(rest:List AV):Option<|AV×AV:=match rest.all AV.hi with
 |true=>(val v rest).bind fun p=>match p.1.hi with
  |true=>some p
  |false=>none
 |false=>none
def lB(val:List AV->Option (Option AV×(AV->AV)))(args:List AV):Option<|Option AV×(AV->AV):=match args.all AV.hi with
 |true=>(val args).bind fun p=>match p.1 with
  |none=>match (p.2<|.ptr none).hi with
   |true=>some p
   |false=>none
  |some _=>some p
 |false=>none
def DR:bV->FuncId->Option KE
 |[]=>fun _=>none
 |p::l=>fun f=>bif Nat.beq f p.1 then some p.2 else DR l f
def KE.v1:KE->Option (List AV->Option AV)
 | .val v=>some<|bg v
 |_=>none
def KE.v2:KE->Option (Nat×(AV->List AV->Option (AV×AV)))
 | .tok k v=>some (k,eR v)
 |_=>none
def KE.v3:KE->Option (Nat×(List AV->Option (Option AV×(AV->AV))))
 | .new k v=>some (k,lB v)
 |_=>none
def KH(o:Option α)(f:α->Option β):Option β:=match o with
 |some a=>f a
 |none=>none
def x9(P:Program)(J:Nat)(ns:List Nat)(h0:Tr ab)(L:bV)(lo:Nat)(fg:Bool):Env:=⟨P,dB J ns h0 L,FU,fun g=>KH (DR L g) KE.v1,fun _=>false,qG J h0 ns,dP J h0 ns,lo,fg,fun g=>KH (DR L g) KE.v2,fun g=>KH (DR L g) KE.v3,J⟩
end
theorem IH:∀{L:bV} {g:FuncId} {e:KE},DR L g=some e->dB J ns h0 L g=some (e.m J ns h0)
 |[],g,e,h=>by cases h
 |p::l,g,e,h=>by
  unfold DR at h;unfold dB;cases q:Nat.beq g p.1 with
  |true=>rw[q] at h;injection h with h;rw[h];rfl
  |false=>rw[q] at h;exact IH h
theorem Ns{o:Option α}{f:α->Option β}{b:β}(h:KH o f=some b):∃a,o=some a/\f a=some b:=by
 cases o with
 |none=>cases h
 |some a=>exact⟨a,rfl,h⟩
theorem fm{P:Program}{L:bV}{lo:Nat}{fg:Bool}:(x9 P J ns h0 L lo fg).Ok:=by
 refine⟨fun g val args v s n h1 h2 h3=>?_,fun g q m v rest y v' s n h1 h2 h3 h4 h5 h6 h7=>?_,fun g q args v res s n h1 h2 h3 h4=>?_,fun g h=>(by cases h)⟩
 ·obtain⟨e,k1,k2⟩:=Ns h1;have k3:=IH (J:=J) (ns:=ns) (h0:=h0) k1;cases e with
  |val v0=>
   injection k2 with k2;subst k2
   show ki P (dB J ns h0 L) g (bh P (dB J ns h0 L) FU n) args s=_;rw[uZ k3];exact aa8 (YO:=bh P (dB J ns h0 L) FU n) h2 h3
  |tok k v0=>cases k2
  |new k v0=>cases k2
  |raw m0=>cases k2
 ·obtain⟨e,k1,k2⟩:=Ns h1;have k3:=IH (J:=J) (ns:=ns) (h0:=h0) k1;cases e with
  |val v0=>cases k2
  |new k v0=>cases k2
  |raw m0=>cases k2
  |tok k v0=>
   injection k2 with k2;subst k2
   show ki P (dB J ns h0 L) g (bh P (dB J ns h0 L) FU n) (.ptr (some (m,0))::rest) s=_;rw[uZ k3];have h7:eR v0 v rest=some (y,v'):=h7;unfold eR at h7;cases e1:rest.all AV.hi with
   |false=>rw[e1] at h7;cases h7
   |true=>
    rw[e1] at h7;cases e2:v0 v rest with
    |none=>rw[e2] at h7;cases h7
    |some p=>
     rw[e2] at h7;have h7:(match p.1.hi with|true=>some p|false=>none)=some (y,v'):=h7;cases e3:p.1.hi with
     |false=>rw[e3] at h7;cases h7
     |true=>
      rw[e3] at h7;injection h7 with h7
      subst h7;show(aH (rest.all AV.hi&&Nat.ble J m) <| (fG J h0 ns).bind fun _=>(bq m).bind fun o=>match o with
       | .tok k' v=>aH (Nat.beq k k') <| aC (v0 v rest) fun p=>aH p.1.hi <| (lk m<|some<|.tok k p.2).bind fun _=>M.pure p.1
       |_=>fail) s=_
      have h3:Nat.ble J m=true:=h3;have h4:Nat.blt m (dP J h0 ns s).nx=true:=h4;have h6:(dP J h0 ns s).h.get m=some (.tok k v):=h6;rw[e1,h3,(show(true&&true)=true from rfl),dC,M.bQ<|xm h2,M.bQ<|md h4 h6];show(aH (Nat.beq k k) <| aC (v0 v rest) fun p=>aH p.1.hi <| (lk m<|some<|.tok k p.2).bind fun _=>M.pure p.1) (aZ m<|dP J h0 ns s)=_;rw[dT.2 rfl,dC,e2,ch,e3,dC,M.bQ<|NZ (p:=.tok k v) (by rw[(fQ m _).2.1];exact h4) (by rw[(fQ m _).1];exact h6) rfl h5];rfl
 ·obtain⟨e,k1,k2⟩:=Ns h1;have k3:=IH (J:=J) (ns:=ns) (h0:=h0) k1;cases e with
  |val v0=>cases k2
  |tok k v0=>cases k2
  |raw m0=>cases k2
  |new k v0=>
   injection k2 with k2;subst k2
   show ki P (dB J ns h0 L) g (bh P (dB J ns h0 L) FU n) args s=_;rw[uZ k3];have h4:lB v0 args=some (v,res):=h4;unfold lB at h4;cases e1:args.all AV.hi with
   |false=>rw[e1] at h4;cases h4
   |true=>
    rw[e1] at h4;cases e2:v0 args with
    |none=>rw[e2] at h4;cases h4
    |some p=>
     obtain⟨st,r⟩:=p;rw[e2] at h4;show(aH (args.all AV.hi) <| (fG J h0 ns).bind fun _=>aC (v0 args) fun p=>match p.1 with
      |none=>aH (p.2<|.ptr none).hi <| M.pure (p.2<|.ptr none)
      |some v=>(fu<|.tok k v).bind fun n=>M.pure<|p.2<|.ptr<|some (n,0)) s=_
     rw[e1,dC,M.bQ<|xm h2,e2,ch];cases st with
     |none=>
      have h4:(match (r<|.ptr none).hi with|true=>some ((none:Option AV),r)|false=>none)=some (v,res):=h4;cases e3:(r<|.ptr none).hi with
      |false=>rw[e3] at h4;cases h4
      |true=>
       rw[e3] at h4;injection h4 with h4
       injection h4 with h5 h6
       subst h5;subst h6;show aH true (M.pure<|r<|.ptr none) _=_;rw[dC];rfl
     |some v1=>
      have h4:some (some v1,r)=some (v,res):=h4;injection h4 with h4
      injection h4 with h5 h6
      subst h5;subst h6;show((fu<|.tok k v1).bind fun n=>M.pure<|r<|.ptr<|some (n,0)) _=_;have h3:Nat.blt (dP J h0 ns s).nx top=true:=h3;rw[M.bQ<|Uy<|(blt_eq _ _).mp h3];rfl
end Go.Rn
namespace Go.Rn
open Go.RowKit
variable {B:aL}
theorem R3{P:Program}{f J:Nat}{ns:List Nat}{h0:Tr ab}{val:List AV->Option AV}{fn:Func}{body:Code}{ρ:aw}{w:World}{s s1:AS}(hP:bE P)(cq:P.funcs[f]? =some fn)(cx:fn.body=some body)(dL:(fn.name == "runtime.NumGoroutine")=false)(fV:fM<=J)(dO:J<=top)(dM:∀n o,n<top->h0.get n=some o->n∈ns)(eA:∀n∈ns,n<J)(eQ:∀args v,val args=some v->max fn.ntmps args.length<=top/\∀B':aL,B'.F=B.F->B'.inv=B.inv->au P B' J (Fin P fn.results.toList fun y _=>y=v) ⟨f,ep args,max fn.ntmps args.length,[.code body],[],none⟩ ⟨h0,J,0,[],[]⟩){YO:aK}{args:List AV}{x:AV}{vs:Array Value}(r:Rel B ρ s.h w)(hg:gb ρ)(h:pq J ns h0 val YO args s= .ok x s1)(hv:aA ρ args vs.toList):jk P ((callFunc f vs).run P w)<|j8 B ρ s s1 w x:=by
 unfold pq at h;obtain⟨gG,h1⟩:=cZ h;obtain⟨u,s2,h2,h3⟩:=M.aR h1;obtain⟨v,h4,h5⟩:=bu h3;obtain⟨h6,h7⟩:=cZ h5;obtain⟨rfl,rfl⟩:=bK h7;obtain⟨a1,a2,a3⟩:=uG h2;obtain⟨q1,q2⟩:=eQ _ _ h4;have nK:=DQ dO r dM eA (fun n hn=>by obtain⟨_,o,p,h⟩:=a3 n hn;exact⟨o,p,h⟩);have fi:bD (⟨h0,J,0,[],[]⟩:AS):=⟨Nat.zero_le _,dO⟩;have Ab:gb<|gf J ρ:=fun g iA=>by obtain⟨N,e⟩:=hg g iA;exact⟨N,by unfold gf;rw[if_pos<|Nat.lt_of_lt_of_le iA fV];exact e⟩
 have bI:=au.calls (B:=rE B ρ w) (s:=⟨h0,J,0,[],[]⟩) (args:=args) (vs:=vs) hP cq cx q1 (q2 _ rfl rfl) fi nK Ab (fun k k1 k2=>by
  have k1:J<=k:=k1;unfold gf gi;rw[if_neg aj,if_neg aj])
  (AV.Bh (fun k y hk e=>by rw[sW dO hk];exact e) gG hv)
 rw[uH cq cx dL];show Calls P f vs w _;refine bI.mono fun e w'=>?_;rintro ⟨y,x',s4,rfl,rfl,_,_,σ,e1,e2,e3,e4⟩;obtain⟨b1,b2,b3,b4⟩:=Jy (a:=s.nx) dO r e3 e4 e1.le;exact⟨y,rfl,cI ρ σ,by rw[a2];exact b1,AV.py b2 h6 e2,by rw[a1];exact b3,b4⟩
def eC(X:TX)(J:Nat)(P:Program)(sp:Sp):Prop:=∀B:aL,B.F=FU->B.inv=nJ X J->Kz P B sp
theorem eC.mT{X:TX}{J:Nat}{P:Program}{sp:Sp}{g:FuncId}{m:aK->List AV->M AV}(h:eC X J P sp)(hl:∀YO:aK,(∀t a,YN<|YO t a)->∀args,YN<|m YO args)(hs:∀B:aL,B.F=FU->B.inv=nJ X J->∀YO:aK,fP P B YO->(∀t a,YN<|YO t a)->∀(args:List AV) (x:AV) (s s1:AS) (ρ:aw) (w:World) (vs:Array Value),bD s->Rel B ρ s.h w->gb ρ->dF s.nx s1.nx ρ->
 m YO args s= .ok x s1->aA ρ args vs.toList->jk P ((callFunc g vs).run P w) (j8 B ρ s s1 w x)):eC X J P<|pI sp g m:=by
 intro B hB hT;refine⟨fun f m' e YO lZ args=>?_,fun f m' e YO hc lZ args x s s1 ρ w vs fi r hg hf hm hv=>?_⟩
 ·rcases Sn e with⟨_,rfl⟩|e
  ·exact hl YO lZ args
  ·exact(h B hB hT).loc f m' e YO lZ args
 ·rcases Sn e with⟨rfl,rfl⟩|e
  ·exact hs B hB hT YO hc lZ args x s s1 ρ w vs fi r hg hf hm hv
  ·exact(h B hB hT).EH f m' e YO hc lZ args x s s1 ρ w vs fi r hg hf hm hv
section
variable {X:TX} {P:Program} {J:Nat} {ns:List Nat} {h0:Tr ab} {kn:List<|Nat×Option ab} {L L':bV} {g k:Nat} {fn:Func} {body:Code}
theorem cJ:eC X J P<|dB J ns h0 []:=fun _ _ _=>⟨fun f m h=>(by cases h),fun f m h=>(by cases h)⟩
def qH(X:TX)(P:Program)(J:Nat)(ns:List Nat)(h0:Tr ab)(L:bV)(B:aL):Prop:=B.F=FU/\B.inv=nJ X J/\fP P B (bh P (dB J ns h0 L) FU 6)/\∀t a,YN<|bh P (dB J ns h0 L) FU 6 t a
theorem rO(hP:bE P)(h':eC X J P<|dB J ns h0 L)(h1:B.F=FU)(h2:B.inv=nJ X J):qH X P J ns h0 L B:=⟨h1,h2,SZ hP (h' B h1 h2) h1 6,CL P (h' B h1 h2) FU 6⟩
theorem adI(hP:bE P)(fV:fM<=J)(dO:J<=top)(dM:∀n o,n<top->h0.get n=some o->n∈ns)(eA:∀n∈ns,n<J){val:List AV->Option AV}(h:eC X J P<|dB J ns h0 L)(h':eC X J P<|dB J ns h0 L')(cq:P.funcs[g]? =some fn)(cx:fn.body=some body)(dL:(fn.name == "runtime.NumGoroutine")=false)(eQ:∀args v,val args=some v->max fn.ntmps args.length<=top/\∀B:aL,qH X P J ns h0 L' B->
 au P B J (Fin P fn.results.toList fun y _=>y=v) ⟨g,ep args,max fn.ntmps args.length,[.code body],[],none⟩ ⟨h0,J,0,[],[]⟩):eC X J P<|dB J ns h0<|(g,.val val)::L:=by
 refine(show eC X J P (pI (dB J ns h0 L) g<|pq J ns h0 val) from h.mT (fun YO _ args=>YN.pq _ _ _ _ YO args) fun B hB hT YO hc hl args x s s1 ρ w vs fi r hg hf hm hv=>?_);refine R3 hP cq cx dL fV dO dM eA (fun args v e=>?_) r hg hm hv;obtain⟨q1,q2⟩:=eQ args v e;exact⟨q1,fun B' lH lI=>q2 B'<|rO hP h' (lH.trans hB)<|lI.trans hT⟩
theorem C8(hX:yo X J)(hP:bE P)(fV:fM<=J)(dO:J<=top)(dM:∀n o,n<top->h0.get n=some o->n∈ns)(eA:∀n∈ns,n<J)(jv:∀n o,(n,some o)∈kn->h0.get n=some o)(jw:∀p∈kn,p.1<top){val:AV->List AV->Option (AV×AV)}(h:eC X J P<|dB J ns h0 L)(h':eC X J P<|dB J ns h0 L')(cq:P.funcs[g]? =some fn)(cx:fn.body=some body)(dL:(fn.name == "runtime.NumGoroutine")=false)(eQ:∀v rest y v',val v rest=some (y,v')->max fn.ntmps (rest.length+1)<=top/\∀L,X k v L->∃nx,J<nx/\nx<=top/\(∀p∈L,p.1<nx)/\∀B:aL,qH X P J ns h0 L' B->
 au P B (J+1) (iD X P fn.results.toList k y v') ⟨g,ep<|.ptr (some (J,0))::rest,max fn.ntmps<|rest.length+1,[.code body],[],none⟩ ⟨gd<|kn++bx L,nx,0,[],[]⟩):eC X J P<|dB J ns h0<|(g,.tok k val)::L:=by
 refine(show eC X J P (pI (dB J ns h0 L) g<|x8 J ns h0 k val) from h.mT (fun YO _ args=>YN.x8 _ _ _ _ _ YO args) fun B hB hT YO hc hl args x s s1 ρ w vs fi r hg hf hm hv=>?_);refine TY hX hT hP cq cx dL fV dO dM eA jv jw (fun v rest y v' e=>?_) r hg hm hv;obtain⟨q1,q2⟩:=eQ v rest y v' e;refine⟨q1,fun L1 hL=>?_⟩;obtain⟨nx,n1,n2,n3,q3⟩:=q2 L1 hL;exact⟨nx,n1,n2,n3,fun B' lH lI=>q3 B'<|rO hP h' (lH.trans hB)<|lI.trans hT⟩
theorem I3(hX:yo X J)(hP:bE P)(fV:fM<=J)(dO:J<top)(dM:∀n o,n<top->h0.get n=some o->n∈ns)(eA:∀n∈ns,n<J){val:List AV->Option (Option AV×(AV->AV))}(h:eC X J P<|dB J ns h0 L)(h':eC X J P<|dB J ns h0 L')(cq:P.funcs[g]? =some fn)(cx:fn.body=some body)(dL:(fn.name == "runtime.NumGoroutine")=false)(eQ:∀args p,val args=some p->max fn.ntmps args.length<=top/\(p.1=none->∀B:aL,qH X P J ns h0 L' B->
 au P B J (Fin P fn.results.toList fun y _=>y=p.2 (.ptr none)) ⟨g,ep args,max fn.ntmps args.length,[.code body],[],none⟩ ⟨h0,J,0,[],[]⟩)/\
 ∀v,p.1=some v->vx J p.2/\∀B:aL,qH X P J ns h0 L' B->au P B J (iD X P fn.results.toList k (p.2<|.ptr<|some (J,0)) v) ⟨g,ep args,max fn.ntmps args.length,[.code body],[],none⟩ ⟨h0,J,0,[],[]⟩):
 eC X J P (dB J ns h0<|(g,.new k val)::L):=by
 refine(show eC X J P (pI (dB J ns h0 L) g<|BL J ns h0 k val) from h.mT (fun YO _ args=>YN.BL _ _ _ _ _ YO args) fun B hB hT YO hc hl args x s s1 ρ w vs fi r hg hf hm hv=>?_);refine acp hX hT hP cq cx dL fV dO dM eA (fun args p e=>?_) r hg hf hm hv;obtain⟨q1,q2,q3⟩:=eQ args p e;refine⟨q1,fun e0 B' lH lI=>q2 e0 B'<|rO hP h' (lH.trans hB)<|lI.trans hT,fun v e0=>?_⟩;obtain⟨q4,q5⟩:=q3 v e0;exact⟨q4,fun B' lH lI=>q5 B'<|rO hP h' (lH.trans hB)<|lI.trans hT⟩
end
end Go.Rn
namespace Go.Rn
open Go.RowKit
variable {α:Type} {enc:α->List AV} {r:Nat->Nat} {l:List α} {fz:ng} {K n o:Nat} {a v:AV} {cap:cC} {args:List AV}
def eh(enc:α->List AV)(K:Nat)(a:AV)(l:List α):Prop:=∃n o,a= .U n o l.length/\top<=n/\∀(i:Nat) c,l[i]? =some c->cT FU n (o+i*K) K=some (enc c)
theorem eh.bG(h:eh enc K a l):a.bG=true:=by obtain⟨n,o,rfl,h1,_⟩:=h;exact aM.2 h1
theorem eh.hi(h:eh enc K a l):a.hi=true:=by have:=h.bG;obtain⟨n,o,rfl,h1,_⟩:=h;exact this
theorem eh.aS{α:Type}{enc:α->List AV}{K:Nat}(he:mw K enc)(l:List α):eh enc K (aS enc l) l:=⟨_,0,rfl,cr _,fun i c hc=>by have:=Bi he hc 0 K aj;rw[Nat.zero_add];rw[Nat.add_zero,List.drop_zero, ←he.len c,List.take_length] at this;rw[he.len c] at this;exact this⟩
theorem eh.inj{m:List α}(Ea:∀x y,enc x=enc y->x=y)(h:eh enc K a l)(k:eh enc K a m):l=m:=by
 obtain⟨n,o,rfl,_,h2⟩:=h;obtain⟨n',o',e,_,k2⟩:=k;injection e with e1 e2 e3
 subst e1;subst e2;refine List.ext_getElem? fun i=>?_;by_cases q:i<l.length
 ·have a1:l[i]? =some l[i]:=List.getElem?_eq_getElem q;have a2:m[i]? =some (m[i]'aj):=List.getElem?_eq_getElem aj;have b1:=h2 i _ a1;have b2:=k2 i _ a2;rw[b1] at b2;injection b2 with b2
  rw[a1,a2,Ea _ _ b2]
 ·rw[List.getElem?_eq_none aj,List.getElem?_eq_none aj]
theorem eh.len{α:Type}{enc:α->List AV}{K n o len:Nat}{l:List α}(h:eh enc K (.U n o len) l):l.length=len/\top<=n/\∀(i:Nat) c,l[i]? =some c->cT FU n (o+i*K) K=some (enc c):=by
 obtain⟨n',o',e,ht,h3⟩:=h;injection e with e1 e2 e3
 subst e1;subst e2;exact⟨e3.symm,ht,h3⟩
theorem I4{len:Nat}(hl:∀c,(enc c).length=K)(h:eh enc K (.U n o len) l):cT FU n o (len*K)=some (l.map enc).flatten\/l=[]:=by
 obtain⟨h1,_,h3⟩:=h.len;by_cases hn:l=[]
 ·exact .inr hn
 refine .inl ?_;have Eb:0<l.length:=by cases l with|nil=>exact absurd rfl hn|cons _ _=>exact Nat.succ_pos _
 obtain⟨row,eL⟩:∃row,FU n=some row:=by
  have:=h3 0 l[0]<|List.getElem?_eq_getElem Eb;unfold cT at this;cases e:FU n with
  |none=>rw[e] at this;cases this
  |some r=>exact⟨r,rfl⟩
 have aB:∀(i:Nat) c,l[i]? =some c->o+i*K+K<=row.length/\(row.drop<|o+i*K).take K=enc c:=by
  intro i c hc;have:=h3 i c hc;unfold cT at this;rw[eL] at this;simp only at this;cases q:Nat.ble (o+i*K+K) row.length with
  |false=>rw[q] at this;cases this
  |true=>rw[q] at this;injection this with this;exact⟨aM.1 q,this⟩
 have amL:=(aB (l.length - 1) l[l.length - 1]<|List.getElem?_eq_getElem aj).1;have hmul:(l.length - 1)*K+K=l.length*K:=by rw[←Nat.succ_mul];congr 1;omega
 have hle:o+len*K<=row.length:=by rw[←h1];omega
 unfold cT;rw[eL];simp only[(aM.2 hle:Nat.ble (o+len*K) row.length=true)];congr 1;have yl:(l.map enc).flatten.length=l.length*K:=by
  have:=sL (K:=K) (l:=l.map enc) fun c hc=>by obtain⟨a,_,rfl⟩:=List.mem_map.1 hc;exact hl a
  rw[this,List.length_map]
 refine List.ext_getElem? fun i=>?_;by_cases q:i<l.length*K
 ·rcases Nat.eq_zero_or_pos K with z|hK
  ·rw[z] at q;omega
  have hdiv:i / K<l.length:=Nat.div_lt_of_lt_mul (by rw[Nat.mul_comm];exact q);have GN:i % K<K:=Nat.mod_lt _ hK;have EJ:i / K*K+i % K=i:=by rw[Nat.mul_comm];exact Nat.div_add_mod i K
  obtain⟨_,h4⟩:=aB (i / K) l[i / K]<|List.getElem?_eq_getElem hdiv;have h5:=Mi (l:=l.map enc) (K:=K) (i:=i / K) (c:=enc l[i / K]) (fun c hc=>by obtain⟨a,_,rfl⟩:=List.mem_map.1 hc;exact hl a) (by rw[List.getElem?_map,List.getElem?_eq_getElem hdiv];rfl);have h6:(row.drop<|o+i / K*K)[i % K]? =(enc l[i / K])[i % K]? :=by rw[←h4,List.getElem?_take_of_lt GN]
  have h7:((l.map enc).flatten.drop<|i / K*K)[i % K]? =(enc l[i / K])[i % K]? :=by rw[←h5,List.getElem?_take_of_lt GN]
  rw[List.getElem?_drop] at h6 h7;rw[List.getElem?_take_of_lt (by rw[←h1];exact q),List.getElem?_drop,show o+i=o+i / K*K+i % K by omega,h6, ←h7,EJ]
 ·rw[List.getElem?_eq_none (by rw[List.length_take, ←h1];omega),List.getElem?_eq_none aj]
theorem N5(hm:(n,nm (l.map enc).flatten,(l.map enc).flatten)∈fz)(hr:∀k,top<=k->r k=k)(hc:(match cap with| .known c=>Nat.ble l.length c| .aq _ _=>true| .lost=>false)=true):oM fz r (.slice (some (n,0)) l.length cap)<|aS enc l:=by
 intro ρ eY v yp hv;have:∃b N c,ρ n=some (b,N)/\v= .slice (some ⟨b,0,none⟩) l.length c/\l.length<=c:=by
  cases cap with
  |known c=>simp only[VR] at hv;obtain⟨b,N,e,hv⟩:=hv;exact⟨b,N,c,e,hv,aM.1 hc⟩
  |aq lo e0=>simp only[VR] at hv;obtain⟨b,N,c,e,hv,_,h,_⟩:=hv;exact⟨b,N,c,e,hv,h⟩
  |lost=>cases hc
 obtain⟨b,N,c,e,rfl,hle⟩:=this;have hk:=yp.2.2 _ hm b N e;unfold aS;simp only[VR];exact .inr ⟨b,0,c,.inr ⟨cr _,fun z=>hk<|(congrArg eY<|hr _<|fY _ _ _).symm.trans z⟩,rfl,fun _=>⟨hle,(zo _).1⟩⟩
theorem adJ:oM fz r (.slice none 0<|.known 0)<|aS enc []:=by intro ρ eY v _ hv;simp only[VR] at hv;obtain⟨rfl,_,_⟩:=hv;unfold aS;simp only[VR];exact .inl ⟨cr _,rfl,none,0,rfl,(fun _=>rfl),(fun _=>rfl),fun e=>absurd e (zo _).2⟩
theorem aba:oM fz r (.slice (some (n,o)) 0 cap)<|aS enc []:=by
 intro ρ eY v _ hv;have:∃a c,v= .slice (some a) 0 c:=by
  cases cap<;>simp only[VR] at hv
  ·obtain⟨_,_,_,rfl⟩:=hv;exact⟨_,_,rfl⟩
  ·obtain⟨_,_,_,_,rfl,_⟩:=hv;exact⟨_,_,rfl⟩
  ·obtain⟨_,_,_,_,_,_,rfl⟩:=hv;exact⟨_,_,rfl⟩
 obtain⟨a,c,rfl⟩:=this;unfold aS;simp only[VR];exact .inl ⟨cr _,rfl,some a,c,rfl,(fun e=>by cases e),(fun e=>absurd e (zo _).1),fun _ e=>by cases e⟩
theorem N6(he:mw K enc)(hl:l.length*K<=top)(n:Nat)(hn:n<top){o0:List<|Nat×Option ab}(hm:(n,some<|aN enc l)∈o0):
 n<top/\FU (nm (l.map enc).flatten)=some (l.map enc).flatten/\∃N t z,(n,some<|.cells N t z)∈o0/\∀i x,(l.map enc).flatten[i]? =some x->i<N/\cellAt t z i=some x/\x.cf=true/\x.bG=true:=by
 refine⟨hn,DP<|he.all l,_,_,_,hm,fun i x hx=>?_⟩;have hi:=(List.getElem?_eq_some_iff.1 hx).1;have hc:=List.all_eq_true.1 (he.all l) x<|List.mem_of_getElem? hx;exact⟨hi,by rw[yG (by rw[he.length];exact hl) hi];exact hx,Ir hc,CZ hc⟩
def mH(fz:ng)(r:Nat->Nat):List AV->List AV->Prop
 |[],[]=>True
 |x::l,y::m=>oM fz r x y/\mH fz r l m
 |_,_=>False
theorem mH.length:∀{l m:List AV},mH fz r l m->l.length=m.length
 |[],[],_=>rfl
 |_::_,_::_,h=>by simp[mH.length h.2]
 |[],_::_,h=>by cases h
 |_::_,[],h=>by cases h
theorem mH.ah:∀{l m:List AV} {i:Nat} {x y:AV},mH fz r l m->l[i]? =some x->m[i]? =some y->oM fz r x y
 |x::l,y::m,0,a,b,h,h1,h2=>by simp at h1 h2;subst h1;subst h2;exact h.1
 |x::l,y::m,i+1,a,b,h,h1,h2=>mH.ah h.2 (by simpa using h1) (by simpa using h2)
 |[],[],_,_,_,_,h1,_=>by simp at h1
 |_::_,[],_,_,_,h,_,_=>by cases h
 |[],_::_,_,_,_,h,_,_=>by cases h
theorem iu.cells{l m:List AV}(hl:l.length<=top)(h:mH fz r l m)(h1:m.all AV.cf=true):iu fz r (.cells l.length (Tr.fill l 0 .nil) [])<|.cells m.length (Tr.fill m 0 .nil) []:=by
 have hlen:=h.length;intro ρ eY N o yp k;obtain⟨c,e,rfl,k1,k2,k3⟩:=k;refine⟨c,e,rfl,k1,by omega,fun i hi=>?_⟩;obtain⟨x,v,a1,a2,a3,a4⟩:=k3 i aj;have hx:l[i]? =some x:=by unfold cellAt at a1;rw[Tr.sO _ _ _ _ aj,if_pos aj,Nat.sub_zero,List.getElem?_eq_getElem aj] at a1;rw[List.getElem?_eq_getElem aj];exact a1
 have hy:m[i]? =some m[i]:=List.getElem?_eq_getElem hi;refine⟨m[i],v,?_,?_,a3,h.ah hx hy ρ eY v yp a4⟩
 ·unfold cellAt;rw[Tr.sO _ _ _ _ aj,if_pos aj,Nat.sub_zero,hy]
 ·exact List.all_eq_true.1 h1 _<|List.getElem_mem hi
open Classical in
noncomputable def aW(R:List AV->AV->Prop)(args:List AV):Option AV:=if h:∃v,R args v then some h.choose else none
theorem gH{R:List AV->AV->Prop}(h:aW R args=some v):R args v:=by
 unfold aW at h;split at h
 ·rename_i q;injection h with h;rw[←h];exact q.choose_spec
 ·cases h
theorem fB{R:List AV->AV->Prop}(hd:∀args v v',R args v->R args v'->v=v')(h:R args v):aW R args=some v:=by unfold aW;have q:∃v,R args v:=⟨v,h⟩;rw[dif_pos q,hd _ _ _ q.choose_spec h]
end Go.Rn
namespace Go.Rn
open Go.RowKit
variable {ns:List Nat} {v y v':AV} {rest args:List AV} {n o:Nat} {S:Type} {res:AV->AV} {f:S->List AV->Option (AV×S)} {enc:S->AV}
def zJ(ns:List Nat)(σ:aw):aw:=fun m=>if top<=m\/m∈ns then σ m else none
def gz(ns:List Nat)(x:AV):Prop:=∀(σ:aw) (v:Value),VR σ x v->VR (zJ ns σ) x v
theorem adK(ns:List Nat)(σ:aw):jl σ<|zJ ns σ:=fun k x hk e=>by unfold zJ;rw[if_pos<|.inl hk];exact e
theorem gz.hi{x:AV}(h:x.bG=true):gz ns x:=fun σ _ k=>AV.u0 (adK ns σ) h k
theorem gz.ptr(h:n∈ns):gz ns<|.ptr<|some (n,o):=fun σ v k=>by simp only[VR] at k ⊢;obtain⟨b,N,e1,e2⟩:=k;exact⟨b,N,by unfold zJ;rw[if_pos<|.inr h];exact e1,e2⟩
theorem gz.map(h:n∈ns):gz ns<|.map<|some n:=fun σ v k=>by simp only[VR] at k ⊢;obtain⟨b,N,e1,e2⟩:=k;exact⟨b,N,by unfold zJ;rw[if_pos<|.inr h];exact e1,e2⟩
theorem gz.slice{len:Nat}{cap:cC}(h:n∈ns):gz ns<|.slice (some (n,o)) len cap:=fun σ v k=>by
 cases cap<;>simp only[VR] at k ⊢
 ·obtain⟨b,N,e1,e2⟩:=k;exact⟨b,N,by unfold zJ;rw[if_pos<|.inr h];exact e1,e2⟩
 ·obtain⟨b,N,c,e1,e2⟩:=k;exact⟨b,N,c,by unfold zJ;rw[if_pos<|.inr h];exact e1,e2⟩
 ·obtain⟨l,b,N,p,c,e1,e2⟩:=k;exact⟨l,b,N,p,c,by unfold zJ;rw[if_pos<|.inr h];exact e1,e2⟩
theorem lr.tok{k:Nat}:lr ns<|.tok k v:=fun _ _ _ _=>trivial
theorem lr.cells{cs:List AV}(hl:cs.length<=top)(h:∀c∈cs,gz ns c):lr ns<|.cells cs.length (Tr.fill cs 0 .nil) []:=fun σ N o' k=>by obtain⟨c,e,r,s,u,f⟩:=k;refine⟨c,e,r,s,u,fun i hi=>?_⟩;obtain⟨x,v,a,b,d,q⟩:=f i hi;refine⟨x,v,a,b,d,h x ?_ σ v q⟩;have:=yG (l:=cs) (i:=i) hl hi;rw[this] at a;exact List.mem_of_getElem? a
theorem lr.row{α:Type}{enc:α->List AV}{l:List α}(hl:(l.map enc).flatten.length<=top)(h:∀c∈(l.map enc).flatten,gz ns c):lr ns<|aN enc l:=lr.cells hl h
noncomputable def dG(enc:S->AV)(f:S->List AV->Option (AV×S)):AV->List AV->Option (AV×AV):=fun v rest=> @dite _ (∃a,enc a=v) (Classical.propDecidable _) (fun h=>(f h.choose rest).map fun p=>(p.1,enc p.2)) fun _=>none
theorem AW(inj:∀a b,enc a=enc b->a=b){a:S}:dG enc f (enc a) rest=(f a rest).map fun p=>(p.1,enc p.2):=by unfold dG;have h:∃b,enc b=enc a:=⟨a,rfl⟩;rw[dif_pos h,inj _ _ h.choose_spec]
theorem AK(h:dG enc f v rest=some (y,v')):∃a a',v=enc a/\f a rest=some (y,a')/\v'=enc a':=by
 unfold dG at h;split at h
 ·rename_i q;cases e:f q.choose rest with
  |none=>rw[e] at h;cases h
  |some p=>
   rw[e] at h;injection h with h
   injection h with h1 h2
   refine⟨_,p.2,q.choose_spec.symm,?_,h2.symm⟩;rw[e, ←h1]
 ·cases h
theorem adL{val:AV->List AV->Option (AV×AV)}(h:val v rest=some (y,v'))(h1:rest.all AV.hi=true)(h2:y.hi=true):eR val v rest=some (y,v'):=by unfold eR;rw[h1,h];show(match y.hi with|true=>some (y,v')|false=>none)=_;rw[h2]
theorem I5{val:List AV->Option (Option AV×(AV->AV))}(h:val args=some (some v,res))(h1:args.all AV.hi=true):lB val args=some (some v,res):=by unfold lB;rw[h1,h];rfl
theorem UK{val:List AV->Option (Option AV×(AV->AV))}(h:val args=some (none,res))(h1:args.all AV.hi=true)(h2:(res<|.ptr none).hi=true):lB val args=some (none,res):=by unfold lB;rw[h1,h];show(match (res<|.ptr none).hi with|true=>some (none,res)|false=>none)=_;rw[h2]
end Go.Rn
namespace Go.Rn
open Go.RowKit
variable {ρ:aw} {J:Nat}
abbrev Vw:=List<|Nat×Nat×ab
def gK(L:Vw)(m:Nat):Option Nat:=(L.find? fun p=>Nat.beq p.1 m).map fun p=>p.2.1
def eU(J:Nat)(ρ:aw)(L:Vw):aw:=fun m=>if m<J then ρ m else if top<=m then ρ m else match gK L m with
 |some n=>ρ n
 |none=>none
def Kc(L:Vw):List<|Nat×ab:=L.map fun p=>(p.1,p.2.2)
theorem abb{L:Vw}(fn:∀p∈L,∀q∈L,p.1=q.1->p=q){p:Nat×Nat×ab}(hp:p∈L):gK L p.1=some p.2.1:=by
 unfold gK;cases e:L.find? fun q=>Nat.beq q.1 p.1 with
 |none=>exact absurd (List.find?_eq_none.1 e p hp) iH
 |some q=>have h1:=List.mem_of_find?_eq_some e;have h2:=List.find?_some e;have h3:q.1=p.1:=Nat.eq_of_beq_eq_true h2;rw[fn q h1 p hp h3];rfl
theorem abc{L:Vw}{m n:Nat}(h:gK L m=some n):∃p∈L,p.1=m/\p.2.1=n:=by
 unfold gK at h;cases e:L.find? fun q=>Nat.beq q.1 m with
 |none=>rw[e] at h;cases h
 |some q=>rw[e] at h;have h2:=List.find?_some e;refine⟨q,List.mem_of_find?_eq_some e,Nat.eq_of_beq_eq_true h2,?_⟩;injection h
theorem yR{L:Vw}(ht:J<=top){m:Nat}(hm:top<=m):eU J ρ L m=ρ m:=by unfold eU;rw[if_neg aj,if_pos hm]
theorem C9{L:Vw}{m:Nat}(hm:m<J):eU J ρ L m=ρ m:=by unfold eU;rw[if_pos hm]
theorem It{L:Vw}{m:Nat}(h1:J<=m)(h2:m<top)(h3:∀p∈L,p.1≠m):eU J ρ L m=none:=by
 unfold eU;rw[if_neg aj,if_neg aj];cases e:gK L m with
 |none=>rfl
 |some n=>obtain⟨p,hp,e1,_⟩:=abc e;exact absurd e1<|h3 p hp
end Go.Rn
namespace Go.Rn
open Go.RowKit
variable {ρ:aw} {J:Nat} {h:Tr ab} {L:Vw}
structure Ac (J:Nat) (ρ:aw) (h:Tr ab) (L:Vw):Prop where
 nm:∀p∈L,J<=p.1/\p.1<top/\p.2.1<top
 fn:∀p∈L,∀q∈L,p.1=q.1->p=q
 inj:∀p∈L,∀q∈L,p.2.1=q.2.1->p=q
 is:∀p∈L,∃o,h.get p.2.1=some o/\((o.own=true/\p.2.2.own=true/\∀N o',OR ρ N o o'->OR (eU J ρ L) N p.2.2 o')\/∃k v,o= .tok k v/\p.2.2= .tok k v)
def wH(ρ:aw)(cY:Nat->Nat->Prop)(L:Vw)(x:Nat):Prop:=(∃p∈L,p.2.2.dm=false/\∃N,ρ p.2.1=some (x,N))\/∃p∈L,p.2.2.kK=true/\cY p.2.1 x
theorem Ac.Ad(V:Ac J ρ h L){p:Nat×Nat×ab}(hp:p∈L):eU J ρ L p.1=ρ p.2.1:=by obtain⟨q1,q2,_⟩:=V.nm p hp;unfold eU;rw[if_neg aj,if_neg aj,abb V.fn hp]
def Ef(B:aL)(ρ:aw)(h:Tr ab)(w:World)(cY:Nat->Nat->Prop):Prop:=(∀n k v,n<top->h.get n=some (.tok k v)->∃b N,ρ n=some (b,N)/\B.inv k v ρ w b (cY n)/\cY n b/\∀x,cY n x->(x<w.heap.size/\B.dA<=x)/\B.may x/\jU ρ h x/\∀j sh,ρ (hn j x sh)=none)/\∀n m x k v k' v',n<top->m<top->h.get n=some (.tok k v)->h.get m=some (.tok k' v')->n≠m->cY n x->¬cY m x
theorem Kd{B:aL}{w:World}{h0:Tr ab}{ns:List Nat}{kn:List<|Nat×Option ab}{cY:Nat->Nat->Prop}(ht:J<=top)(r:Rel B ρ h w)(T:Ef B ρ h w cY)(dM:∀n o,n<top->h0.get n=some o->n∈ns)(eA:∀n∈ns,n<J)(jv:∀n o,(n,some o)∈kn->h0.get n=some o)(jw:∀p∈kn,p.1<top)(a3:∀n∈ns,∃o p,h.get n=some o/\h0.get n=some p/\oz J o p=true)(V:Ac J ρ h L):Rel (tN B ρ w<|wH ρ cY L) (eU J ρ L) (gd<|kn++bx (Kc L)) w:=by
 have r0:=DQ ht r dM eA a3;obtain⟨t1,t2⟩:=T;have uz:(gf J ρ).le<|eU J ρ L:=by
  intro m x e;unfold gf at e;split at e
  ·rename_i q;rw[C9 q];exact e
  ·unfold gi at e;split at e
   ·rename_i q;rw[yR ht q];exact e
   ·cases e
 have Cl:∀m o,(m,o)∈Kc L->∃p∈L,p.1=m/\p.2.2=o:=fun m o hm=>by
  obtain⟨p,hp,e⟩:=List.mem_map.1 hm;injection e with e1 e2
  exact⟨p,hp,e1,e2⟩
 have cU:∀p∈kn++bx (Kc L),p.1<top:=fun p hp=>by
  rcases List.mem_append.1 hp with hp|hp
  ·exact jw p hp
  ·refine MP (fun q hq=>?_) p hp;obtain⟨p,hp,e1,_⟩:=Cl q.1 q.2 hq;rw[←e1];exact(V.nm p hp).2.1
 have ah:∀m o,(gd<|kn++bx (Kc L)).get m=some o->(m∈ns/\h0.get m=some o/\o.mL=true)\/∃p∈L,p.1=m/\p.2.2=o:=fun m o hg=>by
  rcases List.mem_append.1 (wR cU hg) with q|q
  ·have q2:=jv m o q;have iJ:=dM m o (jw _ q) q2;obtain⟨p1,p2,_,c3,c4⟩:=a3 m iJ;rw[q2] at c3;cases c3;refine .inl ⟨iJ,q2,?_⟩;unfold oz at c4;split at c4<;>first|rfl|cases c4
  ·exact .inr<|Cl m o<|MG q
 have tZ:∀p∈L,p.2.2.dm=false->∃o,h.get p.2.1=some o/\o.dm=false:=fun p hp e=>by
  obtain⟨o,g1,⟨g2,_⟩|⟨k,v,_,g2⟩⟩:=V.is p hp
  ·exact⟨o,g1,(ab.uK g2).2⟩
  ·rw[g2] at e;cases e
 have rQ:∀p∈L,p.2.2.kK=true->∃k v,h.get p.2.1=some (.tok k v)/\p.2.2= .tok k v:=fun p hp e=>by
  obtain⟨o,g1,⟨_,g2,_⟩|⟨k,v,rfl,g2⟩⟩:=V.is p hp
  ·generalize p.2.2=q at e g2;cases q<;>first|(cases e;done)|cases g2
  ·exact⟨k,v,g1,g2⟩
 have afC:∀p∈L,p.2.2.mL=true->False:=fun p hp e=>by
  obtain⟨o,g1,⟨_,g2,_⟩|⟨k,v,_,g2⟩⟩:=V.is p hp
  ·generalize p.2.2=q at e g2;cases q<;>first|(cases e;done)|cases g2
  ·rw[g2] at e;cases e
 have QL:∀m N x,m∈ns->eU J ρ L m=some (x,N)->x<B.dA/\¬wH ρ cY L x:=fun m N x q1 e=>by
  rw[C9<|eA m q1] at e;obtain⟨p1,p2,c2,c3,c4⟩:=a3 m q1;have jW:m<top:=Nat.lt_of_lt_of_le (eA m q1) ht;obtain⟨b',N',e1,e2⟩:=r.tk.1.2 m p1 jW c2<|H5 c4;rw[e] at e1;cases e1;refine⟨e2,?_⟩;rintro (⟨p,hp,ho,M,e3⟩|⟨p,hp,ho,e3⟩)
  ·obtain⟨o,g1,g2⟩:=tZ p hp ho;have:=r.one m p.2.1 p1 o x N M jW (V.nm p hp).2.2 c2 g1 (.inr g2) e e3;rw[←this,c2] at g1;cases g1;rw[ab.jY<|H5 c4] at g2;cases g2
  ·obtain⟨k,v,g1,_⟩:=rQ p hp ho;obtain⟨_,_,_,_,_,f⟩:=t1 _ k v (V.nm p hp).2.2 g1;have:=(f x e3).1.2;omega
 have afD:∀j x sh,ρ (hn j x sh)≠none->¬wH ρ cY L x:=fun j x sh e=>by
  obtain⟨_,_,_,_,_,_,_,z3,_⟩:=r.fz j x sh e;rintro (⟨p,hp,ho,M,e3⟩|⟨p,hp,ho,e3⟩)
  ·obtain⟨o,g1,g2⟩:=tZ p hp ho;exact z3 p.2.1 o M (V.nm p hp).2.2 g1 g2 e3
  ·obtain⟨k,v,g1,_⟩:=rQ p hp ho;obtain⟨_,_,_,_,_,f⟩:=t1 _ k v (V.nm p hp).2.2 g1;exact e<|(f x e3).2.2.2 j sh
 refine⟨fun m o hm hg=>?_,fun m n o p x N M hm eZ hg l6 cV e1 e2=>?_,fun m i es ex left cur hm hg=>?_,fun x hx=>.inl hx,fun i j m es ex left cur hI jr iR iU hi _ hg _=>?_,fun j x sh e=>?_,?_⟩
 ·rcases ah m o hg with⟨q1,q3,q4⟩|⟨p,hp,rfl,rfl⟩
  ·obtain⟨b',N',o',e1,e2,e3,_⟩:=r0.is m o hm q3;exact⟨b',N',o',uz _ _ e1,e2,e3.mono uz,fun z=>by rw[ab.jY q4] at z;cases z⟩
  ·obtain⟨o,g1,g2⟩:=V.is p hp;obtain⟨b',N',o',e1,e2,e3,_⟩:=r.is p.2.1 o (V.nm p hp).2.2 g1;rcases g2 with⟨_,_,g3⟩|⟨k,v,_,g3⟩
   ·exact⟨b',N',o',(V.Ad hp).trans e1,e2,g3 _ _ e3,fun z=>.inr<|.inl ⟨p,hp,z,N',e1⟩⟩
   ·rw[g3];exact⟨b',N',o',(V.Ad hp).trans e1,e2,trivial,fun z=>by cases z⟩
 ·rcases ah m o hg with⟨q1,q3,q4⟩|⟨p1,jc,rfl,rfl⟩
  ·rcases ah n p l6 with⟨z1,z3,z4⟩|⟨p2,fK,rfl,rfl⟩
   ·rcases cV with y|y
    ·rw[ab.jY q4] at y;cases y
    ·rw[ab.jY z4] at y;cases y
   ·rw[V.Ad fK] at e2;rcases cV with y|y
    ·rw[ab.jY q4] at y;cases y
    ·exact absurd (.inl ⟨p2,fK,y,M,e2⟩) (QL m N x q1 e1).2
  ·rw[V.Ad jc] at e1;rcases ah n p l6 with⟨z1,z3,z4⟩|⟨p2,fK,rfl,rfl⟩
   ·rcases cV with y|y
    ·exact absurd (.inl ⟨p1,jc,y,N,e1⟩) (QL n M x z1 e2).2
    ·rw[ab.jY z4] at y;cases y
   ·rw[V.Ad fK] at e2;obtain⟨o1,g1,_⟩:=V.is p1 jc;obtain⟨o2,f1,_⟩:=V.is p2 fK;have aiU:o1.dm=false\/o2.dm=false:=cV.imp (fun y=>by
     obtain⟨o,k1,k2⟩:=tZ p1 jc y;rw[g1] at k1;cases k1;exact k2) (fun y=>by
     obtain⟨o,k1,k2⟩:=tZ p2 fK y;rw[f1] at k1;cases k1;exact k2)
    have:=r.one p1.2.1 p2.2.1 o1 o2 x N M (V.nm p1 jc).2.2 (V.nm p2 fK).2.2 g1 f1 aiU e1 e2;rw[V.inj p1 jc p2 fK this]
 ·rcases ah m _ hg with⟨_,_,q4⟩|⟨p,hp,_,e⟩
  ·cases q4
  ·obtain⟨_,_,⟨_,g2,_⟩|⟨k,v,_,g2⟩⟩:=V.is p hp
   ·rw[e] at g2;cases g2
   ·rw[e] at g2;cases g2
 ·rcases ah i _ hg with⟨_,_,q4⟩|⟨p,hp,_,e⟩
  ·cases q4
  ·obtain⟨_,_,⟨_,g2,_⟩|⟨k,v,_,g2⟩⟩:=V.is p hp
   ·rw[e] at g2;cases g2
   ·rw[e] at g2;cases g2
 ·rw[yR ht<|fY _ _ _] at e;obtain⟨g0,l,c,e',fr,g1,g2,g3,g4⟩:=r0.fz j x sh (by rw[sW ht<|fY _ _ _];exact e);refine⟨.inl e,l,c,e',fr,g1,g2,fun m o N hm hg cz hr=>?_,fun i y hy=>?_⟩
  ·rcases ah m o hg with⟨_,_,q4⟩|⟨p,hp,rfl,rfl⟩
   ·rw[ab.jY q4] at cz;cases cz
   ·rw[V.Ad hp] at hr;exact afD j x sh e<|.inl ⟨p,hp,cz,N,hr⟩
  ·obtain⟨v',k1,k2,k3⟩:=g4 i y hy;refine⟨v',k1,VR.mono (fun i z q=>?_) _ _ k2,k3⟩;unfold gi at q ⊢;split at q
   ·rename_i hk;rw[if_pos hk];exact uz _ _ q
   ·cases q
 ·let H':Nat->Nat->Prop:=fun m x=>∃p∈L,p.1=m/\cY p.2.1 x;have QM:∀p∈L,H' p.1=cY p.2.1:=fun p hp=>funext fun x=>propext ⟨fun⟨q,hq,e1,e2⟩=>by rw[V.fn q hq p hp e1] at e2;exact e2,fun e=>⟨p,hp,rfl,e⟩⟩;refine⟨⟨r.tk.1.1,fun m o hm hg hf=>?_⟩,H',fun m k' v' hm hg=>?_,fun m n x k' v' Lj wj hm eZ hg l6 ct jb pX=>?_⟩
  ·rcases ah m o hg with⟨q1,q3,q4⟩|⟨p,hp,rfl,rfl⟩
   ·obtain⟨b',N',o',e1,e2,e3,_⟩:=r0.is m o hm q3;exact⟨b',N',uz _ _ e1,(QL m N' b' q1<|uz _ _ e1).1⟩
   ·exact(afC p hp hf).elim
  ·rcases ah m _ hg with⟨_,_,q4⟩|⟨p,hp,rfl,e⟩
   ·cases q4
   ·obtain⟨k,v,g1,g2⟩:=rQ p hp (by rw[e];rfl);rw[e] at g2;cases g2;obtain⟨b,N,f1,f2,f3,f4⟩:=t1 _ _ _ (V.nm p hp).2.2 g1;refine⟨b,N,(V.Ad hp).trans f1,?_,by rw[QM p hp];exact f3,fun x hx=>?_⟩
    ·rw[QM p hp];exact B.mono f2 (fun i y hi q=>by rw[yR ht hi];exact q) fun _ _=>rfl
    ·rw[QM p hp] at hx;obtain⟨c1,c2,c3,c4⟩:=f4 x hx;refine⟨c1,.inr<|.inr ⟨p,hp,by rw[e];rfl,hx⟩,fun n o N eZ l6 cz hr=>?_,fun j sh=>by rw[yR ht<|fY _ _ _];exact c4 j sh⟩;rcases ah n o l6 with⟨_,_,q4⟩|⟨p2,fK,rfl,rfl⟩
     ·rw[ab.jY q4] at cz;cases cz
     ·rw[V.Ad fK] at hr;obtain⟨o2,k1,k2⟩:=tZ p2 fK cz;exact c3 p2.2.1 o2 N (V.nm p2 fK).2.2 k1 k2 hr
  ·obtain⟨p1,jc,y1,z1⟩:=jb;obtain⟨p2,fK,y2,z2⟩:=pX;rcases ah m _ hg with⟨_,_,q4⟩|⟨q1,K3,e1,e2⟩
   ·cases q4
   ·rcases ah n _ l6 with⟨_,_,q4⟩|⟨q2,Hj,e3,e4⟩
    ·cases q4
    ·have:=V.fn p1 jc q1 K3<|y1.trans e1.symm;subst this;have:=V.fn p2 fK q2 Hj<|y2.trans e3.symm;subst this;obtain⟨k1,v1,g1,_⟩:=rQ p1 jc (by rw[e2];rfl);obtain⟨k2,v2,g2,_⟩:=rQ p2 fK (by rw[e4];rfl);exact t2 _ _ x _ _ _ _ (V.nm p1 jc).2.2 (V.nm p2 fK).2.2 g1 g2 (fun q=>ct<|by rw[←y1, ←y2,V.inj p1 jc p2 fK q]) z1 z2
end Go.Rn
namespace Go.Rn
open Go.RowKit
theorem JA{J a:Nat}{B:aL}{ρ σ:aw}{w w':World}{h h4 h':Tr ab}{L:Vw}{L2:List<|Nat×ab}{cY:Nat->Nat->Prop}(r:Rel B ρ h w)(T:Ef B ρ h w cY)(V:Ac J ρ h L)(q3:Rel (tN B ρ w<|wH ρ cY L) σ h4 w')(q4:cL (tN B ρ w<|wH ρ cY L) w w')(oQ:∀p∈L,σ p.1=ρ p.2.1)(yp:∀m x,top<=m->ρ m=some x->σ m=some x)(h2:∀n q,(n,q)∈L2->∃p∈L,p.2.1=n/\∃o1,h4.get p.1=some o1/\((q.own=true/\p.2.2.own=true/\∀N o',OR σ N o1 o'->OR (cI ρ σ) N q o')\/∃k v v0,o1= .tok k v/\q= .tok k v/\p.2.2= .tok k v0))(h3:∀p∈L,p.2.2.dm=false->∃o1,h4.get p.1=some o1/\o1.dm=false)(hh:∀k,k<top->(∃q,(k,q)∈L2/\h'.get k=some q)\/((∀q∈L,q.2.1≠k)/\h'.get k=h.get k)):
 Ext a a ρ (cI ρ σ)/\jl σ (cI ρ σ)/\Rel B (cI ρ σ) h' w'/\cL B w w':=by
 obtain⟨t1,t2⟩:=T;have hl:ρ.le<|cI ρ σ:=by
  intro k x e;unfold cI;by_cases hk:top<=k
  ·rw[if_pos hk];exact yp k x hk e
  ·rw[if_neg hk];exact e
 have cU:∀k,k<top->cI ρ σ k=ρ k:=fun k hk=>by unfold cI;rw[if_neg aj]
 have gG:∀k,top<=k->cI ρ σ k=σ k:=fun k hk=>by unfold cI;rw[if_pos hk]
 have tZ:∀p∈L,p.2.2.dm=false->∃o,h.get p.2.1=some o/\o.dm=false/\o.own=true:=fun p hp e=>by
  obtain⟨o,g1,⟨g2,_⟩|⟨k,v,_,g2⟩⟩:=V.is p hp
  ·exact⟨o,g1,(ab.uK g2).2,g2⟩
  ·rw[g2] at e;cases e
 have rQ:∀p∈L,p.2.2.kK=true->∃k v,h.get p.2.1=some (.tok k v)/\p.2.2= .tok k v:=fun p hp e=>by
  obtain⟨o,g1,⟨_,g2,_⟩|⟨k,v,rfl,g2⟩⟩:=V.is p hp
  ·generalize p.2.2=q at e g2;cases q<;>first|(cases e;done)|cases g2
  ·exact⟨k,v,g1,g2⟩
 have ua:∀x,wH ρ cY L x->B.may x:=fun x hx=>by
  rcases hx with⟨p,hp,ho,N,e⟩|⟨p,hp,ho,e⟩
  ·obtain⟨o,g1,g2,_⟩:=tZ p hp ho;obtain⟨x1,N1,_,e1,_,_,e3⟩:=r.is p.2.1 o (V.nm p hp).2.2 g1;rw[e] at e1;cases e1;exact e3 g2
  ·obtain⟨k,v,g1,_⟩:=rQ p hp ho;obtain⟨_,_,_,_,_,f⟩:=t1 _ k v (V.nm p hp).2.2 g1;exact(f x e).2.1
 have BJ:cL B w w':=⟨q4.os,q4.tape,q4.output,q4.size,fun x hx hm=>q4.block x hx fun z=>by
  rcases z with z|z
  ·have z:w.heap.size<=x:=z;omega
  ·exact hm<|ua x z⟩
 have mN:∀x,x<w.heap.size->¬wH ρ cY L x->w'.heap[x]? =w.heap[x]? :=fun x hx hm=>q4.block x hx fun z=>by
  rcases z with z|z
  ·have z:w.heap.size<=x:=z;omega
  ·exact hm z
 have cs:∀m o,m<top->h'.get m=some o->(∃p∈L,p.2.1=m/\∃o1,h4.get p.1=some o1/\((o.own=true/\p.2.2.own=true/\∀N o',OR σ N o1 o'->OR (cI ρ σ) N o o')\/∃k v v0,o1= .tok k v/\o= .tok k v/\p.2.2= .tok k v0))\/((∀q∈L,q.2.1≠m)/\h.get m=some o):=fun m o hm ho=>by
  rcases hh m hm with⟨q,e1,e2⟩|⟨e1,e2⟩
  ·rw[ho] at e2;cases e2;exact .inl<|h2 m o e1
  ·exact .inr ⟨e1,by rw[←e2];exact ho⟩
 have dz:∀m o,m<top->h'.get m=some o->∃q,h.get m=some q/\(o.dm=false->q.dm=false):=fun m o hm ho=>by
  rcases cs m o hm ho with⟨p,hp,rfl,o1,g1,⟨y1,y2,_⟩|⟨k,v,v0,_,y1,_⟩⟩|⟨_,e⟩
  ·obtain⟨q,g1,g2,_⟩:=tZ p hp (ab.uK y2).2;exact⟨q,g1,fun _=>g2⟩
  ·obtain⟨q,g1,_⟩:=V.is p hp;exact⟨q,g1,fun z=>by rw[y1] at z;cases z⟩
  ·exact⟨o,e,id⟩
 have other:∀m o x M,m<top->(∀q∈L,q.2.1≠m)->h.get m=some o->ρ m=some (x,M)->¬wH ρ cY L x:=fun m o x M hm ct ho e=>by
  rintro (⟨p,hp,jc,N,e1⟩|⟨p,hp,jc,e1⟩)
  ·obtain⟨q,g1,g2,_⟩:=tZ p hp jc;exact ct p hp<|r.one p.2.1 m q o x N M (V.nm p hp).2.2 hm g1 ho (.inl g2) e1 e
  ·obtain⟨k,v,g1,_⟩:=rQ p hp jc;obtain⟨_,_,_,_,_,f⟩:=t1 _ k v (V.nm p hp).2.2 g1;obtain⟨⟨_,c1⟩,_,c3,_⟩:=f x e1;cases cz:o.dm with
   |false=>exact c3 m o M hm ho cz e
   |true=>
    by_cases hf:o.mL=true
    ·obtain⟨b',N',k1,k2⟩:=r.tk.1.2 m o hm ho hf;rw[e] at k1;cases k1;omega
    ·cases o<;>first|(cases cz;done)|(exact hf rfl)|skip
     rename_i k' wj;obtain⟨b',N',k1,_,k3,_⟩:=t1 m k' wj hm ho;rw[e] at k1;cases k1;exact t2 _ m x k v k' wj (V.nm p hp).2.2 hm g1 ho (ct p hp) e1 k3
 have si:∀x,jU ρ h x->jU (cI ρ σ) h' x:=fun x hn m o M hm ho cz e=>by obtain⟨q,g1,g2⟩:=dz m o hm ho;rw[cU m hm] at e;exact hn m q M hm g1 (g2 cz) e
 have zI:∀x,w.heap.size<=x->jU (cI ρ σ) h' x:=fun x hx m o M hm ho cz e=>by obtain⟨q,g1,_⟩:=dz m o hm ho;rw[cU m hm] at e;obtain⟨b1,N1,o1,e1,e2,_⟩:=r.is m q hm g1;rw[e] at e1;cases e1;have:=gS e2;omega
 have agU:∀p∈L,∀o,h.get p.2.1=some o->o.own=true\/o.kK=true:=fun p hp o ho=>by
  obtain⟨q,g1,⟨g2,_⟩|⟨k,v,g2,_⟩⟩:=V.is p hp
  ·rw[ho] at g1;cases g1;exact .inl g2
  ·rw[ho,g2] at g1;cases g1;exact .inr rfl
 have Wh:∀i,h.get i=some .ku->∀q∈L,q.2.1≠i:=fun i e q hq z=>by rcases agU q hq .ku (by rw[z];exact e) with y|y<;>cases y
 obtain⟨⟨_,_⟩,Hq,s1,s2⟩:=q3.tk;refine⟨⟨hl,fun k hk _=>cU k hk⟩,fun k x hk e=>by rw[gG k hk];exact e,⟨fun m o hm ho=>?_,fun m m2 o p x M M2 hm cS ho hp cV e1 e2=>?_,fun m i es ex left cur hm ho=>?_,fun x hx=>r.size x<|Nat.le_trans q4.size hx,fun i j m es ex left cur hI jr iR iU hi hj ho hp=>?_,fun j x sh e=>?_,?_⟩,BJ⟩
 ·rcases cs m o hm ho with⟨p,hp,rfl,o1,g1,⟨y1,y2,g2⟩|⟨k,v,v0,y1,y2,y3⟩⟩|⟨ct,e⟩
  ·obtain⟨b1,N1,o',e1,e2,e3,_⟩:=q3.is p.1 o1 (V.nm p hp).2.1 g1;rw[oQ p hp] at e1;exact⟨b1,N1,o',(cU _ hm).trans e1,e2,g2 _ _ e3,fun _=>ua b1<|.inl ⟨p,hp,(ab.uK y2).2,N1,e1⟩⟩
  ·obtain⟨b1,N1,o',e1,e2,e3,_⟩:=q3.is p.1 o1 (V.nm p hp).2.1 g1;rw[oQ p hp] at e1;rw[y2];exact⟨b1,N1,o',(cU _ hm).trans e1,e2,trivial,fun z=>by cases z⟩
  ·obtain⟨b1,N1,o1,e1,e2,e3,e4⟩:=r.is m o hm e;exact⟨b1,N1,o1,(cU m hm).trans e1,(mN b1 (gS e2)<|other m o b1 N1 hm ct e e1).trans e2,e3.mono hl,e4⟩
 ·rw[cU m hm] at e1;rw[cU m2 cS] at e2;obtain⟨o1,a1,a2⟩:=dz m o hm ho;obtain⟨o2,a3,a4⟩:=dz m2 p cS hp;exact r.one m m2 o1 o2 x M M2 hm cS a1 a3 (cV.imp a2 a4) e1 e2
 ·rcases cs m _ hm ho with⟨p,hp,_,_,_,⟨y1,_⟩|⟨k,v,v0,_,y2,_⟩⟩|⟨ct,e⟩
  ·cases y1
  ·cases y2
  ·obtain⟨hi,fC,b1,N1,bm,M,l,ay,seen,u1,u2,u3,u4,u5⟩:=r.iter m i es ex left cur hm e;have u:oH ρ w' m i es ex left cur:=⟨b1,N1,bm,M,l,ay,seen,u1,u2,(mN b1 (gS u3)<|other m _ b1 N1 hm ct e u1).trans u3,(mN bm (gS u4)<|other i _ bm M hi (Wh i fC) fC u2).trans u4,u5⟩;refine⟨hi,?_,u.mono hl⟩;rcases hh i hi with⟨q,f1,f2⟩|⟨_,f2⟩
   ·obtain⟨p,hp,f3,_⟩:=h2 i q f1;exact absurd f3<|Wh i fC p hp
   ·rw[f2];exact fC
 ·rcases cs i _ hi ho with⟨p,hp,_,_,_,⟨y1,_⟩|⟨k,v,v0,_,y2,_⟩⟩|⟨_,e⟩
  ·cases y1
  ·cases y2
  ·rcases cs j _ hj hp with⟨p,hp,_,_,_,⟨y1,_⟩|⟨k,v,v0,_,y2,_⟩⟩|⟨_,e'⟩
   ·cases y1
   ·cases y2
   ·exact r.lone i j m es ex left cur hI jr iR iU hi hj e e'
 ·rw[gG _<|fY _ _ _] at e;obtain⟨g0,l,c,e',fr,g1,g2,gn,g4⟩:=q3.fz j x sh e;have mJ:∀i y,l[i]? =some y->∃v,c[sh+i]? =some v/\VR (gi<|cI ρ σ) y v/\y.cf=true:=fun i y hy=>by
   obtain⟨v,k1,k2,k3⟩:=g4 i y hy;refine⟨v,k1,VR.mono (fun z u q=>?_) _ _ k2,k3⟩;unfold gi at q ⊢;split at q
   ·rename_i hk;rw[if_pos hk,gG z hk];exact q
   ·cases q
  by_cases q:ρ (hn j x sh)≠none
  ·obtain⟨z0,l',c',e2,jV,z1,z2,z3,_⟩:=r.fz j x sh q;exact⟨z0,l,c,e',fr,g1,g2,si x z3,mJ⟩
  ·rcases g0.resolve_left q with z|z
   ·have z:w.heap.size<=x:=z;exact⟨.inr<|r.size x z,l,c,e',fr,g1,g2,zI x z,mJ⟩
   ·refine⟨.inr<|ua x z,l,c,e',fr,g1,g2,?_,mJ⟩;rcases z with⟨p,hp,ho,N,e1⟩|⟨p,hp,ho,e1⟩
    ·obtain⟨o1,f1,f2⟩:=h3 p hp ho;exact absurd ((oQ p hp).trans e1)<|gn p.1 o1 N (V.nm p hp).2.1 f1 f2
    ·obtain⟨k,v,k1,_⟩:=rQ p hp ho;obtain⟨_,_,_,_,_,f⟩:=t1 _ k v (V.nm p hp).2.2 k1;exact si x (f x e1).2.2.1
 ·let H':Nat->Nat->Prop:=fun m x=>(∃p∈L,p.2.1=m/\Hq p.1 x)\/((∀p∈L,p.2.1≠m)/\cY m x);have EN:∀p∈L,H' p.2.1=Hq p.1:=fun p hp=>funext fun x=>propext ⟨fun z=>by
   rcases z with⟨q,hq,e1,e2⟩|⟨e1,_⟩
   ·rw[V.inj q hq p hp e1] at e2;exact e2
   ·exact absurd rfl<|e1 p hp,fun z=>.inl ⟨p,hp,rfl,z⟩⟩
  have EO:∀m,(∀p∈L,p.2.1≠m)->H' m=cY m:=fun m hm=>funext fun x=>propext ⟨fun z=>by
   rcases z with⟨q,hq,e1,_⟩|⟨_,z⟩
   ·exact absurd e1 (hm q hq)
   ·exact z,fun z=>.inr ⟨hm,z⟩⟩
  have Cm:∀p∈L,∀k v,h4.get p.1=some (.tok k v)->∀x,Hq p.1 x->x<w'.heap.size/\(w.heap.size<=x\/wH ρ cY L x)/\∀j sh,σ (hn j x sh)=none:=fun p hp k v hg x hx=>by obtain⟨_,_,_,_,_,f⟩:=s1 p.1 k v (V.nm p hp).2.1 hg;obtain⟨⟨c1,_⟩,c2,_,c4⟩:=f x hx;exact⟨c1,c2,c4⟩
  have Ke:∀m k v,m<top->h'.get m=some (.tok k v)->(∃p∈L,p.2.1=m/\h4.get p.1=some (.tok k v)/\∃v0,p.2.2= .tok k v0)\/((∀q∈L,q.2.1≠m)/\h.get m=some (.tok k v)):=fun m k v hm ho=>by
   rcases cs m _ hm ho with⟨p,hp,e0,o1,g1,⟨y1,_⟩|⟨k',v',v0,y1,y2,y3⟩⟩|z
   ·cases y1
   ·cases y2;exact .inl ⟨p,hp,e0,by rw[g1,y1],v0,y3⟩
   ·exact .inr z
  have sep:∀m k v,m<top->(∀q∈L,q.2.1≠m)->h.get m=some (.tok k v)->∀x,cY m x->(w.heap.size<=x\/wH ρ cY L x)->False:=fun m k1 v1 hm ct hg x hx z=>by
   obtain⟨_,_,_,_,_,f4⟩:=t1 m k1 v1 hm hg;rcases z with z|⟨p,hp,Cr,N,e1⟩|⟨p,hp,Cr,e1⟩
   ·have:=(f4 x hx).1.1;omega
   ·obtain⟨q,g1,g2,_⟩:=tZ p hp Cr;exact(f4 x hx).2.2.1 p.2.1 q N (V.nm p hp).2.2 g1 g2 e1
   ·obtain⟨k,v,g1,_⟩:=rQ p hp Cr;exact t2 _ m x k v k1 v1 (V.nm p hp).2.2 hm g1 hg (ct p hp) e1 hx
  refine⟨⟨Nat.le_trans r.tk.1.1 q4.size,fun m o hm ho hf=>?_⟩,H',fun m k1 v1 hm ho=>?_,fun m m2 x k1 v1 k2 v2 hm cS ho hp ct z1 z2=>?_⟩
  ·rcases cs m o hm ho with⟨p,hp,_,_,_,⟨y1,_⟩|⟨k,v,v0,_,y2,_⟩⟩|⟨_,e⟩
   ·cases o<;>first|(cases hf;done)|cases y1
   ·rw[y2] at hf;cases hf
   ·obtain⟨b1,N1,e1,e2⟩:=r.tk.1.2 m o hm e hf;exact⟨b1,N1,(cU m hm).trans e1,e2⟩
  ·rcases Ke m k1 v1 hm ho with⟨p,hp,rfl,hg,v0,X4⟩|⟨ct,hg⟩
   ·obtain⟨b1,N1,f1,f2,f3,f4⟩:=s1 p.1 k1 v1 (V.nm p hp).2.1 hg;have hpt:p.2.2.kK=true:=by rw[X4];rfl
    refine⟨b1,N1,(cU _ hm).trans<|(oQ p hp).symm.trans f1,?_,by rw[EN p hp];exact f3,fun x hx=>?_⟩
    ·rw[EN p hp];exact B.mono f2 (fun i y hi q=>by rw[gG i hi];exact q) fun _ _=>rfl
    ·rw[EN p hp] at hx;obtain⟨c1,c2,c4⟩:=Cm p hp k1 v1 hg x hx;obtain⟨⟨_,aiV⟩,_,c3,_⟩:=f4 x hx;refine⟨⟨c1,aiV⟩,?_,?_,fun j sh=>by rw[gG _<|fY _ _ _];exact c4 j sh⟩
     ·rcases c2 with y|y
      ·exact r.size x y
      ·exact ua x y
     ·rcases c2 with y|y
      ·exact zI x y
      ·rcases y with⟨p2,fK,QN,N2,e2⟩|⟨p2,fK,QN,e2⟩
       ·obtain⟨o1,k1',k2'⟩:=h3 p2 fK QN;exact absurd ((oQ p2 fK).trans e2)<|c3 p2.1 o1 N2 (V.nm p2 fK).2.1 k1' k2'
       ·obtain⟨k,v,g1,_⟩:=rQ p2 fK QN;obtain⟨_,_,_,_,_,f⟩:=t1 _ k v (V.nm p2 fK).2.2 g1;exact si x (f x e2).2.2.1
   ·obtain⟨b1,N1,f1,f2,f3,f4⟩:=t1 m k1 v1 hm hg;have W7:∀x,cY m x->¬wH ρ cY L x:=fun x hx z=>by
     rcases z with⟨p,hp,Cr,N,e1⟩|⟨p,hp,Cr,e1⟩
     ·obtain⟨q,g1,g2,_⟩:=tZ p hp Cr;exact(f4 x hx).2.2.1 p.2.1 q N (V.nm p hp).2.2 g1 g2 e1
     ·obtain⟨k,v,g1,_⟩:=rQ p hp Cr;exact t2 _ m x k v k1 v1 (V.nm p hp).2.2 hm g1 hg (ct p hp) e1 hx
    refine⟨b1,N1,(cU m hm).trans f1,?_,by rw[EO m ct];exact f3,fun x hx=>?_⟩
    ·rw[EO m ct];exact B.mono f2 (fun i y _ e=>hl _ _ e) fun x hx=>mN x (f4 x hx).1.1<|W7 x hx
    ·rw[EO m ct] at hx;obtain⟨⟨c1,cl⟩,c2,c3,c4⟩:=f4 x hx;refine⟨⟨Nat.lt_of_lt_of_le c1 q4.size,cl⟩,c2,si x c3,fun j sh=>Classical.byContradiction fun z=>?_⟩;rw[gG _<|fY _ _ _] at z;rcases(q3.fz j x sh z).1 with y|y
     ·exact y<|c4 j sh
     ·rcases y with y|y
      ·have y:w.heap.size<=x:=y;omega
      ·exact W7 x hx y
  ·rcases Ke m k1 v1 hm ho with⟨p1,jc,rfl,hg,v0,X4⟩|⟨Eg,hg⟩
   ·rw[EN p1 jc] at z1;obtain⟨c1,c2,_⟩:=Cm p1 jc k1 v1 hg x z1;rcases Ke m2 k2 v2 cS hp with⟨p2,fK,rfl,Cs,v02,aiW⟩|⟨KO,Cs⟩
    ·rw[EN p2 fK] at z2;exact s2 p1.1 p2.1 x k1 v1 k2 v2 (V.nm p1 jc).2.1 (V.nm p2 fK).2.1 hg Cs (fun q=>ct<|by rw[V.fn p1 jc p2 fK q]) z1 z2
    ·rw[EO m2 KO] at z2;exact sep m2 k2 v2 cS KO Cs x z2 c2
   ·rw[EO m Eg] at z1;rcases Ke m2 k2 v2 cS hp with⟨p2,fK,rfl,Cs,v02,aiW⟩|⟨KO,Cs⟩
    ·rw[EN p2 fK] at z2;exact sep m k1 v1 hm Eg hg x z1 (Cm p2 fK k2 v2 Cs x z2).2.1
    ·rw[EO m2 KO] at z2;exact t2 m m2 x k1 v1 k2 v2 hm cS hg Cs ct z1 z2
end Go.Rn
namespace Go.Rn
open Go.RowKit
variable {ρ σ:aw} {β:Type} {o:ab} {v:AV} {s1 s:AS} {o':Obj} {c:Prop} {N:Nat}
structure Cb where
 fn:FuncId
 nt:Nat
 ps:List Tmp
 a:Code
 b:Code
 s1:Nat
 s2:Nat
structure fx where
 ret:Bool
 v1:AV
 v2:AV
 bR:Option Code
noncomputable section
def zp:ab->Option AV
 | .cells 1 t z=>cellAt t z 0
 |_=>none
def eM(v:AV):ab:=.cells 1 (Tr.fill [v] 0 .nil) []
def agV(p:Option Code):LoopState:=match p with
 |none=>.ready
 |some _=>.done
def Cb.loop(K:Cb)(bR:Option Code)(c1 c2 df:Nat):ab:=.loop (agV bR) bR K.fn (aQ [(K.s1,.ptr<|some (c1,0)),(K.s2,.ptr<|some (c2,0))]) K.nt K.ps K.a K.b df
def DS(v:Option AV):Option Nat:=match v with
 |some (.ptr (some (c,0)))=>some c
 |_=>none
open Classical in
def lQ(c:Prop)(m:M β):M β:=aH (decide c) m
structure Wi where
 fn:FuncId
 t:Tr AV
 nt:Nat
 ps:List Tmp
 a:Code
 b:Code
 df:Nat
def Kf:ab->Option Wi
 | .loop .ready none fn t nt ps a b df=>some ⟨fn,t,nt,ps,a,b,df⟩
 |_=>none
def GZ(K:Cb)(val:AV->AV->AV->Option fx)(x:AV)(L:Nat):M AV:=
 (bq L).bind fun o=>aC (Kf o) fun q=>
 lQ (q.fn=K.fn/\q.nt=K.nt/\q.ps=K.ps/\q.a=K.a/\q.b=K.b) <|
 aC (DS<|q.t.get K.s1) fun c1=>aC (DS<|q.t.get K.s2) fun c2=>
 lQ (L≠q.df/\L≠c1/\L≠c2/\q.df≠c1/\q.df≠c2/\c1≠c2) <|
 (bq q.df).bind fun od=>lQ (od= .defs) <| (bq c1).bind fun o1=>(bq c2).bind fun o2=>
 aC (zp o1) fun v1=>aC (zp o2) fun v2=>aC (val x v1 v2) fun p=>
 lQ (v1.hi=true/\v2.hi=true/\p.v1.hi=true/\p.v2.hi=true/\p.v1.cf=true/\p.v2.cf=true/\v1.cf=true/\v2.cf=true) <|
 (bN L<|some<|K.loop p.bR c1 c2 q.df).bind fun _=>(bN q.df<|some .defs).bind fun _=>(bN c1<|some<|eM p.v1).bind fun _=>(bN c2<|some<|eM p.v2).bind fun _=>M.pure<|.bool p.ret
def qR(K:Cb)(val:AV->AV->AV->Option fx)(J:Nat)(ns:List Nat)(h0:Tr ab):aK->List AV->M AV:=fun _ args=>match args with
 |[x,.yield L]=>aH x.hi <| (fG J h0 ns).bind fun _=>GZ K val x L
 |_=>fail
end
open Classical in
theorem CP{m:M β}{b:β}(h:lQ c m s= .ok b s1):c/\m s= .ok b s1:=by unfold lQ at h;obtain⟨h1,h2⟩:=cZ h;exact⟨of_decide_eq_true h1,h2⟩
theorem C0{m:M β}(h:c):lQ c m=m:=by unfold lQ;simp only[h,decide_true];rfl
theorem YN.lQ{β:Type}{c:Prop}{m:M β}(h:YN m):YN<|lQ c m:=YN.aH fun _=>h
theorem YN.qR(K:Cb)(val:AV->AV->AV->Option fx)(J:Nat)(ns:List Nat)(h0:Tr ab)(YO:aK)(args:List AV):YN<|qR K val J ns h0 YO args:=by
 unfold Rn.qR;split
 ·refine YN.aH fun _=>YN.bind (YN.fG J h0 ns) fun _=>?_;unfold GZ;refine YN.bind (YN.bq _) fun o=>YN.aC fun q _=>YN.lQ <| YN.aC fun c1 _=>YN.aC fun c2 _=>YN.lQ <| YN.bind (YN.bq _) fun _=>YN.lQ <| YN.bind (YN.bq _) fun _=>YN.bind (YN.bq _) fun _=>YN.aC fun _ _=>YN.aC fun _ _=>YN.aC fun _ _=>YN.lQ <| YN.bind (YN.bN _ _) fun _=>YN.bind (YN.bN _ _) fun _=>YN.bind (YN.bN _ _) fun _=>YN.bind (YN.bN _ _) fun _=>YN.pure _
 ·exact YN.fail
theorem abd{q:Wi}(h:Kf o=some q):o= .loop .ready none q.fn q.t q.nt q.ps q.a q.b q.df:=by
 unfold Kf at h;split at h
 ·injection h with h;subst h;rfl
 ·cases h
theorem Tc{v:Option AV}{c:Nat}(h:DS v=some c):v=some (.ptr<|some (c,0)):=by
 unfold DS at h;split at h
 ·injection h with h;subst h;rfl
 ·cases h
theorem Fp(h:zp o=some v):∃t z,o= .cells 1 t z/\cellAt t z 0=some v:=by
 unfold zp at h;split at h
 ·exact⟨_,_,rfl,h⟩
 ·cases h
noncomputable def rR(K:Cb)(J:Nat)(P:Program)(rs:List ResultVar)(p:fx):=Fin P rs fun y s'=>y= .bool p.ret/\s'.h.get J=some (K.loop p.bR (J+2) (J+3)<|J+1)/\s'.h.get (J+1)=some .defs/\s'.h.get (J+2)=some (eM p.v1)/\s'.h.get (J+3)=some (eM p.v2)
noncomputable def JB(K:Cb)(J:Nat)(v1 v2:AV):List<|Nat×ab:=[(J,K.loop none (J+2) (J+3)<|J+1),(J+1,.defs),(J+2,eM v1),(J+3,eM v2)]
theorem FP(hb:zp o=some v)(hv:v.hi=true)(h1:v.cf=true)(hr:jl ρ σ)(h:OR ρ N o o'):OR σ N (eM v) o':=by
 obtain⟨t,z,rfl,hc⟩:=Fp hb;obtain⟨c,e,rfl,h2,h3,h4⟩:=h;obtain⟨x,v',a1,a2,a3,a4⟩:=h4 0 aj;rw[hc] at a1;cases a1;refine⟨c,e,rfl,h2,h3,fun i hi=>?_⟩;obtain rfl:i=0:=by omega
 exact⟨v,v',by rfl,h1,a3,AV.py hr hv a4⟩
theorem wM(v:AV):zp (eM v)=some v:=rfl
theorem N7{K:Cb}{st:LoopState}{bR:Option Code}{t:Tr AV}{c1 c2 df d1 d2 dg:Nat}(ht1:K.s1<top)(EC:K.s2<top)(h1:t.get K.s1=some (.ptr<|some (c1,0)))(h2:t.get K.s2=some (.ptr<|some (c2,0)))(e1:∀x,ρ c1=some x->σ d1=some x)(e2:∀x,ρ c2=some x->σ d2=some x)(e3:∀x,ρ df=some x->σ dg=some x)(h:OR ρ N (.loop st bR K.fn t K.nt K.ps K.a K.b df) o'):OR σ N (.loop st bR K.fn (aQ [(K.s1,.ptr<|some (d1,0)),(K.s2,.ptr<|some (d2,0))]) K.nt K.ps K.a K.b dg) o':=by
 obtain⟨a,b,M,rfl,h3,h4,h5,h6⟩:=h;refine⟨a,b,M,rfl,⟨h3.1,fun i x hx=>?_⟩,h4,e3 _ h5,h6⟩;have hm:=FE (fun p hp=>by
  rcases List.mem_cons.1 hp with rfl|hp
  ·exact ht1
  ·rcases List.mem_cons.1 hp with rfl|hp
   ·exact EC
   ·cases hp) hx
 rcases List.mem_cons.1 hm with hm|hm
 ·cases hm;have:=h3.2 _ _ h1;simp only[VR] at this ⊢;obtain⟨b',N',q1,q2⟩:=this;exact⟨b',N',e1 _ q1,q2⟩
 ·rcases List.mem_cons.1 hm with hm|hm
  ·cases hm;have:=h3.2 _ _ h2;simp only[VR] at this ⊢;obtain⟨b',N',q1,q2⟩:=this;exact⟨b',N',e2 _ q1,q2⟩
  ·cases hm
theorem adM{P:Program}{B:aL}{f J:Nat}{ns:List Nat}{h0:Tr ab}{kn:List<|Nat×Option ab}{K:Cb}{val:AV->AV->AV->Option fx}{fn:Func}{body:Code}{w:World}(hP:bE P)(cq:P.funcs[f]? =some fn)(cx:fn.body=some body)(dL:(fn.name == "runtime.NumGoroutine")=false)(fV:fM<=J)(dO:J+4<=top)(ja:K.s1<top)(iK:K.s2<top)(mP:K.s1≠K.s2)(dM:∀n o,n<top->h0.get n=some o->n∈ns)(eA:∀n∈ns,n<J)(jv:∀n o,(n,some o)∈kn->h0.get n=some o)(jw:∀p∈kn,p.1<top)(eQ:∀x v1 v2 p,val x v1 v2=some p->max fn.ntmps 2<=top/\∀B':aL,B'.F=B.F->B'.inv=B.inv->
 au P B' (J+4) (rR K J P fn.results.toList p) ⟨f,ep [x,.yield J],max fn.ntmps 2,[.code body],[],none⟩ ⟨gd<|kn++bx (JB K J v1 v2),J+4,0,[],[]⟩){YO:aK}{args:List AV}{x:AV}{vs:Array Value}(r:Rel B ρ s.h w)(hg:gb ρ)(h:qR K val J ns h0 YO args s= .ok x s1)(hv:aA ρ args vs.toList):jk P ((callFunc f vs).run P w)<|j8 B ρ s s1 w x:=by
 unfold qR at h;split at h
 ·rename_i x0 L;obtain⟨gG,h1⟩:=cZ h;obtain⟨u,s2,h2,h3⟩:=M.aR h1;obtain⟨a1,a2,a3⟩:=uG h2;unfold GZ at h3;obtain⟨o,s3,k1,h3⟩:=M.aR h3;obtain⟨q,hq,h3⟩:=bu h3;obtain⟨⟨f1,f2,f3,f4,f5⟩,h3⟩:=CP h3;obtain⟨c1,jJ,h3⟩:=bu h3;obtain⟨c2,wg,h3⟩:=bu h3;obtain⟨⟨n1,n2,n3,n4,n5,n6⟩,h3⟩:=CP h3;obtain⟨od,s4,k2,h3⟩:=M.aR h3;obtain⟨hod,h3⟩:=CP h3;obtain⟨o1,s5,k3,h3⟩:=M.aR h3;obtain⟨o2,s6,k4,h3⟩:=M.aR h3;obtain⟨v1,Ln,h3⟩:=bu h3;obtain⟨v2,wc,h3⟩:=bu h3;obtain⟨p,hp,h3⟩:=bu h3;obtain⟨⟨g1,g2,g3,g4,g5,g6,g7,g8⟩,h3⟩:=CP h3;obtain⟨u1,t1,w1,h3⟩:=M.aR h3;obtain⟨u2,t2,w2,h3⟩:=M.aR h3;obtain⟨u3,t3,w3,h3⟩:=M.aR h3;obtain⟨u4,t4,w4,h3⟩:=M.aR h3;obtain⟨rfl,rfl⟩:=bK h3;obtain⟨r1,r2,r3,r4⟩:=fX k1;obtain⟨r5,r6,r7,r8⟩:=fX k2;obtain⟨r9,X5,X6,r12⟩:=fX k3;obtain⟨r13,X7,r15,r16⟩:=fX k4;obtain⟨x1,x2,_,x4,x5⟩:=kr w1;obtain⟨y1,y2,_,y4,y5⟩:=kr w2;obtain⟨z1,z2,_,z4,z5⟩:=kr w3;obtain⟨m1,m2,_,m4,m5⟩:=kr w4;have X8:=abd hq;have p1:=Tc jJ;have p2:=Tc wg;obtain⟨qfn,qt,qnt,qps,qa,qb,df⟩:=q;simp only at f1 f2 f3 f4 f5 n1 n2 n3 n4 n5 n6 X8 p1 p2 jJ wg k2 k3 k4 w1 w2 w3 w4 y1 y2 y4 r5 r6 r7 r8 x4 hq;subst f1;subst f2;subst f3;subst f4;subst f5;subst hod;rw[X8,a1] at r2;rw[r3,a1] at r6;rw[r7,r3,a1] at X5;rw[X6,r7,r3,a1] at X7;obtain⟨tz1,zz1,bo1,_⟩:=Fp Ln;obtain⟨tz2,zz2,bo2,_⟩:=Fp wc;let V:Vw:=[(J,L,K.loop none (J+2) (J+3)<|J+1),(J+1,df,.defs),(J+2,c1,eM v1),(J+3,c2,eM v2)];have mem:∀q∈V,q=(J,L,K.loop none (J+2) (J+3)<|J+1)\/q=(J+1,df,.defs)\/q=(J+2,c1,eM v1)\/q=(J+3,c2,eM v2):=fun q hq=>by simpa[V] using hq
  have e0:∀gF:aw,eU J gF V J=gF L:=fun gF=>by
   unfold eU;rw[if_neg aj,if_neg aj];show(match gK V J with|some n=>gF n|none=>none)=_;have:gK V J=some L:=by simp[gK,V]
   rw[this]
  have e1:∀gF:aw,eU J gF V (J+1)=gF df:=fun gF=>by
   unfold eU;rw[if_neg aj,if_neg aj];show(match gK V (J+1) with|some n=>gF n|none=>none)=_;have:gK V (J+1)=some df:=by simp[gK,V]
   rw[this]
  have e2:∀gF:aw,eU J gF V (J+2)=gF c1:=fun gF=>by
   unfold eU;rw[if_neg aj,if_neg aj];show(match gK V (J+2) with|some n=>gF n|none=>none)=_;have:gK V (J+2)=some c1:=by simp[gK,V]
   rw[this]
  have e3:∀gF:aw,eU J gF V (J+3)=gF c2:=fun gF=>by
   unfold eU;rw[if_neg aj,if_neg aj];show(match gK V (J+3) with|some n=>gF n|none=>none)=_;have:gK V (J+3)=some c2:=by simp[gK,V]
   rw[this]
  have hi:jl ρ<|eU J ρ V:=fun m x hm e=>by rw[yR aj hm];exact e
  have hV:Ac J ρ s.h V:=by
   refine⟨fun q hq=>?_,fun q hq q' dU e=>?_,fun q hq q' dU e=>?_,fun q hq=>?_⟩
   ·rcases mem q hq with rfl|rfl|rfl|rfl
    ·exact⟨Nat.le_refl _,by omega,x2⟩
    ·exact⟨by omega,by omega,y2⟩
    ·exact⟨by omega,by omega,z2⟩
    ·exact⟨by omega,by omega,m2⟩
   ·rcases mem q hq with rfl|rfl|rfl|rfl<;>rcases mem q' dU with rfl|rfl|rfl|rfl<;>first|rfl|(simp only at e;omega)
   ·rcases mem q hq with rfl|rfl|rfl|rfl<;>rcases mem q' dU with rfl|rfl|rfl|rfl<;>first|rfl|(simp only at e;omega)
   ·rcases mem q hq with rfl|rfl|rfl|rfl
    ·exact⟨_,r2,.inl ⟨rfl,rfl,fun N o' hO=>N7 ja iK p1 p2 (fun x e=>by rw[e2];exact e) (fun x e=>by rw[e3];exact e) (fun x e=>by rw[e1];exact e) hO⟩⟩
    ·exact⟨_,r6,.inl ⟨rfl,rfl,fun N o' hO=>hO⟩⟩
    ·exact⟨_,X5,.inl ⟨by rw[bo1];rfl,rfl,fun N o' hO=>FP Ln g1 g7 hi hO⟩⟩
    ·exact⟨_,X7,.inl ⟨by rw[bo2];rfl,rfl,fun N o' hO=>FP wc g2 g8 hi hO⟩⟩
  obtain⟨_,cY,T⟩:=r.tk;have T:Ef B ρ s.h w cY:=T;have nK:=Kd aj r T dM eA jv jw (fun n hn=>by obtain⟨_,o,p,h⟩:=a3 n hn;exact⟨o,p,h⟩) hV;obtain⟨d1,d2⟩:=eQ _ _ _ _ hp;have fi:bD (⟨gd<|kn++bx (JB K J v1 v2),J+4,0,[],[]⟩:AS):=⟨Nat.zero_le _,dO⟩;have kh:aA (eU J ρ V) [x0,.yield J] vs.toList:=by simp only[aA,VR] at hv ⊢;obtain⟨y0,ys,q1,q2,y3,ED,q3,⟨b',N',q4,q5⟩,q6⟩:=hv;exact⟨y0,ys,q1,AV.py hi gG q2,y3,ED,q3,⟨b',N',(e0 ρ).trans q4,q5⟩,q6⟩
  have bI:=au.F4 (B:=tN B ρ w<|wH ρ cY V) (s:=⟨gd<|kn++bx (JB K J v1 v2),J+4,0,[],[]⟩) (args:=[x0,.yield J]) (vs:=vs) hP cq cx d1 (d2 _ rfl rfl) fi nK (fun g iA=>by
   obtain⟨N,e⟩:=hg g iA;exact⟨N,by rw[C9<|Nat.lt_of_lt_of_le iA fV];exact e⟩) (fun m hm jW=>by
   have hm:J+4<=m:=hm;exact It aj jW fun q hq=>by rcases mem q hq with rfl|rfl|rfl|rfl<;>(show _≠m;simp only;omega)) kh
  rw[uH cq cx dL];show Calls P f vs w _;refine bI.mono fun e w'=>?_;rintro ⟨Ct,x',s7,rfl,⟨rfl,j1,j2,j3,j4⟩,_,σ,i0,Cu,i1,i2,i3⟩;have sV:∀q∈V,σ q.1=ρ q.2.1:=fun q hq=>by
   rcases mem q hq with rfl|rfl|rfl|rfl
   ·exact(i0 J aj aj).trans<|e0 ρ
   ·exact(i0 (J+1) aj aj).trans<|e1 ρ
   ·exact(i0 (J+2) aj aj).trans<|e2 ρ
   ·exact(i0 (J+3) aj aj).trans<|e3 ρ
  have qS:jl σ<|cI ρ σ:=fun k x hk e=>by unfold cI;rw[if_pos hk];exact e
  have P1:∀k,k<top->cI ρ σ k=ρ k:=fun k hk=>by unfold cI;rw[if_neg aj]
  have V0:(J,L,K.loop none (J+2) (J+3)<|J+1)∈V:=by simp[V]
  have V1:(J+1,df,ab.defs)∈V:=by simp[V]
  have V2:(J+2,c1,eM v1)∈V:=by simp[V]
  have V3:(J+3,c2,eM v2)∈V:=by simp[V]
  have EP:σ (J+1)=ρ df:=sV _ V1;have s2':σ (J+2)=ρ c1:=sV _ V2;have s3':σ (J+3)=ρ c2:=sV _ V3;have gt:∀(k c d:Nat),(aQ [(K.s1,AV.ptr<|some (c,0)),(K.s2,.ptr<|some (d,0))]).get K.s1=some (.ptr<|some (c,0))/\(aQ [(K.s1,AV.ptr<|some (c,0)),(K.s2,.ptr<|some (d,0))]).get K.s2=some (.ptr<|some (d,0)):=fun k c d=>by
   constructor
   ·show(((Tr.nil:Tr AV).put K.s2 _).put K.s1 _).get K.s1=_;rw[Tr.lM _ _ _ _ ja,if_pos rfl]
   ·show(((Tr.nil:Tr AV).put K.s2 _).put K.s1 _).get K.s2=_;rw[Tr.lM _ _ _ _ ja,if_neg fun e=>mP e.symm,Tr.lM _ _ _ _ iK,if_pos rfl]
  obtain⟨b1,b2,b3,b4⟩:=JA (a:=s.nx) (L2:=[(L,K.loop p.bR c1 c2 df),(df,.defs),(c1,eM p.v1),(c2,eM p.v2)]) (h':=s1.h) r T hV i2 i3 sV (fun m z hm q=>Cu m z hm<|hi m z hm q) (fun n q hm=>by
   rcases List.mem_cons.1 hm with hm|hm
   ·cases hm;exact⟨_,V0,rfl,_,j1,.inl ⟨rfl,rfl,fun N o' hO=>N7 ja iK (gt 0 _ _).1 (gt 0 _ _).2 (fun x e=>by rw[P1 c1 z2, ←s2'];exact e) (fun x e=>by rw[P1 c2 m2, ←s3'];exact e) (fun x e=>by rw[P1 df y2, ←EP];exact e) hO⟩⟩
   rcases List.mem_cons.1 hm with hm|hm
   ·cases hm;exact⟨_,V1,rfl,_,j2,.inl ⟨rfl,rfl,fun N o' hO=>hO⟩⟩
   rcases List.mem_cons.1 hm with hm|hm
   ·cases hm;exact⟨_,V2,rfl,_,j3,.inl ⟨rfl,rfl,fun N o' hO=>FP (wM _) g3 g5 qS hO⟩⟩
   rcases List.mem_cons.1 hm with hm|hm
   ·cases hm;exact⟨_,V3,rfl,_,j4,.inl ⟨rfl,rfl,fun N o' hO=>FP (wM _) g4 g6 qS hO⟩⟩
   cases hm) (fun q hq _=>by
   rcases mem q hq with rfl|rfl|rfl|rfl
   ·exact⟨_,j1,rfl⟩
   ·exact⟨_,j2,rfl⟩
   ·exact⟨_,j3,rfl⟩
   ·exact⟨_,j4,rfl⟩) (fun k hk=>by
   have Hy:s1.h=(((s.h.put L<|some<|K.loop p.bR c1 c2 df).put df<|some .defs).put c1<|some<|eM p.v1).put c2 (some<|eM p.v2):=by rw[m4,z4,y4,x4,r15,X6,r7,r3,a1]
   rw[Hy,Tr.du _ _ _ _ m2 hk,Tr.du _ _ _ _ z2 hk,Tr.du _ _ _ _ y2 hk,Tr.du _ _ _ _ x2 hk];by_cases q4:k=c2
   ·subst q4;exact .inl ⟨_,by simp,if_pos rfl⟩
   rw[if_neg q4];by_cases q3:k=c1
   ·subst q3;exact .inl ⟨_,by simp,if_pos rfl⟩
   rw[if_neg q3];by_cases q2:k=df
   ·subst q2;exact .inl ⟨_,by simp,if_pos rfl⟩
   rw[if_neg q2];by_cases q1:k=L
   ·subst q1;exact .inl ⟨_,by simp,if_pos rfl⟩
   rw[if_neg q1];exact .inr ⟨fun q hq=>by rcases mem q hq with rfl|rfl|rfl|rfl<;>(intro e;exact absurd e.symm<|by assumption),rfl⟩)
  refine⟨Ct,rfl,cI ρ σ,?_,AV.py qS rfl i1,b3,b4⟩;have cQ:s1.nx=s.nx:=by rw[m5,z5,y5,x5,r16,r12,r8,r4,a2]
  rw[cQ];exact b1
 ·cases h
end Go.Rn
namespace Go.Rn
open Go.RowKit
variable {r:Nat->Nat} {n J g df c2 c1:Nat} {s:AS} {K:Cb} {ns:List Nat} {h0:Tr ab} {P:Program}
theorem agW(h:s.mark=0):aZ n s=s:=by obtain⟨hh,nx,mark,rd,wr⟩:=s;have h:mark=0:=h;subst h;rfl
theorem TZ{J:Nat}{h0:Tr ab}:∀{ns:List Nat} {s s1:AS} {u:Unit},s.mark=0->fG J h0 ns s= .ok u s1->s1=s
 |[],s,s1,u,_,h=>(bK (show M.pure () s= .ok u s1 from h)).2
 |m::ns,s,s1,u,hm,h=>by obtain⟨o,s2,h1,h2⟩:=M.aR (show((bq m).bind fun o=>aC (h0.get m) fun p=>aH (oz J o p) <| fG J h0 ns) s= .ok u s1 from h);obtain⟨a1,a2,rfl⟩:=IW h1;rw[if_neg aj] at h2;obtain⟨p,_,h3⟩:=bu h2;obtain⟨_,h4⟩:=cZ h3;exact TZ hm h4
theorem Kg{o:Option ab}{p:ab}(hm:s.mark=0)(h1:n<s.nx)(h2:n<top)(h3:s.h.get n=some p)(h4:p.dm=false):bN n o s= .ok () ⟨s.h.put n o,s.nx,s.mark,s.rd,s.wr⟩:=by rw[Ov h1 h2 h3 h4,if_neg aj]
structure KP (K:Cb) (s:AS) (L df c1 c2:Nat) (v1 v2:AV):Prop where
 mark:s.mark=0
 nx:s.nx<=top
 lt:L<s.nx/\df<s.nx/\c1<s.nx/\c2<s.nx
 ne:L≠df/\L≠c1/\L≠c2/\df≠c1/\df≠c2/\c1≠c2
 loop:∃t,s.h.get L=some (.loop .ready none K.fn t K.nt K.ps K.a K.b df)/\t.get K.s1=some (.ptr<|some (c1,0))/\t.get K.s2=some (.ptr<|some (c2,0))
 df:s.h.get df=some .defs
 b1:∃o,s.h.get c1=some o/\zp o=some v1
 b2:∃o,s.h.get c2=some o/\zp o=some v2
def okB(v:AV):Prop:=v.hi=true/\v.cf=true
noncomputable def Lo(K:Cb)(s:AS)(L df c1 c2:Nat)(p:fx):AS:=⟨(((s.h.put L<|some<|K.loop p.bR c1 c2 df).put df<|some .defs).put c1<|some<|eM p.v1).put c2<|some<|eM p.v2,s.nx,s.mark,s.rd,s.wr⟩
theorem N8{F:Nat->Option (List AV)}{sp:Sp}{val:AV->AV->AV->Option fx}(h:sp g=some (qR K val J ns h0)){x v1 v2:AV}{L:Nat}{p:fx}(hx:x.hi=true)(hk:qG J h0 ns s=true)(I:KP K s L df c1 c2 v1 v2)(hv:val x v1 v2=some p)(o1:okB v1)(o2:okB v2)(o3:okB p.v1)(o4:okB p.v2):
 bh P sp F (n+1) (.fn g) [x,.yield L] s= .ok (.bool p.ret) (Lo K s L df c1 c2 p):=by
 show ki P sp g (bh P sp F n) [x,.yield L] s=_;rw[uZ h];show(aH x.hi <| (fG J h0 ns).bind fun _=>GZ K val x L) s=_;have hc:=xm hk;rw[TZ I.mark hc] at hc;rw[hx,dC,M.bQ hc];obtain⟨t,l1,l2,l3⟩:=I.loop;obtain⟨q1,q2,q3⟩:=I.b1;obtain⟨r1,r2,r3⟩:=I.b2;obtain⟨n1,n2,n3,n4,n5,n6⟩:=I.ne;obtain⟨t1,t2,t3,t4⟩:=I.lt;have rd:∀(m:Nat) (o:ab),m<s.nx->s.h.get m=some o->bq m s= .ok o s:=fun m o hm ho=>by have:=md ((blt_eq _ _).mpr hm) ho;rw[agW I.mark] at this;exact this
 have tt:=I.nx;obtain⟨tz1,zz1,e1,_⟩:=Fp q3;obtain⟨tz2,zz2,e2,_⟩:=Fp r3;unfold GZ;rw[M.bQ<|rd _ _ t1 l1];rw[show Kf (.loop .ready none K.fn t K.nt K.ps K.a K.b df)=some ⟨K.fn,t,K.nt,K.ps,K.a,K.b,df⟩ from rfl,ch];rw[C0 (show K.fn=K.fn/\K.nt=K.nt/\K.ps=K.ps/\K.a=K.a/\K.b=K.b from⟨rfl,rfl,rfl,rfl,rfl⟩)];simp only;rw[l2,l3,show DS (some<|.ptr<|some (c1,0))=some c1 from rfl,show DS (some<|.ptr<|some (c2,0))=some c2 from rfl,ch,ch,C0 ⟨n1,n2,n3,n4,n5,n6⟩,M.bQ<|rd _ _ t2 I.df,C0 rfl,M.bQ<|rd _ _ t3 q2,M.bQ<|rd _ _ t4 r2,q3,r3,ch,ch,hv,ch,C0 ⟨o1.1,o2.1,o3.1,o4.1,o3.2,o4.2,o1.2,o2.2⟩];have g1:∀(h:Tr ab) (m k:Nat) (o:Option ab) (p:ab),m<top->k<top->m≠k->h.get k=some p->(h.put m o).get k=some p:=fun h m k o p hm hk ct e=>by rw[Tr.du _ _ _ _ hm hk,if_neg<|Ne.symm ct];exact e
 rw[M.bQ<|Kg I.mark t1 aj l1 rfl];rw[M.bQ<|Kg (s:=⟨s.h.put L<|some<|K.loop p.bR c1 c2 df,s.nx,s.mark,s.rd,s.wr⟩) I.mark t2 aj (g1 _ _ _ _ _ aj aj n1 I.df) rfl];rw[M.bQ<|Kg (s:=⟨(s.h.put L<|some<|K.loop p.bR c1 c2 df).put df<|some .defs,s.nx,s.mark,s.rd,s.wr⟩) I.mark t3 aj (g1 _ _ _ _ _ aj aj n4<|g1 _ _ _ _ _ aj aj n2 q2) (by rw[e1];rfl)];rw[M.bQ<|Kg (s:=⟨((s.h.put L<|some<|K.loop p.bR c1 c2 df).put df<|some .defs).put c1<|some<|eM p.v1,s.nx,s.mark,s.rd,s.wr⟩) I.mark t4 aj (g1 _ _ _ _ _ aj aj n6<|g1 _ _ _ _ _ aj aj n5<|g1 _ _ _ _ _ aj aj n3 r2) (by rw[e2];rfl)];rfl
theorem VF{X:TX}{kn:List<|Nat×Option ab}{L L':bV}{fn:Func}{body:Code}(hP:bE P)(fV:fM<=J)(dO:J+4<=top)(ja:K.s1<top)(iK:K.s2<top)(mP:K.s1≠K.s2)(dM:∀n o,n<top->h0.get n=some o->n∈ns)(eA:∀n∈ns,n<J)(jv:∀n o,(n,some o)∈kn->h0.get n=some o)(jw:∀p∈kn,p.1<top){val:AV->AV->AV->Option fx}(h:eC X J P<|dB J ns h0 L)(h':eC X J P<|dB J ns h0 L')(cq:P.funcs[g]? =some fn)(cx:fn.body=some body)(dL:(fn.name == "runtime.NumGoroutine")=false)(eQ:∀x v1 v2 p,val x v1 v2=some p->max fn.ntmps 2<=top/\∀B:aL,qH X P J ns h0 L' B->
 au P B (J+4) (rR K J P fn.results.toList p) ⟨g,ep [x,.yield J],max fn.ntmps 2,[.code body],[],none⟩ ⟨gd<|kn++bx (JB K J v1 v2),J+4,0,[],[]⟩):eC X J P<|dB J ns h0<|(g,.raw<|qR K val)::L:=by
 refine(show eC X J P (pI (dB J ns h0 L) g<|qR K val J ns h0) from h.mT (fun YO _ args=>YN.qR _ _ _ _ _ YO args) fun B hB hT YO hc hl args x s s1 ρ w vs fi r hg hf hm hv=>?_);refine adM hP cq cx dL fV dO ja iK mP dM eA jv jw (fun x v1 v2 p e=>?_) r hg hm hv;obtain⟨q1,q2⟩:=eQ x v1 v2 p e;exact⟨q1,fun B' lH lI=>q2 B'<|rO hP h' (lH.trans hB)<|lI.trans hT⟩
theorem acq{p:Option Code}(ja:K.s1<top)(iK:K.s2<top)(mP:K.s1≠K.s2)(e1:r c1=c1)(e2:r c2=c2)(e3:r df=df):mu r (K.loop p c1 c2 df)<|K.loop p c1 c2 df:=by
 intro ρ N o h;have gt:(aQ [(K.s1,AV.ptr<|some (c1,0)),(K.s2,.ptr<|some (c2,0))]).get K.s1=some (.ptr<|some (c1,0))/\(aQ [(K.s1,AV.ptr<|some (c1,0)),(K.s2,.ptr<|some (c2,0))]).get K.s2=some (.ptr<|some (c2,0)):=by
  constructor
  ·show(((Tr.nil:Tr AV).put K.s2 _).put K.s1 _).get K.s1=_;rw[Tr.lM _ _ _ _ ja,if_pos rfl]
  ·show(((Tr.nil:Tr AV).put K.s2 _).put K.s1 _).get K.s2=_;rw[Tr.lM _ _ _ _ ja,if_neg fun e=>mP e.symm,Tr.lM _ _ _ _ iK,if_pos rfl]
 exact N7 ja iK gt.1 gt.2 (fun x e=>by rw[e1];exact e) (fun x e=>by rw[e2];exact e) (fun x e=>by rw[e3];exact e) h
theorem UN{v:AV}(h:okB v)(hr:∀k,top<=k->r k=k):mu r (eM v)<|eM v:=by intro ρ N o k;exact FP (wM v) h.1 h.2 (fun m x hm e=>by rw[hr m hm];exact e) k
theorem bw.yield(e:r n=n):bw r (.yield n)<|.yield n:=by intro ρ v h;simp only[VR] at h ⊢;obtain⟨b,N,h1,h2⟩:=h;exact⟨b,N,by rw[e];exact h1,h2⟩
theorem acr:mu r .defs .defs:=fun ρ N o k=>k
end Go.Rn
