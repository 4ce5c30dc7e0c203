import Derived.Test.YtphenfaomchomaaGreatDoorRnGF
set_option maxRecDepth 100000
set_option maxHeartbeats 8000000
set_option linter.unusedSimpArgs false
set_option linter.unusedVariables false
namespace Go.Rn
open Go.RowKit
noncomputable section
def yc(J:Nat)(ns:List Nat)(h0:Tr ae)(k:Nat)(val:AV->List AV->Option (AV×AV)):aJ->List AV->M AV:=fun _ args=>
 match args with
 | .ptr (some (n,0))::rest=>aF (rest.all AV.hi&&Nat.ble J n) <| (fI J h0 ns).bind fun _=>(bu n).bind fun o=>match o with
  | .tok k' v=>aF (Nat.beq k k') <| aA (val v rest) fun p=>aF p.1.hi <| (ll n<|some<|.tok k p.2).bind fun _=>M.pure p.1
  |_=>fail
 |_=>fail
end
theorem YQ.yc(J:Nat)(ns:List Nat)(h0:Tr ae)(k:Nat)(val:AV->List AV->Option (AV×AV))(YR:aJ)(args:List AV):YQ<|yc J ns h0 k val YR args:=by
 unfold Rn.yc;split
 ·refine YQ.aF fun _=>YQ.bind (YQ.fI J h0 ns) fun _=>YQ.bind (YQ.bu _) fun o=>?_;split
  ·exact YQ.aF fun _=>YQ.aA fun p _=>YQ.aF fun _=>YQ.bind (YQ.ll _ _) fun _=>YQ.pure _
  ·exact YQ.fail
 ·exact YQ.fail
def mq(J:Nat)(ρ loc:Ren):Ren:=fun m=>if m<J then ρ m else if top<=m then ρ m else loc m
def tE(B:aI)(ρ:Ren)(w:World)(H:Nat->Prop):aI:=⟨fun x=>w.heap.size<=x\/H x,B.F,fun m=>ρ m≠none,B.inv,B.lim,B.mono⟩
theorem agk{X:TX}{J k:Nat}{v:AV}{B:aI}{ρ:Ren}{w:World}{h h0:Tr ae}{ns:List Nat}{kn:List<|Nat×Option ae}{b:Nat}{H:Nat->Prop}(hX:yv X J)(hT:B.inv=nJ X J)(ht:J<=top)(r:Rel B ρ h w)(dL:∀n o,n<top->h0.get n=some o->n∈ns)(eC:∀n∈ns,n<J)(jt:∀n o,(n,some o)∈kn->h0.get n=some o)(jw:∀p∈kn,p.1<top)(a3:∀n∈ns,∃o p,h.get n=some o/\h0.get n=some p/\ou J o p=true)(hH:∀x,H x->(x<w.heap.size/\B.lim<=x)/\B.may x/\j8 ρ h x/\∀j sh,ρ (hn j x sh)=none)(I:nJ X J k v ρ w b H):
 ∃L loc N0,X k v L/\loc J=some (b,N0)/\(∀m y,loc m=some y->∃o,(m,o)∈L)/\Rel (tE B ρ w H) (mq J ρ loc) (fU<|kn++aY L) w:=by
 obtain⟨L,Gv,bl,H1,N0,hx,root,low,is,one,tok,JU,sub,own,apart⟩:=I;have r0:=Dy ht r dL eC a3;have nm:=hX.nm k v L hx;let loc:Ren:=fun m=>if m∈L.map (·.1) then Gv m else none
 have B7:∀m o,(m,o)∈L->m∈L.map (·.1):=fun m o hm=>List.mem_map.2 ⟨_,hm,rfl⟩;have WT:∀m,m∈L.map (·.1)->loc m=Gv m:=fun m hm=>if_pos hm;have agl:∀m,m ∉ L.map (·.1)->loc m=none:=fun m hm=>if_neg hm;have ge:∀m,m∈L.map (·.1)->J<=m/\m<top:=fun m hm=>by obtain⟨p,hp,rfl⟩:=List.mem_map.1 hm;exact⟨(nm p hp).1,(nm p hp).2.1⟩
 obtain⟨oR,hR⟩:=hX.root k v L hx;have tm:∀m,m∈L.map (·.1)->mq J ρ loc m=Gv m:=fun m hm=>by obtain⟨q1,q2⟩:=ge m hm;unfold mq;rw[if_neg aj,if_neg aj];exact WT m hm
 have tk:∀m,top<=m->mq J ρ loc m=ρ m:=fun m hm=>by unfold mq;rw[if_neg aj,if_pos hm]
 have tl:∀m,m<J->mq J ρ loc m=ρ m:=fun m hm=>by unfold mq;rw[if_pos hm]
 have uv:(gj J ρ).le<|mq J ρ loc:=by
  intro m x e;unfold gj at e;split at e
  ·rename_i q;rw[tl m q];exact e
  ·unfold gp at e;split at e
   ·rename_i q;rw[tk m q];exact e
   ·cases e
 have cO:∀p∈kn++aY L,p.1<top:=fun p hp=>by
  rcases List.mem_append.1 hp with hp|hp
  ·exact jw p hp
  ·exact MJ (fun q hq=>(nm q hq).2.1) p hp
 have mle:∀{N:Nat} {o:ae} {o':Obj},lA (L.map (·.1)) o->OR (yb Gv ρ) N o o'->OR (mq J ρ loc) N o o':=fun hf hO=>(hf _ _ _ hO).mono fun i y hi=>by
  have hi:(if top<=i\/i∈L.map (·.1) then yb Gv ρ i else none)=some y:=hi;split at hi
  ·rename_i q;unfold yb at hi;rcases q with q|q
   ·rw[if_pos q] at hi;rw[tk i q];exact hi
   ·rw[if_neg (by have:=(ge i q).2;omega)] at hi;rw[tm i q];exact hi
  ·cases hi
 have ar:∀m o,(fU<|kn++aY L).get m=some o->(m∈ns/\h0.get m=some o/\o.mL=true)\/(m,o)∈L:=fun m o hg=>by
  rcases List.mem_append.1 (uQ cO hg) with q|q
  ·have q2:=jt m o q;have ir:=dL m o (jw _ q) q2;obtain⟨p1,p2,_,c3,c4⟩:=a3 m ir;rw[q2] at c3;cases c3;refine .inl ⟨ir,q2,?_⟩;unfold ou at c4;split at c4<;>first|rfl|cases c4
  ·exact .inr<|MB q
 have B8:∀m N x,m∈ns->mq J ρ loc m=some (x,N)->x<B.lim:=fun m N x q1 e=>by rw[tl m<|eC m q1] at e;obtain⟨p1,p2,c2,c3,c4⟩:=a3 m q1;obtain⟨b',N',e1,e2⟩:=r.tk.1.2 m p1 (Nat.lt_of_lt_of_le (eC m q1) ht) c2<|HF c4;rw[e] at e1;cases e1;exact e2
 have Eo:∀m o N x,(m,o)∈L->mq J ρ loc m=some (x,N)->x=bl m/\H x:=fun m o N x hm e=>by rw[tm m<|B7 m o hm] at e;obtain⟨N',o',e1,_,_,e4⟩:=is m o hm;rw[e] at e1;cases e1;exact⟨rfl,e4⟩
 refine⟨L,loc,N0,hx,(WT _<|B7 _ _ hR).trans root,fun m y e=>?_,fun m o hm hg=>?_,fun m n o p x N M hm fw hg lk cS e1 e2=>?_,fun m i es ex left cur hm hg=>?_,fun x hx=>.inl hx,fun i j m es ex left cur gY iW iH iJ hi _ hg _=>?_,fun j x sh e=>?_,?_⟩
 ·by_cases q:m∈L.map (·.1)
  ·obtain⟨p,hp,rfl⟩:=List.mem_map.1 q;exact⟨p.2,hp⟩
  ·rw[agl m q] at e;cases e
 ·rcases ar m o hg with⟨q1,q3,q4⟩|q
  ·obtain⟨b',N',o',e1,e2,e3,_⟩:=r0.is m o hm q3;exact⟨b',N',o',uv _ _ e1,e2,e3.mono uv,fun z=>by rw[ae.ki q4] at z;cases z⟩
  ·obtain⟨N',o',e1,e2,e3,e4⟩:=is m o q;exact⟨bl m,N',o',(tm m<|B7 m o q).trans e1,e2,mle (nm _ q).2.2.2 e3,fun _=>.inr e4⟩
 ·rcases ar m o hg with⟨q1,q3,q4⟩|q
  ·rcases ar n p lk with⟨z1,z3,z4⟩|z
   ·rcases cS with y|y
    ·rw[ae.ki q4] at y;cases y
    ·rw[ae.ki z4] at y;cases y
   ·have y1:=B8 m N x q1 e1;have y2:=(hH x (Eo n p M x z e2).2).1.2;omega
  ·rcases ar n p lk with⟨z1,z3,z4⟩|z
   ·have y1:=B8 n M x z1 e2;have y2:=(hH x (Eo m o N x q e1).2).1.2;omega
   ·exact one m n o p q z<|(Eo m o N x q e1).1.symm.trans (Eo n p M x z e2).1
 ·rcases ar m _ hg with⟨_,_,q4⟩|q
  ·cases q4
  ·rcases(nm _ q).2.2.1 with y|y<;>cases y
 ·rcases ar i _ hg with⟨_,_,q4⟩|q
  ·cases q4
  ·rcases(nm _ q).2.2.1 with y|y<;>cases y
 ·rw[tk _<|gf _ _ _] at e;obtain⟨g0,l,c,e',fr,g1,g2,g3,g4⟩:=r0.fz j x sh (by rw[sR ht<|gf _ _ _];exact e);refine⟨.inl e,l,c,e',fr,g1,g2,fun m o N hm hg cr hr=>?_,fun i y hy=>?_⟩
  ·rcases ar m o hg with⟨_,_,q4⟩|q
   ·rw[ae.ki q4] at cr;cases cr
   ·exact e<|(hH x (Eo m o N x q hr).2).2.2.2 j sh
  ·obtain⟨v',k1,k2,k3⟩:=g4 i y hy;refine⟨v',k1,VR.mono (fun i z q=>?_) _ _ k2,k3⟩;unfold gp at q ⊢;split at q
   ·rename_i hk;rw[if_pos hk];exact uv _ _ q
   ·cases q
 ·refine⟨⟨r.tk.1.1,fun m o hm hg hf=>?_⟩,H1,fun m k' v' hm hg=>?_,fun m n x k' v' K8 wg hm fw hg lk ch iZ pW=>?_⟩
  ·rcases ar m o hg with⟨q1,q3,q4⟩|q
   ·obtain⟨b',N',o',e1,e2,e3,_⟩:=r0.is m o hm q3;exact⟨b',N',uv _ _ e1,B8 m N' b' q1<|uv _ _ e1⟩
   ·rcases(nm _ q).2.2.1 with y|y
    ·have:=(ae.uM y).2;rw[ae.ki hf] at this;cases this
    ·cases o<;>first|(cases y;done)|cases hf
  ·rcases ar m _ hg with⟨_,_,q4⟩|q
   ·cases q4
   ·obtain⟨N',o',e1,e2,e3,e4⟩:=is m _ q;refine⟨bl m,N',(tm m<|B7 m _ q).trans e1,?_,JU m k' v' q,fun x iZ=>?_⟩
    ·show B.inv k' v' (mq J ρ loc) w (bl m)<|H1 m;rw[hT];exact(tok m k' v' q).mono (fun i y hi e=>by rw[tk i hi];exact e) fun _ _=>rfl
    ·have pW:=sub m k' v' q x iZ;obtain⟨c1,c2,c3,c4⟩:=hH x pW;refine⟨c1,.inr pW,fun n o N fw lk cr hr=>?_,fun j sh=>by rw[tk _<|gf _ _ _];exact c4 j sh⟩;rcases ar n o lk with⟨_,_,q4⟩|z
     ·rw[ae.ki q4] at cr;cases cr
     ·refine own m k' v' n o q z ?_ (by rw[←(Eo n o N x z hr).1];exact iZ);cases o<;>first|rfl|cases cr
  ·rcases ar m _ hg with⟨_,_,q4⟩|q
   ·cases q4
   ·rcases ar n _ lk with⟨_,_,q4⟩|z
    ·cases q4
    ·exact apart m k' v' n K8 wg x q z ch iZ pW
end Go.Rn
namespace Go.Rn
open Go.RowKit
theorem ae3{X:TX}{J k n a:Nat}{v v':AV}{B:aI}{ρ σ:Ren}{w w':World}{h h4:Tr ae}{b N N0:Nat}{cW:Nat->Nat->Prop}{L':List<|Nat×ae}(hX:yv X J)(hT:B.inv=nJ X J)(oX:n<top)(hg:h.get n=some (.tok k v))(hr:ρ n=some (b,N))(r:Rel B ρ h w)(h1:∀n k v,n<top->h.get n=some (.tok k v)->∃b N,ρ n=some (b,N)/\B.inv k v ρ w b (cW n)/\cW n b/\∀x,cW n x->(x<w.heap.size/\B.lim<=x)/\B.may x/\j8 ρ h x/\∀j sh,ρ (hn j x sh)=none)(h2:∀n m x k v k' v',n<top->m<top->h.get n=some (.tok k v)->h.get m=some (.tok k' v')->n≠m->cW n x->¬cW m x)(q3:Rel (tE B ρ w<|cW n) σ h4 w')(q4:cx (tE B ρ w<|cW n) w w')(oH:σ J=some (b,N0))(yw:∀m x,top<=m->ρ m=some x->σ m=some x)(hx:X k v' L')(hL:∀m o,(m,o)∈L'->h4.get m=some o):
 Ext a a ρ (cF ρ σ)/\jl σ (cF ρ σ)/\Rel B (cF ρ σ) (h.put n<|some<|.tok k v') w'/\cx B w w':=by
 obtain⟨b0,M0,r1,_,alP,hH⟩:=h1 n k v oX hg;rw[hr] at r1;cases r1;have nm:=hX.nm k v' L' hx;have hl:ρ.le<|cF ρ σ:=by
  intro k x e;unfold cF;by_cases hk:top<=k
  ·rw[if_pos hk];exact yw k x hk e
  ·rw[if_neg hk];exact e
 have cO:∀k,k<top->cF ρ σ k=ρ k:=fun k hk=>by unfold cF;rw[if_neg aj]
 have gI:∀k,top<=k->cF ρ σ k=σ k:=fun k hk=>by unfold cF;rw[if_pos hk]
 have g:∀m,m<top->(h.put n<|some<|.tok k v').get m=if m=n then some (.tok k v') else h.get m:=fun m hm=>Tr.di _ _ _ _ oX hm
 have Bx:cx B w w':=⟨q4.os,q4.tape,q4.output,q4.size,fun x hx hm=>q4.block x hx fun z=>by
  rcases z with z|z
  ·have z:w.heap.size<=x:=z;omega
  ·exact hm (hH x z).2.1⟩
 have mM:∀x,x<w.heap.size->¬cW n x->w'.heap[x]? =w.heap[x]? :=fun x hx hm=>q4.block x hx fun z=>by
  rcases z with z|z
  ·have z:w.heap.size<=x:=z;omega
  ·exact hm z
 have other:∀m o x M,m<top->m≠n->h.get m=some o->ρ m=some (x,M)->¬cW n x:=fun m o x M hm ch ho e iZ=>by
  obtain⟨⟨_,c1⟩,_,c3,_⟩:=hH x iZ;cases cr:o.dk with
  |false=>exact c3 m o M hm ho cr e
  |true=>
   by_cases hf:o.mL=true
   ·obtain⟨b',N',e1,e2⟩:=r.tk.1.2 m o hm ho hf;rw[e] at e1;cases e1;omega
   ·cases o<;>first|(cases cr;done)|(exact hf rfl)|skip
    rename_i k' wg;obtain⟨b',N',e1,_,e3,_⟩:=h1 m k' wg hm ho;rw[e] at e1;cases e1;exact h2 n m x k v k' wg oX hm hg ho (Ne.symm ch) iZ e3
 have se:∀x,j8 ρ h x->j8 (cF ρ σ) (h.put n<|some<|.tok k v') x:=fun x hn m o M hm ho cr e=>by
  rw[g m hm] at ho;by_cases q:m=n
  ·rw[if_pos q] at ho;cases ho;cases cr
  ·rw[if_neg q] at ho;rw[cO m hm] at e;exact hn m o M hm ho cr e
 have zD:∀x,w.heap.size<=x->j8 (cF ρ σ) (h.put n<|some<|.tok k v') x:=fun x hx m o M hm ho cr e=>by
  rw[g m hm] at ho;by_cases q:m=n
  ·rw[if_pos q] at ho;cases ho;cases cr
  ·rw[if_neg q] at ho;rw[cO m hm] at e;obtain⟨b1,N1,o1,e1,e2,_⟩:=r.is m o hm ho;rw[e] at e1;cases e1;have:=ib e2;omega
 obtain⟨⟨_,_⟩,Hq,t1,t2⟩:=q3.tk;obtain⟨oR,hR⟩:=hX.root k v' L' hx;have fZ:∀m o,(m,o)∈L'->m<top:=fun m o hm=>(nm _ hm).2.1;have qN:∀m o,(m,o)∈L'->∃x M o',σ m=some (x,M)/\w'.heap[x]? =some o'/\OR σ M o o'/\(o.dk=false->w.heap.size<=x\/cW n x):=fun m o hm=>q3.is m o (fZ m o hm)<|hL m o hm;have kind:∀m o,(m,o)∈L'->o.dk=false\/∃k1 v1,o= .tok k1 v1:=fun m o hm=>by
  rcases(nm _ hm).2.2.1 with y|y
  ·exact .inl (ae.uM y).2
  ·cases o<;>first|exact .inr ⟨_,_,rfl⟩|cases y
 let Hn:Nat->Prop:=fun x=>(∃m o M,(m,o)∈L'/\o.dk=false/\σ m=some (x,M))\/∃m k1 v1,(m,ae.tok k1 v1)∈L'/\Hq m x;have F6:∀m o,(m,o)∈L'->∀x M,σ m=some (x,M)->Hn x:=fun m o hm x M e=>by
  rcases kind m o hm with q|⟨k1,v1,rfl⟩
  ·exact .inl ⟨m,o,M,hm,q,e⟩
  ·obtain⟨b1,N1,e1,_,e3,_⟩:=t1 m k1 v1 (fZ _ _ hm)<|hL _ _ hm;rw[e] at e1;cases e1;exact .inr ⟨m,k1,v1,hm,e3⟩
 have DS:∀x,Hn x->x<w'.heap.size/\(w.heap.size<=x\/cW n x)/\∀j sh,σ (hn j x sh)=none:=fun x hx=>by
  rcases hx with⟨m,o,M,hm,q,e⟩|⟨m,k1,v1,hm,q⟩
  ·obtain⟨x1,M1,o',e1,e2,_,e4⟩:=qN m o hm;rw[e] at e1;cases e1;refine⟨ib e2,e4 q,fun j sh=>Classical.byContradiction fun z=>?_⟩;obtain⟨_,_,_,_,_,_,_,z3,_⟩:=q3.fz j x sh z;exact z3 m o M (fZ m o hm) (hL m o hm) q e
  ·obtain⟨b1,N1,_,_,_,e4⟩:=t1 m k1 v1 (fZ _ _ hm)<|hL _ _ hm;obtain⟨⟨c1,_⟩,c2,_,c4⟩:=e4 x q;exact⟨c1,c2,c4⟩
 refine⟨⟨hl,fun k hk _=>cO k hk⟩,fun k x hk e=>by rw[gI k hk];exact e,⟨fun m o hm ho=>?_,fun m m2 o p x M M2 hm cQ ho hp cS e1 e2=>?_,fun m i es ex left cur hm ho=>?_,fun x hx=>r.size x<|Nat.le_trans q4.size hx,fun i j m es ex left cur gY iW iH iJ hi hj ho hp=>?_,fun j x sh e=>?_,?_⟩,Bx⟩
 ·rw[g m hm] at ho;by_cases q:m=n
  ·subst q;rw[if_pos rfl] at ho;cases ho;obtain⟨x,M,o',e1,e2,_,_⟩:=qN J oR hR;rw[oH] at e1;cases e1;exact⟨b,N,o',(cO m hm).trans hr,e2,trivial,fun z=>by cases z⟩
  ·rw[if_neg q] at ho;obtain⟨b1,N1,o1,e1,e2,e3,e4⟩:=r.is m o hm ho;exact⟨b1,N1,o1,(cO m hm).trans e1,(mM b1 (ib e2)<|other m o b1 N1 hm q ho e1).trans e2,e3.mono hl,e4⟩
 ·rw[cO m hm] at e1;rw[cO m2 cQ] at e2;rw[g m hm] at ho;rw[g m2 cQ] at hp;have dy:∀m o,(if m=n then some (ae.tok k v') else h.get m)=some o->∃q,h.get m=some q/\(o.dk=false->q.dk=false):=fun m o ho=>by
   by_cases q:m=n
   ·rw[if_pos q] at ho;cases ho;rw[q];exact⟨_,hg,fun z=>by cases z⟩
   ·rw[if_neg q] at ho;exact⟨o,ho,id⟩
  obtain⟨o1,a1,a2⟩:=dy m o ho;obtain⟨o2,a3,a4⟩:=dy m2 p hp;exact r.one m m2 o1 o2 x M M2 hm cQ a1 a3 (cS.imp a2 a4) e1 e2
 ·rw[g m hm] at ho;by_cases q:m=n
  ·rw[if_pos q] at ho;cases ho
  ·rw[if_neg q] at ho;obtain⟨hi,fu,b1,N1,bm,M,l,bq,seen,u1,u2,u3,u4,u5⟩:=r.iter m i es ex left cur hm ho;have ir:i≠n:=by intro e;subst e;rw[hg] at fu;cases fu
   have u:mV ρ w' m i es ex left cur:=⟨b1,N1,bm,M,l,bq,seen,u1,u2,(mM b1 (ib u3)<|other m _ b1 N1 hm q ho u1).trans u3,(mM bm (ib u4)<|other i _ bm M hi ir fu u2).trans u4,u5⟩;exact⟨hi,by rw[g i hi,if_neg ir];exact fu,u.mono hl⟩
 ·rw[g i hi] at ho;rw[g j hj] at hp;by_cases q:i=n
  ·rw[if_pos q] at ho;cases ho
  ·rw[if_neg q] at ho;by_cases q2:j=n
   ·rw[if_pos q2] at hp;cases hp
   ·rw[if_neg q2] at hp;exact r.lone i j m es ex left cur gY iW iH iJ hi hj ho hp
 ·rw[gI _<|gf _ _ _] at e;obtain⟨g0,l,c,e',fr,g1,g2,_,g4⟩:=q3.fz j x sh e;have mH:∀i y,l[i]? =some y->∃v,c[sh+i]? =some v/\VR (gp<|cF ρ σ) y v/\y.bR=true:=fun i y hy=>by
   obtain⟨v,k1,k2,k3⟩:=g4 i y hy;refine⟨v,k1,VR.mono (fun z u q=>?_) _ _ k2,k3⟩;unfold gp at q ⊢;split at q
   ·rename_i hk;rw[if_pos hk,gI z hk];exact q
   ·cases q
  by_cases q:ρ (hn j x sh)≠none
  ·obtain⟨z0,l',c',e2,kv,z1,z2,z3,_⟩:=r.fz j x sh q;exact⟨z0,l,c,e',fr,g1,g2,se x z3,mH⟩
  ·rcases g0.resolve_left q with z|z
   ·have z:w.heap.size<=x:=z;exact⟨.inr<|r.size x z,l,c,e',fr,g1,g2,zD x z,mH⟩
   ·exact⟨.inr (hH x z).2.1,l,c,e',fr,g1,g2,se x (hH x z).2.2.1,mH⟩
 ·let H':Nat->Nat->Prop:=fun m x=>if m=n then Hn x else cW m x
  have QJ:∀x,Hn x->H' n x:=fun x hx=>by show(if n=n then Hn x else _);rw[if_pos rfl];exact hx
  have hsn:∀x,H' n x->Hn x:=fun x hx=>by have hx:(if n=n then Hn x else cW n x):=hx;rw[if_pos rfl] at hx;exact hx
  have hso:∀m x,m≠n->H' m x->cW m x:=fun m x hm hx=>by have hx:(if m=n then Hn x else cW m x):=hx;rw[if_neg hm] at hx;exact hx
  have ahX:∀m x,m≠n->cW m x->H' m x:=fun m x hm hx=>by show(if m=n then Hn x else cW m x);rw[if_neg hm];exact hx
  have B9:H' n=Hn:=funext fun x=>propext ⟨hsn x,QJ x⟩;have yx:∀m,m≠n->H' m=cW m:=fun m hm=>funext fun x=>propext ⟨hso m x hm,ahX m x hm⟩;refine⟨⟨Nat.le_trans r.tk.1.1 q4.size,fun m o hm ho hf=>?_⟩,H',fun m k1 v1 hm ho=>?_,fun m m2 x k1 v1 k2 v2 hm cQ ho hp ch y1 y2=>?_⟩
  ·rw[g m hm] at ho;by_cases q:m=n
   ·rw[if_pos q] at ho;cases ho;cases hf
   ·rw[if_neg q] at ho;obtain⟨b1,N1,e1,e2⟩:=r.tk.1.2 m o hm ho hf;exact⟨b1,N1,(cO m hm).trans e1,e2⟩
  ·rw[g m hm] at ho;by_cases q:m=n
   ·subst q;rw[if_pos rfl] at ho;cases ho;rw[B9];refine⟨b,N,(cO m hm).trans hr,?_,F6 J oR hR b N0 oH,fun x hx=>?_⟩
    ·rw[hT];let bl:Nat->Nat:=fun m=>match σ m with|some (x,_)=>x|none=>0
     have nq:∀m x M,σ m=some (x,M)->bl m=x:=fun m x M e=>by show(match σ m with|some (x,_)=>x|none=>0)=x;rw[e]
     refine .mk L' (fun m=>if m∈L'.map (·.1) then σ m else none) bl Hq N0 hx ?_ (fun m hm=>?_) (fun m o hm=>?_) (fun m m2 o p hm cQ e=>?_) (fun m k1 v1 hm=>?_) (fun m k1 v1 hm=>?_) (fun m k1 v1 hm x hx=>.inr ⟨m,k1,v1,hm,hx⟩) (fun m k1 v1 m2 o hm cQ ho y=>?_) fun m k1 v1 m2 k2 v2 x hm cQ ch y1 y2=>t2 m m2 x k1 v1 k2 v2 (fZ _ _ hm) (fZ _ _ cQ) (hL _ _ hm) (hL _ _ cQ) ch y1 y2
     ·rw[if_pos<|List.mem_map.2 ⟨_,hR,rfl⟩];exact oH
     ·refine if_neg fun z=>?_;obtain⟨p,hp,rfl⟩:=List.mem_map.1 z;have:=(nm p hp).1;omega
     ·obtain⟨x,M,o',e1,e2,e3,_⟩:=qN m o hm;refine⟨M,o',?_,by rw[nq m x M e1];exact e2,?_,by rw[nq m x M e1];exact F6 m o hm x M e1⟩
      ·rw[if_pos<|List.mem_map.2 ⟨_,hm,rfl⟩,nq m x M e1];exact e1
      ·refine((nm _ hm).2.2.2 _ _ _ e3).mono fun i y hi=>?_;have hi:(if top<=i\/i∈L'.map (·.1) then σ i else none)=some y:=hi;unfold yb;split at hi
       ·rename_i q;rcases q with q|q
        ·rw[if_pos q,gI i q];exact hi
        ·by_cases z:top<=i
         ·rw[if_pos z,gI i z];exact hi
         ·rw[if_neg z];show(if i∈L'.map (·.1) then σ i else none)=_;rw[if_pos q];exact hi
       ·cases hi
     ·obtain⟨x,M,_,e1,_,_,_⟩:=qN m o hm;obtain⟨x2,M2,_,e2,_,_,_⟩:=qN m2 p cQ;rw[nq m x M e1,nq m2 x2 M2 e2] at e;subst e;rcases kind m o hm with y|⟨k1,v1,rfl⟩
      ·exact q3.one m m2 o p x M M2 (fZ _ _ hm) (fZ _ _ cQ) (hL _ _ hm) (hL _ _ cQ) (.inl y) e1 e2
      ·rcases kind m2 p cQ with y|⟨k2,v2,rfl⟩
       ·exact q3.one m m2 _ p x M M2 (fZ _ _ hm) (fZ _ _ cQ) (hL _ _ hm) (hL _ _ cQ) (.inr y) e1 e2
       ·refine Classical.byContradiction fun ch=>?_;obtain⟨b1,N1,f1,_,f3,_⟩:=t1 m k1 v1 (fZ _ _ hm)<|hL _ _ hm;obtain⟨b2,N2,f4,_,f6,_⟩:=t1 m2 k2 v2 (fZ _ _ cQ)<|hL _ _ cQ;rw[e1] at f1;cases f1;rw[e2] at f4;cases f4;exact t2 m m2 x k1 v1 k2 v2 (fZ _ _ hm) (fZ _ _ cQ) (hL _ _ hm) (hL _ _ cQ) ch f3 f6
     ·obtain⟨b1,N1,f1,f2,_,_⟩:=t1 m k1 v1 (fZ _ _ hm)<|hL _ _ hm;rw[nq m b1 N1 f1];have f2:B.inv k1 v1 σ w' b1<|Hq m:=f2;rw[hT] at f2;exact f2.mono (fun i y hi e=>by rw[gI i hi];exact e) fun _ _=>rfl
     ·obtain⟨b1,N1,f1,_,f3,_⟩:=t1 m k1 v1 (fZ _ _ hm)<|hL _ _ hm;rw[nq m b1 N1 f1];exact f3
     ·obtain⟨b1,N1,_,_,_,f4⟩:=t1 m k1 v1 (fZ _ _ hm)<|hL _ _ hm;obtain⟨x2,M2,_,e2,_,_,_⟩:=qN m2 o cQ;rw[nq m2 x2 M2 e2] at y;obtain⟨_,_,c3,_⟩:=f4 x2 y;rcases kind m2 o cQ with z|⟨k2,v2,rfl⟩
      ·exact c3 m2 o M2 (fZ _ _ cQ) (hL _ _ cQ) z e2
      ·cases ho
    ·obtain⟨c1,c2,c3⟩:=DS x hx;refine⟨⟨c1,?_⟩,?_,?_,fun j sh=>by rw[gI _<|gf _ _ _];exact c3 j sh⟩
     ·rcases c2 with z|z
      ·exact Nat.le_trans r.tk.1.1 z
      ·exact(hH x z).1.2
     ·rcases c2 with z|z
      ·exact r.size x z
      ·exact(hH x z).2.1
     ·rcases c2 with z|z
      ·exact zD x z
      ·exact se x (hH x z).2.2.1
   ·rw[if_neg q] at ho;rw[yx m q];obtain⟨b1,N1,f1,f2,f3,f4⟩:=h1 m k1 v1 hm ho;refine⟨b1,N1,(cO m hm).trans f1,B.mono f2 (fun i y _ e=>hl _ _ e) fun x hx=>?_,f3,fun x hx=>?_⟩
    ·exact mM x (f4 x hx).1.1 fun z=>h2 n m x k v k1 v1 oX hm hg ho (Ne.symm q) z hx
    ·obtain⟨⟨c1,cl⟩,c2,c3,c4⟩:=f4 x hx;refine⟨⟨Nat.lt_of_lt_of_le c1 q4.size,cl⟩,c2,se x c3,fun j sh=>Classical.byContradiction fun z=>?_⟩;rw[gI _<|gf _ _ _] at z;rcases(q3.fz j x sh z).1 with y|y
     ·exact y<|c4 j sh
     ·rcases y with y|y
      ·have y:w.heap.size<=x:=y;omega
      ·exact h2 n m x k v k1 v1 oX hm hg ho (Ne.symm q) y hx
  ·rw[g m hm] at ho;rw[g m2 cQ] at hp;have cl:∀m k1 v1,m<top->m≠n->h.get m=some (.tok k1 v1)->∀x,Hn x->¬cW m x:=fun m k1 v1 hm ch ho x hx y=>by
    obtain⟨_,c2,_⟩:=DS x hx;rcases c2 with z|z
    ·obtain⟨b1,N1,_,_,_,f4⟩:=h1 m k1 v1 hm ho;have:=(f4 x y).1.1;omega
    ·exact h2 n m x k v k1 v1 oX hm hg ho (Ne.symm ch) z y
   by_cases q:m=n
   ·rw[if_pos q] at ho;cases ho;have q2:m2≠n:=fun e=>ch<|q.trans e.symm;rw[if_neg q2] at hp;rw[q,B9] at y1;rw[yx m2 q2] at y2;exact cl m2 k2 v2 cQ q2 hp x y1 y2
   ·rw[if_neg q] at ho;rw[yx m q] at y1;by_cases q2:m2=n
    ·rw[if_pos q2] at hp;cases hp;rw[q2,B9] at y2;exact cl m k1 v1 hm q ho x y2 y1
    ·rw[if_neg q2] at hp;rw[yx m2 q2] at y2;exact h2 m m2 x k1 v1 k2 v2 hm cQ ho hp ch y1 y2
end Go.Rn
namespace Go.Rn
open Go.RowKit
variable {s1 s:AS}
theorem TU{n:Nat}{o:Option ae}{u:Unit}(h:ll n o s= .ok u s1):
 n<s.nx/\n<top/\s1.h=s.h.put n o/\s1.nx=s.nx:=by
 obtain⟨h1,h2,h3,rfl⟩:=UF h;by_cases e:n<s.mark
 ·rw[if_pos e];exact⟨h1,h2,rfl,rfl⟩
 ·rw[if_neg e];exact⟨h1,h2,rfl,rfl⟩
def iU(X:TX)(P:Program)(rs:List ResultVar)(k:Nat)(y:AV)(v':AV):=Fin P rs fun y1 s'=>y1=y/\∃L',X k v' L'/\∀m o,(m,o)∈L'->s'.h.get m=some o
theorem TV{X:TX}{P:Program}{B:aI}{f J k:Nat}{ns:List Nat}{h0:Tr ae}{kn:List<|Nat×Option ae}{val:AV->List AV->Option (AV×AV)}{fn:Func}{body:Code}{ρ:Ren}{w:World}(hX:yv X J)(hT:B.inv=nJ X J)(hP:bS P)(cm:P.funcs[f]? =some fn)(cw:fn.body=some body)(dF:(fn.name == "runtime.NumGoroutine")=false)(ga:fL<=J)(dM:J<=top)(dL:∀n o,n<top->h0.get n=some o->n∈ns)(eC:∀n∈ns,n<J)(jt:∀n o,(n,some o)∈kn->h0.get n=some o)(jw:∀p∈kn,p.1<top)(eV:∀v rest y v',val v rest=some (y,v')->max fn.ntmps (rest.length+1)<=top/\∀L,X k v L->∃nx,J<nx/\nx<=top/\(∀p∈L,p.1<nx)/\∀B':aI,B'.F=B.F->B'.inv=B.inv->
 au P B' (J+1) (iU X P fn.results.toList k y v') ⟨f,dc<|.ptr (some (J,0))::rest,max fn.ntmps<|rest.length+1,[.code body],[],none⟩ ⟨fU<|kn++aY L,nx,0,[],[]⟩){YR:aJ}{args:List AV}{x:AV}{vs:Array Value}(r:Rel B ρ s.h w)(hg:gD ρ)(h:yc J ns h0 k val YR args s= .ok x s1)(hv:ay ρ args vs.toList):jk P ((callFunc f vs).run P w)<|km B ρ s s1 w x:=by
 unfold yc at h;split at h
 ·rename_i n rest;obtain⟨hh,h1⟩:=cX h;obtain⟨gI,GW⟩:=and_true.1 hh;obtain⟨u,s2,h2,h3⟩:=M.aN h1;obtain⟨o,s3,h4,h5⟩:=M.aN h3;obtain⟨a1,a2,a3⟩:=uI h2;obtain⟨b1,b2,b3,b4⟩:=fX h4;split at h5
  ·rename_i k' v;obtain⟨hk,h6⟩:=cX h5;have hk:=Nat.eq_of_beq_eq_true hk;subst hk;obtain⟨p,h7,h8⟩:=bw h6;obtain⟨h9,gG⟩:=cX h8;obtain⟨u2,s4,uo,qK⟩:=M.aN gG;obtain⟨rfl,rfl⟩:=bB qK;obtain⟨c1,c2,c3,c4⟩:=TU uo;obtain⟨y,v'⟩:=p;have iS:s.h.get n=some (.tok k v):=by rw[←a1];exact b2
   obtain⟨_,cW,t1,t2⟩:=r.tk;obtain⟨b,N,d1,d2,d3,d4⟩:=t1 n k v c2 iS;have XU:=d2;rw[hT] at XU;obtain⟨L,loc,N0,hx,oH,agm,nK⟩:=agk hX hT dM r dL eC jt jw (fun n hn=>by obtain⟨_,o,p,h⟩:=a3 n hn;exact⟨o,p,h⟩) d4 XU;obtain⟨q1,q2⟩:=eV _ _ _ _ h7;obtain⟨nx,n1,n2,n3,q3⟩:=q2 L hx;have fi:bC (⟨fU<|kn++aY L,nx,0,[],[]⟩:AS):=⟨Nat.zero_le _,n2⟩;have ahY:J<top:=Nat.lt_of_lt_of_le n1 n2;have hi:jl ρ<|mq J ρ loc:=fun m x hm e=>by unfold mq;rw[if_neg aj,if_pos hm];exact e
   have VD:mq J ρ loc J=some (b,N0):=by unfold mq;rw[if_neg aj,if_neg aj];exact oH
   have ks:ay (mq J ρ loc) (.ptr (some (J,0))::rest) vs.toList:=by simp only[ay,VR] at hv ⊢;obtain⟨v0,vr,e1,⟨b',N',e2,e3⟩,e4⟩:=hv;rw[d1] at e2;cases e2;exact⟨v0,vr,e1,⟨b,N0,VD,e3⟩,AV.Ba hi gI e4⟩
   have bH:=au.FK (B:=tE B ρ w<|cW n) (s:=⟨fU<|kn++aY L,nx,0,[],[]⟩) (args:=.ptr (some (J,0))::rest) (vs:=vs) hP cm cw q1 (q3 _ rfl rfl) fi nK (fun g iE=>by
    obtain⟨N,e⟩:=hg g iE;exact⟨N,by unfold mq;rw[if_pos<|Nat.lt_of_lt_of_le iE ga];exact e⟩) (fun m hm kg=>by
    have hm:nx<=m:=hm;unfold mq;rw[if_neg aj,if_neg aj];cases e:loc m with
    |none=>rfl
    |some z=>obtain⟨o,q⟩:=agm m z e;have:=n3 _ q;have:m<nx:=this;omega) ks
   rw[sB cm cw dF];show Calls P f vs w _;refine bH.mono fun e w'=>?_;rintro ⟨y1,x',s5,rfl,⟨rfl,L',qL,K9⟩,_,σ,e0,G6,e1,e2,e3⟩;obtain⟨g1,g2,g3,g4⟩:=ae3 (a:=s.nx) (v':=v') hX hT c2 iS d1 r t1 t2 e2 e3 ((e0 J (Nat.lt_succ_self _) ahY).trans VD) (fun m z hm q=>G6 m z hm<|hi m z hm q) qL K9;refine⟨y1,rfl,cF ρ σ,by rw[c4,b4,a2];exact g1,AV.pB g2 h9 e1,?_,g4⟩;rw[c3,b3,a1];exact g3
  ·cases h5
 ·cases h
end Go.Rn
namespace Go.Rn
open Go.RowKit
theorem ae4{X:TX}{J k a:Nat}{v:AV}{B:aI}{ρ σ:Ren}{w w':World}{h h4:Tr ae}{b N0:Nat}{L':List<|Nat×ae}(hX:yv X J)(hT:B.inv=nJ X J)(ht:J<=top)(ax:a<top)(ha:ρ a=none)(r:Rel B ρ h w)(q3:Rel (rB B ρ w) σ h4 w')(q4:cx (rB B ρ w) w w')(hle:(gj J ρ).le σ)(oH:σ J=some (b,N0))(hx:X k v L')(hL:∀m o,(m,o)∈L'->h4.get m=some o):
 Ext a (a+1) ρ (eQ (cF ρ σ) a (b,0))/\jl σ (eQ (cF ρ σ) a (b,0))/\Rel B (eQ (cF ρ σ) a (b,0)) (h.put a<|some<|.tok k v) w'/\cx B w w':=by
 obtain⟨b1,b2,R1,b4⟩:=Jg (a:=a) ht r q3 q4 hle;have nm:=hX.nm k v L' hx;have cO:∀k,k<top->cF ρ σ k=ρ k:=fun k hk=>by unfold cF;rw[if_neg aj]
 have gI:∀k,top<=k->cF ρ σ k=σ k:=fun k hk=>by unfold cF;rw[if_pos hk]
 have QK:cF ρ σ a=none:=(cO a ax).trans ha;have hl:(cF ρ σ).le<|eQ (cF ρ σ) a (b,0):=om QK;have DT:∀k,top<=k->eQ (cF ρ σ) a (b,0) k=σ k:=fun k hk=>by rw[gK _ _ aj];exact gI k hk
 have lZ:h.get a=none:=by
  cases e:h.get a with
  |none=>rfl
  |some p=>obtain⟨_,_,_,h1,_⟩:=r.is a p ax e;rw[ha] at h1;cases h1
 have g:∀m,m<top->(h.put a<|some<|.tok k v).get m=if m=a then some (.tok k v) else h.get m:=fun m hm=>Tr.di _ _ _ _ ax hm
 have mM:∀x,x<w.heap.size->w'.heap[x]? =w.heap[x]? :=fun x hx=>q4.block x hx fun z=>by have z:w.heap.size<=x:=z;omega
 have se:∀x,j8 ρ h x->j8 (eQ (cF ρ σ) a (b,0)) (h.put a<|some<|.tok k v) x:=fun x hn m o M hm ho cr e=>by
  rw[g m hm] at ho;by_cases q:m=a
  ·rw[if_pos q] at ho;cases ho;cases cr
  ·rw[if_neg q] at ho;rw[gK _ _ q,cO m hm] at e;exact hn m o M hm ho cr e
 have zD:∀x,w.heap.size<=x->j8 ρ h x:=fun x hx m o M hm ho cr e=>by obtain⟨b1,N1,o1,e1,e2,_⟩:=r.is m o hm ho;rw[e] at e1;cases e1;have:=ib e2;omega
 obtain⟨⟨_,_⟩,cW,h1,h2⟩:=r.tk;obtain⟨⟨_,_⟩,Hq,t1,t2⟩:=q3.tk;obtain⟨oR,hR⟩:=hX.root k v L' hx;have fZ:∀m o,(m,o)∈L'->m<top:=fun m o hm=>(nm _ hm).2.1;have qN:∀m o,(m,o)∈L'->∃x M o',σ m=some (x,M)/\w'.heap[x]? =some o'/\OR σ M o o'/\(o.dk=false->w.heap.size<=x):=fun m o hm=>q3.is m o (fZ m o hm)<|hL m o hm;have kind:∀m o,(m,o)∈L'->o.dk=false\/∃k1 v1,o= .tok k1 v1:=fun m o hm=>by
  rcases(nm _ hm).2.2.1 with y|y
  ·exact .inl (ae.uM y).2
  ·cases o<;>first|exact .inr ⟨_,_,rfl⟩|cases y
 let Hn:Nat->Prop:=fun x=>(∃m o M,(m,o)∈L'/\o.dk=false/\σ m=some (x,M))\/∃m k1 v1,(m,ae.tok k1 v1)∈L'/\Hq m x;have F6:∀m o,(m,o)∈L'->∀x M,σ m=some (x,M)->Hn x:=fun m o hm x M e=>by
  rcases kind m o hm with q|⟨k1,v1,rfl⟩
  ·exact .inl ⟨m,o,M,hm,q,e⟩
  ·obtain⟨b1,N1,e1,_,e3,_⟩:=t1 m k1 v1 (fZ _ _ hm)<|hL _ _ hm;rw[e] at e1;cases e1;exact .inr ⟨m,k1,v1,hm,e3⟩
 have DS:∀x,Hn x->x<w'.heap.size/\w.heap.size<=x/\∀j sh,σ (hn j x sh)=none:=fun x hx=>by
  rcases hx with⟨m,o,M,hm,q,e⟩|⟨m,k1,v1,hm,q⟩
  ·obtain⟨x1,M1,o',e1,e2,_,e4⟩:=qN m o hm;rw[e] at e1;cases e1;refine⟨ib e2,e4 q,fun j sh=>Classical.byContradiction fun z=>?_⟩;obtain⟨_,_,_,_,_,_,_,z3,_⟩:=q3.fz j x sh z;exact z3 m o M (fZ m o hm) (hL m o hm) q e
  ·obtain⟨b1,N1,_,_,_,e4⟩:=t1 m k1 v1 (fZ _ _ hm)<|hL _ _ hm;obtain⟨⟨c1,_⟩,c2,_,c4⟩:=e4 x q;exact⟨c1,c2,c4⟩
 have G7:Hn b:=F6 J oR hR b N0 oH;refine⟨⟨Ren.le_trans b1.le hl,fun k hk hka=>(gK _ _ aj).trans<|b1.out k hk aj⟩,fun m x hm e=>by rw[DT m hm];exact e,⟨fun m o hm ho=>?_,fun m m2 o p x M M2 hm cQ ho hp cS e1 e2=>?_,fun m i es ex left cur hm ho=>?_,R1.size,fun i j m es ex left cur gY iW iH iJ hi hj ho hp=>?_,fun j x sh e=>?_,?_⟩,b4⟩
 ·rw[g m hm] at ho;by_cases q:m=a
  ·subst q;rw[if_pos rfl] at ho;cases ho;obtain⟨x,M,o',e1,e2,_,_⟩:=qN J oR hR;rw[oH] at e1;cases e1;exact⟨b,0,o',iQ _ _ _,e2,trivial,fun z=>by cases z⟩
  ·rw[if_neg q] at ho;obtain⟨b1,N1,o1,e1,e2,e3,e4⟩:=R1.is m o hm ho;exact⟨b1,N1,o1,hl _ _ e1,e2,e3.mono hl,e4⟩
 ·rw[g m hm] at ho;rw[g m2 cQ] at hp;have rT:∀m o M,m<top->h.get m=some o->o.dk=false->ρ m=some (b,M)->False:=fun m o M hm ho cr e=>zD b (DS b G7).2.1 m o M hm ho cr e;by_cases q:m=a
  ·rw[if_pos q] at ho;cases ho;by_cases q2:m2=a
   ·rw[q,q2]
   ·rw[if_neg q2] at hp;rw[q,iQ] at e1;cases e1;rw[gK _ _ q2,cO m2 cQ] at e2;exact(rT m2 p M2 cQ hp (cS.resolve_left fun z=>by cases z) e2).elim
  ·rw[if_neg q] at ho;by_cases q2:m2=a
   ·rw[if_pos q2] at hp;cases hp;rw[q2,iQ] at e2;cases e2;rw[gK _ _ q,cO m hm] at e1;exact(rT m o M hm ho (cS.resolve_right fun z=>by cases z) e1).elim
   ·rw[if_neg q2] at hp;rw[gK _ _ q] at e1;rw[gK _ _ q2] at e2;exact R1.one m m2 o p x M M2 hm cQ ho hp cS e1 e2
 ·rw[g m hm] at ho;by_cases q:m=a
  ·rw[if_pos q] at ho;cases ho
  ·rw[if_neg q] at ho;obtain⟨hi,fu,u⟩:=R1.iter m i es ex left cur hm ho;have ir:i≠a:=by intro e;subst e;rw[lZ] at fu;cases fu
   exact⟨hi,by rw[g i hi,if_neg ir];exact fu,u.mono hl⟩
 ·rw[g i hi] at ho;rw[g j hj] at hp;by_cases q:i=a
  ·rw[if_pos q] at ho;cases ho
  ·rw[if_neg q] at ho;by_cases q2:j=a
   ·rw[if_pos q2] at hp;cases hp
   ·rw[if_neg q2] at hp;exact R1.lone i j m es ex left cur gY iW iH iJ hi hj ho hp
 ·rw[gK _ _ (by have:=gf j x sh;omega)] at e;obtain⟨g0,l,c,e',fr,g1,g2,g3,g4⟩:=R1.fz j x sh e;refine⟨g0,l,c,e',fr,g1,g2,fun m o M hm ho cr e=>?_,fun i y hy=>by obtain⟨v,k1,k2,k3⟩:=g4 i y hy;exact⟨v,k1,VR.mono (Fe hl) _ _ k2,k3⟩⟩;rw[g m hm] at ho;by_cases q:m=a
  ·rw[if_pos q] at ho;cases ho;cases cr
  ·rw[if_neg q] at ho;rw[gK _ _ q] at e;exact g3 m o M hm ho cr e
 ·let H':Nat->Nat->Prop:=fun m x=>if m=a then Hn x else cW m x
  have B9:H' a=Hn:=funext fun x=>if_pos rfl;have yx:∀m,m≠a->H' m=cW m:=fun m hm=>funext fun x=>if_neg hm;refine⟨⟨Nat.le_trans r.tk.1.1 q4.size,fun m o hm ho hf=>?_⟩,H',fun m k1 v1 hm ho=>?_,fun m m2 x k1 v1 k2 v2 hm cQ ho hp ch y1 y2=>?_⟩
  ·rw[g m hm] at ho;by_cases q:m=a
   ·rw[if_pos q] at ho;cases ho;cases hf
   ·rw[if_neg q] at ho;obtain⟨b1,N1,e1,e2⟩:=r.tk.1.2 m o hm ho hf;exact⟨b1,N1,(gK _ _ q).trans<|(cO m hm).trans e1,e2⟩
  ·rw[g m hm] at ho;by_cases q:m=a
   ·subst q;rw[if_pos rfl] at ho;cases ho;rw[B9];refine⟨b,0,iQ _ _ _,?_,G7,fun x hx=>?_⟩
    ·rw[hT];let bl:Nat->Nat:=fun m=>match σ m with|some (x,_)=>x|none=>0
     have nq:∀m x M,σ m=some (x,M)->bl m=x:=fun m x M e=>by show(match σ m with|some (x,_)=>x|none=>0)=x;rw[e]
     refine .mk L' (fun m=>if m∈L'.map (·.1) then σ m else none) bl Hq N0 hx ?_ (fun m hm=>?_) (fun m o hm=>?_) (fun m m2 o p hm cQ e=>?_) (fun m k1 v1 hm=>?_) (fun m k1 v1 hm=>?_) (fun m k1 v1 hm x hx=>.inr ⟨m,k1,v1,hm,hx⟩) (fun m k1 v1 m2 o hm cQ ho y=>?_) fun m k1 v1 m2 k2 v2 x hm cQ ch y1 y2=>t2 m m2 x k1 v1 k2 v2 (fZ _ _ hm) (fZ _ _ cQ) (hL _ _ hm) (hL _ _ cQ) ch y1 y2
     ·rw[if_pos<|List.mem_map.2 ⟨_,hR,rfl⟩];exact oH
     ·refine if_neg fun z=>?_;obtain⟨p,hp,rfl⟩:=List.mem_map.1 z;have:=(nm p hp).1;omega
     ·obtain⟨x,M,o',e1,e2,e3,_⟩:=qN m o hm;refine⟨M,o',?_,by rw[nq m x M e1];exact e2,?_,by rw[nq m x M e1];exact F6 m o hm x M e1⟩
      ·rw[if_pos<|List.mem_map.2 ⟨_,hm,rfl⟩,nq m x M e1];exact e1
      ·refine((nm _ hm).2.2.2 _ _ _ e3).mono fun i y hi=>?_;have hi:(if top<=i\/i∈L'.map (·.1) then σ i else none)=some y:=hi;unfold yb;split at hi
       ·rename_i q;rcases q with q|q
        ·rw[if_pos q,DT i q];exact hi
        ·by_cases z:top<=i
         ·rw[if_pos z,DT i z];exact hi
         ·rw[if_neg z];show(if i∈L'.map (·.1) then σ i else none)=_;rw[if_pos q];exact hi
       ·cases hi
     ·obtain⟨x,M,_,e1,_,_,_⟩:=qN m o hm;obtain⟨x2,M2,_,e2,_,_,_⟩:=qN m2 p cQ;rw[nq m x M e1,nq m2 x2 M2 e2] at e;subst e;rcases kind m o hm with y|⟨k1,v1,rfl⟩
      ·exact q3.one m m2 o p x M M2 (fZ _ _ hm) (fZ _ _ cQ) (hL _ _ hm) (hL _ _ cQ) (.inl y) e1 e2
      ·rcases kind m2 p cQ with y|⟨k2,v2,rfl⟩
       ·exact q3.one m m2 _ p x M M2 (fZ _ _ hm) (fZ _ _ cQ) (hL _ _ hm) (hL _ _ cQ) (.inr y) e1 e2
       ·refine Classical.byContradiction fun ch=>?_;obtain⟨b1,N1,f1,_,f3,_⟩:=t1 m k1 v1 (fZ _ _ hm)<|hL _ _ hm;obtain⟨b2,N2,f4,_,f6,_⟩:=t1 m2 k2 v2 (fZ _ _ cQ)<|hL _ _ cQ;rw[e1] at f1;cases f1;rw[e2] at f4;cases f4;exact t2 m m2 x k1 v1 k2 v2 (fZ _ _ hm) (fZ _ _ cQ) (hL _ _ hm) (hL _ _ cQ) ch f3 f6
     ·obtain⟨b1,N1,f1,f2,_,_⟩:=t1 m k1 v1 (fZ _ _ hm)<|hL _ _ hm;rw[nq m b1 N1 f1];have f2:B.inv k1 v1 σ w' b1<|Hq m:=f2;rw[hT] at f2;exact f2.mono (fun i y hi e=>by rw[DT i hi];exact e) fun _ _=>rfl
     ·obtain⟨b1,N1,f1,_,f3,_⟩:=t1 m k1 v1 (fZ _ _ hm)<|hL _ _ hm;rw[nq m b1 N1 f1];exact f3
     ·obtain⟨b1,N1,_,_,_,f4⟩:=t1 m k1 v1 (fZ _ _ hm)<|hL _ _ hm;obtain⟨x2,M2,_,e2,_,_,_⟩:=qN m2 o cQ;rw[nq m2 x2 M2 e2] at y;obtain⟨_,_,c3,_⟩:=f4 x2 y;rcases kind m2 o cQ with z|⟨k2,v2,rfl⟩
      ·exact c3 m2 o M2 (fZ _ _ cQ) (hL _ _ cQ) z e2
      ·cases ho
    ·obtain⟨c1,c2,c3⟩:=DS x hx;exact⟨⟨c1,Nat.le_trans r.tk.1.1 c2⟩,r.size x c2,se x<|zD x c2,fun j sh=>by rw[DT _<|gf _ _ _];exact c3 j sh⟩
   ·rw[if_neg q] at ho;rw[yx m q];obtain⟨XV,N1,f1,f2,f3,f4⟩:=h1 m k1 v1 hm ho;refine⟨XV,N1,(gK _ _ q).trans<|(cO m hm).trans f1,B.mono f2 (fun i y _ e=>hl _ _<|b1.le _ _ e) fun x hx=>mM x (f4 x hx).1.1,f3,fun x hx=>?_⟩;obtain⟨⟨c1,cl⟩,c2,c3,c4⟩:=f4 x hx;refine⟨⟨Nat.lt_of_lt_of_le c1 q4.size,cl⟩,c2,se x c3,fun j sh=>Classical.byContradiction fun z=>?_⟩;rw[DT _<|gf _ _ _] at z;rcases(q3.fz j x sh z).1 with y|y
    ·exact y<|c4 j sh
    ·have y:w.heap.size<=x:=y;omega
  ·rw[g m hm] at ho;rw[g m2 cQ] at hp;have cl:∀m k1 v1,m<top->h.get m=some (.tok k1 v1)->∀x,Hn x->¬cW m x:=fun m k1 v1 hm ho x hx y=>by obtain⟨_,c2,_⟩:=DS x hx;obtain⟨b1,N1,_,_,_,f4⟩:=h1 m k1 v1 hm ho;have:=(f4 x y).1.1;omega
   by_cases q:m=a
   ·have q2:m2≠a:=fun e=>ch<|q.trans e.symm;rw[if_neg q2] at hp;rw[q,B9] at y1;rw[yx m2 q2] at y2;exact cl m2 k2 v2 cQ hp x y1 y2
   ·rw[if_neg q] at ho;rw[yx m q] at y1;by_cases q2:m2=a
    ·rw[q2,B9] at y2;exact cl m k1 v1 hm ho x y2 y1
    ·rw[if_neg q2] at hp;rw[yx m2 q2] at y2;exact h2 m m2 x k1 v1 k2 v2 hm cQ ho hp ch y1 y2
end Go.Rn
namespace Go.Rn
open Go.RowKit
variable {J:Nat} {x:AV}
noncomputable section
def BA(J:Nat)(ns:List Nat)(h0:Tr ae)(k:Nat)(val:List AV->Option (Option AV×(AV->AV))):aJ->List AV->M AV:=fun _ args=>
 aF (args.all AV.hi) <| (fI J h0 ns).bind fun _=>aA (val args) fun p=>match p.1 with
  |none=>aF (p.2<|.ptr none).hi <| M.pure<|p.2<|.ptr none
  |some v=>(gC<|.tok k v).bind fun n=>M.pure<|p.2<|.ptr<|some (n,0)
end
theorem YQ.BA(J:Nat)(ns:List Nat)(h0:Tr ae)(k:Nat)(val:List AV->Option (Option AV×(AV->AV)))(YR:aJ)(args:List AV):YQ<|BA J ns h0 k val YR args:=by
 refine YQ.aF fun _=>YQ.bind (YQ.fI J h0 ns) fun _=>YQ.aA fun p _=>?_;split
 ·exact YQ.aF fun _=>YQ.pure _
 ·exact YQ.bind (YQ.gC _) fun _=>YQ.pure _
def zk(J:Nat)(res:AV->AV):Prop:=∀(σ G8:Ren) (n:Nat) (y:Value),jl σ G8->(∀b N,σ J=some (b,N)->∃N',G8 n=some (b,N'))->VR σ (res<|.ptr<|some (J,0)) y->VR G8 (res<|.ptr<|some (n,0)) y
theorem ab8{X:TX}{P:Program}{B:aI}{f k:Nat}{ns:List Nat}{h0:Tr ae}{val:List AV->Option (Option AV×(AV->AV))}{fn:Func}{body:Code}{ρ:Ren}{w:World}{s s1:AS}(hX:yv X J)(hT:B.inv=nJ X J)(hP:bS P)(cm:P.funcs[f]? =some fn)(cw:fn.body=some body)(dF:(fn.name == "runtime.NumGoroutine")=false)(ga:fL<=J)(dM:J<top)(dL:∀n o,n<top->h0.get n=some o->n∈ns)(eC:∀n∈ns,n<J)(eV:∀args p,val args=some p->max fn.ntmps args.length<=top/\(p.1=none->∀B':aI,B'.F=B.F->B'.inv=B.inv->
 au P B' J (Fin P fn.results.toList fun y _=>y=p.2 (.ptr none)) ⟨f,dc args,max fn.ntmps args.length,[.code body],[],none⟩ ⟨h0,J,0,[],[]⟩)/\
 ∀v,p.1=some v->zk J p.2/\∀B':aI,B'.F=B.F->B'.inv=B.inv->au P B' J (iU X P fn.results.toList k (p.2<|.ptr<|some (J,0)) v) ⟨f,dc args,max fn.ntmps args.length,[.code body],[],none⟩ ⟨h0,J,0,[],[]⟩){YR:aJ}{args:List AV}{vs:Array Value}(r:Rel B ρ s.h w)(hg:gD ρ)(hf:dB s.nx s1.nx ρ)(h:BA J ns h0 k val YR args s= .ok x s1)(hv:ay ρ args vs.toList):jk P ((callFunc f vs).run P w)<|km B ρ s s1 w x:=by
 have Gw:=Nat.le_of_lt dM;unfold BA at h;obtain⟨gI,h1⟩:=cX h;obtain⟨u,s2,h2,h3⟩:=M.aN h1;obtain⟨p,h4,h5⟩:=bw h3;obtain⟨a1,a2,a3⟩:=uI h2;obtain⟨q1,q2,q3⟩:=eV _ _ h4;have nK:=Dy Gw r dL eC (fun n hn=>by obtain⟨_,o,p,h⟩:=a3 n hn;exact⟨o,p,h⟩);have fi:bC (⟨h0,J,0,[],[]⟩:AS):=⟨Nat.zero_le _,Gw⟩;have z6:gD<|gj J ρ:=fun g iE=>by obtain⟨N,e⟩:=hg g iE;exact⟨N,by unfold gj;rw[if_pos<|Nat.lt_of_lt_of_le iE ga];exact e⟩
 have lT:∀k,(⟨h0,J,0,[],[]⟩:AS).nx<=k->k<top->gj J ρ k=none:=fun k k1 k2=>by have k1:J<=k:=k1;unfold gj gp;rw[if_neg aj,if_neg aj]
 have XW:=AV.Ba (ρ:=ρ) (σ:=gj J ρ) (fun k y hk e=>by rw[sR Gw hk];exact e) gI hv;rw[sB cm cw dF];show Calls P f vs w _;obtain⟨st,res⟩:=p;cases st with
 |none=>have e0:(none:Option AV)=none:=rfl;obtain⟨h6,h7⟩:=cX (show aF (res<|.ptr none).hi (M.pure<|res<|.ptr none) s2= .ok x s1 from h5);obtain⟨rfl,rfl⟩:=bB h7;refine(au.calls (B:=rB B ρ w) (s:=⟨h0,J,0,[],[]⟩) (args:=args) (vs:=vs) hP cm cw q1 (q2 e0 _ rfl rfl) fi nK z6 lT XW).mono fun e w'=>?_;rintro ⟨y,x',s4,rfl,rfl,_,_,σ,e1,e2,e3,e4⟩;obtain⟨b1,b2,b3,b4⟩:=Jg (a:=s.nx) Gw r e3 e4 e1.le;exact⟨y,rfl,cF ρ σ,by rw[a2];exact b1,AV.pB b2 h6 e2,by rw[a1];exact b3,b4⟩
 |some v=>
  have e0:(some v:Option AV)=some v:=rfl;obtain⟨n,s3,h6,h7⟩:=M.aN (show((gC<|.tok k v).bind fun n=>M.pure<|res<|.ptr<|some (n,0)) s2= .ok x s1 from h5);obtain⟨rfl,rfl⟩:=bB h7;obtain⟨Ee,rfl,rfl⟩:=uP h6;obtain⟨lE,ahZ⟩:=q3 v e0;refine(au.calls (B:=rB B ρ w) (s:=⟨h0,J,0,[],[]⟩) (args:=args) (vs:=vs) hP cm cw q1 (ahZ _ rfl rfl) fi nK z6 lT XW).mono fun e w'=>?_;rintro ⟨y,x',s4,rfl,⟨rfl,L',qL,K9⟩,_,_,σ,e1,e2,e3,e4⟩;obtain⟨oR,hR⟩:=hX.root _ _ _ qL;obtain⟨b,N0,o',r1,_,_,_⟩:=e3.is J oR dM<|K9 _ _ hR;have QK:ρ s.nx=none:=hf s.nx (Nat.le_refl _) (by show s.nx<s2.nx+1;omega) aj;obtain⟨b1,b2,b3,b4⟩:=ae4 (a:=s.nx) hX hT Gw aj QK r e3 e4 e1.le r1 qL K9;refine⟨y,rfl,_,?_,lE σ _ s2.nx y b2 (fun b' N' e=>?_) e2,?_,b4⟩
  ·show Ext s.nx (s2.nx+1) ρ _;rw[a2];exact b1
  ·rw[r1] at e;cases e;rw[a2];exact⟨0,iQ _ _ _⟩
  ·show Rel B _ (s2.h.put s2.nx<|some<|.tok k v) w';rw[a1,a2];exact b3
theorem zk.ptr:zk J fun p=>p:=fun σ G8 n y _ h2 h=>by simp only[VR] at h ⊢;obtain⟨b,N,e1,e2⟩:=h;obtain⟨N',e3⟩:=h2 b N e1;exact⟨b,N',e3,e2⟩
theorem zk.tup(hx:x.cP=true):zk J fun p=>.tuple [p,x]:=fun σ G8 n y h1 h2 h=>by simp only[VR,ay] at h ⊢;obtain⟨a,e1,v,l,e2,⟨b,N,e3,e4⟩,v2,l2,e5,e6,e7⟩:=h;obtain⟨N',e8⟩:=h2 b N e3;exact⟨a,e1,v,l,e2,⟨b,N',e8,e4⟩,v2,l2,e5,AV.u7 h1 hx e6,e7⟩
end Go.Rn
namespace Go.Rn
open Go.RowKit
variable {β α:Type} {J:Nat} {ns:List Nat} {h0:Tr ae}
theorem NT{s:AS}{n:Nat}{o:Option ae}{p:ae}(h1:Nat.blt n s.nx=true)(h2:s.h.get n=some p)(h3:p.kV=true)(ht:Nat.blt n top=true):ll n o s= .ok () (fp n o s):=by obtain⟨hh,nx,mark,rd,wr⟩:=s;have e1:(Nat.blt n nx&&Nat.blt n top)=true:=and_true.2 ⟨h1,ht⟩;have e2:hh.get n=some p:=h2;show @Bool.rec (fun _=>R Unit) .bad (@Option.rec ae (fun _=>R Unit) .bad (fun p=> @Bool.rec (fun _=>R Unit) (@Bool.rec (fun _=>R Unit) (.ok () ⟨hh.put n o,nx,mark,rd,wr⟩) (.ok () ⟨hh.put n o,nx,mark,n::rd,n::wr⟩)<|Nat.blt n mark) .bad<|!p.kV)<|hh.get n) (Nat.blt n nx&&Nat.blt n top)=_;rw[e1,e2];show @Bool.rec (fun _=>R Unit) (@Bool.rec (fun _=>R Unit) (.ok () ⟨hh.put n o,nx,mark,rd,wr⟩) (.ok () ⟨hh.put n o,nx,mark,n::rd,n::wr⟩)<|Nat.blt n mark) .bad (!p.kV)=_;rw[h3];show @Bool.rec (fun _=>R Unit) (.ok () ⟨hh.put n o,nx,mark,rd,wr⟩) (.ok () ⟨hh.put n o,nx,mark,n::rd,n::wr⟩) (Nat.blt n mark)= .ok () (@Bool.rec (fun _=>AS) ⟨hh.put n o,nx,mark,rd,wr⟩ ⟨hh.put n o,nx,mark,n::rd,n::wr⟩<|Nat.blt n mark);cases Nat.blt n mark<;>rfl
noncomputable section
inductive KE where
 |val (v:List AV->Option AV)
 |tok (k:Nat) (v:AV->List AV->Option (AV×AV))
 |new (k:Nat) (v:List AV->Option (Option AV×(AV->AV)))
 |raw (m:Nat->List Nat->Tr ae->aJ->List AV->M AV)
abbrev bO:=List<|FuncId×KE
def KE.m(J:Nat)(ns:List Nat)(h0:Tr ae):KE->aJ->List AV->M AV
 | .val v=>px J ns h0 v
 | .tok k v=>yc J ns h0 k v
 | .new k v=>BA J ns h0 k v
 | .raw m=>m J ns h0
def dt(J:Nat)(ns:List Nat)(h0:Tr ae):bO->Sp
 |[]=>fun _=>none
 |p::l=>fun f=>bif Nat.beq f p.1 then some (p.2.m J ns h0) else dt J ns h0 l f
def iK(val:AV->List AV->Option (AV×AV))(v:AV)(rest:List AV):Option<|AV×AV:=match rest.all AV.hi with
 |true=>(val v rest).bind fun p=>match p.1.hi with
  |true=>some p
  |false=>none
 |false=>none
def rL(val:List AV->Option (Option AV×(AV->AV)))(args:List AV):Option<|Option AV×(AV->AV):=match args.all AV.hi with
 |true=>(val args).bind fun p=>match p.1 with
  |none=>match (p.2<|.ptr none).hi with
   |true=>some p
   |false=>none
  |some _=>some p
 |false=>none
def Dz:bO->FuncId->Option KE
 |[]=>fun _=>none
 |p::l=>fun f=>bif Nat.beq f p.1 then some p.2 else Dz l f
def KE.v1:KE->Option (List AV->Option AV)
 | .val v=>some<|bj v
 |_=>none
def KE.v2:KE->Option (Nat×(AV->List AV->Option (AV×AV)))
 | .tok k v=>some (k,iK v)
 |_=>none
def KE.v3:KE->Option (Nat×(List AV->Option (Option AV×(AV->AV))))
 | .new k v=>some (k,rL v)
 |_=>none
def Kn(o:Option α)(f:α->Option β):Option β:=match o with
 |some a=>f a
 |none=>none
def yd(P:Program)(J:Nat)(ns:List Nat)(h0:Tr ae)(L:bO)(lo:Nat)(fg:Bool):Env:=⟨P,dt J ns h0 L,FU,fun g=>Kn (Dz L g) KE.v1,fun _=>false,pM J h0 ns,dC J h0 ns,lo,fg,fun g=>Kn (Dz L g) KE.v2,fun g=>Kn (Dz L g) KE.v3,J⟩
end
theorem Ik:∀{L:bO} {g:FuncId} {e:KE},Dz L g=some e->dt J ns h0 L g=some (e.m J ns h0)
 |[],g,e,h=>by cases h
 |p::l,g,e,h=>by
  unfold Dz at h;unfold dt;cases q:Nat.beq g p.1 with
  |true=>rw[q] at h;injection h with h;rw[h];rfl
  |false=>rw[q] at h;exact Ik h
theorem Ni{o:Option α}{f:α->Option β}{b:β}(h:Kn o f=some b):∃a,o=some a/\f a=some b:=by
 cases o with
 |none=>cases h
 |some a=>exact⟨a,rfl,h⟩
theorem eT{P:Program}{L:bO}{lo:Nat}{fg:Bool}:(yd P J ns h0 L lo fg).Ok:=by
 refine⟨fun g val args v s n h1 h2 h3=>?_,fun g q m v rest y v' s n h1 h2 h3 h4 h5 h6 h7=>?_,fun g q args v res s n h1 h2 h3 h4=>?_,fun g h=>(by cases h)⟩
 ·obtain⟨e,k1,k2⟩:=Ni h1;have k3:=Ik (J:=J) (ns:=ns) (h0:=h0) k1;cases e with
  |val v0=>
   injection k2 with k2;subst k2
   show jK P (dt J ns h0 L) g (aZ P (dt J ns h0 L) FU n) args s=_;rw[rp k3];exact aaX (YR:=aZ P (dt J ns h0 L) FU n) h2 h3
  |tok k v0=>cases k2
  |new k v0=>cases k2
  |raw m0=>cases k2
 ·obtain⟨e,k1,k2⟩:=Ni h1;have k3:=Ik (J:=J) (ns:=ns) (h0:=h0) k1;cases e with
  |val v0=>cases k2
  |new k v0=>cases k2
  |raw m0=>cases k2
  |tok k v0=>
   injection k2 with k2;subst k2
   show jK P (dt J ns h0 L) g (aZ P (dt J ns h0 L) FU n) (.ptr (some (m,0))::rest) s=_;rw[rp k3];have h7:iK v0 v rest=some (y,v'):=h7;unfold iK at h7;cases e1:rest.all AV.hi with
   |false=>rw[e1] at h7;cases h7
   |true=>
    rw[e1] at h7;cases e2:v0 v rest with
    |none=>rw[e2] at h7;cases h7
    |some p=>
     rw[e2] at h7;have h7:(match p.1.hi with|true=>some p|false=>none)=some (y,v'):=h7;cases e3:p.1.hi with
     |false=>rw[e3] at h7;cases h7
     |true=>
      rw[e3] at h7;injection h7 with h7
      subst h7;show(aF (rest.all AV.hi&&Nat.ble J m) <| (fI J h0 ns).bind fun _=>(bu m).bind fun o=>match o with
       | .tok k' v=>aF (Nat.beq k k') <| aA (v0 v rest) fun p=>aF p.1.hi <| (ll m<|some<|.tok k p.2).bind fun _=>M.pure p.1
       |_=>fail) s=_
      have h3:Nat.ble J m=true:=h3;have h4:Nat.blt m (dC J h0 ns s).nx=true:=h4;have h6:(dC J h0 ns s).h.get m=some (.tok k v):=h6;rw[e1,h3,(show(true&&true)=true from rfl),dA,M.bL<|xp h2,M.bL<|lR h4 h6];show(aF (Nat.beq k k) <| aA (v0 v rest) fun p=>aF p.1.hi <| (ll m<|some<|.tok k p.2).bind fun _=>M.pure p.1) (aV m<|dC J h0 ns s)=_;rw[eA.2 rfl,dA,e2,bV,e3,dA,M.bL<|NT (p:=.tok k v) (by rw[(fN m _).2.1];exact h4) (by rw[(fN m _).1];exact h6) rfl h5];rfl
 ·obtain⟨e,k1,k2⟩:=Ni h1;have k3:=Ik (J:=J) (ns:=ns) (h0:=h0) k1;cases e with
  |val v0=>cases k2
  |tok k v0=>cases k2
  |raw m0=>cases k2
  |new k v0=>
   injection k2 with k2;subst k2
   show jK P (dt J ns h0 L) g (aZ P (dt J ns h0 L) FU n) args s=_;rw[rp k3];have h4:rL v0 args=some (v,res):=h4;unfold rL at h4;cases e1:args.all AV.hi with
   |false=>rw[e1] at h4;cases h4
   |true=>
    rw[e1] at h4;cases e2:v0 args with
    |none=>rw[e2] at h4;cases h4
    |some p=>
     obtain⟨st,r⟩:=p;rw[e2] at h4;show(aF (args.all AV.hi) <| (fI J h0 ns).bind fun _=>aA (v0 args) fun p=>match p.1 with
      |none=>aF (p.2<|.ptr none).hi <| M.pure (p.2<|.ptr none)
      |some v=>(gC<|.tok k v).bind fun n=>M.pure<|p.2<|.ptr<|some (n,0)) s=_
     rw[e1,dA,M.bL<|xp h2,e2,bV];cases st with
     |none=>
      have h4:(match (r<|.ptr none).hi with|true=>some ((none:Option AV),r)|false=>none)=some (v,res):=h4;cases e3:(r<|.ptr none).hi with
      |false=>rw[e3] at h4;cases h4
      |true=>
       rw[e3] at h4;injection h4 with h4
       injection h4 with h5 h6
       subst h5;subst h6;show aF true (M.pure<|r<|.ptr none) _=_;rw[dA];rfl
     |some v1=>
      have h4:some (some v1,r)=some (v,res):=h4;injection h4 with h4
      injection h4 with h5 h6
      subst h5;subst h6;show((gC<|.tok k v1).bind fun n=>M.pure<|r<|.ptr<|some (n,0)) _=_;have h3:Nat.blt (dC J h0 ns s).nx top=true:=h3;rw[M.bL<|Uu<|(blt_eq _ _).mp h3];rfl
end Go.Rn
namespace Go.Rn
open Go.RowKit
variable {B:aI}
theorem R6{P:Program}{f J:Nat}{ns:List Nat}{h0:Tr ae}{val:List AV->Option AV}{fn:Func}{body:Code}{ρ:Ren}{w:World}{s s1:AS}(hP:bS P)(cm:P.funcs[f]? =some fn)(cw:fn.body=some body)(dF:(fn.name == "runtime.NumGoroutine")=false)(ga:fL<=J)(dM:J<=top)(dL:∀n o,n<top->h0.get n=some o->n∈ns)(eC:∀n∈ns,n<J)(eV:∀args v,val args=some v->max fn.ntmps args.length<=top/\∀B':aI,B'.F=B.F->B'.inv=B.inv->au P B' J (Fin P fn.results.toList fun y _=>y=v) ⟨f,dc args,max fn.ntmps args.length,[.code body],[],none⟩ ⟨h0,J,0,[],[]⟩){YR:aJ}{args:List AV}{x:AV}{vs:Array Value}(r:Rel B ρ s.h w)(hg:gD ρ)(h:px J ns h0 val YR args s= .ok x s1)(hv:ay ρ args vs.toList):jk P ((callFunc f vs).run P w)<|km B ρ s s1 w x:=by
 unfold px at h;obtain⟨gI,h1⟩:=cX h;obtain⟨u,s2,h2,h3⟩:=M.aN h1;obtain⟨v,h4,h5⟩:=bw h3;obtain⟨h6,h7⟩:=cX h5;obtain⟨rfl,rfl⟩:=bB h7;obtain⟨a1,a2,a3⟩:=uI h2;obtain⟨q1,q2⟩:=eV _ _ h4;have nK:=Dy dM r dL eC (fun n hn=>by obtain⟨_,o,p,h⟩:=a3 n hn;exact⟨o,p,h⟩);have fi:bC (⟨h0,J,0,[],[]⟩:AS):=⟨Nat.zero_le _,dM⟩;have z6:gD<|gj J ρ:=fun g iE=>by obtain⟨N,e⟩:=hg g iE;exact⟨N,by unfold gj;rw[if_pos<|Nat.lt_of_lt_of_le iE ga];exact e⟩
 have bH:=au.calls (B:=rB B ρ w) (s:=⟨h0,J,0,[],[]⟩) (args:=args) (vs:=vs) hP cm cw q1 (q2 _ rfl rfl) fi nK z6 (fun k k1 k2=>by
  have k1:J<=k:=k1;unfold gj gp;rw[if_neg aj,if_neg aj])
  (AV.Ba (fun k y hk e=>by rw[sR dM hk];exact e) gI hv)
 rw[sB cm cw dF];show Calls P f vs w _;refine bH.mono fun e w'=>?_;rintro ⟨y,x',s4,rfl,rfl,_,_,σ,e1,e2,e3,e4⟩;obtain⟨b1,b2,b3,b4⟩:=Jg (a:=s.nx) dM r e3 e4 e1.le;exact⟨y,rfl,cF ρ σ,by rw[a2];exact b1,AV.pB b2 h6 e2,by rw[a1];exact b3,b4⟩
def dT(X:TX)(J:Nat)(P:Program)(sp:Sp):Prop:=∀B:aI,B.F=FU->B.inv=nJ X J->Kj P B sp
theorem dT.my{X:TX}{J:Nat}{P:Program}{sp:Sp}{g:FuncId}{m:aJ->List AV->M AV}(h:dT X J P sp)(hl:∀YR:aJ,(∀t a,YQ<|YR t a)->∀args,YQ<|m YR args)(hs:∀B:aI,B.F=FU->B.inv=nJ X J->∀YR:aJ,fT P B YR->(∀t a,YQ<|YR t a)->∀(args:List AV) (x:AV) (s s1:AS) (ρ:Ren) (w:World) (vs:Array Value),bC s->Rel B ρ s.h w->gD ρ->dB s.nx s1.nx ρ->
 m YR args s= .ok x s1->ay ρ args vs.toList->jk P ((callFunc g vs).run P w) (km B ρ s s1 w x)):dT X J P<|oQ sp g m:=by
 intro B hB hT;refine⟨fun f m' e YR lf args=>?_,fun f m' e YR hc lf args x s s1 ρ w vs fi r hg hf hm hv=>?_⟩
 ·rcases Sr e with⟨_,rfl⟩|e
  ·exact hl YR lf args
  ·exact(h B hB hT).loc f m' e YR lf args
 ·rcases Sr e with⟨rfl,rfl⟩|e
  ·exact hs B hB hT YR hc lf args x s s1 ρ w vs fi r hg hf hm hv
  ·exact(h B hB hT).Em f m' e YR hc lf args x s s1 ρ w vs fi r hg hf hm hv
section
variable {X:TX} {P:Program} {J:Nat} {ns:List Nat} {h0:Tr ae} {kn:List<|Nat×Option ae} {L L':bO} {g k:Nat} {fn:Func} {body:Code}
theorem de:dT X J P<|dt J ns h0 []:=fun _ _ _=>⟨fun f m h=>(by cases h),fun f m h=>(by cases h)⟩
def qE(X:TX)(P:Program)(J:Nat)(ns:List Nat)(h0:Tr ae)(L:bO)(B:aI):Prop:=B.F=FU/\B.inv=nJ X J/\fT P B (aZ P (dt J ns h0 L) FU 6)/\∀t a,YQ<|aZ P (dt J ns h0 L) FU 6 t a
theorem qF(hP:bS P)(h':dT X J P<|dt J ns h0 L)(h1:B.F=FU)(h2:B.inv=nJ X J):qE X P J ns h0 L B:=⟨h1,h2,S0 hP (h' B h1 h2) h1 6,Cx P (h' B h1 h2) FU 6⟩
theorem adj(hP:bS P)(ga:fL<=J)(dM:J<=top)(dL:∀n o,n<top->h0.get n=some o->n∈ns)(eC:∀n∈ns,n<J){val:List AV->Option AV}(h:dT X J P<|dt J ns h0 L)(h':dT X J P<|dt J ns h0 L')(cm:P.funcs[g]? =some fn)(cw:fn.body=some body)(dF:(fn.name == "runtime.NumGoroutine")=false)(eV:∀args v,val args=some v->max fn.ntmps args.length<=top/\∀B:aI,qE X P J ns h0 L' B->
 au P B J (Fin P fn.results.toList fun y _=>y=v) ⟨g,dc args,max fn.ntmps args.length,[.code body],[],none⟩ ⟨h0,J,0,[],[]⟩):dT X J P<|dt J ns h0<|(g,.val val)::L:=by
 refine(show dT X J P (oQ (dt J ns h0 L) g<|px J ns h0 val) from h.my (fun YR _ args=>YQ.px _ _ _ _ YR args) fun B hB hT YR hc hl args x s s1 ρ w vs fi r hg hf hm hv=>?_);refine R6 hP cm cw dF ga dM dL eC (fun args v e=>?_) r hg hm hv;obtain⟨q1,q2⟩:=eV args v e;exact⟨q1,fun B' lJ lK=>q2 B'<|qF hP h' (lJ.trans hB)<|lK.trans hT⟩
theorem NU(hX:yv X J)(hP:bS P)(ga:fL<=J)(dM:J<=top)(dL:∀n o,n<top->h0.get n=some o->n∈ns)(eC:∀n∈ns,n<J)(jt:∀n o,(n,some o)∈kn->h0.get n=some o)(jw:∀p∈kn,p.1<top){val:AV->List AV->Option (AV×AV)}(h:dT X J P<|dt J ns h0 L)(h':dT X J P<|dt J ns h0 L')(cm:P.funcs[g]? =some fn)(cw:fn.body=some body)(dF:(fn.name == "runtime.NumGoroutine")=false)(eV:∀v rest y v',val v rest=some (y,v')->max fn.ntmps (rest.length+1)<=top/\∀L,X k v L->∃nx,J<nx/\nx<=top/\(∀p∈L,p.1<nx)/\∀B:aI,qE X P J ns h0 L' B->
 au P B (J+1) (iU X P fn.results.toList k y v') ⟨g,dc<|.ptr (some (J,0))::rest,max fn.ntmps<|rest.length+1,[.code body],[],none⟩ ⟨fU<|kn++aY L,nx,0,[],[]⟩):dT X J P<|dt J ns h0<|(g,.tok k val)::L:=by
 refine(show dT X J P (oQ (dt J ns h0 L) g<|yc J ns h0 k val) from h.my (fun YR _ args=>YQ.yc _ _ _ _ _ YR args) fun B hB hT YR hc hl args x s s1 ρ w vs fi r hg hf hm hv=>?_);refine TV hX hT hP cm cw dF ga dM dL eC jt jw (fun v rest y v' e=>?_) r hg hm hv;obtain⟨q1,q2⟩:=eV v rest y v' e;refine⟨q1,fun L1 hL=>?_⟩;obtain⟨nx,n1,n2,n3,q3⟩:=q2 L1 hL;exact⟨nx,n1,n2,n3,fun B' lJ lK=>q3 B'<|qF hP h' (lJ.trans hB)<|lK.trans hT⟩
theorem UG(hX:yv X J)(hP:bS P)(ga:fL<=J)(dM:J<top)(dL:∀n o,n<top->h0.get n=some o->n∈ns)(eC:∀n∈ns,n<J){val:List AV->Option (Option AV×(AV->AV))}(h:dT X J P<|dt J ns h0 L)(h':dT X J P<|dt J ns h0 L')(cm:P.funcs[g]? =some fn)(cw:fn.body=some body)(dF:(fn.name == "runtime.NumGoroutine")=false)(eV:∀args p,val args=some p->max fn.ntmps args.length<=top/\(p.1=none->∀B:aI,qE X P J ns h0 L' B->
 au P B J (Fin P fn.results.toList fun y _=>y=p.2 (.ptr none)) ⟨g,dc args,max fn.ntmps args.length,[.code body],[],none⟩ ⟨h0,J,0,[],[]⟩)/\
 ∀v,p.1=some v->zk J p.2/\∀B:aI,qE X P J ns h0 L' B->au P B J (iU X P fn.results.toList k (p.2<|.ptr<|some (J,0)) v) ⟨g,dc args,max fn.ntmps args.length,[.code body],[],none⟩ ⟨h0,J,0,[],[]⟩):
 dT X J P (dt J ns h0<|(g,.new k val)::L):=by
 refine(show dT X J P (oQ (dt J ns h0 L) g<|BA J ns h0 k val) from h.my (fun YR _ args=>YQ.BA _ _ _ _ _ YR args) fun B hB hT YR hc hl args x s s1 ρ w vs fi r hg hf hm hv=>?_);refine ab8 hX hT hP cm cw dF ga dM dL eC (fun args p e=>?_) r hg hf hm hv;obtain⟨q1,q2,q3⟩:=eV args p e;refine⟨q1,fun e0 B' lJ lK=>q2 e0 B'<|qF hP h' (lJ.trans hB)<|lK.trans hT,fun v e0=>?_⟩;obtain⟨q4,q5⟩:=q3 v e0;exact⟨q4,fun B' lJ lK=>q5 B'<|qF hP h' (lJ.trans hB)<|lK.trans hT⟩
end
end Go.Rn
namespace Go.Rn
open Go.RowKit
variable {α:Type} {enc:α->List AV} {r:Nat->Nat} {fz:lF} {l:List α} {K n o:Nat} {a v:AV} {cap:bZ} {args:List AV}
def du(enc:α->List AV)(K:Nat)(a:AV)(l:List α):Prop:=∃n o,a= .U n o l.length/\top<=n/\∀(i:Nat) c,l[i]? =some c->cG FU n (o+i*K) K=some (enc c)
theorem du.cP(h:du enc K a l):a.cP=true:=by obtain⟨n,o,rfl,h1,_⟩:=h;exact aK.2 h1
theorem du.hi(h:du enc K a l):a.hi=true:=by have:=h.cP;obtain⟨n,o,rfl,h1,_⟩:=h;exact this
theorem du.aw{α:Type}{enc:α->List AV}{K:Nat}(he:mo K enc)(l:List α):du enc K (aw enc l) l:=⟨_,0,rfl,cN _,fun i c hc=>by have:=xq he hc 0 K aj;rw[Nat.zero_add];rw[Nat.add_zero,List.drop_zero, ←he.len c,List.take_length] at this;rw[he.len c] at this;exact this⟩
theorem du.inj{m:List α}(DP:∀x y,enc x=enc y->x=y)(h:du enc K a l)(k:du enc K a m):l=m:=by
 obtain⟨n,o,rfl,_,h2⟩:=h;obtain⟨n',o',e,_,k2⟩:=k;injection e with e1 e2 e3
 subst e1;subst e2;refine List.ext_getElem? fun i=>?_;by_cases q:i<l.length
 ·have a1:l[i]? =some l[i]:=List.getElem?_eq_getElem q;have a2:m[i]? =some (m[i]'aj):=List.getElem?_eq_getElem aj;have b1:=h2 i _ a1;have b2:=k2 i _ a2;rw[b1] at b2;injection b2 with b2
  rw[a1,a2,DP _ _ b2]
 ·rw[List.getElem?_eq_none aj,List.getElem?_eq_none aj]
theorem du.len{α:Type}{enc:α->List AV}{K n o len:Nat}{l:List α}(h:du enc K (.U n o len) l):l.length=len/\top<=n/\∀(i:Nat) c,l[i]? =some c->cG FU n (o+i*K) K=some (enc c):=by
 obtain⟨n',o',e,ht,h3⟩:=h;injection e with e1 e2 e3
 subst e1;subst e2;exact⟨e3.symm,ht,h3⟩
theorem IK{len:Nat}(hl:∀c,(enc c).length=K)(h:du enc K (.U n o len) l):cG FU n o (len*K)=some (l.map enc).flatten\/l=[]:=by
 obtain⟨h1,_,h3⟩:=h.len;by_cases hn:l=[]
 ·exact .inr hn
 refine .inl ?_;have DQ:0<l.length:=by cases l with|nil=>exact absurd rfl hn|cons _ _=>exact Nat.succ_pos _
 obtain⟨row,eU⟩:∃row,FU n=some row:=by
  have:=h3 0 l[0]<|List.getElem?_eq_getElem DQ;unfold cG at this;cases e:FU n with
  |none=>rw[e] at this;cases this
  |some r=>exact⟨r,rfl⟩
 have ax:∀(i:Nat) c,l[i]? =some c->o+i*K+K<=row.length/\(row.drop<|o+i*K).take K=enc c:=by
  intro i c hc;have:=h3 i c hc;unfold cG at this;rw[eU] at this;simp only at this;cases q:Nat.ble (o+i*K+K) row.length with
  |false=>rw[q] at this;cases this
  |true=>rw[q] at this;injection this with this;exact⟨aK.1 q,this⟩
 have alQ:=(ax (l.length - 1) l[l.length - 1]<|List.getElem?_eq_getElem aj).1;have hmul:(l.length - 1)*K+K=l.length*K:=by rw[←Nat.succ_mul];congr 1;omega
 have hle:o+len*K<=row.length:=by rw[←h1];omega
 unfold cG;rw[eU];simp only[(aK.2 hle:Nat.ble (o+len*K) row.length=true)];congr 1;have yq:(l.map enc).flatten.length=l.length*K:=by
  have:=uK (K:=K) (l:=l.map enc) fun c hc=>by obtain⟨a,_,rfl⟩:=List.mem_map.1 hc;exact hl a
  rw[this,List.length_map]
 refine List.ext_getElem? fun i=>?_;by_cases q:i<l.length*K
 ·rcases Nat.eq_zero_or_pos K with z|hK
  ·rw[z] at q;omega
  have hdiv:i / K<l.length:=Nat.div_lt_of_lt_mul (by rw[Nat.mul_comm];exact q);have Gq:i % K<K:=Nat.mod_lt _ hK;have En:i / K*K+i % K=i:=by rw[Nat.mul_comm];exact Nat.div_add_mod i K
  obtain⟨_,h4⟩:=ax (i / K) l[i / K]<|List.getElem?_eq_getElem hdiv;have h5:=Me (l:=l.map enc) (K:=K) (i:=i / K) (c:=enc l[i / K]) (fun c hc=>by obtain⟨a,_,rfl⟩:=List.mem_map.1 hc;exact hl a) (by rw[List.getElem?_map,List.getElem?_eq_getElem hdiv];rfl);have h6:(row.drop<|o+i / K*K)[i % K]? =(enc l[i / K])[i % K]? :=by rw[←h4,List.getElem?_take_of_lt Gq]
  have h7:((l.map enc).flatten.drop<|i / K*K)[i % K]? =(enc l[i / K])[i % K]? :=by rw[←h5,List.getElem?_take_of_lt Gq]
  rw[List.getElem?_drop] at h6 h7;rw[List.getElem?_take_of_lt (by rw[←h1];exact q),List.getElem?_drop,show o+i=o+i / K*K+i % K by omega,h6, ←h7,En]
 ·rw[List.getElem?_eq_none (by rw[List.length_take, ←h1];omega),List.getElem?_eq_none aj]
theorem IL(hm:(n,nm (l.map enc).flatten,(l.map enc).flatten)∈fz)(hr:∀k,top<=k->r k=k)(hc:(match cap with| .known c=>Nat.ble l.length c| .aq _ _=>true| .lost=>false)=true):jF fz r (.slice (some (n,0)) l.length cap)<|aw enc l:=by
 intro ρ fG v yw hv;have:∃b N c,ρ n=some (b,N)/\v= .slice (some ⟨b,0,none⟩) l.length c/\l.length<=c:=by
  cases cap with
  |known c=>simp only[VR] at hv;obtain⟨b,N,e,hv⟩:=hv;exact⟨b,N,c,e,hv,aK.1 hc⟩
  |aq lo e0=>simp only[VR] at hv;obtain⟨b,N,c,e,hv,_,h,_⟩:=hv;exact⟨b,N,c,e,hv,h⟩
  |lost=>cases hc
 obtain⟨b,N,c,e,rfl,hle⟩:=this;have hk:=yw.2.2 _ hm b N e;unfold aw;simp only[VR];exact .inr ⟨b,0,c,.inr ⟨cN _,fun z=>hk<|(congrArg fG<|hr _<|gf _ _ _).symm.trans z⟩,rfl,fun _=>⟨hle,(zj _).1⟩⟩
theorem Fv:jF fz r (.slice none 0<|.known 0)<|aw enc []:=by intro ρ fG v _ hv;simp only[VR] at hv;obtain⟨rfl,_,_⟩:=hv;unfold aw;simp only[VR];exact .inl ⟨cN _,rfl,none,0,rfl,(fun _=>rfl),(fun _=>rfl),fun e=>absurd e (zj _).2⟩
theorem aaZ:jF fz r (.slice (some (n,o)) 0 cap)<|aw enc []:=by
 intro ρ fG v _ hv;have:∃a c,v= .slice (some a) 0 c:=by
  cases cap<;>simp only[VR] at hv
  ·obtain⟨_,_,_,rfl⟩:=hv;exact⟨_,_,rfl⟩
  ·obtain⟨_,_,_,_,rfl,_⟩:=hv;exact⟨_,_,rfl⟩
  ·obtain⟨_,_,_,_,_,_,rfl⟩:=hv;exact⟨_,_,rfl⟩
 obtain⟨a,c,rfl⟩:=this;unfold aw;simp only[VR];exact .inl ⟨cN _,rfl,some a,c,rfl,(fun e=>by cases e),(fun e=>absurd e (zj _).1),fun _ e=>by cases e⟩
theorem ae5{len:Nat}(ht:top<=n)(hr:∀k,top<=k->r k=k):jF fz r (.U n o len)<|.U n o len:=(bp.U (hr n ht) hr).z
theorem adk(hr:∀k,top<=k->r k=k):jF fz r (aw enc l)<|aw enc l:=ae5 (cN _) hr
theorem IM(he:mo K enc)(hl:l.length*K<=top)(n:Nat)(hn:n<top){o0:List<|Nat×Option ae}(hm:(n,some<|aD enc l)∈o0):
 n<top/\FU (nm (l.map enc).flatten)=some (l.map enc).flatten/\∃N t z,(n,some<|.cells N t z)∈o0/\∀i x,(l.map enc).flatten[i]? =some x->i<N/\cellAt t z i=some x/\x.bR=true/\x.cP=true:=by
 refine⟨hn,Dx<|he.all l,_,_,_,hm,fun i x hx=>?_⟩;have hi:=(List.getElem?_eq_some_iff.1 hx).1;have hc:=List.all_eq_true.1 (he.all l) x<|List.mem_of_getElem? hx;exact⟨hi,by rw[yJ (by rw[he.length];exact hl) hi];exact hx,HW hc,CL hc⟩
def ly(fz:lF)(r:Nat->Nat):List AV->List AV->Prop
 |[],[]=>True
 |x::l,y::m=>jF fz r x y/\ly fz r l m
 |_,_=>False
theorem ly.length:∀{l m:List AV},ly fz r l m->l.length=m.length
 |[],[],_=>rfl
 |_::_,_::_,h=>by simp[ly.length h.2]
 |[],_::_,h=>by cases h
 |_::_,[],h=>by cases h
theorem ly.ar:∀{l m:List AV} {i:Nat} {x y:AV},ly fz r l m->l[i]? =some x->m[i]? =some y->jF fz r x y
 |x::l,y::m,0,a,b,h,h1,h2=>by simp at h1 h2;subst h1;subst h2;exact h.1
 |x::l,y::m,i+1,a,b,h,h1,h2=>ly.ar h.2 (by simpa using h1) (by simpa using h2)
 |[],[],_,_,_,_,h1,_=>by simp at h1
 |_::_,[],_,_,_,h,_,_=>by cases h
 |[],_::_,_,_,_,h,_,_=>by cases h
theorem fD.cells{l m:List AV}(hl:l.length<=top)(h:ly fz r l m)(h1:m.all AV.bR=true):fD fz r (.cells l.length (Tr.fill l 0 .nil) [])<|.cells m.length (Tr.fill m 0 .nil) []:=by
 have hlen:=h.length;intro ρ fG N o yw k;obtain⟨c,e,rfl,k1,k2,k3⟩:=k;refine⟨c,e,rfl,k1,by omega,fun i hi=>?_⟩;obtain⟨x,v,a1,a2,a3,a4⟩:=k3 i aj;have hx:l[i]? =some x:=by unfold cellAt at a1;rw[Tr.sH _ _ _ _ aj,if_pos aj,Nat.sub_zero,List.getElem?_eq_getElem aj] at a1;rw[List.getElem?_eq_getElem aj];exact a1
 have hy:m[i]? =some m[i]:=List.getElem?_eq_getElem hi;refine⟨m[i],v,?_,?_,a3,h.ar hx hy ρ fG v yw a4⟩
 ·unfold cellAt;rw[Tr.sH _ _ _ _ aj,if_pos aj,Nat.sub_zero,hy]
 ·exact List.all_eq_true.1 h1 _<|List.getElem_mem hi
open Classical in
noncomputable def aR(R:List AV->AV->Prop)(args:List AV):Option AV:=if h:∃v,R args v then some h.choose else none
theorem fS{R:List AV->AV->Prop}(h:aR R args=some v):R args v:=by
 unfold aR at h;split at h
 ·rename_i q;injection h with h;rw[←h];exact q.choose_spec
 ·cases h
theorem eK{R:List AV->AV->Prop}(hd:∀args v v',R args v->R args v'->v=v')(h:R args v):aR R args=some v:=by unfold aR;have q:∃v,R args v:=⟨v,h⟩;rw[dif_pos q,hd _ _ _ q.choose_spec h]
end Go.Rn
namespace Go.Rn
open Go.RowKit
variable {ns:List Nat} {v y v':AV} {rest args:List AV} {n o:Nat} {S:Type} {res:AV->AV} {f:S->List AV->Option (AV×S)} {enc:S->AV}
def zE(ns:List Nat)(σ:Ren):Ren:=fun m=>if top<=m\/m∈ns then σ m else none
def gz(ns:List Nat)(x:AV):Prop:=∀(σ:Ren) (v:Value),VR σ x v->VR (zE ns σ) x v
theorem adl(ns:List Nat)(σ:Ren):jl σ<|zE ns σ:=fun k x hk e=>by unfold zE;rw[if_pos<|.inl hk];exact e
theorem gz.hi{x:AV}(h:x.cP=true):gz ns x:=fun σ _ k=>AV.u7 (adl ns σ) h k
theorem gz.ptr(h:n∈ns):gz ns<|.ptr<|some (n,o):=fun σ v k=>by simp only[VR] at k ⊢;obtain⟨b,N,e1,e2⟩:=k;exact⟨b,N,by unfold zE;rw[if_pos<|.inr h];exact e1,e2⟩
theorem gz.map(h:n∈ns):gz ns<|.map<|some n:=fun σ v k=>by simp only[VR] at k ⊢;obtain⟨b,N,e1,e2⟩:=k;exact⟨b,N,by unfold zE;rw[if_pos<|.inr h];exact e1,e2⟩
theorem gz.slice{len:Nat}{cap:bZ}(h:n∈ns):gz ns<|.slice (some (n,o)) len cap:=fun σ v k=>by
 cases cap<;>simp only[VR] at k ⊢
 ·obtain⟨b,N,e1,e2⟩:=k;exact⟨b,N,by unfold zE;rw[if_pos<|.inr h];exact e1,e2⟩
 ·obtain⟨b,N,c,e1,e2⟩:=k;exact⟨b,N,c,by unfold zE;rw[if_pos<|.inr h];exact e1,e2⟩
 ·obtain⟨l,b,N,p,c,e1,e2⟩:=k;exact⟨l,b,N,p,c,by unfold zE;rw[if_pos<|.inr h];exact e1,e2⟩
theorem lA.tok{k:Nat}:lA ns<|.tok k v:=fun _ _ _ _=>trivial
theorem lA.cells{cs:List AV}(hl:cs.length<=top)(h:∀c∈cs,gz ns c):lA ns<|.cells cs.length (Tr.fill cs 0 .nil) []:=fun σ N o' k=>by obtain⟨c,e,r,s,u,f⟩:=k;refine⟨c,e,r,s,u,fun i hi=>?_⟩;obtain⟨x,v,a,b,d,q⟩:=f i hi;refine⟨x,v,a,b,d,h x ?_ σ v q⟩;have:=yJ (l:=cs) (i:=i) hl hi;rw[this] at a;exact List.mem_of_getElem? a
theorem lA.row{α:Type}{enc:α->List AV}{l:List α}(hl:(l.map enc).flatten.length<=top)(h:∀c∈(l.map enc).flatten,gz ns c):lA ns<|aD enc l:=lA.cells hl h
noncomputable def gV(enc:S->AV)(f:S->List AV->Option (AV×S)):AV->List AV->Option (AV×AV):=fun v rest=> @dite _ (∃a,enc a=v) (Classical.propDecidable _) (fun h=>(f h.choose rest).map fun p=>(p.1,enc p.2)) fun _=>none
theorem AP(inj:∀a b,enc a=enc b->a=b){a:S}:gV enc f (enc a) rest=(f a rest).map fun p=>(p.1,enc p.2):=by unfold gV;have h:∃b,enc b=enc a:=⟨a,rfl⟩;rw[dif_pos h,inj _ _ h.choose_spec]
theorem Il(h:gV enc f v rest=some (y,v')):∃a a',v=enc a/\f a rest=some (y,a')/\v'=enc a':=by
 unfold gV at h;split at h
 ·rename_i q;cases e:f q.choose rest with
  |none=>rw[e] at h;cases h
  |some p=>
   rw[e] at h;injection h with h
   injection h with h1 h2
   refine⟨_,p.2,q.choose_spec.symm,?_,h2.symm⟩;rw[e, ←h1]
 ·cases h
theorem adm{val:AV->List AV->Option (AV×AV)}(h:val v rest=some (y,v'))(h1:rest.all AV.hi=true)(h2:y.hi=true):iK val v rest=some (y,v'):=by unfold iK;rw[h1,h];show(match y.hi with|true=>some (y,v')|false=>none)=_;rw[h2]
theorem adn{val:List AV->Option (Option AV×(AV->AV))}(h:val args=some (some v,res))(h1:args.all AV.hi=true):rL val args=some (some v,res):=by unfold rL;rw[h1,h];rfl
theorem UH{val:List AV->Option (Option AV×(AV->AV))}(h:val args=some (none,res))(h1:args.all AV.hi=true)(h2:(res<|.ptr none).hi=true):rL val args=some (none,res):=by unfold rL;rw[h1,h];show(match (res<|.ptr none).hi with|true=>some (none,res)|false=>none)=_;rw[h2]
end Go.Rn
namespace Go.Rn
open Go.RowKit
variable {ρ:Ren} {J:Nat}
abbrev Vw:=List<|Nat×Nat×ae
def gL(L:Vw)(m:Nat):Option Nat:=(L.find? fun p=>Nat.beq p.1 m).map fun p=>p.2.1
def eW(J:Nat)(ρ:Ren)(L:Vw):Ren:=fun m=>if m<J then ρ m else if top<=m then ρ m else match gL L m with
 |some n=>ρ n
 |none=>none
def JV(L:Vw):List<|Nat×ae:=L.map fun p=>(p.1,p.2.2)
theorem aa0{L:Vw}(fn:∀p∈L,∀q∈L,p.1=q.1->p=q){p:Nat×Nat×ae}(hp:p∈L):gL L p.1=some p.2.1:=by
 unfold gL;cases e:L.find? fun q=>Nat.beq q.1 p.1 with
 |none=>exact absurd (List.find?_eq_none.1 e p hp) jI
 |some q=>have h1:=List.mem_of_find?_eq_some e;have h2:=List.find?_some e;have h3:q.1=p.1:=Nat.eq_of_beq_eq_true h2;rw[fn q h1 p hp h3];rfl
theorem aa1{L:Vw}{m n:Nat}(h:gL L m=some n):∃p∈L,p.1=m/\p.2.1=n:=by
 unfold gL at h;cases e:L.find? fun q=>Nat.beq q.1 m with
 |none=>rw[e] at h;cases h
 |some q=>rw[e] at h;have h2:=List.find?_some e;refine⟨q,List.mem_of_find?_eq_some e,Nat.eq_of_beq_eq_true h2,?_⟩;injection h
theorem yT{L:Vw}(ht:J<=top){m:Nat}(hm:top<=m):eW J ρ L m=ρ m:=by unfold eW;rw[if_neg aj,if_pos hm]
theorem CU{L:Vw}{m:Nat}(hm:m<J):eW J ρ L m=ρ m:=by unfold eW;rw[if_pos hm]
theorem HX{L:Vw}{m:Nat}(h1:J<=m)(h2:m<top)(h3:∀p∈L,p.1≠m):eW J ρ L m=none:=by
 unfold eW;rw[if_neg aj,if_neg aj];cases e:gL L m with
 |none=>rfl
 |some n=>obtain⟨p,hp,e1,_⟩:=aa1 e;exact absurd e1<|h3 p hp
end Go.Rn
namespace Go.Rn
open Go.RowKit
variable {ρ:Ren} {J:Nat} {h:Tr ae} {L:Vw}
structure z7 (J:Nat) (ρ:Ren) (h:Tr ae) (L:Vw):Prop where
 nm:∀p∈L,J<=p.1/\p.1<top/\p.2.1<top
 fn:∀p∈L,∀q∈L,p.1=q.1->p=q
 inj:∀p∈L,∀q∈L,p.2.1=q.2.1->p=q
 is:∀p∈L,∃o,h.get p.2.1=some o/\((o.own=true/\p.2.2.own=true/\∀N o',OR ρ N o o'->OR (eW J ρ L) N p.2.2 o')\/∃k v,o= .tok k v/\p.2.2= .tok k v)
def wH(ρ:Ren)(cW:Nat->Nat->Prop)(L:Vw)(x:Nat):Prop:=(∃p∈L,p.2.2.dk=false/\∃N,ρ p.2.1=some (x,N))\/∃p∈L,p.2.2.kV=true/\cW p.2.1 x
theorem z7.wm(V:z7 J ρ h L){p:Nat×Nat×ae}(hp:p∈L):eW J ρ L p.1=ρ p.2.1:=by obtain⟨q1,q2,_⟩:=V.nm p hp;unfold eW;rw[if_neg aj,if_neg aj,aa0 V.fn hp]
def DV(B:aI)(ρ:Ren)(h:Tr ae)(w:World)(cW:Nat->Nat->Prop):Prop:=(∀n k v,n<top->h.get n=some (.tok k v)->∃b N,ρ n=some (b,N)/\B.inv k v ρ w b (cW n)/\cW n b/\∀x,cW n x->(x<w.heap.size/\B.lim<=x)/\B.may x/\j8 ρ h x/\∀j sh,ρ (hn j x sh)=none)/\∀n m x k v k' v',n<top->m<top->h.get n=some (.tok k v)->h.get m=some (.tok k' v')->n≠m->cW n x->¬cW m x
theorem JW{B:aI}{w:World}{h0:Tr ae}{ns:List Nat}{kn:List<|Nat×Option ae}{cW:Nat->Nat->Prop}(ht:J<=top)(r:Rel B ρ h w)(T:DV B ρ h w cW)(dL:∀n o,n<top->h0.get n=some o->n∈ns)(eC:∀n∈ns,n<J)(jt:∀n o,(n,some o)∈kn->h0.get n=some o)(jw:∀p∈kn,p.1<top)(a3:∀n∈ns,∃o p,h.get n=some o/\h0.get n=some p/\ou J o p=true)(V:z7 J ρ h L):Rel (tE B ρ w<|wH ρ cW L) (eW J ρ L) (fU<|kn++aY (JV L)) w:=by
 have r0:=Dy ht r dL eC a3;obtain⟨t1,t2⟩:=T;have uv:(gj J ρ).le<|eW J ρ L:=by
  intro m x e;unfold gj at e;split at e
  ·rename_i q;rw[CU q];exact e
  ·unfold gp at e;split at e
   ·rename_i q;rw[yT ht q];exact e
   ·cases e
 have B7:∀m o,(m,o)∈JV L->∃p∈L,p.1=m/\p.2.2=o:=fun m o hm=>by
  obtain⟨p,hp,e⟩:=List.mem_map.1 hm;injection e with e1 e2
  exact⟨p,hp,e1,e2⟩
 have cO:∀p∈kn++aY (JV L),p.1<top:=fun p hp=>by
  rcases List.mem_append.1 hp with hp|hp
  ·exact jw p hp
  ·refine MJ (fun q hq=>?_) p hp;obtain⟨p,hp,e1,_⟩:=B7 q.1 q.2 hq;rw[←e1];exact(V.nm p hp).2.1
 have ar:∀m o,(fU<|kn++aY (JV L)).get m=some o->(m∈ns/\h0.get m=some o/\o.mL=true)\/∃p∈L,p.1=m/\p.2.2=o:=fun m o hg=>by
  rcases List.mem_append.1 (uQ cO hg) with q|q
  ·have q2:=jt m o q;have ir:=dL m o (jw _ q) q2;obtain⟨p1,p2,_,c3,c4⟩:=a3 m ir;rw[q2] at c3;cases c3;refine .inl ⟨ir,q2,?_⟩;unfold ou at c4;split at c4<;>first|rfl|cases c4
  ·exact .inr<|B7 m o<|MB q
 have tS:∀p∈L,p.2.2.dk=false->∃o,h.get p.2.1=some o/\o.dk=false:=fun p hp e=>by
  obtain⟨o,g1,⟨g2,_⟩|⟨k,v,_,g2⟩⟩:=V.is p hp
  ·exact⟨o,g1,(ae.uM g2).2⟩
  ·rw[g2] at e;cases e
 have rN:∀p∈L,p.2.2.kV=true->∃k v,h.get p.2.1=some (.tok k v)/\p.2.2= .tok k v:=fun p hp e=>by
  obtain⟨o,g1,⟨_,g2,_⟩|⟨k,v,rfl,g2⟩⟩:=V.is p hp
  ·generalize p.2.2=q at e g2;cases q<;>first|(cases e;done)|cases g2
  ·exact⟨k,v,g1,g2⟩
 have ae7:∀p∈L,p.2.2.mL=true->False:=fun p hp e=>by
  obtain⟨o,g1,⟨_,g2,_⟩|⟨k,v,_,g2⟩⟩:=V.is p hp
  ·generalize p.2.2=q at e g2;cases q<;>first|(cases e;done)|cases g2
  ·rw[g2] at e;cases e
 have QM:∀m N x,m∈ns->eW J ρ L m=some (x,N)->x<B.lim/\¬wH ρ cW L x:=fun m N x q1 e=>by
  rw[CU<|eC m q1] at e;obtain⟨p1,p2,c2,c3,c4⟩:=a3 m q1;have kg:m<top:=Nat.lt_of_lt_of_le (eC m q1) ht;obtain⟨b',N',e1,e2⟩:=r.tk.1.2 m p1 kg c2<|HF c4;rw[e] at e1;cases e1;refine⟨e2,?_⟩;rintro (⟨p,hp,ho,M,e3⟩|⟨p,hp,ho,e3⟩)
  ·obtain⟨o,g1,g2⟩:=tS p hp ho;have:=r.one m p.2.1 p1 o x N M kg (V.nm p hp).2.2 c2 g1 (.inr g2) e e3;rw[←this,c2] at g1;cases g1;rw[ae.ki<|HF c4] at g2;cases g2
  ·obtain⟨k,v,g1,_⟩:=rN p hp ho;obtain⟨_,_,_,_,_,f⟩:=t1 _ k v (V.nm p hp).2.2 g1;have:=(f x e3).1.2;omega
 have ae8:∀j x sh,ρ (hn j x sh)≠none->¬wH ρ cW L x:=fun j x sh e=>by
  obtain⟨_,_,_,_,_,_,_,z3,_⟩:=r.fz j x sh e;rintro (⟨p,hp,ho,M,e3⟩|⟨p,hp,ho,e3⟩)
  ·obtain⟨o,g1,g2⟩:=tS p hp ho;exact z3 p.2.1 o M (V.nm p hp).2.2 g1 g2 e3
  ·obtain⟨k,v,g1,_⟩:=rN p hp ho;obtain⟨_,_,_,_,_,f⟩:=t1 _ k v (V.nm p hp).2.2 g1;exact e<|(f x e3).2.2.2 j sh
 refine⟨fun m o hm hg=>?_,fun m n o p x N M hm fw hg lk cS e1 e2=>?_,fun m i es ex left cur hm hg=>?_,fun x hx=>.inl hx,fun i j m es ex left cur gY iW iH iJ hi _ hg _=>?_,fun j x sh e=>?_,?_⟩
 ·rcases ar m o hg with⟨q1,q3,q4⟩|⟨p,hp,rfl,rfl⟩
  ·obtain⟨b',N',o',e1,e2,e3,_⟩:=r0.is m o hm q3;exact⟨b',N',o',uv _ _ e1,e2,e3.mono uv,fun z=>by rw[ae.ki q4] at z;cases z⟩
  ·obtain⟨o,g1,g2⟩:=V.is p hp;obtain⟨b',N',o',e1,e2,e3,_⟩:=r.is p.2.1 o (V.nm p hp).2.2 g1;rcases g2 with⟨_,_,g3⟩|⟨k,v,_,g3⟩
   ·exact⟨b',N',o',(V.wm hp).trans e1,e2,g3 _ _ e3,fun z=>.inr<|.inl ⟨p,hp,z,N',e1⟩⟩
   ·rw[g3];exact⟨b',N',o',(V.wm hp).trans e1,e2,trivial,fun z=>by cases z⟩
 ·rcases ar m o hg with⟨q1,q3,q4⟩|⟨p1,ja,rfl,rfl⟩
  ·rcases ar n p lk with⟨z1,z3,z4⟩|⟨p2,fe,rfl,rfl⟩
   ·rcases cS with y|y
    ·rw[ae.ki q4] at y;cases y
    ·rw[ae.ki z4] at y;cases y
   ·rw[V.wm fe] at e2;rcases cS with y|y
    ·rw[ae.ki q4] at y;cases y
    ·exact absurd (.inl ⟨p2,fe,y,M,e2⟩) (QM m N x q1 e1).2
  ·rw[V.wm ja] at e1;rcases ar n p lk with⟨z1,z3,z4⟩|⟨p2,fe,rfl,rfl⟩
   ·rcases cS with y|y
    ·exact absurd (.inl ⟨p1,ja,y,N,e1⟩) (QM n M x z1 e2).2
    ·rw[ae.ki z4] at y;cases y
   ·rw[V.wm fe] at e2;obtain⟨o1,g1,_⟩:=V.is p1 ja;obtain⟨o2,f1,_⟩:=V.is p2 fe;have ah0:o1.dk=false\/o2.dk=false:=cS.imp (fun y=>by
     obtain⟨o,k1,k2⟩:=tS p1 ja y;rw[g1] at k1;cases k1;exact k2) (fun y=>by
     obtain⟨o,k1,k2⟩:=tS p2 fe y;rw[f1] at k1;cases k1;exact k2)
    have:=r.one p1.2.1 p2.2.1 o1 o2 x N M (V.nm p1 ja).2.2 (V.nm p2 fe).2.2 g1 f1 ah0 e1 e2;rw[V.inj p1 ja p2 fe this]
 ·rcases ar m _ hg with⟨_,_,q4⟩|⟨p,hp,_,e⟩
  ·cases q4
  ·obtain⟨_,_,⟨_,g2,_⟩|⟨k,v,_,g2⟩⟩:=V.is p hp
   ·rw[e] at g2;cases g2
   ·rw[e] at g2;cases g2
 ·rcases ar i _ hg with⟨_,_,q4⟩|⟨p,hp,_,e⟩
  ·cases q4
  ·obtain⟨_,_,⟨_,g2,_⟩|⟨k,v,_,g2⟩⟩:=V.is p hp
   ·rw[e] at g2;cases g2
   ·rw[e] at g2;cases g2
 ·rw[yT ht<|gf _ _ _] at e;obtain⟨g0,l,c,e',fr,g1,g2,g3,g4⟩:=r0.fz j x sh (by rw[sR ht<|gf _ _ _];exact e);refine⟨.inl e,l,c,e',fr,g1,g2,fun m o N hm hg cr hr=>?_,fun i y hy=>?_⟩
  ·rcases ar m o hg with⟨_,_,q4⟩|⟨p,hp,rfl,rfl⟩
   ·rw[ae.ki q4] at cr;cases cr
   ·rw[V.wm hp] at hr;exact ae8 j x sh e<|.inl ⟨p,hp,cr,N,hr⟩
  ·obtain⟨v',k1,k2,k3⟩:=g4 i y hy;refine⟨v',k1,VR.mono (fun i z q=>?_) _ _ k2,k3⟩;unfold gp at q ⊢;split at q
   ·rename_i hk;rw[if_pos hk];exact uv _ _ q
   ·cases q
 ·let H':Nat->Nat->Prop:=fun m x=>∃p∈L,p.1=m/\cW p.2.1 x;have QN:∀p∈L,H' p.1=cW p.2.1:=fun p hp=>funext fun x=>propext ⟨fun⟨q,hq,e1,e2⟩=>by rw[V.fn q hq p hp e1] at e2;exact e2,fun e=>⟨p,hp,rfl,e⟩⟩;refine⟨⟨r.tk.1.1,fun m o hm hg hf=>?_⟩,H',fun m k' v' hm hg=>?_,fun m n x k' v' K8 wg hm fw hg lk ch iZ pW=>?_⟩
  ·rcases ar m o hg with⟨q1,q3,q4⟩|⟨p,hp,rfl,rfl⟩
   ·obtain⟨b',N',o',e1,e2,e3,_⟩:=r0.is m o hm q3;exact⟨b',N',uv _ _ e1,(QM m N' b' q1<|uv _ _ e1).1⟩
   ·exact(ae7 p hp hf).elim
  ·rcases ar m _ hg with⟨_,_,q4⟩|⟨p,hp,rfl,e⟩
   ·cases q4
   ·obtain⟨k,v,g1,g2⟩:=rN p hp (by rw[e];rfl);rw[e] at g2;cases g2;obtain⟨b,N,f1,f2,f3,f4⟩:=t1 _ _ _ (V.nm p hp).2.2 g1;refine⟨b,N,(V.wm hp).trans f1,?_,by rw[QN p hp];exact f3,fun x hx=>?_⟩
    ·rw[QN p hp];exact B.mono f2 (fun i y hi q=>by rw[yT ht hi];exact q) fun _ _=>rfl
    ·rw[QN p hp] at hx;obtain⟨c1,c2,c3,c4⟩:=f4 x hx;refine⟨c1,.inr<|.inr ⟨p,hp,by rw[e];rfl,hx⟩,fun n o N fw lk cr hr=>?_,fun j sh=>by rw[yT ht<|gf _ _ _];exact c4 j sh⟩;rcases ar n o lk with⟨_,_,q4⟩|⟨p2,fe,rfl,rfl⟩
     ·rw[ae.ki q4] at cr;cases cr
     ·rw[V.wm fe] at hr;obtain⟨o2,k1,k2⟩:=tS p2 fe cr;exact c3 p2.2.1 o2 N (V.nm p2 fe).2.2 k1 k2 hr
  ·obtain⟨p1,ja,y1,z1⟩:=iZ;obtain⟨p2,fe,y2,z2⟩:=pW;rcases ar m _ hg with⟨_,_,q4⟩|⟨q1,KY,e1,e2⟩
   ·cases q4
   ·rcases ar n _ lk with⟨_,_,q4⟩|⟨q2,GX,e3,e4⟩
    ·cases q4
    ·have:=V.fn p1 ja q1 KY<|y1.trans e1.symm;subst this;have:=V.fn p2 fe q2 GX<|y2.trans e3.symm;subst this;obtain⟨k1,v1,g1,_⟩:=rN p1 ja (by rw[e2];rfl);obtain⟨k2,v2,g2,_⟩:=rN p2 fe (by rw[e4];rfl);exact t2 _ _ x _ _ _ _ (V.nm p1 ja).2.2 (V.nm p2 fe).2.2 g1 g2 (fun q=>ch<|by rw[←y1, ←y2,V.inj p1 ja p2 fe q]) z1 z2
end Go.Rn
namespace Go.Rn
open Go.RowKit
theorem Ji{J a:Nat}{B:aI}{ρ σ:Ren}{w w':World}{h h4 h':Tr ae}{L:Vw}{L2:List<|Nat×ae}{cW:Nat->Nat->Prop}(r:Rel B ρ h w)(T:DV B ρ h w cW)(V:z7 J ρ h L)(q3:Rel (tE B ρ w<|wH ρ cW L) σ h4 w')(q4:cx (tE B ρ w<|wH ρ cW L) w w')(oH:∀p∈L,σ p.1=ρ p.2.1)(yw:∀m x,top<=m->ρ m=some x->σ m=some x)(h2:∀n q,(n,q)∈L2->∃p∈L,p.2.1=n/\∃o1,h4.get p.1=some o1/\((q.own=true/\p.2.2.own=true/\∀N o',OR σ N o1 o'->OR (cF ρ σ) N q o')\/∃k v v0,o1= .tok k v/\q= .tok k v/\p.2.2= .tok k v0))(h3:∀p∈L,p.2.2.dk=false->∃o1,h4.get p.1=some o1/\o1.dk=false)(hh:∀k,k<top->(∃q,(k,q)∈L2/\h'.get k=some q)\/((∀q∈L,q.2.1≠k)/\h'.get k=h.get k)):
 Ext a a ρ (cF ρ σ)/\jl σ (cF ρ σ)/\Rel B (cF ρ σ) h' w'/\cx B w w':=by
 obtain⟨t1,t2⟩:=T;have hl:ρ.le<|cF ρ σ:=by
  intro k x e;unfold cF;by_cases hk:top<=k
  ·rw[if_pos hk];exact yw k x hk e
  ·rw[if_neg hk];exact e
 have cO:∀k,k<top->cF ρ σ k=ρ k:=fun k hk=>by unfold cF;rw[if_neg aj]
 have gI:∀k,top<=k->cF ρ σ k=σ k:=fun k hk=>by unfold cF;rw[if_pos hk]
 have tS:∀p∈L,p.2.2.dk=false->∃o,h.get p.2.1=some o/\o.dk=false/\o.own=true:=fun p hp e=>by
  obtain⟨o,g1,⟨g2,_⟩|⟨k,v,_,g2⟩⟩:=V.is p hp
  ·exact⟨o,g1,(ae.uM g2).2,g2⟩
  ·rw[g2] at e;cases e
 have rN:∀p∈L,p.2.2.kV=true->∃k v,h.get p.2.1=some (.tok k v)/\p.2.2= .tok k v:=fun p hp e=>by
  obtain⟨o,g1,⟨_,g2,_⟩|⟨k,v,rfl,g2⟩⟩:=V.is p hp
  ·generalize p.2.2=q at e g2;cases q<;>first|(cases e;done)|cases g2
  ·exact⟨k,v,g1,g2⟩
 have pO:∀x,wH ρ cW L x->B.may x:=fun x hx=>by
  rcases hx with⟨p,hp,ho,N,e⟩|⟨p,hp,ho,e⟩
  ·obtain⟨o,g1,g2,_⟩:=tS p hp ho;obtain⟨x1,N1,_,e1,_,_,e3⟩:=r.is p.2.1 o (V.nm p hp).2.2 g1;rw[e] at e1;cases e1;exact e3 g2
  ·obtain⟨k,v,g1,_⟩:=rN p hp ho;obtain⟨_,_,_,_,_,f⟩:=t1 _ k v (V.nm p hp).2.2 g1;exact(f x e).2.1
 have Bx:cx B w w':=⟨q4.os,q4.tape,q4.output,q4.size,fun x hx hm=>q4.block x hx fun z=>by
  rcases z with z|z
  ·have z:w.heap.size<=x:=z;omega
  ·exact hm<|pO x z⟩
 have mM:∀x,x<w.heap.size->¬wH ρ cW L x->w'.heap[x]? =w.heap[x]? :=fun x hx hm=>q4.block x hx fun z=>by
  rcases z with z|z
  ·have z:w.heap.size<=x:=z;omega
  ·exact hm z
 have cs:∀m o,m<top->h'.get m=some o->(∃p∈L,p.2.1=m/\∃o1,h4.get p.1=some o1/\((o.own=true/\p.2.2.own=true/\∀N o',OR σ N o1 o'->OR (cF ρ σ) N o o')\/∃k v v0,o1= .tok k v/\o= .tok k v/\p.2.2= .tok k v0))\/((∀q∈L,q.2.1≠m)/\h.get m=some o):=fun m o hm ho=>by
  rcases hh m hm with⟨q,e1,e2⟩|⟨e1,e2⟩
  ·rw[ho] at e2;cases e2;exact .inl<|h2 m o e1
  ·exact .inr ⟨e1,by rw[←e2];exact ho⟩
 have dy:∀m o,m<top->h'.get m=some o->∃q,h.get m=some q/\(o.dk=false->q.dk=false):=fun m o hm ho=>by
  rcases cs m o hm ho with⟨p,hp,rfl,o1,g1,⟨y1,y2,_⟩|⟨k,v,v0,_,y1,_⟩⟩|⟨_,e⟩
  ·obtain⟨q,g1,g2,_⟩:=tS p hp (ae.uM y2).2;exact⟨q,g1,fun _=>g2⟩
  ·obtain⟨q,g1,_⟩:=V.is p hp;exact⟨q,g1,fun z=>by rw[y1] at z;cases z⟩
  ·exact⟨o,e,id⟩
 have other:∀m o x M,m<top->(∀q∈L,q.2.1≠m)->h.get m=some o->ρ m=some (x,M)->¬wH ρ cW L x:=fun m o x M hm ch ho e=>by
  rintro (⟨p,hp,ja,N,e1⟩|⟨p,hp,ja,e1⟩)
  ·obtain⟨q,g1,g2,_⟩:=tS p hp ja;exact ch p hp<|r.one p.2.1 m q o x N M (V.nm p hp).2.2 hm g1 ho (.inl g2) e1 e
  ·obtain⟨k,v,g1,_⟩:=rN p hp ja;obtain⟨_,_,_,_,_,f⟩:=t1 _ k v (V.nm p hp).2.2 g1;obtain⟨⟨_,c1⟩,_,c3,_⟩:=f x e1;cases cr:o.dk with
   |false=>exact c3 m o M hm ho cr e
   |true=>
    by_cases hf:o.mL=true
    ·obtain⟨b',N',k1,k2⟩:=r.tk.1.2 m o hm ho hf;rw[e] at k1;cases k1;omega
    ·cases o<;>first|(cases cr;done)|(exact hf rfl)|skip
     rename_i k' wg;obtain⟨b',N',k1,_,k3,_⟩:=t1 m k' wg hm ho;rw[e] at k1;cases k1;exact t2 _ m x k v k' wg (V.nm p hp).2.2 hm g1 ho (ch p hp) e1 k3
 have se:∀x,j8 ρ h x->j8 (cF ρ σ) h' x:=fun x hn m o M hm ho cr e=>by obtain⟨q,g1,g2⟩:=dy m o hm ho;rw[cO m hm] at e;exact hn m q M hm g1 (g2 cr) e
 have zD:∀x,w.heap.size<=x->j8 (cF ρ σ) h' x:=fun x hx m o M hm ho cr e=>by obtain⟨q,g1,_⟩:=dy m o hm ho;rw[cO m hm] at e;obtain⟨b1,N1,o1,e1,e2,_⟩:=r.is m q hm g1;rw[e] at e1;cases e1;have:=ib e2;omega
 have agn:∀p∈L,∀o,h.get p.2.1=some o->o.own=true\/o.kV=true:=fun p hp o ho=>by
  obtain⟨q,g1,⟨g2,_⟩|⟨k,v,g2,_⟩⟩:=V.is p hp
  ·rw[ho] at g1;cases g1;exact .inl g2
  ·rw[ho,g2] at g1;cases g1;exact .inr rfl
 have Wk:∀i,h.get i=some .iy->∀q∈L,q.2.1≠i:=fun i e q hq z=>by rcases agn q hq .iy (by rw[z];exact e) with y|y<;>cases y
 obtain⟨⟨_,_⟩,Hq,s1,s2⟩:=q3.tk;refine⟨⟨hl,fun k hk _=>cO k hk⟩,fun k x hk e=>by rw[gI k hk];exact e,⟨fun m o hm ho=>?_,fun m m2 o p x M M2 hm cQ ho hp cS e1 e2=>?_,fun m i es ex left cur hm ho=>?_,fun x hx=>r.size x<|Nat.le_trans q4.size hx,fun i j m es ex left cur gY iW iH iJ hi hj ho hp=>?_,fun j x sh e=>?_,?_⟩,Bx⟩
 ·rcases cs m o hm ho with⟨p,hp,rfl,o1,g1,⟨y1,y2,g2⟩|⟨k,v,v0,y1,y2,y3⟩⟩|⟨ch,e⟩
  ·obtain⟨b1,N1,o',e1,e2,e3,_⟩:=q3.is p.1 o1 (V.nm p hp).2.1 g1;rw[oH p hp] at e1;exact⟨b1,N1,o',(cO _ hm).trans e1,e2,g2 _ _ e3,fun _=>pO b1<|.inl ⟨p,hp,(ae.uM y2).2,N1,e1⟩⟩
  ·obtain⟨b1,N1,o',e1,e2,e3,_⟩:=q3.is p.1 o1 (V.nm p hp).2.1 g1;rw[oH p hp] at e1;rw[y2];exact⟨b1,N1,o',(cO _ hm).trans e1,e2,trivial,fun z=>by cases z⟩
  ·obtain⟨b1,N1,o1,e1,e2,e3,e4⟩:=r.is m o hm e;exact⟨b1,N1,o1,(cO m hm).trans e1,(mM b1 (ib e2)<|other m o b1 N1 hm ch e e1).trans e2,e3.mono hl,e4⟩
 ·rw[cO m hm] at e1;rw[cO m2 cQ] at e2;obtain⟨o1,a1,a2⟩:=dy m o hm ho;obtain⟨o2,a3,a4⟩:=dy m2 p cQ hp;exact r.one m m2 o1 o2 x M M2 hm cQ a1 a3 (cS.imp a2 a4) e1 e2
 ·rcases cs m _ hm ho with⟨p,hp,_,_,_,⟨y1,_⟩|⟨k,v,v0,_,y2,_⟩⟩|⟨ch,e⟩
  ·cases y1
  ·cases y2
  ·obtain⟨hi,fu,b1,N1,bm,M,l,bq,seen,u1,u2,u3,u4,u5⟩:=r.iter m i es ex left cur hm e;have u:mV ρ w' m i es ex left cur:=⟨b1,N1,bm,M,l,bq,seen,u1,u2,(mM b1 (ib u3)<|other m _ b1 N1 hm ch e u1).trans u3,(mM bm (ib u4)<|other i _ bm M hi (Wk i fu) fu u2).trans u4,u5⟩;refine⟨hi,?_,u.mono hl⟩;rcases hh i hi with⟨q,f1,f2⟩|⟨_,f2⟩
   ·obtain⟨p,hp,f3,_⟩:=h2 i q f1;exact absurd f3<|Wk i fu p hp
   ·rw[f2];exact fu
 ·rcases cs i _ hi ho with⟨p,hp,_,_,_,⟨y1,_⟩|⟨k,v,v0,_,y2,_⟩⟩|⟨_,e⟩
  ·cases y1
  ·cases y2
  ·rcases cs j _ hj hp with⟨p,hp,_,_,_,⟨y1,_⟩|⟨k,v,v0,_,y2,_⟩⟩|⟨_,e'⟩
   ·cases y1
   ·cases y2
   ·exact r.lone i j m es ex left cur gY iW iH iJ hi hj e e'
 ·rw[gI _<|gf _ _ _] at e;obtain⟨g0,l,c,e',fr,g1,g2,gn,g4⟩:=q3.fz j x sh e;have mH:∀i y,l[i]? =some y->∃v,c[sh+i]? =some v/\VR (gp<|cF ρ σ) y v/\y.bR=true:=fun i y hy=>by
   obtain⟨v,k1,k2,k3⟩:=g4 i y hy;refine⟨v,k1,VR.mono (fun z u q=>?_) _ _ k2,k3⟩;unfold gp at q ⊢;split at q
   ·rename_i hk;rw[if_pos hk,gI z hk];exact q
   ·cases q
  by_cases q:ρ (hn j x sh)≠none
  ·obtain⟨z0,l',c',e2,kv,z1,z2,z3,_⟩:=r.fz j x sh q;exact⟨z0,l,c,e',fr,g1,g2,se x z3,mH⟩
  ·rcases g0.resolve_left q with z|z
   ·have z:w.heap.size<=x:=z;exact⟨.inr<|r.size x z,l,c,e',fr,g1,g2,zD x z,mH⟩
   ·refine⟨.inr<|pO x z,l,c,e',fr,g1,g2,?_,mH⟩;rcases z with⟨p,hp,ho,N,e1⟩|⟨p,hp,ho,e1⟩
    ·obtain⟨o1,f1,f2⟩:=h3 p hp ho;exact absurd ((oH p hp).trans e1)<|gn p.1 o1 N (V.nm p hp).2.1 f1 f2
    ·obtain⟨k,v,k1,_⟩:=rN p hp ho;obtain⟨_,_,_,_,_,f⟩:=t1 _ k v (V.nm p hp).2.2 k1;exact se x (f x e1).2.2.1
 ·let H':Nat->Nat->Prop:=fun m x=>(∃p∈L,p.2.1=m/\Hq p.1 x)\/((∀p∈L,p.2.1≠m)/\cW m x);have Er:∀p∈L,H' p.2.1=Hq p.1:=fun p hp=>funext fun x=>propext ⟨fun z=>by
   rcases z with⟨q,hq,e1,e2⟩|⟨e1,_⟩
   ·rw[V.inj q hq p hp e1] at e2;exact e2
   ·exact absurd rfl<|e1 p hp,fun z=>.inl ⟨p,hp,rfl,z⟩⟩
  have Es:∀m,(∀p∈L,p.2.1≠m)->H' m=cW m:=fun m hm=>funext fun x=>propext ⟨fun z=>by
   rcases z with⟨q,hq,e1,_⟩|⟨_,z⟩
   ·exact absurd e1 (hm q hq)
   ·exact z,fun z=>.inr ⟨hm,z⟩⟩
  have B8:∀p∈L,∀k v,h4.get p.1=some (.tok k v)->∀x,Hq p.1 x->x<w'.heap.size/\(w.heap.size<=x\/wH ρ cW L x)/\∀j sh,σ (hn j x sh)=none:=fun p hp k v hg x hx=>by obtain⟨_,_,_,_,_,f⟩:=s1 p.1 k v (V.nm p hp).2.1 hg;obtain⟨⟨c1,_⟩,c2,_,c4⟩:=f x hx;exact⟨c1,c2,c4⟩
  have JX:∀m k v,m<top->h'.get m=some (.tok k v)->(∃p∈L,p.2.1=m/\h4.get p.1=some (.tok k v)/\∃v0,p.2.2= .tok k v0)\/((∀q∈L,q.2.1≠m)/\h.get m=some (.tok k v)):=fun m k v hm ho=>by
   rcases cs m _ hm ho with⟨p,hp,e0,o1,g1,⟨y1,_⟩|⟨k',v',v0,y1,y2,y3⟩⟩|z
   ·cases y1
   ·cases y2;exact .inl ⟨p,hp,e0,by rw[g1,y1],v0,y3⟩
   ·exact .inr z
  have sep:∀m k v,m<top->(∀q∈L,q.2.1≠m)->h.get m=some (.tok k v)->∀x,cW m x->(w.heap.size<=x\/wH ρ cW L x)->False:=fun m k1 v1 hm ch hg x hx z=>by
   obtain⟨_,_,_,_,_,f4⟩:=t1 m k1 v1 hm hg;rcases z with z|⟨p,hp,Cc,N,e1⟩|⟨p,hp,Cc,e1⟩
   ·have:=(f4 x hx).1.1;omega
   ·obtain⟨q,g1,g2,_⟩:=tS p hp Cc;exact(f4 x hx).2.2.1 p.2.1 q N (V.nm p hp).2.2 g1 g2 e1
   ·obtain⟨k,v,g1,_⟩:=rN p hp Cc;exact t2 _ m x k v k1 v1 (V.nm p hp).2.2 hm g1 hg (ch p hp) e1 hx
  refine⟨⟨Nat.le_trans r.tk.1.1 q4.size,fun m o hm ho hf=>?_⟩,H',fun m k1 v1 hm ho=>?_,fun m m2 x k1 v1 k2 v2 hm cQ ho hp ch z1 z2=>?_⟩
  ·rcases cs m o hm ho with⟨p,hp,_,_,_,⟨y1,_⟩|⟨k,v,v0,_,y2,_⟩⟩|⟨_,e⟩
   ·cases o<;>first|(cases hf;done)|cases y1
   ·rw[y2] at hf;cases hf
   ·obtain⟨b1,N1,e1,e2⟩:=r.tk.1.2 m o hm e hf;exact⟨b1,N1,(cO m hm).trans e1,e2⟩
  ·rcases JX m k1 v1 hm ho with⟨p,hp,rfl,hg,v0,X1⟩|⟨ch,hg⟩
   ·obtain⟨b1,N1,f1,f2,f3,f4⟩:=s1 p.1 k1 v1 (V.nm p hp).2.1 hg;have hpt:p.2.2.kV=true:=by rw[X1];rfl
    refine⟨b1,N1,(cO _ hm).trans<|(oH p hp).symm.trans f1,?_,by rw[Er p hp];exact f3,fun x hx=>?_⟩
    ·rw[Er p hp];exact B.mono f2 (fun i y hi q=>by rw[gI i hi];exact q) fun _ _=>rfl
    ·rw[Er p hp] at hx;obtain⟨c1,c2,c4⟩:=B8 p hp k1 v1 hg x hx;obtain⟨⟨_,ah1⟩,_,c3,_⟩:=f4 x hx;refine⟨⟨c1,ah1⟩,?_,?_,fun j sh=>by rw[gI _<|gf _ _ _];exact c4 j sh⟩
     ·rcases c2 with y|y
      ·exact r.size x y
      ·exact pO x y
     ·rcases c2 with y|y
      ·exact zD x y
      ·rcases y with⟨p2,fe,QO,N2,e2⟩|⟨p2,fe,QO,e2⟩
       ·obtain⟨o1,k1',k2'⟩:=h3 p2 fe QO;exact absurd ((oH p2 fe).trans e2)<|c3 p2.1 o1 N2 (V.nm p2 fe).2.1 k1' k2'
       ·obtain⟨k,v,g1,_⟩:=rN p2 fe QO;obtain⟨_,_,_,_,_,f⟩:=t1 _ k v (V.nm p2 fe).2.2 g1;exact se x (f x e2).2.2.1
   ·obtain⟨b1,N1,f1,f2,f3,f4⟩:=t1 m k1 v1 hm hg;have W3:∀x,cW m x->¬wH ρ cW L x:=fun x hx z=>by
     rcases z with⟨p,hp,Cc,N,e1⟩|⟨p,hp,Cc,e1⟩
     ·obtain⟨q,g1,g2,_⟩:=tS p hp Cc;exact(f4 x hx).2.2.1 p.2.1 q N (V.nm p hp).2.2 g1 g2 e1
     ·obtain⟨k,v,g1,_⟩:=rN p hp Cc;exact t2 _ m x k v k1 v1 (V.nm p hp).2.2 hm g1 hg (ch p hp) e1 hx
    refine⟨b1,N1,(cO m hm).trans f1,?_,by rw[Es m ch];exact f3,fun x hx=>?_⟩
    ·rw[Es m ch];exact B.mono f2 (fun i y _ e=>hl _ _ e) fun x hx=>mM x (f4 x hx).1.1<|W3 x hx
    ·rw[Es m ch] at hx;obtain⟨⟨c1,cl⟩,c2,c3,c4⟩:=f4 x hx;refine⟨⟨Nat.lt_of_lt_of_le c1 q4.size,cl⟩,c2,se x c3,fun j sh=>Classical.byContradiction fun z=>?_⟩;rw[gI _<|gf _ _ _] at z;rcases(q3.fz j x sh z).1 with y|y
     ·exact y<|c4 j sh
     ·rcases y with y|y
      ·have y:w.heap.size<=x:=y;omega
      ·exact W3 x hx y
  ·rcases JX m k1 v1 hm ho with⟨p1,ja,rfl,hg,v0,X1⟩|⟨DW,hg⟩
   ·rw[Er p1 ja] at z1;obtain⟨c1,c2,_⟩:=B8 p1 ja k1 v1 hg x z1;rcases JX m2 k2 v2 cQ hp with⟨p2,fe,rfl,Cd,v02,ah2⟩|⟨Kp,Cd⟩
    ·rw[Er p2 fe] at z2;exact s2 p1.1 p2.1 x k1 v1 k2 v2 (V.nm p1 ja).2.1 (V.nm p2 fe).2.1 hg Cd (fun q=>ch<|by rw[V.fn p1 ja p2 fe q]) z1 z2
    ·rw[Es m2 Kp] at z2;exact sep m2 k2 v2 cQ Kp Cd x z2 c2
   ·rw[Es m DW] at z1;rcases JX m2 k2 v2 cQ hp with⟨p2,fe,rfl,Cd,v02,ah2⟩|⟨Kp,Cd⟩
    ·rw[Er p2 fe] at z2;exact sep m k1 v1 hm DW hg x z1 (B8 p2 fe k2 v2 Cd x z2).2.1
    ·rw[Es m2 Kp] at z2;exact t2 m m2 x k1 v1 k2 v2 hm cQ hg Cd ch z1 z2
end Go.Rn
namespace Go.Rn
open Go.RowKit
variable {ρ σ:Ren} {β:Type} {o:ae} {v:AV} {s1 s:AS} {o':Obj} {c:Prop} {N:Nat}
structure Cb where
 fn:FuncId
 nt:Nat
 ps:List Tmp
 a:Code
 b:Code
 s1:Nat
 s2:Nat
structure fx where
 ret:Bool
 v1:AV
 v2:AV
 bN:Option Code
noncomputable section
def zl:ae->Option AV
 | .cells 1 t z=>cellAt t z 0
 |_=>none
def eN(v:AV):ae:=.cells 1 (Tr.fill [v] 0 .nil) []
def ago(p:Option Code):LoopState:=match p with
 |none=>.ready
 |some _=>.done
def Cb.loop(K:Cb)(bN:Option Code)(c1 c2 df:Nat):ae:=.loop (ago bN) bN K.fn (aC [(K.s1,.ptr<|some (c1,0)),(K.s2,.ptr<|some (c2,0))]) K.nt K.ps K.a K.b df
def DA(v:Option AV):Option Nat:=match v with
 |some (.ptr (some (c,0)))=>some c
 |_=>none
open Classical in
def iI(c:Prop)(m:M β):M β:=aF (decide c) m
structure Wl where
 fn:FuncId
 t:Tr AV
 nt:Nat
 ps:List Tmp
 a:Code
 b:Code
 df:Nat
def JY:ae->Option Wl
 | .loop .ready none fn t nt ps a b df=>some ⟨fn,t,nt,ps,a,b,df⟩
 |_=>none
def GB(K:Cb)(val:AV->AV->AV->Option fx)(x:AV)(L:Nat):M AV:=
 (bu L).bind fun o=>aA (JY o) fun q=>
 iI (q.fn=K.fn/\q.nt=K.nt/\q.ps=K.ps/\q.a=K.a/\q.b=K.b) <|
 aA (DA<|q.t.get K.s1) fun c1=>aA (DA<|q.t.get K.s2) fun c2=>
 iI (L≠q.df/\L≠c1/\L≠c2/\q.df≠c1/\q.df≠c2/\c1≠c2) <|
 (bu q.df).bind fun od=>iI (od= .defs) <| (bu c1).bind fun o1=>(bu c2).bind fun o2=>
 aA (zl o1) fun v1=>aA (zl o2) fun v2=>aA (val x v1 v2) fun p=>
 iI (v1.hi=true/\v2.hi=true/\p.v1.hi=true/\p.v2.hi=true/\p.v1.bR=true/\p.v2.bR=true/\v1.bR=true/\v2.bR=true) <|
 (bK L<|some<|K.loop p.bN c1 c2 q.df).bind fun _=>(bK q.df<|some .defs).bind fun _=>(bK c1<|some<|eN p.v1).bind fun _=>(bK c2<|some<|eN p.v2).bind fun _=>M.pure<|.bool p.ret
def qQ(K:Cb)(val:AV->AV->AV->Option fx)(J:Nat)(ns:List Nat)(h0:Tr ae):aJ->List AV->M AV:=fun _ args=>match args with
 |[x,.yield L]=>aF x.hi <| (fI J h0 ns).bind fun _=>GB K val x L
 |_=>fail
end
open Classical in
theorem wN{m:M β}{b:β}(h:iI c m s= .ok b s1):c/\m s= .ok b s1:=by unfold iI at h;obtain⟨h1,h2⟩:=cX h;exact⟨of_decide_eq_true h1,h2⟩
theorem wQ{m:M β}(h:c):iI c m=m:=by unfold iI;simp only[h,decide_true];rfl
theorem YQ.iI{β:Type}{c:Prop}{m:M β}(h:YQ m):YQ<|iI c m:=YQ.aF fun _=>h
theorem YQ.qQ(K:Cb)(val:AV->AV->AV->Option fx)(J:Nat)(ns:List Nat)(h0:Tr ae)(YR:aJ)(args:List AV):YQ<|qQ K val J ns h0 YR args:=by
 unfold Rn.qQ;split
 ·refine YQ.aF fun _=>YQ.bind (YQ.fI J h0 ns) fun _=>?_;unfold GB;refine YQ.bind (YQ.bu _) fun o=>YQ.aA fun q _=>YQ.iI <| YQ.aA fun c1 _=>YQ.aA fun c2 _=>YQ.iI <| YQ.bind (YQ.bu _) fun _=>YQ.iI <| YQ.bind (YQ.bu _) fun _=>YQ.bind (YQ.bu _) fun _=>YQ.aA fun _ _=>YQ.aA fun _ _=>YQ.aA fun _ _=>YQ.iI <| YQ.bind (YQ.bK _ _) fun _=>YQ.bind (YQ.bK _ _) fun _=>YQ.bind (YQ.bK _ _) fun _=>YQ.bind (YQ.bK _ _) fun _=>YQ.pure _
 ·exact YQ.fail
theorem aa2{q:Wl}(h:JY o=some q):o= .loop .ready none q.fn q.t q.nt q.ps q.a q.b q.df:=by
 unfold JY at h;split at h
 ·injection h with h;subst h;rfl
 ·cases h
theorem Td{v:Option AV}{c:Nat}(h:DA v=some c):v=some (.ptr<|some (c,0)):=by
 unfold DA at h;split at h
 ·injection h with h;subst h;rfl
 ·cases h
theorem E7(h:zl o=some v):∃t z,o= .cells 1 t z/\cellAt t z 0=some v:=by
 unfold zl at h;split at h
 ·exact⟨_,_,rfl,h⟩
 ·cases h
noncomputable def rO(K:Cb)(J:Nat)(P:Program)(rs:List ResultVar)(p:fx):=Fin P rs fun y s'=>y= .bool p.ret/\s'.h.get J=some (K.loop p.bN (J+2) (J+3)<|J+1)/\s'.h.get (J+1)=some .defs/\s'.h.get (J+2)=some (eN p.v1)/\s'.h.get (J+3)=some (eN p.v2)
noncomputable def Jj(K:Cb)(J:Nat)(v1 v2:AV):List<|Nat×ae:=[(J,K.loop none (J+2) (J+3)<|J+1),(J+1,.defs),(J+2,eN v1),(J+3,eN v2)]
theorem Fw(hb:zl o=some v)(hv:v.hi=true)(h1:v.bR=true)(hr:jl ρ σ)(h:OR ρ N o o'):OR σ N (eN v) o':=by
 obtain⟨t,z,rfl,hc⟩:=E7 hb;obtain⟨c,e,rfl,h2,h3,h4⟩:=h;obtain⟨x,v',a1,a2,a3,a4⟩:=h4 0 aj;rw[hc] at a1;cases a1;refine⟨c,e,rfl,h2,h3,fun i hi=>?_⟩;obtain rfl:i=0:=by omega
 exact⟨v,v',by rfl,h1,a3,AV.pB hr hv a4⟩
theorem wJ(v:AV):zl (eN v)=some v:=rfl
theorem NV{K:Cb}{st:LoopState}{bN:Option Code}{t:Tr AV}{c1 c2 df d1 d2 dg:Nat}(ht1:K.s1<top)(Ee:K.s2<top)(h1:t.get K.s1=some (.ptr<|some (c1,0)))(h2:t.get K.s2=some (.ptr<|some (c2,0)))(e1:∀x,ρ c1=some x->σ d1=some x)(e2:∀x,ρ c2=some x->σ d2=some x)(e3:∀x,ρ df=some x->σ dg=some x)(h:OR ρ N (.loop st bN K.fn t K.nt K.ps K.a K.b df) o'):OR σ N (.loop st bN K.fn (aC [(K.s1,.ptr<|some (d1,0)),(K.s2,.ptr<|some (d2,0))]) K.nt K.ps K.a K.b dg) o':=by
 obtain⟨a,b,M,rfl,h3,h4,h5,h6⟩:=h;refine⟨a,b,M,rfl,⟨h3.1,fun i x hx=>?_⟩,h4,e3 _ h5,h6⟩;have hm:=CH (fun p hp=>by
  rcases List.mem_cons.1 hp with rfl|hp
  ·exact ht1
  ·rcases List.mem_cons.1 hp with rfl|hp
   ·exact Ee
   ·cases hp) hx
 rcases List.mem_cons.1 hm with hm|hm
 ·cases hm;have:=h3.2 _ _ h1;simp only[VR] at this ⊢;obtain⟨b',N',q1,q2⟩:=this;exact⟨b',N',e1 _ q1,q2⟩
 ·rcases List.mem_cons.1 hm with hm|hm
  ·cases hm;have:=h3.2 _ _ h2;simp only[VR] at this ⊢;obtain⟨b',N',q1,q2⟩:=this;exact⟨b',N',e2 _ q1,q2⟩
  ·cases hm
theorem adp{P:Program}{B:aI}{f J:Nat}{ns:List Nat}{h0:Tr ae}{kn:List<|Nat×Option ae}{K:Cb}{val:AV->AV->AV->Option fx}{fn:Func}{body:Code}{w:World}(hP:bS P)(cm:P.funcs[f]? =some fn)(cw:fn.body=some body)(dF:(fn.name == "runtime.NumGoroutine")=false)(ga:fL<=J)(dM:J+4<=top)(jM:K.s1<top)(kH:K.s2<top)(mP:K.s1≠K.s2)(dL:∀n o,n<top->h0.get n=some o->n∈ns)(eC:∀n∈ns,n<J)(jt:∀n o,(n,some o)∈kn->h0.get n=some o)(jw:∀p∈kn,p.1<top)(eV:∀x v1 v2 p,val x v1 v2=some p->max fn.ntmps 2<=top/\∀B':aI,B'.F=B.F->B'.inv=B.inv->
 au P B' (J+4) (rO K J P fn.results.toList p) ⟨f,dc [x,.yield J],max fn.ntmps 2,[.code body],[],none⟩ ⟨fU<|kn++aY (Jj K J v1 v2),J+4,0,[],[]⟩){YR:aJ}{args:List AV}{x:AV}{vs:Array Value}(r:Rel B ρ s.h w)(hg:gD ρ)(h:qQ K val J ns h0 YR args s= .ok x s1)(hv:ay ρ args vs.toList):jk P ((callFunc f vs).run P w)<|km B ρ s s1 w x:=by
 unfold qQ at h;split at h
 ·rename_i x0 L;obtain⟨gI,h1⟩:=cX h;obtain⟨u,s2,h2,h3⟩:=M.aN h1;obtain⟨a1,a2,a3⟩:=uI h2;unfold GB at h3;obtain⟨o,s3,k1,h3⟩:=M.aN h3;obtain⟨q,hq,h3⟩:=bw h3;obtain⟨⟨f1,f2,f3,f4,f5⟩,h3⟩:=wN h3;obtain⟨c1,jJ,h3⟩:=bw h3;obtain⟨c2,we,h3⟩:=bw h3;obtain⟨⟨n1,n2,n3,n4,n5,n6⟩,h3⟩:=wN h3;obtain⟨od,s4,k2,h3⟩:=M.aN h3;obtain⟨hod,h3⟩:=wN h3;obtain⟨o1,s5,k3,h3⟩:=M.aN h3;obtain⟨o2,s6,k4,h3⟩:=M.aN h3;obtain⟨v1,Ek,h3⟩:=bw h3;obtain⟨v2,rV,h3⟩:=bw h3;obtain⟨p,hp,h3⟩:=bw h3;obtain⟨⟨g1,g2,g3,g4,g5,g6,g7,g8⟩,h3⟩:=wN h3;obtain⟨u1,t1,w1,h3⟩:=M.aN h3;obtain⟨u2,t2,w2,h3⟩:=M.aN h3;obtain⟨u3,t3,w3,h3⟩:=M.aN h3;obtain⟨u4,t4,w4,h3⟩:=M.aN h3;obtain⟨rfl,rfl⟩:=bB h3;obtain⟨r1,r2,r3,r4⟩:=fX k1;obtain⟨r5,r6,r7,r8⟩:=fX k2;obtain⟨r9,X2,X3,r12⟩:=fX k3;obtain⟨r13,X4,r15,r16⟩:=fX k4;obtain⟨x1,x2,_,x4,x5⟩:=jB w1;obtain⟨y1,y2,_,y4,y5⟩:=jB w2;obtain⟨z1,z2,_,z4,z5⟩:=jB w3;obtain⟨m1,m2,_,m4,m5⟩:=jB w4;have X5:=aa2 hq;have p1:=Td jJ;have p2:=Td we;obtain⟨qfn,qt,qnt,qps,qa,qb,df⟩:=q;simp only at f1 f2 f3 f4 f5 n1 n2 n3 n4 n5 n6 X5 p1 p2 jJ we k2 k3 k4 w1 w2 w3 w4 y1 y2 y4 r5 r6 r7 r8 x4 hq;subst f1;subst f2;subst f3;subst f4;subst f5;subst hod;rw[X5,a1] at r2;rw[r3,a1] at r6;rw[r7,r3,a1] at X2;rw[X3,r7,r3,a1] at X4;obtain⟨tz1,zz1,bo1,_⟩:=E7 Ek;obtain⟨tz2,zz2,bo2,_⟩:=E7 rV;let V:Vw:=[(J,L,K.loop none (J+2) (J+3)<|J+1),(J+1,df,.defs),(J+2,c1,eN v1),(J+3,c2,eN v2)];have mem:∀q∈V,q=(J,L,K.loop none (J+2) (J+3)<|J+1)\/q=(J+1,df,.defs)\/q=(J+2,c1,eN v1)\/q=(J+3,c2,eN v2):=fun q hq=>by simpa[V] using hq
  have e0:∀gH:Ren,eW J gH V J=gH L:=fun gH=>by
   unfold eW;rw[if_neg aj,if_neg aj];show(match gL V J with|some n=>gH n|none=>none)=_;have:gL V J=some L:=by simp[gL,V]
   rw[this]
  have e1:∀gH:Ren,eW J gH V (J+1)=gH df:=fun gH=>by
   unfold eW;rw[if_neg aj,if_neg aj];show(match gL V (J+1) with|some n=>gH n|none=>none)=_;have:gL V (J+1)=some df:=by simp[gL,V]
   rw[this]
  have e2:∀gH:Ren,eW J gH V (J+2)=gH c1:=fun gH=>by
   unfold eW;rw[if_neg aj,if_neg aj];show(match gL V (J+2) with|some n=>gH n|none=>none)=_;have:gL V (J+2)=some c1:=by simp[gL,V]
   rw[this]
  have e3:∀gH:Ren,eW J gH V (J+3)=gH c2:=fun gH=>by
   unfold eW;rw[if_neg aj,if_neg aj];show(match gL V (J+3) with|some n=>gH n|none=>none)=_;have:gL V (J+3)=some c2:=by simp[gL,V]
   rw[this]
  have hi:jl ρ<|eW J ρ V:=fun m x hm e=>by rw[yT aj hm];exact e
  have hV:z7 J ρ s.h V:=by
   refine⟨fun q hq=>?_,fun q hq q' eg e=>?_,fun q hq q' eg e=>?_,fun q hq=>?_⟩
   ·rcases mem q hq with rfl|rfl|rfl|rfl
    ·exact⟨Nat.le_refl _,by omega,x2⟩
    ·exact⟨by omega,by omega,y2⟩
    ·exact⟨by omega,by omega,z2⟩
    ·exact⟨by omega,by omega,m2⟩
   ·rcases mem q hq with rfl|rfl|rfl|rfl<;>rcases mem q' eg with rfl|rfl|rfl|rfl<;>first|rfl|(simp only at e;omega)
   ·rcases mem q hq with rfl|rfl|rfl|rfl<;>rcases mem q' eg with rfl|rfl|rfl|rfl<;>first|rfl|(simp only at e;omega)
   ·rcases mem q hq with rfl|rfl|rfl|rfl
    ·exact⟨_,r2,.inl ⟨rfl,rfl,fun N o' hO=>NV jM kH p1 p2 (fun x e=>by rw[e2];exact e) (fun x e=>by rw[e3];exact e) (fun x e=>by rw[e1];exact e) hO⟩⟩
    ·exact⟨_,r6,.inl ⟨rfl,rfl,fun N o' hO=>hO⟩⟩
    ·exact⟨_,X2,.inl ⟨by rw[bo1];rfl,rfl,fun N o' hO=>Fw Ek g1 g7 hi hO⟩⟩
    ·exact⟨_,X4,.inl ⟨by rw[bo2];rfl,rfl,fun N o' hO=>Fw rV g2 g8 hi hO⟩⟩
  obtain⟨_,cW,T⟩:=r.tk;have T:DV B ρ s.h w cW:=T;have nK:=JW aj r T dL eC jt jw (fun n hn=>by obtain⟨_,o,p,h⟩:=a3 n hn;exact⟨o,p,h⟩) hV;obtain⟨d1,d2⟩:=eV _ _ _ _ hp;have fi:bC (⟨fU<|kn++aY (Jj K J v1 v2),J+4,0,[],[]⟩:AS):=⟨Nat.zero_le _,dM⟩;have ks:ay (eW J ρ V) [x0,.yield J] vs.toList:=by simp only[ay,VR] at hv ⊢;obtain⟨y0,ys,q1,q2,y3,Ef,q3,⟨b',N',q4,q5⟩,q6⟩:=hv;exact⟨y0,ys,q1,AV.pB hi gI q2,y3,Ef,q3,⟨b',N',(e0 ρ).trans q4,q5⟩,q6⟩
  have bH:=au.FK (B:=tE B ρ w<|wH ρ cW V) (s:=⟨fU<|kn++aY (Jj K J v1 v2),J+4,0,[],[]⟩) (args:=[x0,.yield J]) (vs:=vs) hP cm cw d1 (d2 _ rfl rfl) fi nK (fun g iE=>by
   obtain⟨N,e⟩:=hg g iE;exact⟨N,by rw[CU<|Nat.lt_of_lt_of_le iE ga];exact e⟩) (fun m hm kg=>by
   have hm:J+4<=m:=hm;exact HX aj kg fun q hq=>by rcases mem q hq with rfl|rfl|rfl|rfl<;>(show _≠m;simp only;omega)) ks
  rw[sB cm cw dF];show Calls P f vs w _;refine bH.mono fun e w'=>?_;rintro ⟨Ce,x',s7,rfl,⟨rfl,j1,j2,j3,j4⟩,_,σ,i0,Cf,i1,i2,i3⟩;have sV:∀q∈V,σ q.1=ρ q.2.1:=fun q hq=>by
   rcases mem q hq with rfl|rfl|rfl|rfl
   ·exact(i0 J aj aj).trans<|e0 ρ
   ·exact(i0 (J+1) aj aj).trans<|e1 ρ
   ·exact(i0 (J+2) aj aj).trans<|e2 ρ
   ·exact(i0 (J+3) aj aj).trans<|e3 ρ
  have qR:jl σ<|cF ρ σ:=fun k x hk e=>by unfold cF;rw[if_pos hk];exact e
  have P1:∀k,k<top->cF ρ σ k=ρ k:=fun k hk=>by unfold cF;rw[if_neg aj]
  have V0:(J,L,K.loop none (J+2) (J+3)<|J+1)∈V:=by simp[V]
  have V1:(J+1,df,ae.defs)∈V:=by simp[V]
  have V2:(J+2,c1,eN v1)∈V:=by simp[V]
  have V3:(J+3,c2,eN v2)∈V:=by simp[V]
  have Et:σ (J+1)=ρ df:=sV _ V1;have s2':σ (J+2)=ρ c1:=sV _ V2;have s3':σ (J+3)=ρ c2:=sV _ V3;have gt:∀(k c d:Nat),(aC [(K.s1,AV.ptr<|some (c,0)),(K.s2,.ptr<|some (d,0))]).get K.s1=some (.ptr<|some (c,0))/\(aC [(K.s1,AV.ptr<|some (c,0)),(K.s2,.ptr<|some (d,0))]).get K.s2=some (.ptr<|some (d,0)):=fun k c d=>by
   constructor
   ·show(((Tr.nil:Tr AV).put K.s2 _).put K.s1 _).get K.s1=_;rw[Tr.lP _ _ _ _ jM,if_pos rfl]
   ·show(((Tr.nil:Tr AV).put K.s2 _).put K.s1 _).get K.s2=_;rw[Tr.lP _ _ _ _ jM,if_neg fun e=>mP e.symm,Tr.lP _ _ _ _ kH,if_pos rfl]
  obtain⟨b1,b2,b3,b4⟩:=Ji (a:=s.nx) (L2:=[(L,K.loop p.bN c1 c2 df),(df,.defs),(c1,eN p.v1),(c2,eN p.v2)]) (h':=s1.h) r T hV i2 i3 sV (fun m z hm q=>Cf m z hm<|hi m z hm q) (fun n q hm=>by
   rcases List.mem_cons.1 hm with hm|hm
   ·cases hm;exact⟨_,V0,rfl,_,j1,.inl ⟨rfl,rfl,fun N o' hO=>NV jM kH (gt 0 _ _).1 (gt 0 _ _).2 (fun x e=>by rw[P1 c1 z2, ←s2'];exact e) (fun x e=>by rw[P1 c2 m2, ←s3'];exact e) (fun x e=>by rw[P1 df y2, ←Et];exact e) hO⟩⟩
   rcases List.mem_cons.1 hm with hm|hm
   ·cases hm;exact⟨_,V1,rfl,_,j2,.inl ⟨rfl,rfl,fun N o' hO=>hO⟩⟩
   rcases List.mem_cons.1 hm with hm|hm
   ·cases hm;exact⟨_,V2,rfl,_,j3,.inl ⟨rfl,rfl,fun N o' hO=>Fw (wJ _) g3 g5 qR hO⟩⟩
   rcases List.mem_cons.1 hm with hm|hm
   ·cases hm;exact⟨_,V3,rfl,_,j4,.inl ⟨rfl,rfl,fun N o' hO=>Fw (wJ _) g4 g6 qR hO⟩⟩
   cases hm) (fun q hq _=>by
   rcases mem q hq with rfl|rfl|rfl|rfl
   ·exact⟨_,j1,rfl⟩
   ·exact⟨_,j2,rfl⟩
   ·exact⟨_,j3,rfl⟩
   ·exact⟨_,j4,rfl⟩) (fun k hk=>by
   have G9:s1.h=(((s.h.put L<|some<|K.loop p.bN c1 c2 df).put df<|some .defs).put c1<|some<|eN p.v1).put c2 (some<|eN p.v2):=by rw[m4,z4,y4,x4,r15,X3,r7,r3,a1]
   rw[G9,Tr.di _ _ _ _ m2 hk,Tr.di _ _ _ _ z2 hk,Tr.di _ _ _ _ y2 hk,Tr.di _ _ _ _ x2 hk];by_cases q4:k=c2
   ·subst q4;exact .inl ⟨_,by simp,if_pos rfl⟩
   rw[if_neg q4];by_cases q3:k=c1
   ·subst q3;exact .inl ⟨_,by simp,if_pos rfl⟩
   rw[if_neg q3];by_cases q2:k=df
   ·subst q2;exact .inl ⟨_,by simp,if_pos rfl⟩
   rw[if_neg q2];by_cases q1:k=L
   ·subst q1;exact .inl ⟨_,by simp,if_pos rfl⟩
   rw[if_neg q1];exact .inr ⟨fun q hq=>by rcases mem q hq with rfl|rfl|rfl|rfl<;>(intro e;exact absurd e.symm<|by assumption),rfl⟩)
  refine⟨Ce,rfl,cF ρ σ,?_,AV.pB qR rfl i1,b3,b4⟩;have ct:s1.nx=s.nx:=by rw[m5,z5,y5,x5,r16,r12,r8,r4,a2]
  rw[ct];exact b1
 ·cases h
end Go.Rn
namespace Go.Rn
open Go.RowKit
variable {r:Nat->Nat} {n J g df c2 c1:Nat} {s:AS} {K:Cb} {ns:List Nat} {h0:Tr ae} {P:Program}
theorem agp(h:s.mark=0):aV n s=s:=by obtain⟨hh,nx,mark,rd,wr⟩:=s;have h:mark=0:=h;subst h;rfl
theorem TY{J:Nat}{h0:Tr ae}:∀{ns:List Nat} {s s1:AS} {u:Unit},s.mark=0->fI J h0 ns s= .ok u s1->s1=s
 |[],s,s1,u,_,h=>(bB (show M.pure () s= .ok u s1 from h)).2
 |m::ns,s,s1,u,hm,h=>by obtain⟨o,s2,h1,h2⟩:=M.aN (show((bu m).bind fun o=>aA (h0.get m) fun p=>aF (ou J o p) <| fI J h0 ns) s= .ok u s1 from h);obtain⟨a1,a2,rfl⟩:=NJ h1;rw[if_neg aj] at h2;obtain⟨p,_,h3⟩:=bw h2;obtain⟨_,h4⟩:=cX h3;exact TY hm h4
theorem JZ{o:Option ae}{p:ae}(hm:s.mark=0)(h1:n<s.nx)(h2:n<top)(h3:s.h.get n=some p)(h4:p.dk=false):bK n o s= .ok () ⟨s.h.put n o,s.nx,s.mark,s.rd,s.wr⟩:=by rw[Oi h1 h2 h3 h4,if_neg aj]
structure Kq (K:Cb) (s:AS) (L df c1 c2:Nat) (v1 v2:AV):Prop where
 mark:s.mark=0
 nx:s.nx<=top
 lt:L<s.nx/\df<s.nx/\c1<s.nx/\c2<s.nx
 ne:L≠df/\L≠c1/\L≠c2/\df≠c1/\df≠c2/\c1≠c2
 loop:∃t,s.h.get L=some (.loop .ready none K.fn t K.nt K.ps K.a K.b df)/\t.get K.s1=some (.ptr<|some (c1,0))/\t.get K.s2=some (.ptr<|some (c2,0))
 df:s.h.get df=some .defs
 b1:∃o,s.h.get c1=some o/\zl o=some v1
 b2:∃o,s.h.get c2=some o/\zl o=some v2
def okB(v:AV):Prop:=v.hi=true/\v.bR=true
noncomputable def Lf(K:Cb)(s:AS)(L df c1 c2:Nat)(p:fx):AS:=⟨(((s.h.put L<|some<|K.loop p.bN c1 c2 df).put df<|some .defs).put c1<|some<|eN p.v1).put c2<|some<|eN p.v2,s.nx,s.mark,s.rd,s.wr⟩
theorem NW{F:Nat->Option (List AV)}{sp:Sp}{val:AV->AV->AV->Option fx}(h:sp g=some (qQ K val J ns h0)){x v1 v2:AV}{L:Nat}{p:fx}(hx:x.hi=true)(hk:pM J h0 ns s=true)(I:Kq K s L df c1 c2 v1 v2)(hv:val x v1 v2=some p)(o1:okB v1)(o2:okB v2)(o3:okB p.v1)(o4:okB p.v2):
 aZ P sp F (n+1) (.fn g) [x,.yield L] s= .ok (.bool p.ret) (Lf K s L df c1 c2 p):=by
 show jK P sp g (aZ P sp F n) [x,.yield L] s=_;rw[rp h];show(aF x.hi <| (fI J h0 ns).bind fun _=>GB K val x L) s=_;have hc:=xp hk;rw[TY I.mark hc] at hc;rw[hx,dA,M.bL hc];obtain⟨t,l1,l2,l3⟩:=I.loop;obtain⟨q1,q2,q3⟩:=I.b1;obtain⟨r1,r2,r3⟩:=I.b2;obtain⟨n1,n2,n3,n4,n5,n6⟩:=I.ne;obtain⟨t1,t2,t3,t4⟩:=I.lt;have rd:∀(m:Nat) (o:ae),m<s.nx->s.h.get m=some o->bu m s= .ok o s:=fun m o hm ho=>by have:=lR ((blt_eq _ _).mpr hm) ho;rw[agp I.mark] at this;exact this
 have tt:=I.nx;obtain⟨tz1,zz1,e1,_⟩:=E7 q3;obtain⟨tz2,zz2,e2,_⟩:=E7 r3;unfold GB;rw[M.bL<|rd _ _ t1 l1];rw[show JY (.loop .ready none K.fn t K.nt K.ps K.a K.b df)=some ⟨K.fn,t,K.nt,K.ps,K.a,K.b,df⟩ from rfl,bV];rw[wQ (show K.fn=K.fn/\K.nt=K.nt/\K.ps=K.ps/\K.a=K.a/\K.b=K.b from⟨rfl,rfl,rfl,rfl,rfl⟩)];simp only;rw[l2,l3,show DA (some<|.ptr<|some (c1,0))=some c1 from rfl,show DA (some<|.ptr<|some (c2,0))=some c2 from rfl,bV,bV,wQ ⟨n1,n2,n3,n4,n5,n6⟩,M.bL<|rd _ _ t2 I.df,wQ rfl,M.bL<|rd _ _ t3 q2,M.bL<|rd _ _ t4 r2,q3,r3,bV,bV,hv,bV,wQ ⟨o1.1,o2.1,o3.1,o4.1,o3.2,o4.2,o1.2,o2.2⟩];have g1:∀(h:Tr ae) (m k:Nat) (o:Option ae) (p:ae),m<top->k<top->m≠k->h.get k=some p->(h.put m o).get k=some p:=fun h m k o p hm hk ch e=>by rw[Tr.di _ _ _ _ hm hk,if_neg<|Ne.symm ch];exact e
 rw[M.bL<|JZ I.mark t1 aj l1 rfl];rw[M.bL<|JZ (s:=⟨s.h.put L<|some<|K.loop p.bN c1 c2 df,s.nx,s.mark,s.rd,s.wr⟩) I.mark t2 aj (g1 _ _ _ _ _ aj aj n1 I.df) rfl];rw[M.bL<|JZ (s:=⟨(s.h.put L<|some<|K.loop p.bN c1 c2 df).put df<|some .defs,s.nx,s.mark,s.rd,s.wr⟩) I.mark t3 aj (g1 _ _ _ _ _ aj aj n4<|g1 _ _ _ _ _ aj aj n2 q2) (by rw[e1];rfl)];rw[M.bL<|JZ (s:=⟨((s.h.put L<|some<|K.loop p.bN c1 c2 df).put df<|some .defs).put c1<|some<|eN p.v1,s.nx,s.mark,s.rd,s.wr⟩) I.mark t4 aj (g1 _ _ _ _ _ aj aj n6<|g1 _ _ _ _ _ aj aj n5<|g1 _ _ _ _ _ aj aj n3 r2) (by rw[e2];rfl)];rfl
theorem VF{X:TX}{kn:List<|Nat×Option ae}{L L':bO}{fn:Func}{body:Code}(hP:bS P)(ga:fL<=J)(dM:J+4<=top)(jM:K.s1<top)(kH:K.s2<top)(mP:K.s1≠K.s2)(dL:∀n o,n<top->h0.get n=some o->n∈ns)(eC:∀n∈ns,n<J)(jt:∀n o,(n,some o)∈kn->h0.get n=some o)(jw:∀p∈kn,p.1<top){val:AV->AV->AV->Option fx}(h:dT X J P<|dt J ns h0 L)(h':dT X J P<|dt J ns h0 L')(cm:P.funcs[g]? =some fn)(cw:fn.body=some body)(dF:(fn.name == "runtime.NumGoroutine")=false)(eV:∀x v1 v2 p,val x v1 v2=some p->max fn.ntmps 2<=top/\∀B:aI,qE X P J ns h0 L' B->
 au P B (J+4) (rO K J P fn.results.toList p) ⟨g,dc [x,.yield J],max fn.ntmps 2,[.code body],[],none⟩ ⟨fU<|kn++aY (Jj K J v1 v2),J+4,0,[],[]⟩):dT X J P<|dt J ns h0<|(g,.raw<|qQ K val)::L:=by
 refine(show dT X J P (oQ (dt J ns h0 L) g<|qQ K val J ns h0) from h.my (fun YR _ args=>YQ.qQ _ _ _ _ _ YR args) fun B hB hT YR hc hl args x s s1 ρ w vs fi r hg hf hm hv=>?_);refine adp hP cm cw dF ga dM jM kH mP dL eC jt jw (fun x v1 v2 p e=>?_) r hg hm hv;obtain⟨q1,q2⟩:=eV x v1 v2 p e;exact⟨q1,fun B' lJ lK=>q2 B'<|qF hP h' (lJ.trans hB)<|lK.trans hT⟩
theorem ab9{p:Option Code}(jM:K.s1<top)(kH:K.s2<top)(mP:K.s1≠K.s2)(e1:r c1=c1)(e2:r c2=c2)(e3:r df=df):lW r (K.loop p c1 c2 df)<|K.loop p c1 c2 df:=by
 intro ρ N o h;have gt:(aC [(K.s1,AV.ptr<|some (c1,0)),(K.s2,.ptr<|some (c2,0))]).get K.s1=some (.ptr<|some (c1,0))/\(aC [(K.s1,AV.ptr<|some (c1,0)),(K.s2,.ptr<|some (c2,0))]).get K.s2=some (.ptr<|some (c2,0)):=by
  constructor
  ·show(((Tr.nil:Tr AV).put K.s2 _).put K.s1 _).get K.s1=_;rw[Tr.lP _ _ _ _ jM,if_pos rfl]
  ·show(((Tr.nil:Tr AV).put K.s2 _).put K.s1 _).get K.s2=_;rw[Tr.lP _ _ _ _ jM,if_neg fun e=>mP e.symm,Tr.lP _ _ _ _ kH,if_pos rfl]
 exact NV jM kH gt.1 gt.2 (fun x e=>by rw[e1];exact e) (fun x e=>by rw[e2];exact e) (fun x e=>by rw[e3];exact e) h
theorem UK{v:AV}(h:okB v)(hr:∀k,top<=k->r k=k):lW r (eN v)<|eN v:=by intro ρ N o k;exact Fw (wJ v) h.1 h.2 (fun m x hm e=>by rw[hr m hm];exact e) k
theorem bp.yield(e:r n=n):bp r (.yield n)<|.yield n:=by intro ρ v h;simp only[VR] at h ⊢;obtain⟨b,N,h1,h2⟩:=h;exact⟨b,N,by rw[e];exact h1,h2⟩
theorem aca:lW r .defs .defs:=fun ρ N o k=>k
end Go.Rn
