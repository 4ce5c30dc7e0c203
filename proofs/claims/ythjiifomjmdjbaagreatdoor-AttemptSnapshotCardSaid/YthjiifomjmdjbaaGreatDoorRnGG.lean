import Derived.Test.YthjiifomjmdjbaaGreatDoorRnGF
set_option maxRecDepth 100000
set_option maxHeartbeats 8000000
set_option linter.unusedSimpArgs false
set_option linter.unusedVariables false
namespace Go.Rn
open Go.RowKit
noncomputable section
def xP(J:Nat)(ns:List Nat)(h0:Tr ae)(k:Nat)(val:AV->List AV->Option (AV×AV)):aI->List AV->M AV:=fun _ args=>
 match args with
 | .ptr (some (n,0))::rest=>aF (rest.all AV.hi&&Nat.ble J n) <| (fH J h0 ns).bind fun _=>(bp n).bind fun o=>match o with
  | .tok k' v=>aF (Nat.beq k k') <| aA (val v rest) fun p=>aF p.1.hi <| (ln n<|some<|.tok k p.2).bind fun _=>M.pure p.1
  |_=>fail
 |_=>fail
end
theorem Yd.xP(J:Nat)(ns:List Nat)(h0:Tr ae)(k:Nat)(val:AV->List AV->Option (AV×AV))(Ye:aI)(args:List AV):Yd<|xP J ns h0 k val Ye args:=by
 unfold Rn.xP;split
 ·refine Yd.aF fun _=>Yd.bind (Yd.fH J h0 ns) fun _=>Yd.bind (Yd.bp _) fun o=>?_;split
  ·exact Yd.aF fun _=>Yd.aA fun p _=>Yd.aF fun _=>Yd.bind (Yd.ln _ _) fun _=>Yd.pure _
  ·exact Yd.fail
 ·exact Yd.fail
def mw(J:Nat)(ρ loc:aw):aw:=fun m=>if m<J then ρ m else if top<=m then ρ m else loc m
def tB(B:aJ)(ρ:aw)(w:World)(H:Nat->Prop):aJ:=⟨fun x=>w.heap.size<=x\/H x,B.F,fun m=>ρ m≠none,B.inv,B.dL,B.mono⟩
theorem af8{X:TX}{J k:Nat}{v:AV}{B:aJ}{ρ:aw}{w:World}{h h0:Tr ae}{ns:List Nat}{kn:List<|Nat×Option ae}{b:Nat}{H:Nat->Prop}(hX:ye X J)(hT:B.inv=nK X J)(ht:J<=top)(r:Rel B ρ h w)(dK:∀n o,n<top->h0.get n=some o->n∈ns)(dm:∀n∈ns,n<J)(jx:∀n o,(n,some o)∈kn->h0.get n=some o)(jy:∀p∈kn,p.1<top)(a3:∀n∈ns,∃o p,h.get n=some o/\h0.get n=some p/\oo J o p=true)(hH:∀x,H x->(x<w.heap.size/\B.dL<=x)/\B.may x/\jX ρ h x/\∀j sh,ρ (hn j x sh)=none)(I:nK X J k v ρ w b H):
 ∃L loc N0,X k v L/\loc J=some (b,N0)/\(∀m y,loc m=some y->∃o,(m,o)∈L)/\Rel (tB B ρ w H) (mw J ρ loc) (gf<|kn++bu L) w:=by
 obtain⟨L,Gm,bl,H1,N0,hx,root,low,is,one,tok,JM,sub,own,apart⟩:=I;have r0:=Dx ht r dK dm a3;have nm:=hX.nm k v L hx;let loc:aw:=fun m=>if m∈L.map (·.1) then Gm m else none
 have B8:∀m o,(m,o)∈L->m∈L.map (·.1):=fun m o hm=>List.mem_map.2 ⟨_,hm,rfl⟩;have Wm:∀m,m∈L.map (·.1)->loc m=Gm m:=fun m hm=>if_pos hm;have af9:∀m,m ∉ L.map (·.1)->loc m=none:=fun m hm=>if_neg hm;have ge:∀m,m∈L.map (·.1)->J<=m/\m<top:=fun m hm=>by obtain⟨p,hp,rfl⟩:=List.mem_map.1 hm;exact⟨(nm p hp).1,(nm p hp).2.1⟩
 obtain⟨oR,hR⟩:=hX.root k v L hx;have tm:∀m,m∈L.map (·.1)->mw J ρ loc m=Gm m:=fun m hm=>by obtain⟨q1,q2⟩:=ge m hm;unfold mw;rw[if_neg aj,if_neg aj];exact Wm m hm
 have tk:∀m,top<=m->mw J ρ loc m=ρ m:=fun m hm=>by unfold mw;rw[if_neg aj,if_pos hm]
 have tl:∀m,m<J->mw J ρ loc m=ρ m:=fun m hm=>by unfold mw;rw[if_pos hm]
 have uk:(gg J ρ).le<|mw J ρ loc:=by
  intro m x e;unfold gg at e;split at e
  ·rename_i q;rw[tl m q];exact e
  ·unfold gj at e;split at e
   ·rename_i q;rw[tk m q];exact e
   ·cases e
 have cR:∀p∈kn++bu L,p.1<top:=fun p hp=>by
  rcases List.mem_append.1 hp with hp|hp
  ·exact jy p hp
  ·exact Mo (fun q hq=>(nm q hq).2.1) p hp
 have mle:∀{N:Nat} {o:ae} {o':Obj},lv (L.map (·.1)) o->OR (xO Gm ρ) N o o'->OR (mw J ρ loc) N o o':=fun hf hO=>(hf _ _ _ hO).mono fun i y hi=>by
  have hi:(if top<=i\/i∈L.map (·.1) then xO Gm ρ i else none)=some y:=hi;split at hi
  ·rename_i q;unfold xO at hi;rcases q with q|q
   ·rw[if_pos q] at hi;rw[tk i q];exact hi
   ·rw[if_neg (by have:=(ge i q).2;omega)] at hi;rw[tm i q];exact hi
  ·cases hi
 have ah:∀m o,(gf<|kn++bu L).get m=some o->(m∈ns/\h0.get m=some o/\o.mK=true)\/(m,o)∈L:=fun m o hg=>by
  rcases List.mem_append.1 (wx cR hg) with q|q
  ·have q2:=jx m o q;have iK:=dK m o (jy _ q) q2;obtain⟨p1,p2,_,c3,c4⟩:=a3 m iK;rw[q2] at c3;cases c3;refine .inl ⟨iK,q2,?_⟩;unfold oo at c4;split at c4<;>first|rfl|cases c4
  ·exact .inr<|Mg q
 have B9:∀m N x,m∈ns->mw J ρ loc m=some (x,N)->x<B.dL:=fun m N x q1 e=>by rw[tl m<|dm m q1] at e;obtain⟨p1,p2,c2,c3,c4⟩:=a3 m q1;obtain⟨b',N',e1,e2⟩:=r.tk.1.2 m p1 (Nat.lt_of_lt_of_le (dm m q1) ht) c2<|Hu c4;rw[e] at e1;cases e1;exact e2
 have Ek:∀m o N x,(m,o)∈L->mw J ρ loc m=some (x,N)->x=bl m/\H x:=fun m o N x hm e=>by rw[tm m<|B8 m o hm] at e;obtain⟨N',o',e1,_,_,e4⟩:=is m o hm;rw[e] at e1;cases e1;exact⟨rfl,e4⟩
 refine⟨L,loc,N0,hx,(Wm _<|B8 _ _ hR).trans root,fun m y e=>?_,fun m o hm hg=>?_,fun m n o p x N M hm fu hg lZ cS e1 e2=>?_,fun m i es ex left cur hm hg=>?_,fun x hx=>.inl hx,fun i j m es ex left cur g9 ju iS iV hi _ hg _=>?_,fun j x sh e=>?_,?_⟩
 ·by_cases q:m∈L.map (·.1)
  ·obtain⟨p,hp,rfl⟩:=List.mem_map.1 q;exact⟨p.2,hp⟩
  ·rw[af9 m q] at e;cases e
 ·rcases ah m o hg with⟨q1,q3,q4⟩|q
  ·obtain⟨b',N',o',e1,e2,e3,_⟩:=r0.is m o hm q3;exact⟨b',N',o',uk _ _ e1,e2,e3.mono uk,fun z=>by rw[ae.j9 q4] at z;cases z⟩
  ·obtain⟨N',o',e1,e2,e3,e4⟩:=is m o q;exact⟨bl m,N',o',(tm m<|B8 m o q).trans e1,e2,mle (nm _ q).2.2.2 e3,fun _=>.inr e4⟩
 ·rcases ah m o hg with⟨q1,q3,q4⟩|q
  ·rcases ah n p lZ with⟨z1,z3,z4⟩|z
   ·rcases cS with y|y
    ·rw[ae.j9 q4] at y;cases y
    ·rw[ae.j9 z4] at y;cases y
   ·have y1:=B9 m N x q1 e1;have y2:=(hH x (Ek n p M x z e2).2).1.2;omega
  ·rcases ah n p lZ with⟨z1,z3,z4⟩|z
   ·have y1:=B9 n M x z1 e2;have y2:=(hH x (Ek m o N x q e1).2).1.2;omega
   ·exact one m n o p q z<|(Ek m o N x q e1).1.symm.trans (Ek n p M x z e2).1
 ·rcases ah m _ hg with⟨_,_,q4⟩|q
  ·cases q4
  ·rcases(nm _ q).2.2.1 with y|y<;>cases y
 ·rcases ah i _ hg with⟨_,_,q4⟩|q
  ·cases q4
  ·rcases(nm _ q).2.2.1 with y|y<;>cases y
 ·rw[tk _<|fZ _ _ _] at e;obtain⟨g0,l,c,e',fr,g1,g2,g3,g4⟩:=r0.fz j x sh (by rw[sH ht<|fZ _ _ _];exact e);refine⟨.inl e,l,c,e',fr,g1,g2,fun m o N hm hg cw hr=>?_,fun i y hy=>?_⟩
  ·rcases ah m o hg with⟨_,_,q4⟩|q
   ·rw[ae.j9 q4] at cw;cases cw
   ·exact e<|(hH x (Ek m o N x q hr).2).2.2.2 j sh
  ·obtain⟨v',k1,k2,k3⟩:=g4 i y hy;refine⟨v',k1,VR.mono (fun i z q=>?_) _ _ k2,k3⟩;unfold gj at q ⊢;split at q
   ·rename_i hk;rw[if_pos hk];exact uk _ _ q
   ·cases q
 ·refine⟨⟨r.tk.1.1,fun m o hm hg hf=>?_⟩,H1,fun m k' v' hm hg=>?_,fun m n x k' v' KO vU hm fu hg lZ cn jc pO=>?_⟩
  ·rcases ah m o hg with⟨q1,q3,q4⟩|q
   ·obtain⟨b',N',o',e1,e2,e3,_⟩:=r0.is m o hm q3;exact⟨b',N',uk _ _ e1,B9 m N' b' q1<|uk _ _ e1⟩
   ·rcases(nm _ q).2.2.1 with y|y
    ·have:=(ae.uz y).2;rw[ae.j9 hf] at this;cases this
    ·cases o<;>first|(cases y;done)|cases hf
  ·rcases ah m _ hg with⟨_,_,q4⟩|q
   ·cases q4
   ·obtain⟨N',o',e1,e2,e3,e4⟩:=is m _ q;refine⟨bl m,N',(tm m<|B8 m _ q).trans e1,?_,JM m k' v' q,fun x jc=>?_⟩
    ·show B.inv k' v' (mw J ρ loc) w (bl m)<|H1 m;rw[hT];exact(tok m k' v' q).mono (fun i y hi e=>by rw[tk i hi];exact e) fun _ _=>rfl
    ·have pO:=sub m k' v' q x jc;obtain⟨c1,c2,c3,c4⟩:=hH x pO;refine⟨c1,.inr pO,fun n o N fu lZ cw hr=>?_,fun j sh=>by rw[tk _<|fZ _ _ _];exact c4 j sh⟩;rcases ah n o lZ with⟨_,_,q4⟩|z
     ·rw[ae.j9 q4] at cw;cases cw
     ·refine own m k' v' n o q z ?_ (by rw[←(Ek n o N x z hr).1];exact jc);cases o<;>first|rfl|cases cw
  ·rcases ah m _ hg with⟨_,_,q4⟩|q
   ·cases q4
   ·rcases ah n _ lZ with⟨_,_,q4⟩|z
    ·cases q4
    ·exact apart m k' v' n KO vU x q z cn jc pO
end Go.Rn
namespace Go.Rn
open Go.RowKit
theorem aeP{X:TX}{J k n a:Nat}{v v':AV}{B:aJ}{ρ σ:aw}{w w':World}{h h4:Tr ae}{b N N0:Nat}{cV:Nat->Nat->Prop}{L':List<|Nat×ae}(hX:ye X J)(hT:B.inv=nK X J)(oM:n<top)(hg:h.get n=some (.tok k v))(hr:ρ n=some (b,N))(r:Rel B ρ h w)(h1:∀n k v,n<top->h.get n=some (.tok k v)->∃b N,ρ n=some (b,N)/\B.inv k v ρ w b (cV n)/\cV n b/\∀x,cV n x->(x<w.heap.size/\B.dL<=x)/\B.may x/\jX ρ h x/\∀j sh,ρ (hn j x sh)=none)(h2:∀n m x k v k' v',n<top->m<top->h.get n=some (.tok k v)->h.get m=some (.tok k' v')->n≠m->cV n x->¬cV m x)(q3:Rel (tB B ρ w<|cV n) σ h4 w')(q4:cH (tB B ρ w<|cV n) w w')(oC:σ J=some (b,N0))(yf:∀m x,top<=m->ρ m=some x->σ m=some x)(hx:X k v' L')(hL:∀m o,(m,o)∈L'->h4.get m=some o):
 Ext a a ρ (cG ρ σ)/\jq σ (cG ρ σ)/\Rel B (cG ρ σ) (h.put n<|some<|.tok k v') w'/\cH B w w':=by
 obtain⟨b0,M0,r1,_,al0,hH⟩:=h1 n k v oM hg;rw[hr] at r1;cases r1;have nm:=hX.nm k v' L' hx;have hl:ρ.le<|cG ρ σ:=by
  intro k x e;unfold cG;by_cases hk:top<=k
  ·rw[if_pos hk];exact yf k x hk e
  ·rw[if_neg hk];exact e
 have cR:∀k,k<top->cG ρ σ k=ρ k:=fun k hk=>by unfold cG;rw[if_neg aj]
 have gH:∀k,top<=k->cG ρ σ k=σ k:=fun k hk=>by unfold cG;rw[if_pos hk]
 have g:∀m,m<top->(h.put n<|some<|.tok k v').get m=if m=n then some (.tok k v') else h.get m:=fun m hm=>Tr.dk _ _ _ _ oM hm
 have BB:cH B w w':=⟨q4.os,q4.tape,q4.output,q4.size,fun x hx hm=>q4.block x hx fun z=>by
  rcases z with z|z
  ·have z:w.heap.size<=x:=z;omega
  ·exact hm (hH x z).2.1⟩
 have mL:∀x,x<w.heap.size->¬cV n x->w'.heap[x]? =w.heap[x]? :=fun x hx hm=>q4.block x hx fun z=>by
  rcases z with z|z
  ·have z:w.heap.size<=x:=z;omega
  ·exact hm z
 have other:∀m o x M,m<top->m≠n->h.get m=some o->ρ m=some (x,M)->¬cV n x:=fun m o x M hm cn ho e jc=>by
  obtain⟨⟨_,c1⟩,_,c3,_⟩:=hH x jc;cases cw:o.di with
  |false=>exact c3 m o M hm ho cw e
  |true=>
   by_cases hf:o.mK=true
   ·obtain⟨b',N',e1,e2⟩:=r.tk.1.2 m o hm ho hf;rw[e] at e1;cases e1;omega
   ·cases o<;>first|(cases cw;done)|(exact hf rfl)|skip
    rename_i k' vU;obtain⟨b',N',e1,_,e3,_⟩:=h1 m k' vU hm ho;rw[e] at e1;cases e1;exact h2 n m x k v k' vU oM hm hg ho (Ne.symm cn) jc e3
 have rW:∀x,jX ρ h x->jX (cG ρ σ) (h.put n<|some<|.tok k v') x:=fun x hn m o M hm ho cw e=>by
  rw[g m hm] at ho;by_cases q:m=n
  ·rw[if_pos q] at ho;cases ho;cases cw
  ·rw[if_neg q] at ho;rw[cR m hm] at e;exact hn m o M hm ho cw e
 have zy:∀x,w.heap.size<=x->jX (cG ρ σ) (h.put n<|some<|.tok k v') x:=fun x hx m o M hm ho cw e=>by
  rw[g m hm] at ho;by_cases q:m=n
  ·rw[if_pos q] at ho;cases ho;cases cw
  ·rw[if_neg q] at ho;rw[cR m hm] at e;obtain⟨b1,N1,o1,e1,e2,_⟩:=r.is m o hm ho;rw[e] at e1;cases e1;have:=gR e2;omega
 obtain⟨⟨_,_⟩,Hq,t1,t2⟩:=q3.tk;obtain⟨oR,hR⟩:=hX.root k v' L' hx;have fW:∀m o,(m,o)∈L'->m<top:=fun m o hm=>(nm _ hm).2.1;have qJ:∀m o,(m,o)∈L'->∃x M o',σ m=some (x,M)/\w'.heap[x]? =some o'/\OR σ M o o'/\(o.di=false->w.heap.size<=x\/cV n x):=fun m o hm=>q3.is m o (fW m o hm)<|hL m o hm;have kind:∀m o,(m,o)∈L'->o.di=false\/∃k1 v1,o= .tok k1 v1:=fun m o hm=>by
  rcases(nm _ hm).2.2.1 with y|y
  ·exact .inl (ae.uz y).2
  ·cases o<;>first|exact .inr ⟨_,_,rfl⟩|cases y
 let Hn:Nat->Prop:=fun x=>(∃m o M,(m,o)∈L'/\o.di=false/\σ m=some (x,M))\/∃m k1 v1,(m,ae.tok k1 v1)∈L'/\Hq m x;have FZ:∀m o,(m,o)∈L'->∀x M,σ m=some (x,M)->Hn x:=fun m o hm x M e=>by
  rcases kind m o hm with q|⟨k1,v1,rfl⟩
  ·exact .inl ⟨m,o,M,hm,q,e⟩
  ·obtain⟨b1,N1,e1,_,e3,_⟩:=t1 m k1 v1 (fW _ _ hm)<|hL _ _ hm;rw[e] at e1;cases e1;exact .inr ⟨m,k1,v1,hm,e3⟩
 have DU:∀x,Hn x->x<w'.heap.size/\(w.heap.size<=x\/cV n x)/\∀j sh,σ (hn j x sh)=none:=fun x hx=>by
  rcases hx with⟨m,o,M,hm,q,e⟩|⟨m,k1,v1,hm,q⟩
  ·obtain⟨x1,M1,o',e1,e2,_,e4⟩:=qJ m o hm;rw[e] at e1;cases e1;refine⟨gR e2,e4 q,fun j sh=>Classical.byContradiction fun z=>?_⟩;obtain⟨_,_,_,_,_,_,_,z3,_⟩:=q3.fz j x sh z;exact z3 m o M (fW m o hm) (hL m o hm) q e
  ·obtain⟨b1,N1,_,_,_,e4⟩:=t1 m k1 v1 (fW _ _ hm)<|hL _ _ hm;obtain⟨⟨c1,_⟩,c2,_,c4⟩:=e4 x q;exact⟨c1,c2,c4⟩
 refine⟨⟨hl,fun k hk _=>cR k hk⟩,fun k x hk e=>by rw[gH k hk];exact e,⟨fun m o hm ho=>?_,fun m m2 o p x M M2 hm cQ ho hp cS e1 e2=>?_,fun m i es ex left cur hm ho=>?_,fun x hx=>r.size x<|Nat.le_trans q4.size hx,fun i j m es ex left cur g9 ju iS iV hi hj ho hp=>?_,fun j x sh e=>?_,?_⟩,BB⟩
 ·rw[g m hm] at ho;by_cases q:m=n
  ·subst q;rw[if_pos rfl] at ho;cases ho;obtain⟨x,M,o',e1,e2,_,_⟩:=qJ J oR hR;rw[oC] at e1;cases e1;exact⟨b,N,o',(cR m hm).trans hr,e2,trivial,fun z=>by cases z⟩
  ·rw[if_neg q] at ho;obtain⟨b1,N1,o1,e1,e2,e3,e4⟩:=r.is m o hm ho;exact⟨b1,N1,o1,(cR m hm).trans e1,(mL b1 (gR e2)<|other m o b1 N1 hm q ho e1).trans e2,e3.mono hl,e4⟩
 ·rw[cR m hm] at e1;rw[cR m2 cQ] at e2;rw[g m hm] at ho;rw[g m2 cQ] at hp;have dy:∀m o,(if m=n then some (ae.tok k v') else h.get m)=some o->∃q,h.get m=some q/\(o.di=false->q.di=false):=fun m o ho=>by
   by_cases q:m=n
   ·rw[if_pos q] at ho;cases ho;rw[q];exact⟨_,hg,fun z=>by cases z⟩
   ·rw[if_neg q] at ho;exact⟨o,ho,id⟩
  obtain⟨o1,a1,a2⟩:=dy m o ho;obtain⟨o2,a3,a4⟩:=dy m2 p hp;exact r.one m m2 o1 o2 x M M2 hm cQ a1 a3 (cS.imp a2 a4) e1 e2
 ·rw[g m hm] at ho;by_cases q:m=n
  ·rw[if_pos q] at ho;cases ho
  ·rw[if_neg q] at ho;obtain⟨hi,fC,b1,N1,bm,M,l,aO,seen,u1,u2,u3,u4,u5⟩:=r.iter m i es ex left cur hm ho;have iK:i≠n:=by intro e;subst e;rw[hg] at fC;cases fC
   have u:ox ρ w' m i es ex left cur:=⟨b1,N1,bm,M,l,aO,seen,u1,u2,(mL b1 (gR u3)<|other m _ b1 N1 hm q ho u1).trans u3,(mL bm (gR u4)<|other i _ bm M hi iK fC u2).trans u4,u5⟩;exact⟨hi,by rw[g i hi,if_neg iK];exact fC,u.mono hl⟩
 ·rw[g i hi] at ho;rw[g j hj] at hp;by_cases q:i=n
  ·rw[if_pos q] at ho;cases ho
  ·rw[if_neg q] at ho;by_cases q2:j=n
   ·rw[if_pos q2] at hp;cases hp
   ·rw[if_neg q2] at hp;exact r.lone i j m es ex left cur g9 ju iS iV hi hj ho hp
 ·rw[gH _<|fZ _ _ _] at e;obtain⟨g0,l,c,e',fr,g1,g2,_,g4⟩:=q3.fz j x sh e;have mI:∀i y,l[i]? =some y->∃v,c[sh+i]? =some v/\VR (gj<|cG ρ σ) y v/\y.cj=true:=fun i y hy=>by
   obtain⟨v,k1,k2,k3⟩:=g4 i y hy;refine⟨v,k1,VR.mono (fun z u q=>?_) _ _ k2,k3⟩;unfold gj at q ⊢;split at q
   ·rename_i hk;rw[if_pos hk,gH z hk];exact q
   ·cases q
  by_cases q:ρ (hn j x sh)≠none
  ·obtain⟨z0,l',c',e2,jY,z1,z2,z3,_⟩:=r.fz j x sh q;exact⟨z0,l,c,e',fr,g1,g2,rW x z3,mI⟩
  ·rcases g0.resolve_left q with z|z
   ·have z:w.heap.size<=x:=z;exact⟨.inr<|r.size x z,l,c,e',fr,g1,g2,zy x z,mI⟩
   ·exact⟨.inr (hH x z).2.1,l,c,e',fr,g1,g2,rW x (hH x z).2.2.1,mI⟩
 ·let H':Nat->Nat->Prop:=fun m x=>if m=n then Hn x else cV m x
  have El:∀x,Hn x->H' n x:=fun x hx=>by show(if n=n then Hn x else _);rw[if_pos rfl];exact hx
  have hsn:∀x,H' n x->Hn x:=fun x hx=>by have hx:(if n=n then Hn x else cV n x):=hx;rw[if_pos rfl] at hx;exact hx
  have hso:∀m x,m≠n->H' m x->cV m x:=fun m x hm hx=>by have hx:(if m=n then Hn x else cV m x):=hx;rw[if_neg hm] at hx;exact hx
  have ah6:∀m x,m≠n->cV m x->H' m x:=fun m x hm hx=>by show(if m=n then Hn x else cV m x);rw[if_neg hm];exact hx
  have Ca:H' n=Hn:=funext fun x=>propext ⟨hsn x,El x⟩;have yg:∀m,m≠n->H' m=cV m:=fun m hm=>funext fun x=>propext ⟨hso m x hm,ah6 m x hm⟩;refine⟨⟨Nat.le_trans r.tk.1.1 q4.size,fun m o hm ho hf=>?_⟩,H',fun m k1 v1 hm ho=>?_,fun m m2 x k1 v1 k2 v2 hm cQ ho hp cn y1 y2=>?_⟩
  ·rw[g m hm] at ho;by_cases q:m=n
   ·rw[if_pos q] at ho;cases ho;cases hf
   ·rw[if_neg q] at ho;obtain⟨b1,N1,e1,e2⟩:=r.tk.1.2 m o hm ho hf;exact⟨b1,N1,(cR m hm).trans e1,e2⟩
  ·rw[g m hm] at ho;by_cases q:m=n
   ·subst q;rw[if_pos rfl] at ho;cases ho;rw[Ca];refine⟨b,N,(cR m hm).trans hr,?_,FZ J oR hR b N0 oC,fun x hx=>?_⟩
    ·rw[hT];let bl:Nat->Nat:=fun m=>match σ m with|some (x,_)=>x|none=>0
     have nk:∀m x M,σ m=some (x,M)->bl m=x:=fun m x M e=>by show(match σ m with|some (x,_)=>x|none=>0)=x;rw[e]
     refine .mk L' (fun m=>if m∈L'.map (·.1) then σ m else none) bl Hq N0 hx ?_ (fun m hm=>?_) (fun m o hm=>?_) (fun m m2 o p hm cQ e=>?_) (fun m k1 v1 hm=>?_) (fun m k1 v1 hm=>?_) (fun m k1 v1 hm x hx=>.inr ⟨m,k1,v1,hm,hx⟩) (fun m k1 v1 m2 o hm cQ ho y=>?_) fun m k1 v1 m2 k2 v2 x hm cQ cn y1 y2=>t2 m m2 x k1 v1 k2 v2 (fW _ _ hm) (fW _ _ cQ) (hL _ _ hm) (hL _ _ cQ) cn y1 y2
     ·rw[if_pos<|List.mem_map.2 ⟨_,hR,rfl⟩];exact oC
     ·refine if_neg fun z=>?_;obtain⟨p,hp,rfl⟩:=List.mem_map.1 z;have:=(nm p hp).1;omega
     ·obtain⟨x,M,o',e1,e2,e3,_⟩:=qJ m o hm;refine⟨M,o',?_,by rw[nk m x M e1];exact e2,?_,by rw[nk m x M e1];exact FZ m o hm x M e1⟩
      ·rw[if_pos<|List.mem_map.2 ⟨_,hm,rfl⟩,nk m x M e1];exact e1
      ·refine((nm _ hm).2.2.2 _ _ _ e3).mono fun i y hi=>?_;have hi:(if top<=i\/i∈L'.map (·.1) then σ i else none)=some y:=hi;unfold xO;split at hi
       ·rename_i q;rcases q with q|q
        ·rw[if_pos q,gH i q];exact hi
        ·by_cases z:top<=i
         ·rw[if_pos z,gH i z];exact hi
         ·rw[if_neg z];show(if i∈L'.map (·.1) then σ i else none)=_;rw[if_pos q];exact hi
       ·cases hi
     ·obtain⟨x,M,_,e1,_,_,_⟩:=qJ m o hm;obtain⟨x2,M2,_,e2,_,_,_⟩:=qJ m2 p cQ;rw[nk m x M e1,nk m2 x2 M2 e2] at e;subst e;rcases kind m o hm with y|⟨k1,v1,rfl⟩
      ·exact q3.one m m2 o p x M M2 (fW _ _ hm) (fW _ _ cQ) (hL _ _ hm) (hL _ _ cQ) (.inl y) e1 e2
      ·rcases kind m2 p cQ with y|⟨k2,v2,rfl⟩
       ·exact q3.one m m2 _ p x M M2 (fW _ _ hm) (fW _ _ cQ) (hL _ _ hm) (hL _ _ cQ) (.inr y) e1 e2
       ·refine Classical.byContradiction fun cn=>?_;obtain⟨b1,N1,f1,_,f3,_⟩:=t1 m k1 v1 (fW _ _ hm)<|hL _ _ hm;obtain⟨b2,N2,f4,_,f6,_⟩:=t1 m2 k2 v2 (fW _ _ cQ)<|hL _ _ cQ;rw[e1] at f1;cases f1;rw[e2] at f4;cases f4;exact t2 m m2 x k1 v1 k2 v2 (fW _ _ hm) (fW _ _ cQ) (hL _ _ hm) (hL _ _ cQ) cn f3 f6
     ·obtain⟨b1,N1,f1,f2,_,_⟩:=t1 m k1 v1 (fW _ _ hm)<|hL _ _ hm;rw[nk m b1 N1 f1];have f2:B.inv k1 v1 σ w' b1<|Hq m:=f2;rw[hT] at f2;exact f2.mono (fun i y hi e=>by rw[gH i hi];exact e) fun _ _=>rfl
     ·obtain⟨b1,N1,f1,_,f3,_⟩:=t1 m k1 v1 (fW _ _ hm)<|hL _ _ hm;rw[nk m b1 N1 f1];exact f3
     ·obtain⟨b1,N1,_,_,_,f4⟩:=t1 m k1 v1 (fW _ _ hm)<|hL _ _ hm;obtain⟨x2,M2,_,e2,_,_,_⟩:=qJ m2 o cQ;rw[nk m2 x2 M2 e2] at y;obtain⟨_,_,c3,_⟩:=f4 x2 y;rcases kind m2 o cQ with z|⟨k2,v2,rfl⟩
      ·exact c3 m2 o M2 (fW _ _ cQ) (hL _ _ cQ) z e2
      ·cases ho
    ·obtain⟨c1,c2,c3⟩:=DU x hx;refine⟨⟨c1,?_⟩,?_,?_,fun j sh=>by rw[gH _<|fZ _ _ _];exact c3 j sh⟩
     ·rcases c2 with z|z
      ·exact Nat.le_trans r.tk.1.1 z
      ·exact(hH x z).1.2
     ·rcases c2 with z|z
      ·exact r.size x z
      ·exact(hH x z).2.1
     ·rcases c2 with z|z
      ·exact zy x z
      ·exact rW x (hH x z).2.2.1
   ·rw[if_neg q] at ho;rw[yg m q];obtain⟨b1,N1,f1,f2,f3,f4⟩:=h1 m k1 v1 hm ho;refine⟨b1,N1,(cR m hm).trans f1,B.mono f2 (fun i y _ e=>hl _ _ e) fun x hx=>?_,f3,fun x hx=>?_⟩
    ·exact mL x (f4 x hx).1.1 fun z=>h2 n m x k v k1 v1 oM hm hg ho (Ne.symm q) z hx
    ·obtain⟨⟨c1,cl⟩,c2,c3,c4⟩:=f4 x hx;refine⟨⟨Nat.lt_of_lt_of_le c1 q4.size,cl⟩,c2,rW x c3,fun j sh=>Classical.byContradiction fun z=>?_⟩;rw[gH _<|fZ _ _ _] at z;rcases(q3.fz j x sh z).1 with y|y
     ·exact y<|c4 j sh
     ·rcases y with y|y
      ·have y:w.heap.size<=x:=y;omega
      ·exact h2 n m x k v k1 v1 oM hm hg ho (Ne.symm q) y hx
  ·rw[g m hm] at ho;rw[g m2 cQ] at hp;have cl:∀m k1 v1,m<top->m≠n->h.get m=some (.tok k1 v1)->∀x,Hn x->¬cV m x:=fun m k1 v1 hm cn ho x hx y=>by
    obtain⟨_,c2,_⟩:=DU x hx;rcases c2 with z|z
    ·obtain⟨b1,N1,_,_,_,f4⟩:=h1 m k1 v1 hm ho;have:=(f4 x y).1.1;omega
    ·exact h2 n m x k v k1 v1 oM hm hg ho (Ne.symm cn) z y
   by_cases q:m=n
   ·rw[if_pos q] at ho;cases ho;have q2:m2≠n:=fun e=>cn<|q.trans e.symm;rw[if_neg q2] at hp;rw[q,Ca] at y1;rw[yg m2 q2] at y2;exact cl m2 k2 v2 cQ q2 hp x y1 y2
   ·rw[if_neg q] at ho;rw[yg m q] at y1;by_cases q2:m2=n
    ·rw[if_pos q2] at hp;cases hp;rw[q2,Ca] at y2;exact cl m k1 v1 hm q ho x y2 y1
    ·rw[if_neg q2] at hp;rw[yg m2 q2] at y2;exact h2 m m2 x k1 v1 k2 v2 hm cQ ho hp cn y1 y2
end Go.Rn
namespace Go.Rn
open Go.RowKit
variable {s1 s:AS}
theorem Tq{n:Nat}{o:Option ae}{u:Unit}(h:ln n o s= .ok u s1):
 n<s.nx/\n<top/\s1.h=s.h.put n o/\s1.nx=s.nx:=by
 obtain⟨h1,h2,h3,rfl⟩:=Ug h;by_cases e:n<s.mark
 ·rw[if_pos e];exact⟨h1,h2,rfl,rfl⟩
 ·rw[if_neg e];exact⟨h1,h2,rfl,rfl⟩
def iW(X:TX)(P:Program)(rs:List ResultVar)(k:Nat)(y:AV)(v':AV):=Fin P rs fun y1 s'=>y1=y/\∃L',X k v' L'/\∀m o,(m,o)∈L'->s'.h.get m=some o
theorem Ts{X:TX}{P:Program}{B:aJ}{f J k:Nat}{ns:List Nat}{h0:Tr ae}{kn:List<|Nat×Option ae}{val:AV->List AV->Option (AV×AV)}{fn:Func}{body:Code}{ρ:aw}{w:World}(hX:ye X J)(hT:B.inv=nK X J)(hP:bE P)(cm:P.funcs[f]? =some fn)(cv:fn.body=some body)(dJ:(fn.name == "runtime.NumGoroutine")=false)(fX:fN<=J)(dM:J<=top)(dK:∀n o,n<top->h0.get n=some o->n∈ns)(dm:∀n∈ns,n<J)(jx:∀n o,(n,some o)∈kn->h0.get n=some o)(jy:∀p∈kn,p.1<top)(eP:∀v rest y v',val v rest=some (y,v')->max fn.ntmps (rest.length+1)<=top/\∀L,X k v L->∃nx,J<nx/\nx<=top/\(∀p∈L,p.1<nx)/\∀B':aJ,B'.F=B.F->B'.inv=B.inv->
 au P B' (J+1) (iW X P fn.results.toList k y v') ⟨f,eh<|.ptr (some (J,0))::rest,max fn.ntmps<|rest.length+1,[.code body],[],none⟩ ⟨gf<|kn++bu L,nx,0,[],[]⟩){Ye:aI}{args:List AV}{x:AV}{vs:Array Value}(r:Rel B ρ s.h w)(hg:gd ρ)(h:xP J ns h0 k val Ye args s= .ok x s1)(hv:ay ρ args vs.toList):jo P ((callFunc f vs).run P w)<|kh B ρ s s1 w x:=by
 unfold xP at h;split at h
 ·rename_i n rest;obtain⟨hh,h1⟩:=cW h;obtain⟨gH,GN⟩:=and_true.1 hh;obtain⟨u,s2,h2,h3⟩:=M.aP h1;obtain⟨o,s3,h4,h5⟩:=M.aP h3;obtain⟨a1,a2,a3⟩:=uv h2;obtain⟨b1,b2,b3,b4⟩:=fY h4;split at h5
  ·rename_i k' v;obtain⟨hk,h6⟩:=cW h5;have hk:=Nat.eq_of_beq_eq_true hk;subst hk;obtain⟨p,h7,h8⟩:=bt h6;obtain⟨h9,gE⟩:=cW h8;obtain⟨u2,s4,ud,pH⟩:=M.aP gE;obtain⟨rfl,rfl⟩:=bD pH;obtain⟨c1,c2,c3,c4⟩:=Tq ud;obtain⟨y,v'⟩:=p;have ki:s.h.get n=some (.tok k v):=by rw[←a1];exact b2
   obtain⟨_,cV,t1,t2⟩:=r.tk;obtain⟨b,N,d1,d2,d3,d4⟩:=t1 n k v c2 ki;have Xn:=d2;rw[hT] at Xn;obtain⟨L,loc,N0,hx,oC,aga,nL⟩:=af8 hX hT dM r dK dm jx jy (fun n hn=>by obtain⟨_,o,p,h⟩:=a3 n hn;exact⟨o,p,h⟩) d4 Xn;obtain⟨q1,q2⟩:=eP _ _ _ _ h7;obtain⟨nx,n1,n2,n3,q3⟩:=q2 L hx;have fi:bx (⟨gf<|kn++bu L,nx,0,[],[]⟩:AS):=⟨Nat.zero_le _,n2⟩;have ah7:J<top:=Nat.lt_of_lt_of_le n1 n2;have hi:jq ρ<|mw J ρ loc:=fun m x hm e=>by unfold mw;rw[if_neg aj,if_pos hm];exact e
   have Vc:mw J ρ loc J=some (b,N0):=by unfold mw;rw[if_neg aj,if_neg aj];exact oC
   have iL:ay (mw J ρ loc) (.ptr (some (J,0))::rest) vs.toList:=by simp only[ay,VR] at hv ⊢;obtain⟨v0,vr,e1,⟨b',N',e2,e3⟩,e4⟩:=hv;rw[d1] at e2;cases e2;exact⟨v0,vr,e1,⟨b,N0,Vc,e3⟩,AV.Ba hi gH e4⟩
   have bC:=au.FC (B:=tB B ρ w<|cV n) (s:=⟨gf<|kn++bu L,nx,0,[],[]⟩) (args:=.ptr (some (J,0))::rest) (vs:=vs) hP cm cv q1 (q3 _ rfl rfl) fi nL (fun g iB=>by
    obtain⟨N,e⟩:=hg g iB;exact⟨N,by unfold mw;rw[if_pos<|Nat.lt_of_lt_of_le iB fX];exact e⟩) (fun m hm jZ=>by
    have hm:nx<=m:=hm;unfold mw;rw[if_neg aj,if_neg aj];cases e:loc m with
    |none=>rfl
    |some z=>obtain⟨o,q⟩:=aga m z e;have:=n3 _ q;have:m<nx:=this;omega) iL
   rw[uw cm cv dJ];show Calls P f vs w _;refine bC.mono fun e w'=>?_;rintro ⟨y1,x',s5,rfl,⟨rfl,L',qI,KP⟩,_,σ,e0,GX,e1,e2,e3⟩;obtain⟨g1,g2,g3,g4⟩:=aeP (a:=s.nx) (v':=v') hX hT c2 ki d1 r t1 t2 e2 e3 ((e0 J (Nat.lt_succ_self _) ah7).trans Vc) (fun m z hm q=>GX m z hm<|hi m z hm q) qI KP;refine⟨y1,rfl,cG ρ σ,by rw[c4,b4,a2];exact g1,AV.pd g2 h9 e1,?_,g4⟩;rw[c3,b3,a1];exact g3
  ·cases h5
 ·cases h
end Go.Rn
namespace Go.Rn
open Go.RowKit
theorem aeQ{X:TX}{J k a:Nat}{v:AV}{B:aJ}{ρ σ:aw}{w w':World}{h h4:Tr ae}{b N0:Nat}{L':List<|Nat×ae}(hX:ye X J)(hT:B.inv=nK X J)(ht:J<=top)(aD:a<top)(ha:ρ a=none)(r:Rel B ρ h w)(q3:Rel (rp B ρ w) σ h4 w')(q4:cH (rp B ρ w) w w')(hle:(gg J ρ).le σ)(oC:σ J=some (b,N0))(hx:X k v L')(hL:∀m o,(m,o)∈L'->h4.get m=some o):
 Ext a (a+1) ρ (eN (cG ρ σ) a (b,0))/\jq σ (eN (cG ρ σ) a (b,0))/\Rel B (eN (cG ρ σ) a (b,0)) (h.put a<|some<|.tok k v) w'/\cH B w w':=by
 obtain⟨b1,b2,R1,b4⟩:=I6 (a:=a) ht r q3 q4 hle;have nm:=hX.nm k v L' hx;have cR:∀k,k<top->cG ρ σ k=ρ k:=fun k hk=>by unfold cG;rw[if_neg aj]
 have gH:∀k,top<=k->cG ρ σ k=σ k:=fun k hk=>by unfold cG;rw[if_pos hk]
 have Qe:cG ρ σ a=none:=(cR a aD).trans ha;have hl:(cG ρ σ).le<|eN (cG ρ σ) a (b,0):=oj Qe;have DV:∀k,top<=k->eN (cG ρ σ) a (b,0) k=σ k:=fun k hk=>by rw[gJ _ _ aj];exact gH k hk
 have lY:h.get a=none:=by
  cases e:h.get a with
  |none=>rfl
  |some p=>obtain⟨_,_,_,h1,_⟩:=r.is a p aD e;rw[ha] at h1;cases h1
 have g:∀m,m<top->(h.put a<|some<|.tok k v).get m=if m=a then some (.tok k v) else h.get m:=fun m hm=>Tr.dk _ _ _ _ aD hm
 have mL:∀x,x<w.heap.size->w'.heap[x]? =w.heap[x]? :=fun x hx=>q4.block x hx fun z=>by have z:w.heap.size<=x:=z;omega
 have rW:∀x,jX ρ h x->jX (eN (cG ρ σ) a (b,0)) (h.put a<|some<|.tok k v) x:=fun x hn m o M hm ho cw e=>by
  rw[g m hm] at ho;by_cases q:m=a
  ·rw[if_pos q] at ho;cases ho;cases cw
  ·rw[if_neg q] at ho;rw[gJ _ _ q,cR m hm] at e;exact hn m o M hm ho cw e
 have zy:∀x,w.heap.size<=x->jX ρ h x:=fun x hx m o M hm ho cw e=>by obtain⟨b1,N1,o1,e1,e2,_⟩:=r.is m o hm ho;rw[e] at e1;cases e1;have:=gR e2;omega
 obtain⟨⟨_,_⟩,cV,h1,h2⟩:=r.tk;obtain⟨⟨_,_⟩,Hq,t1,t2⟩:=q3.tk;obtain⟨oR,hR⟩:=hX.root k v L' hx;have fW:∀m o,(m,o)∈L'->m<top:=fun m o hm=>(nm _ hm).2.1;have qJ:∀m o,(m,o)∈L'->∃x M o',σ m=some (x,M)/\w'.heap[x]? =some o'/\OR σ M o o'/\(o.di=false->w.heap.size<=x):=fun m o hm=>q3.is m o (fW m o hm)<|hL m o hm;have kind:∀m o,(m,o)∈L'->o.di=false\/∃k1 v1,o= .tok k1 v1:=fun m o hm=>by
  rcases(nm _ hm).2.2.1 with y|y
  ·exact .inl (ae.uz y).2
  ·cases o<;>first|exact .inr ⟨_,_,rfl⟩|cases y
 let Hn:Nat->Prop:=fun x=>(∃m o M,(m,o)∈L'/\o.di=false/\σ m=some (x,M))\/∃m k1 v1,(m,ae.tok k1 v1)∈L'/\Hq m x;have FZ:∀m o,(m,o)∈L'->∀x M,σ m=some (x,M)->Hn x:=fun m o hm x M e=>by
  rcases kind m o hm with q|⟨k1,v1,rfl⟩
  ·exact .inl ⟨m,o,M,hm,q,e⟩
  ·obtain⟨b1,N1,e1,_,e3,_⟩:=t1 m k1 v1 (fW _ _ hm)<|hL _ _ hm;rw[e] at e1;cases e1;exact .inr ⟨m,k1,v1,hm,e3⟩
 have DU:∀x,Hn x->x<w'.heap.size/\w.heap.size<=x/\∀j sh,σ (hn j x sh)=none:=fun x hx=>by
  rcases hx with⟨m,o,M,hm,q,e⟩|⟨m,k1,v1,hm,q⟩
  ·obtain⟨x1,M1,o',e1,e2,_,e4⟩:=qJ m o hm;rw[e] at e1;cases e1;refine⟨gR e2,e4 q,fun j sh=>Classical.byContradiction fun z=>?_⟩;obtain⟨_,_,_,_,_,_,_,z3,_⟩:=q3.fz j x sh z;exact z3 m o M (fW m o hm) (hL m o hm) q e
  ·obtain⟨b1,N1,_,_,_,e4⟩:=t1 m k1 v1 (fW _ _ hm)<|hL _ _ hm;obtain⟨⟨c1,_⟩,c2,_,c4⟩:=e4 x q;exact⟨c1,c2,c4⟩
 have GZ:Hn b:=FZ J oR hR b N0 oC;refine⟨⟨aw.le_trans b1.le hl,fun k hk hka=>(gJ _ _ aj).trans<|b1.out k hk aj⟩,fun m x hm e=>by rw[DV m hm];exact e,⟨fun m o hm ho=>?_,fun m m2 o p x M M2 hm cQ ho hp cS e1 e2=>?_,fun m i es ex left cur hm ho=>?_,R1.size,fun i j m es ex left cur g9 ju iS iV hi hj ho hp=>?_,fun j x sh e=>?_,?_⟩,b4⟩
 ·rw[g m hm] at ho;by_cases q:m=a
  ·subst q;rw[if_pos rfl] at ho;cases ho;obtain⟨x,M,o',e1,e2,_,_⟩:=qJ J oR hR;rw[oC] at e1;cases e1;exact⟨b,0,o',iQ _ _ _,e2,trivial,fun z=>by cases z⟩
  ·rw[if_neg q] at ho;obtain⟨b1,N1,o1,e1,e2,e3,e4⟩:=R1.is m o hm ho;exact⟨b1,N1,o1,hl _ _ e1,e2,e3.mono hl,e4⟩
 ·rw[g m hm] at ho;rw[g m2 cQ] at hp;have nU:∀m o M,m<top->h.get m=some o->o.di=false->ρ m=some (b,M)->False:=fun m o M hm ho cw e=>zy b (DU b GZ).2.1 m o M hm ho cw e;by_cases q:m=a
  ·rw[if_pos q] at ho;cases ho;by_cases q2:m2=a
   ·rw[q,q2]
   ·rw[if_neg q2] at hp;rw[q,iQ] at e1;cases e1;rw[gJ _ _ q2,cR m2 cQ] at e2;exact(nU m2 p M2 cQ hp (cS.resolve_left fun z=>by cases z) e2).elim
  ·rw[if_neg q] at ho;by_cases q2:m2=a
   ·rw[if_pos q2] at hp;cases hp;rw[q2,iQ] at e2;cases e2;rw[gJ _ _ q,cR m hm] at e1;exact(nU m o M hm ho (cS.resolve_right fun z=>by cases z) e1).elim
   ·rw[if_neg q2] at hp;rw[gJ _ _ q] at e1;rw[gJ _ _ q2] at e2;exact R1.one m m2 o p x M M2 hm cQ ho hp cS e1 e2
 ·rw[g m hm] at ho;by_cases q:m=a
  ·rw[if_pos q] at ho;cases ho
  ·rw[if_neg q] at ho;obtain⟨hi,fC,u⟩:=R1.iter m i es ex left cur hm ho;have iK:i≠a:=by intro e;subst e;rw[lY] at fC;cases fC
   exact⟨hi,by rw[g i hi,if_neg iK];exact fC,u.mono hl⟩
 ·rw[g i hi] at ho;rw[g j hj] at hp;by_cases q:i=a
  ·rw[if_pos q] at ho;cases ho
  ·rw[if_neg q] at ho;by_cases q2:j=a
   ·rw[if_pos q2] at hp;cases hp
   ·rw[if_neg q2] at hp;exact R1.lone i j m es ex left cur g9 ju iS iV hi hj ho hp
 ·rw[gJ _ _ (by have:=fZ j x sh;omega)] at e;obtain⟨g0,l,c,e',fr,g1,g2,g3,g4⟩:=R1.fz j x sh e;refine⟨g0,l,c,e',fr,g1,g2,fun m o M hm ho cw e=>?_,fun i y hy=>by obtain⟨v,k1,k2,k3⟩:=g4 i y hy;exact⟨v,k1,VR.mono (E3 hl) _ _ k2,k3⟩⟩;rw[g m hm] at ho;by_cases q:m=a
  ·rw[if_pos q] at ho;cases ho;cases cw
  ·rw[if_neg q] at ho;rw[gJ _ _ q] at e;exact g3 m o M hm ho cw e
 ·let H':Nat->Nat->Prop:=fun m x=>if m=a then Hn x else cV m x
  have Ca:H' a=Hn:=funext fun x=>if_pos rfl;have yg:∀m,m≠a->H' m=cV m:=fun m hm=>funext fun x=>if_neg hm;refine⟨⟨Nat.le_trans r.tk.1.1 q4.size,fun m o hm ho hf=>?_⟩,H',fun m k1 v1 hm ho=>?_,fun m m2 x k1 v1 k2 v2 hm cQ ho hp cn y1 y2=>?_⟩
  ·rw[g m hm] at ho;by_cases q:m=a
   ·rw[if_pos q] at ho;cases ho;cases hf
   ·rw[if_neg q] at ho;obtain⟨b1,N1,e1,e2⟩:=r.tk.1.2 m o hm ho hf;exact⟨b1,N1,(gJ _ _ q).trans<|(cR m hm).trans e1,e2⟩
  ·rw[g m hm] at ho;by_cases q:m=a
   ·subst q;rw[if_pos rfl] at ho;cases ho;rw[Ca];refine⟨b,0,iQ _ _ _,?_,GZ,fun x hx=>?_⟩
    ·rw[hT];let bl:Nat->Nat:=fun m=>match σ m with|some (x,_)=>x|none=>0
     have nk:∀m x M,σ m=some (x,M)->bl m=x:=fun m x M e=>by show(match σ m with|some (x,_)=>x|none=>0)=x;rw[e]
     refine .mk L' (fun m=>if m∈L'.map (·.1) then σ m else none) bl Hq N0 hx ?_ (fun m hm=>?_) (fun m o hm=>?_) (fun m m2 o p hm cQ e=>?_) (fun m k1 v1 hm=>?_) (fun m k1 v1 hm=>?_) (fun m k1 v1 hm x hx=>.inr ⟨m,k1,v1,hm,hx⟩) (fun m k1 v1 m2 o hm cQ ho y=>?_) fun m k1 v1 m2 k2 v2 x hm cQ cn y1 y2=>t2 m m2 x k1 v1 k2 v2 (fW _ _ hm) (fW _ _ cQ) (hL _ _ hm) (hL _ _ cQ) cn y1 y2
     ·rw[if_pos<|List.mem_map.2 ⟨_,hR,rfl⟩];exact oC
     ·refine if_neg fun z=>?_;obtain⟨p,hp,rfl⟩:=List.mem_map.1 z;have:=(nm p hp).1;omega
     ·obtain⟨x,M,o',e1,e2,e3,_⟩:=qJ m o hm;refine⟨M,o',?_,by rw[nk m x M e1];exact e2,?_,by rw[nk m x M e1];exact FZ m o hm x M e1⟩
      ·rw[if_pos<|List.mem_map.2 ⟨_,hm,rfl⟩,nk m x M e1];exact e1
      ·refine((nm _ hm).2.2.2 _ _ _ e3).mono fun i y hi=>?_;have hi:(if top<=i\/i∈L'.map (·.1) then σ i else none)=some y:=hi;unfold xO;split at hi
       ·rename_i q;rcases q with q|q
        ·rw[if_pos q,DV i q];exact hi
        ·by_cases z:top<=i
         ·rw[if_pos z,DV i z];exact hi
         ·rw[if_neg z];show(if i∈L'.map (·.1) then σ i else none)=_;rw[if_pos q];exact hi
       ·cases hi
     ·obtain⟨x,M,_,e1,_,_,_⟩:=qJ m o hm;obtain⟨x2,M2,_,e2,_,_,_⟩:=qJ m2 p cQ;rw[nk m x M e1,nk m2 x2 M2 e2] at e;subst e;rcases kind m o hm with y|⟨k1,v1,rfl⟩
      ·exact q3.one m m2 o p x M M2 (fW _ _ hm) (fW _ _ cQ) (hL _ _ hm) (hL _ _ cQ) (.inl y) e1 e2
      ·rcases kind m2 p cQ with y|⟨k2,v2,rfl⟩
       ·exact q3.one m m2 _ p x M M2 (fW _ _ hm) (fW _ _ cQ) (hL _ _ hm) (hL _ _ cQ) (.inr y) e1 e2
       ·refine Classical.byContradiction fun cn=>?_;obtain⟨b1,N1,f1,_,f3,_⟩:=t1 m k1 v1 (fW _ _ hm)<|hL _ _ hm;obtain⟨b2,N2,f4,_,f6,_⟩:=t1 m2 k2 v2 (fW _ _ cQ)<|hL _ _ cQ;rw[e1] at f1;cases f1;rw[e2] at f4;cases f4;exact t2 m m2 x k1 v1 k2 v2 (fW _ _ hm) (fW _ _ cQ) (hL _ _ hm) (hL _ _ cQ) cn f3 f6
     ·obtain⟨b1,N1,f1,f2,_,_⟩:=t1 m k1 v1 (fW _ _ hm)<|hL _ _ hm;rw[nk m b1 N1 f1];have f2:B.inv k1 v1 σ w' b1<|Hq m:=f2;rw[hT] at f2;exact f2.mono (fun i y hi e=>by rw[DV i hi];exact e) fun _ _=>rfl
     ·obtain⟨b1,N1,f1,_,f3,_⟩:=t1 m k1 v1 (fW _ _ hm)<|hL _ _ hm;rw[nk m b1 N1 f1];exact f3
     ·obtain⟨b1,N1,_,_,_,f4⟩:=t1 m k1 v1 (fW _ _ hm)<|hL _ _ hm;obtain⟨x2,M2,_,e2,_,_,_⟩:=qJ m2 o cQ;rw[nk m2 x2 M2 e2] at y;obtain⟨_,_,c3,_⟩:=f4 x2 y;rcases kind m2 o cQ with z|⟨k2,v2,rfl⟩
      ·exact c3 m2 o M2 (fW _ _ cQ) (hL _ _ cQ) z e2
      ·cases ho
    ·obtain⟨c1,c2,c3⟩:=DU x hx;exact⟨⟨c1,Nat.le_trans r.tk.1.1 c2⟩,r.size x c2,rW x<|zy x c2,fun j sh=>by rw[DV _<|fZ _ _ _];exact c3 j sh⟩
   ·rw[if_neg q] at ho;rw[yg m q];obtain⟨Xo,N1,f1,f2,f3,f4⟩:=h1 m k1 v1 hm ho;refine⟨Xo,N1,(gJ _ _ q).trans<|(cR m hm).trans f1,B.mono f2 (fun i y _ e=>hl _ _<|b1.le _ _ e) fun x hx=>mL x (f4 x hx).1.1,f3,fun x hx=>?_⟩;obtain⟨⟨c1,cl⟩,c2,c3,c4⟩:=f4 x hx;refine⟨⟨Nat.lt_of_lt_of_le c1 q4.size,cl⟩,c2,rW x c3,fun j sh=>Classical.byContradiction fun z=>?_⟩;rw[DV _<|fZ _ _ _] at z;rcases(q3.fz j x sh z).1 with y|y
    ·exact y<|c4 j sh
    ·have y:w.heap.size<=x:=y;omega
  ·rw[g m hm] at ho;rw[g m2 cQ] at hp;have cl:∀m k1 v1,m<top->h.get m=some (.tok k1 v1)->∀x,Hn x->¬cV m x:=fun m k1 v1 hm ho x hx y=>by obtain⟨_,c2,_⟩:=DU x hx;obtain⟨b1,N1,_,_,_,f4⟩:=h1 m k1 v1 hm ho;have:=(f4 x y).1.1;omega
   by_cases q:m=a
   ·have q2:m2≠a:=fun e=>cn<|q.trans e.symm;rw[if_neg q2] at hp;rw[q,Ca] at y1;rw[yg m2 q2] at y2;exact cl m2 k2 v2 cQ hp x y1 y2
   ·rw[if_neg q] at ho;rw[yg m q] at y1;by_cases q2:m2=a
    ·rw[q2,Ca] at y2;exact cl m k1 v1 hm ho x y2 y1
    ·rw[if_neg q2] at hp;rw[yg m2 q2] at y2;exact h2 m m2 x k1 v1 k2 v2 hm cQ ho hp cn y1 y2
end Go.Rn
namespace Go.Rn
open Go.RowKit
variable {J:Nat} {x:AV}
noncomputable section
def BD(J:Nat)(ns:List Nat)(h0:Tr ae)(k:Nat)(val:List AV->Option (Option AV×(AV->AV))):aI->List AV->M AV:=fun _ args=>
 aF (args.all AV.hi) <| (fH J h0 ns).bind fun _=>aA (val args) fun p=>match p.1 with
  |none=>aF (p.2<|.ptr none).hi <| M.pure<|p.2<|.ptr none
  |some v=>(fh<|.tok k v).bind fun n=>M.pure<|p.2<|.ptr<|some (n,0)
end
theorem Yd.BD(J:Nat)(ns:List Nat)(h0:Tr ae)(k:Nat)(val:List AV->Option (Option AV×(AV->AV)))(Ye:aI)(args:List AV):Yd<|BD J ns h0 k val Ye args:=by
 refine Yd.aF fun _=>Yd.bind (Yd.fH J h0 ns) fun _=>Yd.aA fun p _=>?_;split
 ·exact Yd.aF fun _=>Yd.pure _
 ·exact Yd.bind (Yd.fh _) fun _=>Yd.pure _
def u0(J:Nat)(res:AV->AV):Prop:=∀(σ G0:aw) (n:Nat) (y:Value),jq σ G0->(∀b N,σ J=some (b,N)->∃N',G0 n=some (b,N'))->VR σ (res<|.ptr<|some (J,0)) y->VR G0 (res<|.ptr<|some (n,0)) y
theorem abK{X:TX}{P:Program}{B:aJ}{f k:Nat}{ns:List Nat}{h0:Tr ae}{val:List AV->Option (Option AV×(AV->AV))}{fn:Func}{body:Code}{ρ:aw}{w:World}{s s1:AS}(hX:ye X J)(hT:B.inv=nK X J)(hP:bE P)(cm:P.funcs[f]? =some fn)(cv:fn.body=some body)(dJ:(fn.name == "runtime.NumGoroutine")=false)(fX:fN<=J)(dM:J<top)(dK:∀n o,n<top->h0.get n=some o->n∈ns)(dm:∀n∈ns,n<J)(eP:∀args p,val args=some p->max fn.ntmps args.length<=top/\(p.1=none->∀B':aJ,B'.F=B.F->B'.inv=B.inv->
 au P B' J (Fin P fn.results.toList fun y _=>y=p.2 (.ptr none)) ⟨f,eh args,max fn.ntmps args.length,[.code body],[],none⟩ ⟨h0,J,0,[],[]⟩)/\
 ∀v,p.1=some v->u0 J p.2/\∀B':aJ,B'.F=B.F->B'.inv=B.inv->au P B' J (iW X P fn.results.toList k (p.2<|.ptr<|some (J,0)) v) ⟨f,eh args,max fn.ntmps args.length,[.code body],[],none⟩ ⟨h0,J,0,[],[]⟩){Ye:aI}{args:List AV}{vs:Array Value}(r:Rel B ρ s.h w)(hg:gd ρ)(hf:dE s.nx s1.nx ρ)(h:BD J ns h0 k val Ye args s= .ok x s1)(hv:ay ρ args vs.toList):jo P ((callFunc f vs).run P w)<|kh B ρ s s1 w x:=by
 have Gn:=Nat.le_of_lt dM;unfold BD at h;obtain⟨gH,h1⟩:=cW h;obtain⟨u,s2,h2,h3⟩:=M.aP h1;obtain⟨p,h4,h5⟩:=bt h3;obtain⟨a1,a2,a3⟩:=uv h2;obtain⟨q1,q2,q3⟩:=eP _ _ h4;have nL:=Dx Gn r dK dm (fun n hn=>by obtain⟨_,o,p,h⟩:=a3 n hn;exact⟨o,p,h⟩);have fi:bx (⟨h0,J,0,[],[]⟩:AS):=⟨Nat.zero_le _,Gn⟩;have zW:gd<|gg J ρ:=fun g iB=>by obtain⟨N,e⟩:=hg g iB;exact⟨N,by unfold gg;rw[if_pos<|Nat.lt_of_lt_of_le iB fX];exact e⟩
 have lO:∀k,(⟨h0,J,0,[],[]⟩:AS).nx<=k->k<top->gg J ρ k=none:=fun k k1 k2=>by have k1:J<=k:=k1;unfold gg gj;rw[if_neg aj,if_neg aj]
 have Xp:=AV.Ba (ρ:=ρ) (σ:=gg J ρ) (fun k y hk e=>by rw[sH Gn hk];exact e) gH hv;rw[uw cm cv dJ];show Calls P f vs w _;obtain⟨st,res⟩:=p;cases st with
 |none=>have e0:(none:Option AV)=none:=rfl;obtain⟨h6,h7⟩:=cW (show aF (res<|.ptr none).hi (M.pure<|res<|.ptr none) s2= .ok x s1 from h5);obtain⟨rfl,rfl⟩:=bD h7;refine(au.calls (B:=rp B ρ w) (s:=⟨h0,J,0,[],[]⟩) (args:=args) (vs:=vs) hP cm cv q1 (q2 e0 _ rfl rfl) fi nL zW lO Xp).mono fun e w'=>?_;rintro ⟨y,x',s4,rfl,rfl,_,_,σ,e1,e2,e3,e4⟩;obtain⟨b1,b2,b3,b4⟩:=I6 (a:=s.nx) Gn r e3 e4 e1.le;exact⟨y,rfl,cG ρ σ,by rw[a2];exact b1,AV.pd b2 h6 e2,by rw[a1];exact b3,b4⟩
 |some v=>
  have e0:(some v:Option AV)=some v:=rfl;obtain⟨n,s3,h6,h7⟩:=M.aP (show((fh<|.tok k v).bind fun n=>M.pure<|res<|.ptr<|some (n,0)) s2= .ok x s1 from h5);obtain⟨rfl,rfl⟩:=bD h7;obtain⟨Ed,rfl,rfl⟩:=uB h6;obtain⟨kD,ah8⟩:=q3 v e0;refine(au.calls (B:=rp B ρ w) (s:=⟨h0,J,0,[],[]⟩) (args:=args) (vs:=vs) hP cm cv q1 (ah8 _ rfl rfl) fi nL zW lO Xp).mono fun e w'=>?_;rintro ⟨y,x',s4,rfl,⟨rfl,L',qI,KP⟩,_,_,σ,e1,e2,e3,e4⟩;obtain⟨oR,hR⟩:=hX.root _ _ _ qI;obtain⟨b,N0,o',r1,_,_,_⟩:=e3.is J oR dM<|KP _ _ hR;have Qe:ρ s.nx=none:=hf s.nx (Nat.le_refl _) (by show s.nx<s2.nx+1;omega) aj;obtain⟨b1,b2,b3,b4⟩:=aeQ (a:=s.nx) hX hT Gn aj Qe r e3 e4 e1.le r1 qI KP;refine⟨y,rfl,_,?_,kD σ _ s2.nx y b2 (fun b' N' e=>?_) e2,?_,b4⟩
  ·show Ext s.nx (s2.nx+1) ρ _;rw[a2];exact b1
  ·rw[r1] at e;cases e;rw[a2];exact⟨0,iQ _ _ _⟩
  ·show Rel B _ (s2.h.put s2.nx<|some<|.tok k v) w';rw[a1,a2];exact b3
theorem u0.ptr:u0 J fun p=>p:=fun σ G0 n y _ h2 h=>by simp only[VR] at h ⊢;obtain⟨b,N,e1,e2⟩:=h;obtain⟨N',e3⟩:=h2 b N e1;exact⟨b,N',e3,e2⟩
theorem u0.Qf(hx:x.bZ=true):u0 J fun p=>.tuple [p,x]:=fun σ G0 n y h1 h2 h=>by simp only[VR,ay] at h ⊢;obtain⟨a,e1,v,l,e2,⟨b,N,e3,e4⟩,v2,l2,e5,e6,e7⟩:=h;obtain⟨N',e8⟩:=h2 b N e3;exact⟨a,e1,v,l,e2,⟨b,N',e8,e4⟩,v2,l2,e5,AV.uO h1 hx e6,e7⟩
end Go.Rn
namespace Go.Rn
open Go.RowKit
variable {β α:Type} {J:Nat} {ns:List Nat} {h0:Tr ae}
theorem Nz{s:AS}{n:Nat}{o:Option ae}{p:ae}(h1:Nat.blt n s.nx=true)(h2:s.h.get n=some p)(h3:p.kZ=true)(ht:Nat.blt n top=true):ln n o s= .ok () (fE n o s):=by obtain⟨hh,nx,mark,rd,wr⟩:=s;have e1:(Nat.blt n nx&&Nat.blt n top)=true:=and_true.2 ⟨h1,ht⟩;have e2:hh.get n=some p:=h2;show @Bool.rec (fun _=>R Unit) .bad (@Option.rec ae (fun _=>R Unit) .bad (fun p=> @Bool.rec (fun _=>R Unit) (@Bool.rec (fun _=>R Unit) (.ok () ⟨hh.put n o,nx,mark,rd,wr⟩) (.ok () ⟨hh.put n o,nx,mark,n::rd,n::wr⟩)<|Nat.blt n mark) .bad<|!p.kZ)<|hh.get n) (Nat.blt n nx&&Nat.blt n top)=_;rw[e1,e2];show @Bool.rec (fun _=>R Unit) (@Bool.rec (fun _=>R Unit) (.ok () ⟨hh.put n o,nx,mark,rd,wr⟩) (.ok () ⟨hh.put n o,nx,mark,n::rd,n::wr⟩)<|Nat.blt n mark) .bad (!p.kZ)=_;rw[h3];show @Bool.rec (fun _=>R Unit) (.ok () ⟨hh.put n o,nx,mark,rd,wr⟩) (.ok () ⟨hh.put n o,nx,mark,n::rd,n::wr⟩) (Nat.blt n mark)= .ok () (@Bool.rec (fun _=>AS) ⟨hh.put n o,nx,mark,rd,wr⟩ ⟨hh.put n o,nx,mark,n::rd,n::wr⟩<|Nat.blt n mark);cases Nat.blt n mark<;>rfl
noncomputable section
inductive KE where
 |val (v:List AV->Option AV)
 |tok (k:Nat) (v:AV->List AV->Option (AV×AV))
 |new (k:Nat) (v:List AV->Option (Option AV×(AV->AV)))
 |raw (m:Nat->List Nat->Tr ae->aI->List AV->M AV)
abbrev bY:=List<|FuncId×KE
def KE.m(J:Nat)(ns:List Nat)(h0:Tr ae):KE->aI->List AV->M AV
 | .val v=>o8 J ns h0 v
 | .tok k v=>xP J ns h0 k v
 | .new k v=>BD J ns h0 k v
 | .raw m=>m J ns h0
def dA(J:Nat)(ns:List Nat)(h0:Tr ae):bY->Sp
 |[]=>fun _=>none
 |p::l=>fun f=>bif Nat.beq f p.1 then some (p.2.m J ns h0) else dA J ns h0 l f
def fj(val:AV->List AV->Option (AV×AV))(v:AV)(rest:List AV):Option<|AV×AV:=match rest.all AV.hi with
 |true=>(val v rest).bind fun p=>match p.1.hi with
  |true=>some p
  |false=>none
 |false=>none
def kj(val:List AV->Option (Option AV×(AV->AV)))(args:List AV):Option<|Option AV×(AV->AV):=match args.all AV.hi with
 |true=>(val args).bind fun p=>match p.1 with
  |none=>match (p.2<|.ptr none).hi with
   |true=>some p
   |false=>none
  |some _=>some p
 |false=>none
def Dy:bY->FuncId->Option KE
 |[]=>fun _=>none
 |p::l=>fun f=>bif Nat.beq f p.1 then some p.2 else Dy l f
def KE.v1:KE->Option (List AV->Option AV)
 | .val v=>some<|bf v
 |_=>none
def KE.v2:KE->Option (Nat×(AV->List AV->Option (AV×AV)))
 | .tok k v=>some (k,fj v)
 |_=>none
def KE.v3:KE->Option (Nat×(List AV->Option (Option AV×(AV->AV))))
 | .new k v=>some (k,kj v)
 |_=>none
def Kd(o:Option α)(f:α->Option β):Option β:=match o with
 |some a=>f a
 |none=>none
def xQ(P:Program)(J:Nat)(ns:List Nat)(h0:Tr ae)(L:bY)(lo:Nat)(fg:Bool):Env:=⟨P,dA J ns h0 L,FU,fun g=>Kd (Dy L g) KE.v1,fun _=>false,qB J h0 ns,dP J h0 ns,lo,fg,fun g=>Kd (Dy L g) KE.v2,fun g=>Kd (Dy L g) KE.v3,J⟩
end
theorem H7:∀{L:bY} {g:FuncId} {e:KE},Dy L g=some e->dA J ns h0 L g=some (e.m J ns h0)
 |[],g,e,h=>by cases h
 |p::l,g,e,h=>by
  unfold Dy at h;unfold dA;cases q:Nat.beq g p.1 with
  |true=>rw[q] at h;injection h with h;rw[h];rfl
  |false=>rw[q] at h;exact H7 h
theorem MX{o:Option α}{f:α->Option β}{b:β}(h:Kd o f=some b):∃a,o=some a/\f a=some b:=by
 cases o with
 |none=>cases h
 |some a=>exact⟨a,rfl,h⟩
theorem eY{P:Program}{L:bY}{lo:Nat}{fg:Bool}:(xQ P J ns h0 L lo fg).Ok:=by
 refine⟨fun g val args v s n h1 h2 h3=>?_,fun g q m v rest y v' s n h1 h2 h3 h4 h5 h6 h7=>?_,fun g q args v res s n h1 h2 h3 h4=>?_,fun g h=>(by cases h)⟩
 ·obtain⟨e,k1,k2⟩:=MX h1;have k3:=H7 (J:=J) (ns:=ns) (h0:=h0) k1;cases e with
  |val v0=>
   injection k2 with k2;subst k2
   show ko P (dA J ns h0 L) g (bg P (dA J ns h0 L) FU n) args s=_;rw[uN k3];exact aay (Ye:=bg P (dA J ns h0 L) FU n) h2 h3
  |tok k v0=>cases k2
  |new k v0=>cases k2
  |raw m0=>cases k2
 ·obtain⟨e,k1,k2⟩:=MX h1;have k3:=H7 (J:=J) (ns:=ns) (h0:=h0) k1;cases e with
  |val v0=>cases k2
  |new k v0=>cases k2
  |raw m0=>cases k2
  |tok k v0=>
   injection k2 with k2;subst k2
   show ko P (dA J ns h0 L) g (bg P (dA J ns h0 L) FU n) (.ptr (some (m,0))::rest) s=_;rw[uN k3];have h7:fj v0 v rest=some (y,v'):=h7;unfold fj at h7;cases e1:rest.all AV.hi with
   |false=>rw[e1] at h7;cases h7
   |true=>
    rw[e1] at h7;cases e2:v0 v rest with
    |none=>rw[e2] at h7;cases h7
    |some p=>
     rw[e2] at h7;have h7:(match p.1.hi with|true=>some p|false=>none)=some (y,v'):=h7;cases e3:p.1.hi with
     |false=>rw[e3] at h7;cases h7
     |true=>
      rw[e3] at h7;injection h7 with h7
      subst h7;show(aF (rest.all AV.hi&&Nat.ble J m) <| (fH J h0 ns).bind fun _=>(bp m).bind fun o=>match o with
       | .tok k' v=>aF (Nat.beq k k') <| aA (v0 v rest) fun p=>aF p.1.hi <| (ln m<|some<|.tok k p.2).bind fun _=>M.pure p.1
       |_=>fail) s=_
      have h3:Nat.ble J m=true:=h3;have h4:Nat.blt m (dP J h0 ns s).nx=true:=h4;have h6:(dP J h0 ns s).h.get m=some (.tok k v):=h6;rw[e1,h3,(show(true&&true)=true from rfl),dB,M.bK<|wY h2,M.bK<|me h4 h6];show(aF (Nat.beq k k) <| aA (v0 v rest) fun p=>aF p.1.hi <| (ln m<|some<|.tok k p.2).bind fun _=>M.pure p.1) (aY m<|dP J h0 ns s)=_;rw[eg.2 rfl,dB,e2,cf,e3,dB,M.bK<|Nz (p:=.tok k v) (by rw[(fR m _).2.1];exact h4) (by rw[(fR m _).1];exact h6) rfl h5];rfl
 ·obtain⟨e,k1,k2⟩:=MX h1;have k3:=H7 (J:=J) (ns:=ns) (h0:=h0) k1;cases e with
  |val v0=>cases k2
  |tok k v0=>cases k2
  |raw m0=>cases k2
  |new k v0=>
   injection k2 with k2;subst k2
   show ko P (dA J ns h0 L) g (bg P (dA J ns h0 L) FU n) args s=_;rw[uN k3];have h4:kj v0 args=some (v,res):=h4;unfold kj at h4;cases e1:args.all AV.hi with
   |false=>rw[e1] at h4;cases h4
   |true=>
    rw[e1] at h4;cases e2:v0 args with
    |none=>rw[e2] at h4;cases h4
    |some p=>
     obtain⟨st,r⟩:=p;rw[e2] at h4;show(aF (args.all AV.hi) <| (fH J h0 ns).bind fun _=>aA (v0 args) fun p=>match p.1 with
      |none=>aF (p.2<|.ptr none).hi <| M.pure (p.2<|.ptr none)
      |some v=>(fh<|.tok k v).bind fun n=>M.pure<|p.2<|.ptr<|some (n,0)) s=_
     rw[e1,dB,M.bK<|wY h2,e2,cf];cases st with
     |none=>
      have h4:(match (r<|.ptr none).hi with|true=>some ((none:Option AV),r)|false=>none)=some (v,res):=h4;cases e3:(r<|.ptr none).hi with
      |false=>rw[e3] at h4;cases h4
      |true=>
       rw[e3] at h4;injection h4 with h4
       injection h4 with h5 h6
       subst h5;subst h6;show aF true (M.pure<|r<|.ptr none) _=_;rw[dB];rfl
     |some v1=>
      have h4:some (some v1,r)=some (v,res):=h4;injection h4 with h4
      injection h4 with h5 h6
      subst h5;subst h6;show((fh<|.tok k v1).bind fun n=>M.pure<|r<|.ptr<|some (n,0)) _=_;have h3:Nat.blt (dP J h0 ns s).nx top=true:=h3;rw[M.bK<|T5<|(blt_eq _ _).mp h3];rfl
end Go.Rn
namespace Go.Rn
open Go.RowKit
variable {B:aJ}
theorem Rv{P:Program}{f J:Nat}{ns:List Nat}{h0:Tr ae}{val:List AV->Option AV}{fn:Func}{body:Code}{ρ:aw}{w:World}{s s1:AS}(hP:bE P)(cm:P.funcs[f]? =some fn)(cv:fn.body=some body)(dJ:(fn.name == "runtime.NumGoroutine")=false)(fX:fN<=J)(dM:J<=top)(dK:∀n o,n<top->h0.get n=some o->n∈ns)(dm:∀n∈ns,n<J)(eP:∀args v,val args=some v->max fn.ntmps args.length<=top/\∀B':aJ,B'.F=B.F->B'.inv=B.inv->au P B' J (Fin P fn.results.toList fun y _=>y=v) ⟨f,eh args,max fn.ntmps args.length,[.code body],[],none⟩ ⟨h0,J,0,[],[]⟩){Ye:aI}{args:List AV}{x:AV}{vs:Array Value}(r:Rel B ρ s.h w)(hg:gd ρ)(h:o8 J ns h0 val Ye args s= .ok x s1)(hv:ay ρ args vs.toList):jo P ((callFunc f vs).run P w)<|kh B ρ s s1 w x:=by
 unfold o8 at h;obtain⟨gH,h1⟩:=cW h;obtain⟨u,s2,h2,h3⟩:=M.aP h1;obtain⟨v,h4,h5⟩:=bt h3;obtain⟨h6,h7⟩:=cW h5;obtain⟨rfl,rfl⟩:=bD h7;obtain⟨a1,a2,a3⟩:=uv h2;obtain⟨q1,q2⟩:=eP _ _ h4;have nL:=Dx dM r dK dm (fun n hn=>by obtain⟨_,o,p,h⟩:=a3 n hn;exact⟨o,p,h⟩);have fi:bx (⟨h0,J,0,[],[]⟩:AS):=⟨Nat.zero_le _,dM⟩;have zW:gd<|gg J ρ:=fun g iB=>by obtain⟨N,e⟩:=hg g iB;exact⟨N,by unfold gg;rw[if_pos<|Nat.lt_of_lt_of_le iB fX];exact e⟩
 have bC:=au.calls (B:=rp B ρ w) (s:=⟨h0,J,0,[],[]⟩) (args:=args) (vs:=vs) hP cm cv q1 (q2 _ rfl rfl) fi nL zW (fun k k1 k2=>by
  have k1:J<=k:=k1;unfold gg gj;rw[if_neg aj,if_neg aj])
  (AV.Ba (fun k y hk e=>by rw[sH dM hk];exact e) gH hv)
 rw[uw cm cv dJ];show Calls P f vs w _;refine bC.mono fun e w'=>?_;rintro ⟨y,x',s4,rfl,rfl,_,_,σ,e1,e2,e3,e4⟩;obtain⟨b1,b2,b3,b4⟩:=I6 (a:=s.nx) dM r e3 e4 e1.le;exact⟨y,rfl,cG ρ σ,by rw[a2];exact b1,AV.pd b2 h6 e2,by rw[a1];exact b3,b4⟩
def eA(X:TX)(J:Nat)(P:Program)(sp:Sp):Prop:=∀B:aJ,B.F=FU->B.inv=nK X J->J9 P B sp
theorem eA.mQ{X:TX}{J:Nat}{P:Program}{sp:Sp}{g:FuncId}{m:aI->List AV->M AV}(h:eA X J P sp)(hl:∀Ye:aI,(∀t a,Yd<|Ye t a)->∀args,Yd<|m Ye args)(hs:∀B:aJ,B.F=FU->B.inv=nK X J->∀Ye:aI,fQ P B Ye->(∀t a,Yd<|Ye t a)->∀(args:List AV) (x:AV) (s s1:AS) (ρ:aw) (w:World) (vs:Array Value),bx s->Rel B ρ s.h w->gd ρ->dE s.nx s1.nx ρ->
 m Ye args s= .ok x s1->ay ρ args vs.toList->jo P ((callFunc g vs).run P w) (kh B ρ s s1 w x)):eA X J P<|pv sp g m:=by
 intro B hB hT;refine⟨fun f m' e Ye mR args=>?_,fun f m' e Ye hc mR args x s s1 ρ w vs fi r hg hf hm hv=>?_⟩
 ·rcases RO e with⟨_,rfl⟩|e
  ·exact hl Ye mR args
  ·exact(h B hB hT).loc f m' e Ye mR args
 ·rcases RO e with⟨rfl,rfl⟩|e
  ·exact hs B hB hT Ye hc mR args x s s1 ρ w vs fi r hg hf hm hv
  ·exact(h B hB hT).Ei f m' e Ye hc mR args x s s1 ρ w vs fi r hg hf hm hv
section
variable {X:TX} {P:Program} {J:Nat} {ns:List Nat} {h0:Tr ae} {kn:List<|Nat×Option ae} {L L':bY} {g k:Nat} {fn:Func} {body:Code}
theorem cP:eA X J P<|dA J ns h0 []:=fun _ _ _=>⟨fun f m h=>(by cases h),fun f m h=>(by cases h)⟩
def qC(X:TX)(P:Program)(J:Nat)(ns:List Nat)(h0:Tr ae)(L:bY)(B:aJ):Prop:=B.F=FU/\B.inv=nK X J/\fQ P B (bg P (dA J ns h0 L) FU 6)/\∀t a,Yd<|bg P (dA J ns h0 L) FU 6 t a
theorem rE(hP:bE P)(h':eA X J P<|dA J ns h0 L)(h1:B.F=FU)(h2:B.inv=nK X J):qC X P J ns h0 L B:=⟨h1,h2,Ss hP (h' B h1 h2) h1 6,Cw P (h' B h1 h2) FU 6⟩
theorem ac0(hP:bE P)(fX:fN<=J)(dM:J<=top)(dK:∀n o,n<top->h0.get n=some o->n∈ns)(dm:∀n∈ns,n<J){val:List AV->Option AV}(h:eA X J P<|dA J ns h0 L)(h':eA X J P<|dA J ns h0 L')(cm:P.funcs[g]? =some fn)(cv:fn.body=some body)(dJ:(fn.name == "runtime.NumGoroutine")=false)(eP:∀args v,val args=some v->max fn.ntmps args.length<=top/\∀B:aJ,qC X P J ns h0 L' B->
 au P B J (Fin P fn.results.toList fun y _=>y=v) ⟨g,eh args,max fn.ntmps args.length,[.code body],[],none⟩ ⟨h0,J,0,[],[]⟩):eA X J P<|dA J ns h0<|(g,.val val)::L:=by
 refine(show eA X J P (pv (dA J ns h0 L) g<|o8 J ns h0 val) from h.mQ (fun Ye _ args=>Yd.o8 _ _ _ _ Ye args) fun B hB hT Ye hc hl args x s s1 ρ w vs fi r hg hf hm hv=>?_);refine Rv hP cm cv dJ fX dM dK dm (fun args v e=>?_) r hg hm hv;obtain⟨q1,q2⟩:=eP args v e;exact⟨q1,fun B' lH lI=>q2 B'<|rE hP h' (lH.trans hB)<|lI.trans hT⟩
theorem CR(hX:ye X J)(hP:bE P)(fX:fN<=J)(dM:J<=top)(dK:∀n o,n<top->h0.get n=some o->n∈ns)(dm:∀n∈ns,n<J)(jx:∀n o,(n,some o)∈kn->h0.get n=some o)(jy:∀p∈kn,p.1<top){val:AV->List AV->Option (AV×AV)}(h:eA X J P<|dA J ns h0 L)(h':eA X J P<|dA J ns h0 L')(cm:P.funcs[g]? =some fn)(cv:fn.body=some body)(dJ:(fn.name == "runtime.NumGoroutine")=false)(eP:∀v rest y v',val v rest=some (y,v')->max fn.ntmps (rest.length+1)<=top/\∀L,X k v L->∃nx,J<nx/\nx<=top/\(∀p∈L,p.1<nx)/\∀B:aJ,qC X P J ns h0 L' B->
 au P B (J+1) (iW X P fn.results.toList k y v') ⟨g,eh<|.ptr (some (J,0))::rest,max fn.ntmps<|rest.length+1,[.code body],[],none⟩ ⟨gf<|kn++bu L,nx,0,[],[]⟩):eA X J P<|dA J ns h0<|(g,.tok k val)::L:=by
 refine(show eA X J P (pv (dA J ns h0 L) g<|xP J ns h0 k val) from h.mQ (fun Ye _ args=>Yd.xP _ _ _ _ _ Ye args) fun B hB hT Ye hc hl args x s s1 ρ w vs fi r hg hf hm hv=>?_);refine Ts hX hT hP cm cv dJ fX dM dK dm jx jy (fun v rest y v' e=>?_) r hg hm hv;obtain⟨q1,q2⟩:=eP v rest y v' e;refine⟨q1,fun L1 hL=>?_⟩;obtain⟨nx,n1,n2,n3,q3⟩:=q2 L1 hL;exact⟨nx,n1,n2,n3,fun B' lH lI=>q3 B'<|rE hP h' (lH.trans hB)<|lI.trans hT⟩
theorem Iy(hX:ye X J)(hP:bE P)(fX:fN<=J)(dM:J<top)(dK:∀n o,n<top->h0.get n=some o->n∈ns)(dm:∀n∈ns,n<J){val:List AV->Option (Option AV×(AV->AV))}(h:eA X J P<|dA J ns h0 L)(h':eA X J P<|dA J ns h0 L')(cm:P.funcs[g]? =some fn)(cv:fn.body=some body)(dJ:(fn.name == "runtime.NumGoroutine")=false)(eP:∀args p,val args=some p->max fn.ntmps args.length<=top/\(p.1=none->∀B:aJ,qC X P J ns h0 L' B->
 au P B J (Fin P fn.results.toList fun y _=>y=p.2 (.ptr none)) ⟨g,eh args,max fn.ntmps args.length,[.code body],[],none⟩ ⟨h0,J,0,[],[]⟩)/\
 ∀v,p.1=some v->u0 J p.2/\∀B:aJ,qC X P J ns h0 L' B->au P B J (iW X P fn.results.toList k (p.2<|.ptr<|some (J,0)) v) ⟨g,eh args,max fn.ntmps args.length,[.code body],[],none⟩ ⟨h0,J,0,[],[]⟩):
 eA X J P (dA J ns h0<|(g,.new k val)::L):=by
 refine(show eA X J P (pv (dA J ns h0 L) g<|BD J ns h0 k val) from h.mQ (fun Ye _ args=>Yd.BD _ _ _ _ _ Ye args) fun B hB hT Ye hc hl args x s s1 ρ w vs fi r hg hf hm hv=>?_);refine abK hX hT hP cm cv dJ fX dM dK dm (fun args p e=>?_) r hg hf hm hv;obtain⟨q1,q2,q3⟩:=eP args p e;refine⟨q1,fun e0 B' lH lI=>q2 e0 B'<|rE hP h' (lH.trans hB)<|lI.trans hT,fun v e0=>?_⟩;obtain⟨q4,q5⟩:=q3 v e0;exact⟨q4,fun B' lH lI=>q5 B'<|rE hP h' (lH.trans hB)<|lI.trans hT⟩
end
end Go.Rn
namespace Go.Rn
open Go.RowKit
variable {α:Type} {enc:α->List AV} {r:Nat->Nat} {l:List α} {fz:nJ} {K n o:Nat} {a v:AV} {cap:cL} {args:List AV}
def eC(enc:α->List AV)(K:Nat)(a:AV)(l:List α):Prop:=∃n o,a= .U n o l.length/\top<=n/\∀(i:Nat) c,l[i]? =some c->cX FU n (o+i*K) K=some (enc c)
theorem eC.bZ(h:eC enc K a l):a.bZ=true:=by obtain⟨n,o,rfl,h1,_⟩:=h;exact aL.2 h1
theorem eC.hi(h:eC enc K a l):a.hi=true:=by have:=h.bZ;obtain⟨n,o,rfl,h1,_⟩:=h;exact this
theorem eC.aX{α:Type}{enc:α->List AV}{K:Nat}(he:ng K enc)(l:List α):eC enc K (aX enc l) l:=⟨_,0,rfl,dU _,fun i c hc=>by have:=C4 he hc 0 K aj;rw[Nat.zero_add];rw[Nat.add_zero,List.drop_zero, ←he.len c,List.take_length] at this;rw[he.len c] at this;exact this⟩
theorem eC.inj{m:List α}(DR:∀x y,enc x=enc y->x=y)(h:eC enc K a l)(k:eC enc K a m):l=m:=by
 obtain⟨n,o,rfl,_,h2⟩:=h;obtain⟨n',o',e,_,k2⟩:=k;injection e with e1 e2 e3
 subst e1;subst e2;refine List.ext_getElem? fun i=>?_;by_cases q:i<l.length
 ·have a1:l[i]? =some l[i]:=List.getElem?_eq_getElem q;have a2:m[i]? =some (m[i]'aj):=List.getElem?_eq_getElem aj;have b1:=h2 i _ a1;have b2:=k2 i _ a2;rw[b1] at b2;injection b2 with b2
  rw[a1,a2,DR _ _ b2]
 ·rw[List.getElem?_eq_none aj,List.getElem?_eq_none aj]
theorem eC.len{α:Type}{enc:α->List AV}{K n o len:Nat}{l:List α}(h:eC enc K (.U n o len) l):l.length=len/\top<=n/\∀(i:Nat) c,l[i]? =some c->cX FU n (o+i*K) K=some (enc c):=by
 obtain⟨n',o',e,ht,h3⟩:=h;injection e with e1 e2 e3
 subst e1;subst e2;exact⟨e3.symm,ht,h3⟩
theorem Iz{len:Nat}(hl:∀c,(enc c).length=K)(h:eC enc K (.U n o len) l):cX FU n o (len*K)=some (l.map enc).flatten\/l=[]:=by
 obtain⟨h1,_,h3⟩:=h.len;by_cases hn:l=[]
 ·exact .inr hn
 refine .inl ?_;have DS:0<l.length:=by cases l with|nil=>exact absurd rfl hn|cons _ _=>exact Nat.succ_pos _
 obtain⟨row,eO⟩:∃row,FU n=some row:=by
  have:=h3 0 l[0]<|List.getElem?_eq_getElem DS;unfold cX at this;cases e:FU n with
  |none=>rw[e] at this;cases this
  |some r=>exact⟨r,rfl⟩
 have aD:∀(i:Nat) c,l[i]? =some c->o+i*K+K<=row.length/\(row.drop<|o+i*K).take K=enc c:=by
  intro i c hc;have:=h3 i c hc;unfold cX at this;rw[eO] at this;simp only at this;cases q:Nat.ble (o+i*K+K) row.length with
  |false=>rw[q] at this;cases this
  |true=>rw[q] at this;injection this with this;exact⟨aL.1 q,this⟩
 have al1:=(aD (l.length - 1) l[l.length - 1]<|List.getElem?_eq_getElem aj).1;have hmul:(l.length - 1)*K+K=l.length*K:=by rw[←Nat.succ_mul];congr 1;omega
 have hle:o+len*K<=row.length:=by rw[←h1];omega
 unfold cX;rw[eO];simp only[(aL.2 hle:Nat.ble (o+len*K) row.length=true)];congr 1;have yc:(l.map enc).flatten.length=l.length*K:=by
  have:=sq (K:=K) (l:=l.map enc) fun c hc=>by obtain⟨a,_,rfl⟩:=List.mem_map.1 hc;exact hl a
  rw[this,List.length_map]
 refine List.ext_getElem? fun i=>?_;by_cases q:i<l.length*K
 ·rcases Nat.eq_zero_or_pos K with z|hK
  ·rw[z] at q;omega
  have hdiv:i / K<l.length:=Nat.div_lt_of_lt_mul (by rw[Nat.mul_comm];exact q);have Gh:i % K<K:=Nat.mod_lt _ hK;have Ej:i / K*K+i % K=i:=by rw[Nat.mul_comm];exact Nat.div_add_mod i K
  obtain⟨_,h4⟩:=aD (i / K) l[i / K]<|List.getElem?_eq_getElem hdiv;have h5:=LK (l:=l.map enc) (K:=K) (i:=i / K) (c:=enc l[i / K]) (fun c hc=>by obtain⟨a,_,rfl⟩:=List.mem_map.1 hc;exact hl a) (by rw[List.getElem?_map,List.getElem?_eq_getElem hdiv];rfl);have h6:(row.drop<|o+i / K*K)[i % K]? =(enc l[i / K])[i % K]? :=by rw[←h4,List.getElem?_take_of_lt Gh]
  have h7:((l.map enc).flatten.drop<|i / K*K)[i % K]? =(enc l[i / K])[i % K]? :=by rw[←h5,List.getElem?_take_of_lt Gh]
  rw[List.getElem?_drop] at h6 h7;rw[List.getElem?_take_of_lt (by rw[←h1];exact q),List.getElem?_drop,show o+i=o+i / K*K+i % K by omega,h6, ←h7,Ej]
 ·rw[List.getElem?_eq_none (by rw[List.length_take, ←h1];omega),List.getElem?_eq_none aj]
theorem Uh(hm:(n,nm (l.map enc).flatten,(l.map enc).flatten)∈fz)(hr:∀k,top<=k->r k=k)(hc:(match cap with| .known c=>Nat.ble l.length c| .ak _ _=>true| .lost=>false)=true):qk fz r (.slice (some (n,0)) l.length cap)<|aX enc l:=by
 intro ρ fq v yf hv;have:∃b N c,ρ n=some (b,N)/\v= .slice (some ⟨b,0,none⟩) l.length c/\l.length<=c:=by
  cases cap with
  |known c=>simp only[VR] at hv;obtain⟨b,N,e,hv⟩:=hv;exact⟨b,N,c,e,hv,aL.1 hc⟩
  |ak lo e0=>simp only[VR] at hv;obtain⟨b,N,c,e,hv,_,h,_⟩:=hv;exact⟨b,N,c,e,hv,h⟩
  |lost=>cases hc
 obtain⟨b,N,c,e,rfl,hle⟩:=this;have hk:=yf.2.2 _ hm b N e;unfold aX;simp only[VR];exact .inr ⟨b,0,c,.inr ⟨dU _,fun z=>hk<|(congrArg fq<|hr _<|fZ _ _ _).symm.trans z⟩,rfl,fun _=>⟨hle,(zf _).1⟩⟩
theorem ac1:qk fz r (.slice none 0<|.known 0)<|aX enc []:=by intro ρ fq v _ hv;simp only[VR] at hv;obtain⟨rfl,_,_⟩:=hv;unfold aX;simp only[VR];exact .inl ⟨dU _,rfl,none,0,rfl,(fun _=>rfl),(fun _=>rfl),fun e=>absurd e (zf _).2⟩
theorem aaA:qk fz r (.slice (some (n,o)) 0 cap)<|aX enc []:=by
 intro ρ fq v _ hv;have:∃a c,v= .slice (some a) 0 c:=by
  cases cap<;>simp only[VR] at hv
  ·obtain⟨_,_,_,rfl⟩:=hv;exact⟨_,_,rfl⟩
  ·obtain⟨_,_,_,_,rfl,_⟩:=hv;exact⟨_,_,rfl⟩
  ·obtain⟨_,_,_,_,_,_,rfl⟩:=hv;exact⟨_,_,rfl⟩
 obtain⟨a,c,rfl⟩:=this;unfold aX;simp only[VR];exact .inl ⟨dU _,rfl,some a,c,rfl,(fun e=>by cases e),(fun e=>absurd e (zf _).1),fun _ e=>by cases e⟩
theorem Ui(he:ng K enc)(hl:l.length*K<=top)(n:Nat)(hn:n<top){o0:List<|Nat×Option ae}(hm:(n,some<|aN enc l)∈o0):
 n<top/\FU (nm (l.map enc).flatten)=some (l.map enc).flatten/\∃N t z,(n,some<|.cells N t z)∈o0/\∀i x,(l.map enc).flatten[i]? =some x->i<N/\cellAt t z i=some x/\x.cj=true/\x.bZ=true:=by
 refine⟨hn,Dw<|he.all l,_,_,_,hm,fun i x hx=>?_⟩;have hi:=(List.getElem?_eq_some_iff.1 hx).1;have hc:=List.all_eq_true.1 (he.all l) x<|List.mem_of_getElem? hx;exact⟨hi,by rw[yw (by rw[he.length];exact hl) hi];exact hx,HN hc,CK hc⟩
def mG(fz:nJ)(r:Nat->Nat):List AV->List AV->Prop
 |[],[]=>True
 |x::l,y::m=>qk fz r x y/\mG fz r l m
 |_,_=>False
theorem mG.length:∀{l m:List AV},mG fz r l m->l.length=m.length
 |[],[],_=>rfl
 |_::_,_::_,h=>by simp[mG.length h.2]
 |[],_::_,h=>by cases h
 |_::_,[],h=>by cases h
theorem mG.ah:∀{l m:List AV} {i:Nat} {x y:AV},mG fz r l m->l[i]? =some x->m[i]? =some y->qk fz r x y
 |x::l,y::m,0,a,b,h,h1,h2=>by simp at h1 h2;subst h1;subst h2;exact h.1
 |x::l,y::m,i+1,a,b,h,h1,h2=>mG.ah h.2 (by simpa using h1) (by simpa using h2)
 |[],[],_,_,_,_,h1,_=>by simp at h1
 |_::_,[],_,_,_,h,_,_=>by cases h
 |[],_::_,_,_,_,h,_,_=>by cases h
theorem iE.cells{l m:List AV}(hl:l.length<=top)(h:mG fz r l m)(h1:m.all AV.cj=true):iE fz r (.cells l.length (Tr.fill l 0 .nil) [])<|.cells m.length (Tr.fill m 0 .nil) []:=by
 have hlen:=h.length;intro ρ fq N o yf k;obtain⟨c,e,rfl,k1,k2,k3⟩:=k;refine⟨c,e,rfl,k1,by omega,fun i hi=>?_⟩;obtain⟨x,v,a1,a2,a3,a4⟩:=k3 i aj;have hx:l[i]? =some x:=by unfold cellAt at a1;rw[Tr.wq _ _ _ _ aj,if_pos aj,Nat.sub_zero,List.getElem?_eq_getElem aj] at a1;rw[List.getElem?_eq_getElem aj];exact a1
 have hy:m[i]? =some m[i]:=List.getElem?_eq_getElem hi;refine⟨m[i],v,?_,?_,a3,h.ah hx hy ρ fq v yf a4⟩
 ·unfold cellAt;rw[Tr.wq _ _ _ _ aj,if_pos aj,Nat.sub_zero,hy]
 ·exact List.all_eq_true.1 h1 _<|List.getElem_mem hi
open Classical in
noncomputable def aU(R:List AV->AV->Prop)(args:List AV):Option AV:=if h:∃v,R args v then some h.choose else none
theorem gI{R:List AV->AV->Prop}(h:aU R args=some v):R args v:=by
 unfold aU at h;split at h
 ·rename_i q;injection h with h;rw[←h];exact q.choose_spec
 ·cases h
theorem eZ{R:List AV->AV->Prop}(hd:∀args v v',R args v->R args v'->v=v')(h:R args v):aU R args=some v:=by unfold aU;have q:∃v,R args v:=⟨v,h⟩;rw[dif_pos q,hd _ _ _ q.choose_spec h]
end Go.Rn
namespace Go.Rn
open Go.RowKit
variable {ns:List Nat} {v y v':AV} {rest args:List AV} {n o:Nat} {S:Type} {res:AV->AV} {f:S->List AV->Option (AV×S)} {enc:S->AV}
def zA(ns:List Nat)(σ:aw):aw:=fun m=>if top<=m\/m∈ns then σ m else none
def gz(ns:List Nat)(x:AV):Prop:=∀(σ:aw) (v:Value),VR σ x v->VR (zA ns σ) x v
theorem ac2(ns:List Nat)(σ:aw):jq σ<|zA ns σ:=fun k x hk e=>by unfold zA;rw[if_pos<|.inl hk];exact e
theorem gz.hi{x:AV}(h:x.bZ=true):gz ns x:=fun σ _ k=>AV.uO (ac2 ns σ) h k
theorem gz.ptr(h:n∈ns):gz ns<|.ptr<|some (n,o):=fun σ v k=>by simp only[VR] at k ⊢;obtain⟨b,N,e1,e2⟩:=k;exact⟨b,N,by unfold zA;rw[if_pos<|.inr h];exact e1,e2⟩
theorem gz.map(h:n∈ns):gz ns<|.map<|some n:=fun σ v k=>by simp only[VR] at k ⊢;obtain⟨b,N,e1,e2⟩:=k;exact⟨b,N,by unfold zA;rw[if_pos<|.inr h];exact e1,e2⟩
theorem gz.slice{len:Nat}{cap:cL}(h:n∈ns):gz ns<|.slice (some (n,o)) len cap:=fun σ v k=>by
 cases cap<;>simp only[VR] at k ⊢
 ·obtain⟨b,N,e1,e2⟩:=k;exact⟨b,N,by unfold zA;rw[if_pos<|.inr h];exact e1,e2⟩
 ·obtain⟨b,N,c,e1,e2⟩:=k;exact⟨b,N,c,by unfold zA;rw[if_pos<|.inr h];exact e1,e2⟩
 ·obtain⟨l,b,N,p,c,e1,e2⟩:=k;exact⟨l,b,N,p,c,by unfold zA;rw[if_pos<|.inr h];exact e1,e2⟩
theorem lv.tok{k:Nat}:lv ns<|.tok k v:=fun _ _ _ _=>trivial
theorem lv.cells{cs:List AV}(hl:cs.length<=top)(h:∀c∈cs,gz ns c):lv ns<|.cells cs.length (Tr.fill cs 0 .nil) []:=fun σ N o' k=>by obtain⟨c,e,r,s,u,f⟩:=k;refine⟨c,e,r,s,u,fun i hi=>?_⟩;obtain⟨x,v,a,b,d,q⟩:=f i hi;refine⟨x,v,a,b,d,h x ?_ σ v q⟩;have:=yw (l:=cs) (i:=i) hl hi;rw[this] at a;exact List.mem_of_getElem? a
theorem lv.row{α:Type}{enc:α->List AV}{l:List α}(hl:(l.map enc).flatten.length<=top)(h:∀c∈(l.map enc).flatten,gz ns c):lv ns<|aN enc l:=lv.cells hl h
noncomputable def dX(enc:S->AV)(f:S->List AV->Option (AV×S)):AV->List AV->Option (AV×AV):=fun v rest=> @dite _ (∃a,enc a=v) (Classical.propDecidable _) (fun h=>(f h.choose rest).map fun p=>(p.1,enc p.2)) fun _=>none
theorem AN(inj:∀a b,enc a=enc b->a=b){a:S}:dX enc f (enc a) rest=(f a rest).map fun p=>(p.1,enc p.2):=by unfold dX;have h:∃b,enc b=enc a:=⟨a,rfl⟩;rw[dif_pos h,inj _ _ h.choose_spec]
theorem AB(h:dX enc f v rest=some (y,v')):∃a a',v=enc a/\f a rest=some (y,a')/\v'=enc a':=by
 unfold dX at h;split at h
 ·rename_i q;cases e:f q.choose rest with
  |none=>rw[e] at h;cases h
  |some p=>
   rw[e] at h;injection h with h
   injection h with h1 h2
   refine⟨_,p.2,q.choose_spec.symm,?_,h2.symm⟩;rw[e, ←h1]
 ·cases h
theorem ac3{val:AV->List AV->Option (AV×AV)}(h:val v rest=some (y,v'))(h1:rest.all AV.hi=true)(h2:y.hi=true):fj val v rest=some (y,v'):=by unfold fj;rw[h1,h];show(match y.hi with|true=>some (y,v')|false=>none)=_;rw[h2]
theorem IA{val:List AV->Option (Option AV×(AV->AV))}(h:val args=some (some v,res))(h1:args.all AV.hi=true):kj val args=some (some v,res):=by unfold kj;rw[h1,h];rfl
theorem Uj{val:List AV->Option (Option AV×(AV->AV))}(h:val args=some (none,res))(h1:args.all AV.hi=true)(h2:(res<|.ptr none).hi=true):kj val args=some (none,res):=by unfold kj;rw[h1,h];show(match (res<|.ptr none).hi with|true=>some (none,res)|false=>none)=_;rw[h2]
end Go.Rn
namespace Go.Rn
open Go.RowKit
variable {ρ:aw} {J:Nat}
abbrev Vw:=List<|Nat×Nat×ae
def gK(L:Vw)(m:Nat):Option Nat:=(L.find? fun p=>Nat.beq p.1 m).map fun p=>p.2.1
def eQ(J:Nat)(ρ:aw)(L:Vw):aw:=fun m=>if m<J then ρ m else if top<=m then ρ m else match gK L m with
 |some n=>ρ n
 |none=>none
def JN(L:Vw):List<|Nat×ae:=L.map fun p=>(p.1,p.2.2)
theorem aaB{L:Vw}(fn:∀p∈L,∀q∈L,p.1=q.1->p=q){p:Nat×Nat×ae}(hp:p∈L):gK L p.1=some p.2.1:=by
 unfold gK;cases e:L.find? fun q=>Nat.beq q.1 p.1 with
 |none=>exact absurd (List.find?_eq_none.1 e p hp) iJ
 |some q=>have h1:=List.mem_of_find?_eq_some e;have h2:=List.find?_some e;have h3:q.1=p.1:=Nat.eq_of_beq_eq_true h2;rw[fn q h1 p hp h3];rfl
theorem aaC{L:Vw}{m n:Nat}(h:gK L m=some n):∃p∈L,p.1=m/\p.2.1=n:=by
 unfold gK at h;cases e:L.find? fun q=>Nat.beq q.1 m with
 |none=>rw[e] at h;cases h
 |some q=>rw[e] at h;have h2:=List.find?_some e;refine⟨q,List.mem_of_find?_eq_some e,Nat.eq_of_beq_eq_true h2,?_⟩;injection h
theorem yI{L:Vw}(ht:J<=top){m:Nat}(hm:top<=m):eQ J ρ L m=ρ m:=by unfold eQ;rw[if_neg aj,if_pos hm]
theorem CS{L:Vw}{m:Nat}(hm:m<J):eQ J ρ L m=ρ m:=by unfold eQ;rw[if_pos hm]
theorem HO{L:Vw}{m:Nat}(h1:J<=m)(h2:m<top)(h3:∀p∈L,p.1≠m):eQ J ρ L m=none:=by
 unfold eQ;rw[if_neg aj,if_neg aj];cases e:gK L m with
 |none=>rfl
 |some n=>obtain⟨p,hp,e1,_⟩:=aaC e;exact absurd e1<|h3 p hp
end Go.Rn
namespace Go.Rn
open Go.RowKit
variable {ρ:aw} {J:Nat} {h:Tr ae} {L:Vw}
structure zX (J:Nat) (ρ:aw) (h:Tr ae) (L:Vw):Prop where
 nm:∀p∈L,J<=p.1/\p.1<top/\p.2.1<top
 fn:∀p∈L,∀q∈L,p.1=q.1->p=q
 inj:∀p∈L,∀q∈L,p.2.1=q.2.1->p=q
 is:∀p∈L,∃o,h.get p.2.1=some o/\((o.own=true/\p.2.2.own=true/\∀N o',OR ρ N o o'->OR (eQ J ρ L) N p.2.2 o')\/∃k v,o= .tok k v/\p.2.2= .tok k v)
def wH(ρ:aw)(cV:Nat->Nat->Prop)(L:Vw)(x:Nat):Prop:=(∃p∈L,p.2.2.di=false/\∃N,ρ p.2.1=some (x,N))\/∃p∈L,p.2.2.kZ=true/\cV p.2.1 x
theorem zX.zY(V:zX J ρ h L){p:Nat×Nat×ae}(hp:p∈L):eQ J ρ L p.1=ρ p.2.1:=by obtain⟨q1,q2,_⟩:=V.nm p hp;unfold eQ;rw[if_neg aj,if_neg aj,aaB V.fn hp]
def DW(B:aJ)(ρ:aw)(h:Tr ae)(w:World)(cV:Nat->Nat->Prop):Prop:=(∀n k v,n<top->h.get n=some (.tok k v)->∃b N,ρ n=some (b,N)/\B.inv k v ρ w b (cV n)/\cV n b/\∀x,cV n x->(x<w.heap.size/\B.dL<=x)/\B.may x/\jX ρ h x/\∀j sh,ρ (hn j x sh)=none)/\∀n m x k v k' v',n<top->m<top->h.get n=some (.tok k v)->h.get m=some (.tok k' v')->n≠m->cV n x->¬cV m x
theorem JO{B:aJ}{w:World}{h0:Tr ae}{ns:List Nat}{kn:List<|Nat×Option ae}{cV:Nat->Nat->Prop}(ht:J<=top)(r:Rel B ρ h w)(T:DW B ρ h w cV)(dK:∀n o,n<top->h0.get n=some o->n∈ns)(dm:∀n∈ns,n<J)(jx:∀n o,(n,some o)∈kn->h0.get n=some o)(jy:∀p∈kn,p.1<top)(a3:∀n∈ns,∃o p,h.get n=some o/\h0.get n=some p/\oo J o p=true)(V:zX J ρ h L):Rel (tB B ρ w<|wH ρ cV L) (eQ J ρ L) (gf<|kn++bu (JN L)) w:=by
 have r0:=Dx ht r dK dm a3;obtain⟨t1,t2⟩:=T;have uk:(gg J ρ).le<|eQ J ρ L:=by
  intro m x e;unfold gg at e;split at e
  ·rename_i q;rw[CS q];exact e
  ·unfold gj at e;split at e
   ·rename_i q;rw[yI ht q];exact e
   ·cases e
 have B8:∀m o,(m,o)∈JN L->∃p∈L,p.1=m/\p.2.2=o:=fun m o hm=>by
  obtain⟨p,hp,e⟩:=List.mem_map.1 hm;injection e with e1 e2
  exact⟨p,hp,e1,e2⟩
 have cR:∀p∈kn++bu (JN L),p.1<top:=fun p hp=>by
  rcases List.mem_append.1 hp with hp|hp
  ·exact jy p hp
  ·refine Mo (fun q hq=>?_) p hp;obtain⟨p,hp,e1,_⟩:=B8 q.1 q.2 hq;rw[←e1];exact(V.nm p hp).2.1
 have ah:∀m o,(gf<|kn++bu (JN L)).get m=some o->(m∈ns/\h0.get m=some o/\o.mK=true)\/∃p∈L,p.1=m/\p.2.2=o:=fun m o hg=>by
  rcases List.mem_append.1 (wx cR hg) with q|q
  ·have q2:=jx m o q;have iK:=dK m o (jy _ q) q2;obtain⟨p1,p2,_,c3,c4⟩:=a3 m iK;rw[q2] at c3;cases c3;refine .inl ⟨iK,q2,?_⟩;unfold oo at c4;split at c4<;>first|rfl|cases c4
  ·exact .inr<|B8 m o<|Mg q
 have tM:∀p∈L,p.2.2.di=false->∃o,h.get p.2.1=some o/\o.di=false:=fun p hp e=>by
  obtain⟨o,g1,⟨g2,_⟩|⟨k,v,_,g2⟩⟩:=V.is p hp
  ·exact⟨o,g1,(ae.uz g2).2⟩
  ·rw[g2] at e;cases e
 have rG:∀p∈L,p.2.2.kZ=true->∃k v,h.get p.2.1=some (.tok k v)/\p.2.2= .tok k v:=fun p hp e=>by
  obtain⟨o,g1,⟨_,g2,_⟩|⟨k,v,rfl,g2⟩⟩:=V.is p hp
  ·generalize p.2.2=q at e g2;cases q<;>first|(cases e;done)|cases g2
  ·exact⟨k,v,g1,g2⟩
 have aeS:∀p∈L,p.2.2.mK=true->False:=fun p hp e=>by
  obtain⟨o,g1,⟨_,g2,_⟩|⟨k,v,_,g2⟩⟩:=V.is p hp
  ·generalize p.2.2=q at e g2;cases q<;>first|(cases e;done)|cases g2
  ·rw[g2] at e;cases e
 have Qh:∀m N x,m∈ns->eQ J ρ L m=some (x,N)->x<B.dL/\¬wH ρ cV L x:=fun m N x q1 e=>by
  rw[CS<|dm m q1] at e;obtain⟨p1,p2,c2,c3,c4⟩:=a3 m q1;have jZ:m<top:=Nat.lt_of_lt_of_le (dm m q1) ht;obtain⟨b',N',e1,e2⟩:=r.tk.1.2 m p1 jZ c2<|Hu c4;rw[e] at e1;cases e1;refine⟨e2,?_⟩;rintro (⟨p,hp,ho,M,e3⟩|⟨p,hp,ho,e3⟩)
  ·obtain⟨o,g1,g2⟩:=tM p hp ho;have:=r.one m p.2.1 p1 o x N M jZ (V.nm p hp).2.2 c2 g1 (.inr g2) e e3;rw[←this,c2] at g1;cases g1;rw[ae.j9<|Hu c4] at g2;cases g2
  ·obtain⟨k,v,g1,_⟩:=rG p hp ho;obtain⟨_,_,_,_,_,f⟩:=t1 _ k v (V.nm p hp).2.2 g1;have:=(f x e3).1.2;omega
 have aeT:∀j x sh,ρ (hn j x sh)≠none->¬wH ρ cV L x:=fun j x sh e=>by
  obtain⟨_,_,_,_,_,_,_,z3,_⟩:=r.fz j x sh e;rintro (⟨p,hp,ho,M,e3⟩|⟨p,hp,ho,e3⟩)
  ·obtain⟨o,g1,g2⟩:=tM p hp ho;exact z3 p.2.1 o M (V.nm p hp).2.2 g1 g2 e3
  ·obtain⟨k,v,g1,_⟩:=rG p hp ho;obtain⟨_,_,_,_,_,f⟩:=t1 _ k v (V.nm p hp).2.2 g1;exact e<|(f x e3).2.2.2 j sh
 refine⟨fun m o hm hg=>?_,fun m n o p x N M hm fu hg lZ cS e1 e2=>?_,fun m i es ex left cur hm hg=>?_,fun x hx=>.inl hx,fun i j m es ex left cur g9 ju iS iV hi _ hg _=>?_,fun j x sh e=>?_,?_⟩
 ·rcases ah m o hg with⟨q1,q3,q4⟩|⟨p,hp,rfl,rfl⟩
  ·obtain⟨b',N',o',e1,e2,e3,_⟩:=r0.is m o hm q3;exact⟨b',N',o',uk _ _ e1,e2,e3.mono uk,fun z=>by rw[ae.j9 q4] at z;cases z⟩
  ·obtain⟨o,g1,g2⟩:=V.is p hp;obtain⟨b',N',o',e1,e2,e3,_⟩:=r.is p.2.1 o (V.nm p hp).2.2 g1;rcases g2 with⟨_,_,g3⟩|⟨k,v,_,g3⟩
   ·exact⟨b',N',o',(V.zY hp).trans e1,e2,g3 _ _ e3,fun z=>.inr<|.inl ⟨p,hp,z,N',e1⟩⟩
   ·rw[g3];exact⟨b',N',o',(V.zY hp).trans e1,e2,trivial,fun z=>by cases z⟩
 ·rcases ah m o hg with⟨q1,q3,q4⟩|⟨p1,jd,rfl,rfl⟩
  ·rcases ah n p lZ with⟨z1,z3,z4⟩|⟨p2,fL,rfl,rfl⟩
   ·rcases cS with y|y
    ·rw[ae.j9 q4] at y;cases y
    ·rw[ae.j9 z4] at y;cases y
   ·rw[V.zY fL] at e2;rcases cS with y|y
    ·rw[ae.j9 q4] at y;cases y
    ·exact absurd (.inl ⟨p2,fL,y,M,e2⟩) (Qh m N x q1 e1).2
  ·rw[V.zY jd] at e1;rcases ah n p lZ with⟨z1,z3,z4⟩|⟨p2,fL,rfl,rfl⟩
   ·rcases cS with y|y
    ·exact absurd (.inl ⟨p1,jd,y,N,e1⟩) (Qh n M x z1 e2).2
    ·rw[ae.j9 z4] at y;cases y
   ·rw[V.zY fL] at e2;obtain⟨o1,g1,_⟩:=V.is p1 jd;obtain⟨o2,f1,_⟩:=V.is p2 fL;have ah9:o1.di=false\/o2.di=false:=cS.imp (fun y=>by
     obtain⟨o,k1,k2⟩:=tM p1 jd y;rw[g1] at k1;cases k1;exact k2) (fun y=>by
     obtain⟨o,k1,k2⟩:=tM p2 fL y;rw[f1] at k1;cases k1;exact k2)
    have:=r.one p1.2.1 p2.2.1 o1 o2 x N M (V.nm p1 jd).2.2 (V.nm p2 fL).2.2 g1 f1 ah9 e1 e2;rw[V.inj p1 jd p2 fL this]
 ·rcases ah m _ hg with⟨_,_,q4⟩|⟨p,hp,_,e⟩
  ·cases q4
  ·obtain⟨_,_,⟨_,g2,_⟩|⟨k,v,_,g2⟩⟩:=V.is p hp
   ·rw[e] at g2;cases g2
   ·rw[e] at g2;cases g2
 ·rcases ah i _ hg with⟨_,_,q4⟩|⟨p,hp,_,e⟩
  ·cases q4
  ·obtain⟨_,_,⟨_,g2,_⟩|⟨k,v,_,g2⟩⟩:=V.is p hp
   ·rw[e] at g2;cases g2
   ·rw[e] at g2;cases g2
 ·rw[yI ht<|fZ _ _ _] at e;obtain⟨g0,l,c,e',fr,g1,g2,g3,g4⟩:=r0.fz j x sh (by rw[sH ht<|fZ _ _ _];exact e);refine⟨.inl e,l,c,e',fr,g1,g2,fun m o N hm hg cw hr=>?_,fun i y hy=>?_⟩
  ·rcases ah m o hg with⟨_,_,q4⟩|⟨p,hp,rfl,rfl⟩
   ·rw[ae.j9 q4] at cw;cases cw
   ·rw[V.zY hp] at hr;exact aeT j x sh e<|.inl ⟨p,hp,cw,N,hr⟩
  ·obtain⟨v',k1,k2,k3⟩:=g4 i y hy;refine⟨v',k1,VR.mono (fun i z q=>?_) _ _ k2,k3⟩;unfold gj at q ⊢;split at q
   ·rename_i hk;rw[if_pos hk];exact uk _ _ q
   ·cases q
 ·let H':Nat->Nat->Prop:=fun m x=>∃p∈L,p.1=m/\cV p.2.1 x;have Qi:∀p∈L,H' p.1=cV p.2.1:=fun p hp=>funext fun x=>propext ⟨fun⟨q,hq,e1,e2⟩=>by rw[V.fn q hq p hp e1] at e2;exact e2,fun e=>⟨p,hp,rfl,e⟩⟩;refine⟨⟨r.tk.1.1,fun m o hm hg hf=>?_⟩,H',fun m k' v' hm hg=>?_,fun m n x k' v' KO vU hm fu hg lZ cn jc pO=>?_⟩
  ·rcases ah m o hg with⟨q1,q3,q4⟩|⟨p,hp,rfl,rfl⟩
   ·obtain⟨b',N',o',e1,e2,e3,_⟩:=r0.is m o hm q3;exact⟨b',N',uk _ _ e1,(Qh m N' b' q1<|uk _ _ e1).1⟩
   ·exact(aeS p hp hf).elim
  ·rcases ah m _ hg with⟨_,_,q4⟩|⟨p,hp,rfl,e⟩
   ·cases q4
   ·obtain⟨k,v,g1,g2⟩:=rG p hp (by rw[e];rfl);rw[e] at g2;cases g2;obtain⟨b,N,f1,f2,f3,f4⟩:=t1 _ _ _ (V.nm p hp).2.2 g1;refine⟨b,N,(V.zY hp).trans f1,?_,by rw[Qi p hp];exact f3,fun x hx=>?_⟩
    ·rw[Qi p hp];exact B.mono f2 (fun i y hi q=>by rw[yI ht hi];exact q) fun _ _=>rfl
    ·rw[Qi p hp] at hx;obtain⟨c1,c2,c3,c4⟩:=f4 x hx;refine⟨c1,.inr<|.inr ⟨p,hp,by rw[e];rfl,hx⟩,fun n o N fu lZ cw hr=>?_,fun j sh=>by rw[yI ht<|fZ _ _ _];exact c4 j sh⟩;rcases ah n o lZ with⟨_,_,q4⟩|⟨p2,fL,rfl,rfl⟩
     ·rw[ae.j9 q4] at cw;cases cw
     ·rw[V.zY fL] at hr;obtain⟨o2,k1,k2⟩:=tM p2 fL cw;exact c3 p2.2.1 o2 N (V.nm p2 fL).2.2 k1 k2 hr
  ·obtain⟨p1,jd,y1,z1⟩:=jc;obtain⟨p2,fL,y2,z2⟩:=pO;rcases ah m _ hg with⟨_,_,q4⟩|⟨q1,Kw,e1,e2⟩
   ·cases q4
   ·rcases ah n _ lZ with⟨_,_,q4⟩|⟨q2,GO,e3,e4⟩
    ·cases q4
    ·have:=V.fn p1 jd q1 Kw<|y1.trans e1.symm;subst this;have:=V.fn p2 fL q2 GO<|y2.trans e3.symm;subst this;obtain⟨k1,v1,g1,_⟩:=rG p1 jd (by rw[e2];rfl);obtain⟨k2,v2,g2,_⟩:=rG p2 fL (by rw[e4];rfl);exact t2 _ _ x _ _ _ _ (V.nm p1 jd).2.2 (V.nm p2 fL).2.2 g1 g2 (fun q=>cn<|by rw[←y1, ←y2,V.inj p1 jd p2 fL q]) z1 z2
end Go.Rn
namespace Go.Rn
open Go.RowKit
theorem I8{J a:Nat}{B:aJ}{ρ σ:aw}{w w':World}{h h4 h':Tr ae}{L:Vw}{L2:List<|Nat×ae}{cV:Nat->Nat->Prop}(r:Rel B ρ h w)(T:DW B ρ h w cV)(V:zX J ρ h L)(q3:Rel (tB B ρ w<|wH ρ cV L) σ h4 w')(q4:cH (tB B ρ w<|wH ρ cV L) w w')(oC:∀p∈L,σ p.1=ρ p.2.1)(yf:∀m x,top<=m->ρ m=some x->σ m=some x)(h2:∀n q,(n,q)∈L2->∃p∈L,p.2.1=n/\∃o1,h4.get p.1=some o1/\((q.own=true/\p.2.2.own=true/\∀N o',OR σ N o1 o'->OR (cG ρ σ) N q o')\/∃k v v0,o1= .tok k v/\q= .tok k v/\p.2.2= .tok k v0))(h3:∀p∈L,p.2.2.di=false->∃o1,h4.get p.1=some o1/\o1.di=false)(hh:∀k,k<top->(∃q,(k,q)∈L2/\h'.get k=some q)\/((∀q∈L,q.2.1≠k)/\h'.get k=h.get k)):
 Ext a a ρ (cG ρ σ)/\jq σ (cG ρ σ)/\Rel B (cG ρ σ) h' w'/\cH B w w':=by
 obtain⟨t1,t2⟩:=T;have hl:ρ.le<|cG ρ σ:=by
  intro k x e;unfold cG;by_cases hk:top<=k
  ·rw[if_pos hk];exact yf k x hk e
  ·rw[if_neg hk];exact e
 have cR:∀k,k<top->cG ρ σ k=ρ k:=fun k hk=>by unfold cG;rw[if_neg aj]
 have gH:∀k,top<=k->cG ρ σ k=σ k:=fun k hk=>by unfold cG;rw[if_pos hk]
 have tM:∀p∈L,p.2.2.di=false->∃o,h.get p.2.1=some o/\o.di=false/\o.own=true:=fun p hp e=>by
  obtain⟨o,g1,⟨g2,_⟩|⟨k,v,_,g2⟩⟩:=V.is p hp
  ·exact⟨o,g1,(ae.uz g2).2,g2⟩
  ·rw[g2] at e;cases e
 have rG:∀p∈L,p.2.2.kZ=true->∃k v,h.get p.2.1=some (.tok k v)/\p.2.2= .tok k v:=fun p hp e=>by
  obtain⟨o,g1,⟨_,g2,_⟩|⟨k,v,rfl,g2⟩⟩:=V.is p hp
  ·generalize p.2.2=q at e g2;cases q<;>first|(cases e;done)|cases g2
  ·exact⟨k,v,g1,g2⟩
 have rJ:∀x,wH ρ cV L x->B.may x:=fun x hx=>by
  rcases hx with⟨p,hp,ho,N,e⟩|⟨p,hp,ho,e⟩
  ·obtain⟨o,g1,g2,_⟩:=tM p hp ho;obtain⟨x1,N1,_,e1,_,_,e3⟩:=r.is p.2.1 o (V.nm p hp).2.2 g1;rw[e] at e1;cases e1;exact e3 g2
  ·obtain⟨k,v,g1,_⟩:=rG p hp ho;obtain⟨_,_,_,_,_,f⟩:=t1 _ k v (V.nm p hp).2.2 g1;exact(f x e).2.1
 have BB:cH B w w':=⟨q4.os,q4.tape,q4.output,q4.size,fun x hx hm=>q4.block x hx fun z=>by
  rcases z with z|z
  ·have z:w.heap.size<=x:=z;omega
  ·exact hm<|rJ x z⟩
 have mL:∀x,x<w.heap.size->¬wH ρ cV L x->w'.heap[x]? =w.heap[x]? :=fun x hx hm=>q4.block x hx fun z=>by
  rcases z with z|z
  ·have z:w.heap.size<=x:=z;omega
  ·exact hm z
 have cs:∀m o,m<top->h'.get m=some o->(∃p∈L,p.2.1=m/\∃o1,h4.get p.1=some o1/\((o.own=true/\p.2.2.own=true/\∀N o',OR σ N o1 o'->OR (cG ρ σ) N o o')\/∃k v v0,o1= .tok k v/\o= .tok k v/\p.2.2= .tok k v0))\/((∀q∈L,q.2.1≠m)/\h.get m=some o):=fun m o hm ho=>by
  rcases hh m hm with⟨q,e1,e2⟩|⟨e1,e2⟩
  ·rw[ho] at e2;cases e2;exact .inl<|h2 m o e1
  ·exact .inr ⟨e1,by rw[←e2];exact ho⟩
 have dy:∀m o,m<top->h'.get m=some o->∃q,h.get m=some q/\(o.di=false->q.di=false):=fun m o hm ho=>by
  rcases cs m o hm ho with⟨p,hp,rfl,o1,g1,⟨y1,y2,_⟩|⟨k,v,v0,_,y1,_⟩⟩|⟨_,e⟩
  ·obtain⟨q,g1,g2,_⟩:=tM p hp (ae.uz y2).2;exact⟨q,g1,fun _=>g2⟩
  ·obtain⟨q,g1,_⟩:=V.is p hp;exact⟨q,g1,fun z=>by rw[y1] at z;cases z⟩
  ·exact⟨o,e,id⟩
 have other:∀m o x M,m<top->(∀q∈L,q.2.1≠m)->h.get m=some o->ρ m=some (x,M)->¬wH ρ cV L x:=fun m o x M hm cn ho e=>by
  rintro (⟨p,hp,jd,N,e1⟩|⟨p,hp,jd,e1⟩)
  ·obtain⟨q,g1,g2,_⟩:=tM p hp jd;exact cn p hp<|r.one p.2.1 m q o x N M (V.nm p hp).2.2 hm g1 ho (.inl g2) e1 e
  ·obtain⟨k,v,g1,_⟩:=rG p hp jd;obtain⟨_,_,_,_,_,f⟩:=t1 _ k v (V.nm p hp).2.2 g1;obtain⟨⟨_,c1⟩,_,c3,_⟩:=f x e1;cases cw:o.di with
   |false=>exact c3 m o M hm ho cw e
   |true=>
    by_cases hf:o.mK=true
    ·obtain⟨b',N',k1,k2⟩:=r.tk.1.2 m o hm ho hf;rw[e] at k1;cases k1;omega
    ·cases o<;>first|(cases cw;done)|(exact hf rfl)|skip
     rename_i k' vU;obtain⟨b',N',k1,_,k3,_⟩:=t1 m k' vU hm ho;rw[e] at k1;cases k1;exact t2 _ m x k v k' vU (V.nm p hp).2.2 hm g1 ho (cn p hp) e1 k3
 have rW:∀x,jX ρ h x->jX (cG ρ σ) h' x:=fun x hn m o M hm ho cw e=>by obtain⟨q,g1,g2⟩:=dy m o hm ho;rw[cR m hm] at e;exact hn m q M hm g1 (g2 cw) e
 have zy:∀x,w.heap.size<=x->jX (cG ρ σ) h' x:=fun x hx m o M hm ho cw e=>by obtain⟨q,g1,_⟩:=dy m o hm ho;rw[cR m hm] at e;obtain⟨b1,N1,o1,e1,e2,_⟩:=r.is m q hm g1;rw[e] at e1;cases e1;have:=gR e2;omega
 have agb:∀p∈L,∀o,h.get p.2.1=some o->o.own=true\/o.kZ=true:=fun p hp o ho=>by
  obtain⟨q,g1,⟨g2,_⟩|⟨k,v,g2,_⟩⟩:=V.is p hp
  ·rw[ho] at g1;cases g1;exact .inl g2
  ·rw[ho,g2] at g1;cases g1;exact .inr rfl
 have VH:∀i,h.get i=some .kB->∀q∈L,q.2.1≠i:=fun i e q hq z=>by rcases agb q hq .kB (by rw[z];exact e) with y|y<;>cases y
 obtain⟨⟨_,_⟩,Hq,s1,s2⟩:=q3.tk;refine⟨⟨hl,fun k hk _=>cR k hk⟩,fun k x hk e=>by rw[gH k hk];exact e,⟨fun m o hm ho=>?_,fun m m2 o p x M M2 hm cQ ho hp cS e1 e2=>?_,fun m i es ex left cur hm ho=>?_,fun x hx=>r.size x<|Nat.le_trans q4.size hx,fun i j m es ex left cur g9 ju iS iV hi hj ho hp=>?_,fun j x sh e=>?_,?_⟩,BB⟩
 ·rcases cs m o hm ho with⟨p,hp,rfl,o1,g1,⟨y1,y2,g2⟩|⟨k,v,v0,y1,y2,y3⟩⟩|⟨cn,e⟩
  ·obtain⟨b1,N1,o',e1,e2,e3,_⟩:=q3.is p.1 o1 (V.nm p hp).2.1 g1;rw[oC p hp] at e1;exact⟨b1,N1,o',(cR _ hm).trans e1,e2,g2 _ _ e3,fun _=>rJ b1<|.inl ⟨p,hp,(ae.uz y2).2,N1,e1⟩⟩
  ·obtain⟨b1,N1,o',e1,e2,e3,_⟩:=q3.is p.1 o1 (V.nm p hp).2.1 g1;rw[oC p hp] at e1;rw[y2];exact⟨b1,N1,o',(cR _ hm).trans e1,e2,trivial,fun z=>by cases z⟩
  ·obtain⟨b1,N1,o1,e1,e2,e3,e4⟩:=r.is m o hm e;exact⟨b1,N1,o1,(cR m hm).trans e1,(mL b1 (gR e2)<|other m o b1 N1 hm cn e e1).trans e2,e3.mono hl,e4⟩
 ·rw[cR m hm] at e1;rw[cR m2 cQ] at e2;obtain⟨o1,a1,a2⟩:=dy m o hm ho;obtain⟨o2,a3,a4⟩:=dy m2 p cQ hp;exact r.one m m2 o1 o2 x M M2 hm cQ a1 a3 (cS.imp a2 a4) e1 e2
 ·rcases cs m _ hm ho with⟨p,hp,_,_,_,⟨y1,_⟩|⟨k,v,v0,_,y2,_⟩⟩|⟨cn,e⟩
  ·cases y1
  ·cases y2
  ·obtain⟨hi,fC,b1,N1,bm,M,l,aO,seen,u1,u2,u3,u4,u5⟩:=r.iter m i es ex left cur hm e;have u:ox ρ w' m i es ex left cur:=⟨b1,N1,bm,M,l,aO,seen,u1,u2,(mL b1 (gR u3)<|other m _ b1 N1 hm cn e u1).trans u3,(mL bm (gR u4)<|other i _ bm M hi (VH i fC) fC u2).trans u4,u5⟩;refine⟨hi,?_,u.mono hl⟩;rcases hh i hi with⟨q,f1,f2⟩|⟨_,f2⟩
   ·obtain⟨p,hp,f3,_⟩:=h2 i q f1;exact absurd f3<|VH i fC p hp
   ·rw[f2];exact fC
 ·rcases cs i _ hi ho with⟨p,hp,_,_,_,⟨y1,_⟩|⟨k,v,v0,_,y2,_⟩⟩|⟨_,e⟩
  ·cases y1
  ·cases y2
  ·rcases cs j _ hj hp with⟨p,hp,_,_,_,⟨y1,_⟩|⟨k,v,v0,_,y2,_⟩⟩|⟨_,e'⟩
   ·cases y1
   ·cases y2
   ·exact r.lone i j m es ex left cur g9 ju iS iV hi hj e e'
 ·rw[gH _<|fZ _ _ _] at e;obtain⟨g0,l,c,e',fr,g1,g2,gn,g4⟩:=q3.fz j x sh e;have mI:∀i y,l[i]? =some y->∃v,c[sh+i]? =some v/\VR (gj<|cG ρ σ) y v/\y.cj=true:=fun i y hy=>by
   obtain⟨v,k1,k2,k3⟩:=g4 i y hy;refine⟨v,k1,VR.mono (fun z u q=>?_) _ _ k2,k3⟩;unfold gj at q ⊢;split at q
   ·rename_i hk;rw[if_pos hk,gH z hk];exact q
   ·cases q
  by_cases q:ρ (hn j x sh)≠none
  ·obtain⟨z0,l',c',e2,jY,z1,z2,z3,_⟩:=r.fz j x sh q;exact⟨z0,l,c,e',fr,g1,g2,rW x z3,mI⟩
  ·rcases g0.resolve_left q with z|z
   ·have z:w.heap.size<=x:=z;exact⟨.inr<|r.size x z,l,c,e',fr,g1,g2,zy x z,mI⟩
   ·refine⟨.inr<|rJ x z,l,c,e',fr,g1,g2,?_,mI⟩;rcases z with⟨p,hp,ho,N,e1⟩|⟨p,hp,ho,e1⟩
    ·obtain⟨o1,f1,f2⟩:=h3 p hp ho;exact absurd ((oC p hp).trans e1)<|gn p.1 o1 N (V.nm p hp).2.1 f1 f2
    ·obtain⟨k,v,k1,_⟩:=rG p hp ho;obtain⟨_,_,_,_,_,f⟩:=t1 _ k v (V.nm p hp).2.2 k1;exact rW x (f x e1).2.2.1
 ·let H':Nat->Nat->Prop:=fun m x=>(∃p∈L,p.2.1=m/\Hq p.1 x)\/((∀p∈L,p.2.1≠m)/\cV m x);have Eo:∀p∈L,H' p.2.1=Hq p.1:=fun p hp=>funext fun x=>propext ⟨fun z=>by
   rcases z with⟨q,hq,e1,e2⟩|⟨e1,_⟩
   ·rw[V.inj q hq p hp e1] at e2;exact e2
   ·exact absurd rfl<|e1 p hp,fun z=>.inl ⟨p,hp,rfl,z⟩⟩
  have Ep:∀m,(∀p∈L,p.2.1≠m)->H' m=cV m:=fun m hm=>funext fun x=>propext ⟨fun z=>by
   rcases z with⟨q,hq,e1,_⟩|⟨_,z⟩
   ·exact absurd e1 (hm q hq)
   ·exact z,fun z=>.inr ⟨hm,z⟩⟩
  have B9:∀p∈L,∀k v,h4.get p.1=some (.tok k v)->∀x,Hq p.1 x->x<w'.heap.size/\(w.heap.size<=x\/wH ρ cV L x)/\∀j sh,σ (hn j x sh)=none:=fun p hp k v hg x hx=>by obtain⟨_,_,_,_,_,f⟩:=s1 p.1 k v (V.nm p hp).2.1 hg;obtain⟨⟨c1,_⟩,c2,_,c4⟩:=f x hx;exact⟨c1,c2,c4⟩
  have JP:∀m k v,m<top->h'.get m=some (.tok k v)->(∃p∈L,p.2.1=m/\h4.get p.1=some (.tok k v)/\∃v0,p.2.2= .tok k v0)\/((∀q∈L,q.2.1≠m)/\h.get m=some (.tok k v)):=fun m k v hm ho=>by
   rcases cs m _ hm ho with⟨p,hp,e0,o1,g1,⟨y1,_⟩|⟨k',v',v0,y1,y2,y3⟩⟩|z
   ·cases y1
   ·cases y2;exact .inl ⟨p,hp,e0,by rw[g1,y1],v0,y3⟩
   ·exact .inr z
  have sep:∀m k v,m<top->(∀q∈L,q.2.1≠m)->h.get m=some (.tok k v)->∀x,cV m x->(w.heap.size<=x\/wH ρ cV L x)->False:=fun m k1 v1 hm cn hg x hx z=>by
   obtain⟨_,_,_,_,_,f4⟩:=t1 m k1 v1 hm hg;rcases z with z|⟨p,hp,Cd,N,e1⟩|⟨p,hp,Cd,e1⟩
   ·have:=(f4 x hx).1.1;omega
   ·obtain⟨q,g1,g2,_⟩:=tM p hp Cd;exact(f4 x hx).2.2.1 p.2.1 q N (V.nm p hp).2.2 g1 g2 e1
   ·obtain⟨k,v,g1,_⟩:=rG p hp Cd;exact t2 _ m x k v k1 v1 (V.nm p hp).2.2 hm g1 hg (cn p hp) e1 hx
  refine⟨⟨Nat.le_trans r.tk.1.1 q4.size,fun m o hm ho hf=>?_⟩,H',fun m k1 v1 hm ho=>?_,fun m m2 x k1 v1 k2 v2 hm cQ ho hp cn z1 z2=>?_⟩
  ·rcases cs m o hm ho with⟨p,hp,_,_,_,⟨y1,_⟩|⟨k,v,v0,_,y2,_⟩⟩|⟨_,e⟩
   ·cases o<;>first|(cases hf;done)|cases y1
   ·rw[y2] at hf;cases hf
   ·obtain⟨b1,N1,e1,e2⟩:=r.tk.1.2 m o hm e hf;exact⟨b1,N1,(cR m hm).trans e1,e2⟩
  ·rcases JP m k1 v1 hm ho with⟨p,hp,rfl,hg,v0,Xu⟩|⟨cn,hg⟩
   ·obtain⟨b1,N1,f1,f2,f3,f4⟩:=s1 p.1 k1 v1 (V.nm p hp).2.1 hg;have hpt:p.2.2.kZ=true:=by rw[Xu];rfl
    refine⟨b1,N1,(cR _ hm).trans<|(oC p hp).symm.trans f1,?_,by rw[Eo p hp];exact f3,fun x hx=>?_⟩
    ·rw[Eo p hp];exact B.mono f2 (fun i y hi q=>by rw[gH i hi];exact q) fun _ _=>rfl
    ·rw[Eo p hp] at hx;obtain⟨c1,c2,c4⟩:=B9 p hp k1 v1 hg x hx;obtain⟨⟨_,aia⟩,_,c3,_⟩:=f4 x hx;refine⟨⟨c1,aia⟩,?_,?_,fun j sh=>by rw[gH _<|fZ _ _ _];exact c4 j sh⟩
     ·rcases c2 with y|y
      ·exact r.size x y
      ·exact rJ x y
     ·rcases c2 with y|y
      ·exact zy x y
      ·rcases y with⟨p2,fL,Qj,N2,e2⟩|⟨p2,fL,Qj,e2⟩
       ·obtain⟨o1,k1',k2'⟩:=h3 p2 fL Qj;exact absurd ((oC p2 fL).trans e2)<|c3 p2.1 o1 N2 (V.nm p2 fL).2.1 k1' k2'
       ·obtain⟨k,v,g1,_⟩:=rG p2 fL Qj;obtain⟨_,_,_,_,_,f⟩:=t1 _ k v (V.nm p2 fL).2.2 g1;exact rW x (f x e2).2.2.1
   ·obtain⟨b1,N1,f1,f2,f3,f4⟩:=t1 m k1 v1 hm hg;have Wy:∀x,cV m x->¬wH ρ cV L x:=fun x hx z=>by
     rcases z with⟨p,hp,Cd,N,e1⟩|⟨p,hp,Cd,e1⟩
     ·obtain⟨q,g1,g2,_⟩:=tM p hp Cd;exact(f4 x hx).2.2.1 p.2.1 q N (V.nm p hp).2.2 g1 g2 e1
     ·obtain⟨k,v,g1,_⟩:=rG p hp Cd;exact t2 _ m x k v k1 v1 (V.nm p hp).2.2 hm g1 hg (cn p hp) e1 hx
    refine⟨b1,N1,(cR m hm).trans f1,?_,by rw[Ep m cn];exact f3,fun x hx=>?_⟩
    ·rw[Ep m cn];exact B.mono f2 (fun i y _ e=>hl _ _ e) fun x hx=>mL x (f4 x hx).1.1<|Wy x hx
    ·rw[Ep m cn] at hx;obtain⟨⟨c1,cl⟩,c2,c3,c4⟩:=f4 x hx;refine⟨⟨Nat.lt_of_lt_of_le c1 q4.size,cl⟩,c2,rW x c3,fun j sh=>Classical.byContradiction fun z=>?_⟩;rw[gH _<|fZ _ _ _] at z;rcases(q3.fz j x sh z).1 with y|y
     ·exact y<|c4 j sh
     ·rcases y with y|y
      ·have y:w.heap.size<=x:=y;omega
      ·exact Wy x hx y
  ·rcases JP m k1 v1 hm ho with⟨p1,jd,rfl,hg,v0,Xu⟩|⟨DX,hg⟩
   ·rw[Eo p1 jd] at z1;obtain⟨c1,c2,_⟩:=B9 p1 jd k1 v1 hg x z1;rcases JP m2 k2 v2 cQ hp with⟨p2,fL,rfl,Ce,v02,aib⟩|⟨Kh,Ce⟩
    ·rw[Eo p2 fL] at z2;exact s2 p1.1 p2.1 x k1 v1 k2 v2 (V.nm p1 jd).2.1 (V.nm p2 fL).2.1 hg Ce (fun q=>cn<|by rw[V.fn p1 jd p2 fL q]) z1 z2
    ·rw[Ep m2 Kh] at z2;exact sep m2 k2 v2 cQ Kh Ce x z2 c2
   ·rw[Ep m DX] at z1;rcases JP m2 k2 v2 cQ hp with⟨p2,fL,rfl,Ce,v02,aib⟩|⟨Kh,Ce⟩
    ·rw[Eo p2 fL] at z2;exact sep m k1 v1 hm DX hg x z1 (B9 p2 fL k2 v2 Ce x z2).2.1
    ·rw[Ep m2 Kh] at z2;exact t2 m m2 x k1 v1 k2 v2 hm cQ hg Ce cn z1 z2
end Go.Rn
namespace Go.Rn
open Go.RowKit
variable {ρ σ:aw} {β:Type} {o:ae} {v:AV} {s1 s:AS} {o':Obj} {c:Prop} {N:Nat}
structure Cb where
 fn:FuncId
 nt:Nat
 ps:List Tmp
 a:Code
 b:Code
 s1:Nat
 s2:Nat
structure fw where
 ret:Bool
 v1:AV
 v2:AV
 bL:Option Code
noncomputable section
def zg:ae->Option AV
 | .cells 1 t z=>cellAt t z 0
 |_=>none
def eL(v:AV):ae:=.cells 1 (Tr.fill [v] 0 .nil) []
def agc(p:Option Code):LoopState:=match p with
 |none=>.ready
 |some _=>.done
def Cb.loop(K:Cb)(bL:Option Code)(c1 c2 df:Nat):ae:=.loop (agc bL) bL K.fn (aS [(K.s1,.ptr<|some (c1,0)),(K.s2,.ptr<|some (c2,0))]) K.nt K.ps K.a K.b df
def Dz(v:Option AV):Option Nat:=match v with
 |some (.ptr (some (c,0)))=>some c
 |_=>none
open Classical in
def lP(c:Prop)(m:M β):M β:=aF (decide c) m
structure VI where
 fn:FuncId
 t:Tr AV
 nt:Nat
 ps:List Tmp
 a:Code
 b:Code
 df:Nat
def JQ:ae->Option VI
 | .loop .ready none fn t nt ps a b df=>some ⟨fn,t,nt,ps,a,b,df⟩
 |_=>none
def Gs(K:Cb)(val:AV->AV->AV->Option fw)(x:AV)(L:Nat):M AV:=
 (bp L).bind fun o=>aA (JQ o) fun q=>
 lP (q.fn=K.fn/\q.nt=K.nt/\q.ps=K.ps/\q.a=K.a/\q.b=K.b) <|
 aA (Dz<|q.t.get K.s1) fun c1=>aA (Dz<|q.t.get K.s2) fun c2=>
 lP (L≠q.df/\L≠c1/\L≠c2/\q.df≠c1/\q.df≠c2/\c1≠c2) <|
 (bp q.df).bind fun od=>lP (od= .defs) <| (bp c1).bind fun o1=>(bp c2).bind fun o2=>
 aA (zg o1) fun v1=>aA (zg o2) fun v2=>aA (val x v1 v2) fun p=>
 lP (v1.hi=true/\v2.hi=true/\p.v1.hi=true/\p.v2.hi=true/\p.v1.cj=true/\p.v2.cj=true/\v1.cj=true/\v2.cj=true) <|
 (bI L<|some<|K.loop p.bL c1 c2 q.df).bind fun _=>(bI q.df<|some .defs).bind fun _=>(bI c1<|some<|eL p.v1).bind fun _=>(bI c2<|some<|eL p.v2).bind fun _=>M.pure<|.bool p.ret
def qM(K:Cb)(val:AV->AV->AV->Option fw)(J:Nat)(ns:List Nat)(h0:Tr ae):aI->List AV->M AV:=fun _ args=>match args with
 |[x,.yield L]=>aF x.hi <| (fH J h0 ns).bind fun _=>Gs K val x L
 |_=>fail
end
open Classical in
theorem CA{m:M β}{b:β}(h:lP c m s= .ok b s1):c/\m s= .ok b s1:=by unfold lP at h;obtain⟨h1,h2⟩:=cW h;exact⟨of_decide_eq_true h1,h2⟩
theorem CL{m:M β}(h:c):lP c m=m:=by unfold lP;simp only[h,decide_true];rfl
theorem Yd.lP{β:Type}{c:Prop}{m:M β}(h:Yd m):Yd<|lP c m:=Yd.aF fun _=>h
theorem Yd.qM(K:Cb)(val:AV->AV->AV->Option fw)(J:Nat)(ns:List Nat)(h0:Tr ae)(Ye:aI)(args:List AV):Yd<|qM K val J ns h0 Ye args:=by
 unfold Rn.qM;split
 ·refine Yd.aF fun _=>Yd.bind (Yd.fH J h0 ns) fun _=>?_;unfold Gs;refine Yd.bind (Yd.bp _) fun o=>Yd.aA fun q _=>Yd.lP <| Yd.aA fun c1 _=>Yd.aA fun c2 _=>Yd.lP <| Yd.bind (Yd.bp _) fun _=>Yd.lP <| Yd.bind (Yd.bp _) fun _=>Yd.bind (Yd.bp _) fun _=>Yd.aA fun _ _=>Yd.aA fun _ _=>Yd.aA fun _ _=>Yd.lP <| Yd.bind (Yd.bI _ _) fun _=>Yd.bind (Yd.bI _ _) fun _=>Yd.bind (Yd.bI _ _) fun _=>Yd.bind (Yd.bI _ _) fun _=>Yd.pure _
 ·exact Yd.fail
theorem aaD{q:VI}(h:JQ o=some q):o= .loop .ready none q.fn q.t q.nt q.ps q.a q.b q.df:=by
 unfold JQ at h;split at h
 ·injection h with h;subst h;rfl
 ·cases h
theorem SG{v:Option AV}{c:Nat}(h:Dz v=some c):v=some (.ptr<|some (c,0)):=by
 unfold Dz at h;split at h
 ·injection h with h;subst h;rfl
 ·cases h
theorem EW(h:zg o=some v):∃t z,o= .cells 1 t z/\cellAt t z 0=some v:=by
 unfold zg at h;split at h
 ·exact⟨_,_,rfl,h⟩
 ·cases h
noncomputable def rK(K:Cb)(J:Nat)(P:Program)(rs:List ResultVar)(p:fw):=Fin P rs fun y s'=>y= .bool p.ret/\s'.h.get J=some (K.loop p.bL (J+2) (J+3)<|J+1)/\s'.h.get (J+1)=some .defs/\s'.h.get (J+2)=some (eL p.v1)/\s'.h.get (J+3)=some (eL p.v2)
noncomputable def I9(K:Cb)(J:Nat)(v1 v2:AV):List<|Nat×ae:=[(J,K.loop none (J+2) (J+3)<|J+1),(J+1,.defs),(J+2,eL v1),(J+3,eL v2)]
theorem Fo(hb:zg o=some v)(hv:v.hi=true)(h1:v.cj=true)(hr:jq ρ σ)(h:OR ρ N o o'):OR σ N (eL v) o':=by
 obtain⟨t,z,rfl,hc⟩:=EW hb;obtain⟨c,e,rfl,h2,h3,h4⟩:=h;obtain⟨x,v',a1,a2,a3,a4⟩:=h4 0 aj;rw[hc] at a1;cases a1;refine⟨c,e,rfl,h2,h3,fun i hi=>?_⟩;obtain rfl:i=0:=by omega
 exact⟨v,v',by rfl,h1,a3,AV.pd hr hv a4⟩
theorem wm(v:AV):zg (eL v)=some v:=rfl
theorem NA{K:Cb}{st:LoopState}{bL:Option Code}{t:Tr AV}{c1 c2 df d1 d2 dg:Nat}(ht1:K.s1<top)(Ed:K.s2<top)(h1:t.get K.s1=some (.ptr<|some (c1,0)))(h2:t.get K.s2=some (.ptr<|some (c2,0)))(e1:∀x,ρ c1=some x->σ d1=some x)(e2:∀x,ρ c2=some x->σ d2=some x)(e3:∀x,ρ df=some x->σ dg=some x)(h:OR ρ N (.loop st bL K.fn t K.nt K.ps K.a K.b df) o'):OR σ N (.loop st bL K.fn (aS [(K.s1,.ptr<|some (d1,0)),(K.s2,.ptr<|some (d2,0))]) K.nt K.ps K.a K.b dg) o':=by
 obtain⟨a,b,M,rfl,h3,h4,h5,h6⟩:=h;refine⟨a,b,M,rfl,⟨h3.1,fun i x hx=>?_⟩,h4,e3 _ h5,h6⟩;have hm:=Ff (fun p hp=>by
  rcases List.mem_cons.1 hp with rfl|hp
  ·exact ht1
  ·rcases List.mem_cons.1 hp with rfl|hp
   ·exact Ed
   ·cases hp) hx
 rcases List.mem_cons.1 hm with hm|hm
 ·cases hm;have:=h3.2 _ _ h1;simp only[VR] at this ⊢;obtain⟨b',N',q1,q2⟩:=this;exact⟨b',N',e1 _ q1,q2⟩
 ·rcases List.mem_cons.1 hm with hm|hm
  ·cases hm;have:=h3.2 _ _ h2;simp only[VR] at this ⊢;obtain⟨b',N',q1,q2⟩:=this;exact⟨b',N',e2 _ q1,q2⟩
  ·cases hm
theorem ac4{P:Program}{B:aJ}{f J:Nat}{ns:List Nat}{h0:Tr ae}{kn:List<|Nat×Option ae}{K:Cb}{val:AV->AV->AV->Option fw}{fn:Func}{body:Code}{w:World}(hP:bE P)(cm:P.funcs[f]? =some fn)(cv:fn.body=some body)(dJ:(fn.name == "runtime.NumGoroutine")=false)(fX:fN<=J)(dM:J+4<=top)(jb:K.s1<top)(jw:K.s2<top)(mM:K.s1≠K.s2)(dK:∀n o,n<top->h0.get n=some o->n∈ns)(dm:∀n∈ns,n<J)(jx:∀n o,(n,some o)∈kn->h0.get n=some o)(jy:∀p∈kn,p.1<top)(eP:∀x v1 v2 p,val x v1 v2=some p->max fn.ntmps 2<=top/\∀B':aJ,B'.F=B.F->B'.inv=B.inv->
 au P B' (J+4) (rK K J P fn.results.toList p) ⟨f,eh [x,.yield J],max fn.ntmps 2,[.code body],[],none⟩ ⟨gf<|kn++bu (I9 K J v1 v2),J+4,0,[],[]⟩){Ye:aI}{args:List AV}{x:AV}{vs:Array Value}(r:Rel B ρ s.h w)(hg:gd ρ)(h:qM K val J ns h0 Ye args s= .ok x s1)(hv:ay ρ args vs.toList):jo P ((callFunc f vs).run P w)<|kh B ρ s s1 w x:=by
 unfold qM at h;split at h
 ·rename_i x0 L;obtain⟨gH,h1⟩:=cW h;obtain⟨u,s2,h2,h3⟩:=M.aP h1;obtain⟨a1,a2,a3⟩:=uv h2;unfold Gs at h3;obtain⟨o,s3,k1,h3⟩:=M.aP h3;obtain⟨q,hq,h3⟩:=bt h3;obtain⟨⟨f1,f2,f3,f4,f5⟩,h3⟩:=CA h3;obtain⟨c1,jK,h3⟩:=bt h3;obtain⟨c2,vT,h3⟩:=bt h3;obtain⟨⟨n1,n2,n3,n4,n5,n6⟩,h3⟩:=CA h3;obtain⟨od,s4,k2,h3⟩:=M.aP h3;obtain⟨hod,h3⟩:=CA h3;obtain⟨o1,s5,k3,h3⟩:=M.aP h3;obtain⟨o2,s6,k4,h3⟩:=M.aP h3;obtain⟨v1,KS,h3⟩:=bt h3;obtain⟨v2,vP,h3⟩:=bt h3;obtain⟨p,hp,h3⟩:=bt h3;obtain⟨⟨g1,g2,g3,g4,g5,g6,g7,g8⟩,h3⟩:=CA h3;obtain⟨u1,t1,w1,h3⟩:=M.aP h3;obtain⟨u2,t2,w2,h3⟩:=M.aP h3;obtain⟨u3,t3,w3,h3⟩:=M.aP h3;obtain⟨u4,t4,w4,h3⟩:=M.aP h3;obtain⟨rfl,rfl⟩:=bD h3;obtain⟨r1,r2,r3,r4⟩:=fY k1;obtain⟨r5,r6,r7,r8⟩:=fY k2;obtain⟨r9,Xv,Xw,r12⟩:=fY k3;obtain⟨r13,Xx,r15,r16⟩:=fY k4;obtain⟨x1,x2,_,x4,x5⟩:=kx w1;obtain⟨y1,y2,_,y4,y5⟩:=kx w2;obtain⟨z1,z2,_,z4,z5⟩:=kx w3;obtain⟨m1,m2,_,m4,m5⟩:=kx w4;have Xy:=aaD hq;have p1:=SG jK;have p2:=SG vT;obtain⟨qfn,qt,qnt,qps,qa,qb,df⟩:=q;simp only at f1 f2 f3 f4 f5 n1 n2 n3 n4 n5 n6 Xy p1 p2 jK vT k2 k3 k4 w1 w2 w3 w4 y1 y2 y4 r5 r6 r7 r8 x4 hq;subst f1;subst f2;subst f3;subst f4;subst f5;subst hod;rw[Xy,a1] at r2;rw[r3,a1] at r6;rw[r7,r3,a1] at Xv;rw[Xw,r7,r3,a1] at Xx;obtain⟨tz1,zz1,bo1,_⟩:=EW KS;obtain⟨tz2,zz2,bo2,_⟩:=EW vP;let V:Vw:=[(J,L,K.loop none (J+2) (J+3)<|J+1),(J+1,df,.defs),(J+2,c1,eL v1),(J+3,c2,eL v2)];have mem:∀q∈V,q=(J,L,K.loop none (J+2) (J+3)<|J+1)\/q=(J+1,df,.defs)\/q=(J+2,c1,eL v1)\/q=(J+3,c2,eL v2):=fun q hq=>by simpa[V] using hq
  have e0:∀gG:aw,eQ J gG V J=gG L:=fun gG=>by
   unfold eQ;rw[if_neg aj,if_neg aj];show(match gK V J with|some n=>gG n|none=>none)=_;have:gK V J=some L:=by simp[gK,V]
   rw[this]
  have e1:∀gG:aw,eQ J gG V (J+1)=gG df:=fun gG=>by
   unfold eQ;rw[if_neg aj,if_neg aj];show(match gK V (J+1) with|some n=>gG n|none=>none)=_;have:gK V (J+1)=some df:=by simp[gK,V]
   rw[this]
  have e2:∀gG:aw,eQ J gG V (J+2)=gG c1:=fun gG=>by
   unfold eQ;rw[if_neg aj,if_neg aj];show(match gK V (J+2) with|some n=>gG n|none=>none)=_;have:gK V (J+2)=some c1:=by simp[gK,V]
   rw[this]
  have e3:∀gG:aw,eQ J gG V (J+3)=gG c2:=fun gG=>by
   unfold eQ;rw[if_neg aj,if_neg aj];show(match gK V (J+3) with|some n=>gG n|none=>none)=_;have:gK V (J+3)=some c2:=by simp[gK,V]
   rw[this]
  have hi:jq ρ<|eQ J ρ V:=fun m x hm e=>by rw[yI aj hm];exact e
  have hV:zX J ρ s.h V:=by
   refine⟨fun q hq=>?_,fun q hq q' dS e=>?_,fun q hq q' dS e=>?_,fun q hq=>?_⟩
   ·rcases mem q hq with rfl|rfl|rfl|rfl
    ·exact⟨Nat.le_refl _,by omega,x2⟩
    ·exact⟨by omega,by omega,y2⟩
    ·exact⟨by omega,by omega,z2⟩
    ·exact⟨by omega,by omega,m2⟩
   ·rcases mem q hq with rfl|rfl|rfl|rfl<;>rcases mem q' dS with rfl|rfl|rfl|rfl<;>first|rfl|(simp only at e;omega)
   ·rcases mem q hq with rfl|rfl|rfl|rfl<;>rcases mem q' dS with rfl|rfl|rfl|rfl<;>first|rfl|(simp only at e;omega)
   ·rcases mem q hq with rfl|rfl|rfl|rfl
    ·exact⟨_,r2,.inl ⟨rfl,rfl,fun N o' hO=>NA jb jw p1 p2 (fun x e=>by rw[e2];exact e) (fun x e=>by rw[e3];exact e) (fun x e=>by rw[e1];exact e) hO⟩⟩
    ·exact⟨_,r6,.inl ⟨rfl,rfl,fun N o' hO=>hO⟩⟩
    ·exact⟨_,Xv,.inl ⟨by rw[bo1];rfl,rfl,fun N o' hO=>Fo KS g1 g7 hi hO⟩⟩
    ·exact⟨_,Xx,.inl ⟨by rw[bo2];rfl,rfl,fun N o' hO=>Fo vP g2 g8 hi hO⟩⟩
  obtain⟨_,cV,T⟩:=r.tk;have T:DW B ρ s.h w cV:=T;have nL:=JO aj r T dK dm jx jy (fun n hn=>by obtain⟨_,o,p,h⟩:=a3 n hn;exact⟨o,p,h⟩) hV;obtain⟨d1,d2⟩:=eP _ _ _ _ hp;have fi:bx (⟨gf<|kn++bu (I9 K J v1 v2),J+4,0,[],[]⟩:AS):=⟨Nat.zero_le _,dM⟩;have iL:ay (eQ J ρ V) [x0,.yield J] vs.toList:=by simp only[ay,VR] at hv ⊢;obtain⟨y0,ys,q1,q2,y3,Ee,q3,⟨b',N',q4,q5⟩,q6⟩:=hv;exact⟨y0,ys,q1,AV.pd hi gH q2,y3,Ee,q3,⟨b',N',(e0 ρ).trans q4,q5⟩,q6⟩
  have bC:=au.FC (B:=tB B ρ w<|wH ρ cV V) (s:=⟨gf<|kn++bu (I9 K J v1 v2),J+4,0,[],[]⟩) (args:=[x0,.yield J]) (vs:=vs) hP cm cv d1 (d2 _ rfl rfl) fi nL (fun g iB=>by
   obtain⟨N,e⟩:=hg g iB;exact⟨N,by rw[CS<|Nat.lt_of_lt_of_le iB fX];exact e⟩) (fun m hm jZ=>by
   have hm:J+4<=m:=hm;exact HO aj jZ fun q hq=>by rcases mem q hq with rfl|rfl|rfl|rfl<;>(show _≠m;simp only;omega)) iL
  rw[uw cm cv dJ];show Calls P f vs w _;refine bC.mono fun e w'=>?_;rintro ⟨Cf,x',s7,rfl,⟨rfl,j1,j2,j3,j4⟩,_,σ,i0,Cg,i1,i2,i3⟩;have sV:∀q∈V,σ q.1=ρ q.2.1:=fun q hq=>by
   rcases mem q hq with rfl|rfl|rfl|rfl
   ·exact(i0 J aj aj).trans<|e0 ρ
   ·exact(i0 (J+1) aj aj).trans<|e1 ρ
   ·exact(i0 (J+2) aj aj).trans<|e2 ρ
   ·exact(i0 (J+3) aj aj).trans<|e3 ρ
  have qN:jq σ<|cG ρ σ:=fun k x hk e=>by unfold cG;rw[if_pos hk];exact e
  have Py:∀k,k<top->cG ρ σ k=ρ k:=fun k hk=>by unfold cG;rw[if_neg aj]
  have V0:(J,L,K.loop none (J+2) (J+3)<|J+1)∈V:=by simp[V]
  have V1:(J+1,df,ae.defs)∈V:=by simp[V]
  have V2:(J+2,c1,eL v1)∈V:=by simp[V]
  have V3:(J+3,c2,eL v2)∈V:=by simp[V]
  have Er:σ (J+1)=ρ df:=sV _ V1;have s2':σ (J+2)=ρ c1:=sV _ V2;have s3':σ (J+3)=ρ c2:=sV _ V3;have gt:∀(k c d:Nat),(aS [(K.s1,AV.ptr<|some (c,0)),(K.s2,.ptr<|some (d,0))]).get K.s1=some (.ptr<|some (c,0))/\(aS [(K.s1,AV.ptr<|some (c,0)),(K.s2,.ptr<|some (d,0))]).get K.s2=some (.ptr<|some (d,0)):=fun k c d=>by
   constructor
   ·show(((Tr.nil:Tr AV).put K.s2 _).put K.s1 _).get K.s1=_;rw[Tr.lM _ _ _ _ jb,if_pos rfl]
   ·show(((Tr.nil:Tr AV).put K.s2 _).put K.s1 _).get K.s2=_;rw[Tr.lM _ _ _ _ jb,if_neg fun e=>mM e.symm,Tr.lM _ _ _ _ jw,if_pos rfl]
  obtain⟨b1,b2,b3,b4⟩:=I8 (a:=s.nx) (L2:=[(L,K.loop p.bL c1 c2 df),(df,.defs),(c1,eL p.v1),(c2,eL p.v2)]) (h':=s1.h) r T hV i2 i3 sV (fun m z hm q=>Cg m z hm<|hi m z hm q) (fun n q hm=>by
   rcases List.mem_cons.1 hm with hm|hm
   ·cases hm;exact⟨_,V0,rfl,_,j1,.inl ⟨rfl,rfl,fun N o' hO=>NA jb jw (gt 0 _ _).1 (gt 0 _ _).2 (fun x e=>by rw[Py c1 z2, ←s2'];exact e) (fun x e=>by rw[Py c2 m2, ←s3'];exact e) (fun x e=>by rw[Py df y2, ←Er];exact e) hO⟩⟩
   rcases List.mem_cons.1 hm with hm|hm
   ·cases hm;exact⟨_,V1,rfl,_,j2,.inl ⟨rfl,rfl,fun N o' hO=>hO⟩⟩
   rcases List.mem_cons.1 hm with hm|hm
   ·cases hm;exact⟨_,V2,rfl,_,j3,.inl ⟨rfl,rfl,fun N o' hO=>Fo (wm _) g3 g5 qN hO⟩⟩
   rcases List.mem_cons.1 hm with hm|hm
   ·cases hm;exact⟨_,V3,rfl,_,j4,.inl ⟨rfl,rfl,fun N o' hO=>Fo (wm _) g4 g6 qN hO⟩⟩
   cases hm) (fun q hq _=>by
   rcases mem q hq with rfl|rfl|rfl|rfl
   ·exact⟨_,j1,rfl⟩
   ·exact⟨_,j2,rfl⟩
   ·exact⟨_,j3,rfl⟩
   ·exact⟨_,j4,rfl⟩) (fun k hk=>by
   have G1:s1.h=(((s.h.put L<|some<|K.loop p.bL c1 c2 df).put df<|some .defs).put c1<|some<|eL p.v1).put c2 (some<|eL p.v2):=by rw[m4,z4,y4,x4,r15,Xw,r7,r3,a1]
   rw[G1,Tr.dk _ _ _ _ m2 hk,Tr.dk _ _ _ _ z2 hk,Tr.dk _ _ _ _ y2 hk,Tr.dk _ _ _ _ x2 hk];by_cases q4:k=c2
   ·subst q4;exact .inl ⟨_,by simp,if_pos rfl⟩
   rw[if_neg q4];by_cases q3:k=c1
   ·subst q3;exact .inl ⟨_,by simp,if_pos rfl⟩
   rw[if_neg q3];by_cases q2:k=df
   ·subst q2;exact .inl ⟨_,by simp,if_pos rfl⟩
   rw[if_neg q2];by_cases q1:k=L
   ·subst q1;exact .inl ⟨_,by simp,if_pos rfl⟩
   rw[if_neg q1];exact .inr ⟨fun q hq=>by rcases mem q hq with rfl|rfl|rfl|rfl<;>(intro e;exact absurd e.symm<|by assumption),rfl⟩)
  refine⟨Cf,rfl,cG ρ σ,?_,AV.pd qN rfl i1,b3,b4⟩;have cM:s1.nx=s.nx:=by rw[m5,z5,y5,x5,r16,r12,r8,r4,a2]
  rw[cM];exact b1
 ·cases h
end Go.Rn
namespace Go.Rn
open Go.RowKit
variable {r:Nat->Nat} {n J g df c2 c1:Nat} {s:AS} {K:Cb} {ns:List Nat} {h0:Tr ae} {P:Program}
theorem agd(h:s.mark=0):aY n s=s:=by obtain⟨hh,nx,mark,rd,wr⟩:=s;have h:mark=0:=h;subst h;rfl
theorem Tt{J:Nat}{h0:Tr ae}:∀{ns:List Nat} {s s1:AS} {u:Unit},s.mark=0->fH J h0 ns s= .ok u s1->s1=s
 |[],s,s1,u,_,h=>(bD (show M.pure () s= .ok u s1 from h)).2
 |m::ns,s,s1,u,hm,h=>by obtain⟨o,s2,h1,h2⟩:=M.aP (show((bp m).bind fun o=>aA (h0.get m) fun p=>aF (oo J o p) <| fH J h0 ns) s= .ok u s1 from h);obtain⟨a1,a2,rfl⟩:=Iq h1;rw[if_neg aj] at h2;obtain⟨p,_,h3⟩:=bt h2;obtain⟨_,h4⟩:=cW h3;exact Tt hm h4
theorem JR{o:Option ae}{p:ae}(hm:s.mark=0)(h1:n<s.nx)(h2:n<top)(h3:s.h.get n=some p)(h4:p.di=false):bI n o s= .ok () ⟨s.h.put n o,s.nx,s.mark,s.rd,s.wr⟩:=by rw[NV h1 h2 h3 h4,if_neg aj]
structure Ki (K:Cb) (s:AS) (L df c1 c2:Nat) (v1 v2:AV):Prop where
 mark:s.mark=0
 nx:s.nx<=top
 lt:L<s.nx/\df<s.nx/\c1<s.nx/\c2<s.nx
 ne:L≠df/\L≠c1/\L≠c2/\df≠c1/\df≠c2/\c1≠c2
 loop:∃t,s.h.get L=some (.loop .ready none K.fn t K.nt K.ps K.a K.b df)/\t.get K.s1=some (.ptr<|some (c1,0))/\t.get K.s2=some (.ptr<|some (c2,0))
 df:s.h.get df=some .defs
 b1:∃o,s.h.get c1=some o/\zg o=some v1
 b2:∃o,s.h.get c2=some o/\zg o=some v2
def okB(v:AV):Prop:=v.hi=true/\v.cj=true
noncomputable def KT(K:Cb)(s:AS)(L df c1 c2:Nat)(p:fw):AS:=⟨(((s.h.put L<|some<|K.loop p.bL c1 c2 df).put df<|some .defs).put c1<|some<|eL p.v1).put c2<|some<|eL p.v2,s.nx,s.mark,s.rd,s.wr⟩
theorem NB{F:Nat->Option (List AV)}{sp:Sp}{val:AV->AV->AV->Option fw}(h:sp g=some (qM K val J ns h0)){x v1 v2:AV}{L:Nat}{p:fw}(hx:x.hi=true)(hk:qB J h0 ns s=true)(I:Ki K s L df c1 c2 v1 v2)(hv:val x v1 v2=some p)(o1:okB v1)(o2:okB v2)(o3:okB p.v1)(o4:okB p.v2):
 bg P sp F (n+1) (.fn g) [x,.yield L] s= .ok (.bool p.ret) (KT K s L df c1 c2 p):=by
 show ko P sp g (bg P sp F n) [x,.yield L] s=_;rw[uN h];show(aF x.hi <| (fH J h0 ns).bind fun _=>Gs K val x L) s=_;have hc:=wY hk;rw[Tt I.mark hc] at hc;rw[hx,dB,M.bK hc];obtain⟨t,l1,l2,l3⟩:=I.loop;obtain⟨q1,q2,q3⟩:=I.b1;obtain⟨r1,r2,r3⟩:=I.b2;obtain⟨n1,n2,n3,n4,n5,n6⟩:=I.ne;obtain⟨t1,t2,t3,t4⟩:=I.lt;have rd:∀(m:Nat) (o:ae),m<s.nx->s.h.get m=some o->bp m s= .ok o s:=fun m o hm ho=>by have:=me ((blt_eq _ _).mpr hm) ho;rw[agd I.mark] at this;exact this
 have tt:=I.nx;obtain⟨tz1,zz1,e1,_⟩:=EW q3;obtain⟨tz2,zz2,e2,_⟩:=EW r3;unfold Gs;rw[M.bK<|rd _ _ t1 l1];rw[show JQ (.loop .ready none K.fn t K.nt K.ps K.a K.b df)=some ⟨K.fn,t,K.nt,K.ps,K.a,K.b,df⟩ from rfl,cf];rw[CL (show K.fn=K.fn/\K.nt=K.nt/\K.ps=K.ps/\K.a=K.a/\K.b=K.b from⟨rfl,rfl,rfl,rfl,rfl⟩)];simp only;rw[l2,l3,show Dz (some<|.ptr<|some (c1,0))=some c1 from rfl,show Dz (some<|.ptr<|some (c2,0))=some c2 from rfl,cf,cf,CL ⟨n1,n2,n3,n4,n5,n6⟩,M.bK<|rd _ _ t2 I.df,CL rfl,M.bK<|rd _ _ t3 q2,M.bK<|rd _ _ t4 r2,q3,r3,cf,cf,hv,cf,CL ⟨o1.1,o2.1,o3.1,o4.1,o3.2,o4.2,o1.2,o2.2⟩];have g1:∀(h:Tr ae) (m k:Nat) (o:Option ae) (p:ae),m<top->k<top->m≠k->h.get k=some p->(h.put m o).get k=some p:=fun h m k o p hm hk cn e=>by rw[Tr.dk _ _ _ _ hm hk,if_neg<|Ne.symm cn];exact e
 rw[M.bK<|JR I.mark t1 aj l1 rfl];rw[M.bK<|JR (s:=⟨s.h.put L<|some<|K.loop p.bL c1 c2 df,s.nx,s.mark,s.rd,s.wr⟩) I.mark t2 aj (g1 _ _ _ _ _ aj aj n1 I.df) rfl];rw[M.bK<|JR (s:=⟨(s.h.put L<|some<|K.loop p.bL c1 c2 df).put df<|some .defs,s.nx,s.mark,s.rd,s.wr⟩) I.mark t3 aj (g1 _ _ _ _ _ aj aj n4<|g1 _ _ _ _ _ aj aj n2 q2) (by rw[e1];rfl)];rw[M.bK<|JR (s:=⟨((s.h.put L<|some<|K.loop p.bL c1 c2 df).put df<|some .defs).put c1<|some<|eL p.v1,s.nx,s.mark,s.rd,s.wr⟩) I.mark t4 aj (g1 _ _ _ _ _ aj aj n6<|g1 _ _ _ _ _ aj aj n5<|g1 _ _ _ _ _ aj aj n3 r2) (by rw[e2];rfl)];rfl
theorem Ve{X:TX}{kn:List<|Nat×Option ae}{L L':bY}{fn:Func}{body:Code}(hP:bE P)(fX:fN<=J)(dM:J+4<=top)(jb:K.s1<top)(jw:K.s2<top)(mM:K.s1≠K.s2)(dK:∀n o,n<top->h0.get n=some o->n∈ns)(dm:∀n∈ns,n<J)(jx:∀n o,(n,some o)∈kn->h0.get n=some o)(jy:∀p∈kn,p.1<top){val:AV->AV->AV->Option fw}(h:eA X J P<|dA J ns h0 L)(h':eA X J P<|dA J ns h0 L')(cm:P.funcs[g]? =some fn)(cv:fn.body=some body)(dJ:(fn.name == "runtime.NumGoroutine")=false)(eP:∀x v1 v2 p,val x v1 v2=some p->max fn.ntmps 2<=top/\∀B:aJ,qC X P J ns h0 L' B->
 au P B (J+4) (rK K J P fn.results.toList p) ⟨g,eh [x,.yield J],max fn.ntmps 2,[.code body],[],none⟩ ⟨gf<|kn++bu (I9 K J v1 v2),J+4,0,[],[]⟩):eA X J P<|dA J ns h0<|(g,.raw<|qM K val)::L:=by
 refine(show eA X J P (pv (dA J ns h0 L) g<|qM K val J ns h0) from h.mQ (fun Ye _ args=>Yd.qM _ _ _ _ _ Ye args) fun B hB hT Ye hc hl args x s s1 ρ w vs fi r hg hf hm hv=>?_);refine ac4 hP cm cv dJ fX dM jb jw mM dK dm jx jy (fun x v1 v2 p e=>?_) r hg hm hv;obtain⟨q1,q2⟩:=eP x v1 v2 p e;exact⟨q1,fun B' lH lI=>q2 B'<|rE hP h' (lH.trans hB)<|lI.trans hT⟩
theorem abL{p:Option Code}(jb:K.s1<top)(jw:K.s2<top)(mM:K.s1≠K.s2)(e1:r c1=c1)(e2:r c2=c2)(e3:r df=df):rC r (K.loop p c1 c2 df)<|K.loop p c1 c2 df:=by
 intro ρ N o h;have gt:(aS [(K.s1,AV.ptr<|some (c1,0)),(K.s2,.ptr<|some (c2,0))]).get K.s1=some (.ptr<|some (c1,0))/\(aS [(K.s1,AV.ptr<|some (c1,0)),(K.s2,.ptr<|some (c2,0))]).get K.s2=some (.ptr<|some (c2,0)):=by
  constructor
  ·show(((Tr.nil:Tr AV).put K.s2 _).put K.s1 _).get K.s1=_;rw[Tr.lM _ _ _ _ jb,if_pos rfl]
  ·show(((Tr.nil:Tr AV).put K.s2 _).put K.s1 _).get K.s2=_;rw[Tr.lM _ _ _ _ jb,if_neg fun e=>mM e.symm,Tr.lM _ _ _ _ jw,if_pos rfl]
 exact NA jb jw gt.1 gt.2 (fun x e=>by rw[e1];exact e) (fun x e=>by rw[e2];exact e) (fun x e=>by rw[e3];exact e) h
theorem Um{v:AV}(h:okB v)(hr:∀k,top<=k->r k=k):rC r (eL v)<|eL v:=by intro ρ N o k;exact Fo (wm v) h.1 h.2 (fun m x hm e=>by rw[hr m hm];exact e) k
theorem bR.yield(e:r n=n):bR r (.yield n)<|.yield n:=by intro ρ v h;simp only[VR] at h ⊢;obtain⟨b,N,h1,h2⟩:=h;exact⟨b,N,by rw[e];exact h1,h2⟩
theorem abM:rC r .defs .defs:=fun ρ N o k=>k
end Go.Rn
