import Derived.Test.YthbfipeeifofpaaGreatDoorRnGF
set_option maxRecDepth 100000
set_option maxHeartbeats 8000000
set_option linter.unusedSimpArgs false
set_option linter.unusedVariables false
namespace Go.Rn
open Go.RowKit
noncomputable section
def xR(J:Nat)(ns:List Nat)(h0:Tr ae)(k:Nat)(val:AV->List AV->Option (AV×AV)):aK->List AV->M AV:=fun _ args=>
 match args with
 | .ptr (some (n,0))::rest=>aG (rest.all AV.hi&&Nat.ble J n) <| (fG J h0 ns).bind fun _=>(bt n).bind fun o=>match o with
  | .tok k' v=>aG (Nat.beq k k') <| aB (val v rest) fun p=>aG p.1.hi <| (kU n<|some<|.tok k p.2).bind fun _=>M.pure p.1
  |_=>fail
 |_=>fail
end
theorem Yv.xR(J:Nat)(ns:List Nat)(h0:Tr ae)(k:Nat)(val:AV->List AV->Option (AV×AV))(Yw:aK)(args:List AV):Yv<|xR J ns h0 k val Yw args:=by
 unfold Rn.xR;split
 ·refine Yv.aG fun _=>Yv.bind (Yv.fG J h0 ns) fun _=>Yv.bind (Yv.bt _) fun o=>?_;split
  ·exact Yv.aG fun _=>Yv.aB fun p _=>Yv.aG fun _=>Yv.bind (Yv.kU _ _) fun _=>Yv.pure _
  ·exact Yv.fail
 ·exact Yv.fail
def ma(J:Nat)(ρ loc:Ren):Ren:=fun m=>if m<J then ρ m else if top<=m then ρ m else loc m
def tg(B:aJ)(ρ:Ren)(w:World)(H:Nat->Prop):aJ:=⟨fun x=>w.heap.size<=x\/H x,B.F,fun m=>ρ m≠none,B.inv,B.lim,B.mono⟩
theorem afZ{X:TX}{J k:Nat}{v:AV}{B:aJ}{ρ:Ren}{w:World}{h h0:Tr ae}{ns:List Nat}{kn:List<|Nat×Option ae}{b:Nat}{H:Nat->Prop}(hX:ye X J)(hT:B.inv=nC X J)(ht:J<=top)(r:Rel B ρ h w)(dJ:∀n o,n<top->h0.get n=some o->n∈ns)(eD:∀n∈ns,n<J)(jk:∀n o,(n,some o)∈kn->h0.get n=some o)(jq:∀p∈kn,p.1<top)(a3:∀n∈ns,∃o p,h.get n=some o/\h0.get n=some p/\oh J o p=true)(hH:∀x,H x->(x<w.heap.size/\B.lim<=x)/\B.may x/\jY ρ h x/\∀j sh,ρ (hn j x sh)=none)(I:nC X J k v ρ w b H):
 ∃L loc N0,X k v L/\loc J=some (b,N0)/\(∀m y,loc m=some y->∃o,(m,o)∈L)/\Rel (tg B ρ w H) (ma J ρ loc) (fR<|kn++aW L) w:=by
 obtain⟨L,Gd,bl,H1,N0,hx,root,low,is,one,tok,JC,sub,own,apart⟩:=I;have r0:=Di ht r dJ eD a3;have nm:=hX.nm k v L hx;let loc:Ren:=fun m=>if m∈L.map (·.1) then Gd m else none
 have BW:∀m o,(m,o)∈L->m∈L.map (·.1):=fun m o hm=>List.mem_map.2 ⟨_,hm,rfl⟩;have Wt:∀m,m∈L.map (·.1)->loc m=Gd m:=fun m hm=>if_pos hm;have af0:∀m,m ∉ L.map (·.1)->loc m=none:=fun m hm=>if_neg hm;have ge:∀m,m∈L.map (·.1)->J<=m/\m<top:=fun m hm=>by obtain⟨p,hp,rfl⟩:=List.mem_map.1 hm;exact⟨(nm p hp).1,(nm p hp).2.1⟩
 obtain⟨oR,hR⟩:=hX.root k v L hx;have tm:∀m,m∈L.map (·.1)->ma J ρ loc m=Gd m:=fun m hm=>by obtain⟨q1,q2⟩:=ge m hm;unfold ma;rw[if_neg aj,if_neg aj];exact Wt m hm
 have tk:∀m,top<=m->ma J ρ loc m=ρ m:=fun m hm=>by unfold ma;rw[if_neg aj,if_pos hm]
 have tl:∀m,m<J->ma J ρ loc m=ρ m:=fun m hm=>by unfold ma;rw[if_pos hm]
 have ue:(gh J ρ).le<|ma J ρ loc:=by
  intro m x e;unfold gh at e;split at e
  ·rename_i q;rw[tl m q];exact e
  ·unfold gk at e;split at e
   ·rename_i q;rw[tk m q];exact e
   ·cases e
 have cL:∀p∈kn++aW L,p.1<top:=fun p hp=>by
  rcases List.mem_append.1 hp with hp|hp
  ·exact jq p hp
  ·exact Mq (fun q hq=>(nm q hq).2.1) p hp
 have mle:∀{N:Nat} {o:ae} {o':Obj},ln (L.map (·.1)) o->OR (xQ Gd ρ) N o o'->OR (ma J ρ loc) N o o':=fun hf hO=>(hf _ _ _ hO).mono fun i y hi=>by
  have hi:(if top<=i\/i∈L.map (·.1) then xQ Gd ρ i else none)=some y:=hi;split at hi
  ·rename_i q;unfold xQ at hi;rcases q with q|q
   ·rw[if_pos q] at hi;rw[tk i q];exact hi
   ·rw[if_neg (by have:=(ge i q).2;omega)] at hi;rw[tm i q];exact hi
  ·cases hi
 have ak:∀m o,(fR<|kn++aW L).get m=some o->(m∈ns/\h0.get m=some o/\o.mD=true)\/(m,o)∈L:=fun m o hg=>by
  rcases List.mem_append.1 (uE cL hg) with q|q
  ·have q2:=jk m o q;have iq:=dJ m o (jq _ q) q2;obtain⟨p1,p2,_,c3,c4⟩:=a3 m iq;rw[q2] at c3;cases c3;refine .inl ⟨iq,q2,?_⟩;unfold oh at c4;split at c4<;>first|rfl|cases c4
  ·exact .inr<|Mi q
 have BX:∀m N x,m∈ns->ma J ρ loc m=some (x,N)->x<B.lim:=fun m N x q1 e=>by rw[tl m<|eD m q1] at e;obtain⟨p1,p2,c2,c3,c4⟩:=a3 m q1;obtain⟨b',N',e1,e2⟩:=r.tk.1.2 m p1 (Nat.lt_of_lt_of_le (eD m q1) ht) c2<|Ho c4;rw[e] at e1;cases e1;exact e2
 have D8:∀m o N x,(m,o)∈L->ma J ρ loc m=some (x,N)->x=bl m/\H x:=fun m o N x hm e=>by rw[tm m<|BW m o hm] at e;obtain⟨N',o',e1,_,_,e4⟩:=is m o hm;rw[e] at e1;cases e1;exact⟨rfl,e4⟩
 refine⟨L,loc,N0,hx,(Wt _<|BW _ _ hR).trans root,fun m y e=>?_,fun m o hm hg=>?_,fun m n o p x N M hm fw hg kS cP e1 e2=>?_,fun m i es ex left cur hm hg=>?_,fun x hx=>.inl hx,fun i j m es ex left cur gX iS iF iH hi _ hg _=>?_,fun j x sh e=>?_,?_⟩
 ·by_cases q:m∈L.map (·.1)
  ·obtain⟨p,hp,rfl⟩:=List.mem_map.1 q;exact⟨p.2,hp⟩
  ·rw[af0 m q] at e;cases e
 ·rcases ak m o hg with⟨q1,q3,q4⟩|q
  ·obtain⟨b',N',o',e1,e2,e3,_⟩:=r0.is m o hm q3;exact⟨b',N',o',ue _ _ e1,e2,e3.mono ue,fun z=>by rw[ae.kg q4] at z;cases z⟩
  ·obtain⟨N',o',e1,e2,e3,e4⟩:=is m o q;exact⟨bl m,N',o',(tm m<|BW m o q).trans e1,e2,mle (nm _ q).2.2.2 e3,fun _=>.inr e4⟩
 ·rcases ak m o hg with⟨q1,q3,q4⟩|q
  ·rcases ak n p kS with⟨z1,z3,z4⟩|z
   ·rcases cP with y|y
    ·rw[ae.kg q4] at y;cases y
    ·rw[ae.kg z4] at y;cases y
   ·have y1:=BX m N x q1 e1;have y2:=(hH x (D8 n p M x z e2).2).1.2;omega
  ·rcases ak n p kS with⟨z1,z3,z4⟩|z
   ·have y1:=BX n M x z1 e2;have y2:=(hH x (D8 m o N x q e1).2).1.2;omega
   ·exact one m n o p q z<|(D8 m o N x q e1).1.symm.trans (D8 n p M x z e2).1
 ·rcases ak m _ hg with⟨_,_,q4⟩|q
  ·cases q4
  ·rcases(nm _ q).2.2.1 with y|y<;>cases y
 ·rcases ak i _ hg with⟨_,_,q4⟩|q
  ·cases q4
  ·rcases(nm _ q).2.2.1 with y|y<;>cases y
 ·rw[tk _<|gb _ _ _] at e;obtain⟨g0,l,c,e',fr,g1,g2,g3,g4⟩:=r0.fz j x sh (by rw[su ht<|gb _ _ _];exact e);refine⟨.inl e,l,c,e',fr,g1,g2,fun m o N hm hg ct hr=>?_,fun i y hy=>?_⟩
  ·rcases ak m o hg with⟨_,_,q4⟩|q
   ·rw[ae.kg q4] at ct;cases ct
   ·exact e<|(hH x (D8 m o N x q hr).2).2.2.2 j sh
  ·obtain⟨v',k1,k2,k3⟩:=g4 i y hy;refine⟨v',k1,VR.mono (fun i z q=>?_) _ _ k2,k3⟩;unfold gk at q ⊢;split at q
   ·rename_i hk;rw[if_pos hk];exact ue _ _ q
   ·cases q
 ·refine⟨⟨r.tk.1.1,fun m o hm hg hf=>?_⟩,H1,fun m k' v' hm hg=>?_,fun m n x k' v' KK vT hm fw hg kS cf iV pO=>?_⟩
  ·rcases ak m o hg with⟨q1,q3,q4⟩|q
   ·obtain⟨b',N',o',e1,e2,e3,_⟩:=r0.is m o hm q3;exact⟨b',N',ue _ _ e1,BX m N' b' q1<|ue _ _ e1⟩
   ·rcases(nm _ q).2.2.1 with y|y
    ·have:=(ae.uA y).2;rw[ae.kg hf] at this;cases this
    ·cases o<;>first|(cases y;done)|cases hf
  ·rcases ak m _ hg with⟨_,_,q4⟩|q
   ·cases q4
   ·obtain⟨N',o',e1,e2,e3,e4⟩:=is m _ q;refine⟨bl m,N',(tm m<|BW m _ q).trans e1,?_,JC m k' v' q,fun x iV=>?_⟩
    ·show B.inv k' v' (ma J ρ loc) w (bl m)<|H1 m;rw[hT];exact(tok m k' v' q).mono (fun i y hi e=>by rw[tk i hi];exact e) fun _ _=>rfl
    ·have pO:=sub m k' v' q x iV;obtain⟨c1,c2,c3,c4⟩:=hH x pO;refine⟨c1,.inr pO,fun n o N fw kS ct hr=>?_,fun j sh=>by rw[tk _<|gb _ _ _];exact c4 j sh⟩;rcases ak n o kS with⟨_,_,q4⟩|z
     ·rw[ae.kg q4] at ct;cases ct
     ·refine own m k' v' n o q z ?_ (by rw[←(D8 n o N x z hr).1];exact iV);cases o<;>first|rfl|cases ct
  ·rcases ak m _ hg with⟨_,_,q4⟩|q
   ·cases q4
   ·rcases ak n _ kS with⟨_,_,q4⟩|z
    ·cases q4
    ·exact apart m k' v' n KK vT x q z cf iV pO
end Go.Rn
namespace Go.Rn
open Go.RowKit
theorem aeI{X:TX}{J k n a:Nat}{v v':AV}{B:aJ}{ρ σ:Ren}{w w':World}{h h4:Tr ae}{b N N0:Nat}{cU:Nat->Nat->Prop}{L':List<|Nat×ae}(hX:ye X J)(hT:B.inv=nC X J)(oP:n<top)(hg:h.get n=some (.tok k v))(hr:ρ n=some (b,N))(r:Rel B ρ h w)(h1:∀n k v,n<top->h.get n=some (.tok k v)->∃b N,ρ n=some (b,N)/\B.inv k v ρ w b (cU n)/\cU n b/\∀x,cU n x->(x<w.heap.size/\B.lim<=x)/\B.may x/\jY ρ h x/\∀j sh,ρ (hn j x sh)=none)(h2:∀n m x k v k' v',n<top->m<top->h.get n=some (.tok k v)->h.get m=some (.tok k' v')->n≠m->cU n x->¬cU m x)(q3:Rel (tg B ρ w<|cU n) σ h4 w')(q4:cx (tg B ρ w<|cU n) w w')(ow:σ J=some (b,N0))(yf:∀m x,top<=m->ρ m=some x->σ m=some x)(hx:X k v' L')(hL:∀m o,(m,o)∈L'->h4.get m=some o):
 Ext a a ρ (cC ρ σ)/\jg σ (cC ρ σ)/\Rel B (cC ρ σ) (h.put n<|some<|.tok k v') w'/\cx B w w':=by
 obtain⟨b0,M0,r1,_,alx,hH⟩:=h1 n k v oP hg;rw[hr] at r1;cases r1;have nm:=hX.nm k v' L' hx;have hl:ρ.le<|cC ρ σ:=by
  intro k x e;unfold cC;by_cases hk:top<=k
  ·rw[if_pos hk];exact yf k x hk e
  ·rw[if_neg hk];exact e
 have cL:∀k,k<top->cC ρ σ k=ρ k:=fun k hk=>by unfold cC;rw[if_neg aj]
 have gG:∀k,top<=k->cC ρ σ k=σ k:=fun k hk=>by unfold cC;rw[if_pos hk]
 have g:∀m,m<top->(h.put n<|some<|.tok k v').get m=if m=n then some (.tok k v') else h.get m:=fun m hm=>Tr.da _ _ _ _ oP hm
 have Bm:cx B w w':=⟨q4.os,q4.tape,q4.output,q4.size,fun x hx hm=>q4.block x hx fun z=>by
  rcases z with z|z
  ·have z:w.heap.size<=x:=z;omega
  ·exact hm (hH x z).2.1⟩
 have mF:∀x,x<w.heap.size->¬cU n x->w'.heap[x]? =w.heap[x]? :=fun x hx hm=>q4.block x hx fun z=>by
  rcases z with z|z
  ·have z:w.heap.size<=x:=z;omega
  ·exact hm z
 have other:∀m o x M,m<top->m≠n->h.get m=some o->ρ m=some (x,M)->¬cU n x:=fun m o x M hm cf ho e iV=>by
  obtain⟨⟨_,c1⟩,_,c3,_⟩:=hH x iV;cases ct:o.dh with
  |false=>exact c3 m o M hm ho ct e
  |true=>
   by_cases hf:o.mD=true
   ·obtain⟨b',N',e1,e2⟩:=r.tk.1.2 m o hm ho hf;rw[e] at e1;cases e1;omega
   ·cases o<;>first|(cases ct;done)|(exact hf rfl)|skip
    rename_i k' vT;obtain⟨b',N',e1,_,e3,_⟩:=h1 m k' vT hm ho;rw[e] at e1;cases e1;exact h2 n m x k v k' vT oP hm hg ho (Ne.symm cf) iV e3
 have rQ:∀x,jY ρ h x->jY (cC ρ σ) (h.put n<|some<|.tok k v') x:=fun x hn m o M hm ho ct e=>by
  rw[g m hm] at ho;by_cases q:m=n
  ·rw[if_pos q] at ho;cases ho;cases ct
  ·rw[if_neg q] at ho;rw[cL m hm] at e;exact hn m o M hm ho ct e
 have zo:∀x,w.heap.size<=x->jY (cC ρ σ) (h.put n<|some<|.tok k v') x:=fun x hx m o M hm ho ct e=>by
  rw[g m hm] at ho;by_cases q:m=n
  ·rw[if_pos q] at ho;cases ho;cases ct
  ·rw[if_neg q] at ho;rw[cL m hm] at e;obtain⟨b1,N1,o1,e1,e2,_⟩:=r.is m o hm ho;rw[e] at e1;cases e1;have:=hZ e2;omega
 obtain⟨⟨_,_⟩,Hq,t1,t2⟩:=q3.tk;obtain⟨oR,hR⟩:=hX.root k v' L' hx;have fX:∀m o,(m,o)∈L'->m<top:=fun m o hm=>(nm _ hm).2.1;have qG:∀m o,(m,o)∈L'->∃x M o',σ m=some (x,M)/\w'.heap[x]? =some o'/\OR σ M o o'/\(o.dh=false->w.heap.size<=x\/cU n x):=fun m o hm=>q3.is m o (fX m o hm)<|hL m o hm;have kind:∀m o,(m,o)∈L'->o.dh=false\/∃k1 v1,o= .tok k1 v1:=fun m o hm=>by
  rcases(nm _ hm).2.2.1 with y|y
  ·exact .inl (ae.uA y).2
  ·cases o<;>first|exact .inr ⟨_,_,rfl⟩|cases y
 let Hn:Nat->Prop:=fun x=>(∃m o M,(m,o)∈L'/\o.dh=false/\σ m=some (x,M))\/∃m k1 v1,(m,ae.tok k1 v1)∈L'/\Hq m x;have FL:∀m o,(m,o)∈L'->∀x M,σ m=some (x,M)->Hn x:=fun m o hm x M e=>by
  rcases kind m o hm with q|⟨k1,v1,rfl⟩
  ·exact .inl ⟨m,o,M,hm,q,e⟩
  ·obtain⟨b1,N1,e1,_,e3,_⟩:=t1 m k1 v1 (fX _ _ hm)<|hL _ _ hm;rw[e] at e1;cases e1;exact .inr ⟨m,k1,v1,hm,e3⟩
 have DC:∀x,Hn x->x<w'.heap.size/\(w.heap.size<=x\/cU n x)/\∀j sh,σ (hn j x sh)=none:=fun x hx=>by
  rcases hx with⟨m,o,M,hm,q,e⟩|⟨m,k1,v1,hm,q⟩
  ·obtain⟨x1,M1,o',e1,e2,_,e4⟩:=qG m o hm;rw[e] at e1;cases e1;refine⟨hZ e2,e4 q,fun j sh=>Classical.byContradiction fun z=>?_⟩;obtain⟨_,_,_,_,_,_,_,z3,_⟩:=q3.fz j x sh z;exact z3 m o M (fX m o hm) (hL m o hm) q e
  ·obtain⟨b1,N1,_,_,_,e4⟩:=t1 m k1 v1 (fX _ _ hm)<|hL _ _ hm;obtain⟨⟨c1,_⟩,c2,_,c4⟩:=e4 x q;exact⟨c1,c2,c4⟩
 refine⟨⟨hl,fun k hk _=>cL k hk⟩,fun k x hk e=>by rw[gG k hk];exact e,⟨fun m o hm ho=>?_,fun m m2 o p x M M2 hm cN ho hp cP e1 e2=>?_,fun m i es ex left cur hm ho=>?_,fun x hx=>r.size x<|Nat.le_trans q4.size hx,fun i j m es ex left cur gX iS iF iH hi hj ho hp=>?_,fun j x sh e=>?_,?_⟩,Bm⟩
 ·rw[g m hm] at ho;by_cases q:m=n
  ·subst q;rw[if_pos rfl] at ho;cases ho;obtain⟨x,M,o',e1,e2,_,_⟩:=qG J oR hR;rw[ow] at e1;cases e1;exact⟨b,N,o',(cL m hm).trans hr,e2,trivial,fun z=>by cases z⟩
  ·rw[if_neg q] at ho;obtain⟨b1,N1,o1,e1,e2,e3,e4⟩:=r.is m o hm ho;exact⟨b1,N1,o1,(cL m hm).trans e1,(mF b1 (hZ e2)<|other m o b1 N1 hm q ho e1).trans e2,e3.mono hl,e4⟩
 ·rw[cL m hm] at e1;rw[cL m2 cN] at e2;rw[g m hm] at ho;rw[g m2 cN] at hp;have dv:∀m o,(if m=n then some (ae.tok k v') else h.get m)=some o->∃q,h.get m=some q/\(o.dh=false->q.dh=false):=fun m o ho=>by
   by_cases q:m=n
   ·rw[if_pos q] at ho;cases ho;rw[q];exact⟨_,hg,fun z=>by cases z⟩
   ·rw[if_neg q] at ho;exact⟨o,ho,id⟩
  obtain⟨o1,a1,a2⟩:=dv m o ho;obtain⟨o2,a3,a4⟩:=dv m2 p hp;exact r.one m m2 o1 o2 x M M2 hm cN a1 a3 (cP.imp a2 a4) e1 e2
 ·rw[g m hm] at ho;by_cases q:m=n
  ·rw[if_pos q] at ho;cases ho
  ·rw[if_neg q] at ho;obtain⟨hi,fu,b1,N1,bm,M,l,bp,seen,u1,u2,u3,u4,u5⟩:=r.iter m i es ex left cur hm ho;have iq:i≠n:=by intro e;subst e;rw[hg] at fu;cases fu
   have u:mN ρ w' m i es ex left cur:=⟨b1,N1,bm,M,l,bp,seen,u1,u2,(mF b1 (hZ u3)<|other m _ b1 N1 hm q ho u1).trans u3,(mF bm (hZ u4)<|other i _ bm M hi iq fu u2).trans u4,u5⟩;exact⟨hi,by rw[g i hi,if_neg iq];exact fu,u.mono hl⟩
 ·rw[g i hi] at ho;rw[g j hj] at hp;by_cases q:i=n
  ·rw[if_pos q] at ho;cases ho
  ·rw[if_neg q] at ho;by_cases q2:j=n
   ·rw[if_pos q2] at hp;cases hp
   ·rw[if_neg q2] at hp;exact r.lone i j m es ex left cur gX iS iF iH hi hj ho hp
 ·rw[gG _<|gb _ _ _] at e;obtain⟨g0,l,c,e',fr,g1,g2,_,g4⟩:=q3.fz j x sh e;have mz:∀i y,l[i]? =some y->∃v,c[sh+i]? =some v/\VR (gk<|cC ρ σ) y v/\y.bQ=true:=fun i y hy=>by
   obtain⟨v,k1,k2,k3⟩:=g4 i y hy;refine⟨v,k1,VR.mono (fun z u q=>?_) _ _ k2,k3⟩;unfold gk at q ⊢;split at q
   ·rename_i hk;rw[if_pos hk,gG z hk];exact q
   ·cases q
  by_cases q:ρ (hn j x sh)≠none
  ·obtain⟨z0,l',c',e2,gq,z1,z2,z3,_⟩:=r.fz j x sh q;exact⟨z0,l,c,e',fr,g1,g2,rQ x z3,mz⟩
  ·rcases g0.resolve_left q with z|z
   ·have z:w.heap.size<=x:=z;exact⟨.inr<|r.size x z,l,c,e',fr,g1,g2,zo x z,mz⟩
   ·exact⟨.inr (hH x z).2.1,l,c,e',fr,g1,g2,rQ x (hH x z).2.2.1,mz⟩
 ·let H':Nat->Nat->Prop:=fun m x=>if m=n then Hn x else cU m x
  have Qr:∀x,Hn x->H' n x:=fun x hx=>by show(if n=n then Hn x else _);rw[if_pos rfl];exact hx
  have hsn:∀x,H' n x->Hn x:=fun x hx=>by have hx:(if n=n then Hn x else cU n x):=hx;rw[if_pos rfl] at hx;exact hx
  have hso:∀m x,m≠n->H' m x->cU m x:=fun m x hm hx=>by have hx:(if m=n then Hn x else cU m x):=hx;rw[if_neg hm] at hx;exact hx
  have ahF:∀m x,m≠n->cU m x->H' m x:=fun m x hm hx=>by show(if m=n then Hn x else cU m x);rw[if_neg hm];exact hx
  have BY:H' n=Hn:=funext fun x=>propext ⟨hsn x,Qr x⟩;have yg:∀m,m≠n->H' m=cU m:=fun m hm=>funext fun x=>propext ⟨hso m x hm,ahF m x hm⟩;refine⟨⟨Nat.le_trans r.tk.1.1 q4.size,fun m o hm ho hf=>?_⟩,H',fun m k1 v1 hm ho=>?_,fun m m2 x k1 v1 k2 v2 hm cN ho hp cf y1 y2=>?_⟩
  ·rw[g m hm] at ho;by_cases q:m=n
   ·rw[if_pos q] at ho;cases ho;cases hf
   ·rw[if_neg q] at ho;obtain⟨b1,N1,e1,e2⟩:=r.tk.1.2 m o hm ho hf;exact⟨b1,N1,(cL m hm).trans e1,e2⟩
  ·rw[g m hm] at ho;by_cases q:m=n
   ·subst q;rw[if_pos rfl] at ho;cases ho;rw[BY];refine⟨b,N,(cL m hm).trans hr,?_,FL J oR hR b N0 ow,fun x hx=>?_⟩
    ·rw[hT];let bl:Nat->Nat:=fun m=>match σ m with|some (x,_)=>x|none=>0
     have ng:∀m x M,σ m=some (x,M)->bl m=x:=fun m x M e=>by show(match σ m with|some (x,_)=>x|none=>0)=x;rw[e]
     refine .mk L' (fun m=>if m∈L'.map (·.1) then σ m else none) bl Hq N0 hx ?_ (fun m hm=>?_) (fun m o hm=>?_) (fun m m2 o p hm cN e=>?_) (fun m k1 v1 hm=>?_) (fun m k1 v1 hm=>?_) (fun m k1 v1 hm x hx=>.inr ⟨m,k1,v1,hm,hx⟩) (fun m k1 v1 m2 o hm cN ho y=>?_) fun m k1 v1 m2 k2 v2 x hm cN cf y1 y2=>t2 m m2 x k1 v1 k2 v2 (fX _ _ hm) (fX _ _ cN) (hL _ _ hm) (hL _ _ cN) cf y1 y2
     ·rw[if_pos<|List.mem_map.2 ⟨_,hR,rfl⟩];exact ow
     ·refine if_neg fun z=>?_;obtain⟨p,hp,rfl⟩:=List.mem_map.1 z;have:=(nm p hp).1;omega
     ·obtain⟨x,M,o',e1,e2,e3,_⟩:=qG m o hm;refine⟨M,o',?_,by rw[ng m x M e1];exact e2,?_,by rw[ng m x M e1];exact FL m o hm x M e1⟩
      ·rw[if_pos<|List.mem_map.2 ⟨_,hm,rfl⟩,ng m x M e1];exact e1
      ·refine((nm _ hm).2.2.2 _ _ _ e3).mono fun i y hi=>?_;have hi:(if top<=i\/i∈L'.map (·.1) then σ i else none)=some y:=hi;unfold xQ;split at hi
       ·rename_i q;rcases q with q|q
        ·rw[if_pos q,gG i q];exact hi
        ·by_cases z:top<=i
         ·rw[if_pos z,gG i z];exact hi
         ·rw[if_neg z];show(if i∈L'.map (·.1) then σ i else none)=_;rw[if_pos q];exact hi
       ·cases hi
     ·obtain⟨x,M,_,e1,_,_,_⟩:=qG m o hm;obtain⟨x2,M2,_,e2,_,_,_⟩:=qG m2 p cN;rw[ng m x M e1,ng m2 x2 M2 e2] at e;subst e;rcases kind m o hm with y|⟨k1,v1,rfl⟩
      ·exact q3.one m m2 o p x M M2 (fX _ _ hm) (fX _ _ cN) (hL _ _ hm) (hL _ _ cN) (.inl y) e1 e2
      ·rcases kind m2 p cN with y|⟨k2,v2,rfl⟩
       ·exact q3.one m m2 _ p x M M2 (fX _ _ hm) (fX _ _ cN) (hL _ _ hm) (hL _ _ cN) (.inr y) e1 e2
       ·refine Classical.byContradiction fun cf=>?_;obtain⟨b1,N1,f1,_,f3,_⟩:=t1 m k1 v1 (fX _ _ hm)<|hL _ _ hm;obtain⟨b2,N2,f4,_,f6,_⟩:=t1 m2 k2 v2 (fX _ _ cN)<|hL _ _ cN;rw[e1] at f1;cases f1;rw[e2] at f4;cases f4;exact t2 m m2 x k1 v1 k2 v2 (fX _ _ hm) (fX _ _ cN) (hL _ _ hm) (hL _ _ cN) cf f3 f6
     ·obtain⟨b1,N1,f1,f2,_,_⟩:=t1 m k1 v1 (fX _ _ hm)<|hL _ _ hm;rw[ng m b1 N1 f1];have f2:B.inv k1 v1 σ w' b1<|Hq m:=f2;rw[hT] at f2;exact f2.mono (fun i y hi e=>by rw[gG i hi];exact e) fun _ _=>rfl
     ·obtain⟨b1,N1,f1,_,f3,_⟩:=t1 m k1 v1 (fX _ _ hm)<|hL _ _ hm;rw[ng m b1 N1 f1];exact f3
     ·obtain⟨b1,N1,_,_,_,f4⟩:=t1 m k1 v1 (fX _ _ hm)<|hL _ _ hm;obtain⟨x2,M2,_,e2,_,_,_⟩:=qG m2 o cN;rw[ng m2 x2 M2 e2] at y;obtain⟨_,_,c3,_⟩:=f4 x2 y;rcases kind m2 o cN with z|⟨k2,v2,rfl⟩
      ·exact c3 m2 o M2 (fX _ _ cN) (hL _ _ cN) z e2
      ·cases ho
    ·obtain⟨c1,c2,c3⟩:=DC x hx;refine⟨⟨c1,?_⟩,?_,?_,fun j sh=>by rw[gG _<|gb _ _ _];exact c3 j sh⟩
     ·rcases c2 with z|z
      ·exact Nat.le_trans r.tk.1.1 z
      ·exact(hH x z).1.2
     ·rcases c2 with z|z
      ·exact r.size x z
      ·exact(hH x z).2.1
     ·rcases c2 with z|z
      ·exact zo x z
      ·exact rQ x (hH x z).2.2.1
   ·rw[if_neg q] at ho;rw[yg m q];obtain⟨b1,N1,f1,f2,f3,f4⟩:=h1 m k1 v1 hm ho;refine⟨b1,N1,(cL m hm).trans f1,B.mono f2 (fun i y _ e=>hl _ _ e) fun x hx=>?_,f3,fun x hx=>?_⟩
    ·exact mF x (f4 x hx).1.1 fun z=>h2 n m x k v k1 v1 oP hm hg ho (Ne.symm q) z hx
    ·obtain⟨⟨c1,cl⟩,c2,c3,c4⟩:=f4 x hx;refine⟨⟨Nat.lt_of_lt_of_le c1 q4.size,cl⟩,c2,rQ x c3,fun j sh=>Classical.byContradiction fun z=>?_⟩;rw[gG _<|gb _ _ _] at z;rcases(q3.fz j x sh z).1 with y|y
     ·exact y<|c4 j sh
     ·rcases y with y|y
      ·have y:w.heap.size<=x:=y;omega
      ·exact h2 n m x k v k1 v1 oP hm hg ho (Ne.symm q) y hx
  ·rw[g m hm] at ho;rw[g m2 cN] at hp;have cl:∀m k1 v1,m<top->m≠n->h.get m=some (.tok k1 v1)->∀x,Hn x->¬cU m x:=fun m k1 v1 hm cf ho x hx y=>by
    obtain⟨_,c2,_⟩:=DC x hx;rcases c2 with z|z
    ·obtain⟨b1,N1,_,_,_,f4⟩:=h1 m k1 v1 hm ho;have:=(f4 x y).1.1;omega
    ·exact h2 n m x k v k1 v1 oP hm hg ho (Ne.symm cf) z y
   by_cases q:m=n
   ·rw[if_pos q] at ho;cases ho;have q2:m2≠n:=fun e=>cf<|q.trans e.symm;rw[if_neg q2] at hp;rw[q,BY] at y1;rw[yg m2 q2] at y2;exact cl m2 k2 v2 cN q2 hp x y1 y2
   ·rw[if_neg q] at ho;rw[yg m q] at y1;by_cases q2:m2=n
    ·rw[if_pos q2] at hp;cases hp;rw[q2,BY] at y2;exact cl m k1 v1 hm q ho x y2 y1
    ·rw[if_neg q2] at hp;rw[yg m2 q2] at y2;exact h2 m m2 x k1 v1 k2 v2 hm cN ho hp cf y1 y2
end Go.Rn
namespace Go.Rn
open Go.RowKit
variable {s1 s:AS}
theorem Tw{n:Nat}{o:Option ae}{u:Unit}(h:kU n o s= .ok u s1):
 n<s.nx/\n<top/\s1.h=s.h.put n o/\s1.nx=s.nx:=by
 obtain⟨h1,h2,h3,rfl⟩:=Uk h;by_cases e:n<s.mark
 ·rw[if_pos e];exact⟨h1,h2,rfl,rfl⟩
 ·rw[if_neg e];exact⟨h1,h2,rfl,rfl⟩
def iQ(X:TX)(P:Program)(rs:List ResultVar)(k:Nat)(y:AV)(v':AV):=Fin P rs fun y1 s'=>y1=y/\∃L',X k v' L'/\∀m o,(m,o)∈L'->s'.h.get m=some o
theorem Tx{X:TX}{P:Program}{B:aJ}{f J k:Nat}{ns:List Nat}{h0:Tr ae}{kn:List<|Nat×Option ae}{val:AV->List AV->Option (AV×AV)}{fn:Func}{body:Code}{ρ:Ren}{w:World}(hX:ye X J)(hT:B.inv=nC X J)(hP:bR P)(cj:P.funcs[f]? =some fn)(cw:fn.body=some body)(dD:(fn.name == "runtime.NumGoroutine")=false)(fY:fI<=J)(dK:J<=top)(dJ:∀n o,n<top->h0.get n=some o->n∈ns)(eD:∀n∈ns,n<J)(jk:∀n o,(n,some o)∈kn->h0.get n=some o)(jq:∀p∈kn,p.1<top)(eT:∀v rest y v',val v rest=some (y,v')->max fn.ntmps (rest.length+1)<=top/\∀L,X k v L->∃nx,J<nx/\nx<=top/\(∀p∈L,p.1<nx)/\∀B':aJ,B'.F=B.F->B'.inv=B.inv->
 au P B' (J+1) (iQ X P fn.results.toList k y v') ⟨f,dt<|.ptr (some (J,0))::rest,max fn.ntmps<|rest.length+1,[.code body],[],none⟩ ⟨fR<|kn++aW L,nx,0,[],[]⟩){Yw:aK}{args:List AV}{x:AV}{vs:Array Value}(r:Rel B ρ s.h w)(hg:gC ρ)(h:xR J ns h0 k val Yw args s= .ok x s1)(hv:ay ρ args vs.toList):jf P ((callFunc f vs).run P w)<|kh B ρ s s1 w x:=by
 unfold xR at h;split at h
 ·rename_i n rest;obtain⟨hh,h1⟩:=cV h;obtain⟨gG,GB⟩:=and_true.1 hh;obtain⟨u,s2,h2,h3⟩:=M.aN h1;obtain⟨o,s3,h4,h5⟩:=M.aN h3;obtain⟨a1,a2,a3⟩:=uw h2;obtain⟨b1,b2,b3,b4⟩:=fU h4;split at h5
  ·rename_i k' v;obtain⟨hk,h6⟩:=cV h5;have hk:=Nat.eq_of_beq_eq_true hk;subst hk;obtain⟨p,h7,h8⟩:=bu h6;obtain⟨h9,gE⟩:=cV h8;obtain⟨u2,s4,tY,qD⟩:=M.aN gE;obtain⟨rfl,rfl⟩:=bA qD;obtain⟨c1,c2,c3,c4⟩:=Tw tY;obtain⟨y,v'⟩:=p;have iP:s.h.get n=some (.tok k v):=by rw[←a1];exact b2
   obtain⟨_,cU,t1,t2⟩:=r.tk;obtain⟨b,N,d1,d2,d3,d4⟩:=t1 n k v c2 iP;have Xw:=d2;rw[hT] at Xw;obtain⟨L,loc,N0,hx,ow,af1,nE⟩:=afZ hX hT dK r dJ eD jk jq (fun n hn=>by obtain⟨_,o,p,h⟩:=a3 n hn;exact⟨o,p,h⟩) d4 Xw;obtain⟨q1,q2⟩:=eT _ _ _ _ h7;obtain⟨nx,n1,n2,n3,q3⟩:=q2 L hx;have fi:bB (⟨fR<|kn++aW L,nx,0,[],[]⟩:AS):=⟨Nat.zero_le _,n2⟩;have ahG:J<top:=Nat.lt_of_lt_of_le n1 n2;have hi:jg ρ<|ma J ρ loc:=fun m x hm e=>by unfold ma;rw[if_neg aj,if_pos hm];exact e
   have Vg:ma J ρ loc J=some (b,N0):=by unfold ma;rw[if_neg aj,if_neg aj];exact ow
   have km:ay (ma J ρ loc) (.ptr (some (J,0))::rest) vs.toList:=by simp only[ay,VR] at hv ⊢;obtain⟨v0,vr,e1,⟨b',N',e2,e3⟩,e4⟩:=hv;rw[d1] at e2;cases e2;exact⟨v0,vr,e1,⟨b,N0,Vg,e3⟩,AV.AU hi gG e4⟩
   have bG:=au.Fs (B:=tg B ρ w<|cU n) (s:=⟨fR<|kn++aW L,nx,0,[],[]⟩) (args:=.ptr (some (J,0))::rest) (vs:=vs) hP cj cw q1 (q3 _ rfl rfl) fi nE (fun g iD=>by
    obtain⟨N,e⟩:=hg g iD;exact⟨N,by unfold ma;rw[if_pos<|Nat.lt_of_lt_of_le iD fY];exact e⟩) (fun m hm j8=>by
    have hm:nx<=m:=hm;unfold ma;rw[if_neg aj,if_neg aj];cases e:loc m with
    |none=>rfl
    |some z=>obtain⟨o,q⟩:=af1 m z e;have:=n3 _ q;have:m<nx:=this;omega) km
   rw[sd cj cw dD];show Calls P f vs w _;refine bG.mono fun e w'=>?_;rintro ⟨y1,x',s5,rfl,⟨rfl,L',qE,KL⟩,_,σ,e0,GO,e1,e2,e3⟩;obtain⟨g1,g2,g3,g4⟩:=aeI (a:=s.nx) (v':=v') hX hT c2 iP d1 r t1 t2 e2 e3 ((e0 J (Nat.lt_succ_self _) ahG).trans Vg) (fun m z hm q=>GO m z hm<|hi m z hm q) qE KL;refine⟨y1,rfl,cC ρ σ,by rw[c4,b4,a2];exact g1,AV.pq g2 h9 e1,?_,g4⟩;rw[c3,b3,a1];exact g3
  ·cases h5
 ·cases h
end Go.Rn
namespace Go.Rn
open Go.RowKit
theorem aeJ{X:TX}{J k a:Nat}{v:AV}{B:aJ}{ρ σ:Ren}{w w':World}{h h4:Tr ae}{b N0:Nat}{L':List<|Nat×ae}(hX:ye X J)(hT:B.inv=nC X J)(ht:J<=top)(aw:a<top)(ha:ρ a=none)(r:Rel B ρ h w)(q3:Rel (ri B ρ w) σ h4 w')(q4:cx (ri B ρ w) w w')(hle:(gh J ρ).le σ)(ow:σ J=some (b,N0))(hx:X k v L')(hL:∀m o,(m,o)∈L'->h4.get m=some o):
 Ext a (a+1) ρ (eM (cC ρ σ) a (b,0))/\jg σ (eM (cC ρ σ) a (b,0))/\Rel B (eM (cC ρ σ) a (b,0)) (h.put a<|some<|.tok k v) w'/\cx B w w':=by
 obtain⟨b1,b2,R1,b4⟩:=IY (a:=a) ht r q3 q4 hle;have nm:=hX.nm k v L' hx;have cL:∀k,k<top->cC ρ σ k=ρ k:=fun k hk=>by unfold cC;rw[if_neg aj]
 have gG:∀k,top<=k->cC ρ σ k=σ k:=fun k hk=>by unfold cC;rw[if_pos hk]
 have Qs:cC ρ σ a=none:=(cL a aw).trans ha;have hl:(cC ρ σ).le<|eM (cC ρ σ) a (b,0):=n9 Qs;have DD:∀k,top<=k->eM (cC ρ σ) a (b,0) k=σ k:=fun k hk=>by rw[gI _ _ aj];exact gG k hk
 have lS:h.get a=none:=by
  cases e:h.get a with
  |none=>rfl
  |some p=>obtain⟨_,_,_,h1,_⟩:=r.is a p aw e;rw[ha] at h1;cases h1
 have g:∀m,m<top->(h.put a<|some<|.tok k v).get m=if m=a then some (.tok k v) else h.get m:=fun m hm=>Tr.da _ _ _ _ aw hm
 have mF:∀x,x<w.heap.size->w'.heap[x]? =w.heap[x]? :=fun x hx=>q4.block x hx fun z=>by have z:w.heap.size<=x:=z;omega
 have rQ:∀x,jY ρ h x->jY (eM (cC ρ σ) a (b,0)) (h.put a<|some<|.tok k v) x:=fun x hn m o M hm ho ct e=>by
  rw[g m hm] at ho;by_cases q:m=a
  ·rw[if_pos q] at ho;cases ho;cases ct
  ·rw[if_neg q] at ho;rw[gI _ _ q,cL m hm] at e;exact hn m o M hm ho ct e
 have zo:∀x,w.heap.size<=x->jY ρ h x:=fun x hx m o M hm ho ct e=>by obtain⟨b1,N1,o1,e1,e2,_⟩:=r.is m o hm ho;rw[e] at e1;cases e1;have:=hZ e2;omega
 obtain⟨⟨_,_⟩,cU,h1,h2⟩:=r.tk;obtain⟨⟨_,_⟩,Hq,t1,t2⟩:=q3.tk;obtain⟨oR,hR⟩:=hX.root k v L' hx;have fX:∀m o,(m,o)∈L'->m<top:=fun m o hm=>(nm _ hm).2.1;have qG:∀m o,(m,o)∈L'->∃x M o',σ m=some (x,M)/\w'.heap[x]? =some o'/\OR σ M o o'/\(o.dh=false->w.heap.size<=x):=fun m o hm=>q3.is m o (fX m o hm)<|hL m o hm;have kind:∀m o,(m,o)∈L'->o.dh=false\/∃k1 v1,o= .tok k1 v1:=fun m o hm=>by
  rcases(nm _ hm).2.2.1 with y|y
  ·exact .inl (ae.uA y).2
  ·cases o<;>first|exact .inr ⟨_,_,rfl⟩|cases y
 let Hn:Nat->Prop:=fun x=>(∃m o M,(m,o)∈L'/\o.dh=false/\σ m=some (x,M))\/∃m k1 v1,(m,ae.tok k1 v1)∈L'/\Hq m x;have FL:∀m o,(m,o)∈L'->∀x M,σ m=some (x,M)->Hn x:=fun m o hm x M e=>by
  rcases kind m o hm with q|⟨k1,v1,rfl⟩
  ·exact .inl ⟨m,o,M,hm,q,e⟩
  ·obtain⟨b1,N1,e1,_,e3,_⟩:=t1 m k1 v1 (fX _ _ hm)<|hL _ _ hm;rw[e] at e1;cases e1;exact .inr ⟨m,k1,v1,hm,e3⟩
 have DC:∀x,Hn x->x<w'.heap.size/\w.heap.size<=x/\∀j sh,σ (hn j x sh)=none:=fun x hx=>by
  rcases hx with⟨m,o,M,hm,q,e⟩|⟨m,k1,v1,hm,q⟩
  ·obtain⟨x1,M1,o',e1,e2,_,e4⟩:=qG m o hm;rw[e] at e1;cases e1;refine⟨hZ e2,e4 q,fun j sh=>Classical.byContradiction fun z=>?_⟩;obtain⟨_,_,_,_,_,_,_,z3,_⟩:=q3.fz j x sh z;exact z3 m o M (fX m o hm) (hL m o hm) q e
  ·obtain⟨b1,N1,_,_,_,e4⟩:=t1 m k1 v1 (fX _ _ hm)<|hL _ _ hm;obtain⟨⟨c1,_⟩,c2,_,c4⟩:=e4 x q;exact⟨c1,c2,c4⟩
 have GP:Hn b:=FL J oR hR b N0 ow;refine⟨⟨Ren.le_trans b1.le hl,fun k hk hka=>(gI _ _ aj).trans<|b1.out k hk aj⟩,fun m x hm e=>by rw[DD m hm];exact e,⟨fun m o hm ho=>?_,fun m m2 o p x M M2 hm cN ho hp cP e1 e2=>?_,fun m i es ex left cur hm ho=>?_,R1.size,fun i j m es ex left cur gX iS iF iH hi hj ho hp=>?_,fun j x sh e=>?_,?_⟩,b4⟩
 ·rw[g m hm] at ho;by_cases q:m=a
  ·subst q;rw[if_pos rfl] at ho;cases ho;obtain⟨x,M,o',e1,e2,_,_⟩:=qG J oR hR;rw[ow] at e1;cases e1;exact⟨b,0,o',iN _ _ _,e2,trivial,fun z=>by cases z⟩
  ·rw[if_neg q] at ho;obtain⟨b1,N1,o1,e1,e2,e3,e4⟩:=R1.is m o hm ho;exact⟨b1,N1,o1,hl _ _ e1,e2,e3.mono hl,e4⟩
 ·rw[g m hm] at ho;rw[g m2 cN] at hp;have rH:∀m o M,m<top->h.get m=some o->o.dh=false->ρ m=some (b,M)->False:=fun m o M hm ho ct e=>zo b (DC b GP).2.1 m o M hm ho ct e;by_cases q:m=a
  ·rw[if_pos q] at ho;cases ho;by_cases q2:m2=a
   ·rw[q,q2]
   ·rw[if_neg q2] at hp;rw[q,iN] at e1;cases e1;rw[gI _ _ q2,cL m2 cN] at e2;exact(rH m2 p M2 cN hp (cP.resolve_left fun z=>by cases z) e2).elim
  ·rw[if_neg q] at ho;by_cases q2:m2=a
   ·rw[if_pos q2] at hp;cases hp;rw[q2,iN] at e2;cases e2;rw[gI _ _ q,cL m hm] at e1;exact(rH m o M hm ho (cP.resolve_right fun z=>by cases z) e1).elim
   ·rw[if_neg q2] at hp;rw[gI _ _ q] at e1;rw[gI _ _ q2] at e2;exact R1.one m m2 o p x M M2 hm cN ho hp cP e1 e2
 ·rw[g m hm] at ho;by_cases q:m=a
  ·rw[if_pos q] at ho;cases ho
  ·rw[if_neg q] at ho;obtain⟨hi,fu,u⟩:=R1.iter m i es ex left cur hm ho;have iq:i≠a:=by intro e;subst e;rw[lS] at fu;cases fu
   exact⟨hi,by rw[g i hi,if_neg iq];exact fu,u.mono hl⟩
 ·rw[g i hi] at ho;rw[g j hj] at hp;by_cases q:i=a
  ·rw[if_pos q] at ho;cases ho
  ·rw[if_neg q] at ho;by_cases q2:j=a
   ·rw[if_pos q2] at hp;cases hp
   ·rw[if_neg q2] at hp;exact R1.lone i j m es ex left cur gX iS iF iH hi hj ho hp
 ·rw[gI _ _ (by have:=gb j x sh;omega)] at e;obtain⟨g0,l,c,e',fr,g1,g2,g3,g4⟩:=R1.fz j x sh e;refine⟨g0,l,c,e',fr,g1,g2,fun m o M hm ho ct e=>?_,fun i y hy=>by obtain⟨v,k1,k2,k3⟩:=g4 i y hy;exact⟨v,k1,VR.mono (EO hl) _ _ k2,k3⟩⟩;rw[g m hm] at ho;by_cases q:m=a
  ·rw[if_pos q] at ho;cases ho;cases ct
  ·rw[if_neg q] at ho;rw[gI _ _ q] at e;exact g3 m o M hm ho ct e
 ·let H':Nat->Nat->Prop:=fun m x=>if m=a then Hn x else cU m x
  have BY:H' a=Hn:=funext fun x=>if_pos rfl;have yg:∀m,m≠a->H' m=cU m:=fun m hm=>funext fun x=>if_neg hm;refine⟨⟨Nat.le_trans r.tk.1.1 q4.size,fun m o hm ho hf=>?_⟩,H',fun m k1 v1 hm ho=>?_,fun m m2 x k1 v1 k2 v2 hm cN ho hp cf y1 y2=>?_⟩
  ·rw[g m hm] at ho;by_cases q:m=a
   ·rw[if_pos q] at ho;cases ho;cases hf
   ·rw[if_neg q] at ho;obtain⟨b1,N1,e1,e2⟩:=r.tk.1.2 m o hm ho hf;exact⟨b1,N1,(gI _ _ q).trans<|(cL m hm).trans e1,e2⟩
  ·rw[g m hm] at ho;by_cases q:m=a
   ·subst q;rw[if_pos rfl] at ho;cases ho;rw[BY];refine⟨b,0,iN _ _ _,?_,GP,fun x hx=>?_⟩
    ·rw[hT];let bl:Nat->Nat:=fun m=>match σ m with|some (x,_)=>x|none=>0
     have ng:∀m x M,σ m=some (x,M)->bl m=x:=fun m x M e=>by show(match σ m with|some (x,_)=>x|none=>0)=x;rw[e]
     refine .mk L' (fun m=>if m∈L'.map (·.1) then σ m else none) bl Hq N0 hx ?_ (fun m hm=>?_) (fun m o hm=>?_) (fun m m2 o p hm cN e=>?_) (fun m k1 v1 hm=>?_) (fun m k1 v1 hm=>?_) (fun m k1 v1 hm x hx=>.inr ⟨m,k1,v1,hm,hx⟩) (fun m k1 v1 m2 o hm cN ho y=>?_) fun m k1 v1 m2 k2 v2 x hm cN cf y1 y2=>t2 m m2 x k1 v1 k2 v2 (fX _ _ hm) (fX _ _ cN) (hL _ _ hm) (hL _ _ cN) cf y1 y2
     ·rw[if_pos<|List.mem_map.2 ⟨_,hR,rfl⟩];exact ow
     ·refine if_neg fun z=>?_;obtain⟨p,hp,rfl⟩:=List.mem_map.1 z;have:=(nm p hp).1;omega
     ·obtain⟨x,M,o',e1,e2,e3,_⟩:=qG m o hm;refine⟨M,o',?_,by rw[ng m x M e1];exact e2,?_,by rw[ng m x M e1];exact FL m o hm x M e1⟩
      ·rw[if_pos<|List.mem_map.2 ⟨_,hm,rfl⟩,ng m x M e1];exact e1
      ·refine((nm _ hm).2.2.2 _ _ _ e3).mono fun i y hi=>?_;have hi:(if top<=i\/i∈L'.map (·.1) then σ i else none)=some y:=hi;unfold xQ;split at hi
       ·rename_i q;rcases q with q|q
        ·rw[if_pos q,DD i q];exact hi
        ·by_cases z:top<=i
         ·rw[if_pos z,DD i z];exact hi
         ·rw[if_neg z];show(if i∈L'.map (·.1) then σ i else none)=_;rw[if_pos q];exact hi
       ·cases hi
     ·obtain⟨x,M,_,e1,_,_,_⟩:=qG m o hm;obtain⟨x2,M2,_,e2,_,_,_⟩:=qG m2 p cN;rw[ng m x M e1,ng m2 x2 M2 e2] at e;subst e;rcases kind m o hm with y|⟨k1,v1,rfl⟩
      ·exact q3.one m m2 o p x M M2 (fX _ _ hm) (fX _ _ cN) (hL _ _ hm) (hL _ _ cN) (.inl y) e1 e2
      ·rcases kind m2 p cN with y|⟨k2,v2,rfl⟩
       ·exact q3.one m m2 _ p x M M2 (fX _ _ hm) (fX _ _ cN) (hL _ _ hm) (hL _ _ cN) (.inr y) e1 e2
       ·refine Classical.byContradiction fun cf=>?_;obtain⟨b1,N1,f1,_,f3,_⟩:=t1 m k1 v1 (fX _ _ hm)<|hL _ _ hm;obtain⟨b2,N2,f4,_,f6,_⟩:=t1 m2 k2 v2 (fX _ _ cN)<|hL _ _ cN;rw[e1] at f1;cases f1;rw[e2] at f4;cases f4;exact t2 m m2 x k1 v1 k2 v2 (fX _ _ hm) (fX _ _ cN) (hL _ _ hm) (hL _ _ cN) cf f3 f6
     ·obtain⟨b1,N1,f1,f2,_,_⟩:=t1 m k1 v1 (fX _ _ hm)<|hL _ _ hm;rw[ng m b1 N1 f1];have f2:B.inv k1 v1 σ w' b1<|Hq m:=f2;rw[hT] at f2;exact f2.mono (fun i y hi e=>by rw[DD i hi];exact e) fun _ _=>rfl
     ·obtain⟨b1,N1,f1,_,f3,_⟩:=t1 m k1 v1 (fX _ _ hm)<|hL _ _ hm;rw[ng m b1 N1 f1];exact f3
     ·obtain⟨b1,N1,_,_,_,f4⟩:=t1 m k1 v1 (fX _ _ hm)<|hL _ _ hm;obtain⟨x2,M2,_,e2,_,_,_⟩:=qG m2 o cN;rw[ng m2 x2 M2 e2] at y;obtain⟨_,_,c3,_⟩:=f4 x2 y;rcases kind m2 o cN with z|⟨k2,v2,rfl⟩
      ·exact c3 m2 o M2 (fX _ _ cN) (hL _ _ cN) z e2
      ·cases ho
    ·obtain⟨c1,c2,c3⟩:=DC x hx;exact⟨⟨c1,Nat.le_trans r.tk.1.1 c2⟩,r.size x c2,rQ x<|zo x c2,fun j sh=>by rw[DD _<|gb _ _ _];exact c3 j sh⟩
   ·rw[if_neg q] at ho;rw[yg m q];obtain⟨Xx,N1,f1,f2,f3,f4⟩:=h1 m k1 v1 hm ho;refine⟨Xx,N1,(gI _ _ q).trans<|(cL m hm).trans f1,B.mono f2 (fun i y _ e=>hl _ _<|b1.le _ _ e) fun x hx=>mF x (f4 x hx).1.1,f3,fun x hx=>?_⟩;obtain⟨⟨c1,cl⟩,c2,c3,c4⟩:=f4 x hx;refine⟨⟨Nat.lt_of_lt_of_le c1 q4.size,cl⟩,c2,rQ x c3,fun j sh=>Classical.byContradiction fun z=>?_⟩;rw[DD _<|gb _ _ _] at z;rcases(q3.fz j x sh z).1 with y|y
    ·exact y<|c4 j sh
    ·have y:w.heap.size<=x:=y;omega
  ·rw[g m hm] at ho;rw[g m2 cN] at hp;have cl:∀m k1 v1,m<top->h.get m=some (.tok k1 v1)->∀x,Hn x->¬cU m x:=fun m k1 v1 hm ho x hx y=>by obtain⟨_,c2,_⟩:=DC x hx;obtain⟨b1,N1,_,_,_,f4⟩:=h1 m k1 v1 hm ho;have:=(f4 x y).1.1;omega
   by_cases q:m=a
   ·have q2:m2≠a:=fun e=>cf<|q.trans e.symm;rw[if_neg q2] at hp;rw[q,BY] at y1;rw[yg m2 q2] at y2;exact cl m2 k2 v2 cN hp x y1 y2
   ·rw[if_neg q] at ho;rw[yg m q] at y1;by_cases q2:m2=a
    ·rw[q2,BY] at y2;exact cl m k1 v1 hm ho x y2 y1
    ·rw[if_neg q2] at hp;rw[yg m2 q2] at y2;exact h2 m m2 x k1 v1 k2 v2 hm cN ho hp cf y1 y2
end Go.Rn
namespace Go.Rn
open Go.RowKit
variable {J:Nat} {x:AV}
noncomputable section
def Bp(J:Nat)(ns:List Nat)(h0:Tr ae)(k:Nat)(val:List AV->Option (Option AV×(AV->AV))):aK->List AV->M AV:=fun _ args=>
 aG (args.all AV.hi) <| (fG J h0 ns).bind fun _=>aB (val args) fun p=>match p.1 with
  |none=>aG (p.2<|.ptr none).hi <| M.pure<|p.2<|.ptr none
  |some v=>(gA<|.tok k v).bind fun n=>M.pure<|p.2<|.ptr<|some (n,0)
end
theorem Yv.Bp(J:Nat)(ns:List Nat)(h0:Tr ae)(k:Nat)(val:List AV->Option (Option AV×(AV->AV)))(Yw:aK)(args:List AV):Yv<|Bp J ns h0 k val Yw args:=by
 refine Yv.aG fun _=>Yv.bind (Yv.fG J h0 ns) fun _=>Yv.aB fun p _=>?_;split
 ·exact Yv.aG fun _=>Yv.pure _
 ·exact Yv.bind (Yv.gA _) fun _=>Yv.pure _
def yZ(J:Nat)(res:AV->AV):Prop:=∀(σ GQ:Ren) (n:Nat) (y:Value),jg σ GQ->(∀b N,σ J=some (b,N)->∃N',GQ n=some (b,N'))->VR σ (res<|.ptr<|some (J,0)) y->VR GQ (res<|.ptr<|some (n,0)) y
theorem abN{X:TX}{P:Program}{B:aJ}{f k:Nat}{ns:List Nat}{h0:Tr ae}{val:List AV->Option (Option AV×(AV->AV))}{fn:Func}{body:Code}{ρ:Ren}{w:World}{s s1:AS}(hX:ye X J)(hT:B.inv=nC X J)(hP:bR P)(cj:P.funcs[f]? =some fn)(cw:fn.body=some body)(dD:(fn.name == "runtime.NumGoroutine")=false)(fY:fI<=J)(dK:J<top)(dJ:∀n o,n<top->h0.get n=some o->n∈ns)(eD:∀n∈ns,n<J)(eT:∀args p,val args=some p->max fn.ntmps args.length<=top/\(p.1=none->∀B':aJ,B'.F=B.F->B'.inv=B.inv->
 au P B' J (Fin P fn.results.toList fun y _=>y=p.2 (.ptr none)) ⟨f,dt args,max fn.ntmps args.length,[.code body],[],none⟩ ⟨h0,J,0,[],[]⟩)/\
 ∀v,p.1=some v->yZ J p.2/\∀B':aJ,B'.F=B.F->B'.inv=B.inv->au P B' J (iQ X P fn.results.toList k (p.2<|.ptr<|some (J,0)) v) ⟨f,dt args,max fn.ntmps args.length,[.code body],[],none⟩ ⟨h0,J,0,[],[]⟩){Yw:aK}{args:List AV}{vs:Array Value}(r:Rel B ρ s.h w)(hg:gC ρ)(hf:dz s.nx s1.nx ρ)(h:Bp J ns h0 k val Yw args s= .ok x s1)(hv:ay ρ args vs.toList):jf P ((callFunc f vs).run P w)<|kh B ρ s s1 w x:=by
 have Ge:=Nat.le_of_lt dK;unfold Bp at h;obtain⟨gG,h1⟩:=cV h;obtain⟨u,s2,h2,h3⟩:=M.aN h1;obtain⟨p,h4,h5⟩:=bu h3;obtain⟨a1,a2,a3⟩:=uw h2;obtain⟨q1,q2,q3⟩:=eT _ _ h4;have nE:=Di Ge r dJ eD (fun n hn=>by obtain⟨_,o,p,h⟩:=a3 n hn;exact⟨o,p,h⟩);have fi:bB (⟨h0,J,0,[],[]⟩:AS):=⟨Nat.zero_le _,Ge⟩;have zO:gC<|gh J ρ:=fun g iD=>by obtain⟨N,e⟩:=hg g iD;exact⟨N,by unfold gh;rw[if_pos<|Nat.lt_of_lt_of_le iD fY];exact e⟩
 have lL:∀k,(⟨h0,J,0,[],[]⟩:AS).nx<=k->k<top->gh J ρ k=none:=fun k k1 k2=>by have k1:J<=k:=k1;unfold gh gk;rw[if_neg aj,if_neg aj]
 have Xy:=AV.AU (ρ:=ρ) (σ:=gh J ρ) (fun k y hk e=>by rw[su Ge hk];exact e) gG hv;rw[sd cj cw dD];show Calls P f vs w _;obtain⟨st,res⟩:=p;cases st with
 |none=>have e0:(none:Option AV)=none:=rfl;obtain⟨h6,h7⟩:=cV (show aG (res<|.ptr none).hi (M.pure<|res<|.ptr none) s2= .ok x s1 from h5);obtain⟨rfl,rfl⟩:=bA h7;refine(au.calls (B:=ri B ρ w) (s:=⟨h0,J,0,[],[]⟩) (args:=args) (vs:=vs) hP cj cw q1 (q2 e0 _ rfl rfl) fi nE zO lL Xy).mono fun e w'=>?_;rintro ⟨y,x',s4,rfl,rfl,_,_,σ,e1,e2,e3,e4⟩;obtain⟨b1,b2,b3,b4⟩:=IY (a:=s.nx) Ge r e3 e4 e1.le;exact⟨y,rfl,cC ρ σ,by rw[a2];exact b1,AV.pq b2 h6 e2,by rw[a1];exact b3,b4⟩
 |some v=>
  have e0:(some v:Option AV)=some v:=rfl;obtain⟨n,s3,h6,h7⟩:=M.aN (show((gA<|.tok k v).bind fun n=>M.pure<|res<|.ptr<|some (n,0)) s2= .ok x s1 from h5);obtain⟨rfl,rfl⟩:=bA h7;obtain⟨DZ,rfl,rfl⟩:=uD h6;obtain⟨lu,ahH⟩:=q3 v e0;refine(au.calls (B:=ri B ρ w) (s:=⟨h0,J,0,[],[]⟩) (args:=args) (vs:=vs) hP cj cw q1 (ahH _ rfl rfl) fi nE zO lL Xy).mono fun e w'=>?_;rintro ⟨y,x',s4,rfl,⟨rfl,L',qE,KL⟩,_,_,σ,e1,e2,e3,e4⟩;obtain⟨oR,hR⟩:=hX.root _ _ _ qE;obtain⟨b,N0,o',r1,_,_,_⟩:=e3.is J oR dK<|KL _ _ hR;have Qs:ρ s.nx=none:=hf s.nx (Nat.le_refl _) (by show s.nx<s2.nx+1;omega) aj;obtain⟨b1,b2,b3,b4⟩:=aeJ (a:=s.nx) hX hT Ge aj Qs r e3 e4 e1.le r1 qE KL;refine⟨y,rfl,_,?_,lu σ _ s2.nx y b2 (fun b' N' e=>?_) e2,?_,b4⟩
  ·show Ext s.nx (s2.nx+1) ρ _;rw[a2];exact b1
  ·rw[r1] at e;cases e;rw[a2];exact⟨0,iN _ _ _⟩
  ·show Rel B _ (s2.h.put s2.nx<|some<|.tok k v) w';rw[a1,a2];exact b3
theorem yZ.ptr:yZ J fun p=>p:=fun σ GQ n y _ h2 h=>by simp only[VR] at h ⊢;obtain⟨b,N,e1,e2⟩:=h;obtain⟨N',e3⟩:=h2 b N e1;exact⟨b,N',e3,e2⟩
theorem yZ.tup(hx:x.cM=true):yZ J fun p=>.tuple [p,x]:=fun σ GQ n y h1 h2 h=>by simp only[VR,ay] at h ⊢;obtain⟨a,e1,v,l,e2,⟨b,N,e3,e4⟩,v2,l2,e5,e6,e7⟩:=h;obtain⟨N',e8⟩:=h2 b N e3;exact⟨a,e1,v,l,e2,⟨b,N',e8,e4⟩,v2,l2,e5,AV.uQ h1 hx e6,e7⟩
end Go.Rn
namespace Go.Rn
open Go.RowKit
variable {β α:Type} {J:Nat} {ns:List Nat} {h0:Tr ae}
theorem NA{s:AS}{n:Nat}{o:Option ae}{p:ae}(h1:Nat.blt n s.nx=true)(h2:s.h.get n=some p)(h3:p.kJ=true)(ht:Nat.blt n top=true):kU n o s= .ok () (fm n o s):=by obtain⟨hh,nx,mark,rd,wr⟩:=s;have e1:(Nat.blt n nx&&Nat.blt n top)=true:=and_true.2 ⟨h1,ht⟩;have e2:hh.get n=some p:=h2;show @Bool.rec (fun _=>R Unit) .bad (@Option.rec ae (fun _=>R Unit) .bad (fun p=> @Bool.rec (fun _=>R Unit) (@Bool.rec (fun _=>R Unit) (.ok () ⟨hh.put n o,nx,mark,rd,wr⟩) (.ok () ⟨hh.put n o,nx,mark,n::rd,n::wr⟩)<|Nat.blt n mark) .bad<|!p.kJ)<|hh.get n) (Nat.blt n nx&&Nat.blt n top)=_;rw[e1,e2];show @Bool.rec (fun _=>R Unit) (@Bool.rec (fun _=>R Unit) (.ok () ⟨hh.put n o,nx,mark,rd,wr⟩) (.ok () ⟨hh.put n o,nx,mark,n::rd,n::wr⟩)<|Nat.blt n mark) .bad (!p.kJ)=_;rw[h3];show @Bool.rec (fun _=>R Unit) (.ok () ⟨hh.put n o,nx,mark,rd,wr⟩) (.ok () ⟨hh.put n o,nx,mark,n::rd,n::wr⟩) (Nat.blt n mark)= .ok () (@Bool.rec (fun _=>AS) ⟨hh.put n o,nx,mark,rd,wr⟩ ⟨hh.put n o,nx,mark,n::rd,n::wr⟩<|Nat.blt n mark);cases Nat.blt n mark<;>rfl
noncomputable section
inductive KE where
 |val (v:List AV->Option AV)
 |tok (k:Nat) (v:AV->List AV->Option (AV×AV))
 |new (k:Nat) (v:List AV->Option (Option AV×(AV->AV)))
 |raw (m:Nat->List Nat->Tr ae->aK->List AV->M AV)
abbrev bO:=List<|FuncId×KE
def KE.m(J:Nat)(ns:List Nat)(h0:Tr ae):KE->aK->List AV->M AV
 | .val v=>pj J ns h0 v
 | .tok k v=>xR J ns h0 k v
 | .new k v=>Bp J ns h0 k v
 | .raw m=>m J ns h0
def dk(J:Nat)(ns:List Nat)(h0:Tr ae):bO->Sp
 |[]=>fun _=>none
 |p::l=>fun f=>bif Nat.beq f p.1 then some (p.2.m J ns h0) else dk J ns h0 l f
def iI(val:AV->List AV->Option (AV×AV))(v:AV)(rest:List AV):Option<|AV×AV:=match rest.all AV.hi with
 |true=>(val v rest).bind fun p=>match p.1.hi with
  |true=>some p
  |false=>none
 |false=>none
def rz(val:List AV->Option (Option AV×(AV->AV)))(args:List AV):Option<|Option AV×(AV->AV):=match args.all AV.hi with
 |true=>(val args).bind fun p=>match p.1 with
  |none=>match (p.2<|.ptr none).hi with
   |true=>some p
   |false=>none
  |some _=>some p
 |false=>none
def Dj:bO->FuncId->Option KE
 |[]=>fun _=>none
 |p::l=>fun f=>bif Nat.beq f p.1 then some p.2 else Dj l f
def KE.v1:KE->Option (List AV->Option AV)
 | .val v=>some<|bf v
 |_=>none
def KE.v2:KE->Option (Nat×(AV->List AV->Option (AV×AV)))
 | .tok k v=>some (k,iI v)
 |_=>none
def KE.v3:KE->Option (Nat×(List AV->Option (Option AV×(AV->AV))))
 | .new k v=>some (k,rz v)
 |_=>none
def J5(o:Option α)(f:α->Option β):Option β:=match o with
 |some a=>f a
 |none=>none
def xS(P:Program)(J:Nat)(ns:List Nat)(h0:Tr ae)(L:bO)(lo:Nat)(fg:Bool):Env:=⟨P,dk J ns h0 L,FU,fun g=>J5 (Dj L g) KE.v1,fun _=>false,pC J h0 ns,dA J h0 ns,lo,fg,fun g=>J5 (Dj L g) KE.v2,fun g=>J5 (Dj L g) KE.v3,J⟩
end
theorem HY:∀{L:bO} {g:FuncId} {e:KE},Dj L g=some e->dk J ns h0 L g=some (e.m J ns h0)
 |[],g,e,h=>by cases h
 |p::l,g,e,h=>by
  unfold Dj at h;unfold dk;cases q:Nat.beq g p.1 with
  |true=>rw[q] at h;injection h with h;rw[h];rfl
  |false=>rw[q] at h;exact HY h
theorem MS{o:Option α}{f:α->Option β}{b:β}(h:J5 o f=some b):∃a,o=some a/\f a=some b:=by
 cases o with
 |none=>cases h
 |some a=>exact⟨a,rfl,h⟩
theorem eQ{P:Program}{L:bO}{lo:Nat}{fg:Bool}:(xS P J ns h0 L lo fg).Ok:=by
 refine⟨fun g val args v s n h1 h2 h3=>?_,fun g q m v rest y v' s n h1 h2 h3 h4 h5 h6 h7=>?_,fun g q args v res s n h1 h2 h3 h4=>?_,fun g h=>(by cases h)⟩
 ·obtain⟨e,k1,k2⟩:=MS h1;have k3:=HY (J:=J) (ns:=ns) (h0:=h0) k1;cases e with
  |val v0=>
   injection k2 with k2;subst k2
   show jF P (dk J ns h0 L) g (aZ P (dk J ns h0 L) FU n) args s=_;rw[qX k3];exact aaB (Yw:=aZ P (dk J ns h0 L) FU n) h2 h3
  |tok k v0=>cases k2
  |new k v0=>cases k2
  |raw m0=>cases k2
 ·obtain⟨e,k1,k2⟩:=MS h1;have k3:=HY (J:=J) (ns:=ns) (h0:=h0) k1;cases e with
  |val v0=>cases k2
  |new k v0=>cases k2
  |raw m0=>cases k2
  |tok k v0=>
   injection k2 with k2;subst k2
   show jF P (dk J ns h0 L) g (aZ P (dk J ns h0 L) FU n) (.ptr (some (m,0))::rest) s=_;rw[qX k3];have h7:iI v0 v rest=some (y,v'):=h7;unfold iI at h7;cases e1:rest.all AV.hi with
   |false=>rw[e1] at h7;cases h7
   |true=>
    rw[e1] at h7;cases e2:v0 v rest with
    |none=>rw[e2] at h7;cases h7
    |some p=>
     rw[e2] at h7;have h7:(match p.1.hi with|true=>some p|false=>none)=some (y,v'):=h7;cases e3:p.1.hi with
     |false=>rw[e3] at h7;cases h7
     |true=>
      rw[e3] at h7;injection h7 with h7
      subst h7;show(aG (rest.all AV.hi&&Nat.ble J m) <| (fG J h0 ns).bind fun _=>(bt m).bind fun o=>match o with
       | .tok k' v=>aG (Nat.beq k k') <| aB (v0 v rest) fun p=>aG p.1.hi <| (kU m<|some<|.tok k p.2).bind fun _=>M.pure p.1
       |_=>fail) s=_
      have h3:Nat.ble J m=true:=h3;have h4:Nat.blt m (dA J h0 ns s).nx=true:=h4;have h6:(dA J h0 ns s).h.get m=some (.tok k v):=h6;rw[e1,h3,(show(true&&true)=true from rfl),dy,M.bK<|w9 h2,M.bK<|lJ h4 h6];show(aG (Nat.beq k k) <| aB (v0 v rest) fun p=>aG p.1.hi <| (kU m<|some<|.tok k p.2).bind fun _=>M.pure p.1) (aT m<|dA J h0 ns s)=_;rw[ey.2 rfl,dy,e2,bT,e3,dy,M.bK<|NA (p:=.tok k v) (by rw[(fL m _).2.1];exact h4) (by rw[(fL m _).1];exact h6) rfl h5];rfl
 ·obtain⟨e,k1,k2⟩:=MS h1;have k3:=HY (J:=J) (ns:=ns) (h0:=h0) k1;cases e with
  |val v0=>cases k2
  |tok k v0=>cases k2
  |raw m0=>cases k2
  |new k v0=>
   injection k2 with k2;subst k2
   show jF P (dk J ns h0 L) g (aZ P (dk J ns h0 L) FU n) args s=_;rw[qX k3];have h4:rz v0 args=some (v,res):=h4;unfold rz at h4;cases e1:args.all AV.hi with
   |false=>rw[e1] at h4;cases h4
   |true=>
    rw[e1] at h4;cases e2:v0 args with
    |none=>rw[e2] at h4;cases h4
    |some p=>
     obtain⟨st,r⟩:=p;rw[e2] at h4;show(aG (args.all AV.hi) <| (fG J h0 ns).bind fun _=>aB (v0 args) fun p=>match p.1 with
      |none=>aG (p.2<|.ptr none).hi <| M.pure (p.2<|.ptr none)
      |some v=>(gA<|.tok k v).bind fun n=>M.pure<|p.2<|.ptr<|some (n,0)) s=_
     rw[e1,dy,M.bK<|w9 h2,e2,bT];cases st with
     |none=>
      have h4:(match (r<|.ptr none).hi with|true=>some ((none:Option AV),r)|false=>none)=some (v,res):=h4;cases e3:(r<|.ptr none).hi with
      |false=>rw[e3] at h4;cases h4
      |true=>
       rw[e3] at h4;injection h4 with h4
       injection h4 with h5 h6
       subst h5;subst h6;show aG true (M.pure<|r<|.ptr none) _=_;rw[dy];rfl
     |some v1=>
      have h4:some (some v1,r)=some (v,res):=h4;injection h4 with h4
      injection h4 with h5 h6
      subst h5;subst h6;show((gA<|.tok k v1).bind fun n=>M.pure<|r<|.ptr<|some (n,0)) _=_;have h3:Nat.blt (dA J h0 ns s).nx top=true:=h3;rw[M.bK<|T9<|(blt_eq _ _).mp h3];rfl
end Go.Rn
namespace Go.Rn
open Go.RowKit
variable {B:aJ}
theorem RI{P:Program}{f J:Nat}{ns:List Nat}{h0:Tr ae}{val:List AV->Option AV}{fn:Func}{body:Code}{ρ:Ren}{w:World}{s s1:AS}(hP:bR P)(cj:P.funcs[f]? =some fn)(cw:fn.body=some body)(dD:(fn.name == "runtime.NumGoroutine")=false)(fY:fI<=J)(dK:J<=top)(dJ:∀n o,n<top->h0.get n=some o->n∈ns)(eD:∀n∈ns,n<J)(eT:∀args v,val args=some v->max fn.ntmps args.length<=top/\∀B':aJ,B'.F=B.F->B'.inv=B.inv->au P B' J (Fin P fn.results.toList fun y _=>y=v) ⟨f,dt args,max fn.ntmps args.length,[.code body],[],none⟩ ⟨h0,J,0,[],[]⟩){Yw:aK}{args:List AV}{x:AV}{vs:Array Value}(r:Rel B ρ s.h w)(hg:gC ρ)(h:pj J ns h0 val Yw args s= .ok x s1)(hv:ay ρ args vs.toList):jf P ((callFunc f vs).run P w)<|kh B ρ s s1 w x:=by
 unfold pj at h;obtain⟨gG,h1⟩:=cV h;obtain⟨u,s2,h2,h3⟩:=M.aN h1;obtain⟨v,h4,h5⟩:=bu h3;obtain⟨h6,h7⟩:=cV h5;obtain⟨rfl,rfl⟩:=bA h7;obtain⟨a1,a2,a3⟩:=uw h2;obtain⟨q1,q2⟩:=eT _ _ h4;have nE:=Di dK r dJ eD (fun n hn=>by obtain⟨_,o,p,h⟩:=a3 n hn;exact⟨o,p,h⟩);have fi:bB (⟨h0,J,0,[],[]⟩:AS):=⟨Nat.zero_le _,dK⟩;have zO:gC<|gh J ρ:=fun g iD=>by obtain⟨N,e⟩:=hg g iD;exact⟨N,by unfold gh;rw[if_pos<|Nat.lt_of_lt_of_le iD fY];exact e⟩
 have bG:=au.calls (B:=ri B ρ w) (s:=⟨h0,J,0,[],[]⟩) (args:=args) (vs:=vs) hP cj cw q1 (q2 _ rfl rfl) fi nE zO (fun k k1 k2=>by
  have k1:J<=k:=k1;unfold gh gk;rw[if_neg aj,if_neg aj])
  (AV.AU (fun k y hk e=>by rw[su dK hk];exact e) gG hv)
 rw[sd cj cw dD];show Calls P f vs w _;refine bG.mono fun e w'=>?_;rintro ⟨y,x',s4,rfl,rfl,_,_,σ,e1,e2,e3,e4⟩;obtain⟨b1,b2,b3,b4⟩:=IY (a:=s.nx) dK r e3 e4 e1.le;exact⟨y,rfl,cC ρ σ,by rw[a2];exact b1,AV.pq b2 h6 e2,by rw[a1];exact b3,b4⟩
def dR(X:TX)(J:Nat)(P:Program)(sp:Sp):Prop:=∀B:aJ,B.F=FU->B.inv=nC X J->J1 P B sp
theorem dR.mh{X:TX}{J:Nat}{P:Program}{sp:Sp}{g:FuncId}{m:aK->List AV->M AV}(h:dR X J P sp)(hl:∀Yw:aK,(∀t a,Yv<|Yw t a)->∀args,Yv<|m Yw args)(hs:∀B:aJ,B.F=FU->B.inv=nC X J->∀Yw:aK,fQ P B Yw->(∀t a,Yv<|Yw t a)->∀(args:List AV) (x:AV) (s s1:AS) (ρ:Ren) (w:World) (vs:Array Value),bB s->Rel B ρ s.h w->gC ρ->dz s.nx s1.nx ρ->
 m Yw args s= .ok x s1->ay ρ args vs.toList->jf P ((callFunc g vs).run P w) (kh B ρ s s1 w x)):dR X J P<|oB sp g m:=by
 intro B hB hT;refine⟨fun f m' e Yw kQ args=>?_,fun f m' e Yw hc kQ args x s s1 ρ w vs fi r hg hf hm hv=>?_⟩
 ·rcases R4 e with⟨_,rfl⟩|e
  ·exact hl Yw kQ args
  ·exact(h B hB hT).loc f m' e Yw kQ args
 ·rcases R4 e with⟨rfl,rfl⟩|e
  ·exact hs B hB hT Yw hc kQ args x s s1 ρ w vs fi r hg hf hm hv
  ·exact(h B hB hT).D6 f m' e Yw hc kQ args x s s1 ρ w vs fi r hg hf hm hv
section
variable {X:TX} {P:Program} {J:Nat} {ns:List Nat} {h0:Tr ae} {kn:List<|Nat×Option ae} {L L':bO} {g k:Nat} {fn:Func} {body:Code}
theorem dc:dR X J P<|dk J ns h0 []:=fun _ _ _=>⟨fun f m h=>(by cases h),fun f m h=>(by cases h)⟩
def qx(X:TX)(P:Program)(J:Nat)(ns:List Nat)(h0:Tr ae)(L:bO)(B:aJ):Prop:=B.F=FU/\B.inv=nC X J/\fQ P B (aZ P (dk J ns h0 L) FU 6)/\∀t a,Yv<|aZ P (dk J ns h0 L) FU 6 t a
theorem qy(hP:bR P)(h':dR X J P<|dk J ns h0 L)(h1:B.F=FU)(h2:B.inv=nC X J):qx X P J ns h0 L B:=⟨h1,h2,SE hP (h' B h1 h2) h1 6,Ck P (h' B h1 h2) FU 6⟩
theorem acW(hP:bR P)(fY:fI<=J)(dK:J<=top)(dJ:∀n o,n<top->h0.get n=some o->n∈ns)(eD:∀n∈ns,n<J){val:List AV->Option AV}(h:dR X J P<|dk J ns h0 L)(h':dR X J P<|dk J ns h0 L')(cj:P.funcs[g]? =some fn)(cw:fn.body=some body)(dD:(fn.name == "runtime.NumGoroutine")=false)(eT:∀args v,val args=some v->max fn.ntmps args.length<=top/\∀B:aJ,qx X P J ns h0 L' B->
 au P B J (Fin P fn.results.toList fun y _=>y=v) ⟨g,dt args,max fn.ntmps args.length,[.code body],[],none⟩ ⟨h0,J,0,[],[]⟩):dR X J P<|dk J ns h0<|(g,.val val)::L:=by
 refine(show dR X J P (oB (dk J ns h0 L) g<|pj J ns h0 val) from h.mh (fun Yw _ args=>Yv.pj _ _ _ _ Yw args) fun B hB hT Yw hc hl args x s s1 ρ w vs fi r hg hf hm hv=>?_);refine RI hP cj cw dD fY dK dJ eD (fun args v e=>?_) r hg hm hv;obtain⟨q1,q2⟩:=eT args v e;exact⟨q1,fun B' lA lB=>q2 B'<|qy hP h' (lA.trans hB)<|lB.trans hT⟩
theorem NB(hX:ye X J)(hP:bR P)(fY:fI<=J)(dK:J<=top)(dJ:∀n o,n<top->h0.get n=some o->n∈ns)(eD:∀n∈ns,n<J)(jk:∀n o,(n,some o)∈kn->h0.get n=some o)(jq:∀p∈kn,p.1<top){val:AV->List AV->Option (AV×AV)}(h:dR X J P<|dk J ns h0 L)(h':dR X J P<|dk J ns h0 L')(cj:P.funcs[g]? =some fn)(cw:fn.body=some body)(dD:(fn.name == "runtime.NumGoroutine")=false)(eT:∀v rest y v',val v rest=some (y,v')->max fn.ntmps (rest.length+1)<=top/\∀L,X k v L->∃nx,J<nx/\nx<=top/\(∀p∈L,p.1<nx)/\∀B:aJ,qx X P J ns h0 L' B->
 au P B (J+1) (iQ X P fn.results.toList k y v') ⟨g,dt<|.ptr (some (J,0))::rest,max fn.ntmps<|rest.length+1,[.code body],[],none⟩ ⟨fR<|kn++aW L,nx,0,[],[]⟩):dR X J P<|dk J ns h0<|(g,.tok k val)::L:=by
 refine(show dR X J P (oB (dk J ns h0 L) g<|xR J ns h0 k val) from h.mh (fun Yw _ args=>Yv.xR _ _ _ _ _ Yw args) fun B hB hT Yw hc hl args x s s1 ρ w vs fi r hg hf hm hv=>?_);refine Tx hX hT hP cj cw dD fY dK dJ eD jk jq (fun v rest y v' e=>?_) r hg hm hv;obtain⟨q1,q2⟩:=eT v rest y v' e;refine⟨q1,fun L1 hL=>?_⟩;obtain⟨nx,n1,n2,n3,q3⟩:=q2 L1 hL;exact⟨nx,n1,n2,n3,fun B' lA lB=>q3 B'<|qy hP h' (lA.trans hB)<|lB.trans hT⟩
theorem Ul(hX:ye X J)(hP:bR P)(fY:fI<=J)(dK:J<top)(dJ:∀n o,n<top->h0.get n=some o->n∈ns)(eD:∀n∈ns,n<J){val:List AV->Option (Option AV×(AV->AV))}(h:dR X J P<|dk J ns h0 L)(h':dR X J P<|dk J ns h0 L')(cj:P.funcs[g]? =some fn)(cw:fn.body=some body)(dD:(fn.name == "runtime.NumGoroutine")=false)(eT:∀args p,val args=some p->max fn.ntmps args.length<=top/\(p.1=none->∀B:aJ,qx X P J ns h0 L' B->
 au P B J (Fin P fn.results.toList fun y _=>y=p.2 (.ptr none)) ⟨g,dt args,max fn.ntmps args.length,[.code body],[],none⟩ ⟨h0,J,0,[],[]⟩)/\
 ∀v,p.1=some v->yZ J p.2/\∀B:aJ,qx X P J ns h0 L' B->au P B J (iQ X P fn.results.toList k (p.2<|.ptr<|some (J,0)) v) ⟨g,dt args,max fn.ntmps args.length,[.code body],[],none⟩ ⟨h0,J,0,[],[]⟩):
 dR X J P (dk J ns h0<|(g,.new k val)::L):=by
 refine(show dR X J P (oB (dk J ns h0 L) g<|Bp J ns h0 k val) from h.mh (fun Yw _ args=>Yv.Bp _ _ _ _ _ Yw args) fun B hB hT Yw hc hl args x s s1 ρ w vs fi r hg hf hm hv=>?_);refine abN hX hT hP cj cw dD fY dK dJ eD (fun args p e=>?_) r hg hf hm hv;obtain⟨q1,q2,q3⟩:=eT args p e;refine⟨q1,fun e0 B' lA lB=>q2 e0 B'<|qy hP h' (lA.trans hB)<|lB.trans hT,fun v e0=>?_⟩;obtain⟨q4,q5⟩:=q3 v e0;exact⟨q4,fun B' lA lB=>q5 B'<|qy hP h' (lA.trans hB)<|lB.trans hT⟩
end
end Go.Rn
namespace Go.Rn
open Go.RowKit
variable {α:Type} {enc:α->List AV} {r:Nat->Nat} {fz:kN} {l:List α} {K n o:Nat} {a v:AV} {cap:bW} {args:List AV}
def dm(enc:α->List AV)(K:Nat)(a:AV)(l:List α):Prop:=∃n o,a= .U n o l.length/\top<=n/\∀(i:Nat) c,l[i]? =some c->cr FU n (o+i*K) K=some (enc c)
theorem dm.cM(h:dm enc K a l):a.cM=true:=by obtain⟨n,o,rfl,h1,_⟩:=h;exact aM.2 h1
theorem dm.hi(h:dm enc K a l):a.hi=true:=by have:=h.cM;obtain⟨n,o,rfl,h1,_⟩:=h;exact this
theorem dm.ax{α:Type}{enc:α->List AV}{K:Nat}(he:l9 K enc)(l:List α):dm enc K (ax enc l) l:=⟨_,0,rfl,cF _,fun i c hc=>by have:=sL he hc 0 K aj;rw[Nat.zero_add];rw[Nat.add_zero,List.drop_zero, ←he.len c,List.take_length] at this;rw[he.len c] at this;exact this⟩
theorem dm.inj{m:List α}(Dz:∀x y,enc x=enc y->x=y)(h:dm enc K a l)(k:dm enc K a m):l=m:=by
 obtain⟨n,o,rfl,_,h2⟩:=h;obtain⟨n',o',e,_,k2⟩:=k;injection e with e1 e2 e3
 subst e1;subst e2;refine List.ext_getElem? fun i=>?_;by_cases q:i<l.length
 ·have a1:l[i]? =some l[i]:=List.getElem?_eq_getElem q;have a2:m[i]? =some (m[i]'aj):=List.getElem?_eq_getElem aj;have b1:=h2 i _ a1;have b2:=k2 i _ a2;rw[b1] at b2;injection b2 with b2
  rw[a1,a2,Dz _ _ b2]
 ·rw[List.getElem?_eq_none aj,List.getElem?_eq_none aj]
theorem dm.len{α:Type}{enc:α->List AV}{K n o len:Nat}{l:List α}(h:dm enc K (.U n o len) l):l.length=len/\top<=n/\∀(i:Nat) c,l[i]? =some c->cr FU n (o+i*K) K=some (enc c):=by
 obtain⟨n',o',e,ht,h3⟩:=h;injection e with e1 e2 e3
 subst e1;subst e2;exact⟨e3.symm,ht,h3⟩
theorem E9{len:Nat}(hl:∀c,(enc c).length=K)(h:dm enc K (.U n o len) l):cr FU n o (len*K)=some (l.map enc).flatten\/l=[]:=by
 obtain⟨h1,_,h3⟩:=h.len;by_cases hn:l=[]
 ·exact .inr hn
 refine .inl ?_;have DA:0<l.length:=by cases l with|nil=>exact absurd rfl hn|cons _ _=>exact Nat.succ_pos _
 obtain⟨row,eR⟩:∃row,FU n=some row:=by
  have:=h3 0 l[0]<|List.getElem?_eq_getElem DA;unfold cr at this;cases e:FU n with
  |none=>rw[e] at this;cases this
  |some r=>exact⟨r,rfl⟩
 have aw:∀(i:Nat) c,l[i]? =some c->o+i*K+K<=row.length/\(row.drop<|o+i*K).take K=enc c:=by
  intro i c hc;have:=h3 i c hc;unfold cr at this;rw[eR] at this;simp only at this;cases q:Nat.ble (o+i*K+K) row.length with
  |false=>rw[q] at this;cases this
  |true=>rw[q] at this;injection this with this;exact⟨aM.1 q,this⟩
 have aly:=(aw (l.length - 1) l[l.length - 1]<|List.getElem?_eq_getElem aj).1;have hmul:(l.length - 1)*K+K=l.length*K:=by rw[←Nat.succ_mul];congr 1;omega
 have hle:o+len*K<=row.length:=by rw[←h1];omega
 unfold cr;rw[eR];simp only[(aM.2 hle:Nat.ble (o+len*K) row.length=true)];congr 1;have yb:(l.map enc).flatten.length=l.length*K:=by
  have:=uy (K:=K) (l:=l.map enc) fun c hc=>by obtain⟨a,_,rfl⟩:=List.mem_map.1 hc;exact hl a
  rw[this,List.length_map]
 refine List.ext_getElem? fun i=>?_;by_cases q:i<l.length*K
 ·rcases Nat.eq_zero_or_pos K with z|hK
  ·rw[z] at q;omega
  have hdiv:i / K<l.length:=Nat.div_lt_of_lt_mul (by rw[Nat.mul_comm];exact q);have F8:i % K<K:=Nat.mod_lt _ hK;have D7:i / K*K+i % K=i:=by rw[Nat.mul_comm];exact Nat.div_add_mod i K
  obtain⟨_,h4⟩:=aw (i / K) l[i / K]<|List.getElem?_eq_getElem hdiv;have h5:=LP (l:=l.map enc) (K:=K) (i:=i / K) (c:=enc l[i / K]) (fun c hc=>by obtain⟨a,_,rfl⟩:=List.mem_map.1 hc;exact hl a) (by rw[List.getElem?_map,List.getElem?_eq_getElem hdiv];rfl);have h6:(row.drop<|o+i / K*K)[i % K]? =(enc l[i / K])[i % K]? :=by rw[←h4,List.getElem?_take_of_lt F8]
  have h7:((l.map enc).flatten.drop<|i / K*K)[i % K]? =(enc l[i / K])[i % K]? :=by rw[←h5,List.getElem?_take_of_lt F8]
  rw[List.getElem?_drop] at h6 h7;rw[List.getElem?_take_of_lt (by rw[←h1];exact q),List.getElem?_drop,show o+i=o+i / K*K+i % K by omega,h6, ←h7,D7]
 ·rw[List.getElem?_eq_none (by rw[List.length_take, ←h1];omega),List.getElem?_eq_none aj]
theorem Fa(hm:(n,nm (l.map enc).flatten,(l.map enc).flatten)∈fz)(hr:∀k,top<=k->r k=k)(hc:(match cap with| .known c=>Nat.ble l.length c| .aq _ _=>true| .lost=>false)=true):jz fz r (.slice (some (n,0)) l.length cap)<|ax enc l:=by
 intro ρ fE v yf hv;have:∃b N c,ρ n=some (b,N)/\v= .slice (some ⟨b,0,none⟩) l.length c/\l.length<=c:=by
  cases cap with
  |known c=>simp only[VR] at hv;obtain⟨b,N,e,hv⟩:=hv;exact⟨b,N,c,e,hv,aM.1 hc⟩
  |aq lo e0=>simp only[VR] at hv;obtain⟨b,N,c,e,hv,_,h,_⟩:=hv;exact⟨b,N,c,e,hv,h⟩
  |lost=>cases hc
 obtain⟨b,N,c,e,rfl,hle⟩:=this;have hk:=yf.2.2 _ hm b N e;unfold ax;simp only[VR];exact .inr ⟨b,0,c,.inr ⟨cF _,fun z=>hk<|(congrArg fE<|hr _<|gb _ _ _).symm.trans z⟩,rfl,fun _=>⟨hle,(yY _).1⟩⟩
theorem It:jz fz r (.slice none 0<|.known 0)<|ax enc []:=by intro ρ fE v _ hv;simp only[VR] at hv;obtain⟨rfl,_,_⟩:=hv;unfold ax;simp only[VR];exact .inl ⟨cF _,rfl,none,0,rfl,(fun _=>rfl),(fun _=>rfl),fun e=>absurd e (yY _).2⟩
theorem aaD:jz fz r (.slice (some (n,o)) 0 cap)<|ax enc []:=by
 intro ρ fE v _ hv;have:∃a c,v= .slice (some a) 0 c:=by
  cases cap<;>simp only[VR] at hv
  ·obtain⟨_,_,_,rfl⟩:=hv;exact⟨_,_,rfl⟩
  ·obtain⟨_,_,_,_,rfl,_⟩:=hv;exact⟨_,_,rfl⟩
  ·obtain⟨_,_,_,_,_,_,rfl⟩:=hv;exact⟨_,_,rfl⟩
 obtain⟨a,c,rfl⟩:=this;unfold ax;simp only[VR];exact .inl ⟨cF _,rfl,some a,c,rfl,(fun e=>by cases e),(fun e=>absurd e (yY _).1),fun _ e=>by cases e⟩
theorem aeK{len:Nat}(ht:top<=n)(hr:∀k,top<=k->r k=k):jz fz r (.U n o len)<|.U n o len:=(ba.U (hr n ht) hr).z
theorem Iu(hr:∀k,top<=k->r k=k):jz fz r (ax enc l)<|ax enc l:=aeK (cF _) hr
theorem Fb(he:l9 K enc)(hl:l.length*K<=top)(n:Nat)(hn:n<top){o0:List<|Nat×Option ae}(hm:(n,some<|aA enc l)∈o0):
 n<top/\FU (nm (l.map enc).flatten)=some (l.map enc).flatten/\∃N t z,(n,some<|.cells N t z)∈o0/\∀i x,(l.map enc).flatten[i]? =some x->i<N/\cellAt t z i=some x/\x.bQ=true/\x.cM=true:=by
 refine⟨hn,Dh<|he.all l,_,_,_,hm,fun i x hx=>?_⟩;have hi:=(List.getElem?_eq_some_iff.1 hx).1;have hc:=List.all_eq_true.1 (he.all l) x<|List.mem_of_getElem? hx;exact⟨hi,by rw[yw (by rw[he.length];exact hl) hi];exact hx,HF hc,Cy hc⟩
def kG(fz:kN)(r:Nat->Nat):List AV->List AV->Prop
 |[],[]=>True
 |x::l,y::m=>jz fz r x y/\kG fz r l m
 |_,_=>False
theorem kG.length:∀{l m:List AV},kG fz r l m->l.length=m.length
 |[],[],_=>rfl
 |_::_,_::_,h=>by simp[kG.length h.2]
 |[],_::_,h=>by cases h
 |_::_,[],h=>by cases h
theorem kG.ak:∀{l m:List AV} {i:Nat} {x y:AV},kG fz r l m->l[i]? =some x->m[i]? =some y->jz fz r x y
 |x::l,y::m,0,a,b,h,h1,h2=>by simp at h1 h2;subst h1;subst h2;exact h.1
 |x::l,y::m,i+1,a,b,h,h1,h2=>kG.ak h.2 (by simpa using h1) (by simpa using h2)
 |[],[],_,_,_,_,h1,_=>by simp at h1
 |_::_,[],_,_,_,h,_,_=>by cases h
 |[],_::_,_,_,_,h,_,_=>by cases h
theorem eZ.cells{l m:List AV}(hl:l.length<=top)(h:kG fz r l m)(h1:m.all AV.bQ=true):eZ fz r (.cells l.length (Tr.fill l 0 .nil) [])<|.cells m.length (Tr.fill m 0 .nil) []:=by
 have hlen:=h.length;intro ρ fE N o yf k;obtain⟨c,e,rfl,k1,k2,k3⟩:=k;refine⟨c,e,rfl,k1,by omega,fun i hi=>?_⟩;obtain⟨x,v,a1,a2,a3,a4⟩:=k3 i aj;have hx:l[i]? =some x:=by unfold cellAt at a1;rw[Tr.sg _ _ _ _ aj,if_pos aj,Nat.sub_zero,List.getElem?_eq_getElem aj] at a1;rw[List.getElem?_eq_getElem aj];exact a1
 have hy:m[i]? =some m[i]:=List.getElem?_eq_getElem hi;refine⟨m[i],v,?_,?_,a3,h.ak hx hy ρ fE v yf a4⟩
 ·unfold cellAt;rw[Tr.sg _ _ _ _ aj,if_pos aj,Nat.sub_zero,hy]
 ·exact List.all_eq_true.1 h1 _<|List.getElem_mem hi
open Classical in
noncomputable def aP(R:List AV->AV->Prop)(args:List AV):Option AV:=if h:∃v,R args v then some h.choose else none
theorem fV{R:List AV->AV->Prop}(h:aP R args=some v):R args v:=by
 unfold aP at h;split at h
 ·rename_i q;injection h with h;rw[←h];exact q.choose_spec
 ·cases h
theorem eK{R:List AV->AV->Prop}(hd:∀args v v',R args v->R args v'->v=v')(h:R args v):aP R args=some v:=by unfold aP;have q:∃v,R args v:=⟨v,h⟩;rw[dif_pos q,hd _ _ _ q.choose_spec h]
end Go.Rn
namespace Go.Rn
open Go.RowKit
variable {ns:List Nat} {v y v':AV} {rest args:List AV} {n o:Nat} {S:Type} {res:AV->AV} {f:S->List AV->Option (AV×S)} {enc:S->AV}
def zp(ns:List Nat)(σ:Ren):Ren:=fun m=>if top<=m\/m∈ns then σ m else none
def gy(ns:List Nat)(x:AV):Prop:=∀(σ:Ren) (v:Value),VR σ x v->VR (zp ns σ) x v
theorem acX(ns:List Nat)(σ:Ren):jg σ<|zp ns σ:=fun k x hk e=>by unfold zp;rw[if_pos<|.inl hk];exact e
theorem gy.hi{x:AV}(h:x.cM=true):gy ns x:=fun σ _ k=>AV.uQ (acX ns σ) h k
theorem gy.ptr(h:n∈ns):gy ns<|.ptr<|some (n,o):=fun σ v k=>by simp only[VR] at k ⊢;obtain⟨b,N,e1,e2⟩:=k;exact⟨b,N,by unfold zp;rw[if_pos<|.inr h];exact e1,e2⟩
theorem gy.map(h:n∈ns):gy ns<|.map<|some n:=fun σ v k=>by simp only[VR] at k ⊢;obtain⟨b,N,e1,e2⟩:=k;exact⟨b,N,by unfold zp;rw[if_pos<|.inr h];exact e1,e2⟩
theorem gy.slice{len:Nat}{cap:bW}(h:n∈ns):gy ns<|.slice (some (n,o)) len cap:=fun σ v k=>by
 cases cap<;>simp only[VR] at k ⊢
 ·obtain⟨b,N,e1,e2⟩:=k;exact⟨b,N,by unfold zp;rw[if_pos<|.inr h];exact e1,e2⟩
 ·obtain⟨b,N,c,e1,e2⟩:=k;exact⟨b,N,c,by unfold zp;rw[if_pos<|.inr h];exact e1,e2⟩
 ·obtain⟨l,b,N,p,c,e1,e2⟩:=k;exact⟨l,b,N,p,c,by unfold zp;rw[if_pos<|.inr h];exact e1,e2⟩
theorem ln.tok{k:Nat}:ln ns<|.tok k v:=fun _ _ _ _=>trivial
theorem ln.cells{cs:List AV}(hl:cs.length<=top)(h:∀c∈cs,gy ns c):ln ns<|.cells cs.length (Tr.fill cs 0 .nil) []:=fun σ N o' k=>by obtain⟨c,e,r,s,u,f⟩:=k;refine⟨c,e,r,s,u,fun i hi=>?_⟩;obtain⟨x,v,a,b,d,q⟩:=f i hi;refine⟨x,v,a,b,d,h x ?_ σ v q⟩;have:=yw (l:=cs) (i:=i) hl hi;rw[this] at a;exact List.mem_of_getElem? a
theorem ln.row{α:Type}{enc:α->List AV}{l:List α}(hl:(l.map enc).flatten.length<=top)(h:∀c∈(l.map enc).flatten,gy ns c):ln ns<|aA enc l:=ln.cells hl h
noncomputable def gU(enc:S->AV)(f:S->List AV->Option (AV×S)):AV->List AV->Option (AV×AV):=fun v rest=> @dite _ (∃a,enc a=v) (Classical.propDecidable _) (fun h=>(f h.choose rest).map fun p=>(p.1,enc p.2)) fun _=>none
theorem AB(inj:∀a b,enc a=enc b->a=b){a:S}:gU enc f (enc a) rest=(f a rest).map fun p=>(p.1,enc p.2):=by unfold gU;have h:∃b,enc b=enc a:=⟨a,rfl⟩;rw[dif_pos h,inj _ _ h.choose_spec]
theorem HZ(h:gU enc f v rest=some (y,v')):∃a a',v=enc a/\f a rest=some (y,a')/\v'=enc a':=by
 unfold gU at h;split at h
 ·rename_i q;cases e:f q.choose rest with
  |none=>rw[e] at h;cases h
  |some p=>
   rw[e] at h;injection h with h
   injection h with h1 h2
   refine⟨_,p.2,q.choose_spec.symm,?_,h2.symm⟩;rw[e, ←h1]
 ·cases h
theorem acY{val:AV->List AV->Option (AV×AV)}(h:val v rest=some (y,v'))(h1:rest.all AV.hi=true)(h2:y.hi=true):iI val v rest=some (y,v'):=by unfold iI;rw[h1,h];show(match y.hi with|true=>some (y,v')|false=>none)=_;rw[h2]
theorem acZ{val:List AV->Option (Option AV×(AV->AV))}(h:val args=some (some v,res))(h1:args.all AV.hi=true):rz val args=some (some v,res):=by unfold rz;rw[h1,h];rfl
theorem Um{val:List AV->Option (Option AV×(AV->AV))}(h:val args=some (none,res))(h1:args.all AV.hi=true)(h2:(res<|.ptr none).hi=true):rz val args=some (none,res):=by unfold rz;rw[h1,h];show(match (res<|.ptr none).hi with|true=>some (none,res)|false=>none)=_;rw[h2]
end Go.Rn
namespace Go.Rn
open Go.RowKit
variable {ρ:Ren} {J:Nat}
abbrev Vw:=List<|Nat×Nat×ae
def gJ(L:Vw)(m:Nat):Option Nat:=(L.find? fun p=>Nat.beq p.1 m).map fun p=>p.2.1
def eU(J:Nat)(ρ:Ren)(L:Vw):Ren:=fun m=>if m<J then ρ m else if top<=m then ρ m else match gJ L m with
 |some n=>ρ n
 |none=>none
def JD(L:Vw):List<|Nat×ae:=L.map fun p=>(p.1,p.2.2)
theorem aaE{L:Vw}(fn:∀p∈L,∀q∈L,p.1=q.1->p=q){p:Nat×Nat×ae}(hp:p∈L):gJ L p.1=some p.2.1:=by
 unfold gJ;cases e:L.find? fun q=>Nat.beq q.1 p.1 with
 |none=>exact absurd (List.find?_eq_none.1 e p hp) jD
 |some q=>have h1:=List.mem_of_find?_eq_some e;have h2:=List.find?_some e;have h3:q.1=p.1:=Nat.eq_of_beq_eq_true h2;rw[fn q h1 p hp h3];rfl
theorem aaF{L:Vw}{m n:Nat}(h:gJ L m=some n):∃p∈L,p.1=m/\p.2.1=n:=by
 unfold gJ at h;cases e:L.find? fun q=>Nat.beq q.1 m with
 |none=>rw[e] at h;cases h
 |some q=>rw[e] at h;have h2:=List.find?_some e;refine⟨q,List.mem_of_find?_eq_some e,Nat.eq_of_beq_eq_true h2,?_⟩;injection h
theorem yG{L:Vw}(ht:J<=top){m:Nat}(hm:top<=m):eU J ρ L m=ρ m:=by unfold eU;rw[if_neg aj,if_pos hm]
theorem CG{L:Vw}{m:Nat}(hm:m<J):eU J ρ L m=ρ m:=by unfold eU;rw[if_pos hm]
theorem HG{L:Vw}{m:Nat}(h1:J<=m)(h2:m<top)(h3:∀p∈L,p.1≠m):eU J ρ L m=none:=by
 unfold eU;rw[if_neg aj,if_neg aj];cases e:gJ L m with
 |none=>rfl
 |some n=>obtain⟨p,hp,e1,_⟩:=aaF e;exact absurd e1<|h3 p hp
end Go.Rn
namespace Go.Rn
open Go.RowKit
variable {ρ:Ren} {J:Nat} {h:Tr ae} {L:Vw}
structure zP (J:Nat) (ρ:Ren) (h:Tr ae) (L:Vw):Prop where
 nm:∀p∈L,J<=p.1/\p.1<top/\p.2.1<top
 fn:∀p∈L,∀q∈L,p.1=q.1->p=q
 inj:∀p∈L,∀q∈L,p.2.1=q.2.1->p=q
 is:∀p∈L,∃o,h.get p.2.1=some o/\((o.own=true/\p.2.2.own=true/\∀N o',OR ρ N o o'->OR (eU J ρ L) N p.2.2 o')\/∃k v,o= .tok k v/\p.2.2= .tok k v)
def wH(ρ:Ren)(cU:Nat->Nat->Prop)(L:Vw)(x:Nat):Prop:=(∃p∈L,p.2.2.dh=false/\∃N,ρ p.2.1=some (x,N))\/∃p∈L,p.2.2.kJ=true/\cU p.2.1 x
theorem zP.vX(V:zP J ρ h L){p:Nat×Nat×ae}(hp:p∈L):eU J ρ L p.1=ρ p.2.1:=by obtain⟨q1,q2,_⟩:=V.nm p hp;unfold eU;rw[if_neg aj,if_neg aj,aaE V.fn hp]
def DG(B:aJ)(ρ:Ren)(h:Tr ae)(w:World)(cU:Nat->Nat->Prop):Prop:=(∀n k v,n<top->h.get n=some (.tok k v)->∃b N,ρ n=some (b,N)/\B.inv k v ρ w b (cU n)/\cU n b/\∀x,cU n x->(x<w.heap.size/\B.lim<=x)/\B.may x/\jY ρ h x/\∀j sh,ρ (hn j x sh)=none)/\∀n m x k v k' v',n<top->m<top->h.get n=some (.tok k v)->h.get m=some (.tok k' v')->n≠m->cU n x->¬cU m x
theorem JE{B:aJ}{w:World}{h0:Tr ae}{ns:List Nat}{kn:List<|Nat×Option ae}{cU:Nat->Nat->Prop}(ht:J<=top)(r:Rel B ρ h w)(T:DG B ρ h w cU)(dJ:∀n o,n<top->h0.get n=some o->n∈ns)(eD:∀n∈ns,n<J)(jk:∀n o,(n,some o)∈kn->h0.get n=some o)(jq:∀p∈kn,p.1<top)(a3:∀n∈ns,∃o p,h.get n=some o/\h0.get n=some p/\oh J o p=true)(V:zP J ρ h L):Rel (tg B ρ w<|wH ρ cU L) (eU J ρ L) (fR<|kn++aW (JD L)) w:=by
 have r0:=Di ht r dJ eD a3;obtain⟨t1,t2⟩:=T;have ue:(gh J ρ).le<|eU J ρ L:=by
  intro m x e;unfold gh at e;split at e
  ·rename_i q;rw[CG q];exact e
  ·unfold gk at e;split at e
   ·rename_i q;rw[yG ht q];exact e
   ·cases e
 have BW:∀m o,(m,o)∈JD L->∃p∈L,p.1=m/\p.2.2=o:=fun m o hm=>by
  obtain⟨p,hp,e⟩:=List.mem_map.1 hm;injection e with e1 e2
  exact⟨p,hp,e1,e2⟩
 have cL:∀p∈kn++aW (JD L),p.1<top:=fun p hp=>by
  rcases List.mem_append.1 hp with hp|hp
  ·exact jq p hp
  ·refine Mq (fun q hq=>?_) p hp;obtain⟨p,hp,e1,_⟩:=BW q.1 q.2 hq;rw[←e1];exact(V.nm p hp).2.1
 have ak:∀m o,(fR<|kn++aW (JD L)).get m=some o->(m∈ns/\h0.get m=some o/\o.mD=true)\/∃p∈L,p.1=m/\p.2.2=o:=fun m o hg=>by
  rcases List.mem_append.1 (uE cL hg) with q|q
  ·have q2:=jk m o q;have iq:=dJ m o (jq _ q) q2;obtain⟨p1,p2,_,c3,c4⟩:=a3 m iq;rw[q2] at c3;cases c3;refine .inl ⟨iq,q2,?_⟩;unfold oh at c4;split at c4<;>first|rfl|cases c4
  ·exact .inr<|BW m o<|Mi q
 have tE:∀p∈L,p.2.2.dh=false->∃o,h.get p.2.1=some o/\o.dh=false:=fun p hp e=>by
  obtain⟨o,g1,⟨g2,_⟩|⟨k,v,_,g2⟩⟩:=V.is p hp
  ·exact⟨o,g1,(ae.uA g2).2⟩
  ·rw[g2] at e;cases e
 have rB:∀p∈L,p.2.2.kJ=true->∃k v,h.get p.2.1=some (.tok k v)/\p.2.2= .tok k v:=fun p hp e=>by
  obtain⟨o,g1,⟨_,g2,_⟩|⟨k,v,rfl,g2⟩⟩:=V.is p hp
  ·generalize p.2.2=q at e g2;cases q<;>first|(cases e;done)|cases g2
  ·exact⟨k,v,g1,g2⟩
 have aeM:∀p∈L,p.2.2.mD=true->False:=fun p hp e=>by
  obtain⟨o,g1,⟨_,g2,_⟩|⟨k,v,_,g2⟩⟩:=V.is p hp
  ·generalize p.2.2=q at e g2;cases q<;>first|(cases e;done)|cases g2
  ·rw[g2] at e;cases e
 have Qu:∀m N x,m∈ns->eU J ρ L m=some (x,N)->x<B.lim/\¬wH ρ cU L x:=fun m N x q1 e=>by
  rw[CG<|eD m q1] at e;obtain⟨p1,p2,c2,c3,c4⟩:=a3 m q1;have j8:m<top:=Nat.lt_of_lt_of_le (eD m q1) ht;obtain⟨b',N',e1,e2⟩:=r.tk.1.2 m p1 j8 c2<|Ho c4;rw[e] at e1;cases e1;refine⟨e2,?_⟩;rintro (⟨p,hp,ho,M,e3⟩|⟨p,hp,ho,e3⟩)
  ·obtain⟨o,g1,g2⟩:=tE p hp ho;have:=r.one m p.2.1 p1 o x N M j8 (V.nm p hp).2.2 c2 g1 (.inr g2) e e3;rw[←this,c2] at g1;cases g1;rw[ae.kg<|Ho c4] at g2;cases g2
  ·obtain⟨k,v,g1,_⟩:=rB p hp ho;obtain⟨_,_,_,_,_,f⟩:=t1 _ k v (V.nm p hp).2.2 g1;have:=(f x e3).1.2;omega
 have aeN:∀j x sh,ρ (hn j x sh)≠none->¬wH ρ cU L x:=fun j x sh e=>by
  obtain⟨_,_,_,_,_,_,_,z3,_⟩:=r.fz j x sh e;rintro (⟨p,hp,ho,M,e3⟩|⟨p,hp,ho,e3⟩)
  ·obtain⟨o,g1,g2⟩:=tE p hp ho;exact z3 p.2.1 o M (V.nm p hp).2.2 g1 g2 e3
  ·obtain⟨k,v,g1,_⟩:=rB p hp ho;obtain⟨_,_,_,_,_,f⟩:=t1 _ k v (V.nm p hp).2.2 g1;exact e<|(f x e3).2.2.2 j sh
 refine⟨fun m o hm hg=>?_,fun m n o p x N M hm fw hg kS cP e1 e2=>?_,fun m i es ex left cur hm hg=>?_,fun x hx=>.inl hx,fun i j m es ex left cur gX iS iF iH hi _ hg _=>?_,fun j x sh e=>?_,?_⟩
 ·rcases ak m o hg with⟨q1,q3,q4⟩|⟨p,hp,rfl,rfl⟩
  ·obtain⟨b',N',o',e1,e2,e3,_⟩:=r0.is m o hm q3;exact⟨b',N',o',ue _ _ e1,e2,e3.mono ue,fun z=>by rw[ae.kg q4] at z;cases z⟩
  ·obtain⟨o,g1,g2⟩:=V.is p hp;obtain⟨b',N',o',e1,e2,e3,_⟩:=r.is p.2.1 o (V.nm p hp).2.2 g1;rcases g2 with⟨_,_,g3⟩|⟨k,v,_,g3⟩
   ·exact⟨b',N',o',(V.vX hp).trans e1,e2,g3 _ _ e3,fun z=>.inr<|.inl ⟨p,hp,z,N',e1⟩⟩
   ·rw[g3];exact⟨b',N',o',(V.vX hp).trans e1,e2,trivial,fun z=>by cases z⟩
 ·rcases ak m o hg with⟨q1,q3,q4⟩|⟨p1,iW,rfl,rfl⟩
  ·rcases ak n p kS with⟨z1,z3,z4⟩|⟨p2,fe,rfl,rfl⟩
   ·rcases cP with y|y
    ·rw[ae.kg q4] at y;cases y
    ·rw[ae.kg z4] at y;cases y
   ·rw[V.vX fe] at e2;rcases cP with y|y
    ·rw[ae.kg q4] at y;cases y
    ·exact absurd (.inl ⟨p2,fe,y,M,e2⟩) (Qu m N x q1 e1).2
  ·rw[V.vX iW] at e1;rcases ak n p kS with⟨z1,z3,z4⟩|⟨p2,fe,rfl,rfl⟩
   ·rcases cP with y|y
    ·exact absurd (.inl ⟨p1,iW,y,N,e1⟩) (Qu n M x z1 e2).2
    ·rw[ae.kg z4] at y;cases y
   ·rw[V.vX fe] at e2;obtain⟨o1,g1,_⟩:=V.is p1 iW;obtain⟨o2,f1,_⟩:=V.is p2 fe;have ahI:o1.dh=false\/o2.dh=false:=cP.imp (fun y=>by
     obtain⟨o,k1,k2⟩:=tE p1 iW y;rw[g1] at k1;cases k1;exact k2) (fun y=>by
     obtain⟨o,k1,k2⟩:=tE p2 fe y;rw[f1] at k1;cases k1;exact k2)
    have:=r.one p1.2.1 p2.2.1 o1 o2 x N M (V.nm p1 iW).2.2 (V.nm p2 fe).2.2 g1 f1 ahI e1 e2;rw[V.inj p1 iW p2 fe this]
 ·rcases ak m _ hg with⟨_,_,q4⟩|⟨p,hp,_,e⟩
  ·cases q4
  ·obtain⟨_,_,⟨_,g2,_⟩|⟨k,v,_,g2⟩⟩:=V.is p hp
   ·rw[e] at g2;cases g2
   ·rw[e] at g2;cases g2
 ·rcases ak i _ hg with⟨_,_,q4⟩|⟨p,hp,_,e⟩
  ·cases q4
  ·obtain⟨_,_,⟨_,g2,_⟩|⟨k,v,_,g2⟩⟩:=V.is p hp
   ·rw[e] at g2;cases g2
   ·rw[e] at g2;cases g2
 ·rw[yG ht<|gb _ _ _] at e;obtain⟨g0,l,c,e',fr,g1,g2,g3,g4⟩:=r0.fz j x sh (by rw[su ht<|gb _ _ _];exact e);refine⟨.inl e,l,c,e',fr,g1,g2,fun m o N hm hg ct hr=>?_,fun i y hy=>?_⟩
  ·rcases ak m o hg with⟨_,_,q4⟩|⟨p,hp,rfl,rfl⟩
   ·rw[ae.kg q4] at ct;cases ct
   ·rw[V.vX hp] at hr;exact aeN j x sh e<|.inl ⟨p,hp,ct,N,hr⟩
  ·obtain⟨v',k1,k2,k3⟩:=g4 i y hy;refine⟨v',k1,VR.mono (fun i z q=>?_) _ _ k2,k3⟩;unfold gk at q ⊢;split at q
   ·rename_i hk;rw[if_pos hk];exact ue _ _ q
   ·cases q
 ·let H':Nat->Nat->Prop:=fun m x=>∃p∈L,p.1=m/\cU p.2.1 x;have Qv:∀p∈L,H' p.1=cU p.2.1:=fun p hp=>funext fun x=>propext ⟨fun⟨q,hq,e1,e2⟩=>by rw[V.fn q hq p hp e1] at e2;exact e2,fun e=>⟨p,hp,rfl,e⟩⟩;refine⟨⟨r.tk.1.1,fun m o hm hg hf=>?_⟩,H',fun m k' v' hm hg=>?_,fun m n x k' v' KK vT hm fw hg kS cf iV pO=>?_⟩
  ·rcases ak m o hg with⟨q1,q3,q4⟩|⟨p,hp,rfl,rfl⟩
   ·obtain⟨b',N',o',e1,e2,e3,_⟩:=r0.is m o hm q3;exact⟨b',N',ue _ _ e1,(Qu m N' b' q1<|ue _ _ e1).1⟩
   ·exact(aeM p hp hf).elim
  ·rcases ak m _ hg with⟨_,_,q4⟩|⟨p,hp,rfl,e⟩
   ·cases q4
   ·obtain⟨k,v,g1,g2⟩:=rB p hp (by rw[e];rfl);rw[e] at g2;cases g2;obtain⟨b,N,f1,f2,f3,f4⟩:=t1 _ _ _ (V.nm p hp).2.2 g1;refine⟨b,N,(V.vX hp).trans f1,?_,by rw[Qv p hp];exact f3,fun x hx=>?_⟩
    ·rw[Qv p hp];exact B.mono f2 (fun i y hi q=>by rw[yG ht hi];exact q) fun _ _=>rfl
    ·rw[Qv p hp] at hx;obtain⟨c1,c2,c3,c4⟩:=f4 x hx;refine⟨c1,.inr<|.inr ⟨p,hp,by rw[e];rfl,hx⟩,fun n o N fw kS ct hr=>?_,fun j sh=>by rw[yG ht<|gb _ _ _];exact c4 j sh⟩;rcases ak n o kS with⟨_,_,q4⟩|⟨p2,fe,rfl,rfl⟩
     ·rw[ae.kg q4] at ct;cases ct
     ·rw[V.vX fe] at hr;obtain⟨o2,k1,k2⟩:=tE p2 fe ct;exact c3 p2.2.1 o2 N (V.nm p2 fe).2.2 k1 k2 hr
  ·obtain⟨p1,iW,y1,z1⟩:=iV;obtain⟨p2,fe,y2,z2⟩:=pO;rcases ak m _ hg with⟨_,_,q4⟩|⟨q1,Kv,e1,e2⟩
   ·cases q4
   ·rcases ak n _ kS with⟨_,_,q4⟩|⟨q2,GC,e3,e4⟩
    ·cases q4
    ·have:=V.fn p1 iW q1 Kv<|y1.trans e1.symm;subst this;have:=V.fn p2 fe q2 GC<|y2.trans e3.symm;subst this;obtain⟨k1,v1,g1,_⟩:=rB p1 iW (by rw[e2];rfl);obtain⟨k2,v2,g2,_⟩:=rB p2 fe (by rw[e4];rfl);exact t2 _ _ x _ _ _ _ (V.nm p1 iW).2.2 (V.nm p2 fe).2.2 g1 g2 (fun q=>cf<|by rw[←y1, ←y2,V.inj p1 iW p2 fe q]) z1 z2
end Go.Rn
namespace Go.Rn
open Go.RowKit
theorem I0{J a:Nat}{B:aJ}{ρ σ:Ren}{w w':World}{h h4 h':Tr ae}{L:Vw}{L2:List<|Nat×ae}{cU:Nat->Nat->Prop}(r:Rel B ρ h w)(T:DG B ρ h w cU)(V:zP J ρ h L)(q3:Rel (tg B ρ w<|wH ρ cU L) σ h4 w')(q4:cx (tg B ρ w<|wH ρ cU L) w w')(ow:∀p∈L,σ p.1=ρ p.2.1)(yf:∀m x,top<=m->ρ m=some x->σ m=some x)(h2:∀n q,(n,q)∈L2->∃p∈L,p.2.1=n/\∃o1,h4.get p.1=some o1/\((q.own=true/\p.2.2.own=true/\∀N o',OR σ N o1 o'->OR (cC ρ σ) N q o')\/∃k v v0,o1= .tok k v/\q= .tok k v/\p.2.2= .tok k v0))(h3:∀p∈L,p.2.2.dh=false->∃o1,h4.get p.1=some o1/\o1.dh=false)(hh:∀k,k<top->(∃q,(k,q)∈L2/\h'.get k=some q)\/((∀q∈L,q.2.1≠k)/\h'.get k=h.get k)):
 Ext a a ρ (cC ρ σ)/\jg σ (cC ρ σ)/\Rel B (cC ρ σ) h' w'/\cx B w w':=by
 obtain⟨t1,t2⟩:=T;have hl:ρ.le<|cC ρ σ:=by
  intro k x e;unfold cC;by_cases hk:top<=k
  ·rw[if_pos hk];exact yf k x hk e
  ·rw[if_neg hk];exact e
 have cL:∀k,k<top->cC ρ σ k=ρ k:=fun k hk=>by unfold cC;rw[if_neg aj]
 have gG:∀k,top<=k->cC ρ σ k=σ k:=fun k hk=>by unfold cC;rw[if_pos hk]
 have tE:∀p∈L,p.2.2.dh=false->∃o,h.get p.2.1=some o/\o.dh=false/\o.own=true:=fun p hp e=>by
  obtain⟨o,g1,⟨g2,_⟩|⟨k,v,_,g2⟩⟩:=V.is p hp
  ·exact⟨o,g1,(ae.uA g2).2,g2⟩
  ·rw[g2] at e;cases e
 have rB:∀p∈L,p.2.2.kJ=true->∃k v,h.get p.2.1=some (.tok k v)/\p.2.2= .tok k v:=fun p hp e=>by
  obtain⟨o,g1,⟨_,g2,_⟩|⟨k,v,rfl,g2⟩⟩:=V.is p hp
  ·generalize p.2.2=q at e g2;cases q<;>first|(cases e;done)|cases g2
  ·exact⟨k,v,g1,g2⟩
 have pF:∀x,wH ρ cU L x->B.may x:=fun x hx=>by
  rcases hx with⟨p,hp,ho,N,e⟩|⟨p,hp,ho,e⟩
  ·obtain⟨o,g1,g2,_⟩:=tE p hp ho;obtain⟨x1,N1,_,e1,_,_,e3⟩:=r.is p.2.1 o (V.nm p hp).2.2 g1;rw[e] at e1;cases e1;exact e3 g2
  ·obtain⟨k,v,g1,_⟩:=rB p hp ho;obtain⟨_,_,_,_,_,f⟩:=t1 _ k v (V.nm p hp).2.2 g1;exact(f x e).2.1
 have Bm:cx B w w':=⟨q4.os,q4.tape,q4.output,q4.size,fun x hx hm=>q4.block x hx fun z=>by
  rcases z with z|z
  ·have z:w.heap.size<=x:=z;omega
  ·exact hm<|pF x z⟩
 have mF:∀x,x<w.heap.size->¬wH ρ cU L x->w'.heap[x]? =w.heap[x]? :=fun x hx hm=>q4.block x hx fun z=>by
  rcases z with z|z
  ·have z:w.heap.size<=x:=z;omega
  ·exact hm z
 have cs:∀m o,m<top->h'.get m=some o->(∃p∈L,p.2.1=m/\∃o1,h4.get p.1=some o1/\((o.own=true/\p.2.2.own=true/\∀N o',OR σ N o1 o'->OR (cC ρ σ) N o o')\/∃k v v0,o1= .tok k v/\o= .tok k v/\p.2.2= .tok k v0))\/((∀q∈L,q.2.1≠m)/\h.get m=some o):=fun m o hm ho=>by
  rcases hh m hm with⟨q,e1,e2⟩|⟨e1,e2⟩
  ·rw[ho] at e2;cases e2;exact .inl<|h2 m o e1
  ·exact .inr ⟨e1,by rw[←e2];exact ho⟩
 have dv:∀m o,m<top->h'.get m=some o->∃q,h.get m=some q/\(o.dh=false->q.dh=false):=fun m o hm ho=>by
  rcases cs m o hm ho with⟨p,hp,rfl,o1,g1,⟨y1,y2,_⟩|⟨k,v,v0,_,y1,_⟩⟩|⟨_,e⟩
  ·obtain⟨q,g1,g2,_⟩:=tE p hp (ae.uA y2).2;exact⟨q,g1,fun _=>g2⟩
  ·obtain⟨q,g1,_⟩:=V.is p hp;exact⟨q,g1,fun z=>by rw[y1] at z;cases z⟩
  ·exact⟨o,e,id⟩
 have other:∀m o x M,m<top->(∀q∈L,q.2.1≠m)->h.get m=some o->ρ m=some (x,M)->¬wH ρ cU L x:=fun m o x M hm cf ho e=>by
  rintro (⟨p,hp,iW,N,e1⟩|⟨p,hp,iW,e1⟩)
  ·obtain⟨q,g1,g2,_⟩:=tE p hp iW;exact cf p hp<|r.one p.2.1 m q o x N M (V.nm p hp).2.2 hm g1 ho (.inl g2) e1 e
  ·obtain⟨k,v,g1,_⟩:=rB p hp iW;obtain⟨_,_,_,_,_,f⟩:=t1 _ k v (V.nm p hp).2.2 g1;obtain⟨⟨_,c1⟩,_,c3,_⟩:=f x e1;cases ct:o.dh with
   |false=>exact c3 m o M hm ho ct e
   |true=>
    by_cases hf:o.mD=true
    ·obtain⟨b',N',k1,k2⟩:=r.tk.1.2 m o hm ho hf;rw[e] at k1;cases k1;omega
    ·cases o<;>first|(cases ct;done)|(exact hf rfl)|skip
     rename_i k' vT;obtain⟨b',N',k1,_,k3,_⟩:=t1 m k' vT hm ho;rw[e] at k1;cases k1;exact t2 _ m x k v k' vT (V.nm p hp).2.2 hm g1 ho (cf p hp) e1 k3
 have rQ:∀x,jY ρ h x->jY (cC ρ σ) h' x:=fun x hn m o M hm ho ct e=>by obtain⟨q,g1,g2⟩:=dv m o hm ho;rw[cL m hm] at e;exact hn m q M hm g1 (g2 ct) e
 have zo:∀x,w.heap.size<=x->jY (cC ρ σ) h' x:=fun x hx m o M hm ho ct e=>by obtain⟨q,g1,_⟩:=dv m o hm ho;rw[cL m hm] at e;obtain⟨b1,N1,o1,e1,e2,_⟩:=r.is m q hm g1;rw[e] at e1;cases e1;have:=hZ e2;omega
 have af2:∀p∈L,∀o,h.get p.2.1=some o->o.own=true\/o.kJ=true:=fun p hp o ho=>by
  obtain⟨q,g1,⟨g2,_⟩|⟨k,v,g2,_⟩⟩:=V.is p hp
  ·rw[ho] at g1;cases g1;exact .inl g2
  ·rw[ho,g2] at g1;cases g1;exact .inr rfl
 have VP:∀i,h.get i=some .iw->∀q∈L,q.2.1≠i:=fun i e q hq z=>by rcases af2 q hq .iw (by rw[z];exact e) with y|y<;>cases y
 obtain⟨⟨_,_⟩,Hq,s1,s2⟩:=q3.tk;refine⟨⟨hl,fun k hk _=>cL k hk⟩,fun k x hk e=>by rw[gG k hk];exact e,⟨fun m o hm ho=>?_,fun m m2 o p x M M2 hm cN ho hp cP e1 e2=>?_,fun m i es ex left cur hm ho=>?_,fun x hx=>r.size x<|Nat.le_trans q4.size hx,fun i j m es ex left cur gX iS iF iH hi hj ho hp=>?_,fun j x sh e=>?_,?_⟩,Bm⟩
 ·rcases cs m o hm ho with⟨p,hp,rfl,o1,g1,⟨y1,y2,g2⟩|⟨k,v,v0,y1,y2,y3⟩⟩|⟨cf,e⟩
  ·obtain⟨b1,N1,o',e1,e2,e3,_⟩:=q3.is p.1 o1 (V.nm p hp).2.1 g1;rw[ow p hp] at e1;exact⟨b1,N1,o',(cL _ hm).trans e1,e2,g2 _ _ e3,fun _=>pF b1<|.inl ⟨p,hp,(ae.uA y2).2,N1,e1⟩⟩
  ·obtain⟨b1,N1,o',e1,e2,e3,_⟩:=q3.is p.1 o1 (V.nm p hp).2.1 g1;rw[ow p hp] at e1;rw[y2];exact⟨b1,N1,o',(cL _ hm).trans e1,e2,trivial,fun z=>by cases z⟩
  ·obtain⟨b1,N1,o1,e1,e2,e3,e4⟩:=r.is m o hm e;exact⟨b1,N1,o1,(cL m hm).trans e1,(mF b1 (hZ e2)<|other m o b1 N1 hm cf e e1).trans e2,e3.mono hl,e4⟩
 ·rw[cL m hm] at e1;rw[cL m2 cN] at e2;obtain⟨o1,a1,a2⟩:=dv m o hm ho;obtain⟨o2,a3,a4⟩:=dv m2 p cN hp;exact r.one m m2 o1 o2 x M M2 hm cN a1 a3 (cP.imp a2 a4) e1 e2
 ·rcases cs m _ hm ho with⟨p,hp,_,_,_,⟨y1,_⟩|⟨k,v,v0,_,y2,_⟩⟩|⟨cf,e⟩
  ·cases y1
  ·cases y2
  ·obtain⟨hi,fu,b1,N1,bm,M,l,bp,seen,u1,u2,u3,u4,u5⟩:=r.iter m i es ex left cur hm e;have u:mN ρ w' m i es ex left cur:=⟨b1,N1,bm,M,l,bp,seen,u1,u2,(mF b1 (hZ u3)<|other m _ b1 N1 hm cf e u1).trans u3,(mF bm (hZ u4)<|other i _ bm M hi (VP i fu) fu u2).trans u4,u5⟩;refine⟨hi,?_,u.mono hl⟩;rcases hh i hi with⟨q,f1,f2⟩|⟨_,f2⟩
   ·obtain⟨p,hp,f3,_⟩:=h2 i q f1;exact absurd f3<|VP i fu p hp
   ·rw[f2];exact fu
 ·rcases cs i _ hi ho with⟨p,hp,_,_,_,⟨y1,_⟩|⟨k,v,v0,_,y2,_⟩⟩|⟨_,e⟩
  ·cases y1
  ·cases y2
  ·rcases cs j _ hj hp with⟨p,hp,_,_,_,⟨y1,_⟩|⟨k,v,v0,_,y2,_⟩⟩|⟨_,e'⟩
   ·cases y1
   ·cases y2
   ·exact r.lone i j m es ex left cur gX iS iF iH hi hj e e'
 ·rw[gG _<|gb _ _ _] at e;obtain⟨g0,l,c,e',fr,g1,g2,gn,g4⟩:=q3.fz j x sh e;have mz:∀i y,l[i]? =some y->∃v,c[sh+i]? =some v/\VR (gk<|cC ρ σ) y v/\y.bQ=true:=fun i y hy=>by
   obtain⟨v,k1,k2,k3⟩:=g4 i y hy;refine⟨v,k1,VR.mono (fun z u q=>?_) _ _ k2,k3⟩;unfold gk at q ⊢;split at q
   ·rename_i hk;rw[if_pos hk,gG z hk];exact q
   ·cases q
  by_cases q:ρ (hn j x sh)≠none
  ·obtain⟨z0,l',c',e2,gq,z1,z2,z3,_⟩:=r.fz j x sh q;exact⟨z0,l,c,e',fr,g1,g2,rQ x z3,mz⟩
  ·rcases g0.resolve_left q with z|z
   ·have z:w.heap.size<=x:=z;exact⟨.inr<|r.size x z,l,c,e',fr,g1,g2,zo x z,mz⟩
   ·refine⟨.inr<|pF x z,l,c,e',fr,g1,g2,?_,mz⟩;rcases z with⟨p,hp,ho,N,e1⟩|⟨p,hp,ho,e1⟩
    ·obtain⟨o1,f1,f2⟩:=h3 p hp ho;exact absurd ((ow p hp).trans e1)<|gn p.1 o1 N (V.nm p hp).2.1 f1 f2
    ·obtain⟨k,v,k1,_⟩:=rB p hp ho;obtain⟨_,_,_,_,_,f⟩:=t1 _ k v (V.nm p hp).2.2 k1;exact rQ x (f x e1).2.2.1
 ·let H':Nat->Nat->Prop:=fun m x=>(∃p∈L,p.2.1=m/\Hq p.1 x)\/((∀p∈L,p.2.1≠m)/\cU m x);have Ea:∀p∈L,H' p.2.1=Hq p.1:=fun p hp=>funext fun x=>propext ⟨fun z=>by
   rcases z with⟨q,hq,e1,e2⟩|⟨e1,_⟩
   ·rw[V.inj q hq p hp e1] at e2;exact e2
   ·exact absurd rfl<|e1 p hp,fun z=>.inl ⟨p,hp,rfl,z⟩⟩
  have Eb:∀m,(∀p∈L,p.2.1≠m)->H' m=cU m:=fun m hm=>funext fun x=>propext ⟨fun z=>by
   rcases z with⟨q,hq,e1,_⟩|⟨_,z⟩
   ·exact absurd e1 (hm q hq)
   ·exact z,fun z=>.inr ⟨hm,z⟩⟩
  have BX:∀p∈L,∀k v,h4.get p.1=some (.tok k v)->∀x,Hq p.1 x->x<w'.heap.size/\(w.heap.size<=x\/wH ρ cU L x)/\∀j sh,σ (hn j x sh)=none:=fun p hp k v hg x hx=>by obtain⟨_,_,_,_,_,f⟩:=s1 p.1 k v (V.nm p hp).2.1 hg;obtain⟨⟨c1,_⟩,c2,_,c4⟩:=f x hx;exact⟨c1,c2,c4⟩
  have JF:∀m k v,m<top->h'.get m=some (.tok k v)->(∃p∈L,p.2.1=m/\h4.get p.1=some (.tok k v)/\∃v0,p.2.2= .tok k v0)\/((∀q∈L,q.2.1≠m)/\h.get m=some (.tok k v)):=fun m k v hm ho=>by
   rcases cs m _ hm ho with⟨p,hp,e0,o1,g1,⟨y1,_⟩|⟨k',v',v0,y1,y2,y3⟩⟩|z
   ·cases y1
   ·cases y2;exact .inl ⟨p,hp,e0,by rw[g1,y1],v0,y3⟩
   ·exact .inr z
  have sep:∀m k v,m<top->(∀q∈L,q.2.1≠m)->h.get m=some (.tok k v)->∀x,cU m x->(w.heap.size<=x\/wH ρ cU L x)->False:=fun m k1 v1 hm cf hg x hx z=>by
   obtain⟨_,_,_,_,_,f4⟩:=t1 m k1 v1 hm hg;rcases z with z|⟨p,hp,B0,N,e1⟩|⟨p,hp,B0,e1⟩
   ·have:=(f4 x hx).1.1;omega
   ·obtain⟨q,g1,g2,_⟩:=tE p hp B0;exact(f4 x hx).2.2.1 p.2.1 q N (V.nm p hp).2.2 g1 g2 e1
   ·obtain⟨k,v,g1,_⟩:=rB p hp B0;exact t2 _ m x k v k1 v1 (V.nm p hp).2.2 hm g1 hg (cf p hp) e1 hx
  refine⟨⟨Nat.le_trans r.tk.1.1 q4.size,fun m o hm ho hf=>?_⟩,H',fun m k1 v1 hm ho=>?_,fun m m2 x k1 v1 k2 v2 hm cN ho hp cf z1 z2=>?_⟩
  ·rcases cs m o hm ho with⟨p,hp,_,_,_,⟨y1,_⟩|⟨k,v,v0,_,y2,_⟩⟩|⟨_,e⟩
   ·cases o<;>first|(cases hf;done)|cases y1
   ·rw[y2] at hf;cases hf
   ·obtain⟨b1,N1,e1,e2⟩:=r.tk.1.2 m o hm e hf;exact⟨b1,N1,(cL m hm).trans e1,e2⟩
  ·rcases JF m k1 v1 hm ho with⟨p,hp,rfl,hg,v0,XD⟩|⟨cf,hg⟩
   ·obtain⟨b1,N1,f1,f2,f3,f4⟩:=s1 p.1 k1 v1 (V.nm p hp).2.1 hg;have hpt:p.2.2.kJ=true:=by rw[XD];rfl
    refine⟨b1,N1,(cL _ hm).trans<|(ow p hp).symm.trans f1,?_,by rw[Ea p hp];exact f3,fun x hx=>?_⟩
    ·rw[Ea p hp];exact B.mono f2 (fun i y hi q=>by rw[gG i hi];exact q) fun _ _=>rfl
    ·rw[Ea p hp] at hx;obtain⟨c1,c2,c4⟩:=BX p hp k1 v1 hg x hx;obtain⟨⟨_,ahJ⟩,_,c3,_⟩:=f4 x hx;refine⟨⟨c1,ahJ⟩,?_,?_,fun j sh=>by rw[gG _<|gb _ _ _];exact c4 j sh⟩
     ·rcases c2 with y|y
      ·exact r.size x y
      ·exact pF x y
     ·rcases c2 with y|y
      ·exact zo x y
      ·rcases y with⟨p2,fe,Qw,N2,e2⟩|⟨p2,fe,Qw,e2⟩
       ·obtain⟨o1,k1',k2'⟩:=h3 p2 fe Qw;exact absurd ((ow p2 fe).trans e2)<|c3 p2.1 o1 N2 (V.nm p2 fe).2.1 k1' k2'
       ·obtain⟨k,v,g1,_⟩:=rB p2 fe Qw;obtain⟨_,_,_,_,_,f⟩:=t1 _ k v (V.nm p2 fe).2.2 g1;exact rQ x (f x e2).2.2.1
   ·obtain⟨b1,N1,f1,f2,f3,f4⟩:=t1 m k1 v1 hm hg;have WD:∀x,cU m x->¬wH ρ cU L x:=fun x hx z=>by
     rcases z with⟨p,hp,B0,N,e1⟩|⟨p,hp,B0,e1⟩
     ·obtain⟨q,g1,g2,_⟩:=tE p hp B0;exact(f4 x hx).2.2.1 p.2.1 q N (V.nm p hp).2.2 g1 g2 e1
     ·obtain⟨k,v,g1,_⟩:=rB p hp B0;exact t2 _ m x k v k1 v1 (V.nm p hp).2.2 hm g1 hg (cf p hp) e1 hx
    refine⟨b1,N1,(cL m hm).trans f1,?_,by rw[Eb m cf];exact f3,fun x hx=>?_⟩
    ·rw[Eb m cf];exact B.mono f2 (fun i y _ e=>hl _ _ e) fun x hx=>mF x (f4 x hx).1.1<|WD x hx
    ·rw[Eb m cf] at hx;obtain⟨⟨c1,cl⟩,c2,c3,c4⟩:=f4 x hx;refine⟨⟨Nat.lt_of_lt_of_le c1 q4.size,cl⟩,c2,rQ x c3,fun j sh=>Classical.byContradiction fun z=>?_⟩;rw[gG _<|gb _ _ _] at z;rcases(q3.fz j x sh z).1 with y|y
     ·exact y<|c4 j sh
     ·rcases y with y|y
      ·have y:w.heap.size<=x:=y;omega
      ·exact WD x hx y
  ·rcases JF m k1 v1 hm ho with⟨p1,iW,rfl,hg,v0,XD⟩|⟨DH,hg⟩
   ·rw[Ea p1 iW] at z1;obtain⟨c1,c2,_⟩:=BX p1 iW k1 v1 hg x z1;rcases JF m2 k2 v2 cN hp with⟨p2,fe,rfl,B1,v02,ahK⟩|⟨J7,B1⟩
    ·rw[Ea p2 fe] at z2;exact s2 p1.1 p2.1 x k1 v1 k2 v2 (V.nm p1 iW).2.1 (V.nm p2 fe).2.1 hg B1 (fun q=>cf<|by rw[V.fn p1 iW p2 fe q]) z1 z2
    ·rw[Eb m2 J7] at z2;exact sep m2 k2 v2 cN J7 B1 x z2 c2
   ·rw[Eb m DH] at z1;rcases JF m2 k2 v2 cN hp with⟨p2,fe,rfl,B1,v02,ahK⟩|⟨J7,B1⟩
    ·rw[Ea p2 fe] at z2;exact sep m k1 v1 hm DH hg x z1 (BX p2 fe k2 v2 B1 x z2).2.1
    ·rw[Eb m2 J7] at z2;exact t2 m m2 x k1 v1 k2 v2 hm cN hg B1 cf z1 z2
end Go.Rn
namespace Go.Rn
open Go.RowKit
variable {ρ σ:Ren} {β:Type} {o:ae} {v:AV} {s1 s:AS} {o':Obj} {c:Prop} {N:Nat}
structure Cb where
 fn:FuncId
 nt:Nat
 ps:List Tmp
 a:Code
 b:Code
 s1:Nat
 s2:Nat
structure fx where
 ret:Bool
 v1:AV
 v2:AV
 bL:Option Code
noncomputable section
def y8:ae->Option AV
 | .cells 1 t z=>cellAt t z 0
 |_=>none
def eH(v:AV):ae:=.cells 1 (Tr.fill [v] 0 .nil) []
def af3(p:Option Code):LoopState:=match p with
 |none=>.ready
 |some _=>.done
def Cb.loop(K:Cb)(bL:Option Code)(c1 c2 df:Nat):ae:=.loop (af3 bL) bL K.fn (aE [(K.s1,.ptr<|some (c1,0)),(K.s2,.ptr<|some (c2,0))]) K.nt K.ps K.a K.b df
def Dk(v:Option AV):Option Nat:=match v with
 |some (.ptr (some (c,0)))=>some c
 |_=>none
open Classical in
def iG(c:Prop)(m:M β):M β:=aG (decide c) m
structure VQ where
 fn:FuncId
 t:Tr AV
 nt:Nat
 ps:List Tmp
 a:Code
 b:Code
 df:Nat
def JG:ae->Option VQ
 | .loop .ready none fn t nt ps a b df=>some ⟨fn,t,nt,ps,a,b,df⟩
 |_=>none
def Gj(K:Cb)(val:AV->AV->AV->Option fx)(x:AV)(L:Nat):M AV:=
 (bt L).bind fun o=>aB (JG o) fun q=>
 iG (q.fn=K.fn/\q.nt=K.nt/\q.ps=K.ps/\q.a=K.a/\q.b=K.b) <|
 aB (Dk<|q.t.get K.s1) fun c1=>aB (Dk<|q.t.get K.s2) fun c2=>
 iG (L≠q.df/\L≠c1/\L≠c2/\q.df≠c1/\q.df≠c2/\c1≠c2) <|
 (bt q.df).bind fun od=>iG (od= .defs) <| (bt c1).bind fun o1=>(bt c2).bind fun o2=>
 aB (y8 o1) fun v1=>aB (y8 o2) fun v2=>aB (val x v1 v2) fun p=>
 iG (v1.hi=true/\v2.hi=true/\p.v1.hi=true/\p.v2.hi=true/\p.v1.bQ=true/\p.v2.bQ=true/\v1.bQ=true/\v2.bQ=true) <|
 (bJ L<|some<|K.loop p.bL c1 c2 q.df).bind fun _=>(bJ q.df<|some .defs).bind fun _=>(bJ c1<|some<|eH p.v1).bind fun _=>(bJ c2<|some<|eH p.v2).bind fun _=>M.pure<|.bool p.ret
def qJ(K:Cb)(val:AV->AV->AV->Option fx)(J:Nat)(ns:List Nat)(h0:Tr ae):aK->List AV->M AV:=fun _ args=>match args with
 |[x,.yield L]=>aG x.hi <| (fG J h0 ns).bind fun _=>Gj K val x L
 |_=>fail
end
open Classical in
theorem wA{m:M β}{b:β}(h:iG c m s= .ok b s1):c/\m s= .ok b s1:=by unfold iG at h;obtain⟨h1,h2⟩:=cV h;exact⟨of_decide_eq_true h1,h2⟩
theorem wE{m:M β}(h:c):iG c m=m:=by unfold iG;simp only[h,decide_true];rfl
theorem Yv.iG{β:Type}{c:Prop}{m:M β}(h:Yv m):Yv<|iG c m:=Yv.aG fun _=>h
theorem Yv.qJ(K:Cb)(val:AV->AV->AV->Option fx)(J:Nat)(ns:List Nat)(h0:Tr ae)(Yw:aK)(args:List AV):Yv<|qJ K val J ns h0 Yw args:=by
 unfold Rn.qJ;split
 ·refine Yv.aG fun _=>Yv.bind (Yv.fG J h0 ns) fun _=>?_;unfold Gj;refine Yv.bind (Yv.bt _) fun o=>Yv.aB fun q _=>Yv.iG <| Yv.aB fun c1 _=>Yv.aB fun c2 _=>Yv.iG <| Yv.bind (Yv.bt _) fun _=>Yv.iG <| Yv.bind (Yv.bt _) fun _=>Yv.bind (Yv.bt _) fun _=>Yv.aB fun _ _=>Yv.aB fun _ _=>Yv.aB fun _ _=>Yv.iG <| Yv.bind (Yv.bJ _ _) fun _=>Yv.bind (Yv.bJ _ _) fun _=>Yv.bind (Yv.bJ _ _) fun _=>Yv.bind (Yv.bJ _ _) fun _=>Yv.pure _
 ·exact Yv.fail
theorem aaG{q:VQ}(h:JG o=some q):o= .loop .ready none q.fn q.t q.nt q.ps q.a q.b q.df:=by
 unfold JG at h;split at h
 ·injection h with h;subst h;rfl
 ·cases h
theorem SQ{v:Option AV}{c:Nat}(h:Dk v=some c):v=some (.ptr<|some (c,0)):=by
 unfold Dk at h;split at h
 ·injection h with h;subst h;rfl
 ·cases h
theorem EJ(h:y8 o=some v):∃t z,o= .cells 1 t z/\cellAt t z 0=some v:=by
 unfold y8 at h;split at h
 ·exact⟨_,_,rfl,h⟩
 ·cases h
noncomputable def rC(K:Cb)(J:Nat)(P:Program)(rs:List ResultVar)(p:fx):=Fin P rs fun y s'=>y= .bool p.ret/\s'.h.get J=some (K.loop p.bL (J+2) (J+3)<|J+1)/\s'.h.get (J+1)=some .defs/\s'.h.get (J+2)=some (eH p.v1)/\s'.h.get (J+3)=some (eH p.v2)
noncomputable def I1(K:Cb)(J:Nat)(v1 v2:AV):List<|Nat×ae:=[(J,K.loop none (J+2) (J+3)<|J+1),(J+1,.defs),(J+2,eH v1),(J+3,eH v2)]
theorem Fc(hb:y8 o=some v)(hv:v.hi=true)(h1:v.bQ=true)(hr:jg ρ σ)(h:OR ρ N o o'):OR σ N (eH v) o':=by
 obtain⟨t,z,rfl,hc⟩:=EJ hb;obtain⟨c,e,rfl,h2,h3,h4⟩:=h;obtain⟨x,v',a1,a2,a3,a4⟩:=h4 0 aj;rw[hc] at a1;cases a1;refine⟨c,e,rfl,h2,h3,fun i hi=>?_⟩;obtain rfl:i=0:=by omega
 exact⟨v,v',by rfl,h1,a3,AV.pq hr hv a4⟩
theorem wv(v:AV):y8 (eH v)=some v:=rfl
theorem NC{K:Cb}{st:LoopState}{bL:Option Code}{t:Tr AV}{c1 c2 df d1 d2 dg:Nat}(ht1:K.s1<top)(DZ:K.s2<top)(h1:t.get K.s1=some (.ptr<|some (c1,0)))(h2:t.get K.s2=some (.ptr<|some (c2,0)))(e1:∀x,ρ c1=some x->σ d1=some x)(e2:∀x,ρ c2=some x->σ d2=some x)(e3:∀x,ρ df=some x->σ dg=some x)(h:OR ρ N (.loop st bL K.fn t K.nt K.ps K.a K.b df) o'):OR σ N (.loop st bL K.fn (aE [(K.s1,.ptr<|some (d1,0)),(K.s2,.ptr<|some (d2,0))]) K.nt K.ps K.a K.b dg) o':=by
 obtain⟨a,b,M,rfl,h3,h4,h5,h6⟩:=h;refine⟨a,b,M,rfl,⟨h3.1,fun i x hx=>?_⟩,h4,e3 _ h5,h6⟩;have hm:=Cu (fun p hp=>by
  rcases List.mem_cons.1 hp with rfl|hp
  ·exact ht1
  ·rcases List.mem_cons.1 hp with rfl|hp
   ·exact DZ
   ·cases hp) hx
 rcases List.mem_cons.1 hm with hm|hm
 ·cases hm;have:=h3.2 _ _ h1;simp only[VR] at this ⊢;obtain⟨b',N',q1,q2⟩:=this;exact⟨b',N',e1 _ q1,q2⟩
 ·rcases List.mem_cons.1 hm with hm|hm
  ·cases hm;have:=h3.2 _ _ h2;simp only[VR] at this ⊢;obtain⟨b',N',q1,q2⟩:=this;exact⟨b',N',e2 _ q1,q2⟩
  ·cases hm
theorem ac1{P:Program}{B:aJ}{f J:Nat}{ns:List Nat}{h0:Tr ae}{kn:List<|Nat×Option ae}{K:Cb}{val:AV->AV->AV->Option fx}{fn:Func}{body:Code}{w:World}(hP:bR P)(cj:P.funcs[f]? =some fn)(cw:fn.body=some body)(dD:(fn.name == "runtime.NumGoroutine")=false)(fY:fI<=J)(dK:J+4<=top)(jH:K.s1<top)(kv:K.s2<top)(mH:K.s1≠K.s2)(dJ:∀n o,n<top->h0.get n=some o->n∈ns)(eD:∀n∈ns,n<J)(jk:∀n o,(n,some o)∈kn->h0.get n=some o)(jq:∀p∈kn,p.1<top)(eT:∀x v1 v2 p,val x v1 v2=some p->max fn.ntmps 2<=top/\∀B':aJ,B'.F=B.F->B'.inv=B.inv->
 au P B' (J+4) (rC K J P fn.results.toList p) ⟨f,dt [x,.yield J],max fn.ntmps 2,[.code body],[],none⟩ ⟨fR<|kn++aW (I1 K J v1 v2),J+4,0,[],[]⟩){Yw:aK}{args:List AV}{x:AV}{vs:Array Value}(r:Rel B ρ s.h w)(hg:gC ρ)(h:qJ K val J ns h0 Yw args s= .ok x s1)(hv:ay ρ args vs.toList):jf P ((callFunc f vs).run P w)<|kh B ρ s s1 w x:=by
 unfold qJ at h;split at h
 ·rename_i x0 L;obtain⟨gG,h1⟩:=cV h;obtain⟨u,s2,h2,h3⟩:=M.aN h1;obtain⟨a1,a2,a3⟩:=uw h2;unfold Gj at h3;obtain⟨o,s3,k1,h3⟩:=M.aN h3;obtain⟨q,hq,h3⟩:=bu h3;obtain⟨⟨f1,f2,f3,f4,f5⟩,h3⟩:=wA h3;obtain⟨c1,jE,h3⟩:=bu h3;obtain⟨c2,vS,h3⟩:=bu h3;obtain⟨⟨n1,n2,n3,n4,n5,n6⟩,h3⟩:=wA h3;obtain⟨od,s4,k2,h3⟩:=M.aN h3;obtain⟨hod,h3⟩:=wA h3;obtain⟨o1,s5,k3,h3⟩:=M.aN h3;obtain⟨o2,s6,k4,h3⟩:=M.aN h3;obtain⟨v1,D4,h3⟩:=bu h3;obtain⟨v2,rK,h3⟩:=bu h3;obtain⟨p,hp,h3⟩:=bu h3;obtain⟨⟨g1,g2,g3,g4,g5,g6,g7,g8⟩,h3⟩:=wA h3;obtain⟨u1,t1,w1,h3⟩:=M.aN h3;obtain⟨u2,t2,w2,h3⟩:=M.aN h3;obtain⟨u3,t3,w3,h3⟩:=M.aN h3;obtain⟨u4,t4,w4,h3⟩:=M.aN h3;obtain⟨rfl,rfl⟩:=bA h3;obtain⟨r1,r2,r3,r4⟩:=fU k1;obtain⟨r5,r6,r7,r8⟩:=fU k2;obtain⟨r9,XE,XF,r12⟩:=fU k3;obtain⟨r13,XG,r15,r16⟩:=fU k4;obtain⟨x1,x2,_,x4,x5⟩:=jv w1;obtain⟨y1,y2,_,y4,y5⟩:=jv w2;obtain⟨z1,z2,_,z4,z5⟩:=jv w3;obtain⟨m1,m2,_,m4,m5⟩:=jv w4;have XH:=aaG hq;have p1:=SQ jE;have p2:=SQ vS;obtain⟨qfn,qt,qnt,qps,qa,qb,df⟩:=q;simp only at f1 f2 f3 f4 f5 n1 n2 n3 n4 n5 n6 XH p1 p2 jE vS k2 k3 k4 w1 w2 w3 w4 y1 y2 y4 r5 r6 r7 r8 x4 hq;subst f1;subst f2;subst f3;subst f4;subst f5;subst hod;rw[XH,a1] at r2;rw[r3,a1] at r6;rw[r7,r3,a1] at XE;rw[XF,r7,r3,a1] at XG;obtain⟨tz1,zz1,bo1,_⟩:=EJ D4;obtain⟨tz2,zz2,bo2,_⟩:=EJ rK;let V:Vw:=[(J,L,K.loop none (J+2) (J+3)<|J+1),(J+1,df,.defs),(J+2,c1,eH v1),(J+3,c2,eH v2)];have mem:∀q∈V,q=(J,L,K.loop none (J+2) (J+3)<|J+1)\/q=(J+1,df,.defs)\/q=(J+2,c1,eH v1)\/q=(J+3,c2,eH v2):=fun q hq=>by simpa[V] using hq
  have e0:∀gF:Ren,eU J gF V J=gF L:=fun gF=>by
   unfold eU;rw[if_neg aj,if_neg aj];show(match gJ V J with|some n=>gF n|none=>none)=_;have:gJ V J=some L:=by simp[gJ,V]
   rw[this]
  have e1:∀gF:Ren,eU J gF V (J+1)=gF df:=fun gF=>by
   unfold eU;rw[if_neg aj,if_neg aj];show(match gJ V (J+1) with|some n=>gF n|none=>none)=_;have:gJ V (J+1)=some df:=by simp[gJ,V]
   rw[this]
  have e2:∀gF:Ren,eU J gF V (J+2)=gF c1:=fun gF=>by
   unfold eU;rw[if_neg aj,if_neg aj];show(match gJ V (J+2) with|some n=>gF n|none=>none)=_;have:gJ V (J+2)=some c1:=by simp[gJ,V]
   rw[this]
  have e3:∀gF:Ren,eU J gF V (J+3)=gF c2:=fun gF=>by
   unfold eU;rw[if_neg aj,if_neg aj];show(match gJ V (J+3) with|some n=>gF n|none=>none)=_;have:gJ V (J+3)=some c2:=by simp[gJ,V]
   rw[this]
  have hi:jg ρ<|eU J ρ V:=fun m x hm e=>by rw[yG aj hm];exact e
  have hV:zP J ρ s.h V:=by
   refine⟨fun q hq=>?_,fun q hq q' dY e=>?_,fun q hq q' dY e=>?_,fun q hq=>?_⟩
   ·rcases mem q hq with rfl|rfl|rfl|rfl
    ·exact⟨Nat.le_refl _,by omega,x2⟩
    ·exact⟨by omega,by omega,y2⟩
    ·exact⟨by omega,by omega,z2⟩
    ·exact⟨by omega,by omega,m2⟩
   ·rcases mem q hq with rfl|rfl|rfl|rfl<;>rcases mem q' dY with rfl|rfl|rfl|rfl<;>first|rfl|(simp only at e;omega)
   ·rcases mem q hq with rfl|rfl|rfl|rfl<;>rcases mem q' dY with rfl|rfl|rfl|rfl<;>first|rfl|(simp only at e;omega)
   ·rcases mem q hq with rfl|rfl|rfl|rfl
    ·exact⟨_,r2,.inl ⟨rfl,rfl,fun N o' hO=>NC jH kv p1 p2 (fun x e=>by rw[e2];exact e) (fun x e=>by rw[e3];exact e) (fun x e=>by rw[e1];exact e) hO⟩⟩
    ·exact⟨_,r6,.inl ⟨rfl,rfl,fun N o' hO=>hO⟩⟩
    ·exact⟨_,XE,.inl ⟨by rw[bo1];rfl,rfl,fun N o' hO=>Fc D4 g1 g7 hi hO⟩⟩
    ·exact⟨_,XG,.inl ⟨by rw[bo2];rfl,rfl,fun N o' hO=>Fc rK g2 g8 hi hO⟩⟩
  obtain⟨_,cU,T⟩:=r.tk;have T:DG B ρ s.h w cU:=T;have nE:=JE aj r T dJ eD jk jq (fun n hn=>by obtain⟨_,o,p,h⟩:=a3 n hn;exact⟨o,p,h⟩) hV;obtain⟨d1,d2⟩:=eT _ _ _ _ hp;have fi:bB (⟨fR<|kn++aW (I1 K J v1 v2),J+4,0,[],[]⟩:AS):=⟨Nat.zero_le _,dK⟩;have km:ay (eU J ρ V) [x0,.yield J] vs.toList:=by simp only[ay,VR] at hv ⊢;obtain⟨y0,ys,q1,q2,y3,D0,q3,⟨b',N',q4,q5⟩,q6⟩:=hv;exact⟨y0,ys,q1,AV.pq hi gG q2,y3,D0,q3,⟨b',N',(e0 ρ).trans q4,q5⟩,q6⟩
  have bG:=au.Fs (B:=tg B ρ w<|wH ρ cU V) (s:=⟨fR<|kn++aW (I1 K J v1 v2),J+4,0,[],[]⟩) (args:=[x0,.yield J]) (vs:=vs) hP cj cw d1 (d2 _ rfl rfl) fi nE (fun g iD=>by
   obtain⟨N,e⟩:=hg g iD;exact⟨N,by rw[CG<|Nat.lt_of_lt_of_le iD fY];exact e⟩) (fun m hm j8=>by
   have hm:J+4<=m:=hm;exact HG aj j8 fun q hq=>by rcases mem q hq with rfl|rfl|rfl|rfl<;>(show _≠m;simp only;omega)) km
  rw[sd cj cw dD];show Calls P f vs w _;refine bG.mono fun e w'=>?_;rintro ⟨B2,x',s7,rfl,⟨rfl,j1,j2,j3,j4⟩,_,σ,i0,B3,i1,i2,i3⟩;have sV:∀q∈V,σ q.1=ρ q.2.1:=fun q hq=>by
   rcases mem q hq with rfl|rfl|rfl|rfl
   ·exact(i0 J aj aj).trans<|e0 ρ
   ·exact(i0 (J+1) aj aj).trans<|e1 ρ
   ·exact(i0 (J+2) aj aj).trans<|e2 ρ
   ·exact(i0 (J+3) aj aj).trans<|e3 ρ
  have qK:jg σ<|cC ρ σ:=fun k x hk e=>by unfold cC;rw[if_pos hk];exact e
  have PJ:∀k,k<top->cC ρ σ k=ρ k:=fun k hk=>by unfold cC;rw[if_neg aj]
  have V0:(J,L,K.loop none (J+2) (J+3)<|J+1)∈V:=by simp[V]
  have V1:(J+1,df,ae.defs)∈V:=by simp[V]
  have V2:(J+2,c1,eH v1)∈V:=by simp[V]
  have V3:(J+3,c2,eH v2)∈V:=by simp[V]
  have Ec:σ (J+1)=ρ df:=sV _ V1;have s2':σ (J+2)=ρ c1:=sV _ V2;have s3':σ (J+3)=ρ c2:=sV _ V3;have gt:∀(k c d:Nat),(aE [(K.s1,AV.ptr<|some (c,0)),(K.s2,.ptr<|some (d,0))]).get K.s1=some (.ptr<|some (c,0))/\(aE [(K.s1,AV.ptr<|some (c,0)),(K.s2,.ptr<|some (d,0))]).get K.s2=some (.ptr<|some (d,0)):=fun k c d=>by
   constructor
   ·show(((Tr.nil:Tr AV).put K.s2 _).put K.s1 _).get K.s1=_;rw[Tr.lH _ _ _ _ jH,if_pos rfl]
   ·show(((Tr.nil:Tr AV).put K.s2 _).put K.s1 _).get K.s2=_;rw[Tr.lH _ _ _ _ jH,if_neg fun e=>mH e.symm,Tr.lH _ _ _ _ kv,if_pos rfl]
  obtain⟨b1,b2,b3,b4⟩:=I0 (a:=s.nx) (L2:=[(L,K.loop p.bL c1 c2 df),(df,.defs),(c1,eH p.v1),(c2,eH p.v2)]) (h':=s1.h) r T hV i2 i3 sV (fun m z hm q=>B3 m z hm<|hi m z hm q) (fun n q hm=>by
   rcases List.mem_cons.1 hm with hm|hm
   ·cases hm;exact⟨_,V0,rfl,_,j1,.inl ⟨rfl,rfl,fun N o' hO=>NC jH kv (gt 0 _ _).1 (gt 0 _ _).2 (fun x e=>by rw[PJ c1 z2, ←s2'];exact e) (fun x e=>by rw[PJ c2 m2, ←s3'];exact e) (fun x e=>by rw[PJ df y2, ←Ec];exact e) hO⟩⟩
   rcases List.mem_cons.1 hm with hm|hm
   ·cases hm;exact⟨_,V1,rfl,_,j2,.inl ⟨rfl,rfl,fun N o' hO=>hO⟩⟩
   rcases List.mem_cons.1 hm with hm|hm
   ·cases hm;exact⟨_,V2,rfl,_,j3,.inl ⟨rfl,rfl,fun N o' hO=>Fc (wv _) g3 g5 qK hO⟩⟩
   rcases List.mem_cons.1 hm with hm|hm
   ·cases hm;exact⟨_,V3,rfl,_,j4,.inl ⟨rfl,rfl,fun N o' hO=>Fc (wv _) g4 g6 qK hO⟩⟩
   cases hm) (fun q hq _=>by
   rcases mem q hq with rfl|rfl|rfl|rfl
   ·exact⟨_,j1,rfl⟩
   ·exact⟨_,j2,rfl⟩
   ·exact⟨_,j3,rfl⟩
   ·exact⟨_,j4,rfl⟩) (fun k hk=>by
   have GR:s1.h=(((s.h.put L<|some<|K.loop p.bL c1 c2 df).put df<|some .defs).put c1<|some<|eH p.v1).put c2 (some<|eH p.v2):=by rw[m4,z4,y4,x4,r15,XF,r7,r3,a1]
   rw[GR,Tr.da _ _ _ _ m2 hk,Tr.da _ _ _ _ z2 hk,Tr.da _ _ _ _ y2 hk,Tr.da _ _ _ _ x2 hk];by_cases q4:k=c2
   ·subst q4;exact .inl ⟨_,by simp,if_pos rfl⟩
   rw[if_neg q4];by_cases q3:k=c1
   ·subst q3;exact .inl ⟨_,by simp,if_pos rfl⟩
   rw[if_neg q3];by_cases q2:k=df
   ·subst q2;exact .inl ⟨_,by simp,if_pos rfl⟩
   rw[if_neg q2];by_cases q1:k=L
   ·subst q1;exact .inl ⟨_,by simp,if_pos rfl⟩
   rw[if_neg q1];exact .inr ⟨fun q hq=>by rcases mem q hq with rfl|rfl|rfl|rfl<;>(intro e;exact absurd e.symm<|by assumption),rfl⟩)
  refine⟨B2,rfl,cC ρ σ,?_,AV.pq qK rfl i1,b3,b4⟩;have cv:s1.nx=s.nx:=by rw[m5,z5,y5,x5,r16,r12,r8,r4,a2]
  rw[cv];exact b1
 ·cases h
end Go.Rn
namespace Go.Rn
open Go.RowKit
variable {r:Nat->Nat} {n J g df c2 c1:Nat} {s:AS} {K:Cb} {ns:List Nat} {h0:Tr ae} {P:Program}
theorem af4(h:s.mark=0):aT n s=s:=by obtain⟨hh,nx,mark,rd,wr⟩:=s;have h:mark=0:=h;subst h;rfl
theorem Tz{J:Nat}{h0:Tr ae}:∀{ns:List Nat} {s s1:AS} {u:Unit},s.mark=0->fG J h0 ns s= .ok u s1->s1=s
 |[],s,s1,u,_,h=>(bA (show M.pure () s= .ok u s1 from h)).2
 |m::ns,s,s1,u,hm,h=>by obtain⟨o,s2,h1,h2⟩:=M.aN (show((bt m).bind fun o=>aB (h0.get m) fun p=>aG (oh J o p) <| fG J h0 ns) s= .ok u s1 from h);obtain⟨a1,a2,rfl⟩:=Nq h1;rw[if_neg aj] at h2;obtain⟨p,_,h3⟩:=bu h2;obtain⟨_,h4⟩:=cV h3;exact Tz hm h4
theorem JH{o:Option ae}{p:ae}(hm:s.mark=0)(h1:n<s.nx)(h2:n<top)(h3:s.h.get n=some p)(h4:p.dh=false):bJ n o s= .ok () ⟨s.h.put n o,s.nx,s.mark,s.rd,s.wr⟩:=by rw[NW h1 h2 h3 h4,if_neg aj]
structure J8 (K:Cb) (s:AS) (L df c1 c2:Nat) (v1 v2:AV):Prop where
 mark:s.mark=0
 nx:s.nx<=top
 lt:L<s.nx/\df<s.nx/\c1<s.nx/\c2<s.nx
 ne:L≠df/\L≠c1/\L≠c2/\df≠c1/\df≠c2/\c1≠c2
 loop:∃t,s.h.get L=some (.loop .ready none K.fn t K.nt K.ps K.a K.b df)/\t.get K.s1=some (.ptr<|some (c1,0))/\t.get K.s2=some (.ptr<|some (c2,0))
 df:s.h.get df=some .defs
 b1:∃o,s.h.get c1=some o/\y8 o=some v1
 b2:∃o,s.h.get c2=some o/\y8 o=some v2
def okB(v:AV):Prop:=v.hi=true/\v.bQ=true
noncomputable def KP(K:Cb)(s:AS)(L df c1 c2:Nat)(p:fx):AS:=⟨(((s.h.put L<|some<|K.loop p.bL c1 c2 df).put df<|some .defs).put c1<|some<|eH p.v1).put c2<|some<|eH p.v2,s.nx,s.mark,s.rd,s.wr⟩
theorem ND{F:Nat->Option (List AV)}{sp:Sp}{val:AV->AV->AV->Option fx}(h:sp g=some (qJ K val J ns h0)){x v1 v2:AV}{L:Nat}{p:fx}(hx:x.hi=true)(hk:pC J h0 ns s=true)(I:J8 K s L df c1 c2 v1 v2)(hv:val x v1 v2=some p)(o1:okB v1)(o2:okB v2)(o3:okB p.v1)(o4:okB p.v2):
 aZ P sp F (n+1) (.fn g) [x,.yield L] s= .ok (.bool p.ret) (KP K s L df c1 c2 p):=by
 show jF P sp g (aZ P sp F n) [x,.yield L] s=_;rw[qX h];show(aG x.hi <| (fG J h0 ns).bind fun _=>Gj K val x L) s=_;have hc:=w9 hk;rw[Tz I.mark hc] at hc;rw[hx,dy,M.bK hc];obtain⟨t,l1,l2,l3⟩:=I.loop;obtain⟨q1,q2,q3⟩:=I.b1;obtain⟨r1,r2,r3⟩:=I.b2;obtain⟨n1,n2,n3,n4,n5,n6⟩:=I.ne;obtain⟨t1,t2,t3,t4⟩:=I.lt;have rd:∀(m:Nat) (o:ae),m<s.nx->s.h.get m=some o->bt m s= .ok o s:=fun m o hm ho=>by have:=lJ ((blt_eq _ _).mpr hm) ho;rw[af4 I.mark] at this;exact this
 have tt:=I.nx;obtain⟨tz1,zz1,e1,_⟩:=EJ q3;obtain⟨tz2,zz2,e2,_⟩:=EJ r3;unfold Gj;rw[M.bK<|rd _ _ t1 l1];rw[show JG (.loop .ready none K.fn t K.nt K.ps K.a K.b df)=some ⟨K.fn,t,K.nt,K.ps,K.a,K.b,df⟩ from rfl,bT];rw[wE (show K.fn=K.fn/\K.nt=K.nt/\K.ps=K.ps/\K.a=K.a/\K.b=K.b from⟨rfl,rfl,rfl,rfl,rfl⟩)];simp only;rw[l2,l3,show Dk (some<|.ptr<|some (c1,0))=some c1 from rfl,show Dk (some<|.ptr<|some (c2,0))=some c2 from rfl,bT,bT,wE ⟨n1,n2,n3,n4,n5,n6⟩,M.bK<|rd _ _ t2 I.df,wE rfl,M.bK<|rd _ _ t3 q2,M.bK<|rd _ _ t4 r2,q3,r3,bT,bT,hv,bT,wE ⟨o1.1,o2.1,o3.1,o4.1,o3.2,o4.2,o1.2,o2.2⟩];have g1:∀(h:Tr ae) (m k:Nat) (o:Option ae) (p:ae),m<top->k<top->m≠k->h.get k=some p->(h.put m o).get k=some p:=fun h m k o p hm hk cf e=>by rw[Tr.da _ _ _ _ hm hk,if_neg<|Ne.symm cf];exact e
 rw[M.bK<|JH I.mark t1 aj l1 rfl];rw[M.bK<|JH (s:=⟨s.h.put L<|some<|K.loop p.bL c1 c2 df,s.nx,s.mark,s.rd,s.wr⟩) I.mark t2 aj (g1 _ _ _ _ _ aj aj n1 I.df) rfl];rw[M.bK<|JH (s:=⟨(s.h.put L<|some<|K.loop p.bL c1 c2 df).put df<|some .defs,s.nx,s.mark,s.rd,s.wr⟩) I.mark t3 aj (g1 _ _ _ _ _ aj aj n4<|g1 _ _ _ _ _ aj aj n2 q2) (by rw[e1];rfl)];rw[M.bK<|JH (s:=⟨((s.h.put L<|some<|K.loop p.bL c1 c2 df).put df<|some .defs).put c1<|some<|eH p.v1,s.nx,s.mark,s.rd,s.wr⟩) I.mark t4 aj (g1 _ _ _ _ _ aj aj n6<|g1 _ _ _ _ _ aj aj n5<|g1 _ _ _ _ _ aj aj n3 r2) (by rw[e2];rfl)];rfl
theorem Vi{X:TX}{kn:List<|Nat×Option ae}{L L':bO}{fn:Func}{body:Code}(hP:bR P)(fY:fI<=J)(dK:J+4<=top)(jH:K.s1<top)(kv:K.s2<top)(mH:K.s1≠K.s2)(dJ:∀n o,n<top->h0.get n=some o->n∈ns)(eD:∀n∈ns,n<J)(jk:∀n o,(n,some o)∈kn->h0.get n=some o)(jq:∀p∈kn,p.1<top){val:AV->AV->AV->Option fx}(h:dR X J P<|dk J ns h0 L)(h':dR X J P<|dk J ns h0 L')(cj:P.funcs[g]? =some fn)(cw:fn.body=some body)(dD:(fn.name == "runtime.NumGoroutine")=false)(eT:∀x v1 v2 p,val x v1 v2=some p->max fn.ntmps 2<=top/\∀B:aJ,qx X P J ns h0 L' B->
 au P B (J+4) (rC K J P fn.results.toList p) ⟨g,dt [x,.yield J],max fn.ntmps 2,[.code body],[],none⟩ ⟨fR<|kn++aW (I1 K J v1 v2),J+4,0,[],[]⟩):dR X J P<|dk J ns h0<|(g,.raw<|qJ K val)::L:=by
 refine(show dR X J P (oB (dk J ns h0 L) g<|qJ K val J ns h0) from h.mh (fun Yw _ args=>Yv.qJ _ _ _ _ _ Yw args) fun B hB hT Yw hc hl args x s s1 ρ w vs fi r hg hf hm hv=>?_);refine ac1 hP cj cw dD fY dK jH kv mH dJ eD jk jq (fun x v1 v2 p e=>?_) r hg hm hv;obtain⟨q1,q2⟩:=eT x v1 v2 p e;exact⟨q1,fun B' lA lB=>q2 B'<|qy hP h' (lA.trans hB)<|lB.trans hT⟩
theorem abO{p:Option Code}(jH:K.s1<top)(kv:K.s2<top)(mH:K.s1≠K.s2)(e1:r c1=c1)(e2:r c2=c2)(e3:r df=df):kL r (K.loop p c1 c2 df)<|K.loop p c1 c2 df:=by
 intro ρ N o h;have gt:(aE [(K.s1,AV.ptr<|some (c1,0)),(K.s2,.ptr<|some (c2,0))]).get K.s1=some (.ptr<|some (c1,0))/\(aE [(K.s1,AV.ptr<|some (c1,0)),(K.s2,.ptr<|some (c2,0))]).get K.s2=some (.ptr<|some (c2,0)):=by
  constructor
  ·show(((Tr.nil:Tr AV).put K.s2 _).put K.s1 _).get K.s1=_;rw[Tr.lH _ _ _ _ jH,if_pos rfl]
  ·show(((Tr.nil:Tr AV).put K.s2 _).put K.s1 _).get K.s2=_;rw[Tr.lH _ _ _ _ jH,if_neg fun e=>mH e.symm,Tr.lH _ _ _ _ kv,if_pos rfl]
 exact NC jH kv gt.1 gt.2 (fun x e=>by rw[e1];exact e) (fun x e=>by rw[e2];exact e) (fun x e=>by rw[e3];exact e) h
theorem Up{v:AV}(h:okB v)(hr:∀k,top<=k->r k=k):kL r (eH v)<|eH v:=by intro ρ N o k;exact Fc (wv v) h.1 h.2 (fun m x hm e=>by rw[hr m hm];exact e) k
theorem ba.yield(e:r n=n):ba r (.yield n)<|.yield n:=by intro ρ v h;simp only[VR] at h ⊢;obtain⟨b,N,h1,h2⟩:=h;exact⟨b,N,by rw[e];exact h1,h2⟩
theorem abP:kL r .defs .defs:=fun ρ N o k=>k
end Go.Rn
