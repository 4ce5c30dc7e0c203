import Derived.Test.YtaooegdfpnfncaaGreatDoorRnGC
import Derived.Test.YtaooegdfpnfncaaGreatDoorRnGB
set_option maxRecDepth 100000
set_option maxHeartbeats 8000000
set_option linter.unusedSimpArgs false
set_option linter.unusedVariables false
namespace Go.Rn
open Go.RowKit
variable {n:Nat} {o:Option ae}
noncomputable def lE(n:Nat)(o:Option ae):M Unit:=fun s=>
 @AS.rec (fun _=>R Unit) (fun h nx mark rd wr=>
  @Bool.rec (fun _=>R Unit) .bad
   (@Option.rec ae (fun _=>R Unit) .bad
    (fun p=> @Bool.rec (fun _=>R Unit)
     (@Bool.rec (fun _=>R Unit) (.ok () ⟨h.put n o,nx,mark,rd,wr⟩) (.ok () ⟨h.put n o,nx,mark,n::rd,n::wr⟩)<|Nat.blt n mark)
     .bad (!p.ll))
    (h.get n))
   (and (Nat.blt n nx)<|Nat.blt n top)) s
theorem VP{u:Unit}{s s1:AS}(h:lE n o s= .ok u s1):
 n<s.nx/\n<top/\(∃p,s.h.get n=some p/\(!p.ll)=false)/\s1=if n<s.mark then{s with h:=s.h.put n o,rd:=n::s.rd,wr:=n::s.wr} else{s with h:=s.h.put n o}:=by
 obtain⟨hh,nx,mark,rd,wr⟩:=s;have e:lE n o ⟨hh,nx,mark,rd,wr⟩= @Bool.rec (fun _=>R Unit) .bad
  (@Option.rec ae (fun _=>R Unit) .bad
   (fun p=> @Bool.rec (fun _=>R Unit)
    (@Bool.rec (fun _=>R Unit) (.ok () ⟨hh.put n o,nx,mark,rd,wr⟩) (.ok () ⟨hh.put n o,nx,mark,n::rd,n::wr⟩)<|Nat.blt n mark)
    .bad (!p.ll))
   (hh.get n))
  (and (Nat.blt n nx)<|Nat.blt n top):=rfl
 rw[e] at h;cases hb:and (Nat.blt n nx) (Nat.blt n top) with
 |false=>rw[hb] at h;cases h
 |true=>
  rw[hb] at h;have iO:=Bool.and_eq_true_iff.1 hb;rw[blt_eq,blt_eq] at iO;cases hg:hh.get n with
  |none=>rw[hg] at h;cases h
  |some p=>
   rw[hg] at h;cases hr:(!p.ll) with
   |true=>
    have h': @Bool.rec (fun _=>R Unit)
     (@Bool.rec (fun _=>R Unit) (.ok () ⟨hh.put n o,nx,mark,rd,wr⟩) (.ok () ⟨hh.put n o,nx,mark,n::rd,n::wr⟩)<|Nat.blt n mark)
     .bad (!p.ll)= .ok u s1:=h
    rw[hr] at h';cases h'
   |false=>
    have h': @Bool.rec (fun _=>R Unit)
     (@Bool.rec (fun _=>R Unit) (.ok () ⟨hh.put n o,nx,mark,rd,wr⟩) (.ok () ⟨hh.put n o,nx,mark,n::rd,n::wr⟩)<|Nat.blt n mark)
     .bad (!p.ll)= .ok u s1:=h
    rw[hr] at h';refine⟨iO.1,iO.2,⟨p,by first|exact hg|rfl,hr⟩,?_⟩;have uU: @Bool.rec (fun _=>R Unit) (.ok () ⟨hh.put n o,nx,mark,rd,wr⟩) (.ok () ⟨hh.put n o,nx,mark,n::rd,n::wr⟩) (Nat.blt n mark)= .ok u s1:=h';rw[zN] at uU;by_cases e:n<mark
    ·rw[if_pos e] at uU;injection uU with _ h3;simp[e, ←h3]
    ·rw[if_neg e] at uU;injection uU with _ h3;simp[e, ←h3]
theorem WU{s:AS}{p:ae}(h1:n<s.nx)(h2:n<top)(h3:s.h.get n=some p)(h4:(!p.ll)=false):
 lE n o s= .ok () (if n<s.mark then{s with h:=s.h.put n o,rd:=n::s.rd,wr:=n::s.wr} else{s with h:=s.h.put n o}):=by
 obtain⟨hh,nx,mark,rd,wr⟩:=s;have e:lE n o ⟨hh,nx,mark,rd,wr⟩= @Bool.rec (fun _=>R Unit) .bad
  (@Option.rec ae (fun _=>R Unit) .bad
   (fun p=> @Bool.rec (fun _=>R Unit)
    (@Bool.rec (fun _=>R Unit) (.ok () ⟨hh.put n o,nx,mark,rd,wr⟩) (.ok () ⟨hh.put n o,nx,mark,n::rd,n::wr⟩)<|Nat.blt n mark)
    .bad (!p.ll))
   (hh.get n))
  (and (Nat.blt n nx)<|Nat.blt n top):=rfl
 have hb:and (Nat.blt n nx) (Nat.blt n top)=true:=Bool.and_eq_true_iff.2 ⟨by rw[blt_eq];exact h1,by rw[blt_eq];exact h2⟩;have hg:hh.get n=some p:=h3;rw[e,hb,hg];show @Bool.rec (fun _=>R Unit) (@Bool.rec (fun _=>R Unit) (.ok () ⟨hh.put n o,nx,mark,rd,wr⟩) (.ok () ⟨hh.put n o,nx,mark,n::rd,n::wr⟩)<|Nat.blt n mark) .bad (!p.ll)=_;rw[h4];show @Bool.rec (fun _=>R Unit) (.ok () ⟨hh.put n o,nx,mark,rd,wr⟩) (.ok () ⟨hh.put n o,nx,mark,n::rd,n::wr⟩) (Nat.blt n mark)=_;rw[zN];by_cases e:n<mark<;>simp[e]
theorem SF.lE(n:Nat)(o:Option ae):SF<|lE n o:=by
 intro s v s1 fi h;obtain⟨h1,ht,⟨p,h2,h3⟩,rfl⟩:=VP h;by_cases e:n<s.mark
 ·rw[if_pos e];refine⟨[n],[n],⟨rfl,rfl,Nat.le_refl _,fi.nx,rfl,fun k hk hn=>?_,fun _ h=>h,fun k hk gw=>?_⟩,fun A m0 t ag hA=>?_⟩
  ·show(s.h.put n o).get k=_;rw[Tr.du _ _ _ _ ht (by have:=fi.mark;have:=fi.nx;omega),if_neg<|by simpa using hn]
  ·show(s.h.put n o).get k=_;have:s.nx<=k:=hk;rw[Tr.du _ _ _ _ ht gw,if_neg ak]
  ·have hq:A n\/m0<=n:=by
    by_cases q:n<m0
    ·exact .inl<|hA n jJ q
    ·exact .inr ak
   have hg:=ag.is n h1 hq;have hr:=WU (o:=o) (s:=t) (n:=n) (p:=p) FK ht FL h3;rw[←ag.mark,if_pos e] at hr;refine⟨_,hr,⟨ag.nx,by first|exact ag.mark|rfl,ag.low,fun k hk hq=>?_⟩,rfl,rfl,fun k hk hn=>?_,fun k hk gw=>?_⟩
   ·show(s.h.put n o).get k=(t.h.put n o).get k;have rz:k<s.nx:=hk;have:=fi.nx;rw[Tr.du _ _ _ _ ht ak,Tr.du _ _ _ _ ht ak];by_cases q:k=n
    ·simp[q]
    ·rw[if_neg q,if_neg q];exact ag.is k hk hq
   ·show(t.h.put n o).get k=_;have:=fi.mark;have:=fi.nx;have:=ag.low;rw[Tr.du _ _ _ _ ht ak,if_neg<|by simpa using hn]
   ·show(t.h.put n o).get k=_;have:s.nx<=k:=hk;rw[Tr.du _ _ _ _ ht gw,if_neg ak]
 ·rw[if_neg e];refine⟨[],[],⟨rfl,rfl,Nat.le_refl _,fi.nx,rfl,fun k hk hn=>?_,fun _ h=>h,fun k hk gw=>?_⟩,fun A m0 t ag hA=>?_⟩
  ·show(s.h.put n o).get k=_;have:=fi.mark;have:=fi.nx;rw[Tr.du _ _ _ _ ht ak,if_neg ak]
  ·show(s.h.put n o).get k=_;have:s.nx<=k:=hk;rw[Tr.du _ _ _ _ ht gw,if_neg ak]
  ·have hg:=ag.is n h1<|.inr<|Nat.le_trans ag.low ak;have hr:=WU (o:=o) (s:=t) (n:=n) (p:=p) FK ht FL h3;rw[←ag.mark,if_neg e] at hr;refine⟨_,hr,⟨ag.nx,by first|exact ag.mark|rfl,ag.low,fun k hk hq=>?_⟩,rfl,rfl,fun k hk hn=>?_,fun k hk gw=>?_⟩
   ·show(s.h.put n o).get k=(t.h.put n o).get k;have rz:k<s.nx:=hk;have:=fi.nx;rw[Tr.du _ _ _ _ ht ak,Tr.du _ _ _ _ ht ak];by_cases q:k=n
    ·simp[q]
    ·rw[if_neg q,if_neg q];exact ag.is k hk hq
   ·show(t.h.put n o).get k=_;have:=fi.mark;have:=fi.nx;have:=ag.low;rw[Tr.du _ _ _ _ ht ak,if_neg ak]
   ·show(t.h.put n o).get k=_;have:s.nx<=k:=hk;rw[Tr.du _ _ _ _ ht gw,if_neg ak]
section
variable {P:Program} {B:aI} {ρ:aw} {w:World} {s s1 s2:AS} {SG:aO}
theorem av.En{qx:Nat}(hP:bC P){g:FuncId}{fn:Func}{body:Code}{args:List AV}{vs:Array Value}{R:AV->AS->Prop}(ch:P.funcs[g]? =some fn)(cw:fn.body=some body)(pn:max fn.ntmps args.length<=top)(H:av P B qx (Fin P fn.results.toList R) ⟨g,eg args,max fn.ntmps args.length,[.code body],[],none⟩ s)(fi:bF s)(r:Rel B ρ s.h w)(hg:gk ρ)(hf:∀k,s.nx<=k->k<top->ρ k=none)(hv:az ρ args vs.toList):
 Calls P g vs w fun e w'=>∃v x s3,e= .returned v/\R x s3/\bF s3/\∃σ,(∀k,k<qx->k<top->σ k=ρ k)/\(∀k x,top<=k->ρ k=some x->σ k=some x)/\VR σ x v/\Rel B σ s3.h w'/\cP B w w':=by
 intro cs;let b:Frame:={(default:Frame) with fn:=g,kind:=.normal,roundOf:=none};let a:Act:={tmps:=vs++Array.replicate (fn.ntmps - vs.size) undef,defers:=[]};have ya:Frame.enter P g vs .normal=b.atR a [.code body]:=by simp[Frame.enter,Frame.atR,ch,cw,b,a]
 have bH:Fr ρ ⟨g,eg args,max fn.ntmps args.length,[.code body],[],none⟩ b a:=⟨rfl,rfl,trivial,rfl,.cons (hP.code g fn body ch cw) .nil⟩;have ay:At B ρ s (max fn.ntmps args.length) (eg args) w a:=⟨Jf hv _ pn,r,hg,pn,fi⟩;obtain⟨fr,j,s2,σ,a',w',⟨x,s3,qi,hR⟩,en,e0,IH,e1,e2,e3,e4,e5,e6,e7,e8⟩:=H ρ w b a cs bH ay hf;have Qk:finish P fn.results.toList fr j s2= .ok x s3:=by rw[Gv];exact qi
 have A4:bF s2:=e2.cG;obtain⟨hj,u2,s4,rs,h7,h9,hx⟩:=NB Qk;have pB:bF s4:=(SF.rU _).cG A4 h7;have qA:Leaves j fr.todo:=e7;obtain⟨d1,d2,w2,d3,d4,d5⟩:=Je (P:=P) (fr:=b) (cs:=cs) A4 e2.rel e3 h7;obtain⟨f1,f2,us,f3,f4⟩:=Jb (P:=P) (w:=w2) e2.tr pB d3 h9;have jv:bF s3:=(SF.tM P fr.tmps _).cG pB h9;have HV:Steps P (lone (b.atR a' fr.todo) cs w')<|lone {b.atR a' fr.todo with mode:=.returning} cs w':=by
  rcases hj with rfl|rfl
  ·have e:fr.todo=[]:=qA;rw[e];exact .one<|stepR_end rfl
  ·obtain⟨k,e⟩:=qA;rw[e];exact .one<|stepR_ret rfl
 have yo:=d5 {b.atR a' fr.todo with mode:=.returning} cs jJ rfl;have kD:(results fn a'.tmps).run P w2= .ok (oU us) w2:=by
  unfold results;rw[Array.mapM_eq_mapM_toList];simp only[Sem.run_bind,map_eq_pure_bind,Sem.run_pure];refine Eq.trans (congrArg (fun r:Result (List Value)=>(r.andThen fun a w'=>Result.ok a.toArray w').andThen fun a w'=>Result.ok (if h:a.size=1 then a[0] else Value.tuple a) w') f3) ?_;have:∀l:List Value,(Result.ok (if h:l.toArray.size=1 then l.toArray[0] else Value.tuple l.toArray) w2:Result Value)= .ok (oU l) w2:=by
   intro l
   match l with
   |[]=>rfl
   |[v]=>rfl
   |v::v2::l=>simp[oU]
  exact this us
 refine⟨.returned<|oU us,w2,{b.atR a' fr.todo with mode:=.returning,defers:=[]},⟨_,x,s3,rfl,hR,jv,σ,e0,IH,?_⟩,?_,rfl,?_⟩
 ·exact⟨by rw[hx];exact NV f4,by rw[f1];exact d3,e4.trans d4⟩
 ·rw[ya];exact Steps.trans e8<|Steps.trans HV yo
 ·exact⟨rfl,rfl,rfl,fn,ch,kD⟩
end
abbrev TX:=Nat->AV->List (Nat×ae)->Prop
def yK(loc ρ:aw):aw:=fun m=>if top<=m then ρ m else loc m
theorem acz{loc ρ σ:aw}(h:∀m x,top<=m->ρ m=some x->σ m=some x):(yK loc ρ).le<|yK loc σ:=by
 intro k x e;unfold yK at e ⊢;split at e
 ·rename_i q;rw[if_pos q];exact h k x q e
 ·rename_i q;rw[if_neg q];exact e
inductive n9 (X:TX) (U:Nat):Nat->AV->aw->World->Nat->(Nat->Prop)->Prop where
 | mk {k:Nat} {v:AV} {ρ:aw} {w:World} {b:Nat} {H:Nat->Prop} (L:List<|Nat×ae) (loc:aw) (bl:Nat->Nat) (H1:Nat->Nat->Prop) (N0:Nat)
   (hx:X k v L) (root:loc U=some (b,N0)) (low:∀m,m<U->loc m=none)
   (is:∀m o,(m,o)∈L->∃N o',loc m=some (bl m,N)/\w.heap[bl m]? =some o'/\OR (yK loc ρ) N o o'/\H (bl m))
   (one:∀m n o p,(m,o)∈L->(n,p)∈L->bl m=bl n->m=n)
   (tok:∀m k' v',(m,ae.tok k' v')∈L->n9 X U k' v' ρ w (bl m) (H1 m))
   (Lu:∀m k' v',(m,ae.tok k' v')∈L->H1 m (bl m))
   (sub:∀m k' v',(m,ae.tok k' v')∈L->∀x,H1 m x->H x)
   (own:∀m k' v' n o,(m,ae.tok k' v')∈L->(n,o)∈L->o.ll=false->¬H1 m (bl n))
   (apart:∀m k' v' n My wX x,(m,ae.tok k' v')∈L->(n,ae.tok My wX)∈L->m≠n->H1 m x->¬H1 n x):n9 X U k v ρ w b H
theorem n9.mono{X:TX}{U k:Nat}{v:AV}{ρ:aw}{w:World}{b:Nat}{H:Nat->Prop}(h:n9 X U k v ρ w b H):∀{σ:aw} {w':World},(∀m x,top<=m->ρ m=some x->σ m=some x)->(∀x,H x->w'.heap[x]? =w.heap[x]?)->n9 X U k v σ w' b H:=by
 induction h with
 |mk L loc bl H1 N0 hx root low is one tok Lu sub own apart ih=>intro σ w' hm hw;refine .mk L loc bl H1 N0 hx root low (fun m o zb=>?_) one (fun m k' v' zb=>ih m k' v' zb hm fun x q=>hw x<|sub m k' v' zb x q) Lu sub own apart;obtain⟨N,o',a1,a2,a3,a4⟩:=is m o zb;exact⟨N,o',a1,(hw _ a4).trans a2,a3.mono<|acz hm,a4⟩
def lK(ns:List Nat)(o:ae):Prop:=∀(σ:aw) (N:Nat) (o':Obj),OR σ N o o'->OR (fun m=>if top<=m\/m∈ns then σ m else none) N o o'
structure zc (X:TX) (U:Nat):Prop where
 nm:∀k v L,X k v L->∀p∈L,U<=p.1/\p.1<top/\(p.2.own=true\/p.2.ll=true)/\lK (L.map (·.1)) p.2
 root:∀k v L,X k v L->∃o,(U,o)∈L
theorem Oc:∀{L:List<|Nat×ae},(∀p∈L,p.1<n)->∀p∈bQ L,p.1<n
 |[],_,p,hp=>by cases hp
 |a::l,h,p,hp=>by
  rcases List.mem_cons.1 hp with rfl|hp
  ·exact h a List.mem_cons_self
  ·exact Oc (fun q hq=>h q<|List.mem_cons_of_mem _ hq) p hp
end Go.Rn
namespace Go.Rn
open Go.RowKit
noncomputable section
def yL(U:Nat)(ns:List Nat)(h0:Tr ae)(k:Nat)(val:AV->List AV->Option (AV×AV)):aO->List AV->M AV:=fun _ args=>
 match args with
 | .ptr (some (n,0))::rest=>aF (rest.all AV.hi&&Nat.ble U n) <| (fe U h0 ns).bind fun _=>(bz n).bind fun o=>match o with
  | .tok k' v=>aF (Nat.beq k k') <| aC (val v rest) fun p=>aF p.1.hi <| (lE n<|some<|.tok k p.2).bind fun _=>M.pure p.1
  |_=>fail
 |_=>fail
end
theorem SF.yL(U:Nat)(ns:List Nat)(h0:Tr ae)(k:Nat)(val:AV->List AV->Option (AV×AV))(SG:aO)(args:List AV):SF<|yL U ns h0 k val SG args:=by
 unfold Rn.yL;split
 ·refine SF.aF fun _=>SF.bind (SF.fe U h0 ns) fun _=>SF.bind (SF.bz _) fun o=>?_;split
  ·exact SF.aF fun _=>SF.aC fun p _=>SF.aF fun _=>SF.bind (SF.lE _ _) fun _=>SF.pure _
  ·exact SF.fail
 ·exact SF.fail
def mM(U:Nat)(ρ loc:aw):aw:=fun m=>if m<U then ρ m else if top<=m then ρ m else loc m
def se(B:aI)(ρ:aw)(w:World)(H:Nat->Prop):aI:=⟨fun x=>w.heap.size<=x\/H x,B.F,fun m=>ρ m≠none,B.inv,B.dV,B.mono⟩
theorem ah7{X:TX}{U k:Nat}{v:AV}{B:aI}{ρ:aw}{w:World}{h h0:Tr ae}{ns:List Nat}{kn:List<|Nat×Option ae}{b:Nat}{H:Nat->Prop}(hX:zc X U)(hT:B.inv=n9 X U)(ht:U<=top)(r:Rel B ρ h w)(dG:∀n o,n<top->h0.get n=some o->n∈ns)(ep:∀n∈ns,n<U)(iA:∀n o,(n,some o)∈kn->h0.get n=some o)(iB:∀p∈kn,p.1<top)(a3:∀n∈ns,∃o p,h.get n=some o/\h0.get n=some p/\oX U o p=true)(hH:∀x,H x->(x<w.heap.size/\B.dV<=x)/\B.may x/\jZ ρ h x/\∀j sh,ρ (hn j x sh)=none)(I:n9 X U k v ρ w b H):
 ∃L loc N0,X k v L/\loc U=some (b,N0)/\(∀m y,loc m=some y->∃o,(m,o)∈L)/\Rel (se B ρ w H) (mM U ρ loc) (fL<|kn++bQ L) w:=by
 obtain⟨L,H7,bl,H1,N0,hx,root,low,is,one,tok,Lu,sub,own,apart⟩:=I;have r0:=ES ht r dG ep a3;have nm:=hX.nm k v L hx;let loc:aw:=fun m=>if m∈L.map (·.1) then H7 m else none
 have Df:∀m o,(m,o)∈L->m∈L.map (·.1):=fun m o hm=>List.mem_map.2 ⟨_,hm,rfl⟩;have Ye:∀m,m∈L.map (·.1)->loc m=H7 m:=fun m hm=>if_pos hm;have ah8:∀m,m ∉ L.map (·.1)->loc m=none:=fun m hm=>if_neg hm;have ge:∀m,m∈L.map (·.1)->U<=m/\m<top:=fun m hm=>by obtain⟨p,hp,rfl⟩:=List.mem_map.1 hm;exact⟨(nm p hp).1,(nm p hp).2.1⟩
 obtain⟨oR,hR⟩:=hX.root k v L hx;have tm:∀m,m∈L.map (·.1)->mM U ρ loc m=H7 m:=fun m hm=>by obtain⟨q1,q2⟩:=ge m hm;unfold mM;rw[if_neg ak,if_neg ak];exact Ye m hm
 have tk:∀m,top<=m->mM U ρ loc m=ρ m:=fun m hm=>by unfold mM;rw[if_neg ak,if_pos hm]
 have tl:∀m,m<U->mM U ρ loc m=ρ m:=fun m hm=>by unfold mM;rw[if_pos hm]
 have u9:(gm U ρ).le<|mM U ρ loc:=by
  intro m x e;unfold gm at e;split at e
  ·rename_i q;rw[tl m q];exact e
  ·unfold gq at e;split at e
   ·rename_i q;rw[tk m q];exact e
   ·cases e
 have cZ:∀p∈kn++bQ L,p.1<top:=fun p hp=>by
  rcases List.mem_append.1 hp with hp|hp
  ·exact iB p hp
  ·exact Oc (fun q hq=>(nm q hq).2.1) p hp
 have mle:∀{N:Nat} {o:ae} {o':Obj},lK (L.map (·.1)) o->OR (yK H7 ρ) N o o'->OR (mM U ρ loc) N o o':=fun hf hO=>(hf _ _ _ hO).mono fun i y hi=>by
  have hi:(if top<=i\/i∈L.map (·.1) then yK H7 ρ i else none)=some y:=hi;split at hi
  ·rename_i q;unfold yK at hi;rcases q with q|q
   ·rw[if_pos q] at hi;rw[tk i q];exact hi
   ·rw[if_neg (by have:=(ge i q).2;omega)] at hi;rw[tm i q];exact hi
  ·cases hi
 have au:∀m o,(fL<|kn++bQ L).get m=some o->(m∈ns/\h0.get m=some o/\o.m7=true)\/(m,o)∈L:=fun m o hg=>by
  rcases List.mem_append.1 (xF cZ hg) with q|q
  ·have q2:=iA m o q;have iz:=dG m o (iB _ q) q2;obtain⟨p1,p2,_,c3,c4⟩:=a3 m iz;rw[q2] at c3;cases c3;refine .inl ⟨iz,q2,?_⟩;unfold oX at c4;split at c4<;>first|rfl|cases c4
  ·exact .inr<|NY q
 have Dg:∀m N x,m∈ns->mM U ρ loc m=some (x,N)->x<B.dV:=fun m N x q1 e=>by rw[tl m<|ep m q1] at e;obtain⟨p1,p2,c2,c3,c4⟩:=a3 m q1;obtain⟨b',N',e1,e2⟩:=r.tk.1.2 m p1 (Nat.lt_of_lt_of_le (ep m q1) ht) c2<|Jn c4;rw[e] at e1;cases e1;exact e2
 have F2:∀m o N x,(m,o)∈L->mM U ρ loc m=some (x,N)->x=bl m/\H x:=fun m o N x hm e=>by rw[tm m<|Df m o hm] at e;obtain⟨N',o',e1,_,_,e4⟩:=is m o hm;rw[e] at e1;cases e1;exact⟨rfl,e4⟩
 refine⟨L,loc,N0,hx,(Ye _<|Df _ _ hR).trans root,fun m y e=>?_,fun m o hm hg=>?_,fun m n o p x N M hm fC hg lD da e1 e2=>?_,fun m i es ex left cur hm hg=>?_,fun x hx=>.inl hx,fun i j m es ex left cur hJ iW iK iL hi _ hg _=>?_,fun j x sh e=>?_,?_⟩
 ·by_cases q:m∈L.map (·.1)
  ·obtain⟨p,hp,rfl⟩:=List.mem_map.1 q;exact⟨p.2,hp⟩
  ·rw[ah8 m q] at e;cases e
 ·rcases au m o hg with⟨q1,q3,q4⟩|q
  ·obtain⟨b',N',o',e1,e2,e3,_⟩:=r0.is m o hm q3;exact⟨b',N',o',u9 _ _ e1,e2,e3.mono u9,fun z=>by rw[ae.kf q4] at z;cases z⟩
  ·obtain⟨N',o',e1,e2,e3,e4⟩:=is m o q;exact⟨bl m,N',o',(tm m<|Df m o q).trans e1,e2,mle (nm _ q).2.2.2 e3,fun _=>.inr e4⟩
 ·rcases au m o hg with⟨q1,q3,q4⟩|q
  ·rcases au n p lD with⟨z1,z3,z4⟩|z
   ·rcases da with y|y
    ·rw[ae.kf q4] at y;cases y
    ·rw[ae.kf z4] at y;cases y
   ·have y1:=Dg m N x q1 e1;have y2:=(hH x (F2 n p M x z e2).2).1.2;omega
  ·rcases au n p lD with⟨z1,z3,z4⟩|z
   ·have y1:=Dg n M x z1 e2;have y2:=(hH x (F2 m o N x q e1).2).1.2;omega
   ·exact one m n o p q z<|(F2 m o N x q e1).1.symm.trans (F2 n p M x z e2).1
 ·rcases au m _ hg with⟨_,_,q4⟩|q
  ·cases q4
  ·rcases(nm _ q).2.2.1 with y|y<;>cases y
 ·rcases au i _ hg with⟨_,_,q4⟩|q
  ·cases q4
  ·rcases(nm _ q).2.2.1 with y|y<;>cases y
 ·rw[tk _<|gg _ _ _] at e;obtain⟨g0,l,c,e',fr,g1,g2,g3,g4⟩:=r0.fz j x sh (by rw[tU ht<|gg _ _ _];exact e);refine⟨.inl e,l,c,e',fr,g1,g2,fun m o N hm hg cH hr=>?_,fun i y hy=>?_⟩
  ·rcases au m o hg with⟨_,_,q4⟩|q
   ·rw[ae.kf q4] at cH;cases cH
   ·exact e<|(hH x (F2 m o N x q hr).2).2.2.2 j sh
  ·obtain⟨v',k1,k2,k3⟩:=g4 i y hy;refine⟨v',k1,VR.mono (fun i z q=>?_) _ _ k2,k3⟩;unfold gq at q ⊢;split at q
   ·rename_i hk;rw[if_pos hk];exact u9 _ _ q
   ·cases q
 ·refine⟨⟨r.tk.1.1,fun m o hm hg hf=>?_⟩,H1,fun m k' v' hm hg=>?_,fun m n x k' v' My wX hm fC hg lD cz ja qC=>?_⟩
  ·rcases au m o hg with⟨q1,q3,q4⟩|q
   ·obtain⟨b',N',o',e1,e2,e3,_⟩:=r0.is m o hm q3;exact⟨b',N',u9 _ _ e1,Dg m N' b' q1<|u9 _ _ e1⟩
   ·rcases(nm _ q).2.2.1 with y|y
    ·have:=(ae.vx y).2;rw[ae.kf hf] at this;cases this
    ·cases o<;>first|(cases y;done)|cases hf
  ·rcases au m _ hg with⟨_,_,q4⟩|q
   ·cases q4
   ·obtain⟨N',o',e1,e2,e3,e4⟩:=is m _ q;refine⟨bl m,N',(tm m<|Df m _ q).trans e1,?_,Lu m k' v' q,fun x ja=>?_⟩
    ·show B.inv k' v' (mM U ρ loc) w (bl m)<|H1 m;rw[hT];exact(tok m k' v' q).mono (fun i y hi e=>by rw[tk i hi];exact e) fun _ _=>rfl
    ·have qC:=sub m k' v' q x ja;obtain⟨c1,c2,c3,c4⟩:=hH x qC;refine⟨c1,.inr qC,fun n o N fC lD cH hr=>?_,fun j sh=>by rw[tk _<|gg _ _ _];exact c4 j sh⟩;rcases au n o lD with⟨_,_,q4⟩|z
     ·rw[ae.kf q4] at cH;cases cH
     ·refine own m k' v' n o q z ?_ (by rw[←(F2 n o N x z hr).1];exact ja);cases o<;>first|rfl|cases cH
  ·rcases au m _ hg with⟨_,_,q4⟩|q
   ·cases q4
   ·rcases au n _ lD with⟨_,_,q4⟩|z
    ·cases q4
    ·exact apart m k' v' n My wX x q z cz ja qC
end Go.Rn
namespace Go.Rn
open Go.RowKit
theorem agO{X:TX}{U k n a:Nat}{v v':AV}{B:aI}{ρ σ:aw}{w w':World}{h h4:Tr ae}{b N N0:Nat}{cW:Nat->Nat->Prop}{L':List<|Nat×ae}(hX:zc X U)(hT:B.inv=n9 X U)(py:n<top)(hg:h.get n=some (.tok k v))(hr:ρ n=some (b,N))(r:Rel B ρ h w)(h1:∀n k v,n<top->h.get n=some (.tok k v)->∃b N,ρ n=some (b,N)/\B.inv k v ρ w b (cW n)/\cW n b/\∀x,cW n x->(x<w.heap.size/\B.dV<=x)/\B.may x/\jZ ρ h x/\∀j sh,ρ (hn j x sh)=none)(h2:∀n m x k v k' v',n<top->m<top->h.get n=some (.tok k v)->h.get m=some (.tok k' v')->n≠m->cW n x->¬cW m x)(q3:Rel (se B ρ w<|cW n) σ h4 w')(q4:cP (se B ρ w<|cW n) w w')(pd:σ U=some (b,N0))(zd:∀m x,top<=m->ρ m=some x->σ m=some x)(hx:X k v' L')(hL:∀m o,(m,o)∈L'->h4.get m=some o):
 Ext a a ρ (cK ρ σ)/\iM σ (cK ρ σ)/\Rel B (cK ρ σ) (h.put n<|some<|.tok k v') w'/\cP B w w':=by
 obtain⟨b0,M0,r1,_,anN,hH⟩:=h1 n k v py hg;rw[hr] at r1;cases r1;have nm:=hX.nm k v' L' hx;have hl:ρ.le<|cK ρ σ:=by
  intro k x e;unfold cK;by_cases hk:top<=k
  ·rw[if_pos hk];exact zd k x hk e
  ·rw[if_neg hk];exact e
 have cZ:∀k,k<top->cK ρ σ k=ρ k:=fun k hk=>by unfold cK;rw[if_neg ak]
 have ga:∀k,top<=k->cK ρ σ k=σ k:=fun k hk=>by unfold cK;rw[if_pos hk]
 have g:∀m,m<top->(h.put n<|some<|.tok k v').get m=if m=n then some (.tok k v') else h.get m:=fun m hm=>Tr.du _ _ _ _ py hm
 have CB:cP B w w':=⟨q4.os,q4.tape,q4.output,q4.size,fun x hx hm=>q4.block x hx fun z=>by
  rcases z with z|z
  ·have z:w.heap.size<=x:=z;omega
  ·exact hm (hH x z).2.1⟩
 have m8:∀x,x<w.heap.size->¬cW n x->w'.heap[x]? =w.heap[x]? :=fun x hx hm=>q4.block x hx fun z=>by
  rcases z with z|z
  ·have z:w.heap.size<=x:=z;omega
  ·exact hm z
 have other:∀m o x M,m<top->m≠n->h.get m=some o->ρ m=some (x,M)->¬cW n x:=fun m o x M hm cz ho e ja=>by
  obtain⟨⟨_,c1⟩,_,c3,_⟩:=hH x ja;cases cH:o.dv with
  |false=>exact c3 m o M hm ho cH e
  |true=>
   by_cases hf:o.m7=true
   ·obtain⟨b',N',e1,e2⟩:=r.tk.1.2 m o hm ho hf;rw[e] at e1;cases e1;omega
   ·cases o<;>first|(cases cH;done)|(exact hf rfl)|skip
    rename_i k' wX;obtain⟨b',N',e1,_,e3,_⟩:=h1 m k' wX hm ho;rw[e] at e1;cases e1;exact h2 n m x k v k' wX py hm hg ho (Ne.symm cz) ja e3
 have te:∀x,jZ ρ h x->jZ (cK ρ σ) (h.put n<|some<|.tok k v') x:=fun x hn m o M hm ho cH e=>by
  rw[g m hm] at ho;by_cases q:m=n
  ·rw[if_pos q] at ho;cases ho;cases cH
  ·rw[if_neg q] at ho;rw[cZ m hm] at e;exact hn m o M hm ho cH e
 have AD:∀x,w.heap.size<=x->jZ (cK ρ σ) (h.put n<|some<|.tok k v') x:=fun x hx m o M hm ho cH e=>by
  rw[g m hm] at ho;by_cases q:m=n
  ·rw[if_pos q] at ho;cases ho;cases cH
  ·rw[if_neg q] at ho;rw[cZ m hm] at e;obtain⟨b1,N1,o1,e1,e2,_⟩:=r.is m o hm ho;rw[e] at e1;cases e1;have:=gV e2;omega
 obtain⟨⟨_,_⟩,Hq,t1,t2⟩:=q3.tk;obtain⟨oR,hR⟩:=hX.root k v' L' hx;have gb:∀m o,(m,o)∈L'->m<top:=fun m o hm=>(nm _ hm).2.1;have rC:∀m o,(m,o)∈L'->∃x M o',σ m=some (x,M)/\w'.heap[x]? =some o'/\OR σ M o o'/\(o.dv=false->w.heap.size<=x\/cW n x):=fun m o hm=>q3.is m o (gb m o hm)<|hL m o hm;have kind:∀m o,(m,o)∈L'->o.dv=false\/∃k1 v1,o= .tok k1 v1:=fun m o hm=>by
  rcases(nm _ hm).2.2.1 with y|y
  ·exact .inl (ae.vx y).2
  ·cases o<;>first|exact .inr ⟨_,_,rfl⟩|cases y
 let Hn:Nat->Prop:=fun x=>(∃m o M,(m,o)∈L'/\o.dv=false/\σ m=some (x,M))\/∃m k1 v1,(m,ae.tok k1 v1)∈L'/\Hq m x;have HD:∀m o,(m,o)∈L'->∀x M,σ m=some (x,M)->Hn x:=fun m o hm x M e=>by
  rcases kind m o hm with q|⟨k1,v1,rfl⟩
  ·exact .inl ⟨m,o,M,hm,q,e⟩
  ·obtain⟨b1,N1,e1,_,e3,_⟩:=t1 m k1 v1 (gb _ _ hm)<|hL _ _ hm;rw[e] at e1;cases e1;exact .inr ⟨m,k1,v1,hm,e3⟩
 have Fo:∀x,Hn x->x<w'.heap.size/\(w.heap.size<=x\/cW n x)/\∀j sh,σ (hn j x sh)=none:=fun x hx=>by
  rcases hx with⟨m,o,M,hm,q,e⟩|⟨m,k1,v1,hm,q⟩
  ·obtain⟨x1,M1,o',e1,e2,_,e4⟩:=rC m o hm;rw[e] at e1;cases e1;refine⟨gV e2,e4 q,fun j sh=>Classical.byContradiction fun z=>?_⟩;obtain⟨_,_,_,_,_,_,_,z3,_⟩:=q3.fz j x sh z;exact z3 m o M (gb m o hm) (hL m o hm) q e
  ·obtain⟨b1,N1,_,_,_,e4⟩:=t1 m k1 v1 (gb _ _ hm)<|hL _ _ hm;obtain⟨⟨c1,_⟩,c2,_,c4⟩:=e4 x q;exact⟨c1,c2,c4⟩
 refine⟨⟨hl,fun k hk _=>cZ k hk⟩,fun k x hk e=>by rw[ga k hk];exact e,⟨fun m o hm ho=>?_,fun m m2 o p x M M2 hm cX ho hp da e1 e2=>?_,fun m i es ex left cur hm ho=>?_,fun x hx=>r.size x<|Nat.le_trans q4.size hx,fun i j m es ex left cur hJ iW iK iL hi hj ho hp=>?_,fun j x sh e=>?_,?_⟩,CB⟩
 ·rw[g m hm] at ho;by_cases q:m=n
  ·subst q;rw[if_pos rfl] at ho;cases ho;obtain⟨x,M,o',e1,e2,_,_⟩:=rC U oR hR;rw[pd] at e1;cases e1;exact⟨b,N,o',(cZ m hm).trans hr,e2,trivial,fun z=>by cases z⟩
  ·rw[if_neg q] at ho;obtain⟨b1,N1,o1,e1,e2,e3,e4⟩:=r.is m o hm ho;exact⟨b1,N1,o1,(cZ m hm).trans e1,(m8 b1 (gV e2)<|other m o b1 N1 hm q ho e1).trans e2,e3.mono hl,e4⟩
 ·rw[cZ m hm] at e1;rw[cZ m2 cX] at e2;rw[g m hm] at ho;rw[g m2 cX] at hp;have dH:∀m o,(if m=n then some (ae.tok k v') else h.get m)=some o->∃q,h.get m=some q/\(o.dv=false->q.dv=false):=fun m o ho=>by
   by_cases q:m=n
   ·rw[if_pos q] at ho;cases ho;rw[q];exact⟨_,hg,fun z=>by cases z⟩
   ·rw[if_neg q] at ho;exact⟨o,ho,id⟩
  obtain⟨o1,a1,a2⟩:=dH m o ho;obtain⟨o2,a3,a4⟩:=dH m2 p hp;exact r.one m m2 o1 o2 x M M2 hm cX a1 a3 (da.imp a2 a4) e1 e2
 ·rw[g m hm] at ho;by_cases q:m=n
  ·rw[if_pos q] at ho;cases ho
  ·rw[if_neg q] at ho;obtain⟨hi,fx,b1,N1,bm,M,l,bg,seen,u1,u2,u3,u4,u5⟩:=r.iter m i es ex left cur hm ho;have iz:i≠n:=by intro e;subst e;rw[hg] at fx;cases fx
   have u:nu ρ w' m i es ex left cur:=⟨b1,N1,bm,M,l,bg,seen,u1,u2,(m8 b1 (gV u3)<|other m _ b1 N1 hm q ho u1).trans u3,(m8 bm (gV u4)<|other i _ bm M hi iz fx u2).trans u4,u5⟩;exact⟨hi,by rw[g i hi,if_neg iz];exact fx,u.mono hl⟩
 ·rw[g i hi] at ho;rw[g j hj] at hp;by_cases q:i=n
  ·rw[if_pos q] at ho;cases ho
  ·rw[if_neg q] at ho;by_cases q2:j=n
   ·rw[if_pos q2] at hp;cases hp
   ·rw[if_neg q2] at hp;exact r.lone i j m es ex left cur hJ iW iK iL hi hj ho hp
 ·rw[ga _<|gg _ _ _] at e;obtain⟨g0,l,c,e',fr,g1,g2,_,g4⟩:=q3.fz j x sh e;have mY:∀i y,l[i]? =some y->∃v,c[sh+i]? =some v/\VR (gq<|cK ρ σ) y v/\y.cj=true:=fun i y hy=>by
   obtain⟨v,k1,k2,k3⟩:=g4 i y hy;refine⟨v,k1,VR.mono (fun z u q=>?_) _ _ k2,k3⟩;unfold gq at q ⊢;split at q
   ·rename_i hk;rw[if_pos hk,ga z hk];exact q
   ·cases q
  by_cases q:ρ (hn j x sh)≠none
  ·obtain⟨z0,l',c',e2,ko,z1,z2,z3,_⟩:=r.fz j x sh q;exact⟨z0,l,c,e',fr,g1,g2,te x z3,mY⟩
  ·rcases g0.resolve_left q with z|z
   ·have z:w.heap.size<=x:=z;exact⟨.inr<|r.size x z,l,c,e',fr,g1,g2,AD x z,mY⟩
   ·exact⟨.inr (hH x z).2.1,l,c,e',fr,g1,g2,te x (hH x z).2.2.1,mY⟩
 ·let H':Nat->Nat->Prop:=fun m x=>if m=n then Hn x else cW m x
  have II:∀x,Hn x->H' n x:=fun x hx=>by show(if n=n then Hn x else _);rw[if_pos rfl];exact hx
  have hsn:∀x,H' n x->Hn x:=fun x hx=>by have hx:(if n=n then Hn x else cW n x):=hx;rw[if_pos rfl] at hx;exact hx
  have hso:∀m x,m≠n->H' m x->cW m x:=fun m x hm hx=>by have hx:(if m=n then Hn x else cW m x):=hx;rw[if_neg hm] at hx;exact hx
  have aj2:∀m x,m≠n->cW m x->H' m x:=fun m x hm hx=>by show(if m=n then Hn x else cW m x);rw[if_neg hm];exact hx
  have Dh:H' n=Hn:=funext fun x=>propext ⟨hsn x,II x⟩;have ze:∀m,m≠n->H' m=cW m:=fun m hm=>funext fun x=>propext ⟨hso m x hm,aj2 m x hm⟩;refine⟨⟨Nat.le_trans r.tk.1.1 q4.size,fun m o hm ho hf=>?_⟩,H',fun m k1 v1 hm ho=>?_,fun m m2 x k1 v1 k2 v2 hm cX ho hp cz y1 y2=>?_⟩
  ·rw[g m hm] at ho;by_cases q:m=n
   ·rw[if_pos q] at ho;cases ho;cases hf
   ·rw[if_neg q] at ho;obtain⟨b1,N1,e1,e2⟩:=r.tk.1.2 m o hm ho hf;exact⟨b1,N1,(cZ m hm).trans e1,e2⟩
  ·rw[g m hm] at ho;by_cases q:m=n
   ·subst q;rw[if_pos rfl] at ho;cases ho;rw[Dh];refine⟨b,N,(cZ m hm).trans hr,?_,HD U oR hR b N0 pd,fun x hx=>?_⟩
    ·rw[hT];let bl:Nat->Nat:=fun m=>match σ m with|some (x,_)=>x|none=>0
     have nL:∀m x M,σ m=some (x,M)->bl m=x:=fun m x M e=>by show(match σ m with|some (x,_)=>x|none=>0)=x;rw[e]
     refine .mk L' (fun m=>if m∈L'.map (·.1) then σ m else none) bl Hq N0 hx ?_ (fun m hm=>?_) (fun m o hm=>?_) (fun m m2 o p hm cX e=>?_) (fun m k1 v1 hm=>?_) (fun m k1 v1 hm=>?_) (fun m k1 v1 hm x hx=>.inr ⟨m,k1,v1,hm,hx⟩) (fun m k1 v1 m2 o hm cX ho y=>?_) fun m k1 v1 m2 k2 v2 x hm cX cz y1 y2=>t2 m m2 x k1 v1 k2 v2 (gb _ _ hm) (gb _ _ cX) (hL _ _ hm) (hL _ _ cX) cz y1 y2
     ·rw[if_pos<|List.mem_map.2 ⟨_,hR,rfl⟩];exact pd
     ·refine if_neg fun z=>?_;obtain⟨p,hp,rfl⟩:=List.mem_map.1 z;have:=(nm p hp).1;omega
     ·obtain⟨x,M,o',e1,e2,e3,_⟩:=rC m o hm;refine⟨M,o',?_,by rw[nL m x M e1];exact e2,?_,by rw[nL m x M e1];exact HD m o hm x M e1⟩
      ·rw[if_pos<|List.mem_map.2 ⟨_,hm,rfl⟩,nL m x M e1];exact e1
      ·refine((nm _ hm).2.2.2 _ _ _ e3).mono fun i y hi=>?_;have hi:(if top<=i\/i∈L'.map (·.1) then σ i else none)=some y:=hi;unfold yK;split at hi
       ·rename_i q;rcases q with q|q
        ·rw[if_pos q,ga i q];exact hi
        ·by_cases z:top<=i
         ·rw[if_pos z,ga i z];exact hi
         ·rw[if_neg z];show(if i∈L'.map (·.1) then σ i else none)=_;rw[if_pos q];exact hi
       ·cases hi
     ·obtain⟨x,M,_,e1,_,_,_⟩:=rC m o hm;obtain⟨x2,M2,_,e2,_,_,_⟩:=rC m2 p cX;rw[nL m x M e1,nL m2 x2 M2 e2] at e;subst e;rcases kind m o hm with y|⟨k1,v1,rfl⟩
      ·exact q3.one m m2 o p x M M2 (gb _ _ hm) (gb _ _ cX) (hL _ _ hm) (hL _ _ cX) (.inl y) e1 e2
      ·rcases kind m2 p cX with y|⟨k2,v2,rfl⟩
       ·exact q3.one m m2 _ p x M M2 (gb _ _ hm) (gb _ _ cX) (hL _ _ hm) (hL _ _ cX) (.inr y) e1 e2
       ·refine Classical.byContradiction fun cz=>?_;obtain⟨b1,N1,f1,_,f3,_⟩:=t1 m k1 v1 (gb _ _ hm)<|hL _ _ hm;obtain⟨b2,N2,f4,_,f6,_⟩:=t1 m2 k2 v2 (gb _ _ cX)<|hL _ _ cX;rw[e1] at f1;cases f1;rw[e2] at f4;cases f4;exact t2 m m2 x k1 v1 k2 v2 (gb _ _ hm) (gb _ _ cX) (hL _ _ hm) (hL _ _ cX) cz f3 f6
     ·obtain⟨b1,N1,f1,f2,_,_⟩:=t1 m k1 v1 (gb _ _ hm)<|hL _ _ hm;rw[nL m b1 N1 f1];have f2:B.inv k1 v1 σ w' b1<|Hq m:=f2;rw[hT] at f2;exact f2.mono (fun i y hi e=>by rw[ga i hi];exact e) fun _ _=>rfl
     ·obtain⟨b1,N1,f1,_,f3,_⟩:=t1 m k1 v1 (gb _ _ hm)<|hL _ _ hm;rw[nL m b1 N1 f1];exact f3
     ·obtain⟨b1,N1,_,_,_,f4⟩:=t1 m k1 v1 (gb _ _ hm)<|hL _ _ hm;obtain⟨x2,M2,_,e2,_,_,_⟩:=rC m2 o cX;rw[nL m2 x2 M2 e2] at y;obtain⟨_,_,c3,_⟩:=f4 x2 y;rcases kind m2 o cX with z|⟨k2,v2,rfl⟩
      ·exact c3 m2 o M2 (gb _ _ cX) (hL _ _ cX) z e2
      ·cases ho
    ·obtain⟨c1,c2,c3⟩:=Fo x hx;refine⟨⟨c1,?_⟩,?_,?_,fun j sh=>by rw[ga _<|gg _ _ _];exact c3 j sh⟩
     ·rcases c2 with z|z
      ·exact Nat.le_trans r.tk.1.1 z
      ·exact(hH x z).1.2
     ·rcases c2 with z|z
      ·exact r.size x z
      ·exact(hH x z).2.1
     ·rcases c2 with z|z
      ·exact AD x z
      ·exact te x (hH x z).2.2.1
   ·rw[if_neg q] at ho;rw[ze m q];obtain⟨b1,N1,f1,f2,f3,f4⟩:=h1 m k1 v1 hm ho;refine⟨b1,N1,(cZ m hm).trans f1,B.mono f2 (fun i y _ e=>hl _ _ e) fun x hx=>?_,f3,fun x hx=>?_⟩
    ·exact m8 x (f4 x hx).1.1 fun z=>h2 n m x k v k1 v1 py hm hg ho (Ne.symm q) z hx
    ·obtain⟨⟨c1,cl⟩,c2,c3,c4⟩:=f4 x hx;refine⟨⟨Nat.lt_of_lt_of_le c1 q4.size,cl⟩,c2,te x c3,fun j sh=>Classical.byContradiction fun z=>?_⟩;rw[ga _<|gg _ _ _] at z;rcases(q3.fz j x sh z).1 with y|y
     ·exact y<|c4 j sh
     ·rcases y with y|y
      ·have y:w.heap.size<=x:=y;omega
      ·exact h2 n m x k v k1 v1 py hm hg ho (Ne.symm q) y hx
  ·rw[g m hm] at ho;rw[g m2 cX] at hp;have cl:∀m k1 v1,m<top->m≠n->h.get m=some (.tok k1 v1)->∀x,Hn x->¬cW m x:=fun m k1 v1 hm cz ho x hx y=>by
    obtain⟨_,c2,_⟩:=Fo x hx;rcases c2 with z|z
    ·obtain⟨b1,N1,_,_,_,f4⟩:=h1 m k1 v1 hm ho;have:=(f4 x y).1.1;omega
    ·exact h2 n m x k v k1 v1 py hm hg ho (Ne.symm cz) z y
   by_cases q:m=n
   ·rw[if_pos q] at ho;cases ho;have q2:m2≠n:=fun e=>cz<|q.trans e.symm;rw[if_neg q2] at hp;rw[q,Dh] at y1;rw[ze m2 q2] at y2;exact cl m2 k2 v2 cX q2 hp x y1 y2
   ·rw[if_neg q] at ho;rw[ze m q] at y1;by_cases q2:m2=n
    ·rw[if_pos q2] at hp;cases hp;rw[q2,Dh] at y2;exact cl m k1 v1 hm q ho x y2 y1
    ·rw[if_neg q2] at hp;rw[ze m2 q2] at y2;exact h2 m m2 x k1 v1 k2 v2 hm cX ho hp cz y1 y2
end Go.Rn
namespace Go.Rn
open Go.RowKit
variable {s1 s:AS}
theorem U2{n:Nat}{o:Option ae}{u:Unit}(h:lE n o s= .ok u s1):
 n<s.nx/\n<top/\s1.h=s.h.put n o/\s1.nx=s.nx:=by
 obtain⟨h1,h2,h3,rfl⟩:=VP h;by_cases e:n<s.mark
 ·rw[if_pos e];exact⟨h1,h2,rfl,rfl⟩
 ·rw[if_neg e];exact⟨h1,h2,rfl,rfl⟩
def mj(X:TX)(P:Program)(rs:List ResultVar)(k:Nat)(y:AV)(v':AV):=Fin P rs fun y1 s'=>y1=y/\∃L',X k v' L'/\∀m o,(m,o)∈L'->s'.h.get m=some o
theorem U3{X:TX}{P:Program}{B:aI}{f U k:Nat}{ns:List Nat}{h0:Tr ae}{kn:List<|Nat×Option ae}{val:AV->List AV->Option (AV×AV)}{fn:Func}{body:Code}{ρ:aw}{w:World}(hX:zc X U)(hT:B.inv=n9 X U)(hP:bC P)(ch:P.funcs[f]? =some fn)(cw:fn.body=some body)(dE:(fn.name == "runtime.NumGoroutine")=false)(fD:fH<=U)(dJ:U<=top)(dG:∀n o,n<top->h0.get n=some o->n∈ns)(ep:∀n∈ns,n<U)(iA:∀n o,(n,some o)∈kn->h0.get n=some o)(iB:∀p∈kn,p.1<top)(eL:∀v rest y v',val v rest=some (y,v')->max fn.ntmps (rest.length+1)<=top/\∀L,X k v L->∃nx,U<nx/\nx<=top/\(∀p∈L,p.1<nx)/\∀B':aI,B'.F=B.F->B'.inv=B.inv->
 av P B' (U+1) (mj X P fn.results.toList k y v') ⟨f,eg<|.ptr (some (U,0))::rest,max fn.ntmps<|rest.length+1,[.code body],[],none⟩ ⟨fL<|kn++bQ L,nx,0,[],[]⟩){SG:aO}{args:List AV}{x:AV}{vs:Array Value}(r:Rel B ρ s.h w)(hg:gk ρ)(h:yL U ns h0 k val SG args s= .ok x s1)(hv:az ρ args vs.toList):jo P ((callFunc f vs).run P w)<|ki B ρ s s1 w x:=by
 unfold yL at h;split at h
 ·rename_i n rest;obtain⟨hh,h1⟩:=cY h;obtain⟨ga,Ix⟩:=and_true.1 hh;obtain⟨u,s2,h2,h3⟩:=M.aR h1;obtain⟨o,s3,h4,h5⟩:=M.aR h3;obtain⟨a1,a2,a3⟩:=tH h2;obtain⟨b1,b2,b3,b4⟩:=fY h4;split at h5
  ·rename_i k' v;obtain⟨hk,h6⟩:=cY h5;have hk:=Nat.eq_of_beq_eq_true hk;subst hk;obtain⟨p,h7,h8⟩:=bw h6;obtain⟨h9,gH⟩:=cY h8;obtain⟨u2,s4,uY,rA⟩:=M.aR gH;obtain⟨rfl,rfl⟩:=bI rA;obtain⟨c1,c2,c3,c4⟩:=U2 uY;obtain⟨y,v'⟩:=p;have kj:s.h.get n=some (.tok k v):=by rw[←a1];exact b2
   obtain⟨_,cW,t1,t2⟩:=r.tk;obtain⟨b,N,d1,d2,d3,d4⟩:=t1 n k v c2 kj;have Zn:=d2;rw[hT] at Zn;obtain⟨L,loc,N0,hx,pd,ah9,m9⟩:=ah7 hX hT dJ r dG ep iA iB (fun n hn=>by obtain⟨_,o,p,h⟩:=a3 n hn;exact⟨o,p,h⟩) d4 Zn;obtain⟨q1,q2⟩:=eL _ _ _ _ h7;obtain⟨nx,n1,n2,n3,q3⟩:=q2 L hx;have fi:bF (⟨fL<|kn++bQ L,nx,0,[],[]⟩:AS):=⟨Nat.zero_le _,n2⟩;have aj3:U<top:=Nat.lt_of_lt_of_le n1 n2;have hi:iM ρ<|mM U ρ loc:=fun m x hm e=>by unfold mM;rw[if_neg ak,if_pos hm];exact e
   have WV:mM U ρ loc U=some (b,N0):=by unfold mM;rw[if_neg ak,if_neg ak];exact pd
   have jK:az (mM U ρ loc) (.ptr (some (U,0))::rest) vs.toList:=by simp only[az,VR] at hv ⊢;obtain⟨v0,vr,e1,⟨b',N',e2,e3⟩,e4⟩:=hv;rw[d1] at e2;cases e2;exact⟨v0,vr,e1,⟨b,N0,WV,e3⟩,AV.zX hi ga e4⟩
   have bJ:=av.En (B:=se B ρ w<|cW n) (s:=⟨fL<|kn++bQ L,nx,0,[],[]⟩) (args:=.ptr (some (U,0))::rest) (vs:=vs) hP ch cw q1 (q3 _ rfl rfl) fi m9 (fun g hZ=>by
    obtain⟨N,e⟩:=hg g hZ;exact⟨N,by unfold mM;rw[if_pos<|Nat.lt_of_lt_of_le hZ fD];exact e⟩) (fun m hm ju=>by
    have hm:nx<=m:=hm;unfold mM;rw[if_neg ak,if_neg ak];cases e:loc m with
    |none=>rfl
    |some z=>obtain⟨o,q⟩:=ah9 m z e;have:=n3 _ q;have:m<nx:=this;omega) jK
   rw[tI ch cw dE];show Calls P f vs w _;refine bJ.mono fun e w'=>?_;rintro ⟨y1,x',s5,rfl,⟨rfl,L',rB,Mz⟩,_,σ,e0,IH,e1,e2,e3⟩;obtain⟨g1,g2,g3,g4⟩:=agO (a:=s.nx) (v':=v') hX hT c2 kj d1 r t1 t2 e2 e3 ((e0 U (Nat.lt_succ_self _) aj3).trans WV) (fun m z hm q=>IH m z hm<|hi m z hm q) rB Mz;refine⟨y1,rfl,cK ρ σ,by rw[c4,b4,a2];exact g1,AV.pb g2 h9 e1,?_,g4⟩;rw[c3,b3,a1];exact g3
  ·cases h5
 ·cases h
end Go.Rn
namespace Go.Rn
open Go.RowKit
theorem agP{X:TX}{U k a:Nat}{v:AV}{B:aI}{ρ σ:aw}{w w':World}{h h4:Tr ae}{b N0:Nat}{L':List<|Nat×ae}(hX:zc X U)(hT:B.inv=n9 X U)(ht:U<=top)(ay:a<top)(ha:ρ a=none)(r:Rel B ρ h w)(q3:Rel (sd B ρ w) σ h4 w')(q4:cP (sd B ρ w) w w')(hle:(gm U ρ).le σ)(pd:σ U=some (b,N0))(hx:X k v L')(hL:∀m o,(m,o)∈L'->h4.get m=some o):
 Ext a (a+1) ρ (eR (cK ρ σ) a (b,0))/\iM σ (eR (cK ρ σ) a (b,0))/\Rel B (eR (cK ρ σ) a (b,0)) (h.put a<|some<|.tok k v) w'/\cP B w w':=by
 obtain⟨b1,b2,R1,b4⟩:=Kz (a:=a) ht r q3 q4 hle;have nm:=hX.nm k v L' hx;have cZ:∀k,k<top->cK ρ σ k=ρ k:=fun k hk=>by unfold cK;rw[if_neg ak]
 have ga:∀k,top<=k->cK ρ σ k=σ k:=fun k hk=>by unfold cK;rw[if_pos hk]
 have RU:cK ρ σ a=none:=(cZ a ay).trans ha;have hl:(cK ρ σ).le<|eR (cK ρ σ) a (b,0):=oP RU;have Fp:∀k,top<=k->eR (cK ρ σ) a (b,0) k=σ k:=fun k hk=>by rw[gM _ _ ak];exact ga k hk
 have mr:h.get a=none:=by
  cases e:h.get a with
  |none=>rfl
  |some p=>obtain⟨_,_,_,h1,_⟩:=r.is a p ay e;rw[ha] at h1;cases h1
 have g:∀m,m<top->(h.put a<|some<|.tok k v).get m=if m=a then some (.tok k v) else h.get m:=fun m hm=>Tr.du _ _ _ _ ay hm
 have m8:∀x,x<w.heap.size->w'.heap[x]? =w.heap[x]? :=fun x hx=>q4.block x hx fun z=>by have z:w.heap.size<=x:=z;omega
 have te:∀x,jZ ρ h x->jZ (eR (cK ρ σ) a (b,0)) (h.put a<|some<|.tok k v) x:=fun x hn m o M hm ho cH e=>by
  rw[g m hm] at ho;by_cases q:m=a
  ·rw[if_pos q] at ho;cases ho;cases cH
  ·rw[if_neg q] at ho;rw[gM _ _ q,cZ m hm] at e;exact hn m o M hm ho cH e
 have AD:∀x,w.heap.size<=x->jZ ρ h x:=fun x hx m o M hm ho cH e=>by obtain⟨b1,N1,o1,e1,e2,_⟩:=r.is m o hm ho;rw[e] at e1;cases e1;have:=gV e2;omega
 obtain⟨⟨_,_⟩,cW,h1,h2⟩:=r.tk;obtain⟨⟨_,_⟩,Hq,t1,t2⟩:=q3.tk;obtain⟨oR,hR⟩:=hX.root k v L' hx;have gb:∀m o,(m,o)∈L'->m<top:=fun m o hm=>(nm _ hm).2.1;have rC:∀m o,(m,o)∈L'->∃x M o',σ m=some (x,M)/\w'.heap[x]? =some o'/\OR σ M o o'/\(o.dv=false->w.heap.size<=x):=fun m o hm=>q3.is m o (gb m o hm)<|hL m o hm;have kind:∀m o,(m,o)∈L'->o.dv=false\/∃k1 v1,o= .tok k1 v1:=fun m o hm=>by
  rcases(nm _ hm).2.2.1 with y|y
  ·exact .inl (ae.vx y).2
  ·cases o<;>first|exact .inr ⟨_,_,rfl⟩|cases y
 let Hn:Nat->Prop:=fun x=>(∃m o M,(m,o)∈L'/\o.dv=false/\σ m=some (x,M))\/∃m k1 v1,(m,ae.tok k1 v1)∈L'/\Hq m x;have HD:∀m o,(m,o)∈L'->∀x M,σ m=some (x,M)->Hn x:=fun m o hm x M e=>by
  rcases kind m o hm with q|⟨k1,v1,rfl⟩
  ·exact .inl ⟨m,o,M,hm,q,e⟩
  ·obtain⟨b1,N1,e1,_,e3,_⟩:=t1 m k1 v1 (gb _ _ hm)<|hL _ _ hm;rw[e] at e1;cases e1;exact .inr ⟨m,k1,v1,hm,e3⟩
 have Fo:∀x,Hn x->x<w'.heap.size/\w.heap.size<=x/\∀j sh,σ (hn j x sh)=none:=fun x hx=>by
  rcases hx with⟨m,o,M,hm,q,e⟩|⟨m,k1,v1,hm,q⟩
  ·obtain⟨x1,M1,o',e1,e2,_,e4⟩:=rC m o hm;rw[e] at e1;cases e1;refine⟨gV e2,e4 q,fun j sh=>Classical.byContradiction fun z=>?_⟩;obtain⟨_,_,_,_,_,_,_,z3,_⟩:=q3.fz j x sh z;exact z3 m o M (gb m o hm) (hL m o hm) q e
  ·obtain⟨b1,N1,_,_,_,e4⟩:=t1 m k1 v1 (gb _ _ hm)<|hL _ _ hm;obtain⟨⟨c1,_⟩,c2,_,c4⟩:=e4 x q;exact⟨c1,c2,c4⟩
 have IJ:Hn b:=HD U oR hR b N0 pd;refine⟨⟨aw.le_trans b1.le hl,fun k hk hka=>(gM _ _ ak).trans<|b1.out k hk ak⟩,fun m x hm e=>by rw[Fp m hm];exact e,⟨fun m o hm ho=>?_,fun m m2 o p x M M2 hm cX ho hp da e1 e2=>?_,fun m i es ex left cur hm ho=>?_,R1.size,fun i j m es ex left cur hJ iW iK iL hi hj ho hp=>?_,fun j x sh e=>?_,?_⟩,b4⟩
 ·rw[g m hm] at ho;by_cases q:m=a
  ·subst q;rw[if_pos rfl] at ho;cases ho;obtain⟨x,M,o',e1,e2,_,_⟩:=rC U oR hR;rw[pd] at e1;cases e1;exact⟨b,0,o',iQ _ _ _,e2,trivial,fun z=>by cases z⟩
  ·rw[if_neg q] at ho;obtain⟨b1,N1,o1,e1,e2,e3,e4⟩:=R1.is m o hm ho;exact⟨b1,N1,o1,hl _ _ e1,e2,e3.mono hl,e4⟩
 ·rw[g m hm] at ho;rw[g m2 cX] at hp;have sP:∀m o M,m<top->h.get m=some o->o.dv=false->ρ m=some (b,M)->False:=fun m o M hm ho cH e=>AD b (Fo b IJ).2.1 m o M hm ho cH e;by_cases q:m=a
  ·rw[if_pos q] at ho;cases ho;by_cases q2:m2=a
   ·rw[q,q2]
   ·rw[if_neg q2] at hp;rw[q,iQ] at e1;cases e1;rw[gM _ _ q2,cZ m2 cX] at e2;exact(sP m2 p M2 cX hp (da.resolve_left fun z=>by cases z) e2).elim
  ·rw[if_neg q] at ho;by_cases q2:m2=a
   ·rw[if_pos q2] at hp;cases hp;rw[q2,iQ] at e2;cases e2;rw[gM _ _ q,cZ m hm] at e1;exact(sP m o M hm ho (da.resolve_right fun z=>by cases z) e1).elim
   ·rw[if_neg q2] at hp;rw[gM _ _ q] at e1;rw[gM _ _ q2] at e2;exact R1.one m m2 o p x M M2 hm cX ho hp da e1 e2
 ·rw[g m hm] at ho;by_cases q:m=a
  ·rw[if_pos q] at ho;cases ho
  ·rw[if_neg q] at ho;obtain⟨hi,fx,u⟩:=R1.iter m i es ex left cur hm ho;have iz:i≠a:=by intro e;subst e;rw[mr] at fx;cases fx
   exact⟨hi,by rw[g i hi,if_neg iz];exact fx,u.mono hl⟩
 ·rw[g i hi] at ho;rw[g j hj] at hp;by_cases q:i=a
  ·rw[if_pos q] at ho;cases ho
  ·rw[if_neg q] at ho;by_cases q2:j=a
   ·rw[if_pos q2] at hp;cases hp
   ·rw[if_neg q2] at hp;exact R1.lone i j m es ex left cur hJ iW iK iL hi hj ho hp
 ·rw[gM _ _ (by have:=gg j x sh;omega)] at e;obtain⟨g0,l,c,e',fr,g1,g2,g3,g4⟩:=R1.fz j x sh e;refine⟨g0,l,c,e',fr,g1,g2,fun m o M hm ho cH e=>?_,fun i y hy=>by obtain⟨v,k1,k2,k3⟩:=g4 i y hy;exact⟨v,k1,VR.mono (GI hl) _ _ k2,k3⟩⟩;rw[g m hm] at ho;by_cases q:m=a
  ·rw[if_pos q] at ho;cases ho;cases cH
  ·rw[if_neg q] at ho;rw[gM _ _ q] at e;exact g3 m o M hm ho cH e
 ·let H':Nat->Nat->Prop:=fun m x=>if m=a then Hn x else cW m x
  have Dh:H' a=Hn:=funext fun x=>if_pos rfl;have ze:∀m,m≠a->H' m=cW m:=fun m hm=>funext fun x=>if_neg hm;refine⟨⟨Nat.le_trans r.tk.1.1 q4.size,fun m o hm ho hf=>?_⟩,H',fun m k1 v1 hm ho=>?_,fun m m2 x k1 v1 k2 v2 hm cX ho hp cz y1 y2=>?_⟩
  ·rw[g m hm] at ho;by_cases q:m=a
   ·rw[if_pos q] at ho;cases ho;cases hf
   ·rw[if_neg q] at ho;obtain⟨b1,N1,e1,e2⟩:=r.tk.1.2 m o hm ho hf;exact⟨b1,N1,(gM _ _ q).trans<|(cZ m hm).trans e1,e2⟩
  ·rw[g m hm] at ho;by_cases q:m=a
   ·subst q;rw[if_pos rfl] at ho;cases ho;rw[Dh];refine⟨b,0,iQ _ _ _,?_,IJ,fun x hx=>?_⟩
    ·rw[hT];let bl:Nat->Nat:=fun m=>match σ m with|some (x,_)=>x|none=>0
     have nL:∀m x M,σ m=some (x,M)->bl m=x:=fun m x M e=>by show(match σ m with|some (x,_)=>x|none=>0)=x;rw[e]
     refine .mk L' (fun m=>if m∈L'.map (·.1) then σ m else none) bl Hq N0 hx ?_ (fun m hm=>?_) (fun m o hm=>?_) (fun m m2 o p hm cX e=>?_) (fun m k1 v1 hm=>?_) (fun m k1 v1 hm=>?_) (fun m k1 v1 hm x hx=>.inr ⟨m,k1,v1,hm,hx⟩) (fun m k1 v1 m2 o hm cX ho y=>?_) fun m k1 v1 m2 k2 v2 x hm cX cz y1 y2=>t2 m m2 x k1 v1 k2 v2 (gb _ _ hm) (gb _ _ cX) (hL _ _ hm) (hL _ _ cX) cz y1 y2
     ·rw[if_pos<|List.mem_map.2 ⟨_,hR,rfl⟩];exact pd
     ·refine if_neg fun z=>?_;obtain⟨p,hp,rfl⟩:=List.mem_map.1 z;have:=(nm p hp).1;omega
     ·obtain⟨x,M,o',e1,e2,e3,_⟩:=rC m o hm;refine⟨M,o',?_,by rw[nL m x M e1];exact e2,?_,by rw[nL m x M e1];exact HD m o hm x M e1⟩
      ·rw[if_pos<|List.mem_map.2 ⟨_,hm,rfl⟩,nL m x M e1];exact e1
      ·refine((nm _ hm).2.2.2 _ _ _ e3).mono fun i y hi=>?_;have hi:(if top<=i\/i∈L'.map (·.1) then σ i else none)=some y:=hi;unfold yK;split at hi
       ·rename_i q;rcases q with q|q
        ·rw[if_pos q,Fp i q];exact hi
        ·by_cases z:top<=i
         ·rw[if_pos z,Fp i z];exact hi
         ·rw[if_neg z];show(if i∈L'.map (·.1) then σ i else none)=_;rw[if_pos q];exact hi
       ·cases hi
     ·obtain⟨x,M,_,e1,_,_,_⟩:=rC m o hm;obtain⟨x2,M2,_,e2,_,_,_⟩:=rC m2 p cX;rw[nL m x M e1,nL m2 x2 M2 e2] at e;subst e;rcases kind m o hm with y|⟨k1,v1,rfl⟩
      ·exact q3.one m m2 o p x M M2 (gb _ _ hm) (gb _ _ cX) (hL _ _ hm) (hL _ _ cX) (.inl y) e1 e2
      ·rcases kind m2 p cX with y|⟨k2,v2,rfl⟩
       ·exact q3.one m m2 _ p x M M2 (gb _ _ hm) (gb _ _ cX) (hL _ _ hm) (hL _ _ cX) (.inr y) e1 e2
       ·refine Classical.byContradiction fun cz=>?_;obtain⟨b1,N1,f1,_,f3,_⟩:=t1 m k1 v1 (gb _ _ hm)<|hL _ _ hm;obtain⟨b2,N2,f4,_,f6,_⟩:=t1 m2 k2 v2 (gb _ _ cX)<|hL _ _ cX;rw[e1] at f1;cases f1;rw[e2] at f4;cases f4;exact t2 m m2 x k1 v1 k2 v2 (gb _ _ hm) (gb _ _ cX) (hL _ _ hm) (hL _ _ cX) cz f3 f6
     ·obtain⟨b1,N1,f1,f2,_,_⟩:=t1 m k1 v1 (gb _ _ hm)<|hL _ _ hm;rw[nL m b1 N1 f1];have f2:B.inv k1 v1 σ w' b1<|Hq m:=f2;rw[hT] at f2;exact f2.mono (fun i y hi e=>by rw[Fp i hi];exact e) fun _ _=>rfl
     ·obtain⟨b1,N1,f1,_,f3,_⟩:=t1 m k1 v1 (gb _ _ hm)<|hL _ _ hm;rw[nL m b1 N1 f1];exact f3
     ·obtain⟨b1,N1,_,_,_,f4⟩:=t1 m k1 v1 (gb _ _ hm)<|hL _ _ hm;obtain⟨x2,M2,_,e2,_,_,_⟩:=rC m2 o cX;rw[nL m2 x2 M2 e2] at y;obtain⟨_,_,c3,_⟩:=f4 x2 y;rcases kind m2 o cX with z|⟨k2,v2,rfl⟩
      ·exact c3 m2 o M2 (gb _ _ cX) (hL _ _ cX) z e2
      ·cases ho
    ·obtain⟨c1,c2,c3⟩:=Fo x hx;exact⟨⟨c1,Nat.le_trans r.tk.1.1 c2⟩,r.size x c2,te x<|AD x c2,fun j sh=>by rw[Fp _<|gg _ _ _];exact c3 j sh⟩
   ·rw[if_neg q] at ho;rw[ze m q];obtain⟨Zo,N1,f1,f2,f3,f4⟩:=h1 m k1 v1 hm ho;refine⟨Zo,N1,(gM _ _ q).trans<|(cZ m hm).trans f1,B.mono f2 (fun i y _ e=>hl _ _<|b1.le _ _ e) fun x hx=>m8 x (f4 x hx).1.1,f3,fun x hx=>?_⟩;obtain⟨⟨c1,cl⟩,c2,c3,c4⟩:=f4 x hx;refine⟨⟨Nat.lt_of_lt_of_le c1 q4.size,cl⟩,c2,te x c3,fun j sh=>Classical.byContradiction fun z=>?_⟩;rw[Fp _<|gg _ _ _] at z;rcases(q3.fz j x sh z).1 with y|y
    ·exact y<|c4 j sh
    ·have y:w.heap.size<=x:=y;omega
  ·rw[g m hm] at ho;rw[g m2 cX] at hp;have cl:∀m k1 v1,m<top->h.get m=some (.tok k1 v1)->∀x,Hn x->¬cW m x:=fun m k1 v1 hm ho x hx y=>by obtain⟨_,c2,_⟩:=Fo x hx;obtain⟨b1,N1,_,_,_,f4⟩:=h1 m k1 v1 hm ho;have:=(f4 x y).1.1;omega
   by_cases q:m=a
   ·have q2:m2≠a:=fun e=>cz<|q.trans e.symm;rw[if_neg q2] at hp;rw[q,Dh] at y1;rw[ze m2 q2] at y2;exact cl m2 k2 v2 cX hp x y1 y2
   ·rw[if_neg q] at ho;rw[ze m q] at y1;by_cases q2:m2=a
    ·rw[q2,Dh] at y2;exact cl m k1 v1 hm ho x y2 y1
    ·rw[if_neg q2] at hp;rw[ze m2 q2] at y2;exact h2 m m2 x k1 v1 k2 v2 hm cX ho hp cz y1 y2
end Go.Rn
namespace Go.Rn
open Go.RowKit
variable {U:Nat} {x:AV}
noncomputable section
def CE(U:Nat)(ns:List Nat)(h0:Tr ae)(k:Nat)(val:List AV->Option (Option AV×(AV->AV))):aO->List AV->M AV:=fun _ args=>
 aF (args.all AV.hi) <| (fe U h0 ns).bind fun _=>aC (val args) fun p=>match p.1 with
  |none=>aF (p.2<|.ptr none).hi <| M.pure<|p.2<|.ptr none
  |some v=>(gC<|.tok k v).bind fun n=>M.pure<|p.2<|.ptr<|some (n,0)
end
theorem SF.CE(U:Nat)(ns:List Nat)(h0:Tr ae)(k:Nat)(val:List AV->Option (Option AV×(AV->AV)))(SG:aO)(args:List AV):SF<|CE U ns h0 k val SG args:=by
 refine SF.aF fun _=>SF.bind (SF.fe U h0 ns) fun _=>SF.aC fun p _=>?_;split
 ·exact SF.aF fun _=>SF.pure _
 ·exact SF.bind (SF.gC _) fun _=>SF.pure _
def we(U:Nat)(res:AV->AV):Prop:=∀(σ IK:aw) (n:Nat) (y:Value),iM σ IK->(∀b N,σ U=some (b,N)->∃N',IK n=some (b,N'))->VR σ (res<|.ptr<|some (U,0)) y->VR IK (res<|.ptr<|some (n,0)) y
theorem adI{X:TX}{P:Program}{B:aI}{f k:Nat}{ns:List Nat}{h0:Tr ae}{val:List AV->Option (Option AV×(AV->AV))}{fn:Func}{body:Code}{ρ:aw}{w:World}{s s1:AS}(hX:zc X U)(hT:B.inv=n9 X U)(hP:bC P)(ch:P.funcs[f]? =some fn)(cw:fn.body=some body)(dE:(fn.name == "runtime.NumGoroutine")=false)(fD:fH<=U)(dJ:U<top)(dG:∀n o,n<top->h0.get n=some o->n∈ns)(ep:∀n∈ns,n<U)(eL:∀args p,val args=some p->max fn.ntmps args.length<=top/\(p.1=none->∀B':aI,B'.F=B.F->B'.inv=B.inv->
 av P B' U (Fin P fn.results.toList fun y _=>y=p.2 (.ptr none)) ⟨f,eg args,max fn.ntmps args.length,[.code body],[],none⟩ ⟨h0,U,0,[],[]⟩)/\
 ∀v,p.1=some v->we U p.2/\∀B':aI,B'.F=B.F->B'.inv=B.inv->av P B' U (mj X P fn.results.toList k (p.2<|.ptr<|some (U,0)) v) ⟨f,eg args,max fn.ntmps args.length,[.code body],[],none⟩ ⟨h0,U,0,[],[]⟩){SG:aO}{args:List AV}{vs:Array Value}(r:Rel B ρ s.h w)(hg:gk ρ)(hf:dK s.nx s1.nx ρ)(h:CE U ns h0 k val SG args s= .ok x s1)(hv:az ρ args vs.toList):jo P ((callFunc f vs).run P w)<|ki B ρ s s1 w x:=by
 have H8:=Nat.le_of_lt dJ;unfold CE at h;obtain⟨ga,h1⟩:=cY h;obtain⟨u,s2,h2,h3⟩:=M.aR h1;obtain⟨p,h4,h5⟩:=bw h3;obtain⟨a1,a2,a3⟩:=tH h2;obtain⟨q1,q2,q3⟩:=eL _ _ h4;have m9:=ES H8 r dG ep (fun n hn=>by obtain⟨_,o,p,h⟩:=a3 n hn;exact⟨o,p,h⟩);have fi:bF (⟨h0,U,0,[],[]⟩:AS):=⟨Nat.zero_le _,H8⟩;have A6:gk<|gm U ρ:=fun g hZ=>by obtain⟨N,e⟩:=hg g hZ;exact⟨N,by unfold gm;rw[if_pos<|Nat.lt_of_lt_of_le hZ fD];exact e⟩
 have ma:∀k,(⟨h0,U,0,[],[]⟩:AS).nx<=k->k<top->gm U ρ k=none:=fun k k1 k2=>by have k1:U<=k:=k1;unfold gm gq;rw[if_neg ak,if_neg ak]
 have Zp:=AV.zX (ρ:=ρ) (σ:=gm U ρ) (fun k y hk e=>by rw[tU H8 hk];exact e) ga hv;rw[tI ch cw dE];show Calls P f vs w _;obtain⟨st,res⟩:=p;cases st with
 |none=>have e0:(none:Option AV)=none:=rfl;obtain⟨h6,h7⟩:=cY (show aF (res<|.ptr none).hi (M.pure<|res<|.ptr none) s2= .ok x s1 from h5);obtain⟨rfl,rfl⟩:=bI h7;refine(av.calls (B:=sd B ρ w) (s:=⟨h0,U,0,[],[]⟩) (args:=args) (vs:=vs) hP ch cw q1 (q2 e0 _ rfl rfl) fi m9 A6 ma Zp).mono fun e w'=>?_;rintro ⟨y,x',s4,rfl,rfl,_,_,σ,e1,e2,e3,e4⟩;obtain⟨b1,b2,b3,b4⟩:=Kz (a:=s.nx) H8 r e3 e4 e1.le;exact⟨y,rfl,cK ρ σ,by rw[a2];exact b1,AV.pb b2 h6 e2,by rw[a1];exact b3,b4⟩
 |some v=>
  have e0:(some v:Option AV)=some v:=rfl;obtain⟨n,s3,h6,h7⟩:=M.aR (show((gC<|.tok k v).bind fun n=>M.pure<|res<|.ptr<|some (n,0)) s2= .ok x s1 from h5);obtain⟨rfl,rfl⟩:=bI h7;obtain⟨FP,rfl,rfl⟩:=vA h6;obtain⟨kD,aj4⟩:=q3 v e0;refine(av.calls (B:=sd B ρ w) (s:=⟨h0,U,0,[],[]⟩) (args:=args) (vs:=vs) hP ch cw q1 (aj4 _ rfl rfl) fi m9 A6 ma Zp).mono fun e w'=>?_;rintro ⟨y,x',s4,rfl,⟨rfl,L',rB,Mz⟩,_,_,σ,e1,e2,e3,e4⟩;obtain⟨oR,hR⟩:=hX.root _ _ _ rB;obtain⟨b,N0,o',r1,_,_,_⟩:=e3.is U oR dJ<|Mz _ _ hR;have RU:ρ s.nx=none:=hf s.nx (Nat.le_refl _) (by show s.nx<s2.nx+1;omega) ak;obtain⟨b1,b2,b3,b4⟩:=agP (a:=s.nx) hX hT H8 ak RU r e3 e4 e1.le r1 rB Mz;refine⟨y,rfl,_,?_,kD σ _ s2.nx y b2 (fun b' N' e=>?_) e2,?_,b4⟩
  ·show Ext s.nx (s2.nx+1) ρ _;rw[a2];exact b1
  ·rw[r1] at e;cases e;rw[a2];exact⟨0,iQ _ _ _⟩
  ·show Rel B _ (s2.h.put s2.nx<|some<|.tok k v) w';rw[a1,a2];exact b3
theorem we.ptr:we U fun p=>p:=fun σ IK n y _ h2 h=>by simp only[VR] at h ⊢;obtain⟨b,N,e1,e2⟩:=h;obtain⟨N',e3⟩:=h2 b N e1;exact⟨b,N',e3,e2⟩
theorem we.RV(hx:x.cq=true):we U fun p=>.tuple [p,x]:=fun σ IK n y h1 h2 h=>by simp only[VR,az] at h ⊢;obtain⟨a,e1,v,l,e2,⟨b,N,e3,e4⟩,v2,l2,e5,e6,e7⟩:=h;obtain⟨N',e8⟩:=h2 b N e3;exact⟨a,e1,v,l,e2,⟨b,N',e8,e4⟩,v2,l2,e5,AV.uc h1 hx e6,e7⟩
end Go.Rn
namespace Go.Rn
open Go.RowKit
variable {β α:Type} {U:Nat} {ns:List Nat} {h0:Tr ae}
theorem Pk{s:AS}{n:Nat}{o:Option ae}{p:ae}(h1:Nat.blt n s.nx=true)(h2:s.h.get n=some p)(h3:p.ll=true)(ht:Nat.blt n top=true):lE n o s= .ok () (fB n o s):=by obtain⟨hh,nx,mark,rd,wr⟩:=s;have e1:(Nat.blt n nx&&Nat.blt n top)=true:=and_true.2 ⟨h1,ht⟩;have e2:hh.get n=some p:=h2;show @Bool.rec (fun _=>R Unit) .bad (@Option.rec ae (fun _=>R Unit) .bad (fun p=> @Bool.rec (fun _=>R Unit) (@Bool.rec (fun _=>R Unit) (.ok () ⟨hh.put n o,nx,mark,rd,wr⟩) (.ok () ⟨hh.put n o,nx,mark,n::rd,n::wr⟩)<|Nat.blt n mark) .bad<|!p.ll)<|hh.get n) (Nat.blt n nx&&Nat.blt n top)=_;rw[e1,e2];show @Bool.rec (fun _=>R Unit) (@Bool.rec (fun _=>R Unit) (.ok () ⟨hh.put n o,nx,mark,rd,wr⟩) (.ok () ⟨hh.put n o,nx,mark,n::rd,n::wr⟩)<|Nat.blt n mark) .bad (!p.ll)=_;rw[h3];show @Bool.rec (fun _=>R Unit) (.ok () ⟨hh.put n o,nx,mark,rd,wr⟩) (.ok () ⟨hh.put n o,nx,mark,n::rd,n::wr⟩) (Nat.blt n mark)= .ok () (@Bool.rec (fun _=>AS) ⟨hh.put n o,nx,mark,rd,wr⟩ ⟨hh.put n o,nx,mark,n::rd,n::wr⟩<|Nat.blt n mark);cases Nat.blt n mark<;>rfl
noncomputable section
inductive KE where
 |val (v:List AV->Option AV)
 |tok (k:Nat) (v:AV->List AV->Option (AV×AV))
 |new (k:Nat) (v:List AV->Option (Option AV×(AV->AV)))
 |raw (m:Nat->List Nat->Tr ae->aO->List AV->M AV)
abbrev bV:=List<|FuncId×KE
def KE.m(U:Nat)(ns:List Nat)(h0:Tr ae):KE->aO->List AV->M AV
 | .val v=>p6 U ns h0 v
 | .tok k v=>yL U ns h0 k v
 | .new k v=>CE U ns h0 k v
 | .raw m=>m U ns h0
def dx(U:Nat)(ns:List Nat)(h0:Tr ae):bV->Sp
 |[]=>fun _=>none
 |p::l=>fun f=>bif Nat.beq f p.1 then some (p.2.m U ns h0) else dx U ns h0 l f
def gQ(val:AV->List AV->Option (AV×AV))(v:AV)(rest:List AV):Option<|AV×AV:=match rest.all AV.hi with
 |true=>(val v rest).bind fun p=>match p.1.hi with
  |true=>some p
  |false=>none
 |false=>none
def lP(val:List AV->Option (Option AV×(AV->AV)))(args:List AV):Option<|Option AV×(AV->AV):=match args.all AV.hi with
 |true=>(val args).bind fun p=>match p.1 with
  |none=>match (p.2<|.ptr none).hi with
   |true=>some p
   |false=>none
  |some _=>some p
 |false=>none
def ET:bV->FuncId->Option KE
 |[]=>fun _=>none
 |p::l=>fun f=>bif Nat.beq f p.1 then some p.2 else ET l f
def KE.v1:KE->Option (List AV->Option AV)
 | .val v=>some<|bp v
 |_=>none
def KE.v2:KE->Option (Nat×(AV->List AV->Option (AV×AV)))
 | .tok k v=>some (k,gQ v)
 |_=>none
def KE.v3:KE->Option (Nat×(List AV->Option (Option AV×(AV->AV))))
 | .new k v=>some (k,lP v)
 |_=>none
def L5(o:Option α)(f:α->Option β):Option β:=match o with
 |some a=>f a
 |none=>none
def wA(P:Program)(U:Nat)(ns:List Nat)(h0:Tr ae)(L:bV)(lo:Nat)(fg:Bool):Env:=⟨P,dx U ns h0 L,FU,fun g=>L5 (ET L g) KE.v1,fun _=>false,qk U h0 ns,dL U h0 ns,lo,fg,fun g=>L5 (ET L g) KE.v2,fun g=>L5 (ET L g) KE.v3,U⟩
end
theorem JQ:∀{L:bV} {g:FuncId} {e:KE},ET L g=some e->dx U ns h0 L g=some (e.m U ns h0)
 |[],g,e,h=>by cases h
 |p::l,g,e,h=>by
  unfold ET at h;unfold dx;cases q:Nat.beq g p.1 with
  |true=>rw[q] at h;injection h with h;rw[h];rfl
  |false=>rw[q] at h;exact JQ h
theorem OK{o:Option α}{f:α->Option β}{b:β}(h:L5 o f=some b):∃a,o=some a/\f a=some b:=by
 cases o with
 |none=>cases h
 |some a=>exact⟨a,rfl,h⟩
theorem eJ{P:Program}{L:bV}{lo:Nat}{fg:Bool}:(wA P U ns h0 L lo fg).Ok:=by
 refine⟨fun g val args v s n h1 h2 h3=>?_,fun g q m v rest y v' s n h1 h2 h3 h4 h5 h6 h7=>?_,fun g q args v res s n h1 h2 h3 h4=>?_,fun g h=>(by cases h)⟩
 ·obtain⟨e,k1,k2⟩:=OK h1;have k3:=JQ (U:=U) (ns:=ns) (h0:=h0) k1;cases e with
  |val v0=>
   injection k2 with k2;subst k2
   show j8 P (dx U ns h0 L) g (bh P (dx U ns h0 L) FU n) args s=_;rw[ua k3];exact acy (SG:=bh P (dx U ns h0 L) FU n) h2 h3
  |tok k v0=>cases k2
  |new k v0=>cases k2
  |raw m0=>cases k2
 ·obtain⟨e,k1,k2⟩:=OK h1;have k3:=JQ (U:=U) (ns:=ns) (h0:=h0) k1;cases e with
  |val v0=>cases k2
  |new k v0=>cases k2
  |raw m0=>cases k2
  |tok k v0=>
   injection k2 with k2;subst k2
   show j8 P (dx U ns h0 L) g (bh P (dx U ns h0 L) FU n) (.ptr (some (m,0))::rest) s=_;rw[ua k3];have h7:gQ v0 v rest=some (y,v'):=h7;unfold gQ at h7;cases e1:rest.all AV.hi with
   |false=>rw[e1] at h7;cases h7
   |true=>
    rw[e1] at h7;cases e2:v0 v rest with
    |none=>rw[e2] at h7;cases h7
    |some p=>
     rw[e2] at h7;have h7:(match p.1.hi with|true=>some p|false=>none)=some (y,v'):=h7;cases e3:p.1.hi with
     |false=>rw[e3] at h7;cases h7
     |true=>
      rw[e3] at h7;injection h7 with h7
      subst h7;show(aF (rest.all AV.hi&&Nat.ble U m) <| (fe U h0 ns).bind fun _=>(bz m).bind fun o=>match o with
       | .tok k' v=>aF (Nat.beq k k') <| aC (v0 v rest) fun p=>aF p.1.hi <| (lE m<|some<|.tok k p.2).bind fun _=>M.pure p.1
       |_=>fail) s=_
      have h3:Nat.ble U m=true:=h3;have h4:Nat.blt m (dL U h0 ns s).nx=true:=h4;have h6:(dL U h0 ns s).h.get m=some (.tok k v):=h6;rw[e1,h3,(show(true&&true)=true from rfl),dA,M.bO<|vM h2,M.bO<|lY h4 h6];show(aF (Nat.beq k k) <| aC (v0 v rest) fun p=>aF p.1.hi <| (lE m<|some<|.tok k p.2).bind fun _=>M.pure p.1) (bc m<|dL U h0 ns s)=_;rw[eB.2 rfl,dA,e2,bY,e3,dA,M.bO<|Pk (p:=.tok k v) (by rw[(fN m _).2.1];exact h4) (by rw[(fN m _).1];exact h6) rfl h5];rfl
 ·obtain⟨e,k1,k2⟩:=OK h1;have k3:=JQ (U:=U) (ns:=ns) (h0:=h0) k1;cases e with
  |val v0=>cases k2
  |tok k v0=>cases k2
  |raw m0=>cases k2
  |new k v0=>
   injection k2 with k2;subst k2
   show j8 P (dx U ns h0 L) g (bh P (dx U ns h0 L) FU n) args s=_;rw[ua k3];have h4:lP v0 args=some (v,res):=h4;unfold lP at h4;cases e1:args.all AV.hi with
   |false=>rw[e1] at h4;cases h4
   |true=>
    rw[e1] at h4;cases e2:v0 args with
    |none=>rw[e2] at h4;cases h4
    |some p=>
     obtain⟨st,r⟩:=p;rw[e2] at h4;show(aF (args.all AV.hi) <| (fe U h0 ns).bind fun _=>aC (v0 args) fun p=>match p.1 with
      |none=>aF (p.2<|.ptr none).hi <| M.pure (p.2<|.ptr none)
      |some v=>(gC<|.tok k v).bind fun n=>M.pure<|p.2<|.ptr<|some (n,0)) s=_
     rw[e1,dA,M.bO<|vM h2,e2,bY];cases st with
     |none=>
      have h4:(match (r<|.ptr none).hi with|true=>some ((none:Option AV),r)|false=>none)=some (v,res):=h4;cases e3:(r<|.ptr none).hi with
      |false=>rw[e3] at h4;cases h4
      |true=>
       rw[e3] at h4;injection h4 with h4
       injection h4 with h5 h6
       subst h5;subst h6;show aF true (M.pure<|r<|.ptr none) _=_;rw[dA];rfl
     |some v1=>
      have h4:some (some v1,r)=some (v,res):=h4;injection h4 with h4
      injection h4 with h5 h6
      subst h5;subst h6;show((gC<|.tok k v1).bind fun n=>M.pure<|r<|.ptr<|some (n,0)) _=_;have h3:Nat.blt (dL U h0 ns s).nx top=true:=h3;rw[M.bO<|VE<|(blt_eq _ _).mp h3];rfl
end Go.Rn
namespace Go.Rn
open Go.RowKit
variable {B:aI}
theorem Tg{P:Program}{f U:Nat}{ns:List Nat}{h0:Tr ae}{val:List AV->Option AV}{fn:Func}{body:Code}{ρ:aw}{w:World}{s s1:AS}(hP:bC P)(ch:P.funcs[f]? =some fn)(cw:fn.body=some body)(dE:(fn.name == "runtime.NumGoroutine")=false)(fD:fH<=U)(dJ:U<=top)(dG:∀n o,n<top->h0.get n=some o->n∈ns)(ep:∀n∈ns,n<U)(eL:∀args v,val args=some v->max fn.ntmps args.length<=top/\∀B':aI,B'.F=B.F->B'.inv=B.inv->av P B' U (Fin P fn.results.toList fun y _=>y=v) ⟨f,eg args,max fn.ntmps args.length,[.code body],[],none⟩ ⟨h0,U,0,[],[]⟩){SG:aO}{args:List AV}{x:AV}{vs:Array Value}(r:Rel B ρ s.h w)(hg:gk ρ)(h:p6 U ns h0 val SG args s= .ok x s1)(hv:az ρ args vs.toList):jo P ((callFunc f vs).run P w)<|ki B ρ s s1 w x:=by
 unfold p6 at h;obtain⟨ga,h1⟩:=cY h;obtain⟨u,s2,h2,h3⟩:=M.aR h1;obtain⟨v,h4,h5⟩:=bw h3;obtain⟨h6,h7⟩:=cY h5;obtain⟨rfl,rfl⟩:=bI h7;obtain⟨a1,a2,a3⟩:=tH h2;obtain⟨q1,q2⟩:=eL _ _ h4;have m9:=ES dJ r dG ep (fun n hn=>by obtain⟨_,o,p,h⟩:=a3 n hn;exact⟨o,p,h⟩);have fi:bF (⟨h0,U,0,[],[]⟩:AS):=⟨Nat.zero_le _,dJ⟩;have A6:gk<|gm U ρ:=fun g hZ=>by obtain⟨N,e⟩:=hg g hZ;exact⟨N,by unfold gm;rw[if_pos<|Nat.lt_of_lt_of_le hZ fD];exact e⟩
 have bJ:=av.calls (B:=sd B ρ w) (s:=⟨h0,U,0,[],[]⟩) (args:=args) (vs:=vs) hP ch cw q1 (q2 _ rfl rfl) fi m9 A6 (fun k k1 k2=>by
  have k1:U<=k:=k1;unfold gm gq;rw[if_neg ak,if_neg ak])
  (AV.zX (fun k y hk e=>by rw[tU dJ hk];exact e) ga hv)
 rw[tI ch cw dE];show Calls P f vs w _;refine bJ.mono fun e w'=>?_;rintro ⟨y,x',s4,rfl,rfl,_,_,σ,e1,e2,e3,e4⟩;obtain⟨b1,b2,b3,b4⟩:=Kz (a:=s.nx) dJ r e3 e4 e1.le;exact⟨y,rfl,cK ρ σ,by rw[a2];exact b1,AV.pb b2 h6 e2,by rw[a1];exact b3,b4⟩
def dY(X:TX)(U:Nat)(P:Program)(sp:Sp):Prop:=∀B:aI,B.F=FU->B.inv=n9 X U->LW P B sp
theorem dY.mP{X:TX}{U:Nat}{P:Program}{sp:Sp}{g:FuncId}{m:aO->List AV->M AV}(h:dY X U P sp)(hl:∀SG:aO,(∀t a,SF<|SG t a)->∀args,SF<|m SG args)(hs:∀B:aI,B.F=FU->B.inv=n9 X U->∀SG:aO,fR P B SG->(∀t a,SF<|SG t a)->∀(args:List AV) (x:AV) (s s1:AS) (ρ:aw) (w:World) (vs:Array Value),bF s->Rel B ρ s.h w->gk ρ->dK s.nx s1.nx ρ->
 m SG args s= .ok x s1->az ρ args vs.toList->jo P ((callFunc g vs).run P w) (ki B ρ s s1 w x)):dY X U P<|po sp g m:=by
 intro B hB hT;refine⟨fun f m' e SG ni args=>?_,fun f m' e SG hc ni args x s s1 ρ w vs fi r hg hf hm hv=>?_⟩
 ·rcases TA e with⟨_,rfl⟩|e
  ·exact hl SG ni args
  ·exact(h B hB hT).loc f m' e SG ni args
 ·rcases TA e with⟨rfl,rfl⟩|e
  ·exact hs B hB hT SG hc ni args x s s1 ρ w vs fi r hg hf hm hv
  ·exact(h B hB hT).F0 f m' e SG hc ni args x s s1 ρ w vs fi r hg hf hm hv
section
variable {X:TX} {P:Program} {U:Nat} {ns:List Nat} {h0:Tr ae} {kn:List<|Nat×Option ae} {L L':bV} {g k:Nat} {fn:Func} {body:Code}
theorem cN:dY X U P<|dx U ns h0 []:=fun _ _ _=>⟨fun f m h=>(by cases h),fun f m h=>(by cases h)⟩
def qm(X:TX)(P:Program)(U:Nat)(ns:List Nat)(h0:Tr ae)(L:bV)(B:aI):Prop:=B.F=FU/\B.inv=n9 X U/\fR P B (bh P (dx U ns h0 L) FU 6)/\∀t a,SF<|bh P (dx U ns h0 L) FU 6 t a
theorem ru(hP:bC P)(h':dY X U P<|dx U ns h0 L)(h1:B.F=FU)(h2:B.inv=n9 X U):qm X P U ns h0 L B:=⟨h1,h2,Ua hP (h' B h1 h2) h1 6,DM P (h' B h1 h2) FU 6⟩
theorem aeX(hP:bC P)(fD:fH<=U)(dJ:U<=top)(dG:∀n o,n<top->h0.get n=some o->n∈ns)(ep:∀n∈ns,n<U){val:List AV->Option AV}(h:dY X U P<|dx U ns h0 L)(h':dY X U P<|dx U ns h0 L')(ch:P.funcs[g]? =some fn)(cw:fn.body=some body)(dE:(fn.name == "runtime.NumGoroutine")=false)(eL:∀args v,val args=some v->max fn.ntmps args.length<=top/\∀B:aI,qm X P U ns h0 L' B->
 av P B U (Fin P fn.results.toList fun y _=>y=v) ⟨g,eg args,max fn.ntmps args.length,[.code body],[],none⟩ ⟨h0,U,0,[],[]⟩):dY X U P<|dx U ns h0<|(g,.val val)::L:=by
 refine(show dY X U P (po (dx U ns h0 L) g<|p6 U ns h0 val) from h.mP (fun SG _ args=>SF.p6 _ _ _ _ SG args) fun B hB hT SG hc hl args x s s1 ρ w vs fi r hg hf hm hv=>?_);refine Tg hP ch cw dE fD dJ dG ep (fun args v e=>?_) r hg hm hv;obtain⟨q1,q2⟩:=eL args v e;exact⟨q1,fun B' kR kU=>q2 B'<|ru hP h' (kR.trans hB)<|kU.trans hT⟩
theorem Eb(hX:zc X U)(hP:bC P)(fD:fH<=U)(dJ:U<=top)(dG:∀n o,n<top->h0.get n=some o->n∈ns)(ep:∀n∈ns,n<U)(iA:∀n o,(n,some o)∈kn->h0.get n=some o)(iB:∀p∈kn,p.1<top){val:AV->List AV->Option (AV×AV)}(h:dY X U P<|dx U ns h0 L)(h':dY X U P<|dx U ns h0 L')(ch:P.funcs[g]? =some fn)(cw:fn.body=some body)(dE:(fn.name == "runtime.NumGoroutine")=false)(eL:∀v rest y v',val v rest=some (y,v')->max fn.ntmps (rest.length+1)<=top/\∀L,X k v L->∃nx,U<nx/\nx<=top/\(∀p∈L,p.1<nx)/\∀B:aI,qm X P U ns h0 L' B->
 av P B (U+1) (mj X P fn.results.toList k y v') ⟨g,eg<|.ptr (some (U,0))::rest,max fn.ntmps<|rest.length+1,[.code body],[],none⟩ ⟨fL<|kn++bQ L,nx,0,[],[]⟩):dY X U P<|dx U ns h0<|(g,.tok k val)::L:=by
 refine(show dY X U P (po (dx U ns h0 L) g<|yL U ns h0 k val) from h.mP (fun SG _ args=>SF.yL _ _ _ _ _ SG args) fun B hB hT SG hc hl args x s s1 ρ w vs fi r hg hf hm hv=>?_);refine U3 hX hT hP ch cw dE fD dJ dG ep iA iB (fun v rest y v' e=>?_) r hg hm hv;obtain⟨q1,q2⟩:=eL v rest y v' e;refine⟨q1,fun L1 hL=>?_⟩;obtain⟨nx,n1,n2,n3,q3⟩:=q2 L1 hL;exact⟨nx,n1,n2,n3,fun B' kR kU=>q3 B'<|ru hP h' (kR.trans hB)<|kU.trans hT⟩
theorem J8(hX:zc X U)(hP:bC P)(fD:fH<=U)(dJ:U<top)(dG:∀n o,n<top->h0.get n=some o->n∈ns)(ep:∀n∈ns,n<U){val:List AV->Option (Option AV×(AV->AV))}(h:dY X U P<|dx U ns h0 L)(h':dY X U P<|dx U ns h0 L')(ch:P.funcs[g]? =some fn)(cw:fn.body=some body)(dE:(fn.name == "runtime.NumGoroutine")=false)(eL:∀args p,val args=some p->max fn.ntmps args.length<=top/\(p.1=none->∀B:aI,qm X P U ns h0 L' B->
 av P B U (Fin P fn.results.toList fun y _=>y=p.2 (.ptr none)) ⟨g,eg args,max fn.ntmps args.length,[.code body],[],none⟩ ⟨h0,U,0,[],[]⟩)/\
 ∀v,p.1=some v->we U p.2/\∀B:aI,qm X P U ns h0 L' B->av P B U (mj X P fn.results.toList k (p.2<|.ptr<|some (U,0)) v) ⟨g,eg args,max fn.ntmps args.length,[.code body],[],none⟩ ⟨h0,U,0,[],[]⟩):
 dY X U P (dx U ns h0<|(g,.new k val)::L):=by
 refine(show dY X U P (po (dx U ns h0 L) g<|CE U ns h0 k val) from h.mP (fun SG _ args=>SF.CE _ _ _ _ _ SG args) fun B hB hT SG hc hl args x s s1 ρ w vs fi r hg hf hm hv=>?_);refine adI hX hT hP ch cw dE fD dJ dG ep (fun args p e=>?_) r hg hf hm hv;obtain⟨q1,q2,q3⟩:=eL args p e;refine⟨q1,fun e0 B' kR kU=>q2 e0 B'<|ru hP h' (kR.trans hB)<|kU.trans hT,fun v e0=>?_⟩;obtain⟨q4,q5⟩:=q3 v e0;exact⟨q4,fun B' kR kU=>q5 B'<|ru hP h' (kR.trans hB)<|kU.trans hT⟩
end
end Go.Rn
namespace Go.Rn
open Go.RowKit
variable {α:Type} {enc:α->List AV} {r:Nat->Nat} {fz:lN} {l:List α} {K n o:Nat} {a v:AV} {cap:cR} {args:List AV}
def dj(enc:α->List AV)(K:Nat)(a:AV)(l:List α):Prop:=∃n o,a= .ab n o l.length/\top<=n/\∀(i:Nat) c,l[i]? =some c->cx FU n (o+i*K) K=some (enc c)
theorem dj.cq(h:dj enc K a l):a.cq=true:=by obtain⟨n,o,rfl,h1,_⟩:=h;exact aL.2 h1
theorem dj.hi(h:dj enc K a l):a.hi=true:=by have:=h.cq;obtain⟨n,o,rfl,h1,_⟩:=h;exact this
theorem dj.aD{α:Type}{enc:α->List AV}{K:Nat}(he:mh K enc)(l:List α):dj enc K (aD enc l) l:=⟨_,0,rfl,cV _,fun i c hc=>by have:=yc he hc 0 K ak;rw[Nat.zero_add];rw[Nat.add_zero,List.drop_zero, ←he.len c,List.take_length] at this;rw[he.len c] at this;exact this⟩
theorem dj.inj{m:List α}(Fk:∀x y,enc x=enc y->x=y)(h:dj enc K a l)(k:dj enc K a m):l=m:=by
 obtain⟨n,o,rfl,_,h2⟩:=h;obtain⟨n',o',e,_,k2⟩:=k;injection e with e1 e2 e3
 subst e1;subst e2;refine List.ext_getElem? fun i=>?_;by_cases q:i<l.length
 ·have a1:l[i]? =some l[i]:=List.getElem?_eq_getElem q;have a2:m[i]? =some (m[i]'ak):=List.getElem?_eq_getElem ak;have b1:=h2 i _ a1;have b2:=k2 i _ a2;rw[b1] at b2;injection b2 with b2
  rw[a1,a2,Fk _ _ b2]
 ·rw[List.getElem?_eq_none ak,List.getElem?_eq_none ak]
theorem dj.len{α:Type}{enc:α->List AV}{K n o len:Nat}{l:List α}(h:dj enc K (.ab n o len) l):l.length=len/\top<=n/\∀(i:Nat) c,l[i]? =some c->cx FU n (o+i*K) K=some (enc c):=by
 obtain⟨n',o',e,ht,h3⟩:=h;injection e with e1 e2 e3
 subst e1;subst e2;exact⟨e3.symm,ht,h3⟩
theorem J9{len:Nat}(hl:∀c,(enc c).length=K)(h:dj enc K (.ab n o len) l):cx FU n o (len*K)=some (l.map enc).flatten\/l=[]:=by
 obtain⟨h1,_,h3⟩:=h.len;by_cases hn:l=[]
 ·exact .inr hn
 refine .inl ?_;have Fl:0<l.length:=by cases l with|nil=>exact absurd rfl hn|cons _ _=>exact Nat.succ_pos _
 obtain⟨row,eO⟩:∃row,FU n=some row:=by
  have:=h3 0 l[0]<|List.getElem?_eq_getElem Fl;unfold cx at this;cases e:FU n with
  |none=>rw[e] at this;cases this
  |some r=>exact⟨r,rfl⟩
 have ay:∀(i:Nat) c,l[i]? =some c->o+i*K+K<=row.length/\(row.drop<|o+i*K).take K=enc c:=by
  intro i c hc;have:=h3 i c hc;unfold cx at this;rw[eO] at this;simp only at this;cases q:Nat.ble (o+i*K+K) row.length with
  |false=>rw[q] at this;cases this
  |true=>rw[q] at this;injection this with this;exact⟨aL.1 q,this⟩
 have anO:=(ay (l.length - 1) l[l.length - 1]<|List.getElem?_eq_getElem ak).1;have hmul:(l.length - 1)*K+K=l.length*K:=by rw[←Nat.succ_mul];congr 1;omega
 have hle:o+len*K<=row.length:=by rw[←h1];omega
 unfold cx;rw[eO];simp only[(aL.2 hle:Nat.ble (o+len*K) row.length=true)];congr 1;have y9:(l.map enc).flatten.length=l.length*K:=by
  have:=tJ (K:=K) (l:=l.map enc) fun c hc=>by obtain⟨a,_,rfl⟩:=List.mem_map.1 hc;exact hl a
  rw[this,List.length_map]
 refine List.ext_getElem? fun i=>?_;by_cases q:i<l.length*K
 ·rcases Nat.eq_zero_or_pos K with z|hK
  ·rw[z] at q;omega
  have hdiv:i / K<l.length:=Nat.div_lt_of_lt_mul (by rw[Nat.mul_comm];exact q);have HY:i % K<K:=Nat.mod_lt _ hK;have F1:i / K*K+i % K=i:=by rw[Nat.mul_comm];exact Nat.div_add_mod i K
  obtain⟨_,h4⟩:=ay (i / K) l[i / K]<|List.getElem?_eq_getElem hdiv;have h5:=ND (l:=l.map enc) (K:=K) (i:=i / K) (c:=enc l[i / K]) (fun c hc=>by obtain⟨a,_,rfl⟩:=List.mem_map.1 hc;exact hl a) (by rw[List.getElem?_map,List.getElem?_eq_getElem hdiv];rfl);have h6:(row.drop<|o+i / K*K)[i % K]? =(enc l[i / K])[i % K]? :=by rw[←h4,List.getElem?_take_of_lt HY]
  have h7:((l.map enc).flatten.drop<|i / K*K)[i % K]? =(enc l[i / K])[i % K]? :=by rw[←h5,List.getElem?_take_of_lt HY]
  rw[List.getElem?_drop] at h6 h7;rw[List.getElem?_take_of_lt (by rw[←h1];exact q),List.getElem?_drop,show o+i=o+i / K*K+i % K by omega,h6, ←h7,F1]
 ·rw[List.getElem?_eq_none (by rw[List.length_take, ←h1];omega),List.getElem?_eq_none ak]
theorem GZ(hm:(n,nm (l.map enc).flatten,(l.map enc).flatten)∈fz)(hr:∀k,top<=k->r k=k)(hc:(match cap with| .known c=>Nat.ble l.length c| .ar _ _=>true| .lost=>false)=true):lJ fz r (.slice (some (n,0)) l.length cap)<|aD enc l:=by
 intro ρ fA v zd hv;have:∃b N c,ρ n=some (b,N)/\v= .slice (some ⟨b,0,none⟩) l.length c/\l.length<=c:=by
  cases cap with
  |known c=>simp only[VR] at hv;obtain⟨b,N,e,hv⟩:=hv;exact⟨b,N,c,e,hv,aL.1 hc⟩
  |ar lo e0=>simp only[VR] at hv;obtain⟨b,N,c,e,hv,_,h,_⟩:=hv;exact⟨b,N,c,e,hv,h⟩
  |lost=>cases hc
 obtain⟨b,N,c,e,rfl,hle⟩:=this;have hk:=zd.2.2 _ hm b N e;unfold aD;simp only[VR];exact .inr ⟨b,0,c,.inr ⟨cV _,fun z=>hk<|(congrArg fA<|hr _<|gg _ _ _).symm.trans z⟩,rfl,fun _=>⟨hle,(Ag _).1⟩⟩
theorem Ka:lJ fz r (.slice none 0<|.known 0)<|aD enc []:=by intro ρ fA v _ hv;simp only[VR] at hv;obtain⟨rfl,_,_⟩:=hv;unfold aD;simp only[VR];exact .inl ⟨cV _,rfl,none,0,rfl,(fun _=>rfl),(fun _=>rfl),fun e=>absurd e (Ag _).2⟩
theorem acA:lJ fz r (.slice (some (n,o)) 0 cap)<|aD enc []:=by
 intro ρ fA v _ hv;have:∃a c,v= .slice (some a) 0 c:=by
  cases cap<;>simp only[VR] at hv
  ·obtain⟨_,_,_,rfl⟩:=hv;exact⟨_,_,rfl⟩
  ·obtain⟨_,_,_,_,rfl,_⟩:=hv;exact⟨_,_,rfl⟩
  ·obtain⟨_,_,_,_,_,_,rfl⟩:=hv;exact⟨_,_,rfl⟩
 obtain⟨a,c,rfl⟩:=this;unfold aD;simp only[VR];exact .inl ⟨cV _,rfl,some a,c,rfl,(fun e=>by cases e),(fun e=>absurd e (Ag _).1),fun _ e=>by cases e⟩
theorem agQ{len:Nat}(ht:top<=n)(hr:∀k,top<=k->r k=k):lJ fz r (.ab n o len)<|.ab n o len:=(bA.ab (hr n ht) hr).z
theorem aeY(hr:∀k,top<=k->r k=k):lJ fz r (aD enc l)<|aD enc l:=agQ (cV _) hr
theorem G0(he:mh K enc)(hl:l.length*K<=top)(n:Nat)(hn:n<top){o0:List<|Nat×Option ae}(hm:(n,some<|aJ enc l)∈o0):
 n<top/\FU (nm (l.map enc).flatten)=some (l.map enc).flatten/\∃N t z,(n,some<|.cells N t z)∈o0/\∀i x,(l.map enc).flatten[i]? =some x->i<N/\cellAt t z i=some x/\x.cj=true/\x.cq=true:=by
 refine⟨hn,Cn<|he.all l,_,_,_,hm,fun i x hx=>?_⟩;have hi:=(List.getElem?_eq_some_iff.1 hx).1;have hc:=List.all_eq_true.1 (he.all l) x<|List.mem_of_getElem? hx;exact⟨hi,by rw[zC (by rw[he.length];exact hl) hi];exact hx,JE hc,D3 hc⟩
def mF(fz:lN)(r:Nat->Nat):List AV->List AV->Prop
 |[],[]=>True
 |x::l,y::m=>lJ fz r x y/\mF fz r l m
 |_,_=>False
theorem mF.length:∀{l m:List AV},mF fz r l m->l.length=m.length
 |[],[],_=>rfl
 |_::_,_::_,h=>by simp[mF.length h.2]
 |[],_::_,h=>by cases h
 |_::_,[],h=>by cases h
theorem mF.au:∀{l m:List AV} {i:Nat} {x y:AV},mF fz r l m->l[i]? =some x->m[i]? =some y->lJ fz r x y
 |x::l,y::m,0,a,b,h,h1,h2=>by simp at h1 h2;subst h1;subst h2;exact h.1
 |x::l,y::m,i+1,a,b,h,h1,h2=>mF.au h.2 (by simpa using h1) (by simpa using h2)
 |[],[],_,_,_,_,h1,_=>by simp at h1
 |_::_,[],_,_,_,h,_,_=>by cases h
 |[],_::_,_,_,_,h,_,_=>by cases h
theorem fI.cells{l m:List AV}(hl:l.length<=top)(h:mF fz r l m)(h1:m.all AV.cj=true):fI fz r (.cells l.length (Tr.fill l 0 .nil) [])<|.cells m.length (Tr.fill m 0 .nil) []:=by
 have hlen:=h.length;intro ρ fA N o zd k;obtain⟨c,e,rfl,k1,k2,k3⟩:=k;refine⟨c,e,rfl,k1,by omega,fun i hi=>?_⟩;obtain⟨x,v,a1,a2,a3,a4⟩:=k3 i ak;have hx:l[i]? =some x:=by unfold cellAt at a1;rw[Tr.xA _ _ _ _ ak,if_pos ak,Nat.sub_zero,List.getElem?_eq_getElem ak] at a1;rw[List.getElem?_eq_getElem ak];exact a1
 have hy:m[i]? =some m[i]:=List.getElem?_eq_getElem hi;refine⟨m[i],v,?_,?_,a3,h.au hx hy ρ fA v zd a4⟩
 ·unfold cellAt;rw[Tr.xA _ _ _ _ ak,if_pos ak,Nat.sub_zero,hy]
 ·exact List.all_eq_true.1 h1 _<|List.getElem_mem hi
open Classical in
noncomputable def aY(R:List AV->AV->Prop)(args:List AV):Option AV:=if h:∃v,R args v then some h.choose else none
theorem gf{R:List AV->AV->Prop}(h:aY R args=some v):R args v:=by
 unfold aY at h;split at h
 ·rename_i q;injection h with h;rw[←h];exact q.choose_spec
 ·cases h
theorem ff{R:List AV->AV->Prop}(hd:∀args v v',R args v->R args v'->v=v')(h:R args v):aY R args=some v:=by unfold aY;have q:∃v,R args v:=⟨v,h⟩;rw[dif_pos q,hd _ _ _ q.choose_spec h]
end Go.Rn
namespace Go.Rn
open Go.RowKit
variable {ns:List Nat} {v y v':AV} {rest args:List AV} {n o:Nat} {S:Type} {res:AV->AV} {f:S->List AV->Option (AV×S)} {enc:S->AV}
def AE(ns:List Nat)(σ:aw):aw:=fun m=>if top<=m\/m∈ns then σ m else none
def gA(ns:List Nat)(x:AV):Prop:=∀(σ:aw) (v:Value),VR σ x v->VR (AE ns σ) x v
theorem aeZ(ns:List Nat)(σ:aw):iM σ<|AE ns σ:=fun k x hk e=>by unfold AE;rw[if_pos<|.inl hk];exact e
theorem gA.hi{x:AV}(h:x.cq=true):gA ns x:=fun σ _ k=>AV.uc (aeZ ns σ) h k
theorem gA.ptr(h:n∈ns):gA ns<|.ptr<|some (n,o):=fun σ v k=>by simp only[VR] at k ⊢;obtain⟨b,N,e1,e2⟩:=k;exact⟨b,N,by unfold AE;rw[if_pos<|.inr h];exact e1,e2⟩
theorem gA.map(h:n∈ns):gA ns<|.map<|some n:=fun σ v k=>by simp only[VR] at k ⊢;obtain⟨b,N,e1,e2⟩:=k;exact⟨b,N,by unfold AE;rw[if_pos<|.inr h];exact e1,e2⟩
theorem gA.slice{len:Nat}{cap:cR}(h:n∈ns):gA ns<|.slice (some (n,o)) len cap:=fun σ v k=>by
 cases cap<;>simp only[VR] at k ⊢
 ·obtain⟨b,N,e1,e2⟩:=k;exact⟨b,N,by unfold AE;rw[if_pos<|.inr h];exact e1,e2⟩
 ·obtain⟨b,N,c,e1,e2⟩:=k;exact⟨b,N,c,by unfold AE;rw[if_pos<|.inr h];exact e1,e2⟩
 ·obtain⟨l,b,N,p,c,e1,e2⟩:=k;exact⟨l,b,N,p,c,by unfold AE;rw[if_pos<|.inr h];exact e1,e2⟩
theorem lK.tok{k:Nat}:lK ns<|.tok k v:=fun _ _ _ _=>trivial
theorem lK.cells{cs:List AV}(hl:cs.length<=top)(h:∀c∈cs,gA ns c):lK ns<|.cells cs.length (Tr.fill cs 0 .nil) []:=fun σ N o' k=>by obtain⟨c,e,r,s,u,f⟩:=k;refine⟨c,e,r,s,u,fun i hi=>?_⟩;obtain⟨x,v,a,b,d,q⟩:=f i hi;refine⟨x,v,a,b,d,h x ?_ σ v q⟩;have:=zC (l:=cs) (i:=i) hl hi;rw[this] at a;exact List.mem_of_getElem? a
theorem lK.row{α:Type}{enc:α->List AV}{l:List α}(hl:(l.map enc).flatten.length<=top)(h:∀c∈(l.map enc).flatten,gA ns c):lK ns<|aJ enc l:=lK.cells hl h
noncomputable def eW(enc:S->AV)(f:S->List AV->Option (AV×S)):AV->List AV->Option (AV×AV):=fun v rest=> @dite _ (∃a,enc a=v) (Classical.propDecidable _) (fun h=>(f h.choose rest).map fun p=>(p.1,enc p.2)) fun _=>none
theorem BP(inj:∀a b,enc a=enc b->a=b){a:S}:eW enc f (enc a) rest=(f a rest).map fun p=>(p.1,enc p.2):=by unfold eW;have h:∃b,enc b=enc a:=⟨a,rfl⟩;rw[dif_pos h,inj _ _ h.choose_spec]
theorem BF(h:eW enc f v rest=some (y,v')):∃a a',v=enc a/\f a rest=some (y,a')/\v'=enc a':=by
 unfold eW at h;split at h
 ·rename_i q;cases e:f q.choose rest with
  |none=>rw[e] at h;cases h
  |some p=>
   rw[e] at h;injection h with h
   injection h with h1 h2
   refine⟨_,p.2,q.choose_spec.symm,?_,h2.symm⟩;rw[e, ←h1]
 ·cases h
theorem ae0{val:AV->List AV->Option (AV×AV)}(h:val v rest=some (y,v'))(h1:rest.all AV.hi=true)(h2:y.hi=true):gQ val v rest=some (y,v'):=by unfold gQ;rw[h1,h];show(match y.hi with|true=>some (y,v')|false=>none)=_;rw[h2]
theorem Kb{val:List AV->Option (Option AV×(AV->AV))}(h:val args=some (some v,res))(h1:args.all AV.hi=true):lP val args=some (some v,res):=by unfold lP;rw[h1,h];rfl
theorem VQ{val:List AV->Option (Option AV×(AV->AV))}(h:val args=some (none,res))(h1:args.all AV.hi=true)(h2:(res<|.ptr none).hi=true):lP val args=some (none,res):=by unfold lP;rw[h1,h];show(match (res<|.ptr none).hi with|true=>some (none,res)|false=>none)=_;rw[h2]
end Go.Rn
namespace Go.Rn
open Go.RowKit
variable {ρ:aw} {U:Nat}
abbrev Vw:=List<|Nat×Nat×ae
def gj(L:Vw)(m:Nat):Option Nat:=(L.find? fun p=>Nat.beq p.1 m).map fun p=>p.2.1
def eM(U:Nat)(ρ:aw)(L:Vw):aw:=fun m=>if m<U then ρ m else if top<=m then ρ m else match gj L m with
 |some n=>ρ n
 |none=>none
def Lv(L:Vw):List<|Nat×ae:=L.map fun p=>(p.1,p.2.2)
theorem acB{L:Vw}(fn:∀p∈L,∀q∈L,p.1=q.1->p=q){p:Nat×Nat×ae}(hp:p∈L):gj L p.1=some p.2.1:=by
 unfold gj;cases e:L.find? fun q=>Nat.beq q.1 p.1 with
 |none=>exact absurd (List.find?_eq_none.1 e p hp) jJ
 |some q=>have h1:=List.mem_of_find?_eq_some e;have h2:=List.find?_some e;have h3:q.1=p.1:=Nat.eq_of_beq_eq_true h2;rw[fn q h1 p hp h3];rfl
theorem acC{L:Vw}{m n:Nat}(h:gj L m=some n):∃p∈L,p.1=m/\p.2.1=n:=by
 unfold gj at h;cases e:L.find? fun q=>Nat.beq q.1 m with
 |none=>rw[e] at h;cases h
 |some q=>rw[e] at h;have h2:=List.find?_some e;refine⟨q,List.mem_of_find?_eq_some e,Nat.eq_of_beq_eq_true h2,?_⟩;injection h
theorem xQ{L:Vw}(ht:U<=top){m:Nat}(hm:top<=m):eM U ρ L m=ρ m:=by unfold eM;rw[if_neg ak,if_pos hm]
theorem BQ{L:Vw}{m:Nat}(hm:m<U):eM U ρ L m=ρ m:=by unfold eM;rw[if_pos hm]
theorem Gy{L:Vw}{m:Nat}(h1:U<=m)(h2:m<top)(h3:∀p∈L,p.1≠m):eM U ρ L m=none:=by
 unfold eM;rw[if_neg ak,if_neg ak];cases e:gj L m with
 |none=>rfl
 |some n=>obtain⟨p,hp,e1,_⟩:=acC e;exact absurd e1<|h3 p hp
end Go.Rn
namespace Go.Rn
open Go.RowKit
variable {ρ:aw} {U:Nat} {h:Tr ae} {L:Vw}
structure zi (U:Nat) (ρ:aw) (h:Tr ae) (L:Vw):Prop where
 nm:∀p∈L,U<=p.1/\p.1<top/\p.2.1<top
 fn:∀p∈L,∀q∈L,p.1=q.1->p=q
 inj:∀p∈L,∀q∈L,p.2.1=q.2.1->p=q
 is:∀p∈L,∃o,h.get p.2.1=some o/\((o.own=true/\p.2.2.own=true/\∀N o',OR ρ N o o'->OR (eM U ρ L) N p.2.2 o')\/∃k v,o= .tok k v/\p.2.2= .tok k v)
def wH(ρ:aw)(cW:Nat->Nat->Prop)(L:Vw)(x:Nat):Prop:=(∃p∈L,p.2.2.dv=false/\∃N,ρ p.2.1=some (x,N))\/∃p∈L,p.2.2.ll=true/\cW p.2.1 x
theorem zi.A7(V:zi U ρ h L){p:Nat×Nat×ae}(hp:p∈L):eM U ρ L p.1=ρ p.2.1:=by obtain⟨q1,q2,_⟩:=V.nm p hp;unfold eM;rw[if_neg ak,if_neg ak,acB V.fn hp]
def CI(B:aI)(ρ:aw)(h:Tr ae)(w:World)(cW:Nat->Nat->Prop):Prop:=(∀n k v,n<top->h.get n=some (.tok k v)->∃b N,ρ n=some (b,N)/\B.inv k v ρ w b (cW n)/\cW n b/\∀x,cW n x->(x<w.heap.size/\B.dV<=x)/\B.may x/\jZ ρ h x/\∀j sh,ρ (hn j x sh)=none)/\∀n m x k v k' v',n<top->m<top->h.get n=some (.tok k v)->h.get m=some (.tok k' v')->n≠m->cW n x->¬cW m x
theorem HE{B:aI}{w:World}{h0:Tr ae}{ns:List Nat}{kn:List<|Nat×Option ae}{cW:Nat->Nat->Prop}(ht:U<=top)(r:Rel B ρ h w)(T:CI B ρ h w cW)(dG:∀n o,n<top->h0.get n=some o->n∈ns)(ep:∀n∈ns,n<U)(iA:∀n o,(n,some o)∈kn->h0.get n=some o)(iB:∀p∈kn,p.1<top)(a3:∀n∈ns,∃o p,h.get n=some o/\h0.get n=some p/\oX U o p=true)(V:zi U ρ h L):Rel (se B ρ w<|wH ρ cW L) (eM U ρ L) (fL<|kn++bQ (Lv L)) w:=by
 have r0:=ES ht r dG ep a3;obtain⟨t1,t2⟩:=T;have u9:(gm U ρ).le<|eM U ρ L:=by
  intro m x e;unfold gm at e;split at e
  ·rename_i q;rw[BQ q];exact e
  ·unfold gq at e;split at e
   ·rename_i q;rw[xQ ht q];exact e
   ·cases e
 have Df:∀m o,(m,o)∈Lv L->∃p∈L,p.1=m/\p.2.2=o:=fun m o hm=>by
  obtain⟨p,hp,e⟩:=List.mem_map.1 hm;injection e with e1 e2
  exact⟨p,hp,e1,e2⟩
 have cZ:∀p∈kn++bQ (Lv L),p.1<top:=fun p hp=>by
  rcases List.mem_append.1 hp with hp|hp
  ·exact iB p hp
  ·refine Oc (fun q hq=>?_) p hp;obtain⟨p,hp,e1,_⟩:=Df q.1 q.2 hq;rw[←e1];exact(V.nm p hp).2.1
 have au:∀m o,(fL<|kn++bQ (Lv L)).get m=some o->(m∈ns/\h0.get m=some o/\o.m7=true)\/∃p∈L,p.1=m/\p.2.2=o:=fun m o hg=>by
  rcases List.mem_append.1 (xF cZ hg) with q|q
  ·have q2:=iA m o q;have iz:=dG m o (iB _ q) q2;obtain⟨p1,p2,_,c3,c4⟩:=a3 m iz;rw[q2] at c3;cases c3;refine .inl ⟨iz,q2,?_⟩;unfold oX at c4;split at c4<;>first|rfl|cases c4
  ·exact .inr<|Df m o<|NY q
 have uG:∀p∈L,p.2.2.dv=false->∃o,h.get p.2.1=some o/\o.dv=false:=fun p hp e=>by
  obtain⟨o,g1,⟨g2,_⟩|⟨k,v,_,g2⟩⟩:=V.is p hp
  ·exact⟨o,g1,(ae.vx g2).2⟩
  ·rw[g2] at e;cases e
 have sC:∀p∈L,p.2.2.ll=true->∃k v,h.get p.2.1=some (.tok k v)/\p.2.2= .tok k v:=fun p hp e=>by
  obtain⟨o,g1,⟨_,g2,_⟩|⟨k,v,rfl,g2⟩⟩:=V.is p hp
  ·generalize p.2.2=q at e g2;cases q<;>first|(cases e;done)|cases g2
  ·exact⟨k,v,g1,g2⟩
 have agS:∀p∈L,p.2.2.m7=true->False:=fun p hp e=>by
  obtain⟨o,g1,⟨_,g2,_⟩|⟨k,v,_,g2⟩⟩:=V.is p hp
  ·generalize p.2.2=q at e g2;cases q<;>first|(cases e;done)|cases g2
  ·rw[g2] at e;cases e
 have RY:∀m N x,m∈ns->eM U ρ L m=some (x,N)->x<B.dV/\¬wH ρ cW L x:=fun m N x q1 e=>by
  rw[BQ<|ep m q1] at e;obtain⟨p1,p2,c2,c3,c4⟩:=a3 m q1;have ju:m<top:=Nat.lt_of_lt_of_le (ep m q1) ht;obtain⟨b',N',e1,e2⟩:=r.tk.1.2 m p1 ju c2<|Jn c4;rw[e] at e1;cases e1;refine⟨e2,?_⟩;rintro (⟨p,hp,ho,M,e3⟩|⟨p,hp,ho,e3⟩)
  ·obtain⟨o,g1,g2⟩:=uG p hp ho;have:=r.one m p.2.1 p1 o x N M ju (V.nm p hp).2.2 c2 g1 (.inr g2) e e3;rw[←this,c2] at g1;cases g1;rw[ae.kf<|Jn c4] at g2;cases g2
  ·obtain⟨k,v,g1,_⟩:=sC p hp ho;obtain⟨_,_,_,_,_,f⟩:=t1 _ k v (V.nm p hp).2.2 g1;have:=(f x e3).1.2;omega
 have agT:∀j x sh,ρ (hn j x sh)≠none->¬wH ρ cW L x:=fun j x sh e=>by
  obtain⟨_,_,_,_,_,_,_,z3,_⟩:=r.fz j x sh e;rintro (⟨p,hp,ho,M,e3⟩|⟨p,hp,ho,e3⟩)
  ·obtain⟨o,g1,g2⟩:=uG p hp ho;exact z3 p.2.1 o M (V.nm p hp).2.2 g1 g2 e3
  ·obtain⟨k,v,g1,_⟩:=sC p hp ho;obtain⟨_,_,_,_,_,f⟩:=t1 _ k v (V.nm p hp).2.2 g1;exact e<|(f x e3).2.2.2 j sh
 refine⟨fun m o hm hg=>?_,fun m n o p x N M hm fC hg lD da e1 e2=>?_,fun m i es ex left cur hm hg=>?_,fun x hx=>.inl hx,fun i j m es ex left cur hJ iW iK iL hi _ hg _=>?_,fun j x sh e=>?_,?_⟩
 ·rcases au m o hg with⟨q1,q3,q4⟩|⟨p,hp,rfl,rfl⟩
  ·obtain⟨b',N',o',e1,e2,e3,_⟩:=r0.is m o hm q3;exact⟨b',N',o',u9 _ _ e1,e2,e3.mono u9,fun z=>by rw[ae.kf q4] at z;cases z⟩
  ·obtain⟨o,g1,g2⟩:=V.is p hp;obtain⟨b',N',o',e1,e2,e3,_⟩:=r.is p.2.1 o (V.nm p hp).2.2 g1;rcases g2 with⟨_,_,g3⟩|⟨k,v,_,g3⟩
   ·exact⟨b',N',o',(V.A7 hp).trans e1,e2,g3 _ _ e3,fun z=>.inr<|.inl ⟨p,hp,z,N',e1⟩⟩
   ·rw[g3];exact⟨b',N',o',(V.A7 hp).trans e1,e2,trivial,fun z=>by cases z⟩
 ·rcases au m o hg with⟨q1,q3,q4⟩|⟨p1,jb,rfl,rfl⟩
  ·rcases au n p lD with⟨z1,z3,z4⟩|⟨p2,fP,rfl,rfl⟩
   ·rcases da with y|y
    ·rw[ae.kf q4] at y;cases y
    ·rw[ae.kf z4] at y;cases y
   ·rw[V.A7 fP] at e2;rcases da with y|y
    ·rw[ae.kf q4] at y;cases y
    ·exact absurd (.inl ⟨p2,fP,y,M,e2⟩) (RY m N x q1 e1).2
  ·rw[V.A7 jb] at e1;rcases au n p lD with⟨z1,z3,z4⟩|⟨p2,fP,rfl,rfl⟩
   ·rcases da with y|y
    ·exact absurd (.inl ⟨p1,jb,y,N,e1⟩) (RY n M x z1 e2).2
    ·rw[ae.kf z4] at y;cases y
   ·rw[V.A7 fP] at e2;obtain⟨o1,g1,_⟩:=V.is p1 jb;obtain⟨o2,f1,_⟩:=V.is p2 fP;have aj5:o1.dv=false\/o2.dv=false:=da.imp (fun y=>by
     obtain⟨o,k1,k2⟩:=uG p1 jb y;rw[g1] at k1;cases k1;exact k2) (fun y=>by
     obtain⟨o,k1,k2⟩:=uG p2 fP y;rw[f1] at k1;cases k1;exact k2)
    have:=r.one p1.2.1 p2.2.1 o1 o2 x N M (V.nm p1 jb).2.2 (V.nm p2 fP).2.2 g1 f1 aj5 e1 e2;rw[V.inj p1 jb p2 fP this]
 ·rcases au m _ hg with⟨_,_,q4⟩|⟨p,hp,_,e⟩
  ·cases q4
  ·obtain⟨_,_,⟨_,g2,_⟩|⟨k,v,_,g2⟩⟩:=V.is p hp
   ·rw[e] at g2;cases g2
   ·rw[e] at g2;cases g2
 ·rcases au i _ hg with⟨_,_,q4⟩|⟨p,hp,_,e⟩
  ·cases q4
  ·obtain⟨_,_,⟨_,g2,_⟩|⟨k,v,_,g2⟩⟩:=V.is p hp
   ·rw[e] at g2;cases g2
   ·rw[e] at g2;cases g2
 ·rw[xQ ht<|gg _ _ _] at e;obtain⟨g0,l,c,e',fr,g1,g2,g3,g4⟩:=r0.fz j x sh (by rw[tU ht<|gg _ _ _];exact e);refine⟨.inl e,l,c,e',fr,g1,g2,fun m o N hm hg cH hr=>?_,fun i y hy=>?_⟩
  ·rcases au m o hg with⟨_,_,q4⟩|⟨p,hp,rfl,rfl⟩
   ·rw[ae.kf q4] at cH;cases cH
   ·rw[V.A7 hp] at hr;exact agT j x sh e<|.inl ⟨p,hp,cH,N,hr⟩
  ·obtain⟨v',k1,k2,k3⟩:=g4 i y hy;refine⟨v',k1,VR.mono (fun i z q=>?_) _ _ k2,k3⟩;unfold gq at q ⊢;split at q
   ·rename_i hk;rw[if_pos hk];exact u9 _ _ q
   ·cases q
 ·let H':Nat->Nat->Prop:=fun m x=>∃p∈L,p.1=m/\cW p.2.1 x;have RZ:∀p∈L,H' p.1=cW p.2.1:=fun p hp=>funext fun x=>propext ⟨fun⟨q,hq,e1,e2⟩=>by rw[V.fn q hq p hp e1] at e2;exact e2,fun e=>⟨p,hp,rfl,e⟩⟩;refine⟨⟨r.tk.1.1,fun m o hm hg hf=>?_⟩,H',fun m k' v' hm hg=>?_,fun m n x k' v' My wX hm fC hg lD cz ja qC=>?_⟩
  ·rcases au m o hg with⟨q1,q3,q4⟩|⟨p,hp,rfl,rfl⟩
   ·obtain⟨b',N',o',e1,e2,e3,_⟩:=r0.is m o hm q3;exact⟨b',N',u9 _ _ e1,(RY m N' b' q1<|u9 _ _ e1).1⟩
   ·exact(agS p hp hf).elim
  ·rcases au m _ hg with⟨_,_,q4⟩|⟨p,hp,rfl,e⟩
   ·cases q4
   ·obtain⟨k,v,g1,g2⟩:=sC p hp (by rw[e];rfl);rw[e] at g2;cases g2;obtain⟨b,N,f1,f2,f3,f4⟩:=t1 _ _ _ (V.nm p hp).2.2 g1;refine⟨b,N,(V.A7 hp).trans f1,?_,by rw[RZ p hp];exact f3,fun x hx=>?_⟩
    ·rw[RZ p hp];exact B.mono f2 (fun i y hi q=>by rw[xQ ht hi];exact q) fun _ _=>rfl
    ·rw[RZ p hp] at hx;obtain⟨c1,c2,c3,c4⟩:=f4 x hx;refine⟨c1,.inr<|.inr ⟨p,hp,by rw[e];rfl,hx⟩,fun n o N fC lD cH hr=>?_,fun j sh=>by rw[xQ ht<|gg _ _ _];exact c4 j sh⟩;rcases au n o lD with⟨_,_,q4⟩|⟨p2,fP,rfl,rfl⟩
     ·rw[ae.kf q4] at cH;cases cH
     ·rw[V.A7 fP] at hr;obtain⟨o2,k1,k2⟩:=uG p2 fP cH;exact c3 p2.2.1 o2 N (V.nm p2 fP).2.2 k1 k2 hr
  ·obtain⟨p1,jb,y1,z1⟩:=ja;obtain⟨p2,fP,y2,z2⟩:=qC;rcases au m _ hg with⟨_,_,q4⟩|⟨q1,Mo,e1,e2⟩
   ·cases q4
   ·rcases au n _ lD with⟨_,_,q4⟩|⟨q2,Iy,e3,e4⟩
    ·cases q4
    ·have:=V.fn p1 jb q1 Mo<|y1.trans e1.symm;subst this;have:=V.fn p2 fP q2 Iy<|y2.trans e3.symm;subst this;obtain⟨k1,v1,g1,_⟩:=sC p1 jb (by rw[e2];rfl);obtain⟨k2,v2,g2,_⟩:=sC p2 fP (by rw[e4];rfl);exact t2 _ _ x _ _ _ _ (V.nm p1 jb).2.2 (V.nm p2 fP).2.2 g1 g2 (fun q=>cz<|by rw[←y1, ←y2,V.inj p1 jb p2 fP q]) z1 z2
end Go.Rn
namespace Go.Rn
open Go.RowKit
theorem Hg{U a:Nat}{B:aI}{ρ σ:aw}{w w':World}{h h4 h':Tr ae}{L:Vw}{L2:List<|Nat×ae}{cW:Nat->Nat->Prop}(r:Rel B ρ h w)(T:CI B ρ h w cW)(V:zi U ρ h L)(q3:Rel (se B ρ w<|wH ρ cW L) σ h4 w')(q4:cP (se B ρ w<|wH ρ cW L) w w')(pd:∀p∈L,σ p.1=ρ p.2.1)(zd:∀m x,top<=m->ρ m=some x->σ m=some x)(h2:∀n q,(n,q)∈L2->∃p∈L,p.2.1=n/\∃o1,h4.get p.1=some o1/\((q.own=true/\p.2.2.own=true/\∀N o',OR σ N o1 o'->OR (cK ρ σ) N q o')\/∃k v v0,o1= .tok k v/\q= .tok k v/\p.2.2= .tok k v0))(h3:∀p∈L,p.2.2.dv=false->∃o1,h4.get p.1=some o1/\o1.dv=false)(hh:∀k,k<top->(∃q,(k,q)∈L2/\h'.get k=some q)\/((∀q∈L,q.2.1≠k)/\h'.get k=h.get k)):
 Ext a a ρ (cK ρ σ)/\iM σ (cK ρ σ)/\Rel B (cK ρ σ) h' w'/\cP B w w':=by
 obtain⟨t1,t2⟩:=T;have hl:ρ.le<|cK ρ σ:=by
  intro k x e;unfold cK;by_cases hk:top<=k
  ·rw[if_pos hk];exact zd k x hk e
  ·rw[if_neg hk];exact e
 have cZ:∀k,k<top->cK ρ σ k=ρ k:=fun k hk=>by unfold cK;rw[if_neg ak]
 have ga:∀k,top<=k->cK ρ σ k=σ k:=fun k hk=>by unfold cK;rw[if_pos hk]
 have uG:∀p∈L,p.2.2.dv=false->∃o,h.get p.2.1=some o/\o.dv=false/\o.own=true:=fun p hp e=>by
  obtain⟨o,g1,⟨g2,_⟩|⟨k,v,_,g2⟩⟩:=V.is p hp
  ·exact⟨o,g1,(ae.vx g2).2,g2⟩
  ·rw[g2] at e;cases e
 have sC:∀p∈L,p.2.2.ll=true->∃k v,h.get p.2.1=some (.tok k v)/\p.2.2= .tok k v:=fun p hp e=>by
  obtain⟨o,g1,⟨_,g2,_⟩|⟨k,v,rfl,g2⟩⟩:=V.is p hp
  ·generalize p.2.2=q at e g2;cases q<;>first|(cases e;done)|cases g2
  ·exact⟨k,v,g1,g2⟩
 have uH:∀x,wH ρ cW L x->B.may x:=fun x hx=>by
  rcases hx with⟨p,hp,ho,N,e⟩|⟨p,hp,ho,e⟩
  ·obtain⟨o,g1,g2,_⟩:=uG p hp ho;obtain⟨x1,N1,_,e1,_,_,e3⟩:=r.is p.2.1 o (V.nm p hp).2.2 g1;rw[e] at e1;cases e1;exact e3 g2
  ·obtain⟨k,v,g1,_⟩:=sC p hp ho;obtain⟨_,_,_,_,_,f⟩:=t1 _ k v (V.nm p hp).2.2 g1;exact(f x e).2.1
 have CB:cP B w w':=⟨q4.os,q4.tape,q4.output,q4.size,fun x hx hm=>q4.block x hx fun z=>by
  rcases z with z|z
  ·have z:w.heap.size<=x:=z;omega
  ·exact hm<|uH x z⟩
 have m8:∀x,x<w.heap.size->¬wH ρ cW L x->w'.heap[x]? =w.heap[x]? :=fun x hx hm=>q4.block x hx fun z=>by
  rcases z with z|z
  ·have z:w.heap.size<=x:=z;omega
  ·exact hm z
 have cs:∀m o,m<top->h'.get m=some o->(∃p∈L,p.2.1=m/\∃o1,h4.get p.1=some o1/\((o.own=true/\p.2.2.own=true/\∀N o',OR σ N o1 o'->OR (cK ρ σ) N o o')\/∃k v v0,o1= .tok k v/\o= .tok k v/\p.2.2= .tok k v0))\/((∀q∈L,q.2.1≠m)/\h.get m=some o):=fun m o hm ho=>by
  rcases hh m hm with⟨q,e1,e2⟩|⟨e1,e2⟩
  ·rw[ho] at e2;cases e2;exact .inl<|h2 m o e1
  ·exact .inr ⟨e1,by rw[←e2];exact ho⟩
 have dH:∀m o,m<top->h'.get m=some o->∃q,h.get m=some q/\(o.dv=false->q.dv=false):=fun m o hm ho=>by
  rcases cs m o hm ho with⟨p,hp,rfl,o1,g1,⟨y1,y2,_⟩|⟨k,v,v0,_,y1,_⟩⟩|⟨_,e⟩
  ·obtain⟨q,g1,g2,_⟩:=uG p hp (ae.vx y2).2;exact⟨q,g1,fun _=>g2⟩
  ·obtain⟨q,g1,_⟩:=V.is p hp;exact⟨q,g1,fun z=>by rw[y1] at z;cases z⟩
  ·exact⟨o,e,id⟩
 have other:∀m o x M,m<top->(∀q∈L,q.2.1≠m)->h.get m=some o->ρ m=some (x,M)->¬wH ρ cW L x:=fun m o x M hm cz ho e=>by
  rintro (⟨p,hp,jb,N,e1⟩|⟨p,hp,jb,e1⟩)
  ·obtain⟨q,g1,g2,_⟩:=uG p hp jb;exact cz p hp<|r.one p.2.1 m q o x N M (V.nm p hp).2.2 hm g1 ho (.inl g2) e1 e
  ·obtain⟨k,v,g1,_⟩:=sC p hp jb;obtain⟨_,_,_,_,_,f⟩:=t1 _ k v (V.nm p hp).2.2 g1;obtain⟨⟨_,c1⟩,_,c3,_⟩:=f x e1;cases cH:o.dv with
   |false=>exact c3 m o M hm ho cH e
   |true=>
    by_cases hf:o.m7=true
    ·obtain⟨b',N',k1,k2⟩:=r.tk.1.2 m o hm ho hf;rw[e] at k1;cases k1;omega
    ·cases o<;>first|(cases cH;done)|(exact hf rfl)|skip
     rename_i k' wX;obtain⟨b',N',k1,_,k3,_⟩:=t1 m k' wX hm ho;rw[e] at k1;cases k1;exact t2 _ m x k v k' wX (V.nm p hp).2.2 hm g1 ho (cz p hp) e1 k3
 have te:∀x,jZ ρ h x->jZ (cK ρ σ) h' x:=fun x hn m o M hm ho cH e=>by obtain⟨q,g1,g2⟩:=dH m o hm ho;rw[cZ m hm] at e;exact hn m q M hm g1 (g2 cH) e
 have AD:∀x,w.heap.size<=x->jZ (cK ρ σ) h' x:=fun x hx m o M hm ho cH e=>by obtain⟨q,g1,_⟩:=dH m o hm ho;rw[cZ m hm] at e;obtain⟨b1,N1,o1,e1,e2,_⟩:=r.is m q hm g1;rw[e] at e1;cases e1;have:=gV e2;omega
 have aia:∀p∈L,∀o,h.get p.2.1=some o->o.own=true\/o.ll=true:=fun p hp o ho=>by
  obtain⟨q,g1,⟨g2,_⟩|⟨k,v,g2,_⟩⟩:=V.is p hp
  ·rw[ho] at g1;cases g1;exact .inl g2
  ·rw[ho,g2] at g1;cases g1;exact .inr rfl
 have Xy:∀i,h.get i=some .jQ->∀q∈L,q.2.1≠i:=fun i e q hq z=>by rcases aia q hq .jQ (by rw[z];exact e) with y|y<;>cases y
 obtain⟨⟨_,_⟩,Hq,s1,s2⟩:=q3.tk;refine⟨⟨hl,fun k hk _=>cZ k hk⟩,fun k x hk e=>by rw[ga k hk];exact e,⟨fun m o hm ho=>?_,fun m m2 o p x M M2 hm cX ho hp da e1 e2=>?_,fun m i es ex left cur hm ho=>?_,fun x hx=>r.size x<|Nat.le_trans q4.size hx,fun i j m es ex left cur hJ iW iK iL hi hj ho hp=>?_,fun j x sh e=>?_,?_⟩,CB⟩
 ·rcases cs m o hm ho with⟨p,hp,rfl,o1,g1,⟨y1,y2,g2⟩|⟨k,v,v0,y1,y2,y3⟩⟩|⟨cz,e⟩
  ·obtain⟨b1,N1,o',e1,e2,e3,_⟩:=q3.is p.1 o1 (V.nm p hp).2.1 g1;rw[pd p hp] at e1;exact⟨b1,N1,o',(cZ _ hm).trans e1,e2,g2 _ _ e3,fun _=>uH b1<|.inl ⟨p,hp,(ae.vx y2).2,N1,e1⟩⟩
  ·obtain⟨b1,N1,o',e1,e2,e3,_⟩:=q3.is p.1 o1 (V.nm p hp).2.1 g1;rw[pd p hp] at e1;rw[y2];exact⟨b1,N1,o',(cZ _ hm).trans e1,e2,trivial,fun z=>by cases z⟩
  ·obtain⟨b1,N1,o1,e1,e2,e3,e4⟩:=r.is m o hm e;exact⟨b1,N1,o1,(cZ m hm).trans e1,(m8 b1 (gV e2)<|other m o b1 N1 hm cz e e1).trans e2,e3.mono hl,e4⟩
 ·rw[cZ m hm] at e1;rw[cZ m2 cX] at e2;obtain⟨o1,a1,a2⟩:=dH m o hm ho;obtain⟨o2,a3,a4⟩:=dH m2 p cX hp;exact r.one m m2 o1 o2 x M M2 hm cX a1 a3 (da.imp a2 a4) e1 e2
 ·rcases cs m _ hm ho with⟨p,hp,_,_,_,⟨y1,_⟩|⟨k,v,v0,_,y2,_⟩⟩|⟨cz,e⟩
  ·cases y1
  ·cases y2
  ·obtain⟨hi,fx,b1,N1,bm,M,l,bg,seen,u1,u2,u3,u4,u5⟩:=r.iter m i es ex left cur hm e;have u:nu ρ w' m i es ex left cur:=⟨b1,N1,bm,M,l,bg,seen,u1,u2,(m8 b1 (gV u3)<|other m _ b1 N1 hm cz e u1).trans u3,(m8 bm (gV u4)<|other i _ bm M hi (Xy i fx) fx u2).trans u4,u5⟩;refine⟨hi,?_,u.mono hl⟩;rcases hh i hi with⟨q,f1,f2⟩|⟨_,f2⟩
   ·obtain⟨p,hp,f3,_⟩:=h2 i q f1;exact absurd f3<|Xy i fx p hp
   ·rw[f2];exact fx
 ·rcases cs i _ hi ho with⟨p,hp,_,_,_,⟨y1,_⟩|⟨k,v,v0,_,y2,_⟩⟩|⟨_,e⟩
  ·cases y1
  ·cases y2
  ·rcases cs j _ hj hp with⟨p,hp,_,_,_,⟨y1,_⟩|⟨k,v,v0,_,y2,_⟩⟩|⟨_,e'⟩
   ·cases y1
   ·cases y2
   ·exact r.lone i j m es ex left cur hJ iW iK iL hi hj e e'
 ·rw[ga _<|gg _ _ _] at e;obtain⟨g0,l,c,e',fr,g1,g2,gn,g4⟩:=q3.fz j x sh e;have mY:∀i y,l[i]? =some y->∃v,c[sh+i]? =some v/\VR (gq<|cK ρ σ) y v/\y.cj=true:=fun i y hy=>by
   obtain⟨v,k1,k2,k3⟩:=g4 i y hy;refine⟨v,k1,VR.mono (fun z u q=>?_) _ _ k2,k3⟩;unfold gq at q ⊢;split at q
   ·rename_i hk;rw[if_pos hk,ga z hk];exact q
   ·cases q
  by_cases q:ρ (hn j x sh)≠none
  ·obtain⟨z0,l',c',e2,ko,z1,z2,z3,_⟩:=r.fz j x sh q;exact⟨z0,l,c,e',fr,g1,g2,te x z3,mY⟩
  ·rcases g0.resolve_left q with z|z
   ·have z:w.heap.size<=x:=z;exact⟨.inr<|r.size x z,l,c,e',fr,g1,g2,AD x z,mY⟩
   ·refine⟨.inr<|uH x z,l,c,e',fr,g1,g2,?_,mY⟩;rcases z with⟨p,hp,ho,N,e1⟩|⟨p,hp,ho,e1⟩
    ·obtain⟨o1,f1,f2⟩:=h3 p hp ho;exact absurd ((pd p hp).trans e1)<|gn p.1 o1 N (V.nm p hp).2.1 f1 f2
    ·obtain⟨k,v,k1,_⟩:=sC p hp ho;obtain⟨_,_,_,_,_,f⟩:=t1 _ k v (V.nm p hp).2.2 k1;exact te x (f x e1).2.2.1
 ·let H':Nat->Nat->Prop:=fun m x=>(∃p∈L,p.2.1=m/\Hq p.1 x)\/((∀p∈L,p.2.1≠m)/\cW m x);have F5:∀p∈L,H' p.2.1=Hq p.1:=fun p hp=>funext fun x=>propext ⟨fun z=>by
   rcases z with⟨q,hq,e1,e2⟩|⟨e1,_⟩
   ·rw[V.inj q hq p hp e1] at e2;exact e2
   ·exact absurd rfl<|e1 p hp,fun z=>.inl ⟨p,hp,rfl,z⟩⟩
  have F6:∀m,(∀p∈L,p.2.1≠m)->H' m=cW m:=fun m hm=>funext fun x=>propext ⟨fun z=>by
   rcases z with⟨q,hq,e1,_⟩|⟨_,z⟩
   ·exact absurd e1 (hm q hq)
   ·exact z,fun z=>.inr ⟨hm,z⟩⟩
  have Dg:∀p∈L,∀k v,h4.get p.1=some (.tok k v)->∀x,Hq p.1 x->x<w'.heap.size/\(w.heap.size<=x\/wH ρ cW L x)/\∀j sh,σ (hn j x sh)=none:=fun p hp k v hg x hx=>by obtain⟨_,_,_,_,_,f⟩:=s1 p.1 k v (V.nm p hp).2.1 hg;obtain⟨⟨c1,_⟩,c2,_,c4⟩:=f x hx;exact⟨c1,c2,c4⟩
  have Lw:∀m k v,m<top->h'.get m=some (.tok k v)->(∃p∈L,p.2.1=m/\h4.get p.1=some (.tok k v)/\∃v0,p.2.2= .tok k v0)\/((∀q∈L,q.2.1≠m)/\h.get m=some (.tok k v)):=fun m k v hm ho=>by
   rcases cs m _ hm ho with⟨p,hp,e0,o1,g1,⟨y1,_⟩|⟨k',v',v0,y1,y2,y3⟩⟩|z
   ·cases y1
   ·cases y2;exact .inl ⟨p,hp,e0,by rw[g1,y1],v0,y3⟩
   ·exact .inr z
  have sep:∀m k v,m<top->(∀q∈L,q.2.1≠m)->h.get m=some (.tok k v)->∀x,cW m x->(w.heap.size<=x\/wH ρ cW L x)->False:=fun m k1 v1 hm cz hg x hx z=>by
   obtain⟨_,_,_,_,_,f4⟩:=t1 m k1 v1 hm hg;rcases z with z|⟨p,hp,Dk,N,e1⟩|⟨p,hp,Dk,e1⟩
   ·have:=(f4 x hx).1.1;omega
   ·obtain⟨q,g1,g2,_⟩:=uG p hp Dk;exact(f4 x hx).2.2.1 p.2.1 q N (V.nm p hp).2.2 g1 g2 e1
   ·obtain⟨k,v,g1,_⟩:=sC p hp Dk;exact t2 _ m x k v k1 v1 (V.nm p hp).2.2 hm g1 hg (cz p hp) e1 hx
  refine⟨⟨Nat.le_trans r.tk.1.1 q4.size,fun m o hm ho hf=>?_⟩,H',fun m k1 v1 hm ho=>?_,fun m m2 x k1 v1 k2 v2 hm cX ho hp cz z1 z2=>?_⟩
  ·rcases cs m o hm ho with⟨p,hp,_,_,_,⟨y1,_⟩|⟨k,v,v0,_,y2,_⟩⟩|⟨_,e⟩
   ·cases o<;>first|(cases hf;done)|cases y1
   ·rw[y2] at hf;cases hf
   ·obtain⟨b1,N1,e1,e2⟩:=r.tk.1.2 m o hm e hf;exact⟨b1,N1,(cZ m hm).trans e1,e2⟩
  ·rcases Lw m k1 v1 hm ho with⟨p,hp,rfl,hg,v0,Zu⟩|⟨cz,hg⟩
   ·obtain⟨b1,N1,f1,f2,f3,f4⟩:=s1 p.1 k1 v1 (V.nm p hp).2.1 hg;have hpt:p.2.2.ll=true:=by rw[Zu];rfl
    refine⟨b1,N1,(cZ _ hm).trans<|(pd p hp).symm.trans f1,?_,by rw[F5 p hp];exact f3,fun x hx=>?_⟩
    ·rw[F5 p hp];exact B.mono f2 (fun i y hi q=>by rw[ga i hi];exact q) fun _ _=>rfl
    ·rw[F5 p hp] at hx;obtain⟨c1,c2,c4⟩:=Dg p hp k1 v1 hg x hx;obtain⟨⟨_,aj6⟩,_,c3,_⟩:=f4 x hx;refine⟨⟨c1,aj6⟩,?_,?_,fun j sh=>by rw[ga _<|gg _ _ _];exact c4 j sh⟩
     ·rcases c2 with y|y
      ·exact r.size x y
      ·exact uH x y
     ·rcases c2 with y|y
      ·exact AD x y
      ·rcases y with⟨p2,fP,R2,N2,e2⟩|⟨p2,fP,R2,e2⟩
       ·obtain⟨o1,k1',k2'⟩:=h3 p2 fP R2;exact absurd ((pd p2 fP).trans e2)<|c3 p2.1 o1 N2 (V.nm p2 fP).2.1 k1' k2'
       ·obtain⟨k,v,g1,_⟩:=sC p2 fP R2;obtain⟨_,_,_,_,_,f⟩:=t1 _ k v (V.nm p2 fP).2.2 g1;exact te x (f x e2).2.2.1
   ·obtain⟨b1,N1,f1,f2,f3,f4⟩:=t1 m k1 v1 hm hg;have Yv:∀x,cW m x->¬wH ρ cW L x:=fun x hx z=>by
     rcases z with⟨p,hp,Dk,N,e1⟩|⟨p,hp,Dk,e1⟩
     ·obtain⟨q,g1,g2,_⟩:=uG p hp Dk;exact(f4 x hx).2.2.1 p.2.1 q N (V.nm p hp).2.2 g1 g2 e1
     ·obtain⟨k,v,g1,_⟩:=sC p hp Dk;exact t2 _ m x k v k1 v1 (V.nm p hp).2.2 hm g1 hg (cz p hp) e1 hx
    refine⟨b1,N1,(cZ m hm).trans f1,?_,by rw[F6 m cz];exact f3,fun x hx=>?_⟩
    ·rw[F6 m cz];exact B.mono f2 (fun i y _ e=>hl _ _ e) fun x hx=>m8 x (f4 x hx).1.1<|Yv x hx
    ·rw[F6 m cz] at hx;obtain⟨⟨c1,cl⟩,c2,c3,c4⟩:=f4 x hx;refine⟨⟨Nat.lt_of_lt_of_le c1 q4.size,cl⟩,c2,te x c3,fun j sh=>Classical.byContradiction fun z=>?_⟩;rw[ga _<|gg _ _ _] at z;rcases(q3.fz j x sh z).1 with y|y
     ·exact y<|c4 j sh
     ·rcases y with y|y
      ·have y:w.heap.size<=x:=y;omega
      ·exact Yv x hx y
  ·rcases Lw m k1 v1 hm ho with⟨p1,jb,rfl,hg,v0,Zu⟩|⟨Fq,hg⟩
   ·rw[F5 p1 jb] at z1;obtain⟨c1,c2,_⟩:=Dg p1 jb k1 v1 hg x z1;rcases Lw m2 k2 v2 cX hp with⟨p2,fP,rfl,Dl,v02,aj7⟩|⟨Ma,Dl⟩
    ·rw[F5 p2 fP] at z2;exact s2 p1.1 p2.1 x k1 v1 k2 v2 (V.nm p1 jb).2.1 (V.nm p2 fP).2.1 hg Dl (fun q=>cz<|by rw[V.fn p1 jb p2 fP q]) z1 z2
    ·rw[F6 m2 Ma] at z2;exact sep m2 k2 v2 cX Ma Dl x z2 c2
   ·rw[F6 m Fq] at z1;rcases Lw m2 k2 v2 cX hp with⟨p2,fP,rfl,Dl,v02,aj7⟩|⟨Ma,Dl⟩
    ·rw[F5 p2 fP] at z2;exact sep m k1 v1 hm Fq hg x z1 (Dg p2 fP k2 v2 Dl x z2).2.1
    ·rw[F6 m2 Ma] at z2;exact t2 m m2 x k1 v1 k2 v2 hm cX hg Dl cz z1 z2
end Go.Rn
namespace Go.Rn
open Go.RowKit
variable {ρ σ:aw} {β:Type} {o:ae} {v:AV} {s1 s:AS} {o':Obj} {c:Prop} {N:Nat}
structure Cb where
 fn:FuncId
 nt:Nat
 ps:List Tmp
 a:Code
 b:Code
 s1:Nat
 s2:Nat
structure fE where
 ret:Bool
 v1:AV
 v2:AV
 bT:Option Code
noncomputable section
def Ah:ae->Option AV
 | .cells 1 t z=>cellAt t z 0
 |_=>none
def eP(v:AV):ae:=.cells 1 (Tr.fill [v] 0 .nil) []
def aib(p:Option Code):LoopState:=match p with
 |none=>.ready
 |some _=>.done
def Cb.loop(K:Cb)(bT:Option Code)(c1 c2 df:Nat):ae:=.loop (aib bT) bT K.fn (aP [(K.s1,.ptr<|some (c1,0)),(K.s2,.ptr<|some (c2,0))]) K.nt K.ps K.a K.b df
def EU(v:Option AV):Option Nat:=match v with
 |some (.ptr (some (c,0)))=>some c
 |_=>none
open Classical in
def md(c:Prop)(m:M β):M β:=aF (decide c) m
structure Xz where
 fn:FuncId
 t:Tr AV
 nt:Nat
 ps:List Tmp
 a:Code
 b:Code
 df:Nat
def Lx:ae->Option Xz
 | .loop .ready none fn t nt ps a b df=>some ⟨fn,t,nt,ps,a,b,df⟩
 |_=>none
def Ic(K:Cb)(val:AV->AV->AV->Option fE)(x:AV)(L:Nat):M AV:=
 (bz L).bind fun o=>aC (Lx o) fun q=>
 md (q.fn=K.fn/\q.nt=K.nt/\q.ps=K.ps/\q.a=K.a/\q.b=K.b) <|
 aC (EU<|q.t.get K.s1) fun c1=>aC (EU<|q.t.get K.s2) fun c2=>
 md (L≠q.df/\L≠c1/\L≠c2/\q.df≠c1/\q.df≠c2/\c1≠c2) <|
 (bz q.df).bind fun od=>md (od= .defs) <| (bz c1).bind fun o1=>(bz c2).bind fun o2=>
 aC (Ah o1) fun v1=>aC (Ah o2) fun v2=>aC (val x v1 v2) fun p=>
 md (v1.hi=true/\v2.hi=true/\p.v1.hi=true/\p.v2.hi=true/\p.v1.cj=true/\p.v2.cj=true/\v1.cj=true/\v2.cj=true) <|
 (bN L<|some<|K.loop p.bT c1 c2 q.df).bind fun _=>(bN q.df<|some .defs).bind fun _=>(bN c1<|some<|eP p.v1).bind fun _=>(bN c2<|some<|eP p.v2).bind fun _=>M.pure<|.bool p.ret
def rF(K:Cb)(val:AV->AV->AV->Option fE)(U:Nat)(ns:List Nat)(h0:Tr ae):aO->List AV->M AV:=fun _ args=>match args with
 |[x,.yield L]=>aF x.hi <| (fe U h0 ns).bind fun _=>Ic K val x L
 |_=>fail
end
open Classical in
theorem DS{m:M β}{b:β}(h:md c m s= .ok b s1):c/\m s= .ok b s1:=by unfold md at h;obtain⟨h1,h2⟩:=cY h;exact⟨of_decide_eq_true h1,h2⟩
theorem D4{m:M β}(h:c):md c m=m:=by unfold md;simp only[h,decide_true];rfl
theorem SF.md{β:Type}{c:Prop}{m:M β}(h:SF m):SF<|md c m:=SF.aF fun _=>h
theorem SF.rF(K:Cb)(val:AV->AV->AV->Option fE)(U:Nat)(ns:List Nat)(h0:Tr ae)(SG:aO)(args:List AV):SF<|rF K val U ns h0 SG args:=by
 unfold Rn.rF;split
 ·refine SF.aF fun _=>SF.bind (SF.fe U h0 ns) fun _=>?_;unfold Ic;refine SF.bind (SF.bz _) fun o=>SF.aC fun q _=>SF.md <| SF.aC fun c1 _=>SF.aC fun c2 _=>SF.md <| SF.bind (SF.bz _) fun _=>SF.md <| SF.bind (SF.bz _) fun _=>SF.bind (SF.bz _) fun _=>SF.aC fun _ _=>SF.aC fun _ _=>SF.aC fun _ _=>SF.md <| SF.bind (SF.bN _ _) fun _=>SF.bind (SF.bN _ _) fun _=>SF.bind (SF.bN _ _) fun _=>SF.bind (SF.bN _ _) fun _=>SF.pure _
 ·exact SF.fail
theorem acD{q:Xz}(h:Lx o=some q):o= .loop .ready none q.fn q.t q.nt q.ps q.a q.b q.df:=by
 unfold Lx at h;split at h
 ·injection h with h;subst h;rfl
 ·cases h
theorem Ul{v:Option AV}{c:Nat}(h:EU v=some c):v=some (.ptr<|some (c,0)):=by
 unfold EU at h;split at h
 ·injection h with h;subst h;rfl
 ·cases h
theorem Gz(h:Ah o=some v):∃t z,o= .cells 1 t z/\cellAt t z 0=some v:=by
 unfold Ah at h;split at h
 ·exact⟨_,_,rfl,h⟩
 ·cases h
noncomputable def sD(K:Cb)(U:Nat)(P:Program)(rs:List ResultVar)(p:fE):=Fin P rs fun y s'=>y= .bool p.ret/\s'.h.get U=some (K.loop p.bT (U+2) (U+3)<|U+1)/\s'.h.get (U+1)=some .defs/\s'.h.get (U+2)=some (eP p.v1)/\s'.h.get (U+3)=some (eP p.v2)
noncomputable def KF(K:Cb)(U:Nat)(v1 v2:AV):List<|Nat×ae:=[(U,K.loop none (U+2) (U+3)<|U+1),(U+1,.defs),(U+2,eP v1),(U+3,eP v2)]
theorem G1(hb:Ah o=some v)(hv:v.hi=true)(h1:v.cj=true)(hr:iM ρ σ)(h:OR ρ N o o'):OR σ N (eP v) o':=by
 obtain⟨t,z,rfl,hc⟩:=Gz hb;obtain⟨c,e,rfl,h2,h3,h4⟩:=h;obtain⟨x,v',a1,a2,a3,a4⟩:=h4 0 ak;rw[hc] at a1;cases a1;refine⟨c,e,rfl,h2,h3,fun i hi=>?_⟩;obtain rfl:i=0:=by omega
 exact⟨v,v',by rfl,h1,a3,AV.pb hr hv a4⟩
theorem xz(v:AV):Ah (eP v)=some v:=rfl
theorem Pm{K:Cb}{st:LoopState}{bT:Option Code}{t:Tr AV}{c1 c2 df d1 d2 dg:Nat}(ht1:K.s1<top)(FP:K.s2<top)(h1:t.get K.s1=some (.ptr<|some (c1,0)))(h2:t.get K.s2=some (.ptr<|some (c2,0)))(e1:∀x,ρ c1=some x->σ d1=some x)(e2:∀x,ρ c2=some x->σ d2=some x)(e3:∀x,ρ df=some x->σ dg=some x)(h:OR ρ N (.loop st bT K.fn t K.nt K.ps K.a K.b df) o'):OR σ N (.loop st bT K.fn (aP [(K.s1,.ptr<|some (d1,0)),(K.s2,.ptr<|some (d2,0))]) K.nt K.ps K.a K.b dg) o':=by
 obtain⟨a,b,M,rfl,h3,h4,h5,h6⟩:=h;refine⟨a,b,M,rfl,⟨h3.1,fun i x hx=>?_⟩,h4,e3 _ h5,h6⟩;have hm:=GP (fun p hp=>by
  rcases List.mem_cons.1 hp with rfl|hp
  ·exact ht1
  ·rcases List.mem_cons.1 hp with rfl|hp
   ·exact FP
   ·cases hp) hx
 rcases List.mem_cons.1 hm with hm|hm
 ·cases hm;have:=h3.2 _ _ h1;simp only[VR] at this ⊢;obtain⟨b',N',q1,q2⟩:=this;exact⟨b',N',e1 _ q1,q2⟩
 ·rcases List.mem_cons.1 hm with hm|hm
  ·cases hm;have:=h3.2 _ _ h2;simp only[VR] at this ⊢;obtain⟨b',N',q1,q2⟩:=this;exact⟨b',N',e2 _ q1,q2⟩
  ·cases hm
theorem ae1{P:Program}{B:aI}{f U:Nat}{ns:List Nat}{h0:Tr ae}{kn:List<|Nat×Option ae}{K:Cb}{val:AV->AV->AV->Option fE}{fn:Func}{body:Code}{w:World}(hP:bC P)(ch:P.funcs[f]? =some fn)(cw:fn.body=some body)(dE:(fn.name == "runtime.NumGoroutine")=false)(fD:fH<=U)(dJ:U+4<=top)(iZ:K.s1<top)(im:K.s2<top)(nd:K.s1≠K.s2)(dG:∀n o,n<top->h0.get n=some o->n∈ns)(ep:∀n∈ns,n<U)(iA:∀n o,(n,some o)∈kn->h0.get n=some o)(iB:∀p∈kn,p.1<top)(eL:∀x v1 v2 p,val x v1 v2=some p->max fn.ntmps 2<=top/\∀B':aI,B'.F=B.F->B'.inv=B.inv->
 av P B' (U+4) (sD K U P fn.results.toList p) ⟨f,eg [x,.yield U],max fn.ntmps 2,[.code body],[],none⟩ ⟨fL<|kn++bQ (KF K U v1 v2),U+4,0,[],[]⟩){SG:aO}{args:List AV}{x:AV}{vs:Array Value}(r:Rel B ρ s.h w)(hg:gk ρ)(h:rF K val U ns h0 SG args s= .ok x s1)(hv:az ρ args vs.toList):jo P ((callFunc f vs).run P w)<|ki B ρ s s1 w x:=by
 unfold rF at h;split at h
 ·rename_i x0 L;obtain⟨ga,h1⟩:=cY h;obtain⟨u,s2,h2,h3⟩:=M.aR h1;obtain⟨a1,a2,a3⟩:=tH h2;unfold Ic at h3;obtain⟨o,s3,k1,h3⟩:=M.aR h3;obtain⟨q,hq,h3⟩:=bw h3;obtain⟨⟨f1,f2,f3,f4,f5⟩,h3⟩:=DS h3;obtain⟨c1,jL,h3⟩:=bw h3;obtain⟨c2,wU,h3⟩:=bw h3;obtain⟨⟨n1,n2,n3,n4,n5,n6⟩,h3⟩:=DS h3;obtain⟨od,s4,k2,h3⟩:=M.aR h3;obtain⟨hod,h3⟩:=DS h3;obtain⟨o1,s5,k3,h3⟩:=M.aR h3;obtain⟨o2,s6,k4,h3⟩:=M.aR h3;obtain⟨v1,FY,h3⟩:=bw h3;obtain⟨v2,sS,h3⟩:=bw h3;obtain⟨p,hp,h3⟩:=bw h3;obtain⟨⟨g1,g2,g3,g4,g5,g6,g7,g8⟩,h3⟩:=DS h3;obtain⟨u1,t1,w1,h3⟩:=M.aR h3;obtain⟨u2,t2,w2,h3⟩:=M.aR h3;obtain⟨u3,t3,w3,h3⟩:=M.aR h3;obtain⟨u4,t4,w4,h3⟩:=M.aR h3;obtain⟨rfl,rfl⟩:=bI h3;obtain⟨r1,r2,r3,r4⟩:=fY k1;obtain⟨r5,r6,r7,r8⟩:=fY k2;obtain⟨r9,Zv,Zw,r12⟩:=fY k3;obtain⟨r13,Zx,r15,r16⟩:=fY k4;obtain⟨x1,x2,_,x4,x5⟩:=jz w1;obtain⟨y1,y2,_,y4,y5⟩:=jz w2;obtain⟨z1,z2,_,z4,z5⟩:=jz w3;obtain⟨m1,m2,_,m4,m5⟩:=jz w4;have Zy:=acD hq;have p1:=Ul jL;have p2:=Ul wU;obtain⟨qfn,qt,qnt,qps,qa,qb,df⟩:=q;simp only at f1 f2 f3 f4 f5 n1 n2 n3 n4 n5 n6 Zy p1 p2 jL wU k2 k3 k4 w1 w2 w3 w4 y1 y2 y4 r5 r6 r7 r8 x4 hq;subst f1;subst f2;subst f3;subst f4;subst f5;subst hod;rw[Zy,a1] at r2;rw[r3,a1] at r6;rw[r7,r3,a1] at Zv;rw[Zw,r7,r3,a1] at Zx;obtain⟨tz1,zz1,bo1,_⟩:=Gz FY;obtain⟨tz2,zz2,bo2,_⟩:=Gz sS;let V:Vw:=[(U,L,K.loop none (U+2) (U+3)<|U+1),(U+1,df,.defs),(U+2,c1,eP v1),(U+3,c2,eP v2)];have mem:∀q∈V,q=(U,L,K.loop none (U+2) (U+3)<|U+1)\/q=(U+1,df,.defs)\/q=(U+2,c1,eP v1)\/q=(U+3,c2,eP v2):=fun q hq=>by simpa[V] using hq
  have e0:∀gJ:aw,eM U gJ V U=gJ L:=fun gJ=>by
   unfold eM;rw[if_neg ak,if_neg ak];show(match gj V U with|some n=>gJ n|none=>none)=_;have:gj V U=some L:=by simp[gj,V]
   rw[this]
  have e1:∀gJ:aw,eM U gJ V (U+1)=gJ df:=fun gJ=>by
   unfold eM;rw[if_neg ak,if_neg ak];show(match gj V (U+1) with|some n=>gJ n|none=>none)=_;have:gj V (U+1)=some df:=by simp[gj,V]
   rw[this]
  have e2:∀gJ:aw,eM U gJ V (U+2)=gJ c1:=fun gJ=>by
   unfold eM;rw[if_neg ak,if_neg ak];show(match gj V (U+2) with|some n=>gJ n|none=>none)=_;have:gj V (U+2)=some c1:=by simp[gj,V]
   rw[this]
  have e3:∀gJ:aw,eM U gJ V (U+3)=gJ c2:=fun gJ=>by
   unfold eM;rw[if_neg ak,if_neg ak];show(match gj V (U+3) with|some n=>gJ n|none=>none)=_;have:gj V (U+3)=some c2:=by simp[gj,V]
   rw[this]
  have hi:iM ρ<|eM U ρ V:=fun m x hm e=>by rw[xQ ak hm];exact e
  have hV:zi U ρ s.h V:=by
   refine⟨fun q hq=>?_,fun q hq q' dS e=>?_,fun q hq q' dS e=>?_,fun q hq=>?_⟩
   ·rcases mem q hq with rfl|rfl|rfl|rfl
    ·exact⟨Nat.le_refl _,by omega,x2⟩
    ·exact⟨by omega,by omega,y2⟩
    ·exact⟨by omega,by omega,z2⟩
    ·exact⟨by omega,by omega,m2⟩
   ·rcases mem q hq with rfl|rfl|rfl|rfl<;>rcases mem q' dS with rfl|rfl|rfl|rfl<;>first|rfl|(simp only at e;omega)
   ·rcases mem q hq with rfl|rfl|rfl|rfl<;>rcases mem q' dS with rfl|rfl|rfl|rfl<;>first|rfl|(simp only at e;omega)
   ·rcases mem q hq with rfl|rfl|rfl|rfl
    ·exact⟨_,r2,.inl ⟨rfl,rfl,fun N o' hO=>Pm iZ im p1 p2 (fun x e=>by rw[e2];exact e) (fun x e=>by rw[e3];exact e) (fun x e=>by rw[e1];exact e) hO⟩⟩
    ·exact⟨_,r6,.inl ⟨rfl,rfl,fun N o' hO=>hO⟩⟩
    ·exact⟨_,Zv,.inl ⟨by rw[bo1];rfl,rfl,fun N o' hO=>G1 FY g1 g7 hi hO⟩⟩
    ·exact⟨_,Zx,.inl ⟨by rw[bo2];rfl,rfl,fun N o' hO=>G1 sS g2 g8 hi hO⟩⟩
  obtain⟨_,cW,T⟩:=r.tk;have T:CI B ρ s.h w cW:=T;have m9:=HE ak r T dG ep iA iB (fun n hn=>by obtain⟨_,o,p,h⟩:=a3 n hn;exact⟨o,p,h⟩) hV;obtain⟨d1,d2⟩:=eL _ _ _ _ hp;have fi:bF (⟨fL<|kn++bQ (KF K U v1 v2),U+4,0,[],[]⟩:AS):=⟨Nat.zero_le _,dJ⟩;have jK:az (eM U ρ V) [x0,.yield U] vs.toList:=by simp only[az,VR] at hv ⊢;obtain⟨y0,ys,q1,q2,y3,FQ,q3,⟨b',N',q4,q5⟩,q6⟩:=hv;exact⟨y0,ys,q1,AV.pb hi ga q2,y3,FQ,q3,⟨b',N',(e0 ρ).trans q4,q5⟩,q6⟩
  have bJ:=av.En (B:=se B ρ w<|wH ρ cW V) (s:=⟨fL<|kn++bQ (KF K U v1 v2),U+4,0,[],[]⟩) (args:=[x0,.yield U]) (vs:=vs) hP ch cw d1 (d2 _ rfl rfl) fi m9 (fun g hZ=>by
   obtain⟨N,e⟩:=hg g hZ;exact⟨N,by rw[BQ<|Nat.lt_of_lt_of_le hZ fD];exact e⟩) (fun m hm ju=>by
   have hm:U+4<=m:=hm;exact Gy ak ju fun q hq=>by rcases mem q hq with rfl|rfl|rfl|rfl<;>(show _≠m;simp only;omega)) jK
  rw[tI ch cw dE];show Calls P f vs w _;refine bJ.mono fun e w'=>?_;rintro ⟨zj,x',s7,rfl,⟨rfl,j1,j2,j3,j4⟩,_,σ,i0,zk,i1,i2,i3⟩;have sV:∀q∈V,σ q.1=ρ q.2.1:=fun q hq=>by
   rcases mem q hq with rfl|rfl|rfl|rfl
   ·exact(i0 U ak ak).trans<|e0 ρ
   ·exact(i0 (U+1) ak ak).trans<|e1 ρ
   ·exact(i0 (U+2) ak ak).trans<|e2 ρ
   ·exact(i0 (U+3) ak ak).trans<|e3 ρ
  have ov:iM σ<|cK ρ σ:=fun k x hk e=>by unfold cK;rw[if_pos hk];exact e
  have Q4:∀k,k<top->cK ρ σ k=ρ k:=fun k hk=>by unfold cK;rw[if_neg ak]
  have V0:(U,L,K.loop none (U+2) (U+3)<|U+1)∈V:=by simp[V]
  have V1:(U+1,df,ae.defs)∈V:=by simp[V]
  have V2:(U+2,c1,eP v1)∈V:=by simp[V]
  have V3:(U+3,c2,eP v2)∈V:=by simp[V]
  have F7:σ (U+1)=ρ df:=sV _ V1;have s2':σ (U+2)=ρ c1:=sV _ V2;have s3':σ (U+3)=ρ c2:=sV _ V3;have gt:∀(k c d:Nat),(aP [(K.s1,AV.ptr<|some (c,0)),(K.s2,.ptr<|some (d,0))]).get K.s1=some (.ptr<|some (c,0))/\(aP [(K.s1,AV.ptr<|some (c,0)),(K.s2,.ptr<|some (d,0))]).get K.s2=some (.ptr<|some (d,0)):=fun k c d=>by
   constructor
   ·show(((Tr.nil:Tr AV).put K.s2 _).put K.s1 _).get K.s1=_;rw[Tr.lX _ _ _ _ iZ,if_pos rfl]
   ·show(((Tr.nil:Tr AV).put K.s2 _).put K.s1 _).get K.s2=_;rw[Tr.lX _ _ _ _ iZ,if_neg fun e=>nd e.symm,Tr.lX _ _ _ _ im,if_pos rfl]
  obtain⟨b1,b2,b3,b4⟩:=Hg (a:=s.nx) (L2:=[(L,K.loop p.bT c1 c2 df),(df,.defs),(c1,eP p.v1),(c2,eP p.v2)]) (h':=s1.h) r T hV i2 i3 sV (fun m z hm q=>zk m z hm<|hi m z hm q) (fun n q hm=>by
   rcases List.mem_cons.1 hm with hm|hm
   ·cases hm;exact⟨_,V0,rfl,_,j1,.inl ⟨rfl,rfl,fun N o' hO=>Pm iZ im (gt 0 _ _).1 (gt 0 _ _).2 (fun x e=>by rw[Q4 c1 z2, ←s2'];exact e) (fun x e=>by rw[Q4 c2 m2, ←s3'];exact e) (fun x e=>by rw[Q4 df y2, ←F7];exact e) hO⟩⟩
   rcases List.mem_cons.1 hm with hm|hm
   ·cases hm;exact⟨_,V1,rfl,_,j2,.inl ⟨rfl,rfl,fun N o' hO=>hO⟩⟩
   rcases List.mem_cons.1 hm with hm|hm
   ·cases hm;exact⟨_,V2,rfl,_,j3,.inl ⟨rfl,rfl,fun N o' hO=>G1 (xz _) g3 g5 ov hO⟩⟩
   rcases List.mem_cons.1 hm with hm|hm
   ·cases hm;exact⟨_,V3,rfl,_,j4,.inl ⟨rfl,rfl,fun N o' hO=>G1 (xz _) g4 g6 ov hO⟩⟩
   cases hm) (fun q hq _=>by
   rcases mem q hq with rfl|rfl|rfl|rfl
   ·exact⟨_,j1,rfl⟩
   ·exact⟨_,j2,rfl⟩
   ·exact⟨_,j3,rfl⟩
   ·exact⟨_,j4,rfl⟩) (fun k hk=>by
   have IL:s1.h=(((s.h.put L<|some<|K.loop p.bT c1 c2 df).put df<|some .defs).put c1<|some<|eP p.v1).put c2 (some<|eP p.v2):=by rw[m4,z4,y4,x4,r15,Zw,r7,r3,a1]
   rw[IL,Tr.du _ _ _ _ m2 hk,Tr.du _ _ _ _ z2 hk,Tr.du _ _ _ _ y2 hk,Tr.du _ _ _ _ x2 hk];by_cases q4:k=c2
   ·subst q4;exact .inl ⟨_,by simp,if_pos rfl⟩
   rw[if_neg q4];by_cases q3:k=c1
   ·subst q3;exact .inl ⟨_,by simp,if_pos rfl⟩
   rw[if_neg q3];by_cases q2:k=df
   ·subst q2;exact .inl ⟨_,by simp,if_pos rfl⟩
   rw[if_neg q2];by_cases q1:k=L
   ·subst q1;exact .inl ⟨_,by simp,if_pos rfl⟩
   rw[if_neg q1];exact .inr ⟨fun q hq=>by rcases mem q hq with rfl|rfl|rfl|rfl<;>(intro e;exact absurd e.symm<|by assumption),rfl⟩)
  refine⟨zj,rfl,cK ρ σ,?_,AV.pb ov rfl i1,b3,b4⟩;have cJ:s1.nx=s.nx:=by rw[m5,z5,y5,x5,r16,r12,r8,r4,a2]
  rw[cJ];exact b1
 ·cases h
end Go.Rn
namespace Go.Rn
open Go.RowKit
variable {r:Nat->Nat} {n U g df c2 c1:Nat} {s:AS} {K:Cb} {ns:List Nat} {h0:Tr ae} {P:Program}
theorem aic(h:s.mark=0):bc n s=s:=by obtain⟨hh,nx,mark,rd,wr⟩:=s;have h:mark=0:=h;subst h;rfl
theorem U5{U:Nat}{h0:Tr ae}:∀{ns:List Nat} {s s1:AS} {u:Unit},s.mark=0->fe U h0 ns s= .ok u s1->s1=s
 |[],s,s1,u,_,h=>(bI (show M.pure () s= .ok u s1 from h)).2
 |m::ns,s,s1,u,hm,h=>by obtain⟨o,s2,h1,h2⟩:=M.aR (show((bz m).bind fun o=>aC (h0.get m) fun p=>aF (oX U o p) <| fe U h0 ns) s= .ok u s1 from h);obtain⟨a1,a2,rfl⟩:=O9 h1;rw[if_neg ak] at h2;obtain⟨p,_,h3⟩:=bw h2;obtain⟨_,h4⟩:=cY h3;exact U5 hm h4
theorem Ly{o:Option ae}{p:ae}(hm:s.mark=0)(h1:n<s.nx)(h2:n<top)(h3:s.h.get n=some p)(h4:p.dv=false):bN n o s= .ok () ⟨s.h.put n o,s.nx,s.mark,s.rd,s.wr⟩:=by rw[PF h1 h2 h3 h4,if_neg ak]
structure Mb (K:Cb) (s:AS) (L df c1 c2:Nat) (v1 v2:AV):Prop where
 mark:s.mark=0
 nx:s.nx<=top
 lt:L<s.nx/\df<s.nx/\c1<s.nx/\c2<s.nx
 ne:L≠df/\L≠c1/\L≠c2/\df≠c1/\df≠c2/\c1≠c2
 loop:∃t,s.h.get L=some (.loop .ready none K.fn t K.nt K.ps K.a K.b df)/\t.get K.s1=some (.ptr<|some (c1,0))/\t.get K.s2=some (.ptr<|some (c2,0))
 df:s.h.get df=some .defs
 b1:∃o,s.h.get c1=some o/\Ah o=some v1
 b2:∃o,s.h.get c2=some o/\Ah o=some v2
def okB(v:AV):Prop:=v.hi=true/\v.cj=true
noncomputable def MB(K:Cb)(s:AS)(L df c1 c2:Nat)(p:fE):AS:=⟨(((s.h.put L<|some<|K.loop p.bT c1 c2 df).put df<|some .defs).put c1<|some<|eP p.v1).put c2<|some<|eP p.v2,s.nx,s.mark,s.rd,s.wr⟩
theorem Pn{F:Nat->Option (List AV)}{sp:Sp}{val:AV->AV->AV->Option fE}(h:sp g=some (rF K val U ns h0)){x v1 v2:AV}{L:Nat}{p:fE}(hx:x.hi=true)(hk:qk U h0 ns s=true)(I:Mb K s L df c1 c2 v1 v2)(hv:val x v1 v2=some p)(o1:okB v1)(o2:okB v2)(o3:okB p.v1)(o4:okB p.v2):
 bh P sp F (n+1) (.fn g) [x,.yield L] s= .ok (.bool p.ret) (MB K s L df c1 c2 p):=by
 show j8 P sp g (bh P sp F n) [x,.yield L] s=_;rw[ua h];show(aF x.hi <| (fe U h0 ns).bind fun _=>Ic K val x L) s=_;have hc:=vM hk;rw[U5 I.mark hc] at hc;rw[hx,dA,M.bO hc];obtain⟨t,l1,l2,l3⟩:=I.loop;obtain⟨q1,q2,q3⟩:=I.b1;obtain⟨r1,r2,r3⟩:=I.b2;obtain⟨n1,n2,n3,n4,n5,n6⟩:=I.ne;obtain⟨t1,t2,t3,t4⟩:=I.lt;have rd:∀(m:Nat) (o:ae),m<s.nx->s.h.get m=some o->bz m s= .ok o s:=fun m o hm ho=>by have:=lY ((blt_eq _ _).mpr hm) ho;rw[aic I.mark] at this;exact this
 have tt:=I.nx;obtain⟨tz1,zz1,e1,_⟩:=Gz q3;obtain⟨tz2,zz2,e2,_⟩:=Gz r3;unfold Ic;rw[M.bO<|rd _ _ t1 l1];rw[show Lx (.loop .ready none K.fn t K.nt K.ps K.a K.b df)=some ⟨K.fn,t,K.nt,K.ps,K.a,K.b,df⟩ from rfl,bY];rw[D4 (show K.fn=K.fn/\K.nt=K.nt/\K.ps=K.ps/\K.a=K.a/\K.b=K.b from⟨rfl,rfl,rfl,rfl,rfl⟩)];simp only;rw[l2,l3,show EU (some<|.ptr<|some (c1,0))=some c1 from rfl,show EU (some<|.ptr<|some (c2,0))=some c2 from rfl,bY,bY,D4 ⟨n1,n2,n3,n4,n5,n6⟩,M.bO<|rd _ _ t2 I.df,D4 rfl,M.bO<|rd _ _ t3 q2,M.bO<|rd _ _ t4 r2,q3,r3,bY,bY,hv,bY,D4 ⟨o1.1,o2.1,o3.1,o4.1,o3.2,o4.2,o1.2,o2.2⟩];have g1:∀(h:Tr ae) (m k:Nat) (o:Option ae) (p:ae),m<top->k<top->m≠k->h.get k=some p->(h.put m o).get k=some p:=fun h m k o p hm hk cz e=>by rw[Tr.du _ _ _ _ hm hk,if_neg<|Ne.symm cz];exact e
 rw[M.bO<|Ly I.mark t1 ak l1 rfl];rw[M.bO<|Ly (s:=⟨s.h.put L<|some<|K.loop p.bT c1 c2 df,s.nx,s.mark,s.rd,s.wr⟩) I.mark t2 ak (g1 _ _ _ _ _ ak ak n1 I.df) rfl];rw[M.bO<|Ly (s:=⟨(s.h.put L<|some<|K.loop p.bT c1 c2 df).put df<|some .defs,s.nx,s.mark,s.rd,s.wr⟩) I.mark t3 ak (g1 _ _ _ _ _ ak ak n4<|g1 _ _ _ _ _ ak ak n2 q2) (by rw[e1];rfl)];rw[M.bO<|Ly (s:=⟨((s.h.put L<|some<|K.loop p.bT c1 c2 df).put df<|some .defs).put c1<|some<|eP p.v1,s.nx,s.mark,s.rd,s.wr⟩) I.mark t4 ak (g1 _ _ _ _ _ ak ak n6<|g1 _ _ _ _ _ ak ak n5<|g1 _ _ _ _ _ ak ak n3 r2) (by rw[e2];rfl)];rfl
theorem WX{X:TX}{kn:List<|Nat×Option ae}{L L':bV}{fn:Func}{body:Code}(hP:bC P)(fD:fH<=U)(dJ:U+4<=top)(iZ:K.s1<top)(im:K.s2<top)(nd:K.s1≠K.s2)(dG:∀n o,n<top->h0.get n=some o->n∈ns)(ep:∀n∈ns,n<U)(iA:∀n o,(n,some o)∈kn->h0.get n=some o)(iB:∀p∈kn,p.1<top){val:AV->AV->AV->Option fE}(h:dY X U P<|dx U ns h0 L)(h':dY X U P<|dx U ns h0 L')(ch:P.funcs[g]? =some fn)(cw:fn.body=some body)(dE:(fn.name == "runtime.NumGoroutine")=false)(eL:∀x v1 v2 p,val x v1 v2=some p->max fn.ntmps 2<=top/\∀B:aI,qm X P U ns h0 L' B->
 av P B (U+4) (sD K U P fn.results.toList p) ⟨g,eg [x,.yield U],max fn.ntmps 2,[.code body],[],none⟩ ⟨fL<|kn++bQ (KF K U v1 v2),U+4,0,[],[]⟩):dY X U P<|dx U ns h0<|(g,.raw<|rF K val)::L:=by
 refine(show dY X U P (po (dx U ns h0 L) g<|rF K val U ns h0) from h.mP (fun SG _ args=>SF.rF _ _ _ _ _ SG args) fun B hB hT SG hc hl args x s s1 ρ w vs fi r hg hf hm hv=>?_);refine ae1 hP ch cw dE fD dJ iZ im nd dG ep iA iB (fun x v1 v2 p e=>?_) r hg hm hv;obtain⟨q1,q2⟩:=eL x v1 v2 p e;exact⟨q1,fun B' kR kU=>q2 B'<|ru hP h' (kR.trans hB)<|kU.trans hT⟩
theorem adJ{p:Option Code}(iZ:K.s1<top)(im:K.s2<top)(nd:K.s1≠K.s2)(e1:r c1=c1)(e2:r c2=c2)(e3:r df=df):su r (K.loop p c1 c2 df)<|K.loop p c1 c2 df:=by
 intro ρ N o h;have gt:(aP [(K.s1,AV.ptr<|some (c1,0)),(K.s2,.ptr<|some (c2,0))]).get K.s1=some (.ptr<|some (c1,0))/\(aP [(K.s1,AV.ptr<|some (c1,0)),(K.s2,.ptr<|some (c2,0))]).get K.s2=some (.ptr<|some (c2,0)):=by
  constructor
  ·show(((Tr.nil:Tr AV).put K.s2 _).put K.s1 _).get K.s1=_;rw[Tr.lX _ _ _ _ iZ,if_pos rfl]
  ·show(((Tr.nil:Tr AV).put K.s2 _).put K.s1 _).get K.s2=_;rw[Tr.lX _ _ _ _ iZ,if_neg fun e=>nd e.symm,Tr.lX _ _ _ _ im,if_pos rfl]
 exact Pm iZ im gt.1 gt.2 (fun x e=>by rw[e1];exact e) (fun x e=>by rw[e2];exact e) (fun x e=>by rw[e3];exact e) h
theorem VV{v:AV}(h:okB v)(hr:∀k,top<=k->r k=k):su r (eP v)<|eP v:=by intro ρ N o k;exact G1 (xz v) h.1 h.2 (fun m x hm e=>by rw[hr m hm];exact e) k
theorem bA.yield(e:r n=n):bA r (.yield n)<|.yield n:=by intro ρ v h;simp only[VR] at h ⊢;obtain⟨b,N,h1,h2⟩:=h;exact⟨b,N,by rw[e];exact h1,h2⟩
theorem adK:su r .defs .defs:=fun ρ N o k=>k
end Go.Rn
namespace Go.Rn
open Go.RowKit
variable {U g:Nat} {ns:List Nat} {h0:Tr ae} {P:Program} {ρ:aw} {s:AS} {kn:List<|Nat×Option ae} {fn:Func} {body:Code}
def jf(d s:List<|Int×Int):List<|Int×Int:=s.foldl (fun d p=>gD d p.1 p.2) d
theorem VW:∀{a b:List<|Int×Int},di a=di b->a=b
 |[],[],_=>rfl
 |[],_::_,h=>by cases h
 |_::_,[],h=>by cases h
 |(x,y)::a,(z,u)::b,h=>by have h:(AV.int .i64 x,AV.int .i64 y)::di a=(.int .i64 z,.int .i64 u)::di b:=h;simp only[List.cons.injEq,Prod.mk.injEq,AV.int.injEq,true_and] at h;rw[h.1.1,h.1.2,VW h.2]
open Classical in
noncomputable def zY(o:ae):Option<|List<|Int×Int:=if h:∃m,o=bM m then some h.choose else none
theorem TG{o:ae}{m:List<|Int×Int}(h:zY o=some m):o=bM m:=by
 unfold zY at h;split at h
 ·rename_i q;injection h with h;rw[←h];exact q.choose_spec
 ·cases h
theorem TH(m:List<|Int×Int):zY (bM m)=some m:=by
 unfold zY;have q:∃m',bM m=bM m':=⟨m,rfl⟩;rw[dif_pos q];have e:=q.choose_spec;have e:ae.lH (di m)= .lH (di q.choose):=e;injection e with e
 exact congrArg some (VW e).symm
noncomputable def w8(U:Nat)(ns:List Nat)(h0:Tr ae):aO->List AV->M AV:=fun _ args=>match args with
 |[.map (some a),.map (some b)]=>(fe U h0 ns).bind fun _=>md (a≠b) <| (bz a).bind fun o1=>(bz b).bind fun o2=>
  aC (zY o1) fun m1=>aC (zY o2) fun m2=>md ((m1.map (·.1)).Nodup/\(m2.map (·.1)).Nodup) <|
  (bN a<|some<|bM<|jf m1 m2).bind fun _=>(bN b<|some<|bM m2).bind fun _=>M.pure<|.tuple []
 |_=>fail
theorem SF.w8(U:Nat)(ns:List Nat)(h0:Tr ae)(SG:aO)(args:List AV):SF<|w8 U ns h0 SG args:=by
 unfold Rn.w8;split
 ·refine SF.bind (SF.fe U h0 ns) fun _=>SF.md <| SF.bind (SF.bz _) fun _=>SF.bind (SF.bz _) fun _=>SF.aC fun _ _=>SF.aC fun _ _=>SF.md <| SF.bind (SF.bN _ _) fun _=>SF.bind (SF.bN _ _) fun _=>SF.pure _
 ·exact SF.fail
def Q5(U:Nat)(P:Program)(rs:List ResultVar)(m1 m2:List<|Int×Int):=Fin P rs fun y s'=>y= .tuple []/\s'.h.get U=some (bM<|jf m1 m2)/\s'.h.get (U+1)=some (bM m2)
theorem xI{σ:aw}{N:Nat}{o':Obj}{m:List<|Int×Int}(h:OR ρ N (bM m) o'):OR σ N (bM m) o':=by
 obtain⟨l,bg,rfl,h1,h2,l',h3,h4⟩:=h;refine⟨l,bg,rfl,h1,h2,l',h3,?_⟩;have:∀(m:List<|Int×Int) (l:List MapEntry),dX ρ (di m) l->dX σ (di m) l:=by
  intro m;induction m with
  |nil=>intro l h;simpa only[di,List.map_nil,dX] using h
  |cons p m ih=>intro l h;have h:dX ρ ((.int .i64 p.1,.int .i64 p.2)::di m) l:=h;show dX σ ((.int .i64 p.1,.int .i64 p.2)::di m) l;simp only[dX,VR] at h ⊢;obtain⟨e,l',h1,h2,h3,h4⟩:=h;exact⟨e,l',h1,h2,h3,ih l' h4⟩
 exact this m l' h4
theorem ae2{B:aI}{f:Nat}{w:World}{s1:AS}(hP:bC P)(ch:P.funcs[f]? =some fn)(cw:fn.body=some body)(dE:(fn.name == "runtime.NumGoroutine")=false)(fD:fH<=U)(dJ:U+2<=top)(dG:∀n o,n<top->h0.get n=some o->n∈ns)(ep:∀n∈ns,n<U)(iA:∀n o,(n,some o)∈kn->h0.get n=some o)(iB:∀p∈kn,p.1<top)(eL:∀m1 m2:List<|Int×Int,(m1.map (·.1)).Nodup->(m2.map (·.1)).Nodup->max fn.ntmps 2<=top/\∀B':aI,B'.F=B.F->B'.inv=B.inv->
 av P B' (U+2) (Q5 U P fn.results.toList m1 m2) ⟨f,eg [.map<|some U,.map<|some<|U+1],max fn.ntmps 2,[.code body],[],none⟩ ⟨fL<|kn++bQ [(U,bM m1),(U+1,bM m2)],U+2,0,[],[]⟩){SG:aO}{args:List AV}{x:AV}{vs:Array Value}(r:Rel B ρ s.h w)(hg:gk ρ)(h:w8 U ns h0 SG args s= .ok x s1)(hv:az ρ args vs.toList):jo P ((callFunc f vs).run P w)<|ki B ρ s s1 w x:=by
 unfold w8 at h;split at h
 ·rename_i n1 n2;obtain⟨u,s2,h2,h3⟩:=M.aR h;obtain⟨a1,a2,a3⟩:=tH h2;obtain⟨cz,h3⟩:=DS h3;obtain⟨o1,s3,k1,h3⟩:=M.aR h3;obtain⟨o2,s4,k2,h3⟩:=M.aR h3;obtain⟨m1,MC,h3⟩:=bw h3;obtain⟨m2,cX,h3⟩:=bw h3;obtain⟨⟨nd1,nd2⟩,h3⟩:=DS h3;obtain⟨u1,t1,w1,h3⟩:=M.aR h3;obtain⟨u2,t2,w2,h3⟩:=M.aR h3;obtain⟨rfl,rfl⟩:=bI h3;obtain⟨r1,r2,r3,r4⟩:=fY k1;obtain⟨r5,r6,r7,r8⟩:=fY k2;obtain⟨x1,x2,_,x4,x5⟩:=jz w1;obtain⟨y1,y2,_,y4,y5⟩:=jz w2;rw[TG MC,a1] at r2;rw[TG cX,r3,a1] at r6;let V:Vw:=[(U,n1,bM m1),(U+1,n2,bM m2)];have mem:∀q∈V,q=(U,n1,bM m1)\/q=(U+1,n2,bM m2):=fun q hq=>by simpa[V] using hq
  have e0:∀gJ:aw,eM U gJ V U=gJ n1:=fun gJ=>by
   unfold eM;rw[if_neg ak,if_neg ak];have:gj V U=some n1:=by simp[gj,V]
   rw[this]
  have e1:∀gJ:aw,eM U gJ V (U+1)=gJ n2:=fun gJ=>by
   unfold eM;rw[if_neg ak,if_neg ak];have:gj V (U+1)=some n2:=by simp[gj,V]
   rw[this]
  have hi:iM ρ<|eM U ρ V:=fun m x hm e=>by rw[xQ ak hm];exact e
  have hV:zi U ρ s.h V:=by
   refine⟨fun q hq=>?_,fun q hq q' dS e=>?_,fun q hq q' dS e=>?_,fun q hq=>?_⟩
   ·rcases mem q hq with rfl|rfl
    ·exact⟨Nat.le_refl _,by omega,x2⟩
    ·exact⟨by omega,by omega,y2⟩
   ·rcases mem q hq with rfl|rfl<;>rcases mem q' dS with rfl|rfl<;>first|rfl|(simp only at e;omega)
   ·rcases mem q hq with rfl|rfl<;>rcases mem q' dS with rfl|rfl<;>first|rfl|(simp only at e;omega)
   ·rcases mem q hq with rfl|rfl
    ·exact⟨_,r2,.inl ⟨rfl,rfl,fun N o' hO=>xI hO⟩⟩
    ·exact⟨_,r6,.inl ⟨rfl,rfl,fun N o' hO=>xI hO⟩⟩
  obtain⟨_,cW,T⟩:=r.tk;have T:CI B ρ s.h w cW:=T;have m9:=HE ak r T dG ep iA iB (fun n hn=>by obtain⟨_,o,p,h⟩:=a3 n hn;exact⟨o,p,h⟩) hV;obtain⟨d1,d2⟩:=eL m1 m2 nd1 nd2;have fi:bF (⟨fL<|kn++bQ [(U,bM m1),(U+1,bM m2)],U+2,0,[],[]⟩:AS):=⟨Nat.zero_le _,dJ⟩;have jK:az (eM U ρ V) [.map<|some U,.map<|some<|U+1] vs.toList:=by simp only[az,VR] at hv ⊢;obtain⟨y0,ys,q1,⟨b',N',q2,RK⟩,y3,FQ,q3,⟨b'',N'',q4,q5⟩,q6⟩:=hv;exact⟨y0,ys,q1,⟨b',N',(e0 ρ).trans q2,RK⟩,y3,FQ,q3,⟨b'',N'',(e1 ρ).trans q4,q5⟩,q6⟩
  have bJ:=av.En (B:=se B ρ w<|wH ρ cW V) (s:=⟨fL<|kn++bQ [(U,bM m1),(U+1,bM m2)],U+2,0,[],[]⟩) (args:=[.map<|some U,.map<|some<|U+1]) (vs:=vs) hP ch cw d1 (d2 _ rfl rfl) fi m9 (fun g hZ=>by
   obtain⟨N,e⟩:=hg g hZ;exact⟨N,by rw[BQ<|Nat.lt_of_lt_of_le hZ fD];exact e⟩) (fun m hm ju=>by
   have hm:U+2<=m:=hm;exact Gy ak ju fun q hq=>by rcases mem q hq with rfl|rfl<;>(show _≠m;simp only;omega)) jK
  rw[tI ch cw dE];show Calls P f vs w _;refine bJ.mono fun e w'=>?_;rintro ⟨zj,x',s7,rfl,⟨rfl,j1,j2⟩,_,σ,i0,zk,i1,i2,i3⟩;have sV:∀q∈V,σ q.1=ρ q.2.1:=fun q hq=>by
   rcases mem q hq with rfl|rfl
   ·exact(i0 U ak ak).trans<|e0 ρ
   ·exact(i0 (U+1) ak ak).trans<|e1 ρ
  have ov:iM σ<|cK ρ σ:=fun k x hk e=>by unfold cK;rw[if_pos hk];exact e
  have V0:(U,n1,bM m1)∈V:=by simp[V]
  have V1:(U+1,n2,bM m2)∈V:=by simp[V]
  obtain⟨b1,b2,b3,b4⟩:=Hg (a:=s.nx) (L2:=[(n1,bM<|jf m1 m2),(n2,bM m2)]) (h':=s1.h) r T hV i2 i3 sV (fun m z hm q=>zk m z hm<|hi m z hm q) (fun n q hm=>by
   rcases List.mem_cons.1 hm with hm|hm
   ·cases hm;exact⟨_,V0,rfl,_,j1,.inl ⟨rfl,rfl,fun N o' hO=>xI hO⟩⟩
   rcases List.mem_cons.1 hm with hm|hm
   ·cases hm;exact⟨_,V1,rfl,_,j2,.inl ⟨rfl,rfl,fun N o' hO=>xI hO⟩⟩
   cases hm) (fun q hq _=>by
   rcases mem q hq with rfl|rfl
   ·exact⟨_,j1,rfl⟩
   ·exact⟨_,j2,rfl⟩) (fun k hk=>by
   have IL:s1.h=(s.h.put n1<|some<|bM<|jf m1 m2).put n2 (some<|bM m2):=by rw[y4,x4,r7,r3,a1]
   rw[IL,Tr.du _ _ _ _ y2 hk,Tr.du _ _ _ _ x2 hk];by_cases q2:k=n2
   ·subst q2;exact .inl ⟨_,by simp,if_pos rfl⟩
   rw[if_neg q2];by_cases q1:k=n1
   ·subst q1;exact .inl ⟨_,by simp,if_pos rfl⟩
   rw[if_neg q1];exact .inr ⟨fun q hq=>by rcases mem q hq with rfl|rfl<;>(intro e;exact absurd e.symm<|by assumption),rfl⟩)
  refine⟨zj,rfl,cK ρ σ,?_,AV.pb ov rfl i1,b3,b4⟩;have cJ:s1.nx=s.nx:=by rw[y5,x5,r8,r4,a2]
  rw[cJ];exact b1
 ·cases h
theorem agU{X:TX}{L L':bV}(hP:bC P)(fD:fH<=U)(dJ:U+2<=top)(dG:∀n o,n<top->h0.get n=some o->n∈ns)(ep:∀n∈ns,n<U)(iA:∀n o,(n,some o)∈kn->h0.get n=some o)(iB:∀p∈kn,p.1<top)(h:dY X U P<|dx U ns h0 L)(h':dY X U P<|dx U ns h0 L')(ch:P.funcs[g]? =some fn)(cw:fn.body=some body)(dE:(fn.name == "runtime.NumGoroutine")=false)(eL:∀m1 m2:List<|Int×Int,(m1.map (·.1)).Nodup->(m2.map (·.1)).Nodup->max fn.ntmps 2<=top/\∀B:aI,qm X P U ns h0 L' B->
 av P B (U+2) (Q5 U P fn.results.toList m1 m2) ⟨g,eg [.map<|some U,.map<|some<|U+1],max fn.ntmps 2,[.code body],[],none⟩ ⟨fL<|kn++bQ [(U,bM m1),(U+1,bM m2)],U+2,0,[],[]⟩):dY X U P<|dx U ns h0<|(g,.raw w8)::L:=by
 refine(show dY X U P (po (dx U ns h0 L) g<|w8 U ns h0) from h.mP (fun SG _ args=>SF.w8 _ _ _ SG args) fun B hB hT SG hc hl args x s s1 ρ w vs fi r hg hf hm hv=>?_);refine ae2 hP ch cw dE fD dJ dG ep iA iB (fun m1 m2 n1 n2=>?_) r hg hm hv;obtain⟨q1,q2⟩:=eL m1 m2 n1 n2;exact⟨q1,fun B' kR kU=>q2 B'<|ru hP h' (kR.trans hB)<|kU.trans hT⟩
theorem ae3{F:Nat->Option (List AV)}{sp:Sp}{n:Nat}(h:sp g=some (w8 U ns h0)){a b:Nat}{m1 m2:List<|Int×Int}(hk:qk U h0 ns s=true)(Iv:a≠b)(ha:Nat.blt a (dL U h0 ns s).nx=true)(hb:Nat.blt b (dL U h0 ns s).nx=true)(ay:Nat.blt a top=true)(Zz:Nat.blt b top=true)(g1:(dL U h0 ns s).h.get a=some (bM m1))(g2:(dL U h0 ns s).h.get b=some (bM m2))(n1:(m1.map (·.1)).Nodup)(n2:(m2.map (·.1)).Nodup):
 bh P sp F (n+1) (.fn g) [.map<|some a,.map<|some b] s= .ok (.tuple []) (fB b (some<|bM m2)<|fB a (some<|bM<|jf m1 m2)<|bc b<|bc a<|dL U h0 ns s):=by
 show j8 P sp g (bh P sp F n) [.map<|some a,.map<|some b] s=_;rw[ua h];show((fe U h0 ns).bind fun _=>md (a≠b) <| (bz a).bind fun o1=>(bz b).bind fun o2=>
  aC (zY o1) fun m1=>aC (zY o2) fun m2=>md ((m1.map (·.1)).Nodup/\(m2.map (·.1)).Nodup) <|
  (bN a<|some<|bM<|jf m1 m2).bind fun _=>(bN b<|some<|bM m2).bind fun _=>M.pure<|AV.tuple []) s=_
 rw[M.bO<|vM hk,D4 Iv,M.bO<|lY ha g1];generalize dL U h0 ns s=z at*;have iO:Nat.blt b (bc a z).nx=true:=by rw[(fN a z).2.1];exact hb
 have AW:(bc a z).h.get b=some (bM m2):=by rw[(fN a z).1];exact g2
 rw[M.bO<|lY iO AW,TH,bY,TH,bY,D4 ⟨n1,n2⟩];have ha2:Nat.blt a (bc b<|bc a z).nx=true:=by rw[(fN b _).2.1,(fN a z).2.1];exact ha
 have ga2:(bc b<|bc a z).h.get a=some (bM m1):=by rw[(fN b _).1,(fN a z).1];exact g1
 rw[M.bO<|xP ha2 ga2 rfl ay];have wn:∀(n:Nat) (o:Option ae) (s:AS),(fB n o s).nx=s.nx/\(fB n o s).h=s.h.put n o:=fun n o s=>by unfold fB;cases Nat.blt n s.mark<;>exact⟨rfl,rfl⟩
 have hb3:Nat.blt b (fB a (some<|bM<|jf m1 m2)<|bc b<|bc a z).nx=true:=by rw[(wn _ _ _).1,(fN b _).2.1];exact iO
 have gb3:(fB a (some<|bM<|jf m1 m2)<|bc b<|bc a z).h.get b=some (bM m2):=by rw[(wn _ _ _).2,Tr.du _ _ _ _ ((blt_eq _ _).mp ay)<|(blt_eq _ _).mp Zz,if_neg<|Ne.symm Iv,(fN b _).1];exact AW
 rw[M.bO<|xP hb3 gb3 rfl Zz];rfl
end Go.Rn
namespace Go.Rn
open Go.RowKit
variable {ρ σ:aw} {o':Obj} {m' b a:List<|Int×Int} {N:Nat}
abbrev fZ(m:List<|Int×Int):Prop:=(m.map (·.1)).Nodup
def jU:List (Int×Int)->Int->Option Int
 |[],_=>none
 |p::l,k=>if p.1=k then some p.2 else jU l k
theorem ae4(m:List<|Int×Int)(k v j:Int):jU (gD m k v) j=if k=j then some v else jU m j:=by
 induction m with
 |nil=>simp[gD,jU]
 |cons p l ih=>
  unfold gD;by_cases e:p.1=k
  ·rw[if_pos e];by_cases q:k=j
   ·simp[jU,q]
   ·simp[jU,q,e]
  ·rw[if_neg e];by_cases q:p.1=j
   ·have:k≠j:=fun h=>e<|q.trans h.symm;simp[jU,q,this]
   ·simp only[jU,if_neg q];exact ih
theorem adL(m:List<|Int×Int)(k v:Int):∀j,j∈(gD m k v).map (·.1)↔j=k\/j∈m.map (·.1):=by
 intro j;induction m with
 |nil=>simp[gD]
 |cons p l ih=>
  unfold gD;by_cases e:p.1=k
  ·rw[if_pos e];simp only[List.map_cons,List.mem_cons];constructor
   ·rintro (h|h)
    ·exact .inl h
    ·exact .inr<|.inr h
   ·rintro (h|h|h)
    ·exact .inl h
    ·exact .inl<|h.trans e
    ·exact .inr h
  ·rw[if_neg e];simp only[List.map_cons,List.mem_cons];rw[ih];constructor
   ·rintro (h|h|h)
    ·exact .inr<|.inl h
    ·exact .inl h
    ·exact .inr<|.inr h
   ·rintro (h|h|h)
    ·exact .inr<|.inl h
    ·exact .inl h
    ·exact .inr<|.inr h
theorem fZ.set{m:List<|Int×Int}(h:fZ m)(k v:Int):fZ<|gD m k v:=by
 induction m with
 |nil=>simp[fZ,gD]
 |cons p l ih=>
  have h:(p.1::l.map (·.1)).Nodup:=h;obtain⟨h1,h2⟩:=List.nodup_cons.1 h;unfold gD;by_cases e:p.1=k
  ·rw[if_pos e];show(k::l.map (·.1)).Nodup;rw[←e];exact h
  ·rw[if_neg e];show(p.1::(gD l k v).map (·.1)).Nodup;refine List.nodup_cons.2 ⟨fun q=>?_,ih h2⟩;rcases(adL l k v p.1).1 q with q|q
   ·exact e q
   ·exact h1 q
theorem BR{m:List<|Int×Int}(h:fZ m)(k v:Int):(k,v)∈m↔jU m k=some v:=by
 induction m with
 |nil=>simp[jU]
 |cons p l ih=>
  have h:(p.1::l.map (·.1)).Nodup:=h;obtain⟨h1,h2⟩:=List.nodup_cons.1 h;unfold jU;by_cases e:p.1=k
  ·rw[if_pos e,List.mem_cons];constructor
   ·rintro (q|q)
    ·rw[←q]
    ·exact absurd (List.mem_map.2 ⟨_,q,rfl⟩) (by rw[←e] at*;exact h1)
   ·intro q;injection q with q
    obtain⟨a,b⟩:=p;simp only at e q;rw[e,q];exact .inl rfl
  ·rw[if_neg e,List.mem_cons, ←ih h2];constructor
   ·rintro (q|q)
    ·rw[←q] at e;exact absurd rfl e
    ·exact q
   ·exact .inr
theorem fZ.nodup{m:List<|Int×Int}(h:fZ m):m.Nodup:=by
 induction m with
 |nil=>exact List.nodup_nil
 |cons p l ih=>have h:(p.1::l.map (·.1)).Nodup:=h;obtain⟨h1,h2⟩:=List.nodup_cons.1 h;exact List.nodup_cons.2 ⟨fun q=>h1<|List.mem_map.2 ⟨_,q,rfl⟩,ih h2⟩
theorem adM(ha:fZ a)(hb:fZ b)(h:∀k,jU a k=jU b k):a.Perm b:=(List.perm_ext_iff_of_nodup ha.nodup hb.nodup).2 fun⟨k,v⟩=>by rw[BR ha,BR hb,h]
theorem adN(ha:fZ a)(h:a.Perm b)(k:Int):jU a k=jU b k:=by
 have hb:fZ b:=(h.map (·.1)).nodup_iff.1 ha;cases e:jU a k with
 |some v=>exact((BR hb k v).1<|h.mem_iff.1<|(BR ha k v).2 e).symm
 |none=>
  cases e2:jU b k with
  |none=>rfl
  |some v=>have:=(BR ha k v).1<|h.mem_iff.2<|(BR hb k v).2 e2;rw[e] at this;cases this
theorem fZ.merge:∀{s d:List<|Int×Int},fZ d->fZ (jf d s)
 |[],d,h=>h
 |p::s,d,h=>fZ.merge (s:=s)<|h.set p.1 p.2
theorem Oe:∀(s d:List<|Int×Int) (k:Int),fZ s->jU (jf d s) k=match jU s k with|some v=>some v|none=>jU d k
 |[],d,k,_=>rfl
 |p::s,d,k,h=>by
  have h:(p.1::s.map (·.1)).Nodup:=h;obtain⟨h1,h2⟩:=List.nodup_cons.1 h;show jU (jf (gD d p.1 p.2) s) k=_;have oc:jU (p::s) k=if p.1=k then some p.2 else jU s k:=rfl
  rw[Oe s _ k h2,ae4,oc];by_cases e:p.1=k
  ·rw[if_pos e,if_pos e];have:jU s k=none:=by
    cases q:jU s k with
    |none=>rfl
    |some v=>exact absurd (List.mem_map.2 ⟨_,(BR h2 k v).2 q,rfl⟩) (by rw[←e];exact h1)
   rw[this]
  ·rw[if_neg e,if_neg e]
theorem abI{d s s':List<|Int×Int}(hd:fZ d)(hs:fZ s)(h:s.Perm s'):(jf d s).Perm<|jf d s':=by have II:fZ s':=(h.map (·.1)).nodup_iff.1 hs;refine adM hd.merge hd.merge fun k=>?_;rw[Oe s d k hs,Oe s' d k II,adN hs h]
theorem abJ(d s:List<|Int×Int)(p:Int×Int):jf d (s++[p])=gD (jf d s) p.1 p.2:=by unfold jf;rw[List.foldl_append];rfl
theorem Of:∀{l:List<|Int×Int} {x:AV×AV} {r:List<|AV×AV},(x,r)∈yn (di l)->∃(p:Int×Int) (l':List<|Int×Int),x=(.int .i64 p.1,.int .i64 p.2)/\r=di l'/\l.Perm (p::l')
 |[],x,r,h=>by cases h
 |a::l,x,r,h=>by
  have h:(x,r)∈(((AV.int .i64 a.1,AV.int .i64 a.2),di l)::(yn<|di l).map fun(y,r)=>(y,(AV.int .i64 a.1,AV.int .i64 a.2)::r)):=h;rcases List.mem_cons.1 h with h|h
  ·injection h with h1 h2
   exact⟨a,l,h1,h2,List.Perm.refl _⟩
  ·obtain⟨⟨y,r'⟩,hm,e⟩:=List.mem_map.1 h;simp only[Prod.mk.injEq] at e;obtain⟨p,l',h1,h2,h3⟩:=Of hm;refine⟨p,a::l',by rw[←e.1];exact h1,by rw[←e.2,h2];rfl,?_⟩;exact(h3.cons a).trans<|List.Perm.swap p a l'
theorem adO{m:List<|Int×Int}(h:m.Perm m'):∀{l:List MapEntry},dX ρ (di m) l->∃l',l.Perm l'/\dX ρ (di m') l':=by
 induction h with
 |nil=>intro l h;exact⟨l,List.Perm.refl _,h⟩
 |cons x _ ih=>intro l h;have h:dX ρ ((.int .i64 x.1,.int .i64 x.2)::di _) l:=h;simp only[dX] at h;obtain⟨e,es,rfl,h1,h2,h3⟩:=h;obtain⟨l',q1,q2⟩:=ih h3;exact⟨e::l',q1.cons e,by show dX ρ ((.int .i64 x.1,.int .i64 x.2)::di _) _;simp only[dX];exact⟨e,l',rfl,h1,h2,q2⟩⟩
 |swap x y l0=>intro l h;have h:dX ρ ((.int .i64 y.1,.int .i64 y.2)::(.int .i64 x.1,.int .i64 x.2)::di l0) l:=h;simp only[dX] at h;obtain⟨e,es,rfl,h1,h2,e',hJ,rfl,h3,h4,h5⟩:=h;exact⟨e'::e::hJ,List.Perm.swap _ _ _,by show dX ρ ((.int .i64 x.1,.int .i64 x.2)::(.int .i64 y.1,.int .i64 y.2)::di l0) _;simp only[dX];exact⟨e',_,rfl,h3,h4,e,hJ,rfl,h1,h2,h5⟩⟩
 |trans _ _ ih1 ih2=>intro l h;obtain⟨l1,q1,q2⟩:=ih1 h;obtain⟨l2,q3,q4⟩:=ih2 q2;exact⟨l2,q1.trans q3,q4⟩
theorem acE{a b:Int}(h:a≠b):sameKey (.int .i64 a) (.int .i64 b)=some false/\sameKey (.int .i64 b) (.int .i64 a)=some false:=by
 rw[UT,UT];constructor
 ·rw[show(a == b)=false by simpa using h]
 ·rw[show(b == a)=false by simpa using fun e=>h e.symm]
theorem Um{m:List<|Int×Int}(h:fZ m):lG<|di m:=by
 unfold lG;induction m with
 |nil=>exact .nil
 |cons p l ih=>have h:(p.1::l.map (·.1)).Nodup:=h;obtain⟨h1,h2⟩:=List.nodup_cons.1 h;refine .cons (fun q hq=>?_)<|ih h2;obtain⟨z,hz,rfl⟩:=List.mem_map.1 hq;exact acE fun e=>h1 (by rw[e];exact List.mem_map.2 ⟨z,hz,rfl⟩)
theorem abK{m:List<|Int×Int}(hk:fZ m')(hp:m.Perm m')(h:OR ρ N (bM m) o'):OR σ N (bM m') o':=by have h:OR σ N (bM m) o':=xI h;obtain⟨l,bg,rfl,h1,h2,l',h3,h4⟩:=h;obtain⟨l2,q1,q2⟩:=adO hp h4;exact⟨l,bg,rfl,Um hk,h2,l2,h3.trans q1,q2⟩
theorem adP{m:List<|Int×Int}(hk:fZ m)(h:OR ρ N (HW m) o'):OR σ N (bM m) o':=by obtain⟨l,h0,h1,h2⟩:∃l,o'= .map l m.length/\m.length=(di m).length/\jY ρ (di m) l.toList 0:=h;subst h0;have hb:=h2.WM;rw[←h1] at hb;have:OR ρ N (bM m)<|.map l m.length:=⟨l,m.length,rfl,Um hk,hb,l.toList,List.Perm.refl _,h2.eqs⟩;exact xI this
end Go.Rn
namespace Go.Rn
open Go.RowKit
variable {t:Tr AV} {s3:AS} {nt n fn:Nat} {v:AV} {aQ:AF} {b a:Code}
noncomputable section
def wg(l:Nat)(fr:AF):AF:=⟨fr.fn,fr.tmps,fr.nt,fr.todo,fr.defers,some l⟩
end
section
variable {P:Program} {SG:aO} {s s1:AS} {l:Nat}
theorem Ec{fr:AF}(h:(M.pure (bt.go fr):M bt) s= .ok (.go aQ) s1):aQ=fr/\s1=s:=by
 obtain⟨h1,h2⟩:=bI h;injection h1 with h1
 exact⟨h1,h2⟩
theorem adQ{fr:AF}(h:jg P SG fr s= .ok (.go aQ) s1):aQ.round=fr.round/\(fr.round=none->aQ.defers=[]->fr.defers=[]/\jg P SG (wg l fr) s= .ok (.go<|wg l aQ) s1):=by
 obtain⟨f,t,nt,K,d,r⟩:=fr;cases K with
 |nil=>have h':(M.pure (bt.leave ⟨f,t,nt,[],d,r⟩ none):M bt) s= .ok (.go aQ) s1:=h;cases(bI h').1
 |cons it k=>
  have h':(v8 P it).val SG f t nt d r k s= .ok (.go aQ) s1:=h;have goal:∀(X:o9),(v8 P it).val=X->X SG f t nt d r k s= .ok (.go aQ) s1->(aQ.round=r/\(r=none->aQ.defers=[]->d=[]/\X SG f t nt d (some l) k s= .ok (.go<|wg l aQ) s1))->aQ.round=r/\(r=none->aQ.defers=[]->d=[]/\jg P SG (wg l ⟨f,t,nt,it::k,d,r⟩) s= .ok (.go<|wg l aQ) s1):=by rintro X hX _ ⟨h1,h2⟩;refine⟨h1,fun a b=>?_⟩;obtain⟨c,e⟩:=h2 a b;refine⟨c,?_⟩;show(v8 P it).val SG f t nt d (some l) k s=_;rw[hX];exact e
  have pop:∀k',(M.pure (bt.go ⟨f,t,nt,k',d,r⟩):M bt) s= .ok (.go aQ) s1->aQ.round=r/\(r=none->aQ.defers=[]->d=[]/\(M.pure (bt.go ⟨f,t,nt,k',d,some l⟩):M bt) s= .ok (.go<|wg l aQ) s1):=by intro k' h;obtain⟨rfl,rfl⟩:=Ec h;exact⟨rfl,fun _ b=>⟨b,rfl⟩⟩
  cases it with
  |code c=>
   cases c with
   |skip=>exact goal rh rfl h'<|pop _ h'
   |label n=>exact goal rh rfl h'<|pop _ h'
   |seq a b=>exact goal (nX [.code a,.code b]) rfl h'<|pop _ h'
   |cond c a b=>refine goal (Ll c a b) rfl h' ?_;obtain⟨v,h1,h2⟩:=bw (show(aC (aK t c) fun v=>aC (xW v) fun v=>M.pure<|bt.go ⟨f,t,nt,.code (@Bool.rec (fun _=>Code) b a v)::k,d,r⟩) s=_ from h');obtain⟨v',h3,h4⟩:=bw h2;obtain⟨q1,q2⟩:=pop _ h4;refine⟨q1,fun a' b'=>⟨(q2 a' b').1,?_⟩⟩;show(aC (aK t c) fun v=>aC (xW v) fun v=>M.pure<|bt.go ⟨f,t,nt,.code (@Bool.rec (fun _=>Code) b a v)::k,d,some l⟩) s=_;rw[h1,bY,h3,bY];exact(q2 a' b').2
   |block i b=>exact goal (nX [.code b,.inBlock i]) rfl h'<|pop _ h'
   |loop b=>exact goal (nX [.code b,.inLoop b]) rfl h'<|pop _ h'
   |scope b=>exact goal (nX [.code b,.inScope b]) rfl h'<|pop _ h'
   |exit i=>
    refine goal (EK i) rfl h' ?_;have h2:(match exitTo i k with
     |some k'=>M.pure (bt.go ⟨f,t,nt,k',d,r⟩)
     |none=>M.pure<|bt.leave ⟨f,t,nt,.code (.exit i)::k,d,r⟩<|some<|.exit i) s= .ok (.go aQ) s1:=h'
    cases e:exitTo i k with
    |none=>rw[e] at h2;cases(bI h2).1
    |some k'=>
     rw[e] at h2;obtain⟨q1,q2⟩:=pop _ h2;refine⟨q1,fun a' b'=>⟨(q2 a' b').1,?_⟩⟩;show(match exitTo i k with
      |some k'=>M.pure (bt.go ⟨f,t,nt,k',d,some l⟩)
      |none=>M.pure<|bt.leave ⟨f,t,nt,.code (.exit i)::k,d,some l⟩<|some<|.exit i) s=_
     rw[e];exact(q2 a' b').2
   |goto i=>
    refine goal (EL i) rfl h' ?_;have h2:(match gotoIn i k with
     |some k'=>M.pure (bt.go ⟨f,t,nt,k',d,r⟩)
     |none=>M.pure<|bt.leave ⟨f,t,nt,.code (.goto i)::k,d,r⟩<|some<|.goto i) s= .ok (.go aQ) s1:=h'
    cases e:gotoIn i k with
    |none=>rw[e] at h2;cases(bI h2).1
    |some k'=>
     rw[e] at h2;obtain⟨q1,q2⟩:=pop _ h2;refine⟨q1,fun a' b'=>⟨(q2 a' b').1,?_⟩⟩;show(match gotoIn i k with
      |some k'=>M.pure (bt.go ⟨f,t,nt,k',d,some l⟩)
      |none=>M.pure<|bt.leave ⟨f,t,nt,.code (.goto i)::k,d,some l⟩<|some<|.goto i) s=_
     rw[e];exact(q2 a' b').2
   |ret=>cases(bI (show(M.pure (bt.leave ⟨f,t,nt,.code .ret::k,d,r⟩<|some .ret):M bt) s= .ok (.go aQ) s1 from h')).1
   |region i ops dr=>
    cases dr with
    |false=>refine goal (J2 P ops) rfl h' ?_;obtain⟨t1,s2,h2,h3⟩:=M.aR (show((jl P SG nt ops ops.toList t).bind fun t=>M.pure<|bt.go ⟨f,t,nt,k,d,r⟩) s= .ok (.go aQ) s1 from h');obtain⟨rfl,rfl⟩:=Ec h3;refine⟨rfl,fun a' b'=>⟨b',?_⟩⟩;show((jl P SG nt ops ops.toList t).bind fun t=>M.pure<|bt.go ⟨f,t,nt,k,d,some l⟩) s=_;rw[M.bO h2];rfl
    |true=>refine goal (JI P ops) rfl h' ?_;obtain⟨t1,s2,h2,h3⟩:=M.aR (show((qI P SG nt ops t).bind fun t=>M.pure<|bt.go ⟨f,t,nt,k,d,r⟩) s= .ok (.go aQ) s1 from h');obtain⟨rfl,rfl⟩:=Ec h3;refine⟨rfl,fun a' b'=>⟨b',?_⟩⟩;show((qI P SG nt ops t).bind fun t=>M.pure<|bt.go ⟨f,t,nt,k,d,some l⟩) s=_;rw[M.bO h2];rfl
   |rangeFunc g ps a b=>
    have h2:vJ g ps.toList a b SG f t nt d r k s= .ok (.go aQ) s1:=h';unfold vJ at h2;cases r with
    |none=>obtain⟨df,s2,_,h3⟩:=M.aR h2;obtain⟨lo,s3,_,h3⟩:=M.aR h3;obtain⟨gv,_,h3⟩:=bw h3;obtain⟨y,s4,_,h3⟩:=M.aR h3;obtain⟨p,s5,_,h3⟩:=M.aR h3;obtain⟨rfl,rfl⟩:=Ec h3;exact⟨rfl,fun _ b'=>by cases b'⟩
    |some l0=>
     obtain⟨o,s2,_,h3⟩:=M.aR h2;split at h3
     ·obtain⟨lo,s3,_,h3⟩:=M.aR h3;obtain⟨gv,_,h3⟩:=bw h3;obtain⟨y,s4,_,h3⟩:=M.aR h3;obtain⟨p,s5,_,h3⟩:=M.aR h3;obtain⟨rfl,rfl⟩:=Ec h3;exact⟨rfl,fun a' _=>by cases a'⟩
     ·cases h3
   |refuse m=>cases h'
  |inBlock i=>exact goal rh rfl h'<|pop _ h'
  |inScope i=>exact goal rh rfl h'<|pop _ h'
  |inLoop b=>exact goal (nX [.code b,.inLoop b]) rfl h'<|pop _ h'
  |beginRound=>
   have h2:zU SG f t nt d r k s= .ok (.go aQ) s1:=h';unfold zU at h2;cases r with
   |none=>cases h2
   |some l0=>
    obtain⟨o,s2,_,h3⟩:=M.aR h2;split at h3
    ·obtain⟨_,s3,_,h4⟩:=M.aR h3;obtain⟨rfl,rfl⟩:=Ec h4;exact⟨rfl,fun a' _=>by cases a'⟩
    ·cases h3
  |_=>cases h'
theorem TI:∀{k:Nat} {fr aQ:AF} {s s1:AS},eh P SG k fr s= .ok (.go aQ) s1->aQ.round=fr.round/\(fr.round=none->aQ.defers=[]->fr.defers=[]/\eh P SG k (wg l fr) s= .ok (.go<|wg l aQ) s1)
 |0,fr,aQ,s,s1,h=>by cases h;exact⟨rfl,fun _ b=>⟨b,rfl⟩⟩
 |k+1,fr,aQ,s,s1,h=>by
  obtain⟨y,s2,h1,h2⟩:=M.aR (show((jg P SG fr).bind fun x=> @bt.rec (fun _=>M bt) (eh P SG k) (fun fr j=>M.pure<|bt.leave fr j) x) s= .ok _ s1 from h);cases y with
  |leave qB j=>cases(bI (show(M.pure (bt.leave qB j):M bt) s2=_ from h2)).1
  |go qB=>have h2:eh P SG k qB s2= .ok (.go aQ) s1:=h2;obtain⟨a1,a2⟩:=TI h2;obtain⟨b1,b2⟩:=adQ (l:=l) h1;refine⟨a1.trans b1,fun q1 q2=>?_⟩;obtain⟨c1,c2⟩:=a2 (b1.trans q1) q2;obtain⟨d1,d2⟩:=b2 q1 c1;exact⟨d1,(BN d2).trans c2⟩
def KG(P:Program)(SG:aO)(l:Nat)(R:AF->Option Code->AS->Prop)(fr:AF)(s:AS):Prop:=fr.round=none/\fr.defers=[]/\Ev P SG R (wg l fr) s
theorem Chunk.round{R:AF->Option Code->AS->Prop}:Chunk P SG<|KG P SG l R:=by rintro k fr aQ s s1 h ⟨h1,h2,h3⟩;obtain⟨a1,a2⟩:=TI (l:=l) h;obtain⟨b1,b2⟩:=a2 (a1.symm.trans h1) h2;exact⟨a1.symm.trans h1,b1,Chunk.ev k _ _ _ _ b2 h3⟩
end
section
variable {l:Nat}
theorem zH{E:Env}(hE:E.Ok)(u7:E.fg=false){f:Nat}{K:List Item}{s:AS}{R:AF->Option Code->AS->Prop}{C:AB}(hC:∀fr s p,C fr s p->KG E.P (bh E.P E.sp E.F n) l R fr s)(fuel:Nat)(p:Pl){T:Prop}(x:T)(h:T=wp E fuel n (.fr f nt K t s) p [] (fun _ _ _=>False) C:=by as_aux_lemma=>kernel_rfl):Ev E.P (bh E.P E.sp E.F n) R ⟨f,t,nt,K,[],some l⟩ s:=(D2 hE fuel n (.fr f nt K t s) p [] (fun _ _ _=>False) C (KG E.P (bh E.P E.sp E.F n) l R) Chunk.round (fun fr s j aQ jm s1 v s2 p q1 q2 q3=>q3.elim) hC (fun _ _ _ _ _ _ _ _ _ q=>by rw[u7] at q;cases q) (fun _ _ _ _ _ _ _ _ _ _ _ q=>by rw[u7] at q;cases q) (fun _ _ _ _ _ _ _ _ _ q=>by rw[u7] at q;cases q)<|h▸x).2.2
noncomputable section
def zO(P:Program)(SG:aO)(l:Nat)(fr:AF)(s:AS):Option<|AV×AS:=
 match eh P SG 4 (wg l fr) s with
 | .ok (.leave _ j) s1=>(match endRound l j s1 with
  | .ok v s2=>some (v,s2)
  | .bad=>none)
 |_=>none
end
theorem DN{P:Program}{SG:aO}{fr:AF}{s:AS}(h1:fr.round=none)(h2:fr.defers=[])(h:zO P SG l fr s=some (v,s3)):KG P SG l (fun _ j s2=>endRound l j s2= .ok v s3) fr s:=by
 refine⟨h1,h2,?_⟩;unfold zO at h;split at h
 ·rename_i aQ j s1 e;split at h
  ·rename_i v2 s2 e2;injection h with h;injection h with h3 h4
   subst h3;subst h4;exact⟨4,aQ,j,s1,e,e2⟩
  ·cases h
 ·cases h
theorem DO{P:Program}{sp:Sp}{F:Nat->Option (List AV)}{args:List AV}{s s0:AS}{st:LoopState}{bT:Option Code}{d:Nat}{ps:List Tmp}(hg:getLoop l s= .ok (.loop st bT fn t nt ps a b d) s0)(hlen:(and (Nat.beq args.length ps.length)<|ps.all fun p=>Nat.blt p nt)=true)(H:Ev P (bh P sp F n) (fun _ j s2=>endRound l j s2= .ok v s3) ⟨fn,je ps args t,nt,[.code a,.beginRound,.code b],[],some l⟩ s0):bh P sp F (n+1) (.round l) args s= .ok v s3:=by obtain⟨k,aQ,j,s2,h1,h2⟩:=H;show xE P (bh P sp F n) l args s=_;unfold xE;rw[M.bO hg];show(aF (and (Nat.beq args.length ps.length)<|ps.all fun p=>Nat.blt p nt) <| (pX P (bh P sp F n) ⟨fn,je ps args t,nt,[.code a,.beginRound,.code b],[],some l⟩).bind fun st=> @bt.rec (fun _=>M AV) (fun _=>fail) (fun _ j=>endRound l j) st) s0=_;rw[hlen,dA,M.bO<|JC h1];exact h2
theorem GS{P:Program}{SG:aO}{s s1 s2 s4:AS}{df lo:Nat}{k:List Item}{f:Operand}{ps:Array Tmp}{gv y:AV}{p:Option Code}(h1:gC .defs s= .ok df s1)(h2:gC (.loop .ready none fn t nt ps.toList a b df) s1= .ok lo s2)(h3:aK t f=some gv)(h4:ny SG gv [.yield lo] s2= .ok y s3)(h5:lh lo s3= .ok p s4):
 eh P SG 1 ⟨fn,t,nt,.code (.rangeFunc f ps a b)::k,[],none⟩ s= .ok (.go ⟨fn,t,nt,andThen p k,[df],none⟩) s4:=by
 refine BN ?_;show vJ f ps.toList a b SG fn t nt [] none k s=_;unfold vJ;simp only;rw[M.bO h1,M.bO h2,h3,bY,M.bO h4,M.bO h5];rfl
end
end Go.Rn
namespace Go.Rn
open Go.RowKit
variable {U k:Nat} {B:aI} {v:AV} {rs:List ResultVar} {aQ:AF} {Q:Tr AV->List Nat->Option Code->AS->Prop}
noncomputable section
def uC(l:Nat)(fr:AF):AF:=⟨fr.fn,fr.tmps,fr.nt,fr.todo,[l],fr.round⟩
end
section
variable {P:Program} {SG:aO} {s s1:AS} {l:Nat}
theorem D5{fr:AF}(h:(M.pure (bt.go fr):M bt) s= .ok (.go aQ) s1):aQ=fr/\s1=s:=by
 obtain⟨h1,h2⟩:=bI h;injection h1 with h1
 exact⟨h1,h2⟩
theorem abT{fr:AF}(h:jg P SG fr s= .ok (.go aQ) s1):aQ.round=fr.round/\(fr.round=none->aQ.defers=[]->fr.defers=[]/\jg P SG (uC l fr) s= .ok (.go<|uC l aQ) s1):=by
 obtain⟨f,t,nt,K,d,r⟩:=fr;cases K with
 |nil=>have h':(M.pure (bt.leave ⟨f,t,nt,[],d,r⟩ none):M bt) s= .ok (.go aQ) s1:=h;cases(bI h').1
 |cons it k=>
  have h':(v8 P it).val SG f t nt d r k s= .ok (.go aQ) s1:=h;have goal:∀(X:o9),(v8 P it).val=X->X SG f t nt d r k s= .ok (.go aQ) s1->(aQ.round=r/\(r=none->aQ.defers=[]->d=[]/\X SG f t nt [l] r k s= .ok (.go<|uC l aQ) s1))->aQ.round=r/\(r=none->aQ.defers=[]->d=[]/\jg P SG (uC l ⟨f,t,nt,it::k,d,r⟩) s= .ok (.go<|uC l aQ) s1):=by rintro X hX _ ⟨h1,h2⟩;refine⟨h1,fun a b=>?_⟩;obtain⟨c,e⟩:=h2 a b;refine⟨c,?_⟩;show(v8 P it).val SG f t nt [l] r k s=_;rw[hX];exact e
  have pop:∀k',(M.pure (bt.go ⟨f,t,nt,k',d,r⟩):M bt) s= .ok (.go aQ) s1->aQ.round=r/\(r=none->aQ.defers=[]->d=[]/\(M.pure (bt.go ⟨f,t,nt,k',[l],r⟩):M bt) s= .ok (.go<|uC l aQ) s1):=by intro k' h;obtain⟨rfl,rfl⟩:=D5 h;exact⟨rfl,fun _ b=>⟨b,rfl⟩⟩
  cases it with
  |code c=>
   cases c with
   |skip=>exact goal rh rfl h'<|pop _ h'
   |label n=>exact goal rh rfl h'<|pop _ h'
   |seq a b=>exact goal (nX [.code a,.code b]) rfl h'<|pop _ h'
   |cond c a b=>refine goal (Ll c a b) rfl h' ?_;obtain⟨v,h1,h2⟩:=bw (show(aC (aK t c) fun v=>aC (xW v) fun v=>M.pure<|bt.go ⟨f,t,nt,.code (@Bool.rec (fun _=>Code) b a v)::k,d,r⟩) s=_ from h');obtain⟨v',h3,h4⟩:=bw h2;obtain⟨q1,q2⟩:=pop _ h4;refine⟨q1,fun a' b'=>⟨(q2 a' b').1,?_⟩⟩;show(aC (aK t c) fun v=>aC (xW v) fun v=>M.pure<|bt.go ⟨f,t,nt,.code (@Bool.rec (fun _=>Code) b a v)::k,[l],r⟩) s=_;rw[h1,bY,h3,bY];exact(q2 a' b').2
   |block i b=>exact goal (nX [.code b,.inBlock i]) rfl h'<|pop _ h'
   |loop b=>exact goal (nX [.code b,.inLoop b]) rfl h'<|pop _ h'
   |scope b=>exact goal (nX [.code b,.inScope b]) rfl h'<|pop _ h'
   |exit i=>
    refine goal (EK i) rfl h' ?_;have h2:(match exitTo i k with
     |some k'=>M.pure (bt.go ⟨f,t,nt,k',d,r⟩)
     |none=>M.pure<|bt.leave ⟨f,t,nt,.code (.exit i)::k,d,r⟩<|some<|.exit i) s= .ok (.go aQ) s1:=h'
    cases e:exitTo i k with
    |none=>rw[e] at h2;cases(bI h2).1
    |some k'=>
     rw[e] at h2;obtain⟨q1,q2⟩:=pop _ h2;refine⟨q1,fun a' b'=>⟨(q2 a' b').1,?_⟩⟩;show(match exitTo i k with
      |some k'=>M.pure (bt.go ⟨f,t,nt,k',[l],r⟩)
      |none=>M.pure<|bt.leave ⟨f,t,nt,.code (.exit i)::k,[l],r⟩<|some<|.exit i) s=_
     rw[e];exact(q2 a' b').2
   |goto i=>
    refine goal (EL i) rfl h' ?_;have h2:(match gotoIn i k with
     |some k'=>M.pure (bt.go ⟨f,t,nt,k',d,r⟩)
     |none=>M.pure<|bt.leave ⟨f,t,nt,.code (.goto i)::k,d,r⟩<|some<|.goto i) s= .ok (.go aQ) s1:=h'
    cases e:gotoIn i k with
    |none=>rw[e] at h2;cases(bI h2).1
    |some k'=>
     rw[e] at h2;obtain⟨q1,q2⟩:=pop _ h2;refine⟨q1,fun a' b'=>⟨(q2 a' b').1,?_⟩⟩;show(match gotoIn i k with
      |some k'=>M.pure (bt.go ⟨f,t,nt,k',[l],r⟩)
      |none=>M.pure<|bt.leave ⟨f,t,nt,.code (.goto i)::k,[l],r⟩<|some<|.goto i) s=_
     rw[e];exact(q2 a' b').2
   |ret=>cases(bI (show(M.pure (bt.leave ⟨f,t,nt,.code .ret::k,d,r⟩<|some .ret):M bt) s= .ok (.go aQ) s1 from h')).1
   |region i ops dr=>
    cases dr with
    |false=>refine goal (J2 P ops) rfl h' ?_;obtain⟨t1,s2,h2,h3⟩:=M.aR (show((jl P SG nt ops ops.toList t).bind fun t=>M.pure<|bt.go ⟨f,t,nt,k,d,r⟩) s= .ok (.go aQ) s1 from h');obtain⟨rfl,rfl⟩:=D5 h3;refine⟨rfl,fun a' b'=>⟨b',?_⟩⟩;show((jl P SG nt ops ops.toList t).bind fun t=>M.pure<|bt.go ⟨f,t,nt,k,[l],r⟩) s=_;rw[M.bO h2];rfl
    |true=>refine goal (JI P ops) rfl h' ?_;obtain⟨t1,s2,h2,h3⟩:=M.aR (show((qI P SG nt ops t).bind fun t=>M.pure<|bt.go ⟨f,t,nt,k,d,r⟩) s= .ok (.go aQ) s1 from h');obtain⟨rfl,rfl⟩:=D5 h3;refine⟨rfl,fun a' b'=>⟨b',?_⟩⟩;show((qI P SG nt ops t).bind fun t=>M.pure<|bt.go ⟨f,t,nt,k,[l],r⟩) s=_;rw[M.bO h2];rfl
   |rangeFunc g ps a b=>
    have h2:vJ g ps.toList a b SG f t nt d r k s= .ok (.go aQ) s1:=h';unfold vJ at h2;cases r with
    |none=>obtain⟨df,s2,_,h3⟩:=M.aR h2;obtain⟨lo,s3,_,h3⟩:=M.aR h3;obtain⟨gv,_,h3⟩:=bw h3;obtain⟨y,s4,_,h3⟩:=M.aR h3;obtain⟨p,s5,_,h3⟩:=M.aR h3;obtain⟨rfl,rfl⟩:=D5 h3;exact⟨rfl,fun _ b'=>by cases b'⟩
    |some l0=>
     obtain⟨o,s2,_,h3⟩:=M.aR h2;split at h3
     ·obtain⟨lo,s3,_,h3⟩:=M.aR h3;obtain⟨gv,_,h3⟩:=bw h3;obtain⟨y,s4,_,h3⟩:=M.aR h3;obtain⟨p,s5,_,h3⟩:=M.aR h3;obtain⟨rfl,rfl⟩:=D5 h3;exact⟨rfl,fun a' _=>by cases a'⟩
     ·cases h3
   |refuse m=>cases h'
  |inBlock i=>exact goal rh rfl h'<|pop _ h'
  |inScope i=>exact goal rh rfl h'<|pop _ h'
  |inLoop b=>exact goal (nX [.code b,.inLoop b]) rfl h'<|pop _ h'
  |beginRound=>
   have h2:zU SG f t nt d r k s= .ok (.go aQ) s1:=h';unfold zU at h2;cases r with
   |none=>cases h2
   |some l0=>
    obtain⟨o,s2,_,h3⟩:=M.aR h2;split at h3
    ·obtain⟨_,s3,_,h4⟩:=M.aR h3;obtain⟨rfl,rfl⟩:=D5 h4;exact⟨rfl,fun a' _=>by cases a'⟩
    ·cases h3
  |_=>cases h'
theorem Uu:∀{k:Nat} {fr aQ:AF} {s s1:AS},eh P SG k fr s= .ok (.go aQ) s1->aQ.round=fr.round/\(fr.round=none->aQ.defers=[]->fr.defers=[]/\eh P SG k (uC l fr) s= .ok (.go<|uC l aQ) s1)
 |0,fr,aQ,s,s1,h=>by cases h;exact⟨rfl,fun _ b=>⟨b,rfl⟩⟩
 |k+1,fr,aQ,s,s1,h=>by
  obtain⟨y,s2,h1,h2⟩:=M.aR (show((jg P SG fr).bind fun x=> @bt.rec (fun _=>M bt) (eh P SG k) (fun fr j=>M.pure<|bt.leave fr j) x) s= .ok _ s1 from h);cases y with
  |leave qB j=>cases(bI (show(M.pure (bt.leave qB j):M bt) s2=_ from h2)).1
  |go qB=>have h2:eh P SG k qB s2= .ok (.go aQ) s1:=h2;obtain⟨a1,a2⟩:=Uu h2;obtain⟨b1,b2⟩:=abT (l:=l) h1;refine⟨a1.trans b1,fun q1 q2=>?_⟩;obtain⟨c1,c2⟩:=a2 (b1.trans q1) q2;obtain⟨d1,d2⟩:=b2 q1 c1;exact⟨d1,(BN d2).trans c2⟩
def GD(P:Program)(SG:aO)(B:aI)(U:Nat)(Q:Tr AV->List Nat->Option Code->AS->Prop)(l:Nat)(fr:AF)(s:AS):Prop:=fr.round=none/\fr.defers=[]/\AA P B U Q (uC l fr) s
theorem Chunk.defs(bU:P.follows .mixedOrders=true)(hc:fR P B SG)(hl:∀t a,SF<|SG t a):Chunk P SG<|GD P SG B U Q l:=by rintro k fr aQ s s1 h ⟨h1,h2,h3⟩;obtain⟨a1,a2⟩:=Uu (l:=l) h;obtain⟨b1,b2⟩:=a2 (a1.symm.trans h1) h2;exact⟨a1.symm.trans h1,b1,Chunk.F0 bU hc hl k _ _ _ _ b2 h3⟩
noncomputable section
def yN(P:Program)(SG:aO)(rs:List ResultVar)(k l:Nat)(fr:AF)(s:AS):Option<|AV×AS:=
 match eh P SG k (uC l fr) s with
 | .ok (.leave aQ j) s1=>(match finish P rs aQ j s1 with
  | .ok v s2=>some (v,s2)
  | .bad=>none)
 |_=>none
end
theorem OS{fr:AF}{R:AV->AS->Prop}{s2:AS}(bU:P.follows .mixedOrders=true)(hc:fR P B SG)(hl:∀t a,SF<|SG t a)(h1:fr.round=none)(h2:fr.defers=[])(h:yN P SG rs k l fr s=some (v,s2))(hR:R v s2):GD P SG B U (Fin P rs R) l fr s:=by
 refine⟨h1,h2,fun h0=>?_⟩;unfold yN at h;split at h
 ·rename_i aQ j s1 e;split at h
  ·rename_i v2 s3 e2;injection h with h;injection h with h3 h4
   subst h3;subst h4;exact av.leave bU hc hl e h0 ⟨v2,s3,by rw[←Gv];exact e2,hR⟩
  ·cases h
 ·cases h
end
noncomputable section
def Qw(P:Program)(SG:aO)(rs:List ResultVar)(k l:Nat)(fr:AF)(s:AS):Option AV:=match yN P SG rs k l fr s with
 |some (v,_)=>some v
 |none=>none
end
theorem Om{P:Program}{SG:aO}{l:Nat}{s:AS}{fr:AF}(bU:P.follows .mixedOrders=true)(hc:fR P B SG)(hl:∀t a,SF<|SG t a)(h1:fr.round=none)(h2:fr.defers=[])(h:Qw P SG rs k l fr s=some v):GD P SG B U (Fin P rs fun y _=>y=v) l fr s:=by
 unfold Qw at h;split at h
 ·rename_i v2 s2 e;injection h with h;subst h
  exact OS bU hc hl h1 h2 e rfl
 ·cases h
theorem afr{E:Env}(hE:E.Ok){n f nt l:Nat}{t:Tr AV}{K:List Item}{s:AS}{C:AB}(u7:E.fg=false)(bU:E.P.follows .mixedOrders=true)(hc:fR E.P B<|bh E.P E.sp E.F n)(hl:∀t a,SF<|bh E.P E.sp E.F n t a)(hC:∀fr s p,C fr s p->GD E.P (bh E.P E.sp E.F n) B U Q l fr s)(h0:U<=s.nx)(fuel:Nat)(p:Pl){T:Prop}(x:T)(h:T=wp E fuel n (.fr f nt K t s) p [] (fun _ _ _=>False) C:=by as_aux_lemma=>kernel_rfl):av E.P B U Q ⟨f,t,nt,K,[l],none⟩ s:=(D2 hE fuel n (.fr f nt K t s) p [] (fun _ _ _=>False) C (GD E.P (bh E.P E.sp E.F n) B U Q l) (Chunk.defs bU hc hl) (fun fr s j aQ jm s1 v s2 p q1 q2 q3=>q3.elim) hC (fun _ _ _ _ _ _ _ _ _ q=>by rw[u7] at q;cases q) (fun _ _ _ _ _ _ _ _ _ _ _ q=>by rw[u7] at q;cases q) (fun _ _ _ _ _ _ _ _ _ q=>by rw[u7] at q;cases q)<|h▸x).2.2 h0
end Go.Rn
namespace Go.Rn
open Go.RowKit
theorem VR.Ke{ρ:aw}{n o:Nat}{v:Value}(ht:top<=n)(h:VR ρ (.ab n o 0) v):VR ρ (.ab top 0 0) v\/VR ρ (.ab (top+1) 0 0) v:=by
 simp only[VR] at h ⊢;rcases h with⟨_,_,a,c,rfl,hz⟩|⟨b,sh,c,_,rfl,_⟩
 ·cases a with
  |none=>exact .inl<|.inl ⟨Nat.le_refl _,trivial,none,c,rfl,hz.1,(fun _=>rfl),fun e=>by omega⟩
  |some a=>exact .inr<|.inl ⟨by omega,trivial,some a,c,rfl,(fun e=>by cases e),(fun e=>by omega),fun _ e=>by cases e⟩
 ·exact .inr<|.inl ⟨by omega,trivial,_,c,rfl,(fun e=>by cases e),(fun e=>by omega),fun _ e=>by cases e⟩
theorem av.Ke{P:Program}{B:aI}{U:Nat}{Q:Tr AV->List Nat->Option Code->AS->Prop}{f nt:Nat}{t:Tr AV}{K:List Item}{d:List Nat}{r:Option Nat}{s:AS}{i n o:Nat}(hi:t.get i=some (.ab n o 0))(ht:top<=n)(qz:i<top)(H1:av P B U Q ⟨f,t.put i<|some<|.ab top 0 0,nt,K,d,r⟩ s)(H2:av P B U Q ⟨f,t.put i<|some<|.ab (top+1) 0 0,nt,K,d,r⟩ s):av P B U Q ⟨f,t,nt,K,d,r⟩ s:=by
 intro ρ w b a cs bH ay hf;have hv:=ay.tr.2 i _ hi;have au:∀x,VR ρ x (a.tmps.getD i Go.undef)->At B ρ s nt (t.put i<|some x) w a:=fun x hx=>by
  obtain⟨h1,h2,h3,h4,h5⟩:=ay;refine⟨⟨h1.1,fun j y hy=>?_⟩,h2,h3,h4,h5⟩;rw[Tr.lX _ _ _ _ qz] at hy;by_cases e:j=i
  ·rw[if_pos e] at hy;cases hy;rw[e];exact hx
  ·rw[if_neg e] at hy;exact h1.2 j y hy
 obtain⟨f1,f2,f3,f4,f5⟩:=bH;rcases hv.Ke ht with q|q
 ·exact H1 ρ w b a cs ⟨f1,f2,f3,f4,f5⟩ (au _ q) hf
 ·exact H2 ρ w b a cs ⟨f1,f2,f3,f4,f5⟩ (au _ q) hf
end Go.Rn
namespace Go.Rn
open Go.RowKit
section
variable {X:TX} {P:Program} {U:Nat} {ns:List Nat} {h0:Tr ae} {L:bV} {g:Nat} {fn:Func} {body:Code}
theorem ad1(hP:bC P)(fD:fH<=U)(dJ:U<=top)(dG:∀n o,n<top->h0.get n=some o->n∈ns)(ep:∀n∈ns,n<U){val:List AV->Option AV}(h:dY X U P<|dx U ns h0 L)(ch:P.funcs[g]? =some fn)(cw:fn.body=some body)(dE:(fn.name == "runtime.NumGoroutine")=false)(eL:∀args v,val args=some v->max fn.ntmps args.length<=top/\∃L',dY X U P (dx U ns h0 L')/\∀B:aI,qm X P U ns h0 L' B->
 av P B U (Fin P fn.results.toList fun y _=>y=v) ⟨g,eg args,max fn.ntmps args.length,[.code body],[],none⟩ ⟨h0,U,0,[],[]⟩):dY X U P<|dx U ns h0<|(g,.val val)::L:=by
 refine(show dY X U P (po (dx U ns h0 L) g<|p6 U ns h0 val) from h.mP (fun SG _ args=>SF.p6 _ _ _ _ SG args) fun B hB hT SG hc hl args x s s1 ρ w vs fi r hg hf hm hv=>?_);refine Tg hP ch cw dE fD dJ dG ep (fun args v e=>?_) r hg hm hv;obtain⟨q1,L',h',q2⟩:=eL args v e;exact⟨q1,fun B' kR kU=>q2 B'<|ru hP h' (kR.trans hB)<|kU.trans hT⟩
end
end Go.Rn
namespace Go.Rn
open Go.RowKit
variable {s:AS}
section
variable {P:Program} {B:aI} {U:Nat} {Q:Tr AV->List Nat->Option Code->AS->Prop} {SG:aO}
theorem av.YB{fr aQ:AF}{s1:AS}{ρ:aw}{w:World}{b:Frame}{a:Act}{cs:List Frame}(bH:Fr ρ fr b a)(hf:∀k,s.nx<=k->k<top->ρ k=none)(ly:s.nx<=s1.nx)(h0:U<=s.nx)(hw:mf P B ρ s s1 w fr b cs (lone (b.atR a fr.todo) cs w)<|.go aQ)(H:av P B U Q aQ s1):
 ∃(ko:AF) (j:Option Code) (s2:AS) (σ:aw) (a2:Act) (w2:World),Q ko.tmps ko.defers j s2/\U<=s2.nx/\(∀k,k<U->k<top->σ k=ρ k)/\(∀k x,top<=k->ρ k=some x->σ k=some x)/\(∀k,s2.nx<=k->k<top->σ k=none)/\At B σ s2 fr.nt ko.tmps w2 a2/\wy σ ko.defers a2.defers/\cP B w w2/\(ko.fn=fr.fn/\ko.nt=fr.nt/\ko.round=fr.round)/\jB ko.todo/\Leaves j ko.todo/\Steps P (lone (b.atR a fr.todo) cs w) (lone (b.atR a2 ko.todo) cs w2):=by
 obtain⟨σ,a1,w1,e1,e2,e3,e4,⟨e5,e6,e7⟩,e8,_,e9⟩:=hw;have FZ:aQ.fn=fr.fn:=e5;have iY:aQ.nt=fr.nt:=e6;have qA:aQ.round=fr.round:=e7;obtain⟨ko,j,s2,τ,a2,w2,q0,qn,q1,IG,q2,q3,q4,q5,⟨q6,q7,q8⟩,q9,RH,RI⟩:=H σ w1 b a1 cs ⟨bH.fn.trans FZ.symm,bH.kind,by rw[qA];exact bH.round.mono e1.le,e3,e8⟩ (by rw[iY];exact e2) fun k hk ht=>(e1.out k ht ak).trans<|hf k ak ht;exact⟨ko,j,s2,τ,a2,w2,q0,qn,fun k hk gw=>(q1 k hk gw).trans<|e1.out k gw ak,fun k x hk hx=>IG k x hk<|e1.le _ _ hx,q2,by rw[←iY];exact q3,q4,e4.trans q5,⟨q6.trans FZ,q7.trans iY,q8.trans qA⟩,q9,RH,Steps.trans e9 RI⟩
theorem av.next(hc:fR P B SG)(hl:∀t a,SF<|SG t a){fr:AF}{s2:AS}{it:Operand}{o:Oper}{ops:Array Oper}{rest:List Oper}{k:List Item}{n m:Nat}{es:List<|AV×AV}{ex:Bool}{left:List<|AV×AV}{cur:Option<|AV×AV}(e:DX fr=some (it,o,ops,rest,k))(h0:U<=s.nx)(e1:vD fr it s= .ok (n,.iter m es ex left cur) s2)(H0:left=[]->∃aQ s3,pS P SG fr n m es ex o ops rest k s2= .ok aQ s3/\av P B U Q aQ s3)(H1:∀x r,(x,r)∈yn left->∃aQ s3,pW P SG fr n (.iter m es ex r<|some x) o ops rest k (.tuple [.bool true,x.1,x.2]) s2= .ok aQ s3/\av P B U Q aQ s3):av P B U Q fr s:=by
 intro ρ w b a cs bH ay hf;obtain⟨id,pa,mL,C8,ho⟩:=SZ e;obtain⟨h1,h2⟩:=Te e1;obtain⟨hx,hg,hh,cJ⟩:=fY h2;have dI:bF s2:=(SF.bz n).cG ay.cG h2;have ht:n<top:=Nat.lt_of_lt_of_le hx ay.cG.nx;have hd:∀c,o.op≠ .defer c:=fun c q=>by rw[ho] at q;cases q
 obtain⟨pz,fx,u⟩:=ay.rel.iter n m es ex left cur ht hg;obtain⟨bn,N,hn,qc⟩:=u.next (P:=P) o.type;have ID:VR ρ (.ptr<|some (n,0))<|a.eval it:=D9 ay.tr ay.g h1;have FV:a.eval it= .pointer (some ⟨bn,0,none⟩):=by simp only[VR] at ID;obtain⟨b',N',q1,q2⟩:=ID;rw[hn] at q1;cases q1;exact q2
 have Hz:∀v w',(Instr.next (.pointer<|some ⟨bn,0,none⟩) false o.type).run P w= .ok v w'->(execOp a.eval o).run P w= .ok (.value v) w':=by intro v w' q;simp only[execOp,ho,FV,Sem.run_bind,q,Result.andThen_ok,Sem.run_pure]
 obtain⟨_,_,_,hB⟩:=ay.rel.block ht hg hn;have free:∀{a b:Nat},s.nx<=a->dK a b ρ:=fun ha k h1 _ h3=>hf k ak h3;rcases qc with⟨LO,rj⟩|⟨x,r,v1,v2,w',iz,FY,sS,rj,IE,QM,RG⟩
 ·obtain⟨aQ,s3,e3,HS⟩:=H0 LO;have jv:=(SF.pS P hl fr n m es ex o ops rest k).cG dI e3;have C7:=(SF.pS P hl fr n m es ex o ops rest k).le dI e3;refine av.YB bH hf ak h0 ?_ HS;unfold pS at e3;obtain⟨u1,s4,i1,i2⟩:=M.aR e3;obtain⟨u2,s5,i3,i4⟩:=M.aR i2;obtain⟨t1,s6,i5,i6⟩:=M.aR i4;obtain⟨t2,s7,i7,i8⟩:=M.aR i6;obtain⟨rfl,rfl⟩:=bI i8;obtain⟨i9,rfl⟩:=gT i5;obtain⟨_,_,_,j1,j2⟩:=jz i1;obtain⟨_,_,_,j3,j4⟩:=jz i3;have C9:bF s6:=(SF.bN m _).cG ((SF.bN n _).cG dI i1) i3;have lD:s.h.get n=some (.iter m es ex [] cur):=by rw[hg,LO]
  have CC:Rel B ρ s6.h w:=by rw[j3,j1,hh];exact ay.rel.Yd ht lD
  have Da:VR ρ (.tuple [.bool false])<|.tuple #[.bool false]:=by simp only[VR,az];exact⟨_,rfl,_,_,rfl,rfl,rfl⟩
  obtain⟨q1,q2⟩:=DZ (a:=a) ay.tr ay.nt i9 Da;exact Jm hc hl bH pa mL C8 hd (Hz _ _ rj) (cP.refl _ _) ⟨q1,CC,ay.g,ay.nt,C9⟩ (by rw[j4,j2,cJ]) (free (by rw[j4,j2,cJ];exact Nat.le_refl _)) i7
 ·obtain⟨aQ,s3,e3,HS⟩:=H1 x r iz;have jv:=(SF.pW P hl fr n (.iter m es ex r<|some x) o ops rest k<|.tuple [.bool true,x.1,x.2]).cG dI e3;have C7:=(SF.pW P hl fr n (.iter m es ex r<|some x) o ops rest k<|.tuple [.bool true,x.1,x.2]).le dI e3;refine av.YB bH hf ak h0 ?_ HS;unfold pW at e3;obtain⟨u1,s4,i1,i2⟩:=M.aR e3;obtain⟨t1,s6,i5,i6⟩:=M.aR i2;obtain⟨t2,s7,i7,i8⟩:=M.aR i6;obtain⟨rfl,rfl⟩:=bI i8;obtain⟨i9,rfl⟩:=gT i5;obtain⟨_,_,_,j1,j2⟩:=jz i1;have C9:bF s6:=(SF.bN n _).cG dI i1;have CC:Rel B ρ s6.h w':=by rw[j1,hh];exact ay.rel.WO ht hg hn IE QM RG
  have Da:VR ρ (.tuple [.bool true,x.1,x.2])<|.tuple #[.bool true,v1,v2]:=by simp only[VR,az];exact⟨_,rfl,_,_,rfl,rfl,_,_,rfl,FY,_,_,rfl,sS,rfl⟩
  obtain⟨q1,q2⟩:=DZ (a:=a) ay.tr ay.nt i9 Da;exact Jm hc hl bH pa mL C8 hd (Hz _ _ rj) (IE.below<|hB rfl) ⟨q1,CC,ay.g,ay.nt,C9⟩ (by rw[j2,cJ]) (free (by rw[j2,cJ];exact Nat.le_refl _)) i7
end
end Go.Rn
namespace Go.Rn
open Go.RowKit
variable {ρ σ:aw} {off:Nat} {cs:List AV} {x:AV} {w:World} {s:AS} {B:aI}
def AV.yw(x:AV):Bool:=match x with
 | .agg l=>l.all AV.flat
 | .tuple l=>l.all AV.flat
 |x=>x.flat
theorem az.flat:∀{l:List AV} {vs:List Value},l.all AV.flat=true->az ρ l vs->az σ l vs
 |[],_,_,hv=>by simpa only[az] using hv
 |y::l,vs,hy,hv=>by obtain⟨h1,h2⟩:=and_true.1 (show(y.flat&&l.all AV.flat)=true from hy);simp only[az] at hv ⊢;obtain⟨a,as,e,h3,h4⟩:=hv;exact⟨a,as,e,VR.flat h1 h3,az.flat h2 h4⟩
theorem VR.yw{v:Value}(h:x.yw=true)(k:VR ρ x v):VR σ x v:=by
 unfold AV.yw at h;split at h
 ·simp only[VR] at k ⊢;obtain⟨a,e,q⟩:=k;exact⟨a,e,az.flat h q⟩
 ·simp only[VR] at k ⊢;obtain⟨a,e,q⟩:=k;exact⟨a,e,az.flat h q⟩
 ·exact VR.flat h k
theorem ad2{fA:aw}{h h0:Tr ae}{j b:Nat}{c:Array Value}{e:TypeId}{fr:Nat×Nat}(R0:Rel (sd B ρ w) fA h0 w)(Ii:∀n o,n<top->h0.get n=some o->o.m7=true)(ji:fA (hn j b off)=none)(hF:B.F j=some cs)(hb:w.heap[b]? =some (.cells c e fr))(uZ:∀i x,cs[i]? =some x->∃v,c[off+i]? =some v/\VR (gq fA) x v/\x.cj=true)(hold:∀k,ρ k≠none->eR fA (hn j b off) (b,0) k≠none):
 Rel (sd B (eR fA (hn j b off) (b,0)) w) (eR fA (hn j b off) (b,0)) h0 w:=by
 have hl:fA.le<|eR fA (hn j b off) (b,0):=oP ji;have cZ:∀k,k<top->eR fA (hn j b off) (b,0) k=fA k:=fun k hk=>gM _ _ (by have:=gg j b off;omega);have ZI:∀x,jZ (eR fA (hn j b off) (b,0)) h0 x:=fun x m o N hm hg hr=>by rw[ae.kf<|Ii m o hm hg] at hr;cases hr
 refine⟨fun n o fC ho=>?_,fun n m o p b1 N M fC hm h1 h2 da e1 e2=>?_,fun n m es ex left cur fC ho=>?_,R0.size,R0.lone,fun n x sh q=>?_,?_⟩
 ·obtain⟨b1,N,o',i1,i2,i3,i4⟩:=R0.is n o fC ho;exact⟨b1,N,o',hl _ _ i1,i2,i3.mono hl,i4⟩
 ·rw[cZ n fC] at e1;rw[cZ m hm] at e2;exact R0.one n m o p b1 N M fC hm h1 h2 da e1 e2
 ·have:=Ii n _ fC ho;cases this
 ·by_cases z:hn n x sh=hn j b off
  ·obtain⟨rfl,rfl,rfl⟩:=Ks z;refine⟨.inl q,cs,c,e,fr,hF,hb,ZI _,fun i y hy=>?_⟩;obtain⟨v,k1,k2,k3⟩:=uZ i y hy;exact⟨v,k1,VR.mono (GI hl) _ _ k2,k3⟩
  ·have q':fA (hn n x sh)≠none:=by rw[gM _ _ z] at q;exact q
   obtain⟨_,l,c1,e1,aQ,g1,g2,_,g4⟩:=R0.fz n x sh q';refine⟨.inl q,l,c1,e1,aQ,g1,g2,ZI _,fun i y hy=>?_⟩;obtain⟨v,k1,k2,k3⟩:=g4 i y hy;exact⟨v,k1,VR.mono (GI hl) _ _ k2,k3⟩
 ·refine uR.no (fun n k v fC hg=>by have:=Ii n _ fC hg;cases this) ⟨R0.tk.1.1,fun m o hm hg hf=>?_⟩;obtain⟨b1,N,e1,e2⟩:=R0.tk.1.2 m o hm hg hf;exact⟨b1,N,hl _ _ e1,e2⟩
noncomputable section
def HG(len:Nat):cR->Bool
 | .known c=>Nat.ble len c
 | .ar _ _=>true
 | .lost=>false
def wE(U:Nat)(ns:List Nat)(h0:Tr ae)(val:List AV->Option AV):aO->List AV->M AV:=fun _ args=>match args with
  | [a,.slice (some (n,off)) len cap,b]=>aF (a.hi&&(b.hi&&HG len cap)) <| (fe U h0 ns).bind fun _=>(bz n).bind fun o=>aC (cellsOf (some o) off len) fun cs=>aF (cs.all AV.gi&&Nat.blt n top) <|
    aC (val [a,.ab (nm cs) 0 len,b]) fun v=>aF v.yw <| M.pure v
  |_=>fail
end
theorem SF.wE(U:Nat)(ns:List Nat)(h0:Tr ae)(val:List AV->Option AV)(SG:aO)(args:List AV):SF<|wE U ns h0 val SG args:=by
 unfold Rn.wE;split
 ·exact SF.aF fun _=>SF.bind (SF.fe U h0 ns) fun _=>SF.bind (SF.bz _) fun _=>SF.aC fun _ _=>SF.aF fun _=>SF.aC fun _ _=>SF.aF fun _=>SF.pure _
 ·exact SF.fail
theorem abb{o:ae}{k:Nat}(h:cellsOf (some o) off k=some cs):∃m t z,o= .cells m t z/\off+k<=m/\l6 t z k off=some cs:=by
 unfold cellsOf at h;split at h
 ·rename_i m t z e;injection e with e
  split at h
  ·rename_i q;exact⟨m,t,z,e,aL.1 q,h⟩
  ·cases h
 ·cases h
theorem afF{P:Program}{f U:Nat}{ns:List Nat}{h0:Tr ae}{val:List AV->Option AV}{fn:Func}{body:Code}{s1:AS}(hP:bC P)(ch:P.funcs[f]? =some fn)(cw:fn.body=some body)(dE:(fn.name == "runtime.NumGoroutine")=false)(hFU:B.F=FU)(fD:fH<=U)(dJ:U<=top)(dG:∀n o,n<top->h0.get n=some o->n∈ns)(ep:∀n∈ns,n<U)(eL:∀args v,val args=some v->max fn.ntmps args.length<=top/\∀B':aI,B'.F=B.F->B'.inv=B.inv->av P B' U (Fin P fn.results.toList fun y _=>y=v) ⟨f,eg args,max fn.ntmps args.length,[.code body],[],none⟩ ⟨h0,U,0,[],[]⟩){SG:aO}{args:List AV}{vs:Array Value}(r:Rel B ρ s.h w)(hg:gk ρ)(h:wE U ns h0 val SG args s= .ok x s1)(hv:az ρ args vs.toList):jo P ((callFunc f vs).run P w)<|ki B ρ s s1 w x:=by
 unfold wE at h;split at h
 case h_2=>cases h
 rename_i a n off len cap a2;obtain⟨ga,h1⟩:=cY h;obtain⟨ha,yZ⟩:=and_true.1 ga;obtain⟨hb,LJ⟩:=and_true.1 yZ;obtain⟨u,s2,h2,h3⟩:=M.aR h1;obtain⟨o,s3,h4,h5⟩:=M.aR h3;obtain⟨cs,h6,h7⟩:=bw h5;obtain⟨hcd,h8⟩:=cY h7;obtain⟨ZJ,iX⟩:=and_true.1 hcd;have iX:n<top:=(blt_eq _ _).mp iX;obtain⟨v,h9,gH⟩:=bw h8;obtain⟨y9,uY⟩:=cY gH;obtain⟨rfl,rfl⟩:=bI uY;obtain⟨a1,a2',a3⟩:=tH h2;obtain⟨b1,b2,b3,b4⟩:=fY h4;obtain⟨m,t,z,rfl,c1,c2⟩:=abb h6;have kj:s.h.get n=some (.cells m t z):=by rw[←a1];exact b2
 obtain⟨bb,N,o',d1,d2,d3,_⟩:=r.is n _ iX kj;have ZK:=d3;simp only[OR] at ZK;obtain⟨c,e,rfl,_,d4,d5⟩:=ZK;obtain⟨g1,g2⟩:=Jk c2;have ZL:∀n∈ns,∃o p,s.h.get n=some o/\h0.get n=some p/\oX U o p=true:=fun n hn=>by obtain⟨_,o,p,h⟩:=a3 n hn;exact⟨o,p,h⟩
 have R0:=ES dJ r dG ep ZL;have Ii:∀n o,n<top->h0.get n=some o->o.m7=true:=fun n o hn ho=>by obtain⟨p1,p2,_,c3,c4⟩:=ZL n<|dG n o hn ho;rw[ho] at c3;cases c3;unfold oX at c4;split at c4<;>first|rfl|cases c4
 have ahq:ρ (hn (nm cs) bb off)=none:=Classical.byContradiction fun q=>by obtain⟨_,_,_,_,_,_,_,z3,_⟩:=r.fz _ _ _ q;exact z3 n _ N iX kj rfl d1
 have ji:gm U ρ (hn (nm cs) bb off)=none:=by rw[tU dJ<|gg _ _ _];exact ahq
 have R1:=ad2 (B:=B) (ρ:=gm U ρ) (fA:=gm U ρ) (j:=nm cs) (b:=bb) (off:=off) (cs:=cs) (c:=c) (e:=e) (fr:=(0,0)) (h:=s.h) (h0:=h0) (w:=w) ⟨R0.is,R0.one,R0.iter,R0.size,R0.lone,fun n x sh q=>by
  obtain⟨_,g⟩:=R0.fz n x sh q;exact⟨.inl q,g⟩,R0.tk⟩ Ii ji (by rw[hFU];exact Cn ZJ) d2 (fun i x hx=>by
  have hi:i<len:=by rw[←g1];exact(List.getElem?_eq_some_iff.1 hx).1
  obtain⟨x',v',k1,k2,k3,k4⟩:=d5 (off+i) ak;rw[g2 i hi,hx] at k1;injection k1 with k1;subst k1
  have hxc:x.gi=true:=List.all_eq_true.1 ZJ x<|List.mem_of_getElem? hx;refine⟨v',k3,AV.uc (fun k y hk q=>?_) (D3 hxc) k4,k2⟩;unfold gq;rw[if_pos hk,tU dJ hk];exact q) (fun k q=>by
  unfold eR;split
  ·exact fun q=>by cases q
  ·exact q)
 obtain⟨q1,q2⟩:=eL _ _ h9;have fi:bF (⟨h0,U,0,[],[]⟩:AS):=⟨Nat.zero_le _,dJ⟩;have A6:gk<|eR (gm U ρ) (hn (nm cs) bb off) (bb,0):=fun g hZ=>by obtain⟨N,e⟩:=hg g hZ;exact⟨N,oP ji _ _ (by unfold gm;rw[if_pos<|Nat.lt_of_lt_of_le hZ fD];exact e)⟩
 have hi:iM ρ<|eR (gm U ρ) (hn (nm cs) bb off) (bb,0):=fun k y hk e=>oP ji _ _ (by rw[tU dJ hk];exact e);have jK:az (eR (gm U ρ) (hn (nm cs) bb off) (bb,0)) [a,.ab (nm cs) 0 len,a2] vs.toList:=by
  simp only[az] at hv ⊢;obtain⟨v0,vr,e1,k1,v1,vr1,e2,k2,v2,vr2,e3,k3,k4⟩:=hv;refine⟨v0,vr,e1,AV.pb hi ha k1,v1,vr1,e2,?_,v2,vr2,e3,AV.pb hi hb k3,k4⟩;have ay:qY (eR (gm U ρ) (hn (nm cs) bb off) (bb,0)) (nm cs) bb off:=.inr ⟨cV _,by rw[iQ];exact fun q=>by cases q⟩;cases cap with
  |known cc=>simp only[VR] at k2 ⊢;obtain⟨b',N',e4,e5⟩:=k2;rw[d1] at e4;cases e4;exact .inr ⟨bb,off,cc,ay,e5,fun _=>⟨aL.1 LJ,(Ag cs).1⟩⟩
  |ar lo ee=>simp only[VR] at k2 ⊢;obtain⟨b',N',cc,e4,e5,e6,e7,_⟩:=k2;rw[d1] at e4;cases e4;exact .inr ⟨bb,off,cc,ay,e5,fun _=>⟨e7,(Ag cs).1⟩⟩
  |lost=>cases LJ
 have bJ:=av.calls (B:=sd B (eR (gm U ρ) (hn (nm cs) bb off) (bb,0)) w) (s:=⟨h0,U,0,[],[]⟩) (args:=[a,.ab (nm cs) 0 len,a2]) (vs:=vs) hP ch cw q1 (q2 _ rfl rfl) fi R1 A6 (fun k k1 k2=>by have k1:U<=k:=k1;rw[gM _ _ (by have:=gg (nm cs) bb off;omega)];unfold gm gq;rw[if_neg ak,if_neg ak]) jK;rw[tI ch cw dE];show Calls P f vs w _;refine bJ.mono fun e w'=>?_;rintro ⟨y,x',s4,rfl,rfl,_,_,σ,e1,e2,e3,e4⟩;have gr:gX w w':=⟨e4.os,e4.tape,e4.output,e4.size,fun k hk=>e4.block k hk (by show ¬(w.heap.size<=k);omega)⟩;exact⟨y,rfl,ρ,by rw[b4,a2'];exact Ext.refl _ _ _,VR.yw y9 e2,by rw[b3,a1];exact r.Fh gr,gr.below r.size⟩
section
variable {X:TX} {P:Program} {U:Nat} {ns:List Nat} {h0:Tr ae} {kn:List<|Nat×Option ae} {L L':bV} {g k:Nat} {fn:Func} {body:Code}
theorem afG(hP:bC P)(fD:fH<=U)(dJ:U<=top)(dG:∀n o,n<top->h0.get n=some o->n∈ns)(ep:∀n∈ns,n<U){val:List AV->Option AV}(h:dY X U P<|dx U ns h0 L)(h':dY X U P<|dx U ns h0 L')(ch:P.funcs[g]? =some fn)(cw:fn.body=some body)(dE:(fn.name == "runtime.NumGoroutine")=false)(eL:∀args v,val args=some v->max fn.ntmps args.length<=top/\∀B:aI,qm X P U ns h0 L' B->
 av P B U (Fin P fn.results.toList fun y _=>y=v) ⟨g,eg args,max fn.ntmps args.length,[.code body],[],none⟩ ⟨h0,U,0,[],[]⟩):dY X U P<|dx U ns h0<|(g,.raw fun a b c=>wE a b c val)::L:=by
 refine(show dY X U P (po (dx U ns h0 L) g<|wE U ns h0 val) from h.mP (fun SG _ args=>SF.wE _ _ _ _ SG args) fun B hB hT SG hc hl args x s s1 ρ w vs fi r hg hf hm hv=>?_);refine afF hP ch cw dE hB fD dJ dG ep (fun args v e=>?_) r hg hm hv;obtain⟨q1,q2⟩:=eL args v e;exact⟨q1,fun B' kR kU=>q2 B'<|ru hP h' (kR.trans hB)<|kU.trans hT⟩
end
theorem ad3{P:Program}{F:Nat->Option (List AV)}{sp:Sp}{g n U:Nat}{h0:Tr ae}{ns:List Nat}{val:List AV->Option AV}(h:sp g=some (wE U ns h0 val)){a b:AV}{m len:Nat}{cap:cR}{v:AV}(h1:(a.hi&&(b.hi&&HG len cap))=true)(hk:qk U h0 ns s=true)(hm:Nat.blt m (dL U h0 ns s).nx=true)(ht:Nat.blt m top=true)(h2:cellsOf ((dL U h0 ns s).h.get m) off len=some cs)(h3:cs.all AV.gi=true)(h4:val [a,.ab (nm cs) 0 len,b]=some v)(h5:v.yw=true):
 bh P sp F (n+1) (.fn g) [a,.slice (some (m,off)) len cap,b] s= .ok v (bc m<|dL U h0 ns s):=by
 show j8 P sp g (bh P sp F n) [a,.slice (some (m,off)) len cap,b] s=_;rw[ua h];cases q:(dL U h0 ns s).h.get m with
 |none=>rw[q] at h2;cases h2
 |some o=>rw[q] at h2;show(aF (a.hi&&(b.hi&&HG len cap)) <| (fe U h0 ns).bind fun _=>(bz m).bind fun o=>aC (cellsOf (some o) off len) fun cs=>aF (cs.all AV.gi&&Nat.blt m top) <| aC (val [a,.ab (nm cs) 0 len,b]) fun v=>aF v.yw <| M.pure v) s=_;rw[h1,dA,M.bO<|vM hk,M.bO<|lY hm q,h2,bY,h3,ht];show(aF true <| aC (val [a,.ab (nm cs) 0 len,b]) fun v=>aF v.yw <| M.pure v) _=_;rw[dA,h4,bY,h5,dA];rfl
end Go.Rn
namespace Go.Rn
open Go.RowKit
variable {r2 r1 N n:Nat} {ρ σ:aw} {o':Obj} {cs a rest b:List AV} {y v:AV} {sp:Sp} {s:AS} {o:ae} {F:Nat->Option (List AV)}
noncomputable def bu(cs:List AV):ae:=.cells cs.length (Tr.fill cs 0 .nil) []
theorem ad4(ha:a.length<=top)(hb:b.length<=top)(h:bu a=bu b):a=b:=by
 unfold bu at h;injection h with h1 h2 _
 refine List.ext_getElem? fun i=>?_;by_cases q:i<a.length
 ·have e1:=zC ha q;have e2:=zC hb (show i<b.length by omega);rw[←e1, ←e2,h2]
 ·rw[List.getElem?_eq_none ak,List.getElem?_eq_none ak]
open Classical in
noncomputable def rowOf(o:ae):Option<|List AV:=if h:∃cs,cs.length<=top/\o=bu cs then some h.choose else none
theorem GC(h:rowOf o=some cs):o=bu cs/\cs.length<=top:=by
 unfold rowOf at h;split at h
 ·rename_i q;injection h with h;rw[←h];exact⟨q.choose_spec.2,q.choose_spec.1⟩
 ·cases h
theorem GF(h:cs.length<=top):rowOf (bu cs)=some cs:=by unfold rowOf;have q:∃kx,kx.length<=top/\bu cs=bu kx:=⟨cs,h,rfl⟩;rw[dif_pos q];exact congrArg some (ad4 h q.choose_spec.1 q.choose_spec.2).symm
structure RS where
 pre:List AV
 len:Nat
 cap:cR
 post:List AV
def dZ(R:RS)(r1 r2:Nat):List AV:=R.pre++(.ptr (some (r1,0)):: .slice (some (r2,0)) R.len R.cap::R.post)
def rootOf(kp:Nat)(cs:List AV):Option<|RS×Nat×Nat:=match cs.drop kp with
 | .ptr (some (r1,0)):: .slice (some (r2,0)) len cap::post=>some (⟨cs.take kp,len,cap,post⟩,r1,r2)
 |_=>none
theorem Th{R:RS}{kp:Nat}(h:R.pre.length=kp):rootOf kp (dZ R r1 r2)=some (R,r1,r2):=by subst h;unfold rootOf dZ;rw[List.drop_left,List.take_left];rfl
theorem TK{kp:Nat}{q:RS×Nat×Nat}(h:rootOf kp cs=some q):cs=dZ q.1 q.2.1 q.2.2:=by
 unfold rootOf at h;split at h
 ·rename_i e;injection h with h;subst h
  unfold dZ;rw[←e,List.take_append_drop]
 ·cases h
structure VS where
 R:RS
 u:AV
 row:List AV
def yx(k:Nat)(o:ae):Option AV:=match o with
 | .tok k' v=>(match Nat.beq k k' with|true=>some v|false=>none)
 |_=>none
theorem On{k:Nat}(h:yx k o=some v):o= .tok k v:=by
 unfold yx at h;split at h
 ·split at h
  ·rename_i q;injection h with h;rw[h,Nat.eq_of_beq_eq_true q]
  ·cases h
 ·cases h
theorem Oo{k:Nat}:yx k (.tok k v)=some v:=by show(match Nat.beq k k with|true=>some v|false=>none)=some v;rw[eB.2 rfl]
def tu(R:RS):Bool:=R.pre.all AV.cq&&R.post.all AV.cq
def bR(kp:Nat)(st:VS):Bool:=tu st.R&&(st.row.all AV.cq&&(Nat.ble (dZ st.R 0 0).length top&&Nat.ble st.row.length top))
noncomputable section
def nB(kp k:Nat)(val:VS->List AV->Option (AV×VS))(U:Nat)(ns:List Nat)(h0:Tr ae):aO->List AV->M AV:=fun _ args=>match args with
 | .ptr (some (n,0))::rest=>aF (rest.all AV.hi) <| (fe U h0 ns).bind fun _=>(bz n).bind fun o=>aC (rowOf o) fun cs=>aC (rootOf kp cs) fun q=>(bz q.2.1).bind fun o1=>aC (yx k o1) fun u=>(bz q.2.2).bind fun o2=>aC (rowOf o2) fun row=>
  aF (tu q.1&&row.all AV.cq) <| aF (!Nat.beq n q.2.1&&(!Nat.beq n q.2.2&& !Nat.beq q.2.1 q.2.2)) <| aC (val ⟨q.1,u,row⟩ rest) fun p=>aF (p.1.hi&&bR kp p.2) <|
  (bN n<|some<|bu<|dZ p.2.R q.2.1 q.2.2).bind fun _=>(lE q.2.1<|some<|.tok k p.2.u).bind fun _=>(bN q.2.2<|some<|bu p.2.row).bind fun _=>M.pure p.1
 |_=>fail
def dQ(U k:Nat)(st:VS):List<|Nat×ae:=[(U,bu<|dZ st.R (U+1)<|U+2),(U+1,.tok k st.u),(U+2,bu st.row)]
end
theorem SF.nB(kp k:Nat)(val:VS->List AV->Option (AV×VS))(U:Nat)(ns:List Nat)(h0:Tr ae)(SG:aO)(args:List AV):SF<|nB kp k val U ns h0 SG args:=by
 unfold Rn.nB;split
 ·exact SF.aF fun _=>SF.bind (SF.fe U h0 ns) fun _=>SF.bind (SF.bz _) fun _=>SF.aC fun _ _=>SF.aC fun _ _=>SF.bind (SF.bz _) fun _=>SF.aC fun _ _=>SF.bind (SF.bz _) fun _=>SF.aC fun _ _=>SF.aF fun _=>SF.aF fun _=>SF.aC fun _ _=>SF.aF fun _=>SF.bind (SF.bN _ _) fun _=>SF.bind (SF.lE _ _) fun _=>SF.bind (SF.bN _ _) fun _=>SF.pure _
 ·exact SF.fail
def ij(U k:Nat)(P:Program)(rs:List ResultVar)(y:AV)(st:VS):=Fin P rs fun y1 s'=>y1=y/\∀m o,(m,o)∈dQ U k st->s'.h.get m=some o
theorem We(ha:a.length<=top)(hb:b.length<=top)(hl:b.length=a.length)(hc:∀(i:Nat) (x y:AV),a[i]? =some x->b[i]? =some y->(x.cj=true->y.cj=true)/\∀v,VR ρ x v->VR σ y v)(h:OR ρ N (bu a) o'):OR σ N (bu b) o':=by unfold bu at h ⊢;simp only[OR] at h ⊢;obtain⟨c,e,rfl,h1,h2,h3⟩:=h;refine⟨c,e,rfl,h1,by omega,fun i hi=>?_⟩;obtain⟨x,v,k1,k2,k3,k4⟩:=h3 i ak;rw[zC ha ak] at k1;have iO:b[i]? =some (b[i]'hi):=List.getElem?_eq_getElem hi;obtain⟨q1,q2⟩:=hc i x _ k1 iO;exact⟨_,v,by rw[zC hb hi];exact iO,q1 k2,k3,q2 v k4⟩
theorem Ao(kr:iM ρ σ)(ha:a.length<=top)(hh:a.all AV.cq=true)(h:OR ρ N (bu a) o'):OR σ N (bu a) o':=We ha ha rfl (fun i x y e1 e2=>by rw[e1] at e2;cases e2;exact⟨id,fun v k=>AV.uc kr (List.all_eq_true.1 hh x<|List.mem_of_getElem? e1) k⟩) h
theorem Bw{R:RS}{r3 r4:Nat}:(dZ R r1 r2).length=(dZ R r3 r4).length:=by unfold dZ;simp only[List.length_append,List.length_cons]
theorem Kf{R:RS}{s1 s2:Nat}(kr:iM ρ σ)(hl:(dZ R r1 r2).length<=top)(hR:tu R=true)(e1:∀x,ρ r1=some x->σ s1=some x)(e2:∀x,ρ r2=some x->σ s2=some x)(h:OR ρ N (bu<|dZ R r1 r2) o'):OR σ N (bu<|dZ R s1 s2) o':=by
 obtain⟨hp,hq⟩:=and_true.1 hR;refine We hl (by rw[Bw (r3:=r1) (r4:=r2)];exact hl) Bw (fun i x y k1 k2=>?_) h;unfold dZ at k1 k2;by_cases c1:i<R.pre.length
 ·rw[List.getElem?_append_left c1] at k1 k2;rw[k1] at k2;cases k2;exact⟨id,fun v k=>AV.uc kr (List.all_eq_true.1 hp x<|List.mem_of_getElem? k1) k⟩
 ·rw[List.getElem?_append_right ak] at k1 k2;generalize i - R.pre.length=j at k1 k2
  match j with
  |0=>simp only[List.getElem?_cons_zero,Option.some.injEq] at k1 k2;subst k1;subst k2;refine⟨fun _=>rfl,fun v k=>?_⟩;simp only[VR] at k ⊢;obtain⟨b,N,a1,a2⟩:=k;exact⟨b,N,e1 _ a1,a2⟩
  |1=>
   simp only[List.getElem?_cons_succ,List.getElem?_cons_zero,Option.some.injEq] at k1 k2;subst k1;subst k2;refine⟨fun _=>rfl,fun v k=>?_⟩;generalize R.cap=cp at k ⊢;cases cp<;>simp only[VR] at k ⊢
   ·obtain⟨b,N,a1,a2⟩:=k;exact⟨b,N,e2 _ a1,a2⟩
   ·obtain⟨b,N,c,a1,a2⟩:=k;exact⟨b,N,c,e2 _ a1,a2⟩
   ·obtain⟨l,b,N,p,c,a1,a2⟩:=k;exact⟨l,b,N,p,c,e2 _ a1,a2⟩
  |j+2=>simp only[List.getElem?_cons_succ] at k1 k2;rw[k1] at k2;cases k2;exact⟨id,fun v k=>AV.uc kr (List.all_eq_true.1 hq x<|List.mem_of_getElem? k1) k⟩
theorem acR{P:Program}{B:aI}{f U kp k:Nat}{ns:List Nat}{h0:Tr ae}{kn:List<|Nat×Option ae}{val:VS->List AV->Option (AV×VS)}{fn:Func}{body:Code}{w:World}{s1:AS}(hP:bC P)(ch:P.funcs[f]? =some fn)(cw:fn.body=some body)(dE:(fn.name == "runtime.NumGoroutine")=false)(fD:fH<=U)(dJ:U+3<=top)(dG:∀n o,n<top->h0.get n=some o->n∈ns)(ep:∀n∈ns,n<U)(iA:∀n o,(n,some o)∈kn->h0.get n=some o)(iB:∀p∈kn,p.1<top)(eL:∀st rest y br,val st rest=some (y,br)->max fn.ntmps (rest.length+1)<=top/\∀B':aI,B'.F=B.F->B'.inv=B.inv->
 av P B' (U+3) (ij U k P fn.results.toList y br) ⟨f,eg<|.ptr (some (U,0))::rest,max fn.ntmps<|rest.length+1,[.code body],[],none⟩ ⟨fL<|kn++bQ (dQ U k st),U+3,0,[],[]⟩){SG:aO}{args:List AV}{x:AV}{vs:Array Value}(r:Rel B ρ s.h w)(hg:gk ρ)(h:nB kp k val U ns h0 SG args s= .ok x s1)(hv:az ρ args vs.toList):jo P ((callFunc f vs).run P w)<|ki B ρ s s1 w x:=by
 unfold nB at h;split at h
 case h_2=>cases h
 rename_i n rest;obtain⟨ga,h⟩:=cY h;obtain⟨u,s2,h2,h⟩:=M.aR h;obtain⟨a1,a2,a3⟩:=tH h2;obtain⟨o,s3,k1,h⟩:=M.aR h;obtain⟨cs,m1,h⟩:=bw h;obtain⟨q,m2,h⟩:=bw h;obtain⟨o1,s4,k2,h⟩:=M.aR h;obtain⟨tv,m3,h⟩:=bw h;obtain⟨o2,s5,k3,h⟩:=M.aR h;obtain⟨row,m4,h⟩:=bw h;obtain⟨dq,h⟩:=cY h;obtain⟨Ij,eO⟩:=and_true.1 dq;obtain⟨cz,h⟩:=cY h;obtain⟨p,hp,h⟩:=bw h;obtain⟨kD,h⟩:=cY h;obtain⟨IT,hS⟩:=and_true.1 kD;obtain⟨hSR,hS⟩:=and_true.1 hS;obtain⟨ajb,hS⟩:=and_true.1 hS;obtain⟨R5,akE⟩:=and_true.1 hS;obtain⟨_,t1,w1,h⟩:=M.aR h;obtain⟨_,t2,w2,h⟩:=M.aR h;obtain⟨_,t3,w3,h⟩:=M.aR h;obtain⟨rfl,rfl⟩:=bI h;obtain⟨R,n1,n2⟩:=q;obtain⟨y,br⟩:=p;have Fq:n≠n1/\n≠n2/\n1≠n2:=by
  obtain⟨c1,c2⟩:=and_true.1 cz;obtain⟨c2,c3⟩:=and_true.1 c2;refine⟨fun e=>?_,fun e=>?_,fun e=>?_⟩<;>subst e
  ·rw[eB.2 rfl] at c1;cases c1
  ·rw[eB.2 rfl] at c2;cases c2
  ·rw[show Nat.beq n1 n1=true from eB.2 rfl] at c3;cases c3
 obtain⟨d1,d2,d3⟩:=Fq;obtain⟨rfl,nH⟩:=GC m1;have uZ:=TK m2;subst uZ;have IU:=On m3;subst IU;obtain⟨rfl,zr⟩:=GC m4;obtain⟨b1,b2,b3,b4⟩:=fY k1;obtain⟨b5,b6,b7,b8⟩:=fY k2;obtain⟨b9,R6,R7,R9⟩:=fY k3;obtain⟨x1,x2,_,x4,x5⟩:=jz w1;obtain⟨y1,y2,y3,y4⟩:=U2 w2;obtain⟨z1,z2,_,z4,z5⟩:=jz w3;have g1:s.h.get n=some (bu<|dZ R n1 n2):=by rw[←a1];exact b2
 have g2:s.h.get n1=some (.tok k tv):=by rw[←a1, ←b3];exact b6
 have g3:s.h.get n2=some (bu row):=by rw[←a1, ←b3, ←b7];exact R6
 let V:Vw:=[(U,n,bu<|dZ R (U+1)<|U+2),(U+1,n1,.tok k tv),(U+2,n2,bu row)];have mem:∀q∈V,q=(U,n,bu<|dZ R (U+1)<|U+2)\/q=(U+1,n1,.tok k tv)\/q=(U+2,n2,bu row):=fun q hq=>by simpa[V] using hq
 have V0:(U,n,bu<|dZ R (U+1)<|U+2)∈V:=by simp[V]
 have V1:(U+1,n1,ae.tok k tv)∈V:=by simp[V]
 have V2:(U+2,n2,bu row)∈V:=by simp[V]
 have e0:eM U ρ V U=ρ n:=by
  unfold eM;rw[if_neg ak,if_neg ak];have:gj V U=some n:=by simp[gj,V]
  rw[this]
 have e1:eM U ρ V (U+1)=ρ n1:=by
  unfold eM;rw[if_neg ak,if_neg ak];have:gj V (U+1)=some n1:=by simp[gj,V]
  rw[this]
 have e2:eM U ρ V (U+2)=ρ n2:=by
  unfold eM;rw[if_neg ak,if_neg ak];have:gj V (U+2)=some n2:=by simp[gj,V]
  rw[this]
 have hi:iM ρ<|eM U ρ V:=fun m x hm e=>by rw[xQ ak hm];exact e
 have hV:zi U ρ s.h V:=by
  refine⟨fun q hq=>?_,fun q hq q' dS e=>?_,fun q hq q' dS e=>?_,fun q hq=>?_⟩
  ·rcases mem q hq with rfl|rfl|rfl
   ·exact⟨Nat.le_refl _,by show U<top;omega,x2⟩
   ·exact⟨by show U<=U+1;omega,by show U+1<top;omega,y2⟩
   ·exact⟨by show U<=U+2;omega,by show U+2<top;omega,z2⟩
  ·rcases mem q hq with rfl|rfl|rfl<;>rcases mem q' dS with rfl|rfl|rfl<;>first|rfl|(simp only at e;omega)
  ·rcases mem q hq with rfl|rfl|rfl<;>rcases mem q' dS with rfl|rfl|rfl<;>first|rfl|(exact absurd e<|by assumption)|(exact absurd e.symm<|by assumption)
  ·rcases mem q hq with rfl|rfl|rfl
   ·exact⟨_,g1,.inl ⟨rfl,rfl,fun N o' hO=>Kf hi nH Ij (fun x e=>e1.trans e) (fun x e=>e2.trans e) hO⟩⟩
   ·exact⟨_,g2,.inr ⟨k,tv,rfl,rfl⟩⟩
   ·exact⟨_,g3,.inl ⟨rfl,rfl,fun N o' hO=>Ao hi zr eO hO⟩⟩
 obtain⟨_,cW,T⟩:=r.tk;have T:CI B ρ s.h w cW:=T;have m9:=HE ak r T dG ep iA iB (fun n hn=>by obtain⟨_,o,p,h⟩:=a3 n hn;exact⟨o,p,h⟩) hV;obtain⟨q1,q2⟩:=eL _ _ _ _ hp;have fi:bF (⟨fL<|kn++bQ (dQ U k ⟨R,tv,row⟩),U+3,0,[],[]⟩:AS):=⟨Nat.zero_le _,dJ⟩;have jK:az (eM U ρ V) (.ptr (some (U,0))::rest) vs.toList:=by simp only[az,VR] at hv ⊢;obtain⟨v0,vr,q1,⟨b',N',q2,q3⟩,q4⟩:=hv;exact⟨v0,vr,q1,⟨b',N',e0.trans q2,q3⟩,AV.zX hi ga q4⟩
 have bJ:=av.En (B:=se B ρ w<|wH ρ cW V) (s:=⟨fL<|kn++bQ (dQ U k ⟨R,tv,row⟩),U+3,0,[],[]⟩) (args:=.ptr (some (U,0))::rest) (vs:=vs) hP ch cw q1 (q2 _ rfl rfl) fi m9 (fun g hZ=>by
  obtain⟨N,e⟩:=hg g hZ;exact⟨N,by rw[BQ<|Nat.lt_of_lt_of_le hZ fD];exact e⟩) (fun m hm ju=>by
  have hm:U+3<=m:=hm;exact Gy ak ju fun q hq=>by rcases mem q hq with rfl|rfl|rfl<;>(show _≠m;simp only;omega)) jK
 rw[tI ch cw dE];show Calls P f vs w _;refine bJ.mono fun e w'=>?_;rintro ⟨zj,x',s7,rfl,⟨rfl,hL⟩,_,σ,i0,zk,i1,i2,i3⟩;have sV:∀q∈V,σ q.1=ρ q.2.1:=fun q hq=>by
  rcases mem q hq with rfl|rfl|rfl
  ·exact(i0 U ak ak).trans e0
  ·exact(i0 (U+1) ak ak).trans e1
  ·exact(i0 (U+2) ak ak).trans e2
 have j1:=hL U _ (by simp[dQ];rfl);have j2:=hL (U+1) (.tok k br.u) (by simp[dQ]);have j3:=hL (U+2) (bu br.row) (by simp[dQ]);have lz:(dZ br.R (U+1)<|U+2).length<=top:=by rw[Bw (r3:=0) (r4:=0)];exact aL.1 R5
 have HH:∀k,k<top->cK ρ σ k=ρ k:=fun k hk=>by unfold cK;rw[if_neg ak]
 have ov:iM σ<|cK ρ σ:=fun k x hk e=>by unfold cK;rw[if_pos hk];exact e
 obtain⟨f1,f2,f3,f4⟩:=Hg (a:=s.nx) (L2:=[(n,bu<|dZ br.R n1 n2),(n1,.tok k br.u),(n2,bu br.row)]) (h':=s1.h) r T hV i2 i3 sV (fun m z hm q=>zk m z hm<|hi m z hm q) (fun m q hm=>by
  rcases List.mem_cons.1 hm with hm|hm
  ·cases hm;exact⟨_,V0,rfl,_,j1,.inl ⟨rfl,rfl,fun N o' hO=>Kf ov lz hSR (fun x e=>by rw[HH _ y2, ←sV _ V1];exact e) (fun x e=>by rw[HH _ z2, ←sV _ V2];exact e) hO⟩⟩
  rcases List.mem_cons.1 hm with hm|hm
  ·cases hm;exact⟨_,V1,rfl,_,j2,.inr ⟨k,_,tv,rfl,rfl,rfl⟩⟩
  rcases List.mem_cons.1 hm with hm|hm
  ·cases hm;exact⟨_,V2,rfl,_,j3,.inl ⟨rfl,rfl,fun N o' hO=>Ao ov (aL.1 akE) ajb hO⟩⟩
  cases hm) (fun q hq cH=>by
  rcases mem q hq with rfl|rfl|rfl
  ·exact⟨_,j1,rfl⟩
  ·cases cH
  ·exact⟨_,j3,rfl⟩) (fun m hm=>by
  have IL:s1.h=((s.h.put n<|some<|bu<|dZ br.R n1 n2).put n1<|some<|.tok k br.u).put n2 (some<|bu br.row):=by rw[z4,y3,x4,R7,b7,b3,a1]
  rw[IL,Tr.du _ _ _ _ z2 hm,Tr.du _ _ _ _ y2 hm,Tr.du _ _ _ _ x2 hm];by_cases c3:m=n2
  ·subst c3;exact .inl ⟨_,by simp,if_pos rfl⟩
  rw[if_neg c3];by_cases c2:m=n1
  ·subst c2;exact .inl ⟨_,by simp,if_pos rfl⟩
  rw[if_neg c2];by_cases c1:m=n
  ·subst c1;exact .inl ⟨_,by simp,if_pos rfl⟩
  rw[if_neg c1];exact .inr ⟨fun q hq=>by rcases mem q hq with rfl|rfl|rfl<;>(intro e;exact absurd e.symm<|by assumption),rfl⟩)
 refine⟨zj,rfl,cK ρ σ,?_,AV.pb ov IT i1,f3,f4⟩;have cJ:s1.nx=s.nx:=by rw[z5,y4,x5,R9,b8,b4,a2]
 rw[cJ];exact f1
section
variable {X:TX} {P:Program} {U kp k:Nat} {ns:List Nat} {h0:Tr ae} {kn:List<|Nat×Option ae} {L L':bV} {g:Nat} {fn:Func} {body:Code}
theorem JV(hP:bC P)(fD:fH<=U)(dJ:U+3<=top)(dG:∀n o,n<top->h0.get n=some o->n∈ns)(ep:∀n∈ns,n<U)(iA:∀n o,(n,some o)∈kn->h0.get n=some o)(iB:∀p∈kn,p.1<top){val:VS->List AV->Option (AV×VS)}(h:dY X U P<|dx U ns h0 L)(h':dY X U P<|dx U ns h0 L')(ch:P.funcs[g]? =some fn)(cw:fn.body=some body)(dE:(fn.name == "runtime.NumGoroutine")=false)(eL:∀st rest y br,val st rest=some (y,br)->max fn.ntmps (rest.length+1)<=top/\∀B:aI,qm X P U ns h0 L' B->
 av P B (U+3) (ij U k P fn.results.toList y br) ⟨g,eg<|.ptr (some (U,0))::rest,max fn.ntmps<|rest.length+1,[.code body],[],none⟩ ⟨fL<|kn++bQ (dQ U k st),U+3,0,[],[]⟩):dY X U P<|dx U ns h0<|(g,.raw<|nB kp k val)::L:=by
 refine(show dY X U P (po (dx U ns h0 L) g<|nB kp k val U ns h0) from h.mP (fun SG _ args=>SF.nB _ _ _ _ _ _ SG args) fun B hB hT SG hc hl args x s s1 ρ w vs fi r hg hf hm hv=>?_);refine acR hP ch cw dE fD dJ dG ep iA iB (fun st rest y br e=>?_) r hg hm hv;obtain⟨q1,q2⟩:=eL st rest y br e;exact⟨q1,fun B' kR kU=>q2 B'<|ru hP h' (kR.trans hB)<|kU.trans hT⟩
end
theorem HI(n:Nat)(o:Option ae)(s:AS):(fB n o s).nx=s.nx/\(fB n o s).h=s.h.put n o:=by unfold fB;cases Nat.blt n s.mark<;>exact⟨rfl,rfl⟩
theorem acS{P:Program}{g U kp k:Nat}{h0:Tr ae}{ns:List Nat}{val:VS->List AV->Option (AV×VS)}(h:sp g=some (nB kp k val U ns h0)){a:Nat}{st br:VS}(hk:qk U h0 ns s=true)(hr:rest.all AV.hi=true)(hd:(!Nat.beq a r1&&(!Nat.beq a r2&& !Nat.beq r1 r2))=true)(hn:(Nat.blt a (dL U h0 ns s).nx&&(Nat.blt r1 (dL U h0 ns s).nx&&Nat.blt r2 (dL U h0 ns s).nx))=true)(ht:(Nat.blt a top&&(Nat.blt r1 top&&Nat.blt r2 top))=true)(g1:(dL U h0 ns s).h.get a=some (bu<|dZ st.R r1 r2))(g2:(dL U h0 ns s).h.get r1=some (.tok k st.u))(g3:(dL U h0 ns s).h.get r2=some (bu st.row))(Dr:st.R.pre.length=kp)(ho:bR kp st=true)(hv:val st rest=some (y,br))(hy:y.hi=true)(kP:bR kp br=true):
 bh P sp F (n+1) (.fn g) (.ptr (some (a,0))::rest) s= .ok y (fB r2 (some<|bu br.row)<|fB r1 (some<|.tok k br.u)<|fB a (some<|bu<|dZ br.R r1 r2)<|bc r2<|bc r1<|bc a<|dL U h0 ns s):=by
 obtain⟨R,u,row⟩:=st;show j8 P sp g (bh P sp F n) (.ptr (some (a,0))::rest) s=_;rw[ua h];have C1:=ho;obtain⟨o1,ho⟩:=and_true.1 ho;obtain⟨o2,ho⟩:=and_true.1 ho;obtain⟨o3,o4⟩:=and_true.1 ho;obtain⟨n1,hn⟩:=and_true.1 hn;obtain⟨n2,n3⟩:=and_true.1 hn;obtain⟨t1,ht⟩:=and_true.1 ht;obtain⟨t2,t3⟩:=and_true.1 ht;have cz:a≠r1/\a≠r2/\r1≠r2:=by
  obtain⟨c1,c2⟩:=and_true.1 hd;obtain⟨c2,c3⟩:=and_true.1 c2;refine⟨fun e=>?_,fun e=>?_,fun e=>?_⟩<;>subst e
  ·rw[eB.2 rfl] at c1;cases c1
  ·rw[eB.2 rfl] at c2;cases c2
  ·rw[show Nat.beq r1 r1=true from eB.2 rfl] at c3;cases c3
 obtain⟨d1,d2,d3⟩:=cz;have ta:=(blt_eq _ _).mp t1;have tb:=(blt_eq _ _).mp t2;have tc:=(blt_eq _ _).mp t3;show(aF (rest.all AV.hi) <| (fe U h0 ns).bind fun _=>(bz a).bind fun o=>aC (rowOf o) fun cs=>aC (rootOf kp cs) fun q=>(bz q.2.1).bind fun o1=>aC (yx k o1) fun u=>(bz q.2.2).bind fun o2=>aC (rowOf o2) fun row=>
  aF (tu q.1&&row.all AV.cq) <| aF (!Nat.beq a q.2.1&&(!Nat.beq a q.2.2&& !Nat.beq q.2.1 q.2.2)) <| aC (val ⟨q.1,u,row⟩ rest) fun p=>aF (p.1.hi&&bR kp p.2) <|
  (bN a<|some<|bu<|dZ p.2.R q.2.1 q.2.2).bind fun _=>(lE q.2.1<|some<|.tok k p.2.u).bind fun _=>(bN q.2.2<|some<|bu p.2.row).bind fun _=>M.pure p.1) s=_
 rw[hr,dA,M.bO<|vM hk,M.bO<|lY n1 g1];generalize dL U h0 ns s=z at*;rw[GF (by rw[Bw (r3:=0) (r4:=0)];exact aL.1 o3),bY,Th Dr,bY];have Sa:Nat.blt r1 (bc a z).nx=true:=by rw[(fN a z).2.1];exact n2
 have AW:(bc a z).h.get r1=some (.tok k u):=by rw[(fN a z).1];exact g2
 rw[M.bO<|lY Sa AW,Oo,bY];have Sb:Nat.blt r2 (bc r1<|bc a z).nx=true:=by rw[(fN r1 _).2.1,(fN a z).2.1];exact n3
 have Sc:(bc r1<|bc a z).h.get r2=some (bu row):=by rw[(fN r1 _).1,(fN a z).1];exact g3
 rw[M.bO<|lY Sb Sc,GF<|aL.1 o4,bY];show(aF (tu R&&row.all AV.cq) <| aF (!Nat.beq a r1&&(!Nat.beq a r2&& !Nat.beq r1 r2)) <| aC (val ⟨R,u,row⟩ rest) fun p=>aF (p.1.hi&&bR kp p.2) <| (bN a<|some<|bu<|dZ p.2.R r1 r2).bind fun _=>(lE r1<|some<|.tok k p.2.u).bind fun _=>(bN r2<|some<|bu p.2.row).bind fun _=>M.pure p.1) (bc r2<|bc r1<|bc a z)=_;rw[show tu R=true from o1,show row.all AV.cq=true from o2,hd,hv];show(aF true <| aF true <| aC (some (y,br)) fun p=>aF (p.1.hi&&bR kp p.2) <| (bN a<|some<|bu<|dZ p.2.R r1 r2).bind fun _=>(lE r1<|some<|.tok k p.2.u).bind fun _=>(bN r2<|some<|bu p.2.row).bind fun _=>M.pure p.1) (bc r2<|bc r1<|bc a z)=_;rw[dA,dA,bY];show(aF (y.hi&&bR kp br) <| (bN a<|some<|bu<|dZ br.R r1 r2).bind fun _=>(lE r1<|some<|.tok k br.u).bind fun _=>(bN r2<|some<|bu br.row).bind fun _=>M.pure y) (bc r2<|bc r1<|bc a z)=_;rw[hy,kP];show(aF true <| (bN a<|some<|bu<|dZ br.R r1 r2).bind fun _=>(lE r1<|some<|.tok k br.u).bind fun _=>(bN r2<|some<|bu br.row).bind fun _=>M.pure y) (bc r2<|bc r1<|bc a z)=_;rw[dA];have zz:(bc r2<|bc r1<|bc a z).nx=z.nx/\(bc r2<|bc r1<|bc a z).h=z.h:=⟨by rw[(fN r2 _).2.1,(fN r1 _).2.1,(fN a z).2.1],by rw[(fN r2 _).1,(fN r1 _).1,(fN a z).1]⟩;generalize bc r2 (bc r1<|bc a z)=v at*;rw[M.bO<|xP (by rw[zz.1];exact n1) (by rw[zz.2];exact g1) rfl t1];have v1:(fB a (some<|bu<|dZ br.R r1 r2) v).h.get r1=some (.tok k u):=by rw[(HI _ _ _).2,Tr.du _ _ _ _ ta tb,if_neg<|Ne.symm d1,zz.2];exact g2
 have v2:(fB a (some<|bu<|dZ br.R r1 r2) v).h.get r2=some (bu row):=by rw[(HI _ _ _).2,Tr.du _ _ _ _ ta tc,if_neg<|Ne.symm d2,zz.2];exact g3
 have v3:(fB a (some<|bu<|dZ br.R r1 r2) v).nx=z.nx:=by rw[(HI _ _ _).1,zz.1]
 generalize fB a (some<|bu<|dZ br.R r1 r2) v=v' at*;rw[M.bO<|Pk (by rw[v3];exact n2) v1 rfl t2];rw[M.bO<|xP (by rw[(HI _ _ _).1,v3];exact n3) (by rw[(HI _ _ _).2,Tr.du _ _ _ _ tb tc,if_neg<|Ne.symm d3];exact v2) rfl t3];rfl
noncomputable section
def HJ(U:Nat)(h0:Tr ae)(ns:List Nat)(k a r1 r2:Nat)(st:VS)(s:AS):Prop:=qk U h0 ns s=true/\(Nat.blt a (dL U h0 ns s).nx&&(Nat.blt r1 (dL U h0 ns s).nx&&Nat.blt r2 (dL U h0 ns s).nx))=true/\(dL U h0 ns s).h.get a=some (bu<|dZ st.R r1 r2)/\(dL U h0 ns s).h.get r1=some (.tok k st.u)/\(dL U h0 ns s).h.get r2=some (bu st.row)
def LD(U:Nat)(h0:Tr ae)(ns:List Nat)(k a r1 r2:Nat)(br:VS)(s:AS):AS:=fB r2 (some<|bu br.row)<|fB r1 (some<|.tok k br.u)<|fB a (some<|bu<|dZ br.R r1 r2)<|bc r2<|bc r1<|bc a<|dL U h0 ns s
def XO(U:Nat)(h0:Tr ae)(ns:List Nat)(a r1 r2:Nat)(s:AS):AS:=bc r2<|bc r1<|bc a<|dL U h0 ns s
end
theorem ahr{a b c:ae}{T:Prop}(t:T):(true=true/\true=true/\some a=some a/\some b=some b/\some c=some c)/\T:=⟨⟨rfl,rfl,rfl,rfl,rfl⟩,t⟩
theorem Pt{P:Program}{g U kp k:Nat}{h0:Tr ae}{ns:List Nat}{val:VS->List AV->Option (AV×VS)}(h:sp g=some (nB kp k val U ns h0)){a:Nat}{st br:VS}(hr:rest.all AV.hi=true)(hd:(!Nat.beq a r1&&(!Nat.beq a r2&& !Nat.beq r1 r2))=true)(ht:(Nat.blt a top&&(Nat.blt r1 top&&Nat.blt r2 top))=true)(Dr:st.R.pre.length=kp)(ho:bR kp st=true)(hv:val st rest=some (y,br))(hy:y.hi=true)(kP:bR kp br=true):
 ∀s,HJ U h0 ns k a r1 r2 st s->bh P sp F (n+1) (.fn g) (.ptr (some (a,0))::rest) s= .ok y (LD U h0 ns k a r1 r2 br s):=
 fun _ q=>acS h q.1 hr hd q.2.1 ht q.2.2.1 q.2.2.2.1 q.2.2.2.2 Dr ho hv hy kP
end Go.Rn
namespace Go.Rn
open Go.RowKit
variable {y:AV} {st:VS} {sp:Sp} {s:AS} {rest:List AV} {r2 r1 n a:Nat} {F:Nat->Option (List AV)}
noncomputable section
def nC(kp k:Nat)(val:VS->List AV->Option AV)(U:Nat)(ns:List Nat)(h0:Tr ae):aO->List AV->M AV:=fun _ args=>match args with
 | .ptr (some (n,0))::rest=>aF (rest.all AV.hi) <| (fe U h0 ns).bind fun _=>(bz n).bind fun o=>aC (rowOf o) fun cs=>aC (rootOf kp cs) fun q=>(bz q.2.1).bind fun o1=>aC (yx k o1) fun u=>(bz q.2.2).bind fun o2=>aC (rowOf o2) fun row=>aF (tu q.1&&row.all AV.cq) <| aF (!Nat.beq n q.2.1&&(!Nat.beq n q.2.2&& !Nat.beq q.2.1 q.2.2)) <| aC (val ⟨q.1,u,row⟩ rest) fun y=>aF (y.hi&&(Nat.blt n top&&(Nat.blt q.2.1 top&&Nat.blt q.2.2 top))) <| M.pure y
 |_=>fail
end
theorem SF.nC(kp k:Nat)(val:VS->List AV->Option AV)(U:Nat)(ns:List Nat)(h0:Tr ae)(SG:aO)(args:List AV):SF<|nC kp k val U ns h0 SG args:=by
 unfold Rn.nC;split
 ·exact SF.aF fun _=>SF.bind (SF.fe U h0 ns) fun _=>SF.bind (SF.bz _) fun _=>SF.aC fun _ _=>SF.aC fun _ _=>SF.bind (SF.bz _) fun _=>SF.aC fun _ _=>SF.bind (SF.bz _) fun _=>SF.aC fun _ _=>SF.aF fun _=>SF.aF fun _=>SF.aC fun _ _=>SF.aF fun _=>SF.pure _
 ·exact SF.fail
theorem acX{P:Program}{B:aI}{f U kp k:Nat}{ns:List Nat}{h0:Tr ae}{kn:List<|Nat×Option ae}{val:VS->List AV->Option AV}{fn:Func}{body:Code}{ρ:aw}{w:World}{s1:AS}(hP:bC P)(ch:P.funcs[f]? =some fn)(cw:fn.body=some body)(dE:(fn.name == "runtime.NumGoroutine")=false)(fD:fH<=U)(dJ:U+3<=top)(dG:∀n o,n<top->h0.get n=some o->n∈ns)(ep:∀n∈ns,n<U)(iA:∀n o,(n,some o)∈kn->h0.get n=some o)(iB:∀p∈kn,p.1<top)(eL:∀st rest y,val st rest=some y->bR kp st=true->max fn.ntmps (rest.length+1)<=top/\∀B':aI,B'.F=B.F->B'.inv=B.inv->
 av P B' (U+3) (ij U k P fn.results.toList y st) ⟨f,eg<|.ptr (some (U,0))::rest,max fn.ntmps<|rest.length+1,[.code body],[],none⟩ ⟨fL<|kn++bQ (dQ U k st),U+3,0,[],[]⟩){SG:aO}{args:List AV}{x:AV}{vs:Array Value}(r:Rel B ρ s.h w)(hg:gk ρ)(h:nC kp k val U ns h0 SG args s= .ok x s1)(hv:az ρ args vs.toList):jo P ((callFunc f vs).run P w)<|ki B ρ s s1 w x:=by
 unfold nC at h;split at h
 case h_2=>cases h
 rename_i n rest;obtain⟨ga,h⟩:=cY h;obtain⟨u,s2,h2,h⟩:=M.aR h;obtain⟨a1,a2,a3⟩:=tH h2;obtain⟨o,s3,k1,h⟩:=M.aR h;obtain⟨cs,m1,h⟩:=bw h;obtain⟨q,m2,h⟩:=bw h;obtain⟨o1,s4,k2,h⟩:=M.aR h;obtain⟨tv,m3,h⟩:=bw h;obtain⟨o2,s5,k3,h⟩:=M.aR h;obtain⟨row,m4,h⟩:=bw h;obtain⟨dq,h⟩:=cY h;obtain⟨Ij,eO⟩:=and_true.1 dq;obtain⟨cz,h⟩:=cY h;obtain⟨y,hp,h⟩:=bw h;obtain⟨kD,h⟩:=cY h;obtain⟨IT,kD⟩:=and_true.1 kD;obtain⟨x2,kD⟩:=and_true.1 kD;obtain⟨y2,z2⟩:=and_true.1 kD;have x2:=(blt_eq _ _).mp x2;have y2:=(blt_eq _ _).mp y2;have z2:=(blt_eq _ _).mp z2;obtain⟨rfl,rfl⟩:=bI h;obtain⟨R,n1,n2⟩:=q;have Fq:n≠n1/\n≠n2/\n1≠n2:=by
  obtain⟨c1,c2⟩:=and_true.1 cz;obtain⟨c2,c3⟩:=and_true.1 c2;refine⟨fun e=>?_,fun e=>?_,fun e=>?_⟩<;>subst e
  ·rw[eB.2 rfl] at c1;cases c1
  ·rw[eB.2 rfl] at c2;cases c2
  ·rw[show Nat.beq n1 n1=true from eB.2 rfl] at c3;cases c3
 obtain⟨d1,d2,d3⟩:=Fq;obtain⟨rfl,nH⟩:=GC m1;have uZ:=TK m2;subst uZ;have IU:=On m3;subst IU;obtain⟨rfl,zr⟩:=GC m4;obtain⟨b1,b2,b3,b4⟩:=fY k1;obtain⟨b5,b6,b7,b8⟩:=fY k2;obtain⟨b9,R6,R7,R9⟩:=fY k3;have g1:s.h.get n=some (bu<|dZ R n1 n2):=by rw[←a1];exact b2
 have g2:s.h.get n1=some (.tok k tv):=by rw[←a1, ←b3];exact b6
 have g3:s.h.get n2=some (bu row):=by rw[←a1, ←b3, ←b7];exact R6
 let V:Vw:=[(U,n,bu<|dZ R (U+1)<|U+2),(U+1,n1,.tok k tv),(U+2,n2,bu row)];have mem:∀q∈V,q=(U,n,bu<|dZ R (U+1)<|U+2)\/q=(U+1,n1,.tok k tv)\/q=(U+2,n2,bu row):=fun q hq=>by simpa[V] using hq
 have V0:(U,n,bu<|dZ R (U+1)<|U+2)∈V:=by simp[V]
 have V1:(U+1,n1,ae.tok k tv)∈V:=by simp[V]
 have V2:(U+2,n2,bu row)∈V:=by simp[V]
 have e0:eM U ρ V U=ρ n:=by
  unfold eM;rw[if_neg ak,if_neg ak];have:gj V U=some n:=by simp[gj,V]
  rw[this]
 have e1:eM U ρ V (U+1)=ρ n1:=by
  unfold eM;rw[if_neg ak,if_neg ak];have:gj V (U+1)=some n1:=by simp[gj,V]
  rw[this]
 have e2:eM U ρ V (U+2)=ρ n2:=by
  unfold eM;rw[if_neg ak,if_neg ak];have:gj V (U+2)=some n2:=by simp[gj,V]
  rw[this]
 have hi:iM ρ<|eM U ρ V:=fun m x hm e=>by rw[xQ ak hm];exact e
 have hV:zi U ρ s.h V:=by
  refine⟨fun q hq=>?_,fun q hq q' dS e=>?_,fun q hq q' dS e=>?_,fun q hq=>?_⟩
  ·rcases mem q hq with rfl|rfl|rfl
   ·exact⟨Nat.le_refl _,by show U<top;omega,x2⟩
   ·exact⟨by show U<=U+1;omega,by show U+1<top;omega,y2⟩
   ·exact⟨by show U<=U+2;omega,by show U+2<top;omega,z2⟩
  ·rcases mem q hq with rfl|rfl|rfl<;>rcases mem q' dS with rfl|rfl|rfl<;>first|rfl|(simp only at e;omega)
  ·rcases mem q hq with rfl|rfl|rfl<;>rcases mem q' dS with rfl|rfl|rfl<;>first|rfl|(exact absurd e<|by assumption)|(exact absurd e.symm<|by assumption)
  ·rcases mem q hq with rfl|rfl|rfl
   ·exact⟨_,g1,.inl ⟨rfl,rfl,fun N o' hO=>Kf hi nH Ij (fun x e=>e1.trans e) (fun x e=>e2.trans e) hO⟩⟩
   ·exact⟨_,g2,.inr ⟨k,tv,rfl,rfl⟩⟩
   ·exact⟨_,g3,.inl ⟨rfl,rfl,fun N o' hO=>Ao hi zr eO hO⟩⟩
 obtain⟨_,cW,T⟩:=r.tk;have T:CI B ρ s.h w cW:=T;have m9:=HE ak r T dG ep iA iB (fun n hn=>by obtain⟨_,o,p,h⟩:=a3 n hn;exact⟨o,p,h⟩) hV;have hS:bR kp ⟨R,tv,row⟩=true:=and_true.2 ⟨Ij,and_true.2 ⟨eO,and_true.2 ⟨aL.2 (by rw[Bw (r3:=n1) (r4:=n2)];exact nH),aL.2 zr⟩⟩⟩;obtain⟨q1,q2⟩:=eL _ _ _ hp hS;have fi:bF (⟨fL<|kn++bQ (dQ U k ⟨R,tv,row⟩),U+3,0,[],[]⟩:AS):=⟨Nat.zero_le _,dJ⟩;have jK:az (eM U ρ V) (.ptr (some (U,0))::rest) vs.toList:=by simp only[az,VR] at hv ⊢;obtain⟨v0,vr,q1,⟨b',N',q2,q3⟩,q4⟩:=hv;exact⟨v0,vr,q1,⟨b',N',e0.trans q2,q3⟩,AV.zX hi ga q4⟩
 have bJ:=av.En (B:=se B ρ w<|wH ρ cW V) (s:=⟨fL<|kn++bQ (dQ U k ⟨R,tv,row⟩),U+3,0,[],[]⟩) (args:=.ptr (some (U,0))::rest) (vs:=vs) hP ch cw q1 (q2 _ rfl rfl) fi m9 (fun g hZ=>by
  obtain⟨N,e⟩:=hg g hZ;exact⟨N,by rw[BQ<|Nat.lt_of_lt_of_le hZ fD];exact e⟩) (fun m hm ju=>by
  have hm:U+3<=m:=hm;exact Gy ak ju fun q hq=>by rcases mem q hq with rfl|rfl|rfl<;>(show _≠m;simp only;omega)) jK
 rw[tI ch cw dE];show Calls P f vs w _;refine bJ.mono fun e w'=>?_;rintro ⟨zj,x',s7,rfl,⟨rfl,hL⟩,_,σ,i0,zk,i1,i2,i3⟩;have sV:∀q∈V,σ q.1=ρ q.2.1:=fun q hq=>by
  rcases mem q hq with rfl|rfl|rfl
  ·exact(i0 U ak ak).trans e0
  ·exact(i0 (U+1) ak ak).trans e1
  ·exact(i0 (U+2) ak ak).trans e2
 have j1:=hL U (bu<|dZ R (U+1)<|U+2) (by simp[dQ]);have j2:=hL (U+1) (.tok k tv) (by simp[dQ]);have j3:=hL (U+2) (bu row) (by simp[dQ]);have lz:(dZ R (U+1)<|U+2).length<=top:=by rw[Bw (r3:=n1) (r4:=n2)];exact nH
 have HH:∀k,k<top->cK ρ σ k=ρ k:=fun k hk=>by unfold cK;rw[if_neg ak]
 have ov:iM σ<|cK ρ σ:=fun k x hk e=>by unfold cK;rw[if_pos hk];exact e
 have hh1:s1.h=s.h:=by rw[R7,b7,b3,a1]
 obtain⟨f1,f2,f3,f4⟩:=Hg (a:=s.nx) (L2:=[(n,bu<|dZ R n1 n2),(n1,.tok k tv),(n2,bu row)]) (h':=s1.h) r T hV i2 i3 sV (fun m z hm q=>zk m z hm<|hi m z hm q) (fun m q hm=>by
  rcases List.mem_cons.1 hm with hm|hm
  ·cases hm;exact⟨_,V0,rfl,_,j1,.inl ⟨rfl,rfl,fun N o' hO=>Kf ov lz Ij (fun x e=>by rw[HH _ y2, ←sV _ V1];exact e) (fun x e=>by rw[HH _ z2, ←sV _ V2];exact e) hO⟩⟩
  rcases List.mem_cons.1 hm with hm|hm
  ·cases hm;exact⟨_,V1,rfl,_,j2,.inr ⟨k,_,tv,rfl,rfl,rfl⟩⟩
  rcases List.mem_cons.1 hm with hm|hm
  ·cases hm;exact⟨_,V2,rfl,_,j3,.inl ⟨rfl,rfl,fun N o' hO=>Ao ov zr eO hO⟩⟩
  cases hm) (fun q hq cH=>by
  rcases mem q hq with rfl|rfl|rfl
  ·exact⟨_,j1,rfl⟩
  ·cases cH
  ·exact⟨_,j3,rfl⟩) (fun m hm=>by
  rw[hh1];by_cases c3:m=n2
  ·subst c3;exact .inl ⟨_,by simp,g3⟩
  by_cases c2:m=n1
  ·subst c2;exact .inl ⟨_,by simp,g2⟩
  by_cases c1:m=n
  ·subst c1;exact .inl ⟨_,by simp,g1⟩
  exact .inr ⟨fun q hq=>by rcases mem q hq with rfl|rfl|rfl<;>(intro e;exact absurd e.symm<|by assumption),rfl⟩)
 refine⟨zj,rfl,cK ρ σ,?_,AV.pb ov IT i1,f3,f4⟩;have cJ:s1.nx=s.nx:=by rw[R9,b8,b4,a2]
 rw[cJ];exact f1
section
variable {X:TX} {P:Program} {U kp k:Nat} {ns:List Nat} {h0:Tr ae} {kn:List<|Nat×Option ae} {L L':bV} {g:Nat} {fn:Func} {body:Code}
theorem GG(hP:bC P)(fD:fH<=U)(dJ:U+3<=top)(dG:∀n o,n<top->h0.get n=some o->n∈ns)(ep:∀n∈ns,n<U)(iA:∀n o,(n,some o)∈kn->h0.get n=some o)(iB:∀p∈kn,p.1<top){val:VS->List AV->Option AV}(h:dY X U P<|dx U ns h0 L)(h':dY X U P<|dx U ns h0 L')(ch:P.funcs[g]? =some fn)(cw:fn.body=some body)(dE:(fn.name == "runtime.NumGoroutine")=false)(eL:∀st rest y,val st rest=some y->bR kp st=true->max fn.ntmps (rest.length+1)<=top/\∀B:aI,qm X P U ns h0 L' B->
 av P B (U+3) (ij U k P fn.results.toList y st) ⟨g,eg<|.ptr (some (U,0))::rest,max fn.ntmps<|rest.length+1,[.code body],[],none⟩ ⟨fL<|kn++bQ (dQ U k st),U+3,0,[],[]⟩):dY X U P<|dx U ns h0<|(g,.raw<|nC kp k val)::L:=by
 refine(show dY X U P (po (dx U ns h0 L) g<|nC kp k val U ns h0) from h.mP (fun SG _ args=>SF.nC _ _ _ _ _ _ SG args) fun B hB hT SG hc hl args x s s1 ρ w vs fi r hg hf hm hv=>?_);refine acX hP ch cw dE fD dJ dG ep iA iB (fun st rest y e eo=>?_) r hg hm hv;obtain⟨q1,q2⟩:=eL st rest y e eo;exact⟨q1,fun B' kR kU=>q2 B'<|ru hP h' (kR.trans hB)<|kU.trans hT⟩
end
theorem abZ{P:Program}{g U kp k:Nat}{h0:Tr ae}{ns:List Nat}{val:VS->List AV->Option AV}(h:sp g=some (nC kp k val U ns h0))(hk:qk U h0 ns s=true)(hr:rest.all AV.hi=true)(hd:(!Nat.beq a r1&&(!Nat.beq a r2&& !Nat.beq r1 r2))=true)(hn:(Nat.blt a (dL U h0 ns s).nx&&(Nat.blt r1 (dL U h0 ns s).nx&&Nat.blt r2 (dL U h0 ns s).nx))=true)(ht:(Nat.blt a top&&(Nat.blt r1 top&&Nat.blt r2 top))=true)(g1:(dL U h0 ns s).h.get a=some (bu<|dZ st.R r1 r2))(g2:(dL U h0 ns s).h.get r1=some (.tok k st.u))(g3:(dL U h0 ns s).h.get r2=some (bu st.row))(Dr:st.R.pre.length=kp)(ho:bR kp st=true)(hv:val st rest=some y)(hy:y.hi=true):
 bh P sp F (n+1) (.fn g) (.ptr (some (a,0))::rest) s= .ok y (bc r2<|bc r1<|bc a<|dL U h0 ns s):=by
 obtain⟨R,u,row⟩:=st;show j8 P sp g (bh P sp F n) (.ptr (some (a,0))::rest) s=_;rw[ua h];have C1:=ho;obtain⟨o1,ho⟩:=and_true.1 ho;obtain⟨o2,ho⟩:=and_true.1 ho;obtain⟨o3,o4⟩:=and_true.1 ho;obtain⟨n1,hn⟩:=and_true.1 hn;obtain⟨n2,n3⟩:=and_true.1 hn;obtain⟨t1,ht⟩:=and_true.1 ht;obtain⟨t2,t3⟩:=and_true.1 ht;have cz:a≠r1/\a≠r2/\r1≠r2:=by
  obtain⟨c1,c2⟩:=and_true.1 hd;obtain⟨c2,c3⟩:=and_true.1 c2;refine⟨fun e=>?_,fun e=>?_,fun e=>?_⟩<;>subst e
  ·rw[eB.2 rfl] at c1;cases c1
  ·rw[eB.2 rfl] at c2;cases c2
  ·rw[show Nat.beq r1 r1=true from eB.2 rfl] at c3;cases c3
 obtain⟨d1,d2,d3⟩:=cz;have ta:=(blt_eq _ _).mp t1;have tb:=(blt_eq _ _).mp t2;have tc:=(blt_eq _ _).mp t3;show(aF (rest.all AV.hi) <| (fe U h0 ns).bind fun _=>(bz a).bind fun o=>aC (rowOf o) fun cs=>aC (rootOf kp cs) fun q=>(bz q.2.1).bind fun o1=>aC (yx k o1) fun u=>(bz q.2.2).bind fun o2=>aC (rowOf o2) fun row=>aF (tu q.1&&row.all AV.cq) <| aF (!Nat.beq a q.2.1&&(!Nat.beq a q.2.2&& !Nat.beq q.2.1 q.2.2)) <| aC (val ⟨q.1,u,row⟩ rest) fun y=>aF (y.hi&&(Nat.blt a top&&(Nat.blt q.2.1 top&&Nat.blt q.2.2 top))) <| M.pure y) s=_;rw[hr,dA,M.bO<|vM hk,M.bO<|lY n1 g1];generalize dL U h0 ns s=z at*;rw[GF (by rw[Bw (r3:=0) (r4:=0)];exact aL.1 o3),bY,Th Dr,bY];have Sa:Nat.blt r1 (bc a z).nx=true:=by rw[(fN a z).2.1];exact n2
 have AW:(bc a z).h.get r1=some (.tok k u):=by rw[(fN a z).1];exact g2
 rw[M.bO<|lY Sa AW,Oo,bY];have Sb:Nat.blt r2 (bc r1<|bc a z).nx=true:=by rw[(fN r1 _).2.1,(fN a z).2.1];exact n3
 have Sc:(bc r1<|bc a z).h.get r2=some (bu row):=by rw[(fN r1 _).1,(fN a z).1];exact g3
 rw[M.bO<|lY Sb Sc,GF<|aL.1 o4,bY];show(aF (tu R&&row.all AV.cq) <| aF (!Nat.beq a r1&&(!Nat.beq a r2&& !Nat.beq r1 r2)) <| aC (val ⟨R,u,row⟩ rest) fun y=>aF (y.hi&&(Nat.blt a top&&(Nat.blt r1 top&&Nat.blt r2 top))) <| M.pure y) (bc r2<|bc r1<|bc a z)=_;rw[show tu R=true from o1,show row.all AV.cq=true from o2,hd,hv];show(aF true <| aF true <| aC (some y) fun y=>aF (y.hi&&(Nat.blt a top&&(Nat.blt r1 top&&Nat.blt r2 top))) <| M.pure y) (bc r2<|bc r1<|bc a z)=_;rw[dA,dA,bY,hy,t1,t2,t3];rfl
theorem aed{P:Program}{g U kp k:Nat}{h0:Tr ae}{ns:List Nat}{val:VS->List AV->Option AV}(h:sp g=some (nC kp k val U ns h0))(hr:rest.all AV.hi=true)(hd:(!Nat.beq a r1&&(!Nat.beq a r2&& !Nat.beq r1 r2))=true)(ht:(Nat.blt a top&&(Nat.blt r1 top&&Nat.blt r2 top))=true)(Dr:st.R.pre.length=kp)(ho:bR kp st=true)(hv:val st rest=some y)(hy:y.hi=true):
 ∀s,HJ U h0 ns k a r1 r2 st s->bh P sp F (n+1) (.fn g) (.ptr (some (a,0))::rest) s= .ok y (XO U h0 ns a r1 r2 s):=
 fun _ q=>abZ h q.1 hr hd q.2.1 ht q.2.2.1 q.2.2.2.1 q.2.2.2.2 Dr ho hv hy
end Go.Rn
