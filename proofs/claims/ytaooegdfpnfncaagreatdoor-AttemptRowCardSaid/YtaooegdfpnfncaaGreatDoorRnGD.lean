import Derived.Test.YtaooegdfpnfncaaGreatDoorRnGC
import Derived.Test.YtaooegdfpnfncaaGreatDoorRnGB
import Derived.ChangeArms
import Derived.ChangeShapes
import Derived.DataReads
import Derived.OpenShut
set_option maxRecDepth 100000
set_option maxHeartbeats 8000000
set_option linter.unusedSimpArgs false
set_option linter.unusedVariables false
namespace Go.Rn
open Go.RowKit
variable {ρ:aw} {U:Nat} {h:Tr ae} {L:Vw}
structure zg (U:Nat) (ρ:aw) (h:Tr ae) (L:Vw):Prop where
 nm:∀p∈L,U<=p.1/\p.1<top/\p.2.1<top
 fn:∀p∈L,∀q∈L,p.1=q.1->p=q
 inj:∀p∈L,∀q∈L,p.2.1=q.2.1->p=q
 is:∀p∈L,∃o,h.get p.2.1=some o/\((o.own=true/\p.2.2.own=true/\∀N o',OR ρ N o o'->OR (eL U ρ L) N p.2.2 o')\/∃k v,o= .tok k v/\p.2.2= .tok k v)
def wH(ρ:aw)(cV:Nat->Nat->Prop)(L:Vw)(x:Nat):Prop:=(∃p∈L,p.2.2.du=false/\∃N,ρ p.2.1=some (x,N))\/∃p∈L,p.2.2.lh=true/\cV p.2.1 x
theorem zg.A4(V:zg U ρ h L){p:Nat×Nat×ae}(hp:p∈L):eL U ρ L p.1=ρ p.2.1:=by obtain⟨q1,q2,_⟩:=V.nm p hp;unfold eL;rw[if_neg ak,if_neg ak,acE V.fn hp]
def CH(B:aJ)(ρ:aw)(h:Tr ae)(w:World)(cV:Nat->Nat->Prop):Prop:=(∀n k v,n<top->h.get n=some (.tok k v)->∃b N,ρ n=some (b,N)/\B.inv k v ρ w b (cV n)/\cV n b/\∀x,cV n x->(x<w.heap.size/\B.dU<=x)/\B.may x/\jY ρ h x/\∀j sh,ρ (hn j x sh)=none)/\∀n m x k v k' v',n<top->m<top->h.get n=some (.tok k v)->h.get m=some (.tok k' v')->n≠m->cV n x->¬cV m x
theorem HD{B:aJ}{w:World}{h0:Tr ae}{ns:List Nat}{kn:List<|Nat×Option ae}{cV:Nat->Nat->Prop}(ht:U<=top)(r:Rel B ρ h w)(T:CH B ρ h w cV)(dE:∀n o,n<top->h0.get n=some o->n∈ns)(eh:∀n∈ns,n<U)(iA:∀n o,(n,some o)∈kn->h0.get n=some o)(iB:∀p∈kn,p.1<top)(a3:∀n∈ns,∃o p,h.get n=some o/\h0.get n=some p/\oK U o p=true)(V:zg U ρ h L):Rel (sa B ρ w<|wH ρ cV L) (eL U ρ L) (fL<|kn++bO (Lv L)) w:=by
 have r0:=ER ht r dE eh a3;obtain⟨t1,t2⟩:=T;have u0:(gm U ρ).le<|eL U ρ L:=by
  intro m x e;unfold gm at e;split at e
  ·rename_i q;rw[BN q];exact e
  ·unfold gq at e;split at e
   ·rename_i q;rw[xO ht q];exact e
   ·cases e
 have De:∀m o,(m,o)∈Lv L->∃p∈L,p.1=m/\p.2.2=o:=fun m o hm=>by
  obtain⟨p,hp,e⟩:=List.mem_map.1 hm;injection e with e1 e2
  exact⟨p,hp,e1,e2⟩
 have cY:∀p∈kn++bO (Lv L),p.1<top:=fun p hp=>by
  rcases List.mem_append.1 hp with hp|hp
  ·exact iB p hp
  ·refine Oe (fun q hq=>?_) p hp;obtain⟨p,hp,e1,_⟩:=De q.1 q.2 hq;rw[←e1];exact(V.nm p hp).2.1
 have au:∀m o,(fL<|kn++bO (Lv L)).get m=some o->(m∈ns/\h0.get m=some o/\o.mW=true)\/∃p∈L,p.1=m/\p.2.2=o:=fun m o hg=>by
  rcases List.mem_append.1 (xD cY hg) with q|q
  ·have q2:=iA m o q;have iz:=dE m o (iB _ q) q2;obtain⟨p1,p2,_,c3,c4⟩:=a3 m iz;rw[q2] at c3;cases c3;refine .inl ⟨iz,q2,?_⟩;unfold oK at c4;split at c4<;>first|rfl|cases c4
  ·exact .inr<|De m o<|N5 q
 have uD:∀p∈L,p.2.2.du=false->∃o,h.get p.2.1=some o/\o.du=false:=fun p hp e=>by
  obtain⟨o,g1,⟨g2,_⟩|⟨k,v,_,g2⟩⟩:=V.is p hp
  ·exact⟨o,g1,(ae.vt g2).2⟩
  ·rw[g2] at e;cases e
 have ss:∀p∈L,p.2.2.lh=true->∃k v,h.get p.2.1=some (.tok k v)/\p.2.2= .tok k v:=fun p hp e=>by
  obtain⟨o,g1,⟨_,g2,_⟩|⟨k,v,rfl,g2⟩⟩:=V.is p hp
  ·generalize p.2.2=q at e g2;cases q<;>first|(cases e;done)|cases g2
  ·exact⟨k,v,g1,g2⟩
 have agV:∀p∈L,p.2.2.mW=true->False:=fun p hp e=>by
  obtain⟨o,g1,⟨_,g2,_⟩|⟨k,v,_,g2⟩⟩:=V.is p hp
  ·generalize p.2.2=q at e g2;cases q<;>first|(cases e;done)|cases g2
  ·rw[g2] at e;cases e
 have R3:∀m N x,m∈ns->eL U ρ L m=some (x,N)->x<B.dU/\¬wH ρ cV L x:=fun m N x q1 e=>by
  rw[BN<|eh m q1] at e;obtain⟨p1,p2,c2,c3,c4⟩:=a3 m q1;have jt:m<top:=Nat.lt_of_lt_of_le (eh m q1) ht;obtain⟨b',N',e1,e2⟩:=r.tk.1.2 m p1 jt c2<|Jm c4;rw[e] at e1;cases e1;refine⟨e2,?_⟩;rintro (⟨p,hp,ho,M,e3⟩|⟨p,hp,ho,e3⟩)
  ·obtain⟨o,g1,g2⟩:=uD p hp ho;have:=r.one m p.2.1 p1 o x N M jt (V.nm p hp).2.2 c2 g1 (.inr g2) e e3;rw[←this,c2] at g1;cases g1;rw[ae.ke<|Jm c4] at g2;cases g2
  ·obtain⟨k,v,g1,_⟩:=ss p hp ho;obtain⟨_,_,_,_,_,f⟩:=t1 _ k v (V.nm p hp).2.2 g1;have:=(f x e3).1.2;omega
 have agW:∀j x sh,ρ (hn j x sh)≠none->¬wH ρ cV L x:=fun j x sh e=>by
  obtain⟨_,_,_,_,_,_,_,z3,_⟩:=r.fz j x sh e;rintro (⟨p,hp,ho,M,e3⟩|⟨p,hp,ho,e3⟩)
  ·obtain⟨o,g1,g2⟩:=uD p hp ho;exact z3 p.2.1 o M (V.nm p hp).2.2 g1 g2 e3
  ·obtain⟨k,v,g1,_⟩:=ss p hp ho;obtain⟨_,_,_,_,_,f⟩:=t1 _ k v (V.nm p hp).2.2 g1;exact e<|(f x e3).2.2.2 j sh
 refine⟨fun m o hm hg=>?_,fun m n o p x N M hm fC hg ly cZ e1 e2=>?_,fun m i es ex left cur hm hg=>?_,fun x hx=>.inl hx,fun i j m es ex left cur hJ iW iK iL hi _ hg _=>?_,fun j x sh e=>?_,?_⟩
 ·rcases au m o hg with⟨q1,q3,q4⟩|⟨p,hp,rfl,rfl⟩
  ·obtain⟨b',N',o',e1,e2,e3,_⟩:=r0.is m o hm q3;exact⟨b',N',o',u0 _ _ e1,e2,e3.mono u0,fun z=>by rw[ae.ke q4] at z;cases z⟩
  ·obtain⟨o,g1,g2⟩:=V.is p hp;obtain⟨b',N',o',e1,e2,e3,_⟩:=r.is p.2.1 o (V.nm p hp).2.2 g1;rcases g2 with⟨_,_,g3⟩|⟨k,v,_,g3⟩
   ·exact⟨b',N',o',(V.A4 hp).trans e1,e2,g3 _ _ e3,fun z=>.inr<|.inl ⟨p,hp,z,N',e1⟩⟩
   ·rw[g3];exact⟨b',N',o',(V.A4 hp).trans e1,e2,trivial,fun z=>by cases z⟩
 ·rcases au m o hg with⟨q1,q3,q4⟩|⟨p1,jb,rfl,rfl⟩
  ·rcases au n p ly with⟨z1,z3,z4⟩|⟨p2,fP,rfl,rfl⟩
   ·rcases cZ with y|y
    ·rw[ae.ke q4] at y;cases y
    ·rw[ae.ke z4] at y;cases y
   ·rw[V.A4 fP] at e2;rcases cZ with y|y
    ·rw[ae.ke q4] at y;cases y
    ·exact absurd (.inl ⟨p2,fP,y,M,e2⟩) (R3 m N x q1 e1).2
  ·rw[V.A4 jb] at e1;rcases au n p ly with⟨z1,z3,z4⟩|⟨p2,fP,rfl,rfl⟩
   ·rcases cZ with y|y
    ·exact absurd (.inl ⟨p1,jb,y,N,e1⟩) (R3 n M x z1 e2).2
    ·rw[ae.ke z4] at y;cases y
   ·rw[V.A4 fP] at e2;obtain⟨o1,g1,_⟩:=V.is p1 jb;obtain⟨o2,f1,_⟩:=V.is p2 fP;have aj7:o1.du=false\/o2.du=false:=cZ.imp (fun y=>by
     obtain⟨o,k1,k2⟩:=uD p1 jb y;rw[g1] at k1;cases k1;exact k2) (fun y=>by
     obtain⟨o,k1,k2⟩:=uD p2 fP y;rw[f1] at k1;cases k1;exact k2)
    have:=r.one p1.2.1 p2.2.1 o1 o2 x N M (V.nm p1 jb).2.2 (V.nm p2 fP).2.2 g1 f1 aj7 e1 e2;rw[V.inj p1 jb p2 fP this]
 ·rcases au m _ hg with⟨_,_,q4⟩|⟨p,hp,_,e⟩
  ·cases q4
  ·obtain⟨_,_,⟨_,g2,_⟩|⟨k,v,_,g2⟩⟩:=V.is p hp
   ·rw[e] at g2;cases g2
   ·rw[e] at g2;cases g2
 ·rcases au i _ hg with⟨_,_,q4⟩|⟨p,hp,_,e⟩
  ·cases q4
  ·obtain⟨_,_,⟨_,g2,_⟩|⟨k,v,_,g2⟩⟩:=V.is p hp
   ·rw[e] at g2;cases g2
   ·rw[e] at g2;cases g2
 ·rw[xO ht<|gg _ _ _] at e;obtain⟨g0,l,c,e',fr,g1,g2,g3,g4⟩:=r0.fz j x sh (by rw[tO ht<|gg _ _ _];exact e);refine⟨.inl e,l,c,e',fr,g1,g2,fun m o N hm hg cH hr=>?_,fun i y hy=>?_⟩
  ·rcases au m o hg with⟨_,_,q4⟩|⟨p,hp,rfl,rfl⟩
   ·rw[ae.ke q4] at cH;cases cH
   ·rw[V.A4 hp] at hr;exact agW j x sh e<|.inl ⟨p,hp,cH,N,hr⟩
  ·obtain⟨v',k1,k2,k3⟩:=g4 i y hy;refine⟨v',k1,VR.mono (fun i z q=>?_) _ _ k2,k3⟩;unfold gq at q ⊢;split at q
   ·rename_i hk;rw[if_pos hk];exact u0 _ _ q
   ·cases q
 ·let H':Nat->Nat->Prop:=fun m x=>∃p∈L,p.1=m/\cV p.2.1 x;have R4:∀p∈L,H' p.1=cV p.2.1:=fun p hp=>funext fun x=>propext ⟨fun⟨q,hq,e1,e2⟩=>by rw[V.fn q hq p hp e1] at e2;exact e2,fun e=>⟨p,hp,rfl,e⟩⟩;refine⟨⟨r.tk.1.1,fun m o hm hg hf=>?_⟩,H',fun m k' v' hm hg=>?_,fun m n x k' v' MA wV hm fC hg ly cz ja qx=>?_⟩
  ·rcases au m o hg with⟨q1,q3,q4⟩|⟨p,hp,rfl,rfl⟩
   ·obtain⟨b',N',o',e1,e2,e3,_⟩:=r0.is m o hm q3;exact⟨b',N',u0 _ _ e1,(R3 m N' b' q1<|u0 _ _ e1).1⟩
   ·exact(agV p hp hf).elim
  ·rcases au m _ hg with⟨_,_,q4⟩|⟨p,hp,rfl,e⟩
   ·cases q4
   ·obtain⟨k,v,g1,g2⟩:=ss p hp (by rw[e];rfl);rw[e] at g2;cases g2;obtain⟨b,N,f1,f2,f3,f4⟩:=t1 _ _ _ (V.nm p hp).2.2 g1;refine⟨b,N,(V.A4 hp).trans f1,?_,by rw[R4 p hp];exact f3,fun x hx=>?_⟩
    ·rw[R4 p hp];exact B.mono f2 (fun i y hi q=>by rw[xO ht hi];exact q) fun _ _=>rfl
    ·rw[R4 p hp] at hx;obtain⟨c1,c2,c3,c4⟩:=f4 x hx;refine⟨c1,.inr<|.inr ⟨p,hp,by rw[e];rfl,hx⟩,fun n o N fC ly cH hr=>?_,fun j sh=>by rw[xO ht<|gg _ _ _];exact c4 j sh⟩;rcases au n o ly with⟨_,_,q4⟩|⟨p2,fP,rfl,rfl⟩
     ·rw[ae.ke q4] at cH;cases cH
     ·rw[V.A4 fP] at hr;obtain⟨o2,k1,k2⟩:=uD p2 fP cH;exact c3 p2.2.1 o2 N (V.nm p2 fP).2.2 k1 k2 hr
  ·obtain⟨p1,jb,y1,z1⟩:=ja;obtain⟨p2,fP,y2,z2⟩:=qx;rcases au m _ hg with⟨_,_,q4⟩|⟨q1,Mq,e1,e2⟩
   ·cases q4
   ·rcases au n _ ly with⟨_,_,q4⟩|⟨q2,Ix,e3,e4⟩
    ·cases q4
    ·have:=V.fn p1 jb q1 Mq<|y1.trans e1.symm;subst this;have:=V.fn p2 fP q2 Ix<|y2.trans e3.symm;subst this;obtain⟨k1,v1,g1,_⟩:=ss p1 jb (by rw[e2];rfl);obtain⟨k2,v2,g2,_⟩:=ss p2 fP (by rw[e4];rfl);exact t2 _ _ x _ _ _ _ (V.nm p1 jb).2.2 (V.nm p2 fP).2.2 g1 g2 (fun q=>cz<|by rw[←y1, ←y2,V.inj p1 jb p2 fP q]) z1 z2
end Go.Rn
namespace Go.Rn
open Go.RowKit
theorem Hf{U a:Nat}{B:aJ}{ρ σ:aw}{w w':World}{h h4 h':Tr ae}{L:Vw}{L2:List<|Nat×ae}{cV:Nat->Nat->Prop}(r:Rel B ρ h w)(T:CH B ρ h w cV)(V:zg U ρ h L)(q3:Rel (sa B ρ w<|wH ρ cV L) σ h4 w')(q4:cP (sa B ρ w<|wH ρ cV L) w w')(o7:∀p∈L,σ p.1=ρ p.2.1)(zc:∀m x,top<=m->ρ m=some x->σ m=some x)(h2:∀n q,(n,q)∈L2->∃p∈L,p.2.1=n/\∃o1,h4.get p.1=some o1/\((q.own=true/\p.2.2.own=true/\∀N o',OR σ N o1 o'->OR (cL ρ σ) N q o')\/∃k v v0,o1= .tok k v/\q= .tok k v/\p.2.2= .tok k v0))(h3:∀p∈L,p.2.2.du=false->∃o1,h4.get p.1=some o1/\o1.du=false)(hh:∀k,k<top->(∃q,(k,q)∈L2/\h'.get k=some q)\/((∀q∈L,q.2.1≠k)/\h'.get k=h.get k)):
 Ext a a ρ (cL ρ σ)/\iM σ (cL ρ σ)/\Rel B (cL ρ σ) h' w'/\cP B w w':=by
 obtain⟨t1,t2⟩:=T;have hl:ρ.le<|cL ρ σ:=by
  intro k x e;unfold cL;by_cases hk:top<=k
  ·rw[if_pos hk];exact zc k x hk e
  ·rw[if_neg hk];exact e
 have cY:∀k,k<top->cL ρ σ k=ρ k:=fun k hk=>by unfold cL;rw[if_neg ak]
 have ga:∀k,top<=k->cL ρ σ k=σ k:=fun k hk=>by unfold cL;rw[if_pos hk]
 have uD:∀p∈L,p.2.2.du=false->∃o,h.get p.2.1=some o/\o.du=false/\o.own=true:=fun p hp e=>by
  obtain⟨o,g1,⟨g2,_⟩|⟨k,v,_,g2⟩⟩:=V.is p hp
  ·exact⟨o,g1,(ae.vt g2).2,g2⟩
  ·rw[g2] at e;cases e
 have ss:∀p∈L,p.2.2.lh=true->∃k v,h.get p.2.1=some (.tok k v)/\p.2.2= .tok k v:=fun p hp e=>by
  obtain⟨o,g1,⟨_,g2,_⟩|⟨k,v,rfl,g2⟩⟩:=V.is p hp
  ·generalize p.2.2=q at e g2;cases q<;>first|(cases e;done)|cases g2
  ·exact⟨k,v,g1,g2⟩
 have uE:∀x,wH ρ cV L x->B.may x:=fun x hx=>by
  rcases hx with⟨p,hp,ho,N,e⟩|⟨p,hp,ho,e⟩
  ·obtain⟨o,g1,g2,_⟩:=uD p hp ho;obtain⟨x1,N1,_,e1,_,_,e3⟩:=r.is p.2.1 o (V.nm p hp).2.2 g1;rw[e] at e1;cases e1;exact e3 g2
  ·obtain⟨k,v,g1,_⟩:=ss p hp ho;obtain⟨_,_,_,_,_,f⟩:=t1 _ k v (V.nm p hp).2.2 g1;exact(f x e).2.1
 have CA:cP B w w':=⟨q4.os,q4.tape,q4.output,q4.size,fun x hx hm=>q4.block x hx fun z=>by
  rcases z with z|z
  ·have z:w.heap.size<=x:=z;omega
  ·exact hm<|uE x z⟩
 have mX:∀x,x<w.heap.size->¬wH ρ cV L x->w'.heap[x]? =w.heap[x]? :=fun x hx hm=>q4.block x hx fun z=>by
  rcases z with z|z
  ·have z:w.heap.size<=x:=z;omega
  ·exact hm z
 have cs:∀m o,m<top->h'.get m=some o->(∃p∈L,p.2.1=m/\∃o1,h4.get p.1=some o1/\((o.own=true/\p.2.2.own=true/\∀N o',OR σ N o1 o'->OR (cL ρ σ) N o o')\/∃k v v0,o1= .tok k v/\o= .tok k v/\p.2.2= .tok k v0))\/((∀q∈L,q.2.1≠m)/\h.get m=some o):=fun m o hm ho=>by
  rcases hh m hm with⟨q,e1,e2⟩|⟨e1,e2⟩
  ·rw[ho] at e2;cases e2;exact .inl<|h2 m o e1
  ·exact .inr ⟨e1,by rw[←e2];exact ho⟩
 have dG:∀m o,m<top->h'.get m=some o->∃q,h.get m=some q/\(o.du=false->q.du=false):=fun m o hm ho=>by
  rcases cs m o hm ho with⟨p,hp,rfl,o1,g1,⟨y1,y2,_⟩|⟨k,v,v0,_,y1,_⟩⟩|⟨_,e⟩
  ·obtain⟨q,g1,g2,_⟩:=uD p hp (ae.vt y2).2;exact⟨q,g1,fun _=>g2⟩
  ·obtain⟨q,g1,_⟩:=V.is p hp;exact⟨q,g1,fun z=>by rw[y1] at z;cases z⟩
  ·exact⟨o,e,id⟩
 have other:∀m o x M,m<top->(∀q∈L,q.2.1≠m)->h.get m=some o->ρ m=some (x,M)->¬wH ρ cV L x:=fun m o x M hm cz ho e=>by
  rintro (⟨p,hp,jb,N,e1⟩|⟨p,hp,jb,e1⟩)
  ·obtain⟨q,g1,g2,_⟩:=uD p hp jb;exact cz p hp<|r.one p.2.1 m q o x N M (V.nm p hp).2.2 hm g1 ho (.inl g2) e1 e
  ·obtain⟨k,v,g1,_⟩:=ss p hp jb;obtain⟨_,_,_,_,_,f⟩:=t1 _ k v (V.nm p hp).2.2 g1;obtain⟨⟨_,c1⟩,_,c3,_⟩:=f x e1;cases cH:o.du with
   |false=>exact c3 m o M hm ho cH e
   |true=>
    by_cases hf:o.mW=true
    ·obtain⟨b',N',k1,k2⟩:=r.tk.1.2 m o hm ho hf;rw[e] at k1;cases k1;omega
    ·cases o<;>first|(cases cH;done)|(exact hf rfl)|skip
     rename_i k' wV;obtain⟨b',N',k1,_,k3,_⟩:=t1 m k' wV hm ho;rw[e] at k1;cases k1;exact t2 _ m x k v k' wV (V.nm p hp).2.2 hm g1 ho (cz p hp) e1 k3
 have sU:∀x,jY ρ h x->jY (cL ρ σ) h' x:=fun x hn m o M hm ho cH e=>by obtain⟨q,g1,g2⟩:=dG m o hm ho;rw[cY m hm] at e;exact hn m q M hm g1 (g2 cH) e
 have Az:∀x,w.heap.size<=x->jY (cL ρ σ) h' x:=fun x hx m o M hm ho cH e=>by obtain⟨q,g1,_⟩:=dG m o hm ho;rw[cY m hm] at e;obtain⟨b1,N1,o1,e1,e2,_⟩:=r.is m q hm g1;rw[e] at e1;cases e1;have:=gV e2;omega
 have aic:∀p∈L,∀o,h.get p.2.1=some o->o.own=true\/o.lh=true:=fun p hp o ho=>by
  obtain⟨q,g1,⟨g2,_⟩|⟨k,v,g2,_⟩⟩:=V.is p hp
  ·rw[ho] at g1;cases g1;exact .inl g2
  ·rw[ho,g2] at g1;cases g1;exact .inr rfl
 have XB:∀i,h.get i=some .jP->∀q∈L,q.2.1≠i:=fun i e q hq z=>by rcases aic q hq .jP (by rw[z];exact e) with y|y<;>cases y
 obtain⟨⟨_,_⟩,Hq,s1,s2⟩:=q3.tk;refine⟨⟨hl,fun k hk _=>cY k hk⟩,fun k x hk e=>by rw[ga k hk];exact e,⟨fun m o hm ho=>?_,fun m m2 o p x M M2 hm cW ho hp cZ e1 e2=>?_,fun m i es ex left cur hm ho=>?_,fun x hx=>r.size x<|Nat.le_trans q4.size hx,fun i j m es ex left cur hJ iW iK iL hi hj ho hp=>?_,fun j x sh e=>?_,?_⟩,CA⟩
 ·rcases cs m o hm ho with⟨p,hp,rfl,o1,g1,⟨y1,y2,g2⟩|⟨k,v,v0,y1,y2,y3⟩⟩|⟨cz,e⟩
  ·obtain⟨b1,N1,o',e1,e2,e3,_⟩:=q3.is p.1 o1 (V.nm p hp).2.1 g1;rw[o7 p hp] at e1;exact⟨b1,N1,o',(cY _ hm).trans e1,e2,g2 _ _ e3,fun _=>uE b1<|.inl ⟨p,hp,(ae.vt y2).2,N1,e1⟩⟩
  ·obtain⟨b1,N1,o',e1,e2,e3,_⟩:=q3.is p.1 o1 (V.nm p hp).2.1 g1;rw[o7 p hp] at e1;rw[y2];exact⟨b1,N1,o',(cY _ hm).trans e1,e2,trivial,fun z=>by cases z⟩
  ·obtain⟨b1,N1,o1,e1,e2,e3,e4⟩:=r.is m o hm e;exact⟨b1,N1,o1,(cY m hm).trans e1,(mX b1 (gV e2)<|other m o b1 N1 hm cz e e1).trans e2,e3.mono hl,e4⟩
 ·rw[cY m hm] at e1;rw[cY m2 cW] at e2;obtain⟨o1,a1,a2⟩:=dG m o hm ho;obtain⟨o2,a3,a4⟩:=dG m2 p cW hp;exact r.one m m2 o1 o2 x M M2 hm cW a1 a3 (cZ.imp a2 a4) e1 e2
 ·rcases cs m _ hm ho with⟨p,hp,_,_,_,⟨y1,_⟩|⟨k,v,v0,_,y2,_⟩⟩|⟨cz,e⟩
  ·cases y1
  ·cases y2
  ·obtain⟨hi,fx,b1,N1,bm,M,l,bj,seen,u1,u2,u3,u4,u5⟩:=r.iter m i es ex left cur hm e;have u:np ρ w' m i es ex left cur:=⟨b1,N1,bm,M,l,bj,seen,u1,u2,(mX b1 (gV u3)<|other m _ b1 N1 hm cz e u1).trans u3,(mX bm (gV u4)<|other i _ bm M hi (XB i fx) fx u2).trans u4,u5⟩;refine⟨hi,?_,u.mono hl⟩;rcases hh i hi with⟨q,f1,f2⟩|⟨_,f2⟩
   ·obtain⟨p,hp,f3,_⟩:=h2 i q f1;exact absurd f3<|XB i fx p hp
   ·rw[f2];exact fx
 ·rcases cs i _ hi ho with⟨p,hp,_,_,_,⟨y1,_⟩|⟨k,v,v0,_,y2,_⟩⟩|⟨_,e⟩
  ·cases y1
  ·cases y2
  ·rcases cs j _ hj hp with⟨p,hp,_,_,_,⟨y1,_⟩|⟨k,v,v0,_,y2,_⟩⟩|⟨_,e'⟩
   ·cases y1
   ·cases y2
   ·exact r.lone i j m es ex left cur hJ iW iK iL hi hj e e'
 ·rw[ga _<|gg _ _ _] at e;obtain⟨g0,l,c,e',fr,g1,g2,gn,g4⟩:=q3.fz j x sh e;have mV:∀i y,l[i]? =some y->∃v,c[sh+i]? =some v/\VR (gq<|cL ρ σ) y v/\y.cj=true:=fun i y hy=>by
   obtain⟨v,k1,k2,k3⟩:=g4 i y hy;refine⟨v,k1,VR.mono (fun z u q=>?_) _ _ k2,k3⟩;unfold gq at q ⊢;split at q
   ·rename_i hk;rw[if_pos hk,ga z hk];exact q
   ·cases q
  by_cases q:ρ (hn j x sh)≠none
  ·obtain⟨z0,l',c',e2,kl,z1,z2,z3,_⟩:=r.fz j x sh q;exact⟨z0,l,c,e',fr,g1,g2,sU x z3,mV⟩
  ·rcases g0.resolve_left q with z|z
   ·have z:w.heap.size<=x:=z;exact⟨.inr<|r.size x z,l,c,e',fr,g1,g2,Az x z,mV⟩
   ·refine⟨.inr<|uE x z,l,c,e',fr,g1,g2,?_,mV⟩;rcases z with⟨p,hp,ho,N,e1⟩|⟨p,hp,ho,e1⟩
    ·obtain⟨o1,f1,f2⟩:=h3 p hp ho;exact absurd ((o7 p hp).trans e1)<|gn p.1 o1 N (V.nm p hp).2.1 f1 f2
    ·obtain⟨k,v,k1,_⟩:=ss p hp ho;obtain⟨_,_,_,_,_,f⟩:=t1 _ k v (V.nm p hp).2.2 k1;exact sU x (f x e1).2.2.1
 ·let H':Nat->Nat->Prop:=fun m x=>(∃p∈L,p.2.1=m/\Hq p.1 x)\/((∀p∈L,p.2.1≠m)/\cV m x);have F4:∀p∈L,H' p.2.1=Hq p.1:=fun p hp=>funext fun x=>propext ⟨fun z=>by
   rcases z with⟨q,hq,e1,e2⟩|⟨e1,_⟩
   ·rw[V.inj q hq p hp e1] at e2;exact e2
   ·exact absurd rfl<|e1 p hp,fun z=>.inl ⟨p,hp,rfl,z⟩⟩
  have F5:∀m,(∀p∈L,p.2.1≠m)->H' m=cV m:=fun m hm=>funext fun x=>propext ⟨fun z=>by
   rcases z with⟨q,hq,e1,_⟩|⟨_,z⟩
   ·exact absurd e1 (hm q hq)
   ·exact z,fun z=>.inr ⟨hm,z⟩⟩
  have Df:∀p∈L,∀k v,h4.get p.1=some (.tok k v)->∀x,Hq p.1 x->x<w'.heap.size/\(w.heap.size<=x\/wH ρ cV L x)/\∀j sh,σ (hn j x sh)=none:=fun p hp k v hg x hx=>by obtain⟨_,_,_,_,_,f⟩:=s1 p.1 k v (V.nm p hp).2.1 hg;obtain⟨⟨c1,_⟩,c2,_,c4⟩:=f x hx;exact⟨c1,c2,c4⟩
  have Lw:∀m k v,m<top->h'.get m=some (.tok k v)->(∃p∈L,p.2.1=m/\h4.get p.1=some (.tok k v)/\∃v0,p.2.2= .tok k v0)\/((∀q∈L,q.2.1≠m)/\h.get m=some (.tok k v)):=fun m k v hm ho=>by
   rcases cs m _ hm ho with⟨p,hp,e0,o1,g1,⟨y1,_⟩|⟨k',v',v0,y1,y2,y3⟩⟩|z
   ·cases y1
   ·cases y2;exact .inl ⟨p,hp,e0,by rw[g1,y1],v0,y3⟩
   ·exact .inr z
  have sep:∀m k v,m<top->(∀q∈L,q.2.1≠m)->h.get m=some (.tok k v)->∀x,cV m x->(w.heap.size<=x\/wH ρ cV L x)->False:=fun m k1 v1 hm cz hg x hx z=>by
   obtain⟨_,_,_,_,_,f4⟩:=t1 m k1 v1 hm hg;rcases z with z|⟨p,hp,Dj,N,e1⟩|⟨p,hp,Dj,e1⟩
   ·have:=(f4 x hx).1.1;omega
   ·obtain⟨q,g1,g2,_⟩:=uD p hp Dj;exact(f4 x hx).2.2.1 p.2.1 q N (V.nm p hp).2.2 g1 g2 e1
   ·obtain⟨k,v,g1,_⟩:=ss p hp Dj;exact t2 _ m x k v k1 v1 (V.nm p hp).2.2 hm g1 hg (cz p hp) e1 hx
  refine⟨⟨Nat.le_trans r.tk.1.1 q4.size,fun m o hm ho hf=>?_⟩,H',fun m k1 v1 hm ho=>?_,fun m m2 x k1 v1 k2 v2 hm cW ho hp cz z1 z2=>?_⟩
  ·rcases cs m o hm ho with⟨p,hp,_,_,_,⟨y1,_⟩|⟨k,v,v0,_,y2,_⟩⟩|⟨_,e⟩
   ·cases o<;>first|(cases hf;done)|cases y1
   ·rw[y2] at hf;cases hf
   ·obtain⟨b1,N1,e1,e2⟩:=r.tk.1.2 m o hm e hf;exact⟨b1,N1,(cY m hm).trans e1,e2⟩
  ·rcases Lw m k1 v1 hm ho with⟨p,hp,rfl,hg,v0,Zx⟩|⟨cz,hg⟩
   ·obtain⟨b1,N1,f1,f2,f3,f4⟩:=s1 p.1 k1 v1 (V.nm p hp).2.1 hg;have hpt:p.2.2.lh=true:=by rw[Zx];rfl
    refine⟨b1,N1,(cY _ hm).trans<|(o7 p hp).symm.trans f1,?_,by rw[F4 p hp];exact f3,fun x hx=>?_⟩
    ·rw[F4 p hp];exact B.mono f2 (fun i y hi q=>by rw[ga i hi];exact q) fun _ _=>rfl
    ·rw[F4 p hp] at hx;obtain⟨c1,c2,c4⟩:=Df p hp k1 v1 hg x hx;obtain⟨⟨_,aj8⟩,_,c3,_⟩:=f4 x hx;refine⟨⟨c1,aj8⟩,?_,?_,fun j sh=>by rw[ga _<|gg _ _ _];exact c4 j sh⟩
     ·rcases c2 with y|y
      ·exact r.size x y
      ·exact uE x y
     ·rcases c2 with y|y
      ·exact Az x y
      ·rcases y with⟨p2,fP,R5,N2,e2⟩|⟨p2,fP,R5,e2⟩
       ·obtain⟨o1,k1',k2'⟩:=h3 p2 fP R5;exact absurd ((o7 p2 fP).trans e2)<|c3 p2.1 o1 N2 (V.nm p2 fP).2.1 k1' k2'
       ·obtain⟨k,v,g1,_⟩:=ss p2 fP R5;obtain⟨_,_,_,_,_,f⟩:=t1 _ k v (V.nm p2 fP).2.2 g1;exact sU x (f x e2).2.2.1
   ·obtain⟨b1,N1,f1,f2,f3,f4⟩:=t1 m k1 v1 hm hg;have Yy:∀x,cV m x->¬wH ρ cV L x:=fun x hx z=>by
     rcases z with⟨p,hp,Dj,N,e1⟩|⟨p,hp,Dj,e1⟩
     ·obtain⟨q,g1,g2,_⟩:=uD p hp Dj;exact(f4 x hx).2.2.1 p.2.1 q N (V.nm p hp).2.2 g1 g2 e1
     ·obtain⟨k,v,g1,_⟩:=ss p hp Dj;exact t2 _ m x k v k1 v1 (V.nm p hp).2.2 hm g1 hg (cz p hp) e1 hx
    refine⟨b1,N1,(cY m hm).trans f1,?_,by rw[F5 m cz];exact f3,fun x hx=>?_⟩
    ·rw[F5 m cz];exact B.mono f2 (fun i y _ e=>hl _ _ e) fun x hx=>mX x (f4 x hx).1.1<|Yy x hx
    ·rw[F5 m cz] at hx;obtain⟨⟨c1,cl⟩,c2,c3,c4⟩:=f4 x hx;refine⟨⟨Nat.lt_of_lt_of_le c1 q4.size,cl⟩,c2,sU x c3,fun j sh=>Classical.byContradiction fun z=>?_⟩;rw[ga _<|gg _ _ _] at z;rcases(q3.fz j x sh z).1 with y|y
     ·exact y<|c4 j sh
     ·rcases y with y|y
      ·have y:w.heap.size<=x:=y;omega
      ·exact Yy x hx y
  ·rcases Lw m k1 v1 hm ho with⟨p1,jb,rfl,hg,v0,Zx⟩|⟨Fp,hg⟩
   ·rw[F4 p1 jb] at z1;obtain⟨c1,c2,_⟩:=Df p1 jb k1 v1 hg x z1;rcases Lw m2 k2 v2 cW hp with⟨p2,fP,rfl,Dk,v02,aj9⟩|⟨Ma,Dk⟩
    ·rw[F4 p2 fP] at z2;exact s2 p1.1 p2.1 x k1 v1 k2 v2 (V.nm p1 jb).2.1 (V.nm p2 fP).2.1 hg Dk (fun q=>cz<|by rw[V.fn p1 jb p2 fP q]) z1 z2
    ·rw[F5 m2 Ma] at z2;exact sep m2 k2 v2 cW Ma Dk x z2 c2
   ·rw[F5 m Fp] at z1;rcases Lw m2 k2 v2 cW hp with⟨p2,fP,rfl,Dk,v02,aj9⟩|⟨Ma,Dk⟩
    ·rw[F4 p2 fP] at z2;exact sep m k1 v1 hm Fp hg x z1 (Df p2 fP k2 v2 Dk x z2).2.1
    ·rw[F5 m2 Ma] at z2;exact t2 m m2 x k1 v1 k2 v2 hm cW hg Dk cz z1 z2
end Go.Rn
namespace Go.Rn
open Go.RowKit
variable {ρ σ:aw} {β:Type} {o:ae} {v:AV} {s1 s:AS} {o':Obj} {c:Prop} {N:Nat}
structure Cb where
 fn:FuncId
 nt:Nat
 ps:List Tmp
 a:Code
 b:Code
 s1:Nat
 s2:Nat
structure fE where
 ret:Bool
 v1:AV
 v2:AV
 bS:Option Code
noncomputable section
def Af:ae->Option AV
 | .cells 1 t z=>cellAt t z 0
 |_=>none
def eO(v:AV):ae:=.cells 1 (Tr.fill [v] 0 .nil) []
def aid(p:Option Code):LoopState:=match p with
 |none=>.ready
 |some _=>.done
def Cb.loop(K:Cb)(bS:Option Code)(c1 c2 df:Nat):ae:=.loop (aid bS) bS K.fn (aP [(K.s1,.ptr<|some (c1,0)),(K.s2,.ptr<|some (c2,0))]) K.nt K.ps K.a K.b df
def ET(v:Option AV):Option Nat:=match v with
 |some (.ptr (some (c,0)))=>some c
 |_=>none
open Classical in
def l9(c:Prop)(m:M β):M β:=aF (decide c) m
structure XC where
 fn:FuncId
 t:Tr AV
 nt:Nat
 ps:List Tmp
 a:Code
 b:Code
 df:Nat
def Lx:ae->Option XC
 | .loop .ready none fn t nt ps a b df=>some ⟨fn,t,nt,ps,a,b,df⟩
 |_=>none
def Ib(K:Cb)(val:AV->AV->AV->Option fE)(x:AV)(L:Nat):M AV:=
 (bw L).bind fun o=>aC (Lx o) fun q=>
 l9 (q.fn=K.fn/\q.nt=K.nt/\q.ps=K.ps/\q.a=K.a/\q.b=K.b) <|
 aC (ET<|q.t.get K.s1) fun c1=>aC (ET<|q.t.get K.s2) fun c2=>
 l9 (L≠q.df/\L≠c1/\L≠c2/\q.df≠c1/\q.df≠c2/\c1≠c2) <|
 (bw q.df).bind fun od=>l9 (od= .defs) <| (bw c1).bind fun o1=>(bw c2).bind fun o2=>
 aC (Af o1) fun v1=>aC (Af o2) fun v2=>aC (val x v1 v2) fun p=>
 l9 (v1.hi=true/\v2.hi=true/\p.v1.hi=true/\p.v2.hi=true/\p.v1.cj=true/\p.v2.cj=true/\v1.cj=true/\v2.cj=true) <|
 (bM L<|some<|K.loop p.bS c1 c2 q.df).bind fun _=>(bM q.df<|some .defs).bind fun _=>(bM c1<|some<|eO p.v1).bind fun _=>(bM c2<|some<|eO p.v2).bind fun _=>M.pure<|.bool p.ret
def rB(K:Cb)(val:AV->AV->AV->Option fE)(U:Nat)(ns:List Nat)(h0:Tr ae):aO->List AV->M AV:=fun _ args=>match args with
 |[x,.yield L]=>aF x.hi <| (fe U h0 ns).bind fun _=>Ib K val x L
 |_=>fail
end
open Classical in
theorem DR{m:M β}{b:β}(h:l9 c m s= .ok b s1):c/\m s= .ok b s1:=by unfold l9 at h;obtain⟨h1,h2⟩:=cX h;exact⟨of_decide_eq_true h1,h2⟩
theorem D3{m:M β}(h:c):l9 c m=m:=by unfold l9;simp only[h,decide_true];rfl
theorem SH.l9{β:Type}{c:Prop}{m:M β}(h:SH m):SH<|l9 c m:=SH.aF fun _=>h
theorem SH.rB(K:Cb)(val:AV->AV->AV->Option fE)(U:Nat)(ns:List Nat)(h0:Tr ae)(SI:aO)(args:List AV):SH<|rB K val U ns h0 SI args:=by
 unfold Rn.rB;split
 ·refine SH.aF fun _=>SH.bind (SH.fe U h0 ns) fun _=>?_;unfold Ib;refine SH.bind (SH.bw _) fun o=>SH.aC fun q _=>SH.l9 <| SH.aC fun c1 _=>SH.aC fun c2 _=>SH.l9 <| SH.bind (SH.bw _) fun _=>SH.l9 <| SH.bind (SH.bw _) fun _=>SH.bind (SH.bw _) fun _=>SH.aC fun _ _=>SH.aC fun _ _=>SH.aC fun _ _=>SH.l9 <| SH.bind (SH.bM _ _) fun _=>SH.bind (SH.bM _ _) fun _=>SH.bind (SH.bM _ _) fun _=>SH.bind (SH.bM _ _) fun _=>SH.pure _
 ·exact SH.fail
theorem acG{q:XC}(h:Lx o=some q):o= .loop .ready none q.fn q.t q.nt q.ps q.a q.b q.df:=by
 unfold Lx at h;split at h
 ·injection h with h;subst h;rfl
 ·cases h
theorem Un{v:Option AV}{c:Nat}(h:ET v=some c):v=some (.ptr<|some (c,0)):=by
 unfold ET at h;split at h
 ·injection h with h;subst h;rfl
 ·cases h
theorem Gy(h:Af o=some v):∃t z,o= .cells 1 t z/\cellAt t z 0=some v:=by
 unfold Af at h;split at h
 ·exact⟨_,_,rfl,h⟩
 ·cases h
noncomputable def su(K:Cb)(U:Nat)(P:Program)(rs:List ResultVar)(p:fE):=Fin P rs fun y s'=>y= .bool p.ret/\s'.h.get U=some (K.loop p.bS (U+2) (U+3)<|U+1)/\s'.h.get (U+1)=some .defs/\s'.h.get (U+2)=some (eO p.v1)/\s'.h.get (U+3)=some (eO p.v2)
noncomputable def KD(K:Cb)(U:Nat)(v1 v2:AV):List<|Nat×ae:=[(U,K.loop none (U+2) (U+3)<|U+1),(U+1,.defs),(U+2,eO v1),(U+3,eO v2)]
theorem G0(hb:Af o=some v)(hv:v.hi=true)(h1:v.cj=true)(hr:iM ρ σ)(h:OR ρ N o o'):OR σ N (eO v) o':=by
 obtain⟨t,z,rfl,hc⟩:=Gy hb;obtain⟨c,e,rfl,h2,h3,h4⟩:=h;obtain⟨x,v',a1,a2,a3,a4⟩:=h4 0 ak;rw[hc] at a1;cases a1;refine⟨c,e,rfl,h2,h3,fun i hi=>?_⟩;obtain rfl:i=0:=by omega
 exact⟨v,v',by rfl,h1,a3,AV.oY hr hv a4⟩
theorem xw(v:AV):Af (eO v)=some v:=rfl
theorem Pp{K:Cb}{st:LoopState}{bS:Option Code}{t:Tr AV}{c1 c2 df d1 d2 dg:Nat}(ht1:K.s1<top)(FO:K.s2<top)(h1:t.get K.s1=some (.ptr<|some (c1,0)))(h2:t.get K.s2=some (.ptr<|some (c2,0)))(e1:∀x,ρ c1=some x->σ d1=some x)(e2:∀x,ρ c2=some x->σ d2=some x)(e3:∀x,ρ df=some x->σ dg=some x)(h:OR ρ N (.loop st bS K.fn t K.nt K.ps K.a K.b df) o'):OR σ N (.loop st bS K.fn (aP [(K.s1,.ptr<|some (d1,0)),(K.s2,.ptr<|some (d2,0))]) K.nt K.ps K.a K.b dg) o':=by
 obtain⟨a,b,M,rfl,h3,h4,h5,h6⟩:=h;refine⟨a,b,M,rfl,⟨h3.1,fun i x hx=>?_⟩,h4,e3 _ h5,h6⟩;have hm:=GO (fun p hp=>by
  rcases List.mem_cons.1 hp with rfl|hp
  ·exact ht1
  ·rcases List.mem_cons.1 hp with rfl|hp
   ·exact FO
   ·cases hp) hx
 rcases List.mem_cons.1 hm with hm|hm
 ·cases hm;have:=h3.2 _ _ h1;simp only[VR] at this ⊢;obtain⟨b',N',q1,q2⟩:=this;exact⟨b',N',e1 _ q1,q2⟩
 ·rcases List.mem_cons.1 hm with hm|hm
  ·cases hm;have:=h3.2 _ _ h2;simp only[VR] at this ⊢;obtain⟨b',N',q1,q2⟩:=this;exact⟨b',N',e2 _ q1,q2⟩
  ·cases hm
theorem ae4{P:Program}{B:aJ}{f U:Nat}{ns:List Nat}{h0:Tr ae}{kn:List<|Nat×Option ae}{K:Cb}{val:AV->AV->AV->Option fE}{fn:Func}{body:Code}{w:World}(hP:bB P)(ch:P.funcs[f]? =some fn)(cw:fn.body=some body)(dD:(fn.name == "runtime.NumGoroutine")=false)(fD:fH<=U)(dI:U+4<=top)(iZ:K.s1<top)(im:K.s2<top)(mZ:K.s1≠K.s2)(dE:∀n o,n<top->h0.get n=some o->n∈ns)(eh:∀n∈ns,n<U)(iA:∀n o,(n,some o)∈kn->h0.get n=some o)(iB:∀p∈kn,p.1<top)(eK:∀x v1 v2 p,val x v1 v2=some p->max fn.ntmps 2<=top/\∀B':aJ,B'.F=B.F->B'.inv=B.inv->
 av P B' (U+4) (su K U P fn.results.toList p) ⟨f,dZ [x,.yield U],max fn.ntmps 2,[.code body],[],none⟩ ⟨fL<|kn++bO (KD K U v1 v2),U+4,0,[],[]⟩){SI:aO}{args:List AV}{x:AV}{vs:Array Value}(r:Rel B ρ s.h w)(hg:gk ρ)(h:rB K val U ns h0 SI args s= .ok x s1)(hv:az ρ args vs.toList):jo P ((callFunc f vs).run P w)<|kg B ρ s s1 w x:=by
 unfold rB at h;split at h
 ·rename_i x0 L;obtain⟨ga,h1⟩:=cX h;obtain⟨u,s2,h2,h3⟩:=M.aR h1;obtain⟨a1,a2,a3⟩:=tB h2;unfold Ib at h3;obtain⟨o,s3,k1,h3⟩:=M.aR h3;obtain⟨q,hq,h3⟩:=bu h3;obtain⟨⟨f1,f2,f3,f4,f5⟩,h3⟩:=DR h3;obtain⟨c1,jK,h3⟩:=bu h3;obtain⟨c2,wR,h3⟩:=bu h3;obtain⟨⟨n1,n2,n3,n4,n5,n6⟩,h3⟩:=DR h3;obtain⟨od,s4,k2,h3⟩:=M.aR h3;obtain⟨hod,h3⟩:=DR h3;obtain⟨o1,s5,k3,h3⟩:=M.aR h3;obtain⟨o2,s6,k4,h3⟩:=M.aR h3;obtain⟨v1,FX,h3⟩:=bu h3;obtain⟨v2,sM,h3⟩:=bu h3;obtain⟨p,hp,h3⟩:=bu h3;obtain⟨⟨g1,g2,g3,g4,g5,g6,g7,g8⟩,h3⟩:=DR h3;obtain⟨u1,t1,w1,h3⟩:=M.aR h3;obtain⟨u2,t2,w2,h3⟩:=M.aR h3;obtain⟨u3,t3,w3,h3⟩:=M.aR h3;obtain⟨u4,t4,w4,h3⟩:=M.aR h3;obtain⟨rfl,rfl⟩:=bH h3;obtain⟨r1,r2,r3,r4⟩:=fY k1;obtain⟨r5,r6,r7,r8⟩:=fY k2;obtain⟨r9,Zy,Zz,r12⟩:=fY k3;obtain⟨r13,ZA,r15,r16⟩:=fY k4;obtain⟨x1,x2,_,x4,x5⟩:=jy w1;obtain⟨y1,y2,_,y4,y5⟩:=jy w2;obtain⟨z1,z2,_,z4,z5⟩:=jy w3;obtain⟨m1,m2,_,m4,m5⟩:=jy w4;have ZB:=acG hq;have p1:=Un jK;have p2:=Un wR;obtain⟨qfn,qt,qnt,qps,qa,qb,df⟩:=q;simp only at f1 f2 f3 f4 f5 n1 n2 n3 n4 n5 n6 ZB p1 p2 jK wR k2 k3 k4 w1 w2 w3 w4 y1 y2 y4 r5 r6 r7 r8 x4 hq;subst f1;subst f2;subst f3;subst f4;subst f5;subst hod;rw[ZB,a1] at r2;rw[r3,a1] at r6;rw[r7,r3,a1] at Zy;rw[Zz,r7,r3,a1] at ZA;obtain⟨tz1,zz1,bo1,_⟩:=Gy FX;obtain⟨tz2,zz2,bo2,_⟩:=Gy sM;let V:Vw:=[(U,L,K.loop none (U+2) (U+3)<|U+1),(U+1,df,.defs),(U+2,c1,eO v1),(U+3,c2,eO v2)];have mem:∀q∈V,q=(U,L,K.loop none (U+2) (U+3)<|U+1)\/q=(U+1,df,.defs)\/q=(U+2,c1,eO v1)\/q=(U+3,c2,eO v2):=fun q hq=>by simpa[V] using hq
  have e0:∀gJ:aw,eL U gJ V U=gJ L:=fun gJ=>by
   unfold eL;rw[if_neg ak,if_neg ak];show(match gj V U with|some n=>gJ n|none=>none)=_;have:gj V U=some L:=by simp[gj,V]
   rw[this]
  have e1:∀gJ:aw,eL U gJ V (U+1)=gJ df:=fun gJ=>by
   unfold eL;rw[if_neg ak,if_neg ak];show(match gj V (U+1) with|some n=>gJ n|none=>none)=_;have:gj V (U+1)=some df:=by simp[gj,V]
   rw[this]
  have e2:∀gJ:aw,eL U gJ V (U+2)=gJ c1:=fun gJ=>by
   unfold eL;rw[if_neg ak,if_neg ak];show(match gj V (U+2) with|some n=>gJ n|none=>none)=_;have:gj V (U+2)=some c1:=by simp[gj,V]
   rw[this]
  have e3:∀gJ:aw,eL U gJ V (U+3)=gJ c2:=fun gJ=>by
   unfold eL;rw[if_neg ak,if_neg ak];show(match gj V (U+3) with|some n=>gJ n|none=>none)=_;have:gj V (U+3)=some c2:=by simp[gj,V]
   rw[this]
  have hi:iM ρ<|eL U ρ V:=fun m x hm e=>by rw[xO ak hm];exact e
  have hV:zg U ρ s.h V:=by
   refine⟨fun q hq=>?_,fun q hq q' dR e=>?_,fun q hq q' dR e=>?_,fun q hq=>?_⟩
   ·rcases mem q hq with rfl|rfl|rfl|rfl
    ·exact⟨Nat.le_refl _,by omega,x2⟩
    ·exact⟨by omega,by omega,y2⟩
    ·exact⟨by omega,by omega,z2⟩
    ·exact⟨by omega,by omega,m2⟩
   ·rcases mem q hq with rfl|rfl|rfl|rfl<;>rcases mem q' dR with rfl|rfl|rfl|rfl<;>first|rfl|(simp only at e;omega)
   ·rcases mem q hq with rfl|rfl|rfl|rfl<;>rcases mem q' dR with rfl|rfl|rfl|rfl<;>first|rfl|(simp only at e;omega)
   ·rcases mem q hq with rfl|rfl|rfl|rfl
    ·exact⟨_,r2,.inl ⟨rfl,rfl,fun N o' hO=>Pp iZ im p1 p2 (fun x e=>by rw[e2];exact e) (fun x e=>by rw[e3];exact e) (fun x e=>by rw[e1];exact e) hO⟩⟩
    ·exact⟨_,r6,.inl ⟨rfl,rfl,fun N o' hO=>hO⟩⟩
    ·exact⟨_,Zy,.inl ⟨by rw[bo1];rfl,rfl,fun N o' hO=>G0 FX g1 g7 hi hO⟩⟩
    ·exact⟨_,ZA,.inl ⟨by rw[bo2];rfl,rfl,fun N o' hO=>G0 sM g2 g8 hi hO⟩⟩
  obtain⟨_,cV,T⟩:=r.tk;have T:CH B ρ s.h w cV:=T;have mY:=HD ak r T dE eh iA iB (fun n hn=>by obtain⟨_,o,p,h⟩:=a3 n hn;exact⟨o,p,h⟩) hV;obtain⟨d1,d2⟩:=eK _ _ _ _ hp;have fi:bE (⟨fL<|kn++bO (KD K U v1 v2),U+4,0,[],[]⟩:AS):=⟨Nat.zero_le _,dI⟩;have jJ:az (eL U ρ V) [x0,.yield U] vs.toList:=by simp only[az,VR] at hv ⊢;obtain⟨y0,ys,q1,q2,y3,FP,q3,⟨b',N',q4,q5⟩,q6⟩:=hv;exact⟨y0,ys,q1,AV.oY hi ga q2,y3,FP,q3,⟨b',N',(e0 ρ).trans q4,q5⟩,q6⟩
  have bI:=av.Em (B:=sa B ρ w<|wH ρ cV V) (s:=⟨fL<|kn++bO (KD K U v1 v2),U+4,0,[],[]⟩) (args:=[x0,.yield U]) (vs:=vs) hP ch cw d1 (d2 _ rfl rfl) fi mY (fun g hZ=>by
   obtain⟨N,e⟩:=hg g hZ;exact⟨N,by rw[BN<|Nat.lt_of_lt_of_le hZ fD];exact e⟩) (fun m hm jt=>by
   have hm:U+4<=m:=hm;exact Gx ak jt fun q hq=>by rcases mem q hq with rfl|rfl|rfl|rfl<;>(show _≠m;simp only;omega)) jJ
  rw[tC ch cw dD];show Calls P f vs w _;refine bI.mono fun e w'=>?_;rintro ⟨zi,x',s7,rfl,⟨rfl,j1,j2,j3,j4⟩,_,σ,i0,zj,i1,i2,i3⟩;have sV:∀q∈V,σ q.1=ρ q.2.1:=fun q hq=>by
   rcases mem q hq with rfl|rfl|rfl|rfl
   ·exact(i0 U ak ak).trans<|e0 ρ
   ·exact(i0 (U+1) ak ak).trans<|e1 ρ
   ·exact(i0 (U+2) ak ak).trans<|e2 ρ
   ·exact(i0 (U+3) ak ak).trans<|e3 ρ
  have oi:iM σ<|cL ρ σ:=fun k x hk e=>by unfold cL;rw[if_pos hk];exact e
  have Q7:∀k,k<top->cL ρ σ k=ρ k:=fun k hk=>by unfold cL;rw[if_neg ak]
  have V0:(U,L,K.loop none (U+2) (U+3)<|U+1)∈V:=by simp[V]
  have V1:(U+1,df,ae.defs)∈V:=by simp[V]
  have V2:(U+2,c1,eO v1)∈V:=by simp[V]
  have V3:(U+3,c2,eO v2)∈V:=by simp[V]
  have F6:σ (U+1)=ρ df:=sV _ V1;have s2':σ (U+2)=ρ c1:=sV _ V2;have s3':σ (U+3)=ρ c2:=sV _ V3;have gt:∀(k c d:Nat),(aP [(K.s1,AV.ptr<|some (c,0)),(K.s2,.ptr<|some (d,0))]).get K.s1=some (.ptr<|some (c,0))/\(aP [(K.s1,AV.ptr<|some (c,0)),(K.s2,.ptr<|some (d,0))]).get K.s2=some (.ptr<|some (d,0)):=fun k c d=>by
   constructor
   ·show(((Tr.nil:Tr AV).put K.s2 _).put K.s1 _).get K.s1=_;rw[Tr.lV _ _ _ _ iZ,if_pos rfl]
   ·show(((Tr.nil:Tr AV).put K.s2 _).put K.s1 _).get K.s2=_;rw[Tr.lV _ _ _ _ iZ,if_neg fun e=>mZ e.symm,Tr.lV _ _ _ _ im,if_pos rfl]
  obtain⟨b1,b2,b3,b4⟩:=Hf (a:=s.nx) (L2:=[(L,K.loop p.bS c1 c2 df),(df,.defs),(c1,eO p.v1),(c2,eO p.v2)]) (h':=s1.h) r T hV i2 i3 sV (fun m z hm q=>zj m z hm<|hi m z hm q) (fun n q hm=>by
   rcases List.mem_cons.1 hm with hm|hm
   ·cases hm;exact⟨_,V0,rfl,_,j1,.inl ⟨rfl,rfl,fun N o' hO=>Pp iZ im (gt 0 _ _).1 (gt 0 _ _).2 (fun x e=>by rw[Q7 c1 z2, ←s2'];exact e) (fun x e=>by rw[Q7 c2 m2, ←s3'];exact e) (fun x e=>by rw[Q7 df y2, ←F6];exact e) hO⟩⟩
   rcases List.mem_cons.1 hm with hm|hm
   ·cases hm;exact⟨_,V1,rfl,_,j2,.inl ⟨rfl,rfl,fun N o' hO=>hO⟩⟩
   rcases List.mem_cons.1 hm with hm|hm
   ·cases hm;exact⟨_,V2,rfl,_,j3,.inl ⟨rfl,rfl,fun N o' hO=>G0 (xw _) g3 g5 oi hO⟩⟩
   rcases List.mem_cons.1 hm with hm|hm
   ·cases hm;exact⟨_,V3,rfl,_,j4,.inl ⟨rfl,rfl,fun N o' hO=>G0 (xw _) g4 g6 oi hO⟩⟩
   cases hm) (fun q hq _=>by
   rcases mem q hq with rfl|rfl|rfl|rfl
   ·exact⟨_,j1,rfl⟩
   ·exact⟨_,j2,rfl⟩
   ·exact⟨_,j3,rfl⟩
   ·exact⟨_,j4,rfl⟩) (fun k hk=>by
   have IK:s1.h=(((s.h.put L<|some<|K.loop p.bS c1 c2 df).put df<|some .defs).put c1<|some<|eO p.v1).put c2 (some<|eO p.v2):=by rw[m4,z4,y4,x4,r15,Zz,r7,r3,a1]
   rw[IK,Tr.dt _ _ _ _ m2 hk,Tr.dt _ _ _ _ z2 hk,Tr.dt _ _ _ _ y2 hk,Tr.dt _ _ _ _ x2 hk];by_cases q4:k=c2
   ·subst q4;exact .inl ⟨_,by simp,if_pos rfl⟩
   rw[if_neg q4];by_cases q3:k=c1
   ·subst q3;exact .inl ⟨_,by simp,if_pos rfl⟩
   rw[if_neg q3];by_cases q2:k=df
   ·subst q2;exact .inl ⟨_,by simp,if_pos rfl⟩
   rw[if_neg q2];by_cases q1:k=L
   ·subst q1;exact .inl ⟨_,by simp,if_pos rfl⟩
   rw[if_neg q1];exact .inr ⟨fun q hq=>by rcases mem q hq with rfl|rfl|rfl|rfl<;>(intro e;exact absurd e.symm<|by assumption),rfl⟩)
  refine⟨zi,rfl,cL ρ σ,?_,AV.oY oi rfl i1,b3,b4⟩;have cJ:s1.nx=s.nx:=by rw[m5,z5,y5,x5,r16,r12,r8,r4,a2]
  rw[cJ];exact b1
 ·cases h
end Go.Rn
namespace Go.Rn
open Go.RowKit
variable {r:Nat->Nat} {n U g df c2 c1:Nat} {s:AS} {K:Cb} {ns:List Nat} {h0:Tr ae} {P:Program}
theorem aie(h:s.mark=0):bc n s=s:=by obtain⟨hh,nx,mark,rd,wr⟩:=s;have h:mark=0:=h;subst h;rfl
theorem U7{U:Nat}{h0:Tr ae}:∀{ns:List Nat} {s s1:AS} {u:Unit},s.mark=0->fe U h0 ns s= .ok u s1->s1=s
 |[],s,s1,u,_,h=>(bH (show M.pure () s= .ok u s1 from h)).2
 |m::ns,s,s1,u,hm,h=>by obtain⟨o,s2,h1,h2⟩:=M.aR (show((bw m).bind fun o=>aC (h0.get m) fun p=>aF (oK U o p) <| fe U h0 ns) s= .ok u s1 from h);obtain⟨a1,a2,rfl⟩:=Pc h1;rw[if_neg ak] at h2;obtain⟨p,_,h3⟩:=bu h2;obtain⟨_,h4⟩:=cX h3;exact U7 hm h4
theorem Ly{o:Option ae}{p:ae}(hm:s.mark=0)(h1:n<s.nx)(h2:n<top)(h3:s.h.get n=some p)(h4:p.du=false):bM n o s= .ok () ⟨s.h.put n o,s.nx,s.mark,s.rd,s.wr⟩:=by rw[PI h1 h2 h3 h4,if_neg ak]
structure Mb (K:Cb) (s:AS) (L df c1 c2:Nat) (v1 v2:AV):Prop where
 mark:s.mark=0
 nx:s.nx<=top
 lt:L<s.nx/\df<s.nx/\c1<s.nx/\c2<s.nx
 ne:L≠df/\L≠c1/\L≠c2/\df≠c1/\df≠c2/\c1≠c2
 loop:∃t,s.h.get L=some (.loop .ready none K.fn t K.nt K.ps K.a K.b df)/\t.get K.s1=some (.ptr<|some (c1,0))/\t.get K.s2=some (.ptr<|some (c2,0))
 df:s.h.get df=some .defs
 b1:∃o,s.h.get c1=some o/\Af o=some v1
 b2:∃o,s.h.get c2=some o/\Af o=some v2
def okB(v:AV):Prop:=v.hi=true/\v.cj=true
noncomputable def MD(K:Cb)(s:AS)(L df c1 c2:Nat)(p:fE):AS:=⟨(((s.h.put L<|some<|K.loop p.bS c1 c2 df).put df<|some .defs).put c1<|some<|eO p.v1).put c2<|some<|eO p.v2,s.nx,s.mark,s.rd,s.wr⟩
theorem Pq{F:Nat->Option (List AV)}{sp:Sp}{val:AV->AV->AV->Option fE}(h:sp g=some (rB K val U ns h0)){x v1 v2:AV}{L:Nat}{p:fE}(hx:x.hi=true)(hk:qg U h0 ns s=true)(I:Mb K s L df c1 c2 v1 v2)(hv:val x v1 v2=some p)(o1:okB v1)(o2:okB v2)(o3:okB p.v1)(o4:okB p.v2):
 bg P sp F (n+1) (.fn g) [x,.yield L] s= .ok (.bool p.ret) (MD K s L df c1 c2 p):=by
 show j0 P sp g (bg P sp F n) [x,.yield L] s=_;rw[tX h];show(aF x.hi <| (fe U h0 ns).bind fun _=>Ib K val x L) s=_;have hc:=vI hk;rw[U7 I.mark hc] at hc;rw[hx,dz,M.bN hc];obtain⟨t,l1,l2,l3⟩:=I.loop;obtain⟨q1,q2,q3⟩:=I.b1;obtain⟨r1,r2,r3⟩:=I.b2;obtain⟨n1,n2,n3,n4,n5,n6⟩:=I.ne;obtain⟨t1,t2,t3,t4⟩:=I.lt;have rd:∀(m:Nat) (o:ae),m<s.nx->s.h.get m=some o->bw m s= .ok o s:=fun m o hm ho=>by have:=lW ((blt_eq _ _).mpr hm) ho;rw[aie I.mark] at this;exact this
 have tt:=I.nx;obtain⟨tz1,zz1,e1,_⟩:=Gy q3;obtain⟨tz2,zz2,e2,_⟩:=Gy r3;unfold Ib;rw[M.bN<|rd _ _ t1 l1];rw[show Lx (.loop .ready none K.fn t K.nt K.ps K.a K.b df)=some ⟨K.fn,t,K.nt,K.ps,K.a,K.b,df⟩ from rfl,bW];rw[D3 (show K.fn=K.fn/\K.nt=K.nt/\K.ps=K.ps/\K.a=K.a/\K.b=K.b from⟨rfl,rfl,rfl,rfl,rfl⟩)];simp only;rw[l2,l3,show ET (some<|.ptr<|some (c1,0))=some c1 from rfl,show ET (some<|.ptr<|some (c2,0))=some c2 from rfl,bW,bW,D3 ⟨n1,n2,n3,n4,n5,n6⟩,M.bN<|rd _ _ t2 I.df,D3 rfl,M.bN<|rd _ _ t3 q2,M.bN<|rd _ _ t4 r2,q3,r3,bW,bW,hv,bW,D3 ⟨o1.1,o2.1,o3.1,o4.1,o3.2,o4.2,o1.2,o2.2⟩];have g1:∀(h:Tr ae) (m k:Nat) (o:Option ae) (p:ae),m<top->k<top->m≠k->h.get k=some p->(h.put m o).get k=some p:=fun h m k o p hm hk cz e=>by rw[Tr.dt _ _ _ _ hm hk,if_neg<|Ne.symm cz];exact e
 rw[M.bN<|Ly I.mark t1 ak l1 rfl];rw[M.bN<|Ly (s:=⟨s.h.put L<|some<|K.loop p.bS c1 c2 df,s.nx,s.mark,s.rd,s.wr⟩) I.mark t2 ak (g1 _ _ _ _ _ ak ak n1 I.df) rfl];rw[M.bN<|Ly (s:=⟨(s.h.put L<|some<|K.loop p.bS c1 c2 df).put df<|some .defs,s.nx,s.mark,s.rd,s.wr⟩) I.mark t3 ak (g1 _ _ _ _ _ ak ak n4<|g1 _ _ _ _ _ ak ak n2 q2) (by rw[e1];rfl)];rw[M.bN<|Ly (s:=⟨((s.h.put L<|some<|K.loop p.bS c1 c2 df).put df<|some .defs).put c1<|some<|eO p.v1,s.nx,s.mark,s.rd,s.wr⟩) I.mark t4 ak (g1 _ _ _ _ _ ak ak n6<|g1 _ _ _ _ _ ak ak n5<|g1 _ _ _ _ _ ak ak n3 r2) (by rw[e2];rfl)];rfl
theorem W0{X:TX}{kn:List<|Nat×Option ae}{L L':bU}{fn:Func}{body:Code}(hP:bB P)(fD:fH<=U)(dI:U+4<=top)(iZ:K.s1<top)(im:K.s2<top)(mZ:K.s1≠K.s2)(dE:∀n o,n<top->h0.get n=some o->n∈ns)(eh:∀n∈ns,n<U)(iA:∀n o,(n,some o)∈kn->h0.get n=some o)(iB:∀p∈kn,p.1<top){val:AV->AV->AV->Option fE}(h:dX X U P<|dv U ns h0 L)(h':dX X U P<|dv U ns h0 L')(ch:P.funcs[g]? =some fn)(cw:fn.body=some body)(dD:(fn.name == "runtime.NumGoroutine")=false)(eK:∀x v1 v2 p,val x v1 v2=some p->max fn.ntmps 2<=top/\∀B:aJ,qh X P U ns h0 L' B->
 av P B (U+4) (su K U P fn.results.toList p) ⟨g,dZ [x,.yield U],max fn.ntmps 2,[.code body],[],none⟩ ⟨fL<|kn++bO (KD K U v1 v2),U+4,0,[],[]⟩):dX X U P<|dv U ns h0<|(g,.raw<|rB K val)::L:=by
 refine(show dX X U P (pe (dv U ns h0 L) g<|rB K val U ns h0) from h.mK (fun SI _ args=>SH.rB _ _ _ _ _ SI args) fun B hB hT SI hc hl args x s s1 ρ w vs fi r hg hf hm hv=>?_);refine ae4 hP ch cw dD fD dI iZ im mZ dE eh iA iB (fun x v1 v2 p e=>?_) r hg hm hv;obtain⟨q1,q2⟩:=eK x v1 v2 p e;exact⟨q1,fun B' kP kR=>q2 B'<|rj hP h' (kP.trans hB)<|kR.trans hT⟩
theorem adM{p:Option Code}(iZ:K.s1<top)(im:K.s2<top)(mZ:K.s1≠K.s2)(e1:r c1=c1)(e2:r c2=c2)(e3:r df=df):sk r (K.loop p c1 c2 df)<|K.loop p c1 c2 df:=by
 intro ρ N o h;have gt:(aP [(K.s1,AV.ptr<|some (c1,0)),(K.s2,.ptr<|some (c2,0))]).get K.s1=some (.ptr<|some (c1,0))/\(aP [(K.s1,AV.ptr<|some (c1,0)),(K.s2,.ptr<|some (c2,0))]).get K.s2=some (.ptr<|some (c2,0)):=by
  constructor
  ·show(((Tr.nil:Tr AV).put K.s2 _).put K.s1 _).get K.s1=_;rw[Tr.lV _ _ _ _ iZ,if_pos rfl]
  ·show(((Tr.nil:Tr AV).put K.s2 _).put K.s1 _).get K.s2=_;rw[Tr.lV _ _ _ _ iZ,if_neg fun e=>mZ e.symm,Tr.lV _ _ _ _ im,if_pos rfl]
 exact Pp iZ im gt.1 gt.2 (fun x e=>by rw[e1];exact e) (fun x e=>by rw[e2];exact e) (fun x e=>by rw[e3];exact e) h
theorem VX{v:AV}(h:okB v)(hr:∀k,top<=k->r k=k):sk r (eO v)<|eO v:=by intro ρ N o k;exact G0 (xw v) h.1 h.2 (fun m x hm e=>by rw[hr m hm];exact e) k
theorem bz.yield(e:r n=n):bz r (.yield n)<|.yield n:=by intro ρ v h;simp only[VR] at h ⊢;obtain⟨b,N,h1,h2⟩:=h;exact⟨b,N,by rw[e];exact h1,h2⟩
theorem adN:sk r .defs .defs:=fun ρ N o k=>k
end Go.Rn
namespace Go.Rn
open Go.RowKit
variable {U g:Nat} {ns:List Nat} {h0:Tr ae} {P:Program} {ρ:aw} {s:AS} {kn:List<|Nat×Option ae} {fn:Func} {body:Code}
def jf(d s:List<|Int×Int):List<|Int×Int:=s.foldl (fun d p=>gD d p.1 p.2) d
theorem VY:∀{a b:List<|Int×Int},dh a=dh b->a=b
 |[],[],_=>rfl
 |[],_::_,h=>by cases h
 |_::_,[],h=>by cases h
 |(x,y)::a,(z,u)::b,h=>by have h:(AV.int .i64 x,AV.int .i64 y)::dh a=(.int .i64 z,.int .i64 u)::dh b:=h;simp only[List.cons.injEq,Prod.mk.injEq,AV.int.injEq,true_and] at h;rw[h.1.1,h.1.2,VY h.2]
open Classical in
noncomputable def zX(o:ae):Option<|List<|Int×Int:=if h:∃m,o=bL m then some h.choose else none
theorem TI{o:ae}{m:List<|Int×Int}(h:zX o=some m):o=bL m:=by
 unfold zX at h;split at h
 ·rename_i q;injection h with h;rw[←h];exact q.choose_spec
 ·cases h
theorem TJ(m:List<|Int×Int):zX (bL m)=some m:=by
 unfold zX;have q:∃m',bL m=bL m':=⟨m,rfl⟩;rw[dif_pos q];have e:=q.choose_spec;have e:ae.lF (dh m)= .lF (dh q.choose):=e;injection e with e
 exact congrArg some (VY e).symm
noncomputable def w6(U:Nat)(ns:List Nat)(h0:Tr ae):aO->List AV->M AV:=fun _ args=>match args with
 |[.map (some a),.map (some b)]=>(fe U h0 ns).bind fun _=>l9 (a≠b) <| (bw a).bind fun o1=>(bw b).bind fun o2=>
  aC (zX o1) fun m1=>aC (zX o2) fun m2=>l9 ((m1.map (·.1)).Nodup/\(m2.map (·.1)).Nodup) <|
  (bM a<|some<|bL<|jf m1 m2).bind fun _=>(bM b<|some<|bL m2).bind fun _=>M.pure<|.tuple []
 |_=>fail
theorem SH.w6(U:Nat)(ns:List Nat)(h0:Tr ae)(SI:aO)(args:List AV):SH<|w6 U ns h0 SI args:=by
 unfold Rn.w6;split
 ·refine SH.bind (SH.fe U h0 ns) fun _=>SH.l9 <| SH.bind (SH.bw _) fun _=>SH.bind (SH.bw _) fun _=>SH.aC fun _ _=>SH.aC fun _ _=>SH.l9 <| SH.bind (SH.bM _ _) fun _=>SH.bind (SH.bM _ _) fun _=>SH.pure _
 ·exact SH.fail
def Q8(U:Nat)(P:Program)(rs:List ResultVar)(m1 m2:List<|Int×Int):=Fin P rs fun y s'=>y= .tuple []/\s'.h.get U=some (bL<|jf m1 m2)/\s'.h.get (U+1)=some (bL m2)
theorem xG{σ:aw}{N:Nat}{o':Obj}{m:List<|Int×Int}(h:OR ρ N (bL m) o'):OR σ N (bL m) o':=by
 obtain⟨l,bj,rfl,h1,h2,l',h3,h4⟩:=h;refine⟨l,bj,rfl,h1,h2,l',h3,?_⟩;have:∀(m:List<|Int×Int) (l:List MapEntry),dW ρ (dh m) l->dW σ (dh m) l:=by
  intro m;induction m with
  |nil=>intro l h;simpa only[dh,List.map_nil,dW] using h
  |cons p m ih=>intro l h;have h:dW ρ ((.int .i64 p.1,.int .i64 p.2)::dh m) l:=h;show dW σ ((.int .i64 p.1,.int .i64 p.2)::dh m) l;simp only[dW,VR] at h ⊢;obtain⟨e,l',h1,h2,h3,h4⟩:=h;exact⟨e,l',h1,h2,h3,ih l' h4⟩
 exact this m l' h4
theorem ae5{B:aJ}{f:Nat}{w:World}{s1:AS}(hP:bB P)(ch:P.funcs[f]? =some fn)(cw:fn.body=some body)(dD:(fn.name == "runtime.NumGoroutine")=false)(fD:fH<=U)(dI:U+2<=top)(dE:∀n o,n<top->h0.get n=some o->n∈ns)(eh:∀n∈ns,n<U)(iA:∀n o,(n,some o)∈kn->h0.get n=some o)(iB:∀p∈kn,p.1<top)(eK:∀m1 m2:List<|Int×Int,(m1.map (·.1)).Nodup->(m2.map (·.1)).Nodup->max fn.ntmps 2<=top/\∀B':aJ,B'.F=B.F->B'.inv=B.inv->
 av P B' (U+2) (Q8 U P fn.results.toList m1 m2) ⟨f,dZ [.map<|some U,.map<|some<|U+1],max fn.ntmps 2,[.code body],[],none⟩ ⟨fL<|kn++bO [(U,bL m1),(U+1,bL m2)],U+2,0,[],[]⟩){SI:aO}{args:List AV}{x:AV}{vs:Array Value}(r:Rel B ρ s.h w)(hg:gk ρ)(h:w6 U ns h0 SI args s= .ok x s1)(hv:az ρ args vs.toList):jo P ((callFunc f vs).run P w)<|kg B ρ s s1 w x:=by
 unfold w6 at h;split at h
 ·rename_i n1 n2;obtain⟨u,s2,h2,h3⟩:=M.aR h;obtain⟨a1,a2,a3⟩:=tB h2;obtain⟨cz,h3⟩:=DR h3;obtain⟨o1,s3,k1,h3⟩:=M.aR h3;obtain⟨o2,s4,k2,h3⟩:=M.aR h3;obtain⟨m1,ME,h3⟩:=bu h3;obtain⟨m2,cW,h3⟩:=bu h3;obtain⟨⟨nd1,nd2⟩,h3⟩:=DR h3;obtain⟨u1,t1,w1,h3⟩:=M.aR h3;obtain⟨u2,t2,w2,h3⟩:=M.aR h3;obtain⟨rfl,rfl⟩:=bH h3;obtain⟨r1,r2,r3,r4⟩:=fY k1;obtain⟨r5,r6,r7,r8⟩:=fY k2;obtain⟨x1,x2,_,x4,x5⟩:=jy w1;obtain⟨y1,y2,_,y4,y5⟩:=jy w2;rw[TI ME,a1] at r2;rw[TI cW,r3,a1] at r6;let V:Vw:=[(U,n1,bL m1),(U+1,n2,bL m2)];have mem:∀q∈V,q=(U,n1,bL m1)\/q=(U+1,n2,bL m2):=fun q hq=>by simpa[V] using hq
  have e0:∀gJ:aw,eL U gJ V U=gJ n1:=fun gJ=>by
   unfold eL;rw[if_neg ak,if_neg ak];have:gj V U=some n1:=by simp[gj,V]
   rw[this]
  have e1:∀gJ:aw,eL U gJ V (U+1)=gJ n2:=fun gJ=>by
   unfold eL;rw[if_neg ak,if_neg ak];have:gj V (U+1)=some n2:=by simp[gj,V]
   rw[this]
  have hi:iM ρ<|eL U ρ V:=fun m x hm e=>by rw[xO ak hm];exact e
  have hV:zg U ρ s.h V:=by
   refine⟨fun q hq=>?_,fun q hq q' dR e=>?_,fun q hq q' dR e=>?_,fun q hq=>?_⟩
   ·rcases mem q hq with rfl|rfl
    ·exact⟨Nat.le_refl _,by omega,x2⟩
    ·exact⟨by omega,by omega,y2⟩
   ·rcases mem q hq with rfl|rfl<;>rcases mem q' dR with rfl|rfl<;>first|rfl|(simp only at e;omega)
   ·rcases mem q hq with rfl|rfl<;>rcases mem q' dR with rfl|rfl<;>first|rfl|(simp only at e;omega)
   ·rcases mem q hq with rfl|rfl
    ·exact⟨_,r2,.inl ⟨rfl,rfl,fun N o' hO=>xG hO⟩⟩
    ·exact⟨_,r6,.inl ⟨rfl,rfl,fun N o' hO=>xG hO⟩⟩
  obtain⟨_,cV,T⟩:=r.tk;have T:CH B ρ s.h w cV:=T;have mY:=HD ak r T dE eh iA iB (fun n hn=>by obtain⟨_,o,p,h⟩:=a3 n hn;exact⟨o,p,h⟩) hV;obtain⟨d1,d2⟩:=eK m1 m2 nd1 nd2;have fi:bE (⟨fL<|kn++bO [(U,bL m1),(U+1,bL m2)],U+2,0,[],[]⟩:AS):=⟨Nat.zero_le _,dI⟩;have jJ:az (eL U ρ V) [.map<|some U,.map<|some<|U+1] vs.toList:=by simp only[az,VR] at hv ⊢;obtain⟨y0,ys,q1,⟨b',N',q2,RP⟩,y3,FP,q3,⟨b'',N'',q4,q5⟩,q6⟩:=hv;exact⟨y0,ys,q1,⟨b',N',(e0 ρ).trans q2,RP⟩,y3,FP,q3,⟨b'',N'',(e1 ρ).trans q4,q5⟩,q6⟩
  have bI:=av.Em (B:=sa B ρ w<|wH ρ cV V) (s:=⟨fL<|kn++bO [(U,bL m1),(U+1,bL m2)],U+2,0,[],[]⟩) (args:=[.map<|some U,.map<|some<|U+1]) (vs:=vs) hP ch cw d1 (d2 _ rfl rfl) fi mY (fun g hZ=>by
   obtain⟨N,e⟩:=hg g hZ;exact⟨N,by rw[BN<|Nat.lt_of_lt_of_le hZ fD];exact e⟩) (fun m hm jt=>by
   have hm:U+2<=m:=hm;exact Gx ak jt fun q hq=>by rcases mem q hq with rfl|rfl<;>(show _≠m;simp only;omega)) jJ
  rw[tC ch cw dD];show Calls P f vs w _;refine bI.mono fun e w'=>?_;rintro ⟨zi,x',s7,rfl,⟨rfl,j1,j2⟩,_,σ,i0,zj,i1,i2,i3⟩;have sV:∀q∈V,σ q.1=ρ q.2.1:=fun q hq=>by
   rcases mem q hq with rfl|rfl
   ·exact(i0 U ak ak).trans<|e0 ρ
   ·exact(i0 (U+1) ak ak).trans<|e1 ρ
  have oi:iM σ<|cL ρ σ:=fun k x hk e=>by unfold cL;rw[if_pos hk];exact e
  have V0:(U,n1,bL m1)∈V:=by simp[V]
  have V1:(U+1,n2,bL m2)∈V:=by simp[V]
  obtain⟨b1,b2,b3,b4⟩:=Hf (a:=s.nx) (L2:=[(n1,bL<|jf m1 m2),(n2,bL m2)]) (h':=s1.h) r T hV i2 i3 sV (fun m z hm q=>zj m z hm<|hi m z hm q) (fun n q hm=>by
   rcases List.mem_cons.1 hm with hm|hm
   ·cases hm;exact⟨_,V0,rfl,_,j1,.inl ⟨rfl,rfl,fun N o' hO=>xG hO⟩⟩
   rcases List.mem_cons.1 hm with hm|hm
   ·cases hm;exact⟨_,V1,rfl,_,j2,.inl ⟨rfl,rfl,fun N o' hO=>xG hO⟩⟩
   cases hm) (fun q hq _=>by
   rcases mem q hq with rfl|rfl
   ·exact⟨_,j1,rfl⟩
   ·exact⟨_,j2,rfl⟩) (fun k hk=>by
   have IK:s1.h=(s.h.put n1<|some<|bL<|jf m1 m2).put n2 (some<|bL m2):=by rw[y4,x4,r7,r3,a1]
   rw[IK,Tr.dt _ _ _ _ y2 hk,Tr.dt _ _ _ _ x2 hk];by_cases q2:k=n2
   ·subst q2;exact .inl ⟨_,by simp,if_pos rfl⟩
   rw[if_neg q2];by_cases q1:k=n1
   ·subst q1;exact .inl ⟨_,by simp,if_pos rfl⟩
   rw[if_neg q1];exact .inr ⟨fun q hq=>by rcases mem q hq with rfl|rfl<;>(intro e;exact absurd e.symm<|by assumption),rfl⟩)
  refine⟨zi,rfl,cL ρ σ,?_,AV.oY oi rfl i1,b3,b4⟩;have cJ:s1.nx=s.nx:=by rw[y5,x5,r8,r4,a2]
  rw[cJ];exact b1
 ·cases h
theorem agX{X:TX}{L L':bU}(hP:bB P)(fD:fH<=U)(dI:U+2<=top)(dE:∀n o,n<top->h0.get n=some o->n∈ns)(eh:∀n∈ns,n<U)(iA:∀n o,(n,some o)∈kn->h0.get n=some o)(iB:∀p∈kn,p.1<top)(h:dX X U P<|dv U ns h0 L)(h':dX X U P<|dv U ns h0 L')(ch:P.funcs[g]? =some fn)(cw:fn.body=some body)(dD:(fn.name == "runtime.NumGoroutine")=false)(eK:∀m1 m2:List<|Int×Int,(m1.map (·.1)).Nodup->(m2.map (·.1)).Nodup->max fn.ntmps 2<=top/\∀B:aJ,qh X P U ns h0 L' B->
 av P B (U+2) (Q8 U P fn.results.toList m1 m2) ⟨g,dZ [.map<|some U,.map<|some<|U+1],max fn.ntmps 2,[.code body],[],none⟩ ⟨fL<|kn++bO [(U,bL m1),(U+1,bL m2)],U+2,0,[],[]⟩):dX X U P<|dv U ns h0<|(g,.raw w6)::L:=by
 refine(show dX X U P (pe (dv U ns h0 L) g<|w6 U ns h0) from h.mK (fun SI _ args=>SH.w6 _ _ _ SI args) fun B hB hT SI hc hl args x s s1 ρ w vs fi r hg hf hm hv=>?_);refine ae5 hP ch cw dD fD dI dE eh iA iB (fun m1 m2 n1 n2=>?_) r hg hm hv;obtain⟨q1,q2⟩:=eK m1 m2 n1 n2;exact⟨q1,fun B' kP kR=>q2 B'<|rj hP h' (kP.trans hB)<|kR.trans hT⟩
theorem ae6{F:Nat->Option (List AV)}{sp:Sp}{n:Nat}(h:sp g=some (w6 U ns h0)){a b:Nat}{m1 m2:List<|Int×Int}(hk:qg U h0 ns s=true)(Iu:a≠b)(ha:Nat.blt a (dK U h0 ns s).nx=true)(hb:Nat.blt b (dK U h0 ns s).nx=true)(ay:Nat.blt a top=true)(ZC:Nat.blt b top=true)(g1:(dK U h0 ns s).h.get a=some (bL m1))(g2:(dK U h0 ns s).h.get b=some (bL m2))(n1:(m1.map (·.1)).Nodup)(n2:(m2.map (·.1)).Nodup):
 bg P sp F (n+1) (.fn g) [.map<|some a,.map<|some b] s= .ok (.tuple []) (fB b (some<|bL m2)<|fB a (some<|bL<|jf m1 m2)<|bc b<|bc a<|dK U h0 ns s):=by
 show j0 P sp g (bg P sp F n) [.map<|some a,.map<|some b] s=_;rw[tX h];show((fe U h0 ns).bind fun _=>l9 (a≠b) <| (bw a).bind fun o1=>(bw b).bind fun o2=>
  aC (zX o1) fun m1=>aC (zX o2) fun m2=>l9 ((m1.map (·.1)).Nodup/\(m2.map (·.1)).Nodup) <|
  (bM a<|some<|bL<|jf m1 m2).bind fun _=>(bM b<|some<|bL m2).bind fun _=>M.pure<|AV.tuple []) s=_
 rw[M.bN<|vI hk,D3 Iu,M.bN<|lW ha g1];generalize dK U h0 ns s=z at*;have iO:Nat.blt b (bc a z).nx=true:=by rw[(fN a z).2.1];exact hb
 have AR:(bc a z).h.get b=some (bL m2):=by rw[(fN a z).1];exact g2
 rw[M.bN<|lW iO AR,TJ,bW,TJ,bW,D3 ⟨n1,n2⟩];have ha2:Nat.blt a (bc b<|bc a z).nx=true:=by rw[(fN b _).2.1,(fN a z).2.1];exact ha
 have ga2:(bc b<|bc a z).h.get a=some (bL m1):=by rw[(fN b _).1,(fN a z).1];exact g1
 rw[M.bN<|xN ha2 ga2 rfl ay];have wn:∀(n:Nat) (o:Option ae) (s:AS),(fB n o s).nx=s.nx/\(fB n o s).h=s.h.put n o:=fun n o s=>by unfold fB;cases Nat.blt n s.mark<;>exact⟨rfl,rfl⟩
 have hb3:Nat.blt b (fB a (some<|bL<|jf m1 m2)<|bc b<|bc a z).nx=true:=by rw[(wn _ _ _).1,(fN b _).2.1];exact iO
 have gb3:(fB a (some<|bL<|jf m1 m2)<|bc b<|bc a z).h.get b=some (bL m2):=by rw[(wn _ _ _).2,Tr.dt _ _ _ _ ((blt_eq _ _).mp ay)<|(blt_eq _ _).mp ZC,if_neg<|Ne.symm Iu,(fN b _).1];exact AR
 rw[M.bN<|xN hb3 gb3 rfl ZC];rfl
end Go.Rn
namespace Go.Rn
open Go.RowKit
variable {ρ σ:aw} {o':Obj} {m' b a:List<|Int×Int} {N:Nat}
abbrev fZ(m:List<|Int×Int):Prop:=(m.map (·.1)).Nodup
def jT:List (Int×Int)->Int->Option Int
 |[],_=>none
 |p::l,k=>if p.1=k then some p.2 else jT l k
theorem ae7(m:List<|Int×Int)(k v j:Int):jT (gD m k v) j=if k=j then some v else jT m j:=by
 induction m with
 |nil=>simp[gD,jT]
 |cons p l ih=>
  unfold gD;by_cases e:p.1=k
  ·rw[if_pos e];by_cases q:k=j
   ·simp[jT,q]
   ·simp[jT,q,e]
  ·rw[if_neg e];by_cases q:p.1=j
   ·have:k≠j:=fun h=>e<|q.trans h.symm;simp[jT,q,this]
   ·simp only[jT,if_neg q];exact ih
theorem adO(m:List<|Int×Int)(k v:Int):∀j,j∈(gD m k v).map (·.1)↔j=k\/j∈m.map (·.1):=by
 intro j;induction m with
 |nil=>simp[gD]
 |cons p l ih=>
  unfold gD;by_cases e:p.1=k
  ·rw[if_pos e];simp only[List.map_cons,List.mem_cons];constructor
   ·rintro (h|h)
    ·exact .inl h
    ·exact .inr<|.inr h
   ·rintro (h|h|h)
    ·exact .inl h
    ·exact .inl<|h.trans e
    ·exact .inr h
  ·rw[if_neg e];simp only[List.map_cons,List.mem_cons];rw[ih];constructor
   ·rintro (h|h|h)
    ·exact .inr<|.inl h
    ·exact .inl h
    ·exact .inr<|.inr h
   ·rintro (h|h|h)
    ·exact .inr<|.inl h
    ·exact .inl h
    ·exact .inr<|.inr h
theorem fZ.set{m:List<|Int×Int}(h:fZ m)(k v:Int):fZ<|gD m k v:=by
 induction m with
 |nil=>simp[fZ,gD]
 |cons p l ih=>
  have h:(p.1::l.map (·.1)).Nodup:=h;obtain⟨h1,h2⟩:=List.nodup_cons.1 h;unfold gD;by_cases e:p.1=k
  ·rw[if_pos e];show(k::l.map (·.1)).Nodup;rw[←e];exact h
  ·rw[if_neg e];show(p.1::(gD l k v).map (·.1)).Nodup;refine List.nodup_cons.2 ⟨fun q=>?_,ih h2⟩;rcases(adO l k v p.1).1 q with q|q
   ·exact e q
   ·exact h1 q
theorem BO{m:List<|Int×Int}(h:fZ m)(k v:Int):(k,v)∈m↔jT m k=some v:=by
 induction m with
 |nil=>simp[jT]
 |cons p l ih=>
  have h:(p.1::l.map (·.1)).Nodup:=h;obtain⟨h1,h2⟩:=List.nodup_cons.1 h;unfold jT;by_cases e:p.1=k
  ·rw[if_pos e,List.mem_cons];constructor
   ·rintro (q|q)
    ·rw[←q]
    ·exact absurd (List.mem_map.2 ⟨_,q,rfl⟩) (by rw[←e] at*;exact h1)
   ·intro q;injection q with q
    obtain⟨a,b⟩:=p;simp only at e q;rw[e,q];exact .inl rfl
  ·rw[if_neg e,List.mem_cons, ←ih h2];constructor
   ·rintro (q|q)
    ·rw[←q] at e;exact absurd rfl e
    ·exact q
   ·exact .inr
theorem fZ.nodup{m:List<|Int×Int}(h:fZ m):m.Nodup:=by
 induction m with
 |nil=>exact List.nodup_nil
 |cons p l ih=>have h:(p.1::l.map (·.1)).Nodup:=h;obtain⟨h1,h2⟩:=List.nodup_cons.1 h;exact List.nodup_cons.2 ⟨fun q=>h1<|List.mem_map.2 ⟨_,q,rfl⟩,ih h2⟩
theorem adP(ha:fZ a)(hb:fZ b)(h:∀k,jT a k=jT b k):a.Perm b:=(List.perm_ext_iff_of_nodup ha.nodup hb.nodup).2 fun⟨k,v⟩=>by rw[BO ha,BO hb,h]
theorem adQ(ha:fZ a)(h:a.Perm b)(k:Int):jT a k=jT b k:=by
 have hb:fZ b:=(h.map (·.1)).nodup_iff.1 ha;cases e:jT a k with
 |some v=>exact((BO hb k v).1<|h.mem_iff.1<|(BO ha k v).2 e).symm
 |none=>
  cases e2:jT b k with
  |none=>rfl
  |some v=>have:=(BO ha k v).1<|h.mem_iff.2<|(BO hb k v).2 e2;rw[e] at this;cases this
theorem fZ.merge:∀{s d:List<|Int×Int},fZ d->fZ (jf d s)
 |[],d,h=>h
 |p::s,d,h=>fZ.merge (s:=s)<|h.set p.1 p.2
theorem Og:∀(s d:List<|Int×Int) (k:Int),fZ s->jT (jf d s) k=match jT s k with|some v=>some v|none=>jT d k
 |[],d,k,_=>rfl
 |p::s,d,k,h=>by
  have h:(p.1::s.map (·.1)).Nodup:=h;obtain⟨h1,h2⟩:=List.nodup_cons.1 h;show jT (jf (gD d p.1 p.2) s) k=_;have oc:jT (p::s) k=if p.1=k then some p.2 else jT s k:=rfl
  rw[Og s _ k h2,ae7,oc];by_cases e:p.1=k
  ·rw[if_pos e,if_pos e];have:jT s k=none:=by
    cases q:jT s k with
    |none=>rfl
    |some v=>exact absurd (List.mem_map.2 ⟨_,(BO h2 k v).2 q,rfl⟩) (by rw[←e];exact h1)
   rw[this]
  ·rw[if_neg e,if_neg e]
theorem abL{d s s':List<|Int×Int}(hd:fZ d)(hs:fZ s)(h:s.Perm s'):(jf d s).Perm<|jf d s':=by have IH:fZ s':=(h.map (·.1)).nodup_iff.1 hs;refine adP hd.merge hd.merge fun k=>?_;rw[Og s d k hs,Og s' d k IH,adQ hs h]
theorem abM(d s:List<|Int×Int)(p:Int×Int):jf d (s++[p])=gD (jf d s) p.1 p.2:=by unfold jf;rw[List.foldl_append];rfl
theorem Oh:∀{l:List<|Int×Int} {x:AV×AV} {r:List<|AV×AV},(x,r)∈ym (dh l)->∃(p:Int×Int) (l':List<|Int×Int),x=(.int .i64 p.1,.int .i64 p.2)/\r=dh l'/\l.Perm (p::l')
 |[],x,r,h=>by cases h
 |a::l,x,r,h=>by
  have h:(x,r)∈(((AV.int .i64 a.1,AV.int .i64 a.2),dh l)::(ym<|dh l).map fun(y,r)=>(y,(AV.int .i64 a.1,AV.int .i64 a.2)::r)):=h;rcases List.mem_cons.1 h with h|h
  ·injection h with h1 h2
   exact⟨a,l,h1,h2,List.Perm.refl _⟩
  ·obtain⟨⟨y,r'⟩,hm,e⟩:=List.mem_map.1 h;simp only[Prod.mk.injEq] at e;obtain⟨p,l',h1,h2,h3⟩:=Oh hm;refine⟨p,a::l',by rw[←e.1];exact h1,by rw[←e.2,h2];rfl,?_⟩;exact(h3.cons a).trans<|List.Perm.swap p a l'
theorem adR{m:List<|Int×Int}(h:m.Perm m'):∀{l:List MapEntry},dW ρ (dh m) l->∃l',l.Perm l'/\dW ρ (dh m') l':=by
 induction h with
 |nil=>intro l h;exact⟨l,List.Perm.refl _,h⟩
 |cons x _ ih=>intro l h;have h:dW ρ ((.int .i64 x.1,.int .i64 x.2)::dh _) l:=h;simp only[dW] at h;obtain⟨e,es,rfl,h1,h2,h3⟩:=h;obtain⟨l',q1,q2⟩:=ih h3;exact⟨e::l',q1.cons e,by show dW ρ ((.int .i64 x.1,.int .i64 x.2)::dh _) _;simp only[dW];exact⟨e,l',rfl,h1,h2,q2⟩⟩
 |swap x y l0=>intro l h;have h:dW ρ ((.int .i64 y.1,.int .i64 y.2)::(.int .i64 x.1,.int .i64 x.2)::dh l0) l:=h;simp only[dW] at h;obtain⟨e,es,rfl,h1,h2,e',hJ,rfl,h3,h4,h5⟩:=h;exact⟨e'::e::hJ,List.Perm.swap _ _ _,by show dW ρ ((.int .i64 x.1,.int .i64 x.2)::(.int .i64 y.1,.int .i64 y.2)::dh l0) _;simp only[dW];exact⟨e',_,rfl,h3,h4,e,hJ,rfl,h1,h2,h5⟩⟩
 |trans _ _ ih1 ih2=>intro l h;obtain⟨l1,q1,q2⟩:=ih1 h;obtain⟨l2,q3,q4⟩:=ih2 q2;exact⟨l2,q1.trans q3,q4⟩
theorem acH{a b:Int}(h:a≠b):sameKey (.int .i64 a) (.int .i64 b)=some false/\sameKey (.int .i64 b) (.int .i64 a)=some false:=by
 rw[UW,UW];constructor
 ·rw[show(a == b)=false by simpa using h]
 ·rw[show(b == a)=false by simpa using fun e=>h e.symm]
theorem Uo{m:List<|Int×Int}(h:fZ m):lE<|dh m:=by
 unfold lE;induction m with
 |nil=>exact .nil
 |cons p l ih=>have h:(p.1::l.map (·.1)).Nodup:=h;obtain⟨h1,h2⟩:=List.nodup_cons.1 h;refine .cons (fun q hq=>?_)<|ih h2;obtain⟨z,hz,rfl⟩:=List.mem_map.1 hq;exact acH fun e=>h1 (by rw[e];exact List.mem_map.2 ⟨z,hz,rfl⟩)
theorem abN{m:List<|Int×Int}(hk:fZ m')(hp:m.Perm m')(h:OR ρ N (bL m) o'):OR σ N (bL m') o':=by have h:OR σ N (bL m) o':=xG h;obtain⟨l,bj,rfl,h1,h2,l',h3,h4⟩:=h;obtain⟨l2,q1,q2⟩:=adR hp h4;exact⟨l,bj,rfl,Uo hk,h2,l2,h3.trans q1,q2⟩
theorem adS{m:List<|Int×Int}(hk:fZ m)(h:OR ρ N (HV m) o'):OR σ N (bL m) o':=by obtain⟨l,h0,h1,h2⟩:∃l,o'= .map l m.length/\m.length=(dh m).length/\jX ρ (dh m) l.toList 0:=h;subst h0;have hb:=h2.WQ;rw[←h1] at hb;have:OR ρ N (bL m)<|.map l m.length:=⟨l,m.length,rfl,Uo hk,hb,l.toList,List.Perm.refl _,h2.eqs⟩;exact xG this
end Go.Rn
namespace Go.Rn
open Go.RowKit
variable {t:Tr AV} {s3:AS} {nt n fn:Nat} {v:AV} {aQ:AF} {b a:Code}
noncomputable section
def wa(l:Nat)(fr:AF):AF:=⟨fr.fn,fr.tmps,fr.nt,fr.todo,fr.defers,some l⟩
end
section
variable {P:Program} {SI:aO} {s s1:AS} {l:Nat}
theorem Eb{fr:AF}(h:(M.pure (br.go fr):M br) s= .ok (.go aQ) s1):aQ=fr/\s1=s:=by
 obtain⟨h1,h2⟩:=bH h;injection h1 with h1
 exact⟨h1,h2⟩
theorem adT{fr:AF}(h:jg P SI fr s= .ok (.go aQ) s1):aQ.round=fr.round/\(fr.round=none->aQ.defers=[]->fr.defers=[]/\jg P SI (wa l fr) s= .ok (.go<|wa l aQ) s1):=by
 obtain⟨f,t,nt,K,d,r⟩:=fr;cases K with
 |nil=>have h':(M.pure (br.leave ⟨f,t,nt,[],d,r⟩ none):M br) s= .ok (.go aQ) s1:=h;cases(bH h').1
 |cons it k=>
  have h':(vY P it).val SI f t nt d r k s= .ok (.go aQ) s1:=h;have goal:∀(X:oU),(vY P it).val=X->X SI f t nt d r k s= .ok (.go aQ) s1->(aQ.round=r/\(r=none->aQ.defers=[]->d=[]/\X SI f t nt d (some l) k s= .ok (.go<|wa l aQ) s1))->aQ.round=r/\(r=none->aQ.defers=[]->d=[]/\jg P SI (wa l ⟨f,t,nt,it::k,d,r⟩) s= .ok (.go<|wa l aQ) s1):=by rintro X hX _ ⟨h1,h2⟩;refine⟨h1,fun a b=>?_⟩;obtain⟨c,e⟩:=h2 a b;refine⟨c,?_⟩;show(vY P it).val SI f t nt d (some l) k s=_;rw[hX];exact e
  have pop:∀k',(M.pure (br.go ⟨f,t,nt,k',d,r⟩):M br) s= .ok (.go aQ) s1->aQ.round=r/\(r=none->aQ.defers=[]->d=[]/\(M.pure (br.go ⟨f,t,nt,k',d,some l⟩):M br) s= .ok (.go<|wa l aQ) s1):=by intro k' h;obtain⟨rfl,rfl⟩:=Eb h;exact⟨rfl,fun _ b=>⟨b,rfl⟩⟩
  cases it with
  |code c=>
   cases c with
   |skip=>exact goal qX rfl h'<|pop _ h'
   |label n=>exact goal qX rfl h'<|pop _ h'
   |seq a b=>exact goal (nS [.code a,.code b]) rfl h'<|pop _ h'
   |cond c a b=>refine goal (Ll c a b) rfl h' ?_;obtain⟨v,h1,h2⟩:=bu (show(aC (aK t c) fun v=>aC (xU v) fun v=>M.pure<|br.go ⟨f,t,nt,.code (@Bool.rec (fun _=>Code) b a v)::k,d,r⟩) s=_ from h');obtain⟨v',h3,h4⟩:=bu h2;obtain⟨q1,q2⟩:=pop _ h4;refine⟨q1,fun a' b'=>⟨(q2 a' b').1,?_⟩⟩;show(aC (aK t c) fun v=>aC (xU v) fun v=>M.pure<|br.go ⟨f,t,nt,.code (@Bool.rec (fun _=>Code) b a v)::k,d,some l⟩) s=_;rw[h1,bW,h3,bW];exact(q2 a' b').2
   |block i b=>exact goal (nS [.code b,.inBlock i]) rfl h'<|pop _ h'
   |loop b=>exact goal (nS [.code b,.inLoop b]) rfl h'<|pop _ h'
   |scope b=>exact goal (nS [.code b,.inScope b]) rfl h'<|pop _ h'
   |exit i=>
    refine goal (EJ i) rfl h' ?_;have h2:(match exitTo i k with
     |some k'=>M.pure (br.go ⟨f,t,nt,k',d,r⟩)
     |none=>M.pure<|br.leave ⟨f,t,nt,.code (.exit i)::k,d,r⟩<|some<|.exit i) s= .ok (.go aQ) s1:=h'
    cases e:exitTo i k with
    |none=>rw[e] at h2;cases(bH h2).1
    |some k'=>
     rw[e] at h2;obtain⟨q1,q2⟩:=pop _ h2;refine⟨q1,fun a' b'=>⟨(q2 a' b').1,?_⟩⟩;show(match exitTo i k with
      |some k'=>M.pure (br.go ⟨f,t,nt,k',d,some l⟩)
      |none=>M.pure<|br.leave ⟨f,t,nt,.code (.exit i)::k,d,some l⟩<|some<|.exit i) s=_
     rw[e];exact(q2 a' b').2
   |goto i=>
    refine goal (EK i) rfl h' ?_;have h2:(match gotoIn i k with
     |some k'=>M.pure (br.go ⟨f,t,nt,k',d,r⟩)
     |none=>M.pure<|br.leave ⟨f,t,nt,.code (.goto i)::k,d,r⟩<|some<|.goto i) s= .ok (.go aQ) s1:=h'
    cases e:gotoIn i k with
    |none=>rw[e] at h2;cases(bH h2).1
    |some k'=>
     rw[e] at h2;obtain⟨q1,q2⟩:=pop _ h2;refine⟨q1,fun a' b'=>⟨(q2 a' b').1,?_⟩⟩;show(match gotoIn i k with
      |some k'=>M.pure (br.go ⟨f,t,nt,k',d,some l⟩)
      |none=>M.pure<|br.leave ⟨f,t,nt,.code (.goto i)::k,d,some l⟩<|some<|.goto i) s=_
     rw[e];exact(q2 a' b').2
   |ret=>cases(bH (show(M.pure (br.leave ⟨f,t,nt,.code .ret::k,d,r⟩<|some .ret):M br) s= .ok (.go aQ) s1 from h')).1
   |region i ops dr=>
    cases dr with
    |false=>refine goal (J1 P ops) rfl h' ?_;obtain⟨t1,s2,h2,h3⟩:=M.aR (show((jl P SI nt ops ops.toList t).bind fun t=>M.pure<|br.go ⟨f,t,nt,k,d,r⟩) s= .ok (.go aQ) s1 from h');obtain⟨rfl,rfl⟩:=Eb h3;refine⟨rfl,fun a' b'=>⟨b',?_⟩⟩;show((jl P SI nt ops ops.toList t).bind fun t=>M.pure<|br.go ⟨f,t,nt,k,d,some l⟩) s=_;rw[M.bN h2];rfl
    |true=>refine goal (JG P ops) rfl h' ?_;obtain⟨t1,s2,h2,h3⟩:=M.aR (show((qD P SI nt ops t).bind fun t=>M.pure<|br.go ⟨f,t,nt,k,d,r⟩) s= .ok (.go aQ) s1 from h');obtain⟨rfl,rfl⟩:=Eb h3;refine⟨rfl,fun a' b'=>⟨b',?_⟩⟩;show((qD P SI nt ops t).bind fun t=>M.pure<|br.go ⟨f,t,nt,k,d,some l⟩) s=_;rw[M.bN h2];rfl
   |rangeFunc g ps a b=>
    have h2:vE g ps.toList a b SI f t nt d r k s= .ok (.go aQ) s1:=h';unfold vE at h2;cases r with
    |none=>obtain⟨df,s2,_,h3⟩:=M.aR h2;obtain⟨lo,s3,_,h3⟩:=M.aR h3;obtain⟨gv,_,h3⟩:=bu h3;obtain⟨y,s4,_,h3⟩:=M.aR h3;obtain⟨p,s5,_,h3⟩:=M.aR h3;obtain⟨rfl,rfl⟩:=Eb h3;exact⟨rfl,fun _ b'=>by cases b'⟩
    |some l0=>
     obtain⟨o,s2,_,h3⟩:=M.aR h2;split at h3
     ·obtain⟨lo,s3,_,h3⟩:=M.aR h3;obtain⟨gv,_,h3⟩:=bu h3;obtain⟨y,s4,_,h3⟩:=M.aR h3;obtain⟨p,s5,_,h3⟩:=M.aR h3;obtain⟨rfl,rfl⟩:=Eb h3;exact⟨rfl,fun a' _=>by cases a'⟩
     ·cases h3
   |refuse m=>cases h'
  |inBlock i=>exact goal qX rfl h'<|pop _ h'
  |inScope i=>exact goal qX rfl h'<|pop _ h'
  |inLoop b=>exact goal (nS [.code b,.inLoop b]) rfl h'<|pop _ h'
  |beginRound=>
   have h2:zT SI f t nt d r k s= .ok (.go aQ) s1:=h';unfold zT at h2;cases r with
   |none=>cases h2
   |some l0=>
    obtain⟨o,s2,_,h3⟩:=M.aR h2;split at h3
    ·obtain⟨_,s3,_,h4⟩:=M.aR h3;obtain⟨rfl,rfl⟩:=Eb h4;exact⟨rfl,fun a' _=>by cases a'⟩
    ·cases h3
  |_=>cases h'
theorem TK:∀{k:Nat} {fr aQ:AF} {s s1:AS},eg P SI k fr s= .ok (.go aQ) s1->aQ.round=fr.round/\(fr.round=none->aQ.defers=[]->fr.defers=[]/\eg P SI k (wa l fr) s= .ok (.go<|wa l aQ) s1)
 |0,fr,aQ,s,s1,h=>by cases h;exact⟨rfl,fun _ b=>⟨b,rfl⟩⟩
 |k+1,fr,aQ,s,s1,h=>by
  obtain⟨y,s2,h1,h2⟩:=M.aR (show((jg P SI fr).bind fun x=> @br.rec (fun _=>M br) (eg P SI k) (fun fr j=>M.pure<|br.leave fr j) x) s= .ok _ s1 from h);cases y with
  |leave qw j=>cases(bH (show(M.pure (br.leave qw j):M br) s2=_ from h2)).1
  |go qw=>have h2:eg P SI k qw s2= .ok (.go aQ) s1:=h2;obtain⟨a1,a2⟩:=TK h2;obtain⟨b1,b2⟩:=adT (l:=l) h1;refine⟨a1.trans b1,fun q1 q2=>?_⟩;obtain⟨c1,c2⟩:=a2 (b1.trans q1) q2;obtain⟨d1,d2⟩:=b2 q1 c1;exact⟨d1,(BK d2).trans c2⟩
def KF(P:Program)(SI:aO)(l:Nat)(R:AF->Option Code->AS->Prop)(fr:AF)(s:AS):Prop:=fr.round=none/\fr.defers=[]/\Ev P SI R (wa l fr) s
theorem Chunk.round{R:AF->Option Code->AS->Prop}:Chunk P SI<|KF P SI l R:=by rintro k fr aQ s s1 h ⟨h1,h2,h3⟩;obtain⟨a1,a2⟩:=TK (l:=l) h;obtain⟨b1,b2⟩:=a2 (a1.symm.trans h1) h2;exact⟨a1.symm.trans h1,b1,Chunk.ev k _ _ _ _ b2 h3⟩
end
section
variable {l:Nat}
theorem zG{E:Env}(hE:E.Ok)(uZ:E.fg=false){f:Nat}{K:List Item}{s:AS}{R:AF->Option Code->AS->Prop}{C:Ay}(hC:∀fr s p,C fr s p->KF E.P (bg E.P E.sp E.F n) l R fr s)(fuel:Nat)(p:Pl){T:Prop}(x:T)(h:T=wp E fuel n (.fr f nt K t s) p [] (fun _ _ _=>False) C:=by as_aux_lemma=>kernel_rfl):Ev E.P (bg E.P E.sp E.F n) R ⟨f,t,nt,K,[],some l⟩ s:=(D1 hE fuel n (.fr f nt K t s) p [] (fun _ _ _=>False) C (KF E.P (bg E.P E.sp E.F n) l R) Chunk.round (fun fr s j aQ jm s1 v s2 p q1 q2 q3=>q3.elim) hC (fun _ _ _ _ _ _ _ _ _ q=>by rw[uZ] at q;cases q) (fun _ _ _ _ _ _ _ _ _ _ _ q=>by rw[uZ] at q;cases q) (fun _ _ _ _ _ _ _ _ _ q=>by rw[uZ] at q;cases q)<|h▸x).2.2
noncomputable section
def zN(P:Program)(SI:aO)(l:Nat)(fr:AF)(s:AS):Option<|AV×AS:=
 match eg P SI 4 (wa l fr) s with
 | .ok (.leave _ j) s1=>(match endRound l j s1 with
  | .ok v s2=>some (v,s2)
  | .bad=>none)
 |_=>none
end
theorem DM{P:Program}{SI:aO}{fr:AF}{s:AS}(h1:fr.round=none)(h2:fr.defers=[])(h:zN P SI l fr s=some (v,s3)):KF P SI l (fun _ j s2=>endRound l j s2= .ok v s3) fr s:=by
 refine⟨h1,h2,?_⟩;unfold zN at h;split at h
 ·rename_i aQ j s1 e;split at h
  ·rename_i v2 s2 e2;injection h with h;injection h with h3 h4
   subst h3;subst h4;exact⟨4,aQ,j,s1,e,e2⟩
  ·cases h
 ·cases h
theorem DN{P:Program}{sp:Sp}{F:Nat->Option (List AV)}{args:List AV}{s s0:AS}{st:LoopState}{bS:Option Code}{d:Nat}{ps:List Tmp}(hg:getLoop l s= .ok (.loop st bS fn t nt ps a b d) s0)(hlen:(and (Nat.beq args.length ps.length)<|ps.all fun p=>Nat.blt p nt)=true)(H:Ev P (bg P sp F n) (fun _ j s2=>endRound l j s2= .ok v s3) ⟨fn,je ps args t,nt,[.code a,.beginRound,.code b],[],some l⟩ s0):bg P sp F (n+1) (.round l) args s= .ok v s3:=by obtain⟨k,aQ,j,s2,h1,h2⟩:=H;show xC P (bg P sp F n) l args s=_;unfold xC;rw[M.bN hg];show(aF (and (Nat.beq args.length ps.length)<|ps.all fun p=>Nat.blt p nt) <| (pR P (bg P sp F n) ⟨fn,je ps args t,nt,[.code a,.beginRound,.code b],[],some l⟩).bind fun st=> @br.rec (fun _=>M AV) (fun _=>fail) (fun _ j=>endRound l j) st) s0=_;rw[hlen,dz,M.bN<|JB h1];exact h2
theorem GR{P:Program}{SI:aO}{s s1 s2 s4:AS}{df lo:Nat}{k:List Item}{f:Operand}{ps:Array Tmp}{gv y:AV}{p:Option Code}(h1:gC .defs s= .ok df s1)(h2:gC (.loop .ready none fn t nt ps.toList a b df) s1= .ok lo s2)(h3:aK t f=some gv)(h4:nr SI gv [.yield lo] s2= .ok y s3)(h5:lf lo s3= .ok p s4):
 eg P SI 1 ⟨fn,t,nt,.code (.rangeFunc f ps a b)::k,[],none⟩ s= .ok (.go ⟨fn,t,nt,andThen p k,[df],none⟩) s4:=by
 refine BK ?_;show vE f ps.toList a b SI fn t nt [] none k s=_;unfold vE;simp only;rw[M.bN h1,M.bN h2,h3,bW,M.bN h4,M.bN h5];rfl
end
end Go.Rn
namespace Go.Rn
open Go.RowKit
variable {U k:Nat} {B:aJ} {v:AV} {rs:List ResultVar} {aQ:AF} {Q:Tr AV->List Nat->Option Code->AS->Prop}
noncomputable section
def uz(l:Nat)(fr:AF):AF:=⟨fr.fn,fr.tmps,fr.nt,fr.todo,[l],fr.round⟩
end
section
variable {P:Program} {SI:aO} {s s1:AS} {l:Nat}
theorem D4{fr:AF}(h:(M.pure (br.go fr):M br) s= .ok (.go aQ) s1):aQ=fr/\s1=s:=by
 obtain⟨h1,h2⟩:=bH h;injection h1 with h1
 exact⟨h1,h2⟩
theorem abW{fr:AF}(h:jg P SI fr s= .ok (.go aQ) s1):aQ.round=fr.round/\(fr.round=none->aQ.defers=[]->fr.defers=[]/\jg P SI (uz l fr) s= .ok (.go<|uz l aQ) s1):=by
 obtain⟨f,t,nt,K,d,r⟩:=fr;cases K with
 |nil=>have h':(M.pure (br.leave ⟨f,t,nt,[],d,r⟩ none):M br) s= .ok (.go aQ) s1:=h;cases(bH h').1
 |cons it k=>
  have h':(vY P it).val SI f t nt d r k s= .ok (.go aQ) s1:=h;have goal:∀(X:oU),(vY P it).val=X->X SI f t nt d r k s= .ok (.go aQ) s1->(aQ.round=r/\(r=none->aQ.defers=[]->d=[]/\X SI f t nt [l] r k s= .ok (.go<|uz l aQ) s1))->aQ.round=r/\(r=none->aQ.defers=[]->d=[]/\jg P SI (uz l ⟨f,t,nt,it::k,d,r⟩) s= .ok (.go<|uz l aQ) s1):=by rintro X hX _ ⟨h1,h2⟩;refine⟨h1,fun a b=>?_⟩;obtain⟨c,e⟩:=h2 a b;refine⟨c,?_⟩;show(vY P it).val SI f t nt [l] r k s=_;rw[hX];exact e
  have pop:∀k',(M.pure (br.go ⟨f,t,nt,k',d,r⟩):M br) s= .ok (.go aQ) s1->aQ.round=r/\(r=none->aQ.defers=[]->d=[]/\(M.pure (br.go ⟨f,t,nt,k',[l],r⟩):M br) s= .ok (.go<|uz l aQ) s1):=by intro k' h;obtain⟨rfl,rfl⟩:=D4 h;exact⟨rfl,fun _ b=>⟨b,rfl⟩⟩
  cases it with
  |code c=>
   cases c with
   |skip=>exact goal qX rfl h'<|pop _ h'
   |label n=>exact goal qX rfl h'<|pop _ h'
   |seq a b=>exact goal (nS [.code a,.code b]) rfl h'<|pop _ h'
   |cond c a b=>refine goal (Ll c a b) rfl h' ?_;obtain⟨v,h1,h2⟩:=bu (show(aC (aK t c) fun v=>aC (xU v) fun v=>M.pure<|br.go ⟨f,t,nt,.code (@Bool.rec (fun _=>Code) b a v)::k,d,r⟩) s=_ from h');obtain⟨v',h3,h4⟩:=bu h2;obtain⟨q1,q2⟩:=pop _ h4;refine⟨q1,fun a' b'=>⟨(q2 a' b').1,?_⟩⟩;show(aC (aK t c) fun v=>aC (xU v) fun v=>M.pure<|br.go ⟨f,t,nt,.code (@Bool.rec (fun _=>Code) b a v)::k,[l],r⟩) s=_;rw[h1,bW,h3,bW];exact(q2 a' b').2
   |block i b=>exact goal (nS [.code b,.inBlock i]) rfl h'<|pop _ h'
   |loop b=>exact goal (nS [.code b,.inLoop b]) rfl h'<|pop _ h'
   |scope b=>exact goal (nS [.code b,.inScope b]) rfl h'<|pop _ h'
   |exit i=>
    refine goal (EJ i) rfl h' ?_;have h2:(match exitTo i k with
     |some k'=>M.pure (br.go ⟨f,t,nt,k',d,r⟩)
     |none=>M.pure<|br.leave ⟨f,t,nt,.code (.exit i)::k,d,r⟩<|some<|.exit i) s= .ok (.go aQ) s1:=h'
    cases e:exitTo i k with
    |none=>rw[e] at h2;cases(bH h2).1
    |some k'=>
     rw[e] at h2;obtain⟨q1,q2⟩:=pop _ h2;refine⟨q1,fun a' b'=>⟨(q2 a' b').1,?_⟩⟩;show(match exitTo i k with
      |some k'=>M.pure (br.go ⟨f,t,nt,k',[l],r⟩)
      |none=>M.pure<|br.leave ⟨f,t,nt,.code (.exit i)::k,[l],r⟩<|some<|.exit i) s=_
     rw[e];exact(q2 a' b').2
   |goto i=>
    refine goal (EK i) rfl h' ?_;have h2:(match gotoIn i k with
     |some k'=>M.pure (br.go ⟨f,t,nt,k',d,r⟩)
     |none=>M.pure<|br.leave ⟨f,t,nt,.code (.goto i)::k,d,r⟩<|some<|.goto i) s= .ok (.go aQ) s1:=h'
    cases e:gotoIn i k with
    |none=>rw[e] at h2;cases(bH h2).1
    |some k'=>
     rw[e] at h2;obtain⟨q1,q2⟩:=pop _ h2;refine⟨q1,fun a' b'=>⟨(q2 a' b').1,?_⟩⟩;show(match gotoIn i k with
      |some k'=>M.pure (br.go ⟨f,t,nt,k',[l],r⟩)
      |none=>M.pure<|br.leave ⟨f,t,nt,.code (.goto i)::k,[l],r⟩<|some<|.goto i) s=_
     rw[e];exact(q2 a' b').2
   |ret=>cases(bH (show(M.pure (br.leave ⟨f,t,nt,.code .ret::k,d,r⟩<|some .ret):M br) s= .ok (.go aQ) s1 from h')).1
   |region i ops dr=>
    cases dr with
    |false=>refine goal (J1 P ops) rfl h' ?_;obtain⟨t1,s2,h2,h3⟩:=M.aR (show((jl P SI nt ops ops.toList t).bind fun t=>M.pure<|br.go ⟨f,t,nt,k,d,r⟩) s= .ok (.go aQ) s1 from h');obtain⟨rfl,rfl⟩:=D4 h3;refine⟨rfl,fun a' b'=>⟨b',?_⟩⟩;show((jl P SI nt ops ops.toList t).bind fun t=>M.pure<|br.go ⟨f,t,nt,k,[l],r⟩) s=_;rw[M.bN h2];rfl
    |true=>refine goal (JG P ops) rfl h' ?_;obtain⟨t1,s2,h2,h3⟩:=M.aR (show((qD P SI nt ops t).bind fun t=>M.pure<|br.go ⟨f,t,nt,k,d,r⟩) s= .ok (.go aQ) s1 from h');obtain⟨rfl,rfl⟩:=D4 h3;refine⟨rfl,fun a' b'=>⟨b',?_⟩⟩;show((qD P SI nt ops t).bind fun t=>M.pure<|br.go ⟨f,t,nt,k,[l],r⟩) s=_;rw[M.bN h2];rfl
   |rangeFunc g ps a b=>
    have h2:vE g ps.toList a b SI f t nt d r k s= .ok (.go aQ) s1:=h';unfold vE at h2;cases r with
    |none=>obtain⟨df,s2,_,h3⟩:=M.aR h2;obtain⟨lo,s3,_,h3⟩:=M.aR h3;obtain⟨gv,_,h3⟩:=bu h3;obtain⟨y,s4,_,h3⟩:=M.aR h3;obtain⟨p,s5,_,h3⟩:=M.aR h3;obtain⟨rfl,rfl⟩:=D4 h3;exact⟨rfl,fun _ b'=>by cases b'⟩
    |some l0=>
     obtain⟨o,s2,_,h3⟩:=M.aR h2;split at h3
     ·obtain⟨lo,s3,_,h3⟩:=M.aR h3;obtain⟨gv,_,h3⟩:=bu h3;obtain⟨y,s4,_,h3⟩:=M.aR h3;obtain⟨p,s5,_,h3⟩:=M.aR h3;obtain⟨rfl,rfl⟩:=D4 h3;exact⟨rfl,fun a' _=>by cases a'⟩
     ·cases h3
   |refuse m=>cases h'
  |inBlock i=>exact goal qX rfl h'<|pop _ h'
  |inScope i=>exact goal qX rfl h'<|pop _ h'
  |inLoop b=>exact goal (nS [.code b,.inLoop b]) rfl h'<|pop _ h'
  |beginRound=>
   have h2:zT SI f t nt d r k s= .ok (.go aQ) s1:=h';unfold zT at h2;cases r with
   |none=>cases h2
   |some l0=>
    obtain⟨o,s2,_,h3⟩:=M.aR h2;split at h3
    ·obtain⟨_,s3,_,h4⟩:=M.aR h3;obtain⟨rfl,rfl⟩:=D4 h4;exact⟨rfl,fun a' _=>by cases a'⟩
    ·cases h3
  |_=>cases h'
theorem Uw:∀{k:Nat} {fr aQ:AF} {s s1:AS},eg P SI k fr s= .ok (.go aQ) s1->aQ.round=fr.round/\(fr.round=none->aQ.defers=[]->fr.defers=[]/\eg P SI k (uz l fr) s= .ok (.go<|uz l aQ) s1)
 |0,fr,aQ,s,s1,h=>by cases h;exact⟨rfl,fun _ b=>⟨b,rfl⟩⟩
 |k+1,fr,aQ,s,s1,h=>by
  obtain⟨y,s2,h1,h2⟩:=M.aR (show((jg P SI fr).bind fun x=> @br.rec (fun _=>M br) (eg P SI k) (fun fr j=>M.pure<|br.leave fr j) x) s= .ok _ s1 from h);cases y with
  |leave qw j=>cases(bH (show(M.pure (br.leave qw j):M br) s2=_ from h2)).1
  |go qw=>have h2:eg P SI k qw s2= .ok (.go aQ) s1:=h2;obtain⟨a1,a2⟩:=Uw h2;obtain⟨b1,b2⟩:=abW (l:=l) h1;refine⟨a1.trans b1,fun q1 q2=>?_⟩;obtain⟨c1,c2⟩:=a2 (b1.trans q1) q2;obtain⟨d1,d2⟩:=b2 q1 c1;exact⟨d1,(BK d2).trans c2⟩
def GD(P:Program)(SI:aO)(B:aJ)(U:Nat)(Q:Tr AV->List Nat->Option Code->AS->Prop)(l:Nat)(fr:AF)(s:AS):Prop:=fr.round=none/\fr.defers=[]/\Ax P B U Q (uz l fr) s
theorem Chunk.defs(bT:P.follows .mixedOrders=true)(hc:fR P B SI)(hl:∀t a,SH<|SI t a):Chunk P SI<|GD P SI B U Q l:=by rintro k fr aQ s s1 h ⟨h1,h2,h3⟩;obtain⟨a1,a2⟩:=Uw (l:=l) h;obtain⟨b1,b2⟩:=a2 (a1.symm.trans h1) h2;exact⟨a1.symm.trans h1,b1,Chunk.FZ bT hc hl k _ _ _ _ b2 h3⟩
noncomputable section
def yM(P:Program)(SI:aO)(rs:List ResultVar)(k l:Nat)(fr:AF)(s:AS):Option<|AV×AS:=
 match eg P SI k (uz l fr) s with
 | .ok (.leave aQ j) s1=>(match finish P rs aQ j s1 with
  | .ok v s2=>some (v,s2)
  | .bad=>none)
 |_=>none
end
theorem OV{fr:AF}{R:AV->AS->Prop}{s2:AS}(bT:P.follows .mixedOrders=true)(hc:fR P B SI)(hl:∀t a,SH<|SI t a)(h1:fr.round=none)(h2:fr.defers=[])(h:yM P SI rs k l fr s=some (v,s2))(hR:R v s2):GD P SI B U (Fin P rs R) l fr s:=by
 refine⟨h1,h2,fun h0=>?_⟩;unfold yM at h;split at h
 ·rename_i aQ j s1 e;split at h
  ·rename_i v2 s3 e2;injection h with h;injection h with h3 h4
   subst h3;subst h4;exact av.leave bT hc hl e h0 ⟨v2,s3,by rw[←Gu];exact e2,hR⟩
  ·cases h
 ·cases h
end
noncomputable section
def Qz(P:Program)(SI:aO)(rs:List ResultVar)(k l:Nat)(fr:AF)(s:AS):Option AV:=match yM P SI rs k l fr s with
 |some (v,_)=>some v
 |none=>none
end
theorem Oq{P:Program}{SI:aO}{l:Nat}{s:AS}{fr:AF}(bT:P.follows .mixedOrders=true)(hc:fR P B SI)(hl:∀t a,SH<|SI t a)(h1:fr.round=none)(h2:fr.defers=[])(h:Qz P SI rs k l fr s=some v):GD P SI B U (Fin P rs fun y _=>y=v) l fr s:=by
 unfold Qz at h;split at h
 ·rename_i v2 s2 e;injection h with h;subst h
  exact OV bT hc hl h1 h2 e rfl
 ·cases h
theorem afu{E:Env}(hE:E.Ok){n f nt l:Nat}{t:Tr AV}{K:List Item}{s:AS}{C:Ay}(uZ:E.fg=false)(bT:E.P.follows .mixedOrders=true)(hc:fR E.P B<|bg E.P E.sp E.F n)(hl:∀t a,SH<|bg E.P E.sp E.F n t a)(hC:∀fr s p,C fr s p->GD E.P (bg E.P E.sp E.F n) B U Q l fr s)(h0:U<=s.nx)(fuel:Nat)(p:Pl){T:Prop}(x:T)(h:T=wp E fuel n (.fr f nt K t s) p [] (fun _ _ _=>False) C:=by as_aux_lemma=>kernel_rfl):av E.P B U Q ⟨f,t,nt,K,[l],none⟩ s:=(D1 hE fuel n (.fr f nt K t s) p [] (fun _ _ _=>False) C (GD E.P (bg E.P E.sp E.F n) B U Q l) (Chunk.defs bT hc hl) (fun fr s j aQ jm s1 v s2 p q1 q2 q3=>q3.elim) hC (fun _ _ _ _ _ _ _ _ _ q=>by rw[uZ] at q;cases q) (fun _ _ _ _ _ _ _ _ _ _ _ q=>by rw[uZ] at q;cases q) (fun _ _ _ _ _ _ _ _ _ q=>by rw[uZ] at q;cases q)<|h▸x).2.2 h0
end Go.Rn
namespace Go.Rn
open Go.RowKit
theorem VR.Kd{ρ:aw}{n o:Nat}{v:Value}(ht:top<=n)(h:VR ρ (.ab n o 0) v):VR ρ (.ab top 0 0) v\/VR ρ (.ab (top+1) 0 0) v:=by
 simp only[VR] at h ⊢;rcases h with⟨_,_,a,c,rfl,hz⟩|⟨b,sh,c,_,rfl,_⟩
 ·cases a with
  |none=>exact .inl<|.inl ⟨Nat.le_refl _,trivial,none,c,rfl,hz.1,(fun _=>rfl),fun e=>by omega⟩
  |some a=>exact .inr<|.inl ⟨by omega,trivial,some a,c,rfl,(fun e=>by cases e),(fun e=>by omega),fun _ e=>by cases e⟩
 ·exact .inr<|.inl ⟨by omega,trivial,_,c,rfl,(fun e=>by cases e),(fun e=>by omega),fun _ e=>by cases e⟩
theorem av.Kd{P:Program}{B:aJ}{U:Nat}{Q:Tr AV->List Nat->Option Code->AS->Prop}{f nt:Nat}{t:Tr AV}{K:List Item}{d:List Nat}{r:Option Nat}{s:AS}{i n o:Nat}(hi:t.get i=some (.ab n o 0))(ht:top<=n)(qu:i<top)(H1:av P B U Q ⟨f,t.put i<|some<|.ab top 0 0,nt,K,d,r⟩ s)(H2:av P B U Q ⟨f,t.put i<|some<|.ab (top+1) 0 0,nt,K,d,r⟩ s):av P B U Q ⟨f,t,nt,K,d,r⟩ s:=by
 intro ρ w b a cs bG ay hf;have hv:=ay.tr.2 i _ hi;have au:∀x,VR ρ x (a.tmps.getD i Go.undef)->At B ρ s nt (t.put i<|some x) w a:=fun x hx=>by
  obtain⟨h1,h2,h3,h4,h5⟩:=ay;refine⟨⟨h1.1,fun j y hy=>?_⟩,h2,h3,h4,h5⟩;rw[Tr.lV _ _ _ _ qu] at hy;by_cases e:j=i
  ·rw[if_pos e] at hy;cases hy;rw[e];exact hx
  ·rw[if_neg e] at hy;exact h1.2 j y hy
 obtain⟨f1,f2,f3,f4,f5⟩:=bG;rcases hv.Kd ht with q|q
 ·exact H1 ρ w b a cs ⟨f1,f2,f3,f4,f5⟩ (au _ q) hf
 ·exact H2 ρ w b a cs ⟨f1,f2,f3,f4,f5⟩ (au _ q) hf
end Go.Rn
namespace Go.Rn
open Go.RowKit
section
variable {X:TX} {P:Program} {U:Nat} {ns:List Nat} {h0:Tr ae} {L:bU} {g:Nat} {fn:Func} {body:Code}
theorem ad4(hP:bB P)(fD:fH<=U)(dI:U<=top)(dE:∀n o,n<top->h0.get n=some o->n∈ns)(eh:∀n∈ns,n<U){val:List AV->Option AV}(h:dX X U P<|dv U ns h0 L)(ch:P.funcs[g]? =some fn)(cw:fn.body=some body)(dD:(fn.name == "runtime.NumGoroutine")=false)(eK:∀args v,val args=some v->max fn.ntmps args.length<=top/\∃L',dX X U P (dv U ns h0 L')/\∀B:aJ,qh X P U ns h0 L' B->
 av P B U (Fin P fn.results.toList fun y _=>y=v) ⟨g,dZ args,max fn.ntmps args.length,[.code body],[],none⟩ ⟨h0,U,0,[],[]⟩):dX X U P<|dv U ns h0<|(g,.val val)::L:=by
 refine(show dX X U P (pe (dv U ns h0 L) g<|pV U ns h0 val) from h.mK (fun SI _ args=>SH.pV _ _ _ _ SI args) fun B hB hT SI hc hl args x s s1 ρ w vs fi r hg hf hm hv=>?_);refine Ti hP ch cw dD fD dI dE eh (fun args v e=>?_) r hg hm hv;obtain⟨q1,L',h',q2⟩:=eK args v e;exact⟨q1,fun B' kP kR=>q2 B'<|rj hP h' (kP.trans hB)<|kR.trans hT⟩
end
end Go.Rn
namespace Go.Rn
open Go.RowKit
variable {s:AS}
section
variable {P:Program} {B:aJ} {U:Nat} {Q:Tr AV->List Nat->Option Code->AS->Prop} {SI:aO}
theorem av.YE{fr aQ:AF}{s1:AS}{ρ:aw}{w:World}{b:Frame}{a:Act}{cs:List Frame}(bG:Fr ρ fr b a)(hf:∀k,s.nx<=k->k<top->ρ k=none)(lu:s.nx<=s1.nx)(h0:U<=s.nx)(hw:ma P B ρ s s1 w fr b cs (lone (b.atR a fr.todo) cs w)<|.go aQ)(H:av P B U Q aQ s1):
 ∃(kl:AF) (j:Option Code) (s2:AS) (σ:aw) (a2:Act) (w2:World),Q kl.tmps kl.defers j s2/\U<=s2.nx/\(∀k,k<U->k<top->σ k=ρ k)/\(∀k x,top<=k->ρ k=some x->σ k=some x)/\(∀k,s2.nx<=k->k<top->σ k=none)/\At B σ s2 fr.nt kl.tmps w2 a2/\wu σ kl.defers a2.defers/\cP B w w2/\(kl.fn=fr.fn/\kl.nt=fr.nt/\kl.round=fr.round)/\jz kl.todo/\Leaves j kl.todo/\Steps P (lone (b.atR a fr.todo) cs w) (lone (b.atR a2 kl.todo) cs w2):=by
 obtain⟨σ,a1,w1,e1,e2,e3,e4,⟨e5,e6,e7⟩,e8,_,e9⟩:=hw;have FY:aQ.fn=fr.fn:=e5;have iY:aQ.nt=fr.nt:=e6;have qv:aQ.round=fr.round:=e7;obtain⟨kl,j,s2,τ,a2,w2,q0,qn,q1,IF,q2,q3,q4,q5,⟨q6,q7,q8⟩,q9,RM,RN⟩:=H σ w1 b a1 cs ⟨bG.fn.trans FY.symm,bG.kind,by rw[qv];exact bG.round.mono e1.le,e3,e8⟩ (by rw[iY];exact e2) fun k hk ht=>(e1.out k ht ak).trans<|hf k ak ht;exact⟨kl,j,s2,τ,a2,w2,q0,qn,fun k hk gw=>(q1 k hk gw).trans<|e1.out k gw ak,fun k x hk hx=>IF k x hk<|e1.le _ _ hx,q2,by rw[←iY];exact q3,q4,e4.trans q5,⟨q6.trans FY,q7.trans iY,q8.trans qv⟩,q9,RM,Steps.trans e9 RN⟩
theorem av.next(hc:fR P B SI)(hl:∀t a,SH<|SI t a){fr:AF}{s2:AS}{it:Operand}{o:Oper}{ops:Array Oper}{rest:List Oper}{k:List Item}{n m:Nat}{es:List<|AV×AV}{ex:Bool}{left:List<|AV×AV}{cur:Option<|AV×AV}(e:DW fr=some (it,o,ops,rest,k))(h0:U<=s.nx)(e1:vA fr it s= .ok (n,.iter m es ex left cur) s2)(H0:left=[]->∃aQ s3,pO P SI fr n m es ex o ops rest k s2= .ok aQ s3/\av P B U Q aQ s3)(H1:∀x r,(x,r)∈ym left->∃aQ s3,pQ P SI fr n (.iter m es ex r<|some x) o ops rest k (.tuple [.bool true,x.1,x.2]) s2= .ok aQ s3/\av P B U Q aQ s3):av P B U Q fr s:=by
 intro ρ w b a cs bG ay hf;obtain⟨id,oX,mI,C7,ho⟩:=S2 e;obtain⟨h1,h2⟩:=Tg e1;obtain⟨hx,hg,hh,cJ⟩:=fY h2;have dH:bE s2:=(SH.bw n).cG ay.cG h2;have ht:n<top:=Nat.lt_of_lt_of_le hx ay.cG.nx;have hd:∀c,o.op≠ .defer c:=fun c q=>by rw[ho] at q;cases q
 obtain⟨pv,fx,u⟩:=ay.rel.iter n m es ex left cur ht hg;obtain⟨bn,N,hn,p6⟩:=u.next (P:=P) o.type;have IC:VR ρ (.ptr<|some (n,0))<|a.eval it:=D8 ay.tr ay.g h1;have FT:a.eval it= .pointer (some ⟨bn,0,none⟩):=by simp only[VR] at IC;obtain⟨b',N',q1,q2⟩:=IC;rw[hn] at q1;cases q1;exact q2
 have Hy:∀v w',(Instr.next (.pointer<|some ⟨bn,0,none⟩) false o.type).run P w= .ok v w'->(execOp a.eval o).run P w= .ok (.value v) w':=by intro v w' q;simp only[execOp,ho,FT,Sem.run_bind,q,Result.andThen_ok,Sem.run_pure]
 obtain⟨_,_,_,hB⟩:=ay.rel.block ht hg hn;have free:∀{a b:Nat},s.nx<=a->dJ a b ρ:=fun ha k h1 _ h3=>hf k ak h3;rcases p6 with⟨LO,qY⟩|⟨x,r,v1,v2,w',iz,FX,sM,qY,ID,QP,RK⟩
 ·obtain⟨aQ,s3,e3,HS⟩:=H0 LO;have ju:=(SH.pO P hl fr n m es ex o ops rest k).cG dH e3;have C6:=(SH.pO P hl fr n m es ex o ops rest k).le dH e3;refine av.YE bG hf ak h0 ?_ HS;unfold pO at e3;obtain⟨u1,s4,i1,i2⟩:=M.aR e3;obtain⟨u2,s5,i3,i4⟩:=M.aR i2;obtain⟨t1,s6,i5,i6⟩:=M.aR i4;obtain⟨t2,s7,i7,i8⟩:=M.aR i6;obtain⟨rfl,rfl⟩:=bH i8;obtain⟨i9,rfl⟩:=gT i5;obtain⟨_,_,_,j1,j2⟩:=jy i1;obtain⟨_,_,_,j3,j4⟩:=jy i3;have C8:bE s6:=(SH.bM m _).cG ((SH.bM n _).cG dH i1) i3;have ly:s.h.get n=some (.iter m es ex [] cur):=by rw[hg,LO]
  have CB:Rel B ρ s6.h w:=by rw[j3,j1,hh];exact ay.rel.Yg ht ly
  have C9:VR ρ (.tuple [.bool false])<|.tuple #[.bool false]:=by simp only[VR,az];exact⟨_,rfl,_,_,rfl,rfl,rfl⟩
  obtain⟨q1,q2⟩:=DY (a:=a) ay.tr ay.nt i9 C9;exact Jl hc hl bG oX mI C7 hd (Hy _ _ qY) (cP.refl _ _) ⟨q1,CB,ay.g,ay.nt,C8⟩ (by rw[j4,j2,cJ]) (free (by rw[j4,j2,cJ];exact Nat.le_refl _)) i7
 ·obtain⟨aQ,s3,e3,HS⟩:=H1 x r iz;have ju:=(SH.pQ P hl fr n (.iter m es ex r<|some x) o ops rest k<|.tuple [.bool true,x.1,x.2]).cG dH e3;have C6:=(SH.pQ P hl fr n (.iter m es ex r<|some x) o ops rest k<|.tuple [.bool true,x.1,x.2]).le dH e3;refine av.YE bG hf ak h0 ?_ HS;unfold pQ at e3;obtain⟨u1,s4,i1,i2⟩:=M.aR e3;obtain⟨t1,s6,i5,i6⟩:=M.aR i2;obtain⟨t2,s7,i7,i8⟩:=M.aR i6;obtain⟨rfl,rfl⟩:=bH i8;obtain⟨i9,rfl⟩:=gT i5;obtain⟨_,_,_,j1,j2⟩:=jy i1;have C8:bE s6:=(SH.bM n _).cG dH i1;have CB:Rel B ρ s6.h w':=by rw[j1,hh];exact ay.rel.WS ht hg hn ID QP RK
  have C9:VR ρ (.tuple [.bool true,x.1,x.2])<|.tuple #[.bool true,v1,v2]:=by simp only[VR,az];exact⟨_,rfl,_,_,rfl,rfl,_,_,rfl,FX,_,_,rfl,sM,rfl⟩
  obtain⟨q1,q2⟩:=DY (a:=a) ay.tr ay.nt i9 C9;exact Jl hc hl bG oX mI C7 hd (Hy _ _ qY) (ID.below<|hB rfl) ⟨q1,CB,ay.g,ay.nt,C8⟩ (by rw[j2,cJ]) (free (by rw[j2,cJ];exact Nat.le_refl _)) i7
end
end Go.Rn
namespace Go.Rn
open Go.RowKit
variable {ρ σ:aw} {off:Nat} {cs:List AV} {x:AV} {w:World} {s:AS} {B:aJ}
def AV.yv(x:AV):Bool:=match x with
 | .agg l=>l.all AV.flat
 | .tuple l=>l.all AV.flat
 |x=>x.flat
theorem az.flat:∀{l:List AV} {vs:List Value},l.all AV.flat=true->az ρ l vs->az σ l vs
 |[],_,_,hv=>by simpa only[az] using hv
 |y::l,vs,hy,hv=>by obtain⟨h1,h2⟩:=and_true.1 (show(y.flat&&l.all AV.flat)=true from hy);simp only[az] at hv ⊢;obtain⟨a,as,e,h3,h4⟩:=hv;exact⟨a,as,e,VR.flat h1 h3,az.flat h2 h4⟩
theorem VR.yv{v:Value}(h:x.yv=true)(k:VR ρ x v):VR σ x v:=by
 unfold AV.yv at h;split at h
 ·simp only[VR] at k ⊢;obtain⟨a,e,q⟩:=k;exact⟨a,e,az.flat h q⟩
 ·simp only[VR] at k ⊢;obtain⟨a,e,q⟩:=k;exact⟨a,e,az.flat h q⟩
 ·exact VR.flat h k
theorem ad5{fA:aw}{h h0:Tr ae}{j b:Nat}{c:Array Value}{e:TypeId}{fr:Nat×Nat}(R0:Rel (rZ B ρ w) fA h0 w)(Ih:∀n o,n<top->h0.get n=some o->o.mW=true)(ji:fA (hn j b off)=none)(hF:B.F j=some cs)(hb:w.heap[b]? =some (.cells c e fr))(uW:∀i x,cs[i]? =some x->∃v,c[off+i]? =some v/\VR (gq fA) x v/\x.cj=true)(hold:∀k,ρ k≠none->eQ fA (hn j b off) (b,0) k≠none):
 Rel (rZ B (eQ fA (hn j b off) (b,0)) w) (eQ fA (hn j b off) (b,0)) h0 w:=by
 have hl:fA.le<|eQ fA (hn j b off) (b,0):=oD ji;have cY:∀k,k<top->eQ fA (hn j b off) (b,0) k=fA k:=fun k hk=>gM _ _ (by have:=gg j b off;omega);have ZL:∀x,jY (eQ fA (hn j b off) (b,0)) h0 x:=fun x m o N hm hg hr=>by rw[ae.ke<|Ih m o hm hg] at hr;cases hr
 refine⟨fun n o fC ho=>?_,fun n m o p b1 N M fC hm h1 h2 cZ e1 e2=>?_,fun n m es ex left cur fC ho=>?_,R0.size,R0.lone,fun n x sh q=>?_,?_⟩
 ·obtain⟨b1,N,o',i1,i2,i3,i4⟩:=R0.is n o fC ho;exact⟨b1,N,o',hl _ _ i1,i2,i3.mono hl,i4⟩
 ·rw[cY n fC] at e1;rw[cY m hm] at e2;exact R0.one n m o p b1 N M fC hm h1 h2 cZ e1 e2
 ·have:=Ih n _ fC ho;cases this
 ·by_cases z:hn n x sh=hn j b off
  ·obtain⟨rfl,rfl,rfl⟩:=Kr z;refine⟨.inl q,cs,c,e,fr,hF,hb,ZL _,fun i y hy=>?_⟩;obtain⟨v,k1,k2,k3⟩:=uW i y hy;exact⟨v,k1,VR.mono (GH hl) _ _ k2,k3⟩
  ·have q':fA (hn n x sh)≠none:=by rw[gM _ _ z] at q;exact q
   obtain⟨_,l,c1,e1,aQ,g1,g2,_,g4⟩:=R0.fz n x sh q';refine⟨.inl q,l,c1,e1,aQ,g1,g2,ZL _,fun i y hy=>?_⟩;obtain⟨v,k1,k2,k3⟩:=g4 i y hy;exact⟨v,k1,VR.mono (GH hl) _ _ k2,k3⟩
 ·refine uO.no (fun n k v fC hg=>by have:=Ih n _ fC hg;cases this) ⟨R0.tk.1.1,fun m o hm hg hf=>?_⟩;obtain⟨b1,N,e1,e2⟩:=R0.tk.1.2 m o hm hg hf;exact⟨b1,N,hl _ _ e1,e2⟩
noncomputable section
def HF(len:Nat):cM->Bool
 | .known c=>Nat.ble len c
 | .ar _ _=>true
 | .lost=>false
def wB(U:Nat)(ns:List Nat)(h0:Tr ae)(val:List AV->Option AV):aO->List AV->M AV:=fun _ args=>match args with
  | [a,.slice (some (n,off)) len cap,b]=>aF (a.hi&&(b.hi&&HF len cap)) <| (fe U h0 ns).bind fun _=>(bw n).bind fun o=>aC (cellsOf (some o) off len) fun cs=>aF (cs.all AV.gi&&Nat.blt n top) <|
    aC (val [a,.ab (nm cs) 0 len,b]) fun v=>aF v.yv <| M.pure v
  |_=>fail
end
theorem SH.wB(U:Nat)(ns:List Nat)(h0:Tr ae)(val:List AV->Option AV)(SI:aO)(args:List AV):SH<|wB U ns h0 val SI args:=by
 unfold Rn.wB;split
 ·exact SH.aF fun _=>SH.bind (SH.fe U h0 ns) fun _=>SH.bind (SH.bw _) fun _=>SH.aC fun _ _=>SH.aF fun _=>SH.aC fun _ _=>SH.aF fun _=>SH.pure _
 ·exact SH.fail
theorem abe{o:ae}{k:Nat}(h:cellsOf (some o) off k=some cs):∃m t z,o= .cells m t z/\off+k<=m/\lY t z k off=some cs:=by
 unfold cellsOf at h;split at h
 ·rename_i m t z e;injection e with e
  split at h
  ·rename_i q;exact⟨m,t,z,e,aL.1 q,h⟩
  ·cases h
 ·cases h
theorem afI{P:Program}{f U:Nat}{ns:List Nat}{h0:Tr ae}{val:List AV->Option AV}{fn:Func}{body:Code}{s1:AS}(hP:bB P)(ch:P.funcs[f]? =some fn)(cw:fn.body=some body)(dD:(fn.name == "runtime.NumGoroutine")=false)(hFU:B.F=FU)(fD:fH<=U)(dI:U<=top)(dE:∀n o,n<top->h0.get n=some o->n∈ns)(eh:∀n∈ns,n<U)(eK:∀args v,val args=some v->max fn.ntmps args.length<=top/\∀B':aJ,B'.F=B.F->B'.inv=B.inv->av P B' U (Fin P fn.results.toList fun y _=>y=v) ⟨f,dZ args,max fn.ntmps args.length,[.code body],[],none⟩ ⟨h0,U,0,[],[]⟩){SI:aO}{args:List AV}{vs:Array Value}(r:Rel B ρ s.h w)(hg:gk ρ)(h:wB U ns h0 val SI args s= .ok x s1)(hv:az ρ args vs.toList):jo P ((callFunc f vs).run P w)<|kg B ρ s s1 w x:=by
 unfold wB at h;split at h
 case h_2=>cases h
 rename_i a n off len cap a2;obtain⟨ga,h1⟩:=cX h;obtain⟨ha,yY⟩:=and_true.1 ga;obtain⟨hb,LJ⟩:=and_true.1 yY;obtain⟨u,s2,h2,h3⟩:=M.aR h1;obtain⟨o,s3,h4,h5⟩:=M.aR h3;obtain⟨cs,h6,h7⟩:=bu h5;obtain⟨hcd,h8⟩:=cX h7;obtain⟨ZM,iX⟩:=and_true.1 hcd;have iX:n<top:=(blt_eq _ _).mp iX;obtain⟨v,h9,gH⟩:=bu h8;obtain⟨y8,uV⟩:=cX gH;obtain⟨rfl,rfl⟩:=bH uV;obtain⟨a1,a2',a3⟩:=tB h2;obtain⟨b1,b2,b3,b4⟩:=fY h4;obtain⟨m,t,z,rfl,c1,c2⟩:=abe h6;have kh:s.h.get n=some (.cells m t z):=by rw[←a1];exact b2
 obtain⟨bb,N,o',d1,d2,d3,_⟩:=r.is n _ iX kh;have ZN:=d3;simp only[OR] at ZN;obtain⟨c,e,rfl,_,d4,d5⟩:=ZN;obtain⟨g1,g2⟩:=Jj c2;have ZO:∀n∈ns,∃o p,s.h.get n=some o/\h0.get n=some p/\oK U o p=true:=fun n hn=>by obtain⟨_,o,p,h⟩:=a3 n hn;exact⟨o,p,h⟩
 have R0:=ER dI r dE eh ZO;have Ih:∀n o,n<top->h0.get n=some o->o.mW=true:=fun n o hn ho=>by obtain⟨p1,p2,_,c3,c4⟩:=ZO n<|dE n o hn ho;rw[ho] at c3;cases c3;unfold oK at c4;split at c4<;>first|rfl|cases c4
 have aht:ρ (hn (nm cs) bb off)=none:=Classical.byContradiction fun q=>by obtain⟨_,_,_,_,_,_,_,z3,_⟩:=r.fz _ _ _ q;exact z3 n _ N iX kh rfl d1
 have ji:gm U ρ (hn (nm cs) bb off)=none:=by rw[tO dI<|gg _ _ _];exact aht
 have R1:=ad5 (B:=B) (ρ:=gm U ρ) (fA:=gm U ρ) (j:=nm cs) (b:=bb) (off:=off) (cs:=cs) (c:=c) (e:=e) (fr:=(0,0)) (h:=s.h) (h0:=h0) (w:=w) ⟨R0.is,R0.one,R0.iter,R0.size,R0.lone,fun n x sh q=>by
  obtain⟨_,g⟩:=R0.fz n x sh q;exact⟨.inl q,g⟩,R0.tk⟩ Ih ji (by rw[hFU];exact Cl ZM) d2 (fun i x hx=>by
  have hi:i<len:=by rw[←g1];exact(List.getElem?_eq_some_iff.1 hx).1
  obtain⟨x',v',k1,k2,k3,k4⟩:=d5 (off+i) ak;rw[g2 i hi,hx] at k1;injection k1 with k1;subst k1
  have hxc:x.gi=true:=List.all_eq_true.1 ZM x<|List.mem_of_getElem? hx;refine⟨v',k3,AV.tY (fun k y hk q=>?_) (D2 hxc) k4,k2⟩;unfold gq;rw[if_pos hk,tO dI hk];exact q) (fun k q=>by
  unfold eQ;split
  ·exact fun q=>by cases q
  ·exact q)
 obtain⟨q1,q2⟩:=eK _ _ h9;have fi:bE (⟨h0,U,0,[],[]⟩:AS):=⟨Nat.zero_le _,dI⟩;have A3:gk<|eQ (gm U ρ) (hn (nm cs) bb off) (bb,0):=fun g hZ=>by obtain⟨N,e⟩:=hg g hZ;exact⟨N,oD ji _ _ (by unfold gm;rw[if_pos<|Nat.lt_of_lt_of_le hZ fD];exact e)⟩
 have hi:iM ρ<|eQ (gm U ρ) (hn (nm cs) bb off) (bb,0):=fun k y hk e=>oD ji _ _ (by rw[tO dI hk];exact e);have jJ:az (eQ (gm U ρ) (hn (nm cs) bb off) (bb,0)) [a,.ab (nm cs) 0 len,a2] vs.toList:=by
  simp only[az] at hv ⊢;obtain⟨v0,vr,e1,k1,v1,vr1,e2,k2,v2,vr2,e3,k3,k4⟩:=hv;refine⟨v0,vr,e1,AV.oY hi ha k1,v1,vr1,e2,?_,v2,vr2,e3,AV.oY hi hb k3,k4⟩;have ay:qU (eQ (gm U ρ) (hn (nm cs) bb off) (bb,0)) (nm cs) bb off:=.inr ⟨cU _,by rw[iQ];exact fun q=>by cases q⟩;cases cap with
  |known cc=>simp only[VR] at k2 ⊢;obtain⟨b',N',e4,e5⟩:=k2;rw[d1] at e4;cases e4;exact .inr ⟨bb,off,cc,ay,e5,fun _=>⟨aL.1 LJ,(Ae cs).1⟩⟩
  |ar lo ee=>simp only[VR] at k2 ⊢;obtain⟨b',N',cc,e4,e5,e6,e7,_⟩:=k2;rw[d1] at e4;cases e4;exact .inr ⟨bb,off,cc,ay,e5,fun _=>⟨e7,(Ae cs).1⟩⟩
  |lost=>cases LJ
 have bI:=av.calls (B:=rZ B (eQ (gm U ρ) (hn (nm cs) bb off) (bb,0)) w) (s:=⟨h0,U,0,[],[]⟩) (args:=[a,.ab (nm cs) 0 len,a2]) (vs:=vs) hP ch cw q1 (q2 _ rfl rfl) fi R1 A3 (fun k k1 k2=>by have k1:U<=k:=k1;rw[gM _ _ (by have:=gg (nm cs) bb off;omega)];unfold gm gq;rw[if_neg ak,if_neg ak]) jJ;rw[tC ch cw dD];show Calls P f vs w _;refine bI.mono fun e w'=>?_;rintro ⟨y,x',s4,rfl,rfl,_,_,σ,e1,e2,e3,e4⟩;have gr:gX w w':=⟨e4.os,e4.tape,e4.output,e4.size,fun k hk=>e4.block k hk (by show ¬(w.heap.size<=k);omega)⟩;exact⟨y,rfl,ρ,by rw[b4,a2'];exact Ext.refl _ _ _,VR.yv y8 e2,by rw[b3,a1];exact r.Fg gr,gr.below r.size⟩
section
variable {X:TX} {P:Program} {U:Nat} {ns:List Nat} {h0:Tr ae} {kn:List<|Nat×Option ae} {L L':bU} {g k:Nat} {fn:Func} {body:Code}
theorem afJ(hP:bB P)(fD:fH<=U)(dI:U<=top)(dE:∀n o,n<top->h0.get n=some o->n∈ns)(eh:∀n∈ns,n<U){val:List AV->Option AV}(h:dX X U P<|dv U ns h0 L)(h':dX X U P<|dv U ns h0 L')(ch:P.funcs[g]? =some fn)(cw:fn.body=some body)(dD:(fn.name == "runtime.NumGoroutine")=false)(eK:∀args v,val args=some v->max fn.ntmps args.length<=top/\∀B:aJ,qh X P U ns h0 L' B->
 av P B U (Fin P fn.results.toList fun y _=>y=v) ⟨g,dZ args,max fn.ntmps args.length,[.code body],[],none⟩ ⟨h0,U,0,[],[]⟩):dX X U P<|dv U ns h0<|(g,.raw fun a b c=>wB a b c val)::L:=by
 refine(show dX X U P (pe (dv U ns h0 L) g<|wB U ns h0 val) from h.mK (fun SI _ args=>SH.wB _ _ _ _ SI args) fun B hB hT SI hc hl args x s s1 ρ w vs fi r hg hf hm hv=>?_);refine afI hP ch cw dD hB fD dI dE eh (fun args v e=>?_) r hg hm hv;obtain⟨q1,q2⟩:=eK args v e;exact⟨q1,fun B' kP kR=>q2 B'<|rj hP h' (kP.trans hB)<|kR.trans hT⟩
end
theorem ad6{P:Program}{F:Nat->Option (List AV)}{sp:Sp}{g n U:Nat}{h0:Tr ae}{ns:List Nat}{val:List AV->Option AV}(h:sp g=some (wB U ns h0 val)){a b:AV}{m len:Nat}{cap:cM}{v:AV}(h1:(a.hi&&(b.hi&&HF len cap))=true)(hk:qg U h0 ns s=true)(hm:Nat.blt m (dK U h0 ns s).nx=true)(ht:Nat.blt m top=true)(h2:cellsOf ((dK U h0 ns s).h.get m) off len=some cs)(h3:cs.all AV.gi=true)(h4:val [a,.ab (nm cs) 0 len,b]=some v)(h5:v.yv=true):
 bg P sp F (n+1) (.fn g) [a,.slice (some (m,off)) len cap,b] s= .ok v (bc m<|dK U h0 ns s):=by
 show j0 P sp g (bg P sp F n) [a,.slice (some (m,off)) len cap,b] s=_;rw[tX h];cases q:(dK U h0 ns s).h.get m with
 |none=>rw[q] at h2;cases h2
 |some o=>rw[q] at h2;show(aF (a.hi&&(b.hi&&HF len cap)) <| (fe U h0 ns).bind fun _=>(bw m).bind fun o=>aC (cellsOf (some o) off len) fun cs=>aF (cs.all AV.gi&&Nat.blt m top) <| aC (val [a,.ab (nm cs) 0 len,b]) fun v=>aF v.yv <| M.pure v) s=_;rw[h1,dz,M.bN<|vI hk,M.bN<|lW hm q,h2,bW,h3,ht];show(aF true <| aC (val [a,.ab (nm cs) 0 len,b]) fun v=>aF v.yv <| M.pure v) _=_;rw[dz,h4,bW,h5,dz];rfl
end Go.Rn
namespace Go.Rn
open Go.RowKit
variable {r2 r1 N n:Nat} {ρ σ:aw} {o':Obj} {cs a rest b:List AV} {y v:AV} {sp:Sp} {s:AS} {o:ae} {F:Nat->Option (List AV)}
noncomputable def bt(cs:List AV):ae:=.cells cs.length (Tr.fill cs 0 .nil) []
theorem ad7(ha:a.length<=top)(hb:b.length<=top)(h:bt a=bt b):a=b:=by
 unfold bt at h;injection h with h1 h2 _
 refine List.ext_getElem? fun i=>?_;by_cases q:i<a.length
 ·have e1:=zA ha q;have e2:=zA hb (show i<b.length by omega);rw[←e1, ←e2,h2]
 ·rw[List.getElem?_eq_none ak,List.getElem?_eq_none ak]
open Classical in
noncomputable def rowOf(o:ae):Option<|List AV:=if h:∃cs,cs.length<=top/\o=bt cs then some h.choose else none
theorem GB(h:rowOf o=some cs):o=bt cs/\cs.length<=top:=by
 unfold rowOf at h;split at h
 ·rename_i q;injection h with h;rw[←h];exact⟨q.choose_spec.2,q.choose_spec.1⟩
 ·cases h
theorem GC(h:cs.length<=top):rowOf (bt cs)=some cs:=by unfold rowOf;have q:∃kv,kv.length<=top/\bt cs=bt kv:=⟨cs,h,rfl⟩;rw[dif_pos q];exact congrArg some (ad7 h q.choose_spec.1 q.choose_spec.2).symm
structure RS where
 pre:List AV
 len:Nat
 cap:cM
 post:List AV
def dY(R:RS)(r1 r2:Nat):List AV:=R.pre++(.ptr (some (r1,0)):: .slice (some (r2,0)) R.len R.cap::R.post)
def rootOf(kp:Nat)(cs:List AV):Option<|RS×Nat×Nat:=match cs.drop kp with
 | .ptr (some (r1,0)):: .slice (some (r2,0)) len cap::post=>some (⟨cs.take kp,len,cap,post⟩,r1,r2)
 |_=>none
theorem Tj{R:RS}{kp:Nat}(h:R.pre.length=kp):rootOf kp (dY R r1 r2)=some (R,r1,r2):=by subst h;unfold rootOf dY;rw[List.drop_left,List.take_left];rfl
theorem TM{kp:Nat}{q:RS×Nat×Nat}(h:rootOf kp cs=some q):cs=dY q.1 q.2.1 q.2.2:=by
 unfold rootOf at h;split at h
 ·rename_i e;injection h with h;subst h
  unfold dY;rw[←e,List.take_append_drop]
 ·cases h
structure VS where
 R:RS
 u:AV
 row:List AV
def yw(k:Nat)(o:ae):Option AV:=match o with
 | .tok k' v=>(match Nat.beq k k' with|true=>some v|false=>none)
 |_=>none
theorem Ot{k:Nat}(h:yw k o=some v):o= .tok k v:=by
 unfold yw at h;split at h
 ·split at h
  ·rename_i q;injection h with h;rw[h,Nat.eq_of_beq_eq_true q]
  ·cases h
 ·cases h
theorem Ou{k:Nat}:yw k (.tok k v)=some v:=by show(match Nat.beq k k with|true=>some v|false=>none)=some v;rw[eA.2 rfl]
def ti(R:RS):Bool:=R.pre.all AV.cq&&R.post.all AV.cq
def bQ(kp:Nat)(st:VS):Bool:=ti st.R&&(st.row.all AV.cq&&(Nat.ble (dY st.R 0 0).length top&&Nat.ble st.row.length top))
noncomputable section
def nz(kp k:Nat)(val:VS->List AV->Option (AV×VS))(U:Nat)(ns:List Nat)(h0:Tr ae):aO->List AV->M AV:=fun _ args=>match args with
 | .ptr (some (n,0))::rest=>aF (rest.all AV.hi) <| (fe U h0 ns).bind fun _=>(bw n).bind fun o=>aC (rowOf o) fun cs=>aC (rootOf kp cs) fun q=>(bw q.2.1).bind fun o1=>aC (yw k o1) fun u=>(bw q.2.2).bind fun o2=>aC (rowOf o2) fun row=>
  aF (ti q.1&&row.all AV.cq) <| aF (!Nat.beq n q.2.1&&(!Nat.beq n q.2.2&& !Nat.beq q.2.1 q.2.2)) <| aC (val ⟨q.1,u,row⟩ rest) fun p=>aF (p.1.hi&&bQ kp p.2) <|
  (bM n<|some<|bt<|dY p.2.R q.2.1 q.2.2).bind fun _=>(lz q.2.1<|some<|.tok k p.2.u).bind fun _=>(bM q.2.2<|some<|bt p.2.row).bind fun _=>M.pure p.1
 |_=>fail
def dP(U k:Nat)(st:VS):List<|Nat×ae:=[(U,bt<|dY st.R (U+1)<|U+2),(U+1,.tok k st.u),(U+2,bt st.row)]
end
theorem SH.nz(kp k:Nat)(val:VS->List AV->Option (AV×VS))(U:Nat)(ns:List Nat)(h0:Tr ae)(SI:aO)(args:List AV):SH<|nz kp k val U ns h0 SI args:=by
 unfold Rn.nz;split
 ·exact SH.aF fun _=>SH.bind (SH.fe U h0 ns) fun _=>SH.bind (SH.bw _) fun _=>SH.aC fun _ _=>SH.aC fun _ _=>SH.bind (SH.bw _) fun _=>SH.aC fun _ _=>SH.bind (SH.bw _) fun _=>SH.aC fun _ _=>SH.aF fun _=>SH.aF fun _=>SH.aC fun _ _=>SH.aF fun _=>SH.bind (SH.bM _ _) fun _=>SH.bind (SH.lz _ _) fun _=>SH.bind (SH.bM _ _) fun _=>SH.pure _
 ·exact SH.fail
def ij(U k:Nat)(P:Program)(rs:List ResultVar)(y:AV)(st:VS):=Fin P rs fun y1 s'=>y1=y/\∀m o,(m,o)∈dP U k st->s'.h.get m=some o
theorem Wg(ha:a.length<=top)(hb:b.length<=top)(hl:b.length=a.length)(hc:∀(i:Nat) (x y:AV),a[i]? =some x->b[i]? =some y->(x.cj=true->y.cj=true)/\∀v,VR ρ x v->VR σ y v)(h:OR ρ N (bt a) o'):OR σ N (bt b) o':=by unfold bt at h ⊢;simp only[OR] at h ⊢;obtain⟨c,e,rfl,h1,h2,h3⟩:=h;refine⟨c,e,rfl,h1,by omega,fun i hi=>?_⟩;obtain⟨x,v,k1,k2,k3,k4⟩:=h3 i ak;rw[zA ha ak] at k1;have iO:b[i]? =some (b[i]'hi):=List.getElem?_eq_getElem hi;obtain⟨q1,q2⟩:=hc i x _ k1 iO;exact⟨_,v,by rw[zA hb hi];exact iO,q1 k2,k3,q2 v k4⟩
theorem Al(km:iM ρ σ)(ha:a.length<=top)(hh:a.all AV.cq=true)(h:OR ρ N (bt a) o'):OR σ N (bt a) o':=Wg ha ha rfl (fun i x y e1 e2=>by rw[e1] at e2;cases e2;exact⟨id,fun v k=>AV.tY km (List.all_eq_true.1 hh x<|List.mem_of_getElem? e1) k⟩) h
theorem Bt{R:RS}{r3 r4:Nat}:(dY R r1 r2).length=(dY R r3 r4).length:=by unfold dY;simp only[List.length_append,List.length_cons]
theorem Ke{R:RS}{s1 s2:Nat}(km:iM ρ σ)(hl:(dY R r1 r2).length<=top)(hR:ti R=true)(e1:∀x,ρ r1=some x->σ s1=some x)(e2:∀x,ρ r2=some x->σ s2=some x)(h:OR ρ N (bt<|dY R r1 r2) o'):OR σ N (bt<|dY R s1 s2) o':=by
 obtain⟨hp,hq⟩:=and_true.1 hR;refine Wg hl (by rw[Bt (r3:=r1) (r4:=r2)];exact hl) Bt (fun i x y k1 k2=>?_) h;unfold dY at k1 k2;by_cases c1:i<R.pre.length
 ·rw[List.getElem?_append_left c1] at k1 k2;rw[k1] at k2;cases k2;exact⟨id,fun v k=>AV.tY km (List.all_eq_true.1 hp x<|List.mem_of_getElem? k1) k⟩
 ·rw[List.getElem?_append_right ak] at k1 k2;generalize i - R.pre.length=j at k1 k2
  match j with
  |0=>simp only[List.getElem?_cons_zero,Option.some.injEq] at k1 k2;subst k1;subst k2;refine⟨fun _=>rfl,fun v k=>?_⟩;simp only[VR] at k ⊢;obtain⟨b,N,a1,a2⟩:=k;exact⟨b,N,e1 _ a1,a2⟩
  |1=>
   simp only[List.getElem?_cons_succ,List.getElem?_cons_zero,Option.some.injEq] at k1 k2;subst k1;subst k2;refine⟨fun _=>rfl,fun v k=>?_⟩;generalize R.cap=cp at k ⊢;cases cp<;>simp only[VR] at k ⊢
   ·obtain⟨b,N,a1,a2⟩:=k;exact⟨b,N,e2 _ a1,a2⟩
   ·obtain⟨b,N,c,a1,a2⟩:=k;exact⟨b,N,c,e2 _ a1,a2⟩
   ·obtain⟨l,b,N,p,c,a1,a2⟩:=k;exact⟨l,b,N,p,c,e2 _ a1,a2⟩
  |j+2=>simp only[List.getElem?_cons_succ] at k1 k2;rw[k1] at k2;cases k2;exact⟨id,fun v k=>AV.tY km (List.all_eq_true.1 hq x<|List.mem_of_getElem? k1) k⟩
theorem acU{P:Program}{B:aJ}{f U kp k:Nat}{ns:List Nat}{h0:Tr ae}{kn:List<|Nat×Option ae}{val:VS->List AV->Option (AV×VS)}{fn:Func}{body:Code}{w:World}{s1:AS}(hP:bB P)(ch:P.funcs[f]? =some fn)(cw:fn.body=some body)(dD:(fn.name == "runtime.NumGoroutine")=false)(fD:fH<=U)(dI:U+3<=top)(dE:∀n o,n<top->h0.get n=some o->n∈ns)(eh:∀n∈ns,n<U)(iA:∀n o,(n,some o)∈kn->h0.get n=some o)(iB:∀p∈kn,p.1<top)(eK:∀st rest y bq,val st rest=some (y,bq)->max fn.ntmps (rest.length+1)<=top/\∀B':aJ,B'.F=B.F->B'.inv=B.inv->
 av P B' (U+3) (ij U k P fn.results.toList y bq) ⟨f,dZ<|.ptr (some (U,0))::rest,max fn.ntmps<|rest.length+1,[.code body],[],none⟩ ⟨fL<|kn++bO (dP U k st),U+3,0,[],[]⟩){SI:aO}{args:List AV}{x:AV}{vs:Array Value}(r:Rel B ρ s.h w)(hg:gk ρ)(h:nz kp k val U ns h0 SI args s= .ok x s1)(hv:az ρ args vs.toList):jo P ((callFunc f vs).run P w)<|kg B ρ s s1 w x:=by
 unfold nz at h;split at h
 case h_2=>cases h
 rename_i n rest;obtain⟨ga,h⟩:=cX h;obtain⟨u,s2,h2,h⟩:=M.aR h;obtain⟨a1,a2,a3⟩:=tB h2;obtain⟨o,s3,k1,h⟩:=M.aR h;obtain⟨cs,m1,h⟩:=bu h;obtain⟨q,m2,h⟩:=bu h;obtain⟨o1,s4,k2,h⟩:=M.aR h;obtain⟨tv,m3,h⟩:=bu h;obtain⟨o2,s5,k3,h⟩:=M.aR h;obtain⟨row,m4,h⟩:=bu h;obtain⟨dm,h⟩:=cX h;obtain⟨Ii,eN⟩:=and_true.1 dm;obtain⟨cz,h⟩:=cX h;obtain⟨p,hp,h⟩:=bu h;obtain⟨kz,h⟩:=cX h;obtain⟨IS,hS⟩:=and_true.1 kz;obtain⟨hSR,hS⟩:=and_true.1 hS;obtain⟨ajd,hS⟩:=and_true.1 hS;obtain⟨R9,akH⟩:=and_true.1 hS;obtain⟨_,t1,w1,h⟩:=M.aR h;obtain⟨_,t2,w2,h⟩:=M.aR h;obtain⟨_,t3,w3,h⟩:=M.aR h;obtain⟨rfl,rfl⟩:=bH h;obtain⟨R,n1,n2⟩:=q;obtain⟨y,bq⟩:=p;have Fp:n≠n1/\n≠n2/\n1≠n2:=by
  obtain⟨c1,c2⟩:=and_true.1 cz;obtain⟨c2,c3⟩:=and_true.1 c2;refine⟨fun e=>?_,fun e=>?_,fun e=>?_⟩<;>subst e
  ·rw[eA.2 rfl] at c1;cases c1
  ·rw[eA.2 rfl] at c2;cases c2
  ·rw[show Nat.beq n1 n1=true from eA.2 rfl] at c3;cases c3
 obtain⟨d1,d2,d3⟩:=Fp;obtain⟨rfl,nC⟩:=GB m1;have uW:=TM m2;subst uW;have IT:=Ot m3;subst IT;obtain⟨rfl,zq⟩:=GB m4;obtain⟨b1,b2,b3,b4⟩:=fY k1;obtain⟨b5,b6,b7,b8⟩:=fY k2;obtain⟨b9,Sa,Sb,Sc⟩:=fY k3;obtain⟨x1,x2,_,x4,x5⟩:=jy w1;obtain⟨y1,y2,y3,y4⟩:=U4 w2;obtain⟨z1,z2,_,z4,z5⟩:=jy w3;have g1:s.h.get n=some (bt<|dY R n1 n2):=by rw[←a1];exact b2
 have g2:s.h.get n1=some (.tok k tv):=by rw[←a1, ←b3];exact b6
 have g3:s.h.get n2=some (bt row):=by rw[←a1, ←b3, ←b7];exact Sa
 let V:Vw:=[(U,n,bt<|dY R (U+1)<|U+2),(U+1,n1,.tok k tv),(U+2,n2,bt row)];have mem:∀q∈V,q=(U,n,bt<|dY R (U+1)<|U+2)\/q=(U+1,n1,.tok k tv)\/q=(U+2,n2,bt row):=fun q hq=>by simpa[V] using hq
 have V0:(U,n,bt<|dY R (U+1)<|U+2)∈V:=by simp[V]
 have V1:(U+1,n1,ae.tok k tv)∈V:=by simp[V]
 have V2:(U+2,n2,bt row)∈V:=by simp[V]
 have e0:eL U ρ V U=ρ n:=by
  unfold eL;rw[if_neg ak,if_neg ak];have:gj V U=some n:=by simp[gj,V]
  rw[this]
 have e1:eL U ρ V (U+1)=ρ n1:=by
  unfold eL;rw[if_neg ak,if_neg ak];have:gj V (U+1)=some n1:=by simp[gj,V]
  rw[this]
 have e2:eL U ρ V (U+2)=ρ n2:=by
  unfold eL;rw[if_neg ak,if_neg ak];have:gj V (U+2)=some n2:=by simp[gj,V]
  rw[this]
 have hi:iM ρ<|eL U ρ V:=fun m x hm e=>by rw[xO ak hm];exact e
 have hV:zg U ρ s.h V:=by
  refine⟨fun q hq=>?_,fun q hq q' dR e=>?_,fun q hq q' dR e=>?_,fun q hq=>?_⟩
  ·rcases mem q hq with rfl|rfl|rfl
   ·exact⟨Nat.le_refl _,by show U<top;omega,x2⟩
   ·exact⟨by show U<=U+1;omega,by show U+1<top;omega,y2⟩
   ·exact⟨by show U<=U+2;omega,by show U+2<top;omega,z2⟩
  ·rcases mem q hq with rfl|rfl|rfl<;>rcases mem q' dR with rfl|rfl|rfl<;>first|rfl|(simp only at e;omega)
  ·rcases mem q hq with rfl|rfl|rfl<;>rcases mem q' dR with rfl|rfl|rfl<;>first|rfl|(exact absurd e<|by assumption)|(exact absurd e.symm<|by assumption)
  ·rcases mem q hq with rfl|rfl|rfl
   ·exact⟨_,g1,.inl ⟨rfl,rfl,fun N o' hO=>Ke hi nC Ii (fun x e=>e1.trans e) (fun x e=>e2.trans e) hO⟩⟩
   ·exact⟨_,g2,.inr ⟨k,tv,rfl,rfl⟩⟩
   ·exact⟨_,g3,.inl ⟨rfl,rfl,fun N o' hO=>Al hi zq eN hO⟩⟩
 obtain⟨_,cV,T⟩:=r.tk;have T:CH B ρ s.h w cV:=T;have mY:=HD ak r T dE eh iA iB (fun n hn=>by obtain⟨_,o,p,h⟩:=a3 n hn;exact⟨o,p,h⟩) hV;obtain⟨q1,q2⟩:=eK _ _ _ _ hp;have fi:bE (⟨fL<|kn++bO (dP U k ⟨R,tv,row⟩),U+3,0,[],[]⟩:AS):=⟨Nat.zero_le _,dI⟩;have jJ:az (eL U ρ V) (.ptr (some (U,0))::rest) vs.toList:=by simp only[az,VR] at hv ⊢;obtain⟨v0,vr,q1,⟨b',N',q2,q3⟩,q4⟩:=hv;exact⟨v0,vr,q1,⟨b',N',e0.trans q2,q3⟩,AV.zW hi ga q4⟩
 have bI:=av.Em (B:=sa B ρ w<|wH ρ cV V) (s:=⟨fL<|kn++bO (dP U k ⟨R,tv,row⟩),U+3,0,[],[]⟩) (args:=.ptr (some (U,0))::rest) (vs:=vs) hP ch cw q1 (q2 _ rfl rfl) fi mY (fun g hZ=>by
  obtain⟨N,e⟩:=hg g hZ;exact⟨N,by rw[BN<|Nat.lt_of_lt_of_le hZ fD];exact e⟩) (fun m hm jt=>by
  have hm:U+3<=m:=hm;exact Gx ak jt fun q hq=>by rcases mem q hq with rfl|rfl|rfl<;>(show _≠m;simp only;omega)) jJ
 rw[tC ch cw dD];show Calls P f vs w _;refine bI.mono fun e w'=>?_;rintro ⟨zi,x',s7,rfl,⟨rfl,hL⟩,_,σ,i0,zj,i1,i2,i3⟩;have sV:∀q∈V,σ q.1=ρ q.2.1:=fun q hq=>by
  rcases mem q hq with rfl|rfl|rfl
  ·exact(i0 U ak ak).trans e0
  ·exact(i0 (U+1) ak ak).trans e1
  ·exact(i0 (U+2) ak ak).trans e2
 have j1:=hL U _ (by simp[dP];rfl);have j2:=hL (U+1) (.tok k bq.u) (by simp[dP]);have j3:=hL (U+2) (bt bq.row) (by simp[dP]);have lv:(dY bq.R (U+1)<|U+2).length<=top:=by rw[Bt (r3:=0) (r4:=0)];exact aL.1 R9
 have HG:∀k,k<top->cL ρ σ k=ρ k:=fun k hk=>by unfold cL;rw[if_neg ak]
 have oi:iM σ<|cL ρ σ:=fun k x hk e=>by unfold cL;rw[if_pos hk];exact e
 obtain⟨f1,f2,f3,f4⟩:=Hf (a:=s.nx) (L2:=[(n,bt<|dY bq.R n1 n2),(n1,.tok k bq.u),(n2,bt bq.row)]) (h':=s1.h) r T hV i2 i3 sV (fun m z hm q=>zj m z hm<|hi m z hm q) (fun m q hm=>by
  rcases List.mem_cons.1 hm with hm|hm
  ·cases hm;exact⟨_,V0,rfl,_,j1,.inl ⟨rfl,rfl,fun N o' hO=>Ke oi lv hSR (fun x e=>by rw[HG _ y2, ←sV _ V1];exact e) (fun x e=>by rw[HG _ z2, ←sV _ V2];exact e) hO⟩⟩
  rcases List.mem_cons.1 hm with hm|hm
  ·cases hm;exact⟨_,V1,rfl,_,j2,.inr ⟨k,_,tv,rfl,rfl,rfl⟩⟩
  rcases List.mem_cons.1 hm with hm|hm
  ·cases hm;exact⟨_,V2,rfl,_,j3,.inl ⟨rfl,rfl,fun N o' hO=>Al oi (aL.1 akH) ajd hO⟩⟩
  cases hm) (fun q hq cH=>by
  rcases mem q hq with rfl|rfl|rfl
  ·exact⟨_,j1,rfl⟩
  ·cases cH
  ·exact⟨_,j3,rfl⟩) (fun m hm=>by
  have IK:s1.h=((s.h.put n<|some<|bt<|dY bq.R n1 n2).put n1<|some<|.tok k bq.u).put n2 (some<|bt bq.row):=by rw[z4,y3,x4,Sb,b7,b3,a1]
  rw[IK,Tr.dt _ _ _ _ z2 hm,Tr.dt _ _ _ _ y2 hm,Tr.dt _ _ _ _ x2 hm];by_cases c3:m=n2
  ·subst c3;exact .inl ⟨_,by simp,if_pos rfl⟩
  rw[if_neg c3];by_cases c2:m=n1
  ·subst c2;exact .inl ⟨_,by simp,if_pos rfl⟩
  rw[if_neg c2];by_cases c1:m=n
  ·subst c1;exact .inl ⟨_,by simp,if_pos rfl⟩
  rw[if_neg c1];exact .inr ⟨fun q hq=>by rcases mem q hq with rfl|rfl|rfl<;>(intro e;exact absurd e.symm<|by assumption),rfl⟩)
 refine⟨zi,rfl,cL ρ σ,?_,AV.oY oi IS i1,f3,f4⟩;have cJ:s1.nx=s.nx:=by rw[z5,y4,x5,Sc,b8,b4,a2]
 rw[cJ];exact f1
section
variable {X:TX} {P:Program} {U kp k:Nat} {ns:List Nat} {h0:Tr ae} {kn:List<|Nat×Option ae} {L L':bU} {g:Nat} {fn:Func} {body:Code}
theorem JU(hP:bB P)(fD:fH<=U)(dI:U+3<=top)(dE:∀n o,n<top->h0.get n=some o->n∈ns)(eh:∀n∈ns,n<U)(iA:∀n o,(n,some o)∈kn->h0.get n=some o)(iB:∀p∈kn,p.1<top){val:VS->List AV->Option (AV×VS)}(h:dX X U P<|dv U ns h0 L)(h':dX X U P<|dv U ns h0 L')(ch:P.funcs[g]? =some fn)(cw:fn.body=some body)(dD:(fn.name == "runtime.NumGoroutine")=false)(eK:∀st rest y bq,val st rest=some (y,bq)->max fn.ntmps (rest.length+1)<=top/\∀B:aJ,qh X P U ns h0 L' B->
 av P B (U+3) (ij U k P fn.results.toList y bq) ⟨g,dZ<|.ptr (some (U,0))::rest,max fn.ntmps<|rest.length+1,[.code body],[],none⟩ ⟨fL<|kn++bO (dP U k st),U+3,0,[],[]⟩):dX X U P<|dv U ns h0<|(g,.raw<|nz kp k val)::L:=by
 refine(show dX X U P (pe (dv U ns h0 L) g<|nz kp k val U ns h0) from h.mK (fun SI _ args=>SH.nz _ _ _ _ _ _ SI args) fun B hB hT SI hc hl args x s s1 ρ w vs fi r hg hf hm hv=>?_);refine acU hP ch cw dD fD dI dE eh iA iB (fun st rest y bq e=>?_) r hg hm hv;obtain⟨q1,q2⟩:=eK st rest y bq e;exact⟨q1,fun B' kP kR=>q2 B'<|rj hP h' (kP.trans hB)<|kR.trans hT⟩
end
theorem HH(n:Nat)(o:Option ae)(s:AS):(fB n o s).nx=s.nx/\(fB n o s).h=s.h.put n o:=by unfold fB;cases Nat.blt n s.mark<;>exact⟨rfl,rfl⟩
theorem acV{P:Program}{g U kp k:Nat}{h0:Tr ae}{ns:List Nat}{val:VS->List AV->Option (AV×VS)}(h:sp g=some (nz kp k val U ns h0)){a:Nat}{st bq:VS}(hk:qg U h0 ns s=true)(hr:rest.all AV.hi=true)(hd:(!Nat.beq a r1&&(!Nat.beq a r2&& !Nat.beq r1 r2))=true)(hn:(Nat.blt a (dK U h0 ns s).nx&&(Nat.blt r1 (dK U h0 ns s).nx&&Nat.blt r2 (dK U h0 ns s).nx))=true)(ht:(Nat.blt a top&&(Nat.blt r1 top&&Nat.blt r2 top))=true)(g1:(dK U h0 ns s).h.get a=some (bt<|dY st.R r1 r2))(g2:(dK U h0 ns s).h.get r1=some (.tok k st.u))(g3:(dK U h0 ns s).h.get r2=some (bt st.row))(Dq:st.R.pre.length=kp)(ho:bQ kp st=true)(hv:val st rest=some (y,bq))(hy:y.hi=true)(kL:bQ kp bq=true):
 bg P sp F (n+1) (.fn g) (.ptr (some (a,0))::rest) s= .ok y (fB r2 (some<|bt bq.row)<|fB r1 (some<|.tok k bq.u)<|fB a (some<|bt<|dY bq.R r1 r2)<|bc r2<|bc r1<|bc a<|dK U h0 ns s):=by
 obtain⟨R,u,row⟩:=st;show j0 P sp g (bg P sp F n) (.ptr (some (a,0))::rest) s=_;rw[tX h];have C0:=ho;obtain⟨o1,ho⟩:=and_true.1 ho;obtain⟨o2,ho⟩:=and_true.1 ho;obtain⟨o3,o4⟩:=and_true.1 ho;obtain⟨n1,hn⟩:=and_true.1 hn;obtain⟨n2,n3⟩:=and_true.1 hn;obtain⟨t1,ht⟩:=and_true.1 ht;obtain⟨t2,t3⟩:=and_true.1 ht;have cz:a≠r1/\a≠r2/\r1≠r2:=by
  obtain⟨c1,c2⟩:=and_true.1 hd;obtain⟨c2,c3⟩:=and_true.1 c2;refine⟨fun e=>?_,fun e=>?_,fun e=>?_⟩<;>subst e
  ·rw[eA.2 rfl] at c1;cases c1
  ·rw[eA.2 rfl] at c2;cases c2
  ·rw[show Nat.beq r1 r1=true from eA.2 rfl] at c3;cases c3
 obtain⟨d1,d2,d3⟩:=cz;have ta:=(blt_eq _ _).mp t1;have tb:=(blt_eq _ _).mp t2;have tc:=(blt_eq _ _).mp t3;show(aF (rest.all AV.hi) <| (fe U h0 ns).bind fun _=>(bw a).bind fun o=>aC (rowOf o) fun cs=>aC (rootOf kp cs) fun q=>(bw q.2.1).bind fun o1=>aC (yw k o1) fun u=>(bw q.2.2).bind fun o2=>aC (rowOf o2) fun row=>
  aF (ti q.1&&row.all AV.cq) <| aF (!Nat.beq a q.2.1&&(!Nat.beq a q.2.2&& !Nat.beq q.2.1 q.2.2)) <| aC (val ⟨q.1,u,row⟩ rest) fun p=>aF (p.1.hi&&bQ kp p.2) <|
  (bM a<|some<|bt<|dY p.2.R q.2.1 q.2.2).bind fun _=>(lz q.2.1<|some<|.tok k p.2.u).bind fun _=>(bM q.2.2<|some<|bt p.2.row).bind fun _=>M.pure p.1) s=_
 rw[hr,dz,M.bN<|vI hk,M.bN<|lW n1 g1];generalize dK U h0 ns s=z at*;rw[GC (by rw[Bt (r3:=0) (r4:=0)];exact aL.1 o3),bW,Tj Dq,bW];have Sd:Nat.blt r1 (bc a z).nx=true:=by rw[(fN a z).2.1];exact n2
 have AR:(bc a z).h.get r1=some (.tok k u):=by rw[(fN a z).1];exact g2
 rw[M.bN<|lW Sd AR,Ou,bW];have Se:Nat.blt r2 (bc r1<|bc a z).nx=true:=by rw[(fN r1 _).2.1,(fN a z).2.1];exact n3
 have Sf:(bc r1<|bc a z).h.get r2=some (bt row):=by rw[(fN r1 _).1,(fN a z).1];exact g3
 rw[M.bN<|lW Se Sf,GC<|aL.1 o4,bW];show(aF (ti R&&row.all AV.cq) <| aF (!Nat.beq a r1&&(!Nat.beq a r2&& !Nat.beq r1 r2)) <| aC (val ⟨R,u,row⟩ rest) fun p=>aF (p.1.hi&&bQ kp p.2) <| (bM a<|some<|bt<|dY p.2.R r1 r2).bind fun _=>(lz r1<|some<|.tok k p.2.u).bind fun _=>(bM r2<|some<|bt p.2.row).bind fun _=>M.pure p.1) (bc r2<|bc r1<|bc a z)=_;rw[show ti R=true from o1,show row.all AV.cq=true from o2,hd,hv];show(aF true <| aF true <| aC (some (y,bq)) fun p=>aF (p.1.hi&&bQ kp p.2) <| (bM a<|some<|bt<|dY p.2.R r1 r2).bind fun _=>(lz r1<|some<|.tok k p.2.u).bind fun _=>(bM r2<|some<|bt p.2.row).bind fun _=>M.pure p.1) (bc r2<|bc r1<|bc a z)=_;rw[dz,dz,bW];show(aF (y.hi&&bQ kp bq) <| (bM a<|some<|bt<|dY bq.R r1 r2).bind fun _=>(lz r1<|some<|.tok k bq.u).bind fun _=>(bM r2<|some<|bt bq.row).bind fun _=>M.pure y) (bc r2<|bc r1<|bc a z)=_;rw[hy,kL];show(aF true <| (bM a<|some<|bt<|dY bq.R r1 r2).bind fun _=>(lz r1<|some<|.tok k bq.u).bind fun _=>(bM r2<|some<|bt bq.row).bind fun _=>M.pure y) (bc r2<|bc r1<|bc a z)=_;rw[dz];have zz:(bc r2<|bc r1<|bc a z).nx=z.nx/\(bc r2<|bc r1<|bc a z).h=z.h:=⟨by rw[(fN r2 _).2.1,(fN r1 _).2.1,(fN a z).2.1],by rw[(fN r2 _).1,(fN r1 _).1,(fN a z).1]⟩;generalize bc r2 (bc r1<|bc a z)=v at*;rw[M.bN<|xN (by rw[zz.1];exact n1) (by rw[zz.2];exact g1) rfl t1];have v1:(fB a (some<|bt<|dY bq.R r1 r2) v).h.get r1=some (.tok k u):=by rw[(HH _ _ _).2,Tr.dt _ _ _ _ ta tb,if_neg<|Ne.symm d1,zz.2];exact g2
 have v2:(fB a (some<|bt<|dY bq.R r1 r2) v).h.get r2=some (bt row):=by rw[(HH _ _ _).2,Tr.dt _ _ _ _ ta tc,if_neg<|Ne.symm d2,zz.2];exact g3
 have v3:(fB a (some<|bt<|dY bq.R r1 r2) v).nx=z.nx:=by rw[(HH _ _ _).1,zz.1]
 generalize fB a (some<|bt<|dY bq.R r1 r2) v=v' at*;rw[M.bN<|Po (by rw[v3];exact n2) v1 rfl t2];rw[M.bN<|xN (by rw[(HH _ _ _).1,v3];exact n3) (by rw[(HH _ _ _).2,Tr.dt _ _ _ _ tb tc,if_neg<|Ne.symm d3];exact v2) rfl t3];rfl
noncomputable section
def HI(U:Nat)(h0:Tr ae)(ns:List Nat)(k a r1 r2:Nat)(st:VS)(s:AS):Prop:=qg U h0 ns s=true/\(Nat.blt a (dK U h0 ns s).nx&&(Nat.blt r1 (dK U h0 ns s).nx&&Nat.blt r2 (dK U h0 ns s).nx))=true/\(dK U h0 ns s).h.get a=some (bt<|dY st.R r1 r2)/\(dK U h0 ns s).h.get r1=some (.tok k st.u)/\(dK U h0 ns s).h.get r2=some (bt st.row)
def LD(U:Nat)(h0:Tr ae)(ns:List Nat)(k a r1 r2:Nat)(bq:VS)(s:AS):AS:=fB r2 (some<|bt bq.row)<|fB r1 (some<|.tok k bq.u)<|fB a (some<|bt<|dY bq.R r1 r2)<|bc r2<|bc r1<|bc a<|dK U h0 ns s
def XR(U:Nat)(h0:Tr ae)(ns:List Nat)(a r1 r2:Nat)(s:AS):AS:=bc r2<|bc r1<|bc a<|dK U h0 ns s
end
theorem ahu{a b c:ae}{T:Prop}(t:T):(true=true/\true=true/\some a=some a/\some b=some b/\some c=some c)/\T:=⟨⟨rfl,rfl,rfl,rfl,rfl⟩,t⟩
theorem Pw{P:Program}{g U kp k:Nat}{h0:Tr ae}{ns:List Nat}{val:VS->List AV->Option (AV×VS)}(h:sp g=some (nz kp k val U ns h0)){a:Nat}{st bq:VS}(hr:rest.all AV.hi=true)(hd:(!Nat.beq a r1&&(!Nat.beq a r2&& !Nat.beq r1 r2))=true)(ht:(Nat.blt a top&&(Nat.blt r1 top&&Nat.blt r2 top))=true)(Dq:st.R.pre.length=kp)(ho:bQ kp st=true)(hv:val st rest=some (y,bq))(hy:y.hi=true)(kL:bQ kp bq=true):
 ∀s,HI U h0 ns k a r1 r2 st s->bg P sp F (n+1) (.fn g) (.ptr (some (a,0))::rest) s= .ok y (LD U h0 ns k a r1 r2 bq s):=
 fun _ q=>acV h q.1 hr hd q.2.1 ht q.2.2.1 q.2.2.2.1 q.2.2.2.2 Dq ho hv hy kL
end Go.Rn
namespace Go.Rn
open Go.RowKit
variable {y:AV} {st:VS} {sp:Sp} {s:AS} {rest:List AV} {r2 r1 n a:Nat} {F:Nat->Option (List AV)}
noncomputable section
def nA(kp k:Nat)(val:VS->List AV->Option AV)(U:Nat)(ns:List Nat)(h0:Tr ae):aO->List AV->M AV:=fun _ args=>match args with
 | .ptr (some (n,0))::rest=>aF (rest.all AV.hi) <| (fe U h0 ns).bind fun _=>(bw n).bind fun o=>aC (rowOf o) fun cs=>aC (rootOf kp cs) fun q=>(bw q.2.1).bind fun o1=>aC (yw k o1) fun u=>(bw q.2.2).bind fun o2=>aC (rowOf o2) fun row=>aF (ti q.1&&row.all AV.cq) <| aF (!Nat.beq n q.2.1&&(!Nat.beq n q.2.2&& !Nat.beq q.2.1 q.2.2)) <| aC (val ⟨q.1,u,row⟩ rest) fun y=>aF (y.hi&&(Nat.blt n top&&(Nat.blt q.2.1 top&&Nat.blt q.2.2 top))) <| M.pure y
 |_=>fail
end
theorem SH.nA(kp k:Nat)(val:VS->List AV->Option AV)(U:Nat)(ns:List Nat)(h0:Tr ae)(SI:aO)(args:List AV):SH<|nA kp k val U ns h0 SI args:=by
 unfold Rn.nA;split
 ·exact SH.aF fun _=>SH.bind (SH.fe U h0 ns) fun _=>SH.bind (SH.bw _) fun _=>SH.aC fun _ _=>SH.aC fun _ _=>SH.bind (SH.bw _) fun _=>SH.aC fun _ _=>SH.bind (SH.bw _) fun _=>SH.aC fun _ _=>SH.aF fun _=>SH.aF fun _=>SH.aC fun _ _=>SH.aF fun _=>SH.pure _
 ·exact SH.fail
theorem ac0{P:Program}{B:aJ}{f U kp k:Nat}{ns:List Nat}{h0:Tr ae}{kn:List<|Nat×Option ae}{val:VS->List AV->Option AV}{fn:Func}{body:Code}{ρ:aw}{w:World}{s1:AS}(hP:bB P)(ch:P.funcs[f]? =some fn)(cw:fn.body=some body)(dD:(fn.name == "runtime.NumGoroutine")=false)(fD:fH<=U)(dI:U+3<=top)(dE:∀n o,n<top->h0.get n=some o->n∈ns)(eh:∀n∈ns,n<U)(iA:∀n o,(n,some o)∈kn->h0.get n=some o)(iB:∀p∈kn,p.1<top)(eK:∀st rest y,val st rest=some y->bQ kp st=true->max fn.ntmps (rest.length+1)<=top/\∀B':aJ,B'.F=B.F->B'.inv=B.inv->
 av P B' (U+3) (ij U k P fn.results.toList y st) ⟨f,dZ<|.ptr (some (U,0))::rest,max fn.ntmps<|rest.length+1,[.code body],[],none⟩ ⟨fL<|kn++bO (dP U k st),U+3,0,[],[]⟩){SI:aO}{args:List AV}{x:AV}{vs:Array Value}(r:Rel B ρ s.h w)(hg:gk ρ)(h:nA kp k val U ns h0 SI args s= .ok x s1)(hv:az ρ args vs.toList):jo P ((callFunc f vs).run P w)<|kg B ρ s s1 w x:=by
 unfold nA at h;split at h
 case h_2=>cases h
 rename_i n rest;obtain⟨ga,h⟩:=cX h;obtain⟨u,s2,h2,h⟩:=M.aR h;obtain⟨a1,a2,a3⟩:=tB h2;obtain⟨o,s3,k1,h⟩:=M.aR h;obtain⟨cs,m1,h⟩:=bu h;obtain⟨q,m2,h⟩:=bu h;obtain⟨o1,s4,k2,h⟩:=M.aR h;obtain⟨tv,m3,h⟩:=bu h;obtain⟨o2,s5,k3,h⟩:=M.aR h;obtain⟨row,m4,h⟩:=bu h;obtain⟨dm,h⟩:=cX h;obtain⟨Ii,eN⟩:=and_true.1 dm;obtain⟨cz,h⟩:=cX h;obtain⟨y,hp,h⟩:=bu h;obtain⟨kz,h⟩:=cX h;obtain⟨IS,kz⟩:=and_true.1 kz;obtain⟨x2,kz⟩:=and_true.1 kz;obtain⟨y2,z2⟩:=and_true.1 kz;have x2:=(blt_eq _ _).mp x2;have y2:=(blt_eq _ _).mp y2;have z2:=(blt_eq _ _).mp z2;obtain⟨rfl,rfl⟩:=bH h;obtain⟨R,n1,n2⟩:=q;have Fp:n≠n1/\n≠n2/\n1≠n2:=by
  obtain⟨c1,c2⟩:=and_true.1 cz;obtain⟨c2,c3⟩:=and_true.1 c2;refine⟨fun e=>?_,fun e=>?_,fun e=>?_⟩<;>subst e
  ·rw[eA.2 rfl] at c1;cases c1
  ·rw[eA.2 rfl] at c2;cases c2
  ·rw[show Nat.beq n1 n1=true from eA.2 rfl] at c3;cases c3
 obtain⟨d1,d2,d3⟩:=Fp;obtain⟨rfl,nC⟩:=GB m1;have uW:=TM m2;subst uW;have IT:=Ot m3;subst IT;obtain⟨rfl,zq⟩:=GB m4;obtain⟨b1,b2,b3,b4⟩:=fY k1;obtain⟨b5,b6,b7,b8⟩:=fY k2;obtain⟨b9,Sa,Sb,Sc⟩:=fY k3;have g1:s.h.get n=some (bt<|dY R n1 n2):=by rw[←a1];exact b2
 have g2:s.h.get n1=some (.tok k tv):=by rw[←a1, ←b3];exact b6
 have g3:s.h.get n2=some (bt row):=by rw[←a1, ←b3, ←b7];exact Sa
 let V:Vw:=[(U,n,bt<|dY R (U+1)<|U+2),(U+1,n1,.tok k tv),(U+2,n2,bt row)];have mem:∀q∈V,q=(U,n,bt<|dY R (U+1)<|U+2)\/q=(U+1,n1,.tok k tv)\/q=(U+2,n2,bt row):=fun q hq=>by simpa[V] using hq
 have V0:(U,n,bt<|dY R (U+1)<|U+2)∈V:=by simp[V]
 have V1:(U+1,n1,ae.tok k tv)∈V:=by simp[V]
 have V2:(U+2,n2,bt row)∈V:=by simp[V]
 have e0:eL U ρ V U=ρ n:=by
  unfold eL;rw[if_neg ak,if_neg ak];have:gj V U=some n:=by simp[gj,V]
  rw[this]
 have e1:eL U ρ V (U+1)=ρ n1:=by
  unfold eL;rw[if_neg ak,if_neg ak];have:gj V (U+1)=some n1:=by simp[gj,V]
  rw[this]
 have e2:eL U ρ V (U+2)=ρ n2:=by
  unfold eL;rw[if_neg ak,if_neg ak];have:gj V (U+2)=some n2:=by simp[gj,V]
  rw[this]
 have hi:iM ρ<|eL U ρ V:=fun m x hm e=>by rw[xO ak hm];exact e
 have hV:zg U ρ s.h V:=by
  refine⟨fun q hq=>?_,fun q hq q' dR e=>?_,fun q hq q' dR e=>?_,fun q hq=>?_⟩
  ·rcases mem q hq with rfl|rfl|rfl
   ·exact⟨Nat.le_refl _,by show U<top;omega,x2⟩
   ·exact⟨by show U<=U+1;omega,by show U+1<top;omega,y2⟩
   ·exact⟨by show U<=U+2;omega,by show U+2<top;omega,z2⟩
  ·rcases mem q hq with rfl|rfl|rfl<;>rcases mem q' dR with rfl|rfl|rfl<;>first|rfl|(simp only at e;omega)
  ·rcases mem q hq with rfl|rfl|rfl<;>rcases mem q' dR with rfl|rfl|rfl<;>first|rfl|(exact absurd e<|by assumption)|(exact absurd e.symm<|by assumption)
  ·rcases mem q hq with rfl|rfl|rfl
   ·exact⟨_,g1,.inl ⟨rfl,rfl,fun N o' hO=>Ke hi nC Ii (fun x e=>e1.trans e) (fun x e=>e2.trans e) hO⟩⟩
   ·exact⟨_,g2,.inr ⟨k,tv,rfl,rfl⟩⟩
   ·exact⟨_,g3,.inl ⟨rfl,rfl,fun N o' hO=>Al hi zq eN hO⟩⟩
 obtain⟨_,cV,T⟩:=r.tk;have T:CH B ρ s.h w cV:=T;have mY:=HD ak r T dE eh iA iB (fun n hn=>by obtain⟨_,o,p,h⟩:=a3 n hn;exact⟨o,p,h⟩) hV;have hS:bQ kp ⟨R,tv,row⟩=true:=and_true.2 ⟨Ii,and_true.2 ⟨eN,and_true.2 ⟨aL.2 (by rw[Bt (r3:=n1) (r4:=n2)];exact nC),aL.2 zq⟩⟩⟩;obtain⟨q1,q2⟩:=eK _ _ _ hp hS;have fi:bE (⟨fL<|kn++bO (dP U k ⟨R,tv,row⟩),U+3,0,[],[]⟩:AS):=⟨Nat.zero_le _,dI⟩;have jJ:az (eL U ρ V) (.ptr (some (U,0))::rest) vs.toList:=by simp only[az,VR] at hv ⊢;obtain⟨v0,vr,q1,⟨b',N',q2,q3⟩,q4⟩:=hv;exact⟨v0,vr,q1,⟨b',N',e0.trans q2,q3⟩,AV.zW hi ga q4⟩
 have bI:=av.Em (B:=sa B ρ w<|wH ρ cV V) (s:=⟨fL<|kn++bO (dP U k ⟨R,tv,row⟩),U+3,0,[],[]⟩) (args:=.ptr (some (U,0))::rest) (vs:=vs) hP ch cw q1 (q2 _ rfl rfl) fi mY (fun g hZ=>by
  obtain⟨N,e⟩:=hg g hZ;exact⟨N,by rw[BN<|Nat.lt_of_lt_of_le hZ fD];exact e⟩) (fun m hm jt=>by
  have hm:U+3<=m:=hm;exact Gx ak jt fun q hq=>by rcases mem q hq with rfl|rfl|rfl<;>(show _≠m;simp only;omega)) jJ
 rw[tC ch cw dD];show Calls P f vs w _;refine bI.mono fun e w'=>?_;rintro ⟨zi,x',s7,rfl,⟨rfl,hL⟩,_,σ,i0,zj,i1,i2,i3⟩;have sV:∀q∈V,σ q.1=ρ q.2.1:=fun q hq=>by
  rcases mem q hq with rfl|rfl|rfl
  ·exact(i0 U ak ak).trans e0
  ·exact(i0 (U+1) ak ak).trans e1
  ·exact(i0 (U+2) ak ak).trans e2
 have j1:=hL U (bt<|dY R (U+1)<|U+2) (by simp[dP]);have j2:=hL (U+1) (.tok k tv) (by simp[dP]);have j3:=hL (U+2) (bt row) (by simp[dP]);have lv:(dY R (U+1)<|U+2).length<=top:=by rw[Bt (r3:=n1) (r4:=n2)];exact nC
 have HG:∀k,k<top->cL ρ σ k=ρ k:=fun k hk=>by unfold cL;rw[if_neg ak]
 have oi:iM σ<|cL ρ σ:=fun k x hk e=>by unfold cL;rw[if_pos hk];exact e
 have hh1:s1.h=s.h:=by rw[Sb,b7,b3,a1]
 obtain⟨f1,f2,f3,f4⟩:=Hf (a:=s.nx) (L2:=[(n,bt<|dY R n1 n2),(n1,.tok k tv),(n2,bt row)]) (h':=s1.h) r T hV i2 i3 sV (fun m z hm q=>zj m z hm<|hi m z hm q) (fun m q hm=>by
  rcases List.mem_cons.1 hm with hm|hm
  ·cases hm;exact⟨_,V0,rfl,_,j1,.inl ⟨rfl,rfl,fun N o' hO=>Ke oi lv Ii (fun x e=>by rw[HG _ y2, ←sV _ V1];exact e) (fun x e=>by rw[HG _ z2, ←sV _ V2];exact e) hO⟩⟩
  rcases List.mem_cons.1 hm with hm|hm
  ·cases hm;exact⟨_,V1,rfl,_,j2,.inr ⟨k,_,tv,rfl,rfl,rfl⟩⟩
  rcases List.mem_cons.1 hm with hm|hm
  ·cases hm;exact⟨_,V2,rfl,_,j3,.inl ⟨rfl,rfl,fun N o' hO=>Al oi zq eN hO⟩⟩
  cases hm) (fun q hq cH=>by
  rcases mem q hq with rfl|rfl|rfl
  ·exact⟨_,j1,rfl⟩
  ·cases cH
  ·exact⟨_,j3,rfl⟩) (fun m hm=>by
  rw[hh1];by_cases c3:m=n2
  ·subst c3;exact .inl ⟨_,by simp,g3⟩
  by_cases c2:m=n1
  ·subst c2;exact .inl ⟨_,by simp,g2⟩
  by_cases c1:m=n
  ·subst c1;exact .inl ⟨_,by simp,g1⟩
  exact .inr ⟨fun q hq=>by rcases mem q hq with rfl|rfl|rfl<;>(intro e;exact absurd e.symm<|by assumption),rfl⟩)
 refine⟨zi,rfl,cL ρ σ,?_,AV.oY oi IS i1,f3,f4⟩;have cJ:s1.nx=s.nx:=by rw[Sc,b8,b4,a2]
 rw[cJ];exact f1
section
variable {X:TX} {P:Program} {U kp k:Nat} {ns:List Nat} {h0:Tr ae} {kn:List<|Nat×Option ae} {L L':bU} {g:Nat} {fn:Func} {body:Code}
theorem GF(hP:bB P)(fD:fH<=U)(dI:U+3<=top)(dE:∀n o,n<top->h0.get n=some o->n∈ns)(eh:∀n∈ns,n<U)(iA:∀n o,(n,some o)∈kn->h0.get n=some o)(iB:∀p∈kn,p.1<top){val:VS->List AV->Option AV}(h:dX X U P<|dv U ns h0 L)(h':dX X U P<|dv U ns h0 L')(ch:P.funcs[g]? =some fn)(cw:fn.body=some body)(dD:(fn.name == "runtime.NumGoroutine")=false)(eK:∀st rest y,val st rest=some y->bQ kp st=true->max fn.ntmps (rest.length+1)<=top/\∀B:aJ,qh X P U ns h0 L' B->
 av P B (U+3) (ij U k P fn.results.toList y st) ⟨g,dZ<|.ptr (some (U,0))::rest,max fn.ntmps<|rest.length+1,[.code body],[],none⟩ ⟨fL<|kn++bO (dP U k st),U+3,0,[],[]⟩):dX X U P<|dv U ns h0<|(g,.raw<|nA kp k val)::L:=by
 refine(show dX X U P (pe (dv U ns h0 L) g<|nA kp k val U ns h0) from h.mK (fun SI _ args=>SH.nA _ _ _ _ _ _ SI args) fun B hB hT SI hc hl args x s s1 ρ w vs fi r hg hf hm hv=>?_);refine ac0 hP ch cw dD fD dI dE eh iA iB (fun st rest y e eo=>?_) r hg hm hv;obtain⟨q1,q2⟩:=eK st rest y e eo;exact⟨q1,fun B' kP kR=>q2 B'<|rj hP h' (kP.trans hB)<|kR.trans hT⟩
end
theorem ab2{P:Program}{g U kp k:Nat}{h0:Tr ae}{ns:List Nat}{val:VS->List AV->Option AV}(h:sp g=some (nA kp k val U ns h0))(hk:qg U h0 ns s=true)(hr:rest.all AV.hi=true)(hd:(!Nat.beq a r1&&(!Nat.beq a r2&& !Nat.beq r1 r2))=true)(hn:(Nat.blt a (dK U h0 ns s).nx&&(Nat.blt r1 (dK U h0 ns s).nx&&Nat.blt r2 (dK U h0 ns s).nx))=true)(ht:(Nat.blt a top&&(Nat.blt r1 top&&Nat.blt r2 top))=true)(g1:(dK U h0 ns s).h.get a=some (bt<|dY st.R r1 r2))(g2:(dK U h0 ns s).h.get r1=some (.tok k st.u))(g3:(dK U h0 ns s).h.get r2=some (bt st.row))(Dq:st.R.pre.length=kp)(ho:bQ kp st=true)(hv:val st rest=some y)(hy:y.hi=true):
 bg P sp F (n+1) (.fn g) (.ptr (some (a,0))::rest) s= .ok y (bc r2<|bc r1<|bc a<|dK U h0 ns s):=by
 obtain⟨R,u,row⟩:=st;show j0 P sp g (bg P sp F n) (.ptr (some (a,0))::rest) s=_;rw[tX h];have C0:=ho;obtain⟨o1,ho⟩:=and_true.1 ho;obtain⟨o2,ho⟩:=and_true.1 ho;obtain⟨o3,o4⟩:=and_true.1 ho;obtain⟨n1,hn⟩:=and_true.1 hn;obtain⟨n2,n3⟩:=and_true.1 hn;obtain⟨t1,ht⟩:=and_true.1 ht;obtain⟨t2,t3⟩:=and_true.1 ht;have cz:a≠r1/\a≠r2/\r1≠r2:=by
  obtain⟨c1,c2⟩:=and_true.1 hd;obtain⟨c2,c3⟩:=and_true.1 c2;refine⟨fun e=>?_,fun e=>?_,fun e=>?_⟩<;>subst e
  ·rw[eA.2 rfl] at c1;cases c1
  ·rw[eA.2 rfl] at c2;cases c2
  ·rw[show Nat.beq r1 r1=true from eA.2 rfl] at c3;cases c3
 obtain⟨d1,d2,d3⟩:=cz;have ta:=(blt_eq _ _).mp t1;have tb:=(blt_eq _ _).mp t2;have tc:=(blt_eq _ _).mp t3;show(aF (rest.all AV.hi) <| (fe U h0 ns).bind fun _=>(bw a).bind fun o=>aC (rowOf o) fun cs=>aC (rootOf kp cs) fun q=>(bw q.2.1).bind fun o1=>aC (yw k o1) fun u=>(bw q.2.2).bind fun o2=>aC (rowOf o2) fun row=>aF (ti q.1&&row.all AV.cq) <| aF (!Nat.beq a q.2.1&&(!Nat.beq a q.2.2&& !Nat.beq q.2.1 q.2.2)) <| aC (val ⟨q.1,u,row⟩ rest) fun y=>aF (y.hi&&(Nat.blt a top&&(Nat.blt q.2.1 top&&Nat.blt q.2.2 top))) <| M.pure y) s=_;rw[hr,dz,M.bN<|vI hk,M.bN<|lW n1 g1];generalize dK U h0 ns s=z at*;rw[GC (by rw[Bt (r3:=0) (r4:=0)];exact aL.1 o3),bW,Tj Dq,bW];have Sd:Nat.blt r1 (bc a z).nx=true:=by rw[(fN a z).2.1];exact n2
 have AR:(bc a z).h.get r1=some (.tok k u):=by rw[(fN a z).1];exact g2
 rw[M.bN<|lW Sd AR,Ou,bW];have Se:Nat.blt r2 (bc r1<|bc a z).nx=true:=by rw[(fN r1 _).2.1,(fN a z).2.1];exact n3
 have Sf:(bc r1<|bc a z).h.get r2=some (bt row):=by rw[(fN r1 _).1,(fN a z).1];exact g3
 rw[M.bN<|lW Se Sf,GC<|aL.1 o4,bW];show(aF (ti R&&row.all AV.cq) <| aF (!Nat.beq a r1&&(!Nat.beq a r2&& !Nat.beq r1 r2)) <| aC (val ⟨R,u,row⟩ rest) fun y=>aF (y.hi&&(Nat.blt a top&&(Nat.blt r1 top&&Nat.blt r2 top))) <| M.pure y) (bc r2<|bc r1<|bc a z)=_;rw[show ti R=true from o1,show row.all AV.cq=true from o2,hd,hv];show(aF true <| aF true <| aC (some y) fun y=>aF (y.hi&&(Nat.blt a top&&(Nat.blt r1 top&&Nat.blt r2 top))) <| M.pure y) (bc r2<|bc r1<|bc a z)=_;rw[dz,dz,bW,hy,t1,t2,t3];rfl
theorem aeg{P:Program}{g U kp k:Nat}{h0:Tr ae}{ns:List Nat}{val:VS->List AV->Option AV}(h:sp g=some (nA kp k val U ns h0))(hr:rest.all AV.hi=true)(hd:(!Nat.beq a r1&&(!Nat.beq a r2&& !Nat.beq r1 r2))=true)(ht:(Nat.blt a top&&(Nat.blt r1 top&&Nat.blt r2 top))=true)(Dq:st.R.pre.length=kp)(ho:bQ kp st=true)(hv:val st rest=some y)(hy:y.hi=true):
 ∀s,HI U h0 ns k a r1 r2 st s->bg P sp F (n+1) (.fn g) (.ptr (some (a,0))::rest) s= .ok y (XR U h0 ns a r1 r2 s):=
 fun _ q=>ab2 h q.1 hr hd q.2.1 ht q.2.2.1 q.2.2.2.1 q.2.2.2.2 Dq ho hv hy
end Go.Rn
namespace Go.Rn
open Go.RowKit
variable {rest:List AV} {n:Nat}
noncomputable section
def lQ(k:Nat)(val:AV->List AV->Option AV)(U:Nat)(ns:List Nat)(h0:Tr ae):aO->List AV->M AV:=fun _ args=>match args with
 | .ptr (some (n,0))::rest=>aF (rest.all AV.hi&&Nat.ble U n) <| (fe U h0 ns).bind fun _=>(bw n).bind fun o=>aC (yw k o) fun v=>aC (val v rest) fun y=>aF (y.hi&&Nat.blt n top) <| M.pure y
 |_=>fail
end
theorem SH.lQ(k:Nat)(val:AV->List AV->Option AV)(U:Nat)(ns:List Nat)(h0:Tr ae)(SI:aO)(args:List AV):SH<|lQ k val U ns h0 SI args:=by
 unfold Rn.lQ;split
 ·exact SH.aF fun _=>SH.bind (SH.fe U h0 ns) fun _=>SH.bind (SH.bw _) fun _=>SH.aC fun _ _=>SH.aC fun _ _=>SH.aF fun _=>SH.pure _
 ·exact SH.fail
noncomputable def E9(val:AV->List AV->Option AV)(v:AV)(rest:List AV):Option<|AV×AV:=(val v rest).map fun y=>(y,v)
theorem ac8{U k:Nat}{ns:List Nat}{h0:Tr ae}{val:AV->List AV->Option AV}{SI:aO}{x:AV}{s s1:AS}(h:lQ k val U ns h0 SI (.ptr (some (n,0))::rest) s= .ok x s1):
 ∃F6,yK U ns h0 k (E9 val) SI (.ptr (some (n,0))::rest) s= .ok x F6/\F6.nx=s1.nx/\∀m,m<top->s1.h.get m=F6.h.get m:=by
 unfold lQ at h;obtain⟨hh,h1⟩:=cX h;obtain⟨u,s2,h2,h3⟩:=M.aR h1;obtain⟨o,s3,h4,h5⟩:=M.aR h3;obtain⟨v,h6,h7⟩:=bu h5;obtain⟨y,h8,h9⟩:=bu h7;obtain⟨gH,uV⟩:=cX h9;obtain⟨hy,ht⟩:=and_true.1 gH;obtain⟨rfl,rfl⟩:=bH uV;have ho:=Ot h6;subst ho;obtain⟨b1,b2,b3,b4⟩:=fY h4;have hg:s1.h.get n=some (.tok k v):=by rw[b3];exact b2
 have hn:Nat.blt n s1.nx=true:=(blt_eq _ _).mpr (by rw[b4];exact b1);have hw:=Po (p:=.tok k v) (o:=some<|.tok k v) hn hg rfl ht;refine⟨fB n (some<|.tok k v) s1,?_,?_,fun m hm=>?_⟩
 ·show(aF (rest.all AV.hi&&Nat.ble U n) <| (fe U h0 ns).bind fun _=>(bw n).bind fun o=>match o with
   | .tok k' v=>aF (Nat.beq k k') <| aC (E9 val v rest) fun p=>aF p.1.hi <| (lz n<|some<|.tok k p.2).bind fun _=>M.pure p.1
   |_=>fail) s=_
  rw[hh,dz,M.bN h2,M.bN h4];show(aF (Nat.beq k k) <| aC (E9 val v rest) fun p=>aF p.1.hi <| (lz n<|some<|.tok k p.2).bind fun _=>M.pure p.1) s1=_;rw[eA.2 rfl,dz];unfold E9;rw[h8];show(aF x.hi <| (lz n<|some<|.tok k v).bind fun _=>M.pure x) s1=_;rw[hy,dz,M.bN hw];rfl
 ·unfold fB;cases Nat.blt n s1.mark<;>rfl
 ·have e:(fB n (some<|.tok k v) s1).h=s1.h.put n (some<|.tok k v):=by unfold fB;cases Nat.blt n s1.mark<;>rfl
  rw[e,Tr.lV _ _ _ _<|(blt_eq _ _).mp ht];by_cases q:m=n
  ·rw[if_pos q,q,hg]
  ·rw[if_neg q]
section
variable {X:TX} {P:Program} {U k:Nat} {ns:List Nat} {h0:Tr ae} {kn:List<|Nat×Option ae} {L L':bU} {g:Nat} {fn:Func} {body:Code}
theorem O3(hX:zb X U)(hP:bB P)(fD:fH<=U)(dI:U<=top)(dE:∀n o,n<top->h0.get n=some o->n∈ns)(eh:∀n∈ns,n<U)(iA:∀n o,(n,some o)∈kn->h0.get n=some o)(iB:∀p∈kn,p.1<top){val:AV->List AV->Option AV}(h:dX X U P<|dv U ns h0 L)(h':dX X U P<|dv U ns h0 L')(ch:P.funcs[g]? =some fn)(cw:fn.body=some body)(dD:(fn.name == "runtime.NumGoroutine")=false)(eK:∀v rest y,val v rest=some y->max fn.ntmps (rest.length+1)<=top/\∀L,X k v L->∃nx,U<nx/\nx<=top/\(∀p∈L,p.1<nx)/\∀B:aJ,qh X P U ns h0 L' B->
 av P B (U+1) (mf X P fn.results.toList k y v) ⟨g,dZ<|.ptr (some (U,0))::rest,max fn.ntmps<|rest.length+1,[.code body],[],none⟩ ⟨fL<|kn++bO L,nx,0,[],[]⟩):dX X U P<|dv U ns h0<|(g,.raw<|lQ k val)::L:=by
 refine(show dX X U P (pe (dv U ns h0 L) g<|lQ k val U ns h0) from h.mK (fun SI _ args=>SH.lQ _ _ _ _ _ SI args) fun B hB hT SI hc hl args x s s1 ρ w vs fi r hg hf hm hv=>?_);have ha:∃n rest,args= .ptr (some (n,0))::rest:=by
  unfold lQ at hm;split at hm
  ·exact⟨_,_,rfl⟩
  ·cases hm
 obtain⟨n,rest,rfl⟩:=ha;obtain⟨F6,e1,e2,e3⟩:=ac8 hm;have key:=U5 (val:=E9 val) hX hT hP ch cw dD fD dI dE eh iA iB (fun v rest y v' e=>by
  unfold E9 at e;cases q:val v rest with
  |none=>rw[q] at e;cases e
  |some y1=>
   rw[q] at e;injection e with e;injection e with e1 e2
   subst e1;subst e2;obtain⟨q1,q2⟩:=eK v rest y1 q;refine⟨q1,fun L1 hL=>?_⟩;obtain⟨nx,n1,n2,n3,q3⟩:=q2 L1 hL;exact⟨nx,n1,n2,n3,fun B' kP kR=>q3 B'<|rj hP h' (kP.trans hB)<|kR.trans hT⟩) r hg e1 hv
 rw[tC ch cw dD] at key ⊢;refine Calls.mono key fun e w'=>?_;rintro ⟨y,rfl,σ,c1,c2,c3,c4⟩;exact⟨y,rfl,σ,by rw[←e2];exact c1,c2,c3.congr e3,c4⟩
end
noncomputable section
def YV(U:Nat)(h0:Tr ae)(ns:List Nat)(k n:Nat)(v:AV)(s:AS):Prop:=qg U h0 ns s=true/\Nat.blt n (dK U h0 ns s).nx=true/\(dK U h0 ns s).h.get n=some (.tok k v)
def YW(U:Nat)(h0:Tr ae)(ns:List Nat)(n:Nat)(s:AS):AS:=bc n<|dK U h0 ns s
end
theorem af8{P:Program}{F:Nat->Option (List AV)}{sp:Sp}{g m U k:Nat}{h0:Tr ae}{ns:List Nat}{val:AV->List AV->Option AV}(h:sp g=some (lQ k val U ns h0)){v y:AV}(hr:(rest.all AV.hi&&Nat.ble U n)=true)(ht:Nat.blt n top=true)(hv:val v rest=some y)(hy:y.hi=true):
 ∀s,YV U h0 ns k n v s->bg P sp F (m+1) (.fn g) (.ptr (some (n,0))::rest) s= .ok y (YW U h0 ns n s):=fun s q=>by
 obtain⟨q1,q2,q3⟩:=q;show j0 P sp g (bg P sp F m) (.ptr (some (n,0))::rest) s=_;rw[tX h];show(aF (rest.all AV.hi&&Nat.ble U n) <| (fe U h0 ns).bind fun _=>(bw n).bind fun o=>aC (yw k o) fun v=>aC (val v rest) fun y=>aF (y.hi&&Nat.blt n top) <| M.pure y) s=_;rw[hr,dz,M.bN<|vI q1,M.bN<|lW q2 q3,Ou,bW,hv,bW,hy,ht];rfl
end Go.Rn
namespace Go.Rn
open Go.RowKit
noncomputable section
def uM(val:List AV->List AV->Option (AV×List AV))(U:Nat)(ns:List Nat)(h0:Tr ae):aO->List AV->M AV:=fun _ args=>match args with
  | .ptr (some (n,0))::rest=>aF (rest.all AV.hi) <| (fe U h0 ns).bind fun _=>(bw n).bind fun o=>aC (rowOf o) fun cs=>aF (cs.all AV.cq) <| aC (val cs rest) fun p=>aF (p.1.hi&&(p.2.all AV.cq&&Nat.ble p.2.length top)) <|
    (bM n<|some<|bt p.2).bind fun _=>M.pure p.1
  |_=>fail
end
theorem SH.uM(val:List AV->List AV->Option (AV×List AV))(U:Nat)(ns:List Nat)(h0:Tr ae)(SI:aO)(args:List AV):SH<|uM val U ns h0 SI args:=by
 unfold Rn.uM;split
 ·exact SH.aF fun _=>SH.bind (SH.fe U h0 ns) fun _=>SH.bind (SH.bw _) fun _=>SH.aC fun _ _=>SH.aF fun _=>SH.aC fun _ _=>SH.aF fun _=>SH.bind (SH.bM _ _) fun _=>SH.pure _
 ·exact SH.fail
def YX(U:Nat)(P:Program)(rs:List ResultVar)(y:AV)(cs:List AV):=Fin P rs fun y1 s'=>y1=y/\s'.h.get U=some (bt cs)
theorem aeu{P:Program}{B:aJ}{f U:Nat}{ns:List Nat}{h0:Tr ae}{kn:List<|Nat×Option ae}{val:List AV->List AV->Option (AV×List AV)}{fn:Func}{body:Code}{ρ:aw}{w:World}{s s1:AS}(hP:bB P)(ch:P.funcs[f]? =some fn)(cw:fn.body=some body)(dD:(fn.name == "runtime.NumGoroutine")=false)(fD:fH<=U)(dI:U+1<=top)(dE:∀n o,n<top->h0.get n=some o->n∈ns)(eh:∀n∈ns,n<U)(iA:∀n o,(n,some o)∈kn->h0.get n=some o)(iB:∀p∈kn,p.1<top)(eK:∀cs rest y kv,val cs rest=some (y,kv)->max fn.ntmps (rest.length+1)<=top/\∀B':aJ,B'.F=B.F->B'.inv=B.inv->
 av P B' (U+1) (YX U P fn.results.toList y kv) ⟨f,dZ<|.ptr (some (U,0))::rest,max fn.ntmps<|rest.length+1,[.code body],[],none⟩ ⟨fL<|kn++[(U,some<|bt cs)],U+1,0,[],[]⟩){SI:aO}{args:List AV}{x:AV}{vs:Array Value}(r:Rel B ρ s.h w)(hg:gk ρ)(h:uM val U ns h0 SI args s= .ok x s1)(hv:az ρ args vs.toList):jo P ((callFunc f vs).run P w)<|kg B ρ s s1 w x:=by
 unfold uM at h;split at h
 case h_2=>cases h
 rename_i n rest;obtain⟨ga,h⟩:=cX h;obtain⟨u,s2,h2,h⟩:=M.aR h;obtain⟨a1,a2,a3⟩:=tB h2;obtain⟨o,s3,k1,h⟩:=M.aR h;obtain⟨cs,m1,h⟩:=bu h;obtain⟨dm,h⟩:=cX h;obtain⟨p,hp,h⟩:=bu h;obtain⟨kz,h⟩:=cX h;obtain⟨IS,hS⟩:=and_true.1 kz;obtain⟨hS,R9⟩:=and_true.1 hS;obtain⟨_,t1,w1,h⟩:=M.aR h;obtain⟨rfl,rfl⟩:=bH h;obtain⟨y,kv⟩:=p;obtain⟨rfl,nC⟩:=GB m1;obtain⟨b1,b2,b3,b4⟩:=fY k1;obtain⟨x1,x2,_,x4,x5⟩:=jy w1;have g1:s.h.get n=some (bt cs):=by rw[←a1];exact b2
 let V:Vw:=[(U,n,bt cs)];have mem:∀q∈V,q=(U,n,bt cs):=fun q hq=>by simpa[V] using hq
 have V0:(U,n,bt cs)∈V:=by simp[V]
 have e0:eL U ρ V U=ρ n:=by
  unfold eL;rw[if_neg ak,if_neg ak];have:gj V U=some n:=by simp[gj,V]
  rw[this]
 have hi:iM ρ<|eL U ρ V:=fun m x hm e=>by rw[xO ak hm];exact e
 have hV:zg U ρ s.h V:=by
  refine⟨fun q hq=>?_,fun q hq q' dR e=>?_,fun q hq q' dR e=>?_,fun q hq=>?_⟩
  ·rw[mem q hq];exact⟨Nat.le_refl _,by show U<top;omega,x2⟩
  ·rw[mem q hq,mem q' dR]
  ·rw[mem q hq,mem q' dR]
  ·rw[mem q hq];exact⟨_,g1,.inl ⟨rfl,rfl,fun N o' hO=>Al hi nC dm hO⟩⟩
 obtain⟨_,cV,T⟩:=r.tk;have T:CH B ρ s.h w cV:=T;have mY:=HD ak r T dE eh iA iB (fun n hn=>by obtain⟨_,o,p,h⟩:=a3 n hn;exact⟨o,p,h⟩) hV;obtain⟨q1,q2⟩:=eK _ _ _ _ hp;have fi:bE (⟨fL<|kn++[(U,some<|bt cs)],U+1,0,[],[]⟩:AS):=⟨Nat.zero_le _,dI⟩;have jJ:az (eL U ρ V) (.ptr (some (U,0))::rest) vs.toList:=by simp only[az,VR] at hv ⊢;obtain⟨v0,vr,q1,⟨b',N',q2,q3⟩,q4⟩:=hv;exact⟨v0,vr,q1,⟨b',N',e0.trans q2,q3⟩,AV.zW hi ga q4⟩
 have bI:=av.Em (B:=sa B ρ w<|wH ρ cV V) (s:=⟨fL<|kn++[(U,some<|bt cs)],U+1,0,[],[]⟩) (args:=.ptr (some (U,0))::rest) (vs:=vs) hP ch cw q1 (q2 _ rfl rfl) fi mY (fun g hZ=>by
  obtain⟨N,e⟩:=hg g hZ;exact⟨N,by rw[BN<|Nat.lt_of_lt_of_le hZ fD];exact e⟩) (fun m hm jt=>by
  have hm:U+1<=m:=hm;exact Gx ak jt fun q hq=>by rw[mem q hq];show _≠m;simp only;omega) jJ
 rw[tC ch cw dD];show Calls P f vs w _;refine bI.mono fun e w'=>?_;rintro ⟨zi,x',s7,rfl,⟨rfl,j1⟩,_,σ,i0,zj,i1,i2,i3⟩;have sV:∀q∈V,σ q.1=ρ q.2.1:=fun q hq=>by rw[mem q hq];exact(i0 U ak ak).trans e0
 have oi:iM σ<|cL ρ σ:=fun k x hk e=>by unfold cL;rw[if_pos hk];exact e
 obtain⟨f1,f2,f3,f4⟩:=Hf (a:=s.nx) (L2:=[(n,bt kv)]) (h':=s1.h) r T hV i2 i3 sV (fun m z hm q=>zj m z hm<|hi m z hm q) (fun m q hm=>by
  rw[List.mem_singleton] at hm;cases hm;exact⟨_,V0,rfl,_,j1,.inl ⟨rfl,rfl,fun N o' hO=>Al oi (aL.1 R9) hS hO⟩⟩) (fun q hq cH=>by rw[mem q hq];exact⟨_,j1,rfl⟩) (fun m hm=>by
  rw[x4,b3,a1,Tr.dt _ _ _ _ x2 hm];by_cases c1:m=n
  ·subst c1;exact .inl ⟨_,by simp,if_pos rfl⟩
  rw[if_neg c1];exact .inr ⟨fun q hq=>by rw[mem q hq];exact fun e=>c1 e.symm,rfl⟩)
 refine⟨zi,rfl,cL ρ σ,?_,AV.oY oi IS i1,f3,f4⟩;have cJ:s1.nx=s.nx:=by rw[x5,b4,a2]
 rw[cJ];exact f1
section
variable {X:TX} {P:Program} {U:Nat} {ns:List Nat} {h0:Tr ae} {kn:List<|Nat×Option ae} {L L':bU} {g:Nat} {fn:Func} {body:Code}
theorem WB(hP:bB P)(fD:fH<=U)(dI:U+1<=top)(dE:∀n o,n<top->h0.get n=some o->n∈ns)(eh:∀n∈ns,n<U)(iA:∀n o,(n,some o)∈kn->h0.get n=some o)(iB:∀p∈kn,p.1<top){val:List AV->List AV->Option (AV×List AV)}(h:dX X U P<|dv U ns h0 L)(h':dX X U P<|dv U ns h0 L')(ch:P.funcs[g]? =some fn)(cw:fn.body=some body)(dD:(fn.name == "runtime.NumGoroutine")=false)(eK:∀cs rest y kv,val cs rest=some (y,kv)->max fn.ntmps (rest.length+1)<=top/\∀B:aJ,qh X P U ns h0 L' B->
 av P B (U+1) (YX U P fn.results.toList y kv) ⟨g,dZ<|.ptr (some (U,0))::rest,max fn.ntmps<|rest.length+1,[.code body],[],none⟩ ⟨fL<|kn++[(U,some<|bt cs)],U+1,0,[],[]⟩):dX X U P<|dv U ns h0<|(g,.raw<|uM val)::L:=by
 refine(show dX X U P (pe (dv U ns h0 L) g<|uM val U ns h0) from h.mK (fun SI _ args=>SH.uM _ _ _ _ SI args) fun B hB hT SI hc hl args x s s1 ρ w vs fi r hg hf hm hv=>?_);refine aeu hP ch cw dD fD dI dE eh iA iB (fun cs rest y kv e=>?_) r hg hm hv;obtain⟨q1,q2⟩:=eK cs rest y kv e;exact⟨q1,fun B' kP kR=>q2 B'<|rj hP h' (kP.trans hB)<|kR.trans hT⟩
end
noncomputable section
def YY(U:Nat)(h0:Tr ae)(ns:List Nat)(a:Nat)(cs:List AV)(s:AS):Prop:=qg U h0 ns s=true/\Nat.blt a (dK U h0 ns s).nx=true/\(dK U h0 ns s).h.get a=some (bt cs)
def Rk(U:Nat)(h0:Tr ae)(ns:List Nat)(a:Nat)(kv:List AV)(s:AS):AS:=fB a (some<|bt kv)<|bc a<|dK U h0 ns s
end
theorem Xe{P:Program}{F:Nat->Option (List AV)}{sp:Sp}{g n U:Nat}{h0:Tr ae}{ns:List Nat}{val:List AV->List AV->Option (AV×List AV)}(h:sp g=some (uM val U ns h0)){a:Nat}{rest cs kv:List AV}{y:AV}(hr:rest.all AV.hi=true)(ht:Nat.blt a top=true)(hl:cs.length<=top)(ho:cs.all AV.cq=true)(hv:val cs rest=some (y,kv))(hy:(y.hi&&(kv.all AV.cq&&Nat.ble kv.length top))=true):
 ∀s,YY U h0 ns a cs s->bg P sp F (n+1) (.fn g) (.ptr (some (a,0))::rest) s= .ok y (Rk U h0 ns a kv s):=fun s q=>by
 obtain⟨hk,hn,g1⟩:=q;show j0 P sp g (bg P sp F n) (.ptr (some (a,0))::rest) s=_;rw[tX h];show(aF (rest.all AV.hi) <| (fe U h0 ns).bind fun _=>(bw a).bind fun o=>aC (rowOf o) fun cs=>aF (cs.all AV.cq) <| aC (val cs rest) fun p=>aF (p.1.hi&&(p.2.all AV.cq&&Nat.ble p.2.length top)) <| (bM a<|some<|bt p.2).bind fun _=>M.pure p.1) s=_;rw[hr,dz,M.bN<|vI hk,M.bN<|lW hn g1];unfold Rk;generalize dK U h0 ns s=z at*;rw[GC hl,bW,ho,dz,hv,bW];show(aF (y.hi&&(kv.all AV.cq&&Nat.ble kv.length top)) <| (bM a<|some<|bt kv).bind fun _=>M.pure y) (bc a z)=_;rw[hy,dz,M.bN<|xN (by rw[(fN a z).2.1];exact hn) (by rw[(fN a z).1];exact g1) rfl ht];rfl
end Go.Rn
open Go
namespace Go.Rn
section
variable {X:TX} {P:Program} {U:Nat} {ns:List Nat} {h0:Tr ae} {L:bU} {g:Nat} {fn:Func} {body:Code}
theorem ab9{jZ:FuncId->Nat}(hw:∀B,WT P B jZ)(hP:bB P)(fD:fH<=U)(dI:U<=top)(dE:∀n o,n<top->h0.get n=some o->n∈ns)(eh:∀n∈ns,n<U){val:List AV->Option AV}(h:dX X U P<|dv U ns h0 L)(ch:P.funcs[g]? =some fn)(cw:fn.body=some body)(dD:(fn.name == "runtime.NumGoroutine")=false)(eK:∀args v,val args=some v->∃n s1,Av P jZ n (.fn g) args ⟨h0,U,0,[],[]⟩= .ok v s1):dX X U P<|dv U ns h0<|(g,.val val)::L:=by
 refine(show dX X U P (pe (dv U ns h0 L) g<|pV U ns h0 val) from h.mK (fun SI _ args=>SH.pV _ _ _ _ SI args) fun B hB hT SI hc hl args x s s1 ρ w vs fi r hg hf hm hv=>?_);unfold pV at hm;obtain⟨ga,h1⟩:=cX hm;obtain⟨u,s2,h2,h3⟩:=M.aR h1;obtain⟨v,h4,h5⟩:=bu h3;obtain⟨h6,h7⟩:=cX h5;obtain⟨rfl,rfl⟩:=bH h7;obtain⟨a1,a2,a3⟩:=tB h2;obtain⟨n,s4,q⟩:=eK _ _ h4;have mY:=ER dI r dE eh (fun n hn=>by obtain⟨_,o,p,h⟩:=a3 n hn;exact⟨o,p,h⟩);have fi:bE (⟨h0,U,0,[],[]⟩:AS):=⟨Nat.zero_le _,dI⟩;have A3:gk<|gm U ρ:=fun g hZ=>by obtain⟨N,e⟩:=hg g hZ;exact⟨N,by unfold gm;rw[if_pos<|Nat.lt_of_lt_of_le hZ fD];exact e⟩
 have bI:=(UO (B:=rZ B ρ w) hP (hw _) n).fn g args x ⟨h0,U,0,[],[]⟩ s4 (gm U ρ) w vs fi mY A3 (fun k k1 _ k2=>by
  have k1:U<=k:=k1;unfold gm gq;rw[if_neg ak,if_neg ak])
  q (AV.zW (fun k y hk e=>by rw[tO dI hk];exact e) ga hv)
 rw[tC ch cw dD] at bI ⊢;have bI:Calls P g vs w _:=bI;show Calls P g vs w _;refine bI.mono fun e w'=>?_;rintro ⟨y,rfl,σ,e1,e2,e3,e4⟩;obtain⟨b1,b2,b3,b4⟩:=Ky (a:=s.nx) dI r e3 e4 e1.le;exact⟨y,rfl,cL ρ σ,by rw[a2];exact b1,AV.oY b2 h6 e2,by rw[a1];exact b3,b4⟩
end
end Go.Rn
namespace Go.Rn
open Go.RowKit Go.ChangeShapes
variable {ρ:aw} {v:Value} {α:Type} {t e:TypeId} {fuel K:Nat}
abbrev mw:=List<|Nat×Nat×List AV
def Has(σ:aw)(ms:mw):Prop:=∀p∈ms,σ (hn (nm p.2.2) p.1 p.2.1)≠none
def Good(w:World)(ms:mw):Prop:=∀p∈ms,p.2.2.all AV.gi=true/\∃c e fr,w.heap[p.1]? =some (.cells c e fr)/\∀(i:Nat) (x:AV),p.2.2[i]? =some x->∃v,c[p.2.1+i]? =some v/\∀σ,Has σ ms->VR (gq σ) x v
def Is(ms:mw)(x:AV)(v:Value):Prop:=∀σ,Has σ ms->VR (gq σ) x v
theorem Has.sub{σ:aw}{a b:mw}(h:Has σ b)(hs:∀p∈a,p∈b):Has σ a:=fun p hp=>h p<|hs p hp
theorem Is.sub{a b:mw}{x:AV}(h:Is a x v)(hs:∀p∈a,p∈b):Is b x v:=fun σ hh=>h σ<|hh.sub hs
theorem Good.nil{w:World}:Good w []:=fun p hp=>by cases hp
theorem Good.app{w:World}{a b:mw}(h:Good w a)(k:Good w b):Good w<|a++b:=fun p hp=>by
 rcases List.mem_append.1 hp with hp|hp
 ·obtain⟨h1,c,e,fr,h2,h3⟩:=h p hp;exact⟨h1,c,e,fr,h2,fun i x hx=>by obtain⟨v,k1,k2⟩:=h3 i x hx;exact⟨v,k1,fun σ hh=>k2 σ<|hh.sub fun p hp=>List.mem_append_left _ hp⟩⟩
 ·obtain⟨h1,c,e,fr,h2,h3⟩:=k p hp;exact⟨h1,c,e,fr,h2,fun i x hx=>by obtain⟨v,k1,k2⟩:=h3 i x hx;exact⟨v,k1,fun σ hh=>k2 σ<|hh.sub fun p hp=>List.mem_append_right _ hp⟩⟩
section
variable {H:Type} {enc:TypeId×Value->H} {P:Program} {w:World} {base:Nat} {spare:Nat->Bool} {held:Bool}
theorem UI{a:Addr}{n:Nat}{cs:List Value}(h:w.cells? base a n=some cs):cs.length=n/\∀(j:Nat) (x:Value),cs[j]? =some x->w.cell? (a.add j)=some x:=by
 unfold World.cells? at h;split at h
 ·have hlen:cs.length=n:=by simpa using mapM_some_length h
  refine⟨hlen,fun j x hx=>?_⟩;have hj:j<n:=by have:=(List.getElem?_eq_some_iff.1 hx).1;omega
  have:=mapM_some_get h j j (by simp[hj]);exact this.trans hx
 ·cases h
theorem VB(b o m:Nat):(⟨b,o,none⟩:Addr).add m=⟨b,o+m,none⟩:=by
 unfold Addr.add;split
 ·rename_i h;subst h;rfl
 ·rfl
theorem add_zero(a:Addr):a.add 0=a:=by unfold Addr.add;rw[if_pos rfl]
theorem adh{x:DataW H×List MemPlace}(Fk:0<K)(ht:P.underlying t=some (.slice e))(hK:P.cellsOf e=K)(h:DataW.trod enc P w base spare held fuel t [v]=some x):
 (∃a cap,v= .slice a 0 cap/\(a=none->cap=0))\/∃(b o len cap:Nat) (c:Array Value) (el:TypeId) (fr:Nat×Nat) (rows:List<|List Value),v= .slice (some ⟨b,o,none⟩) len cap/\len<=cap/\w.heap[b]? =some (.cells c el fr)/\rows.length=len/\∀(i:Nat) (row:List Value),rows[i]? =some row->row.length=K/\(∃n y,n<fuel/\DataW.trod enc P w base spare held n e row=some y)/\∀(j:Nat) (x:Value),row[j]? =some x->c[o+i*K+j]? =some x:=by
 rcases DataW.trod_slice ht h with⟨h0,_⟩|⟨a,len,cap,elems,rest,n,hfu,uW,_,_,hl,_,hlen,hel,_,_⟩
 ·left;injection h0 with h0 _
  exact⟨none,0,h0,fun _=>rfl⟩
 ·injection uW with hv _
  subst hv;rcases Nat.eq_zero_or_pos len with rfl|hlp
  ·exact .inl ⟨some a,cap,rfl,fun e=>by cases e⟩
  right;have Y4:∀i,i<len->∃cs y,w.cells? base (a.add<|i*K) K=some cs/\DataW.trod enc P w base spare held n e cs=some y:=fun i hi=>by have he:=hel i hi;rw[hK,List.getElem?_eq_getElem ak] at he;obtain⟨cs,h1,h2⟩:=Option.bind_eq_some_iff.1 he;exact⟨cs,_,h1,h2⟩
  obtain⟨cs0,_,h1,_⟩:=Y4 0 hlp;obtain⟨k1,k2⟩:=UI h1;have jr:=k2 0 _<|List.getElem?_eq_getElem ak;rw[Nat.zero_mul,add_zero,add_zero] at jr;have Mp:a.spot=none:=World.cell?_spot jr;obtain⟨b,o,sp⟩:=a;simp only at Mp;subst Mp;unfold World.cell? at jr;simp only at jr;cases hb:w.heap[b]? with
  |none=>rw[hb] at jr;cases jr
  |some ob=>
   rw[hb] at jr;cases ob with
   |cells c el fr=>
    refine⟨b,o,len,cap,c,el,fr,(List.range len).map fun i=>(w.cells? base ((⟨b,o,none⟩:Addr).add<|i*K) K).getD [],rfl,hl,hb,by simp,fun i row eN=>?_⟩;have hi:i<len:=by have:=(List.getElem?_eq_some_iff.1 eN).1;simpa using this
    obtain⟨cs,y,h1,h2⟩:=Y4 i hi;rw[List.getElem?_map,List.getElem?_range hi,Option.map_some,h1] at eN;injection eN with eN
    have ajD:cs=row:=eN;subst ajD;obtain⟨k1,k2⟩:=UI h1;refine⟨k1,⟨n,_,by omega,h2⟩,fun j x hx=>?_⟩;have:=k2 j x hx;rw[VB,VB] at this;unfold World.cell? at this;simp only[hb] at this;simpa using this
   |_=>cases jr
theorem Tk{β:Type}{K:Nat}:∀{l:List<|List β} {i:Nat} {x:β},(∀c∈l,c.length=K)->l.flatten[i]? =some x->∃q j row,l[q]? =some row/\row[j]? =some x/\i=q*K+j
 |[],i,x,_,h=>by simp at h
 |c::l,i,x,hl,h=>by
  have hc:=hl c List.mem_cons_self;rw[List.flatten_cons] at h;by_cases q:i<c.length
  ·rw[List.getElem?_append_left q] at h;exact⟨0,i,c,rfl,h,by omega⟩
  ·rw[List.getElem?_append_right ak] at h;obtain⟨a,j,row,h1,h2,h3⟩:=Tk (fun c' h'=>hl c'<|List.mem_cons_of_mem _ h') h;exact⟨a+1,j,row,by simpa using h1,h2,by rw[Nat.add_mul,Nat.one_mul];omega⟩
def HO(w:World)(uN:α->List AV)(Q:α->Prop)(row:List Value)(a:α)(ms:mw):Prop:=Q a/\Good w ms/\∀(j:Nat) (x:AV),(uN a)[j]? =some x->∃u,row[j]? =some u/\Is ms x u
theorem WH{α:Type}{uN:α->List AV}{Q:α->Prop}:∀{rows:List<|List Value},(∀row∈rows,∃a ms,HO w uN Q row a ms)->
 ∃(l:List α) (ms:mw),l.length=rows.length/\(∀a∈l,Q a)/\Good w ms/\∀(i:Nat) a row,l[i]? =some a->rows[i]? =some row->∀(j:Nat) (x:AV),(uN a)[j]? =some x->∃u,row[j]? =some u/\Is ms x u
 |[],_=>⟨[],[],rfl,(fun a ha=>by cases ha),Good.nil,(fun i a row h=>by simp at h)⟩
 |row::rows,h=>by
  obtain⟨a,ms,h1,h2,h3⟩:=h row List.mem_cons_self;obtain⟨l,ns,k1,k2,k3,k4⟩:=WH (rows:=rows) fun r hr=>h r<|List.mem_cons_of_mem _ hr;refine⟨a::l,ms++ns,(by simp[k1]),fun b hb=>?_,h2.app k3,fun i b r hb hr j x hx=>?_⟩
  ·rcases List.mem_cons.1 hb with rfl|hb
   ·exact h1
   ·exact k2 b hb
  ·cases i with
   |zero=>simp at hb hr;subst hb;subst hr;obtain⟨u,e1,e2⟩:=h3 j x hx;exact⟨u,e1,e2.sub fun p hp=>List.mem_append_left _ hp⟩
   |succ i=>simp at hb hr;obtain⟨u,e1,e2⟩:=k4 i b r hb hr j x hx;exact⟨u,e1,e2.sub fun p hp=>List.mem_append_right _ hp⟩
theorem GV{uN:α->List AV}{Q:α->Prop}(he:me K uN)(Fk:0<K){x:DataW H×List MemPlace}(ht:P.underlying t=some (.slice e))(hK:P.cellsOf e=K)(eN:∀row:List Value,row.length=K->(∃n y,n<fuel/\DataW.trod enc P w base spare held n e row=some y)->∃a ms,HO w uN Q row a ms)(h:DataW.trod enc P w base spare held fuel t [v]=some x):
 ∃(l:List α) (ms:mw),(∀a∈l,Q a)/\Good w ms/\Is ms (aD uN l) v:=by
 rcases adh Fk ht hK h with⟨a,cap,rfl,hz⟩|⟨b,o,len,cap,c,el,fr,rows,rfl,h2,h3,h4,h5⟩
 ·refine⟨[],[],(fun a ha=>by cases ha),Good.nil,fun σ _=>?_⟩;unfold aD;simp only[VR];exact .inl ⟨cU _,rfl,a,cap,rfl,hz,(fun e=>absurd e (Ae _).1),fun e=>absurd e (Ae _).2⟩
 ·obtain⟨l,ms,k1,k2,k3,k4⟩:=WH (w:=w) (uN:=uN) (Q:=Q) (rows:=rows) fun row hr=>by obtain⟨i,hi⟩:=List.mem_iff_getElem?.1 hr;obtain⟨a1,a2,_⟩:=h5 i row hi;exact eN row a1 a2
  refine⟨l,(b,o,(l.map uN).flatten)::ms,k2,fun p hp=>?_,fun σ hh=>?_⟩
  ·rcases List.mem_cons.1 hp with rfl|hp
   ·refine⟨he.all l,c,el,fr,h3,fun i x hx=>?_⟩;obtain⟨q,j,row,e1,e2,e3⟩:=Tk (K:=K) (fun c' Sg=>by obtain⟨a,_,rfl⟩:=List.mem_map.1 Sg;exact he.len a) hx;rw[List.getElem?_map] at e1;cases ha:l[q]? with
    |none=>rw[ha] at e1;cases e1
    |some a=>
     rw[ha] at e1;injection e1 with e1
     subst e1;have hq:q<rows.length:=by have:=(List.getElem?_eq_some_iff.1 ha).1;omega
     obtain⟨u,g1,g2⟩:=k4 q a rows[q] ha (List.getElem?_eq_getElem hq) j x e2;obtain⟨_,_,g4⟩:=h5 q rows[q]<|List.getElem?_eq_getElem hq;exact⟨u,by rw[e3, ←Nat.add_assoc];exact g4 j u g1,fun σ hh=>g2 σ<|hh.sub fun p hp=>List.mem_cons_of_mem _ hp⟩
   ·obtain⟨h1,c',e',qw,sO,Rp⟩:=k3 p hp;exact⟨h1,c',e',qw,sO,fun i x hx=>by obtain⟨v,q1,q2⟩:=Rp i x hx;exact⟨v,q1,fun σ hh=>q2 σ<|hh.sub fun p hp=>List.mem_cons_of_mem _ hp⟩⟩
  ·unfold aD;simp only[VR];refine .inr ⟨b,o,cap,.inr ⟨cU _,?_⟩,?_,fun _=>⟨by omega,(Ae _).1⟩⟩
   ·have:=hh _ List.mem_cons_self;unfold gq;rw[if_pos<|gg _ _ _];exact this
   ·rw[Nat.add_zero,k1,h4]
end
open Classical in
noncomputable def p8(ms:mw)(ρ:aw):aw:=fun k=>if ρ k=none/\∃p∈ms,k=hn (nm p.2.2) p.1 p.2.1 then some (0,0) else ρ k
theorem JY{ms:mw}:ρ.le<|p8 ms ρ:=fun k x e=>by unfold p8;rw[if_neg (fun q=>by rw[e] at q;cases q.1)];exact e
theorem Oz{ms:mw}{k:Nat}(hk:k<top):p8 ms ρ k=ρ k:=by unfold p8;rw[if_neg (fun⟨_,p,_,q⟩=>by have:=gg (nm p.2.2) p.1 p.2.1;omega)]
theorem UJ{ms:mw}:Has (p8 ms ρ) ms:=fun p hp=>by
 unfold p8;by_cases q:ρ (hn (nm p.2.2) p.1 p.2.1)=none
 ·rw[if_pos ⟨q,p,hp,rfl⟩];exact fun h=>by cases h
 ·rw[if_neg fun z=>q z.1];exact q
theorem Start.ajE(B:aJ){U:Nat}{h0:Tr ae}{w:World}{ms:mw}(S:Start U h0 ρ w)(ht:U<=top)(hg:Good w ms):Rel ⟨fun k=>w.heap.size<=k,FU,fun _=>True,B.inv,w.heap.size,B.mono⟩ (p8 ms ρ) h0 w:=by
 have r:=S.rel ht;refine⟨fun n o hn h=>?_,fun n m o p b N M hn hm h1 h2 cZ e1 e2=>?_,fun n m es ex left cur hn h=>?_,r.size,r.lone,fun n b sh e=>?_,uO.no (fun n k v hn hg=>by have:=(S.is n _ hn hg).1;cases this) ⟨Nat.le_refl _,fun n o hn hg _=>by obtain⟨_,b,N,o',h1,h2,_⟩:=S.is n o hn hg;exact⟨b,N,JY _ _ h1,gV h2⟩⟩⟩
 ·obtain⟨b,N,o',h1,h2,h3,h4⟩:=r.is n o hn h;exact⟨b,N,o',JY _ _ h1,h2,h3.mono JY,h4⟩
 ·rw[Oz hn] at e1;rw[Oz hm] at e2;exact r.one n m o p b N M hn hm h1 h2 cZ e1 e2
 ·have:=(S.is n _ hn h).1;cases this
 ·refine⟨.inl trivial,?_⟩;have mm:ρ (hn n b sh)=Option.none:=S.free _<|Nat.le_trans ht<|gg _ _ _;unfold p8 at e;split at e
  ·rename_i q;obtain⟨_,p,hp,q⟩:=q;obtain⟨rfl,rfl,rfl⟩:=Kr q;obtain⟨h1,c,el,fr,h2,h3⟩:=hg p hp;refine⟨p.2.2,c,el,fr,Cl h1,h2,fun m o N hm ho cH=>?_,fun i x hx=>?_⟩
   ·rw[ae.ke (S.is m o hm ho).1] at cH;cases cH
   ·obtain⟨v,q1,q2⟩:=h3 i x hx;exact⟨v,q1,q2 _ UJ,JD<|List.all_eq_true.1 h1 x<|List.mem_of_getElem? hx⟩
  ·exact absurd mm e
end Go.Rn
namespace Go.Rn
open Go.RowKit
variable {ρ:aw} {ty:TypeId} {U g:Nat} {h:Tr ae} {c:Array Value} {W:World}
theorem Start.ajH{m:Nat}{t:Tr AV}{fr:Nat×Nat}(S:Start U h ρ W)(Rr:g<top)(km:ρ g=some (g,c.size))(hW:W.heap[g]? =some (.cells c ty fr))(hm:m=c.size)(row:∀i,i<m->∃x v,t.get i=some x/\x.cj=true/\c[i]? =some v/\VR ρ x v):Start U (h.put g<|some<|.ro m t) ρ W:=by
 refine⟨S.g,S.free,fun n o hn ho=>?_⟩;rw[Tr.dt _ _ _ _ Rr hn] at ho;by_cases q:n=g
 ·subst q;rw[if_pos rfl] at ho;injection ho with ho;subst ho
  exact⟨rfl,n,c.size,_,km,hW,c,ty,fr,rfl,rfl,hm,row⟩
 ·rw[if_neg q] at ho;exact S.is n o hn ho
noncomputable section
end
theorem Start.anF{fr:Nat×Nat}(S:Start U h ρ W)(low:∀k,k<fH->ρ k=U0 W k)(hg:g<fH)(hW:W.heap[g]? =some (.cells c ty fr))(l:List AV)(hl:l.length<=top)(hs:l.length=c.size)(row:∀(i:Nat) x,l[i]? =some x->x.cj=true/\∃v,c[i]? =some v/\VR ρ x v):Start U (h.put g<|some<|.ro l.length<|Tr.fill l 0 .nil) ρ W:=by
 refine S.ajH (Nat.lt_of_lt_of_le hg (by unfold fH top;decide)) ?_ hW hs fun i hi=>?_
 ·rw[low g hg];unfold U0;rw[if_pos hg,hW]
 ·obtain⟨x,hx⟩:∃x,l[i]? =some x:=⟨l[i],List.getElem?_eq_getElem hi⟩;obtain⟨h1,v,h2,h3⟩:=row i x hx;exact⟨x,v,by rw[adC _ hl i hi];exact hx,h1,h2,h3⟩
end Go.Rn
