import Derived.Test.YtphenfaomchomaaGreatDoorRnGA
import Derived.Below
import Derived.Laws.CopyRow
import Derived.Laws.Cells
import Derived.Laws.Tables
import Derived.Laws.StructEq
import Derived.Laws.BytesString
import Derived.IntWalk
set_option maxRecDepth 100000
set_option maxHeartbeats 8000000
set_option linter.unusedSimpArgs false
set_option linter.unusedVariables false
namespace Go.Rn
open Go.RowKit
variable {ρ σ:Ren} {w w':World} {b n N c a:Nat} {B:aI} {h h':Tr ae} {o:ae} {o':Obj} {x:Nat×Nat}
def eQ(ρ:Ren)(n:Nat)(x:Nat×Nat):Ren:=fun k=>if k=n then some x else ρ k
theorem om(h:ρ n=none):ρ.le<|eQ ρ n x:=by
 intro k y e;unfold eQ;by_cases q:k=n
 ·subst q;rw[h] at e;cases e
 ·rw[if_neg q];exact e
theorem iQ(ρ:Ren)(n:Nat)(x:Nat×Nat):eQ ρ n x n=some x:=by simp[eQ]
theorem gK(ρ:Ren){k:Nat}(x:Nat×Nat)(h:k≠n):eQ ρ n x k=ρ k:=by simp[eQ,h]
structure u0 (b:Nat) (w w':World):Prop where
 os:w'.os=w.os
 tape:w'.tape=w.tape
 output:w'.output=w.output
 size:w'.heap.size=w.heap.size
 block:∀k,k≠b->w'.heap[k]? =w.heap[k]?
structure cx (B:aI) (w w':World):Prop where
 os:w'.os=w.os
 tape:w'.tape=w.tape
 output:w'.output=w.output
 size:w.heap.size<=w'.heap.size
 block:∀k,k<w.heap.size->¬B.may k->w'.heap[k]? =w.heap[k]?
theorem cx.refl(B:aI)(w:World):cx B w w:=⟨rfl,rfl,rfl,Nat.le_refl _,fun _ _ _=>rfl⟩
theorem cx.trans{a b c:World}(h:cx B a b)(k:cx B b c):cx B a c:=⟨k.os.trans h.os,k.tape.trans h.tape,k.output.trans h.output,Nat.le_trans h.size k.size,fun i hi hm=>(k.block i (Nat.lt_of_lt_of_le hi h.size) hm).trans<|h.block i hi hm⟩
theorem u0.below(h:u0 b w w')(hb:B.may b):cx B w w':=⟨h.os,h.tape,h.output,by rw[h.size];exact Nat.le_refl _,fun k _ hm=>h.block k fun e=>hm (by rw[e];exact hb)⟩
theorem Fz.of(f:Fz B ρ h w)(hl:ρ.le σ)(hw:∀b,b<w.heap.size->j8 ρ h b->w'.heap[b]? =w.heap[b]?)(hd:∀b,b<w.heap.size->j8 ρ h b->j8 σ h' b)(hm:∀k,top<=k->σ k=ρ k:=by(intro k hk;first|rfl|exact gK _ _ aj)):Fz B σ h' w':=by intro n b sh e;rw[hm _<|gf _ _ _] at e;obtain⟨h0,l,c,e',fr,h1,h3,h4,h5⟩:=f n b sh e;have hb:b<w.heap.size:=(Array.getElem?_eq_some_iff.1 h3).1;exact⟨h0,l,c,e',fr,h1,(hw b hb h4).trans h3,hd b hb h4,fun i x hx=>by obtain⟨v,a1,a2,a3⟩:=h5 i x hx;exact⟨v,a1,VR.mono (Fe hl) _ _ a2,a3⟩⟩
theorem j8.sub(k:j8 ρ h b)(hs:∀m o,m<top->h'.get m=some o->o.dk=false->∃p,h.get m=some p/\p.dk=false):j8 ρ h' b:=by intro m o N hm hg hr;obtain⟨p,e1,e2⟩:=hs m o hm hg hr;exact k m p N hm e1 e2
def ae.plain:ae->Bool
 | .iter _ _ _ _ _=>false
 | .iy=>false
 | .tok _ _=>false
 |_=>true
def ae.kj:ae->Bool
 | .iter _ _ _ _ _=>false
 | .iy=>false
 |_=>true
def ae.kV:ae->Bool
 | .tok _ _=>true
 |_=>false
def fM(o1 o2:ae):Prop:=(o2.dk=false->o1.dk=false)/\(o2.kV=true->o1=o2)/\(o2.mL=true->o1.mL=true)
theorem fM.refl(o:ae):fM o o:=⟨id,fun _=>rfl,id⟩
def ae.own:ae->Bool
 | .iter _ _ _ _ _=>false
 | .iy=>false
 | .tok _ _=>false
 | .ro _ _=>false
 | .tz _ _=>false
 |_=>true
theorem ae.uM(h:o.own=true):o.plain=true/\o.dk=false:=by cases o<;>first|exact⟨rfl,rfl⟩|cases h
theorem Rel.block(r:Rel B ρ h w)(ht:n<top)(hg:h.get n=some o)(hr:ρ n=some (b,N)):
 ∃o',w.heap[b]? =some o'/\OR ρ N o o'/\(o.dk=false->B.may b):=by
 obtain⟨b',N',o',h1,h2,h3,h4⟩:=r.is n o ht hg;rw[hr] at h1;cases h1;exact⟨o',h2,h3,h4⟩
theorem mV.mM{m:Nat}{es:List<|AV×AV}{ex:Bool}{left:List<|AV×AV}{cur:Option<|AV×AV}(u:mV ρ w n m es ex left cur)(hw:∀k,k≠b->w'.heap[k]? =w.heap[k]?)(hn:∀N,ρ n≠some (b,N))(hm:∀N,ρ m≠some (b,N)):mV ρ w' n m es ex left cur:=by obtain⟨b1,N,bm,M,l,bq,seen,h1,h2,h3,h4,h5⟩:=u;exact⟨b1,N,bm,M,l,bq,seen,h1,h2,(hw b1 fun e=>hn N<|by rw[h1,e]).trans h3,(hw bm fun e=>hm M<|by rw[h2,e]).trans h4,h5⟩
theorem Rel.put(r:Rel B ρ h w){p:ae}(ht:n<top)(hg:h.get n=some p)(hp:p.plain=true)(cr:p.dk=false)(hr:ρ n=some (b,N))(BS:o.own=true)(hw:u0 b w w')(hb:w'.heap[b]? =some o')(hO:OR ρ N o o'):Rel B ρ (h.put n<|some o) w':=by
 obtain⟨ho,Gk⟩:=ae.uM BS;obtain⟨_,_,_,hB⟩:=r.block ht hg hr;have g:∀m,m<top->(h.put n<|some o).get m=if m=n then some o else h.get m:=fun m hm=>Tr.di _ _ _ _ ht hm
 refine⟨?_,?_,?_,by rw[hw.size];exact r.size,?_,r.fz.of (Ren.le_refl _) (fun b1 _ hn=>hw.block b1 fun e=>hn n p N ht hg cr (by rw[e];exact hr)) (fun b1 _ hn=>hn.sub fun m q hm hq gZ=>by
  rw[g m hm] at hq;by_cases e:m=n
  ·subst e;exact⟨p,hg,cr⟩
  ·rw[if_neg e] at hq;exact⟨q,hq,gZ⟩),r.tk.of (Ren.le_refl _) (fun m q hm hq hr=>by
  rw[g m hm] at hq;by_cases e:m=n
  ·rw[if_pos e] at hq;cases hq;rw[Gk] at hr;cases hr
  ·rw[if_neg e] at hq;exact hq) (by rw[hw.size];exact Nat.le_refl _) (fun b1 _ hn=>hw.block b1 fun e=>hn n p N ht hg cr (by rw[e];exact hr)) (fun b1 _ hn=>hn.sub fun m q hm hq gZ=>by
  rw[g m hm] at hq;by_cases e:m=n
  ·subst e;exact⟨p,hg,cr⟩
  ·rw[if_neg e] at hq;exact⟨q,hq,gZ⟩) fun _ _ _ _ _ e=>e⟩
 ·intro m q hm hq;rw[g m hm] at hq;by_cases e:m=n
  ·subst e;rw[if_pos rfl] at hq;cases hq;exact⟨b,N,o',hr,hb,hO,fun _=>hB cr⟩
  ·rw[if_neg e] at hq;obtain⟨b1,N1,o1,h1,h2,h3,h4⟩:=r.is m q hm hq;refine⟨b1,N1,o1,h1,(hw.block b1 fun e2=>?_).trans h2,h3,h4⟩;subst e2;exact e<|r.one m n q p b1 N1 N hm ht hq hg (.inr cr) h1 hr
 ·intro m k q q' b1 N1 M1 hm hk hq eg cS h1 h2;rw[g m hm] at hq;rw[g k hk] at eg;have live:∀j,j<top->∀x,(if j=n then some o else h.get j)=some x->∃y,h.get j=some y/\(x.dk=false->y.dk=false):=by
   intro j _ x hx;by_cases e:j=n
   ·subst e;exact⟨p,hg,fun _=>cr⟩
   ·rw[if_neg e] at hx;exact⟨x,hx,id⟩
  obtain⟨y,hy,v7⟩:=live m hm q hq;obtain⟨z,hz,GR⟩:=live k hk q' eg;exact r.one m k y z b1 N1 M1 hm hk hy hz (cS.imp v7 GR) h1 h2
 ·intro i m es ex left cur hi hq;rw[g i hi] at hq;by_cases e:i=n
  ·subst e;rw[if_pos rfl] at hq;cases hq;simp[ae.plain] at ho
  ·rw[if_neg e] at hq;obtain⟨hm,hl,u⟩:=r.iter i m es ex left cur hi hq;have rU:m≠n:=by intro e2;subst e2;rw[hg] at hl;cases hl;simp[ae.plain] at hp
   refine⟨hm,by rw[g m hm,if_neg rU];exact hl,u.mM hw.block (fun M e2=>e ?_) fun M e2=>rU ?_⟩
   ·exact r.one i n _ p b M N hi ht hq hg (.inr cr) e2 hr
   ·exact r.one m n _ p b M N hm ht hl hg (.inr cr) e2 hr
 ·intro i j m es ex left cur gY iW iH iJ hi hj h1 h2;rw[g i hi] at h1;rw[g j hj] at h2;by_cases e:i=n
  ·rw[if_pos e] at h1;cases h1;simp[ae.plain] at ho
  ·rw[if_neg e] at h1;by_cases e2:j=n
   ·rw[if_pos e2] at h2;cases h2;simp[ae.plain] at ho
   ·rw[if_neg e2] at h2;exact r.lone i j m es ex left cur gY iW iH iJ hi hj h1 h2
theorem Rel.drop(r:Rel B ρ h w)(ht:n<top)(hn:h.get n≠some .iy):Rel B ρ (h.put n none) w:=by
 have g:∀m,m<top->(h.put n none).get m=if m=n then none else h.get m:=fun m hm=>Tr.di _ _ _ _ ht hm
 refine⟨?_,?_,?_,r.size,?_,r.fz.of (Ren.le_refl _) (fun _ _ _=>rfl) (fun b1 _ hn=>hn.sub fun m q hm hq gZ=>by
  rw[g m hm] at hq;by_cases e:m=n
  ·rw[if_pos e] at hq;cases hq
  ·rw[if_neg e] at hq;exact⟨q,hq,gZ⟩),r.tk.of (Ren.le_refl _) (fun m q hm hq _=>by
  rw[g m hm] at hq;by_cases e:m=n
  ·rw[if_pos e] at hq;cases hq
  ·rw[if_neg e] at hq;exact hq) (Nat.le_refl _) (fun _ _ _=>rfl) (fun b1 _ hn=>hn.sub fun m q hm hq gZ=>by
  rw[g m hm] at hq;by_cases e:m=n
  ·rw[if_pos e] at hq;cases hq
  ·rw[if_neg e] at hq;exact⟨q,hq,gZ⟩) fun _ _ _ _ _ e=>e⟩
 ·intro m q hm hq;rw[g m hm] at hq;by_cases e:m=n
  ·rw[if_pos e] at hq;cases hq
  ·rw[if_neg e] at hq;exact r.is m q hm hq
 ·intro m k q q' b1 N1 M1 hm hk hq eg cS h1 h2;rw[g m hm] at hq;rw[g k hk] at eg;by_cases e:m=n
  ·rw[if_pos e] at hq;cases hq
  ·by_cases e2:k=n
   ·rw[if_pos e2] at eg;cases eg
   ·rw[if_neg e] at hq;rw[if_neg e2] at eg;exact r.one m k q q' b1 N1 M1 hm hk hq eg cS h1 h2
 ·intro i m es ex left cur hi hq;rw[g i hi] at hq;by_cases e:i=n
  ·rw[if_pos e] at hq;cases hq
  ·rw[if_neg e] at hq;obtain⟨hm,hl,u⟩:=r.iter i m es ex left cur hi hq;have rU:m≠n:=by intro e2;subst e2;exact hn hl
   exact⟨hm,by rw[g m hm,if_neg rU];exact hl,u⟩
 ·intro i j m es ex left cur gY iW iH iJ hi hj h1 h2;rw[g i hi] at h1;rw[g j hj] at h2;by_cases e:i=n
  ·rw[if_pos e] at h1;cases h1
  ·rw[if_neg e] at h1;by_cases e2:j=n
   ·rw[if_pos e2] at h2;cases h2
   ·rw[if_neg e2] at h2;exact r.lone i j m es ex left cur gY iW iH iJ hi hj h1 h2
structure gP (w w':World):Prop where
 os:w'.os=w.os
 tape:w'.tape=w.tape
 output:w'.output=w.output
 size:w.heap.size<=w'.heap.size
 block:∀k,k<w.heap.size->w'.heap[k]? =w.heap[k]?
theorem gP.drew(w:World):gP w {w with drawn:=w.drawn+1}:=⟨rfl,rfl,rfl,Nat.le_refl _,fun _ _=>rfl⟩
theorem gP.alloc(w:World)(o:Obj):gP w {w with heap:=w.heap.push o}:=⟨rfl,rfl,rfl,by simp,fun k hk=>by simp[Array.getElem?_push];intro e;omega⟩
theorem gP.trans{a b c:World}(h:gP a b)(k:gP b c):gP a c:=⟨k.os.trans h.os,k.tape.trans h.tape,k.output.trans h.output,Nat.le_trans h.size k.size,fun i hi=>(k.block i<|Nat.lt_of_lt_of_le hi h.size).trans<|h.block i hi⟩
theorem gP.below(h:gP w w')(_:∀k,w.heap.size<=k->B.may k):cx B w w':=⟨h.os,h.tape,h.output,h.size,fun k hk _=>h.block k hk⟩
theorem ib{o:Obj}(h:w.heap[b]? =some o):b<w.heap.size:=(Array.getElem?_eq_some_iff.1 h).1
theorem Rel.Bu(r:Rel B ρ h w)(g:gP w w'):Rel B ρ h w':=by
 refine⟨?_,r.one,?_,fun k hk=>r.size k<|Nat.le_trans g.size hk,r.lone,r.fz.of (Ren.le_refl _) (fun b hb _=>g.block b hb) fun _ _ hn=>hn,r.tk.of (Ren.le_refl _) (fun _ _ _ hq _=>hq) g.size (fun b hb _=>g.block b hb) (fun _ _ hn=>hn) fun _ _ _ _ _ e=>e⟩
 ·intro m q hm hq;obtain⟨b1,N1,o1,h1,h2,h3,h4⟩:=r.is m q hm hq;exact⟨b1,N1,o1,h1,(g.block b1<|ib h2).trans h2,h3,h4⟩
 ·intro i m es ex left cur hi hq;obtain⟨hm,fu,b1,N,bm,M,l,bq,seen,h1,h2,h3,h4,h5⟩:=r.iter i m es ex left cur hi hq;exact⟨hm,fu,b1,N,bm,M,l,bq,seen,h1,h2,(g.block b1<|ib h3).trans h3,(g.block bm<|ib h4).trans h4,h5⟩
theorem Rel.name(r:Rel B ρ h w)(ht:n<top)(oX:ρ n=none)(ho:o.plain=true)(hb:w.heap[b]? =some o')(hB:o.dk=false->B.may b)(hfz:∀k sh,ρ (hn k b sh)=none)(lT:∀m p,m<top->h.get m=some p->∀M,ρ m≠some (b,M))(hO:OR (eQ ρ n (b,N)) N o o')(hT:uf B (eQ ρ n (b,N)) (h.put n<|some o) w):Rel B (eQ ρ n (b,N)) (h.put n<|some o) w:=by
 have hl:ρ.le<|eQ ρ n (b,N):=om oX;have lZ:h.get n=none:=by
  cases e:h.get n with
  |none=>rfl
  |some p=>obtain⟨_,_,_,h1,_⟩:=r.is n p ht e;rw[oX] at h1;cases h1
 have g:∀m,m<top->(h.put n<|some o).get m=if m=n then some o else h.get m:=fun m hm=>Tr.di _ _ _ _ ht hm
 refine⟨?_,?_,?_,r.size,?_,fun k b1 sh e=>by
  rw[gK ρ _ (by have:=gf k b1 sh;omega)] at e;obtain⟨h0,l,c,e',fr,h1,h3,h4,h5⟩:=r.fz k b1 sh e;refine⟨h0,l,c,e',fr,h1,h3,fun m q M hm hq gZ e2=>?_,fun i x hx=>by obtain⟨v,a1,a2,a3⟩:=h5 i x hx;exact⟨v,a1,VR.mono (Fe hl) _ _ a2,a3⟩⟩;rw[g m hm] at hq;by_cases e3:m=n
  ·subst e3;rw[iQ] at e2;cases e2;exact e (hfz k sh)
  ·rw[if_neg e3] at hq;rw[gK ρ _ e3] at e2;exact h4 m q M hm hq gZ e2,hT⟩
 ·intro m q hm hq;rw[g m hm] at hq;by_cases e:m=n
  ·subst e;rw[if_pos rfl] at hq;cases hq;exact⟨b,N,o',iQ _ _ _,hb,hO,hB⟩
  ·rw[if_neg e] at hq;obtain⟨b1,N1,o1,h1,h2,h3,h4⟩:=r.is m q hm hq;exact⟨b1,N1,o1,hl _ _ h1,h2,h3.mono hl,h4⟩
 ·intro m k q q' b1 N1 M1 hm hk hq eg cS h1 h2;rw[g m hm] at hq;rw[g k hk] at eg;by_cases e:m=n
  ·by_cases e2:k=n
   ·omega
   ·rw[if_neg e2] at eg;subst e;rw[iQ] at h1;cases h1;rw[gK ρ _ e2] at h2;exact absurd h2<|lT k q' hk eg M1
  ·rw[if_neg e] at hq;rw[gK ρ _ e] at h1;by_cases e2:k=n
   ·subst e2;rw[iQ] at h2;cases h2;exact absurd h1<|lT m q hm hq N1
   ·rw[if_neg e2] at eg;rw[gK ρ _ e2] at h2;exact r.one m k q q' b1 N1 M1 hm hk hq eg cS h1 h2
 ·intro i m es ex left cur hi hq;rw[g i hi] at hq;by_cases e:i=n
  ·subst e;rw[if_pos rfl] at hq;cases hq;simp[ae.plain] at ho
  ·rw[if_neg e] at hq;obtain⟨hm,fu,u⟩:=r.iter i m es ex left cur hi hq;have rU:m≠n:=by intro e2;subst e2;rw[lZ] at fu;cases fu
   exact⟨hm,by rw[g m hm,if_neg rU];exact fu,u.mono hl⟩
 ·intro i j m es ex left cur gY iW iH iJ hi hj h1 h2;rw[g i hi] at h1;rw[g j hj] at h2;by_cases e:i=n
  ·rw[if_pos e] at h1;cases h1;simp[ae.plain] at ho
  ·rw[if_neg e] at h1;by_cases e2:j=n
   ·rw[if_pos e2] at h2;cases h2;simp[ae.plain] at ho
   ·rw[if_neg e2] at h2;exact r.lone i j m es ex left cur gY iW iH iJ hi hj h1 h2
theorem Rel.new(r:Rel B ρ h w)(ht:n<top)(oX:ρ n=none)(BS:o.own=true)(hO:OR (eQ ρ n (w.heap.size,N)) N o o'):Rel B (eQ ρ n (w.heap.size,N)) (h.put n<|some o) {w with heap:=w.heap.push o'}:=by
 obtain⟨ho,Gk⟩:=ae.uM BS;refine(r.Bu<|gP.alloc w o').name ht oX ho jI (fun _=>r.size _<|Nat.le_refl _) (fun k sh=>by
  cases e:ρ (Rn.hn k w.heap.size sh) with
  |none=>rfl
  |some x=>obtain⟨_,_,_,_,_,_,h3,_⟩:=r.fz k w.heap.size sh (by rw[e];exact fun h=>by cases h);exact absurd (ib h3)<|Nat.lt_irrefl _) (fun m p hm hp M e=>?_) hO ?_
 ·obtain⟨b1,N1,o1,h1,h2,_⟩:=r.is m p hm hp;rw[e] at h1;cases h1;exact absurd (ib h2)<|Nat.lt_irrefl _
 ·have g:∀m,m<top->(h.put n<|some o).get m=if m=n then some o else h.get m:=fun m hm=>Tr.di _ _ _ _ ht hm
  exact r.tk.of (om oX) (fun m q hm hq hr=>by
   rw[g m hm] at hq;by_cases e:m=n
   ·rw[if_pos e] at hq;cases hq;rw[Gk] at hr;cases hr
   ·rw[if_neg e] at hq;exact hq) (gP.alloc w o').size (fun b hb _=>(gP.alloc w o').block b hb) (fun b1 uj hn m q M hm hq gZ e2=>by
   rw[g m hm] at hq;by_cases e3:m=n
   ·subst e3;rw[iQ] at e2;cases e2;exact absurd uj (Nat.lt_irrefl _)
   ·rw[if_neg e3] at hq;rw[gK ρ _ e3] at e2;exact hn m q M hm hq gZ e2) (fun j x sh _ _ e=>by rw[gK ρ _ (by have:=gf j x sh;omega)];exact e)
structure Ext (a b:Nat) (ρ σ:Ren):Prop where
 le:ρ.le σ
 out:∀k,k<top->¬(a<=k/\k<b)->σ k=ρ k
theorem Ext.refl(a b:Nat)(ρ:Ren):Ext a b ρ ρ:=⟨Ren.le_refl ρ,fun _ _ _=>rfl⟩
theorem Ext.trans{τ:Ren}(GS:a<=b)(hbc:b<=c)(h:Ext a b ρ σ)(k:Ext b c σ τ):Ext a c ρ τ:=⟨Ren.le_trans h.le k.le,fun j hj hk=>(k.out j hj aj).trans<|h.out j hj aj⟩
theorem Ext.my(h:ρ n=none):Ext n (n+1) ρ<|eQ ρ n x:=⟨om h,fun k _ hk=>gK ρ x aj⟩
def dB(a b:Nat)(ρ:Ren):Prop:=∀k,a<=k->k<b->k<top->ρ k=none
theorem dB.next(hf:dB a c ρ)(GS:a<=b)(e:Ext a b ρ σ):dB b c σ:=fun k h1 h2 h3=>(e.out k h3 aj).trans<|hf k aj h2 h3
theorem dB.sub{d:Nat}(hf:dB a d ρ)(h1:a<=b)(h2:c<=d):dB b c ρ:=fun k p q r=>hf k aj aj r
end Go.Rn
namespace Go.Rn
open Go.RowKit
variable {n off b k N:Nat} {ρ:Ren} {w:World} {vs:List Value} {l:List AV} {c:Array Value} {s1 s:AS} {P:Program} {e:TypeId} {B:aI} {u:Unit}
theorem fX{o:ae}(h:bu n s= .ok o s1):n<s.nx/\s.h.get n=some o/\s1.h=s.h/\s1.nx=s.nx:=by
 obtain⟨h1,h2,rfl⟩:=NJ h;by_cases e:n<s.mark
 ·rw[if_pos e];exact⟨h1,h2,rfl,rfl⟩
 ·rw[if_neg e];exact⟨h1,h2,rfl,rfl⟩
theorem jB{o:Option ae}(h:bK n o s= .ok u s1):
 n<s.nx/\n<top/\(∃p,s.h.get n=some p/\p.dk=false)/\s1.h=s.h.put n o/\s1.nx=s.nx:=by
 obtain⟨h1,h2,h3,rfl⟩:=Ut h;by_cases e:n<s.mark
 ·rw[if_pos e];exact⟨h1,h2,h3,rfl,rfl⟩
 ·rw[if_neg e];exact⟨h1,h2,h3,rfl,rfl⟩
theorem aK{m:Nat}:Nat.ble n m=true↔n<=m:=by rw[Nat.ble_eq]
theorem eA{m:Nat}:Nat.beq n m=true↔n=m:=by rw[Nat.beq_eq]
theorem and_true{a b:Bool}:and a b=true↔a=true/\b=true:=Bool.and_eq_true_iff
theorem HB{t:Tr AV}{z:List AV}:∀{k off:Nat} {l:List AV},lS t z k off=some l->l.length=k/\∀i,i<k->cellAt t z (off+i)=l[i]?
 |0,off,l,h=>by
  simp only[lS] at h;injection h with h;subst h
  exact⟨rfl,fun i hi=>by omega⟩
 |k+1,off,l,h=>by
  simp only[lS] at h;cases e:cellAt t z off with
  |none=>rw[e] at h;cases h
  |some v=>
   simp only[e] at h;cases e2:lS t z k (off+1) with
   |none=>simp only[e2] at h;cases h
   |some r=>
    simp only[e2] at h;injection h with h;subst h
    obtain⟨a,b⟩:=HB e2;refine⟨by simp[a],fun i hi=>?_⟩;cases i with
    |zero=>simpa using e
    |succ i=>have:=b i aj;rw[show off+1+i=off+(i+1) from by omega] at this;simpa using this
def Row(ρ:Ren)(c:Array Value)(n:Nat)(ar:Nat->Option AV):Prop:=∀i,i<n->∃x v,ar i=some x/\x.bR=true/\c[i]? =some v/\VR ρ x v
theorem Row.get{ar:Nat->Option AV}(r:Row ρ c n ar)(hk:off+k<=n)(hl:l.length=k)(h:∀i,i<k->ar (off+i)=l[i]?):
 ∃vs:List Value,vs.length=k/\ay ρ l vs/\(∀j v,vs[j]? =some v->c[off+j]? =some v)/\∀x∈l,x.bR=true:=by
 have cell:∀i,i<k->∃x v,l[i]? =some x/\x.bR=true/\c[off+i]? =some v/\VR ρ x v:=by intro i hi;obtain⟨x,v,h1,h2,h3,h4⟩:=r (off+i) aj;exact⟨x,v,by rw[←h i hi];exact h1,h2,h3,h4⟩
 refine⟨(List.range k).map fun i=>c.getD (off+i) undef,by simp,?_,?_,?_⟩
 ·refine ay.Vn _ _ (by simp[hl]) fun i a b ha hb=>?_;have hi:i<k:=by have:=List.getElem?_eq_some_iff.1 ha;obtain⟨h1,_⟩:=this;omega
  obtain⟨x,v,h1,h2,h3,h4⟩:=cell i hi;rw[h1] at ha;cases ha;have fm:b=v:=by rw[List.getElem?_map,List.getElem?_range hi] at hb;simp only[Option.map_some,Option.some.injEq] at hb;rw[←hb,Array.getD_eq_getD_getElem?,h3];rfl
  rw[fm];exact h4
 ·intro j v hv;have hj:j<k:=by have:=List.getElem?_eq_some_iff.1 hv;obtain⟨h1,_⟩:=this;simpa using h1
  obtain⟨x,u,h1,h2,h3,h4⟩:=cell j hj;rw[List.getElem?_map,List.getElem?_range hj] at hv;simp only[Option.map_some,Option.some.injEq] at hv;rw[←hv,Array.getD_eq_getD_getElem?,h3];rfl
 ·intro x hx;obtain⟨i,hi,rfl⟩:=List.getElem_of_mem hx;obtain⟨y,v,h1,h2,h3,h4⟩:=cell i aj;rw[List.getElem?_eq_getElem hi] at h1;cases h1;exact h2
theorem Ic{fr:Nat×Nat}(hb:w.heap[b]? =some (.cells c e fr))(h:∀j v,vs[j]? =some v->c[off+j]? =some v):(loadCells ⟨b,off,none⟩ vs.length).run P w= .ok vs.toArray w:=by
 refine run_loadCells_list w ⟨b,off,none⟩ vs fun j v hv=>?_;have WM:(Addr.mk b off none).add j=⟨b,off+j,none⟩:=by
  unfold Addr.add;by_cases q:j=0
  ·subst q;simp
  ·rw[if_neg q]
 rw[WM];simp only[World.cell?,hb];exact h j v hv
theorem yI(fi:bC s)(r:Rel B ρ s.h w)(h:jc n off k s= .ok l s1)(hn:ρ n=some (b,N)):
 s1.h=s.h/\s1.nx=s.nx/\l.length=k/\(∀x∈l,x.bR=true)/\∃vs:List Value,(loadCells ⟨b,off,none⟩ k).run P w= .ok vs.toArray w/\ay ρ l vs/\∀j v,vs[j]? =some v->w.cell? ⟨b,off+j,none⟩=some v:=by
 cases k with
 |zero=>have h':M.pure [] s= .ok l s1:=h;obtain⟨rfl,rfl⟩:=bB h';exact⟨rfl,rfl,rfl,fun x hx=>(by cases hx),[],rfl,by simp[ay],fun j v h=>(by simp at h)⟩
 |succ k=>
  unfold jc at h;obtain⟨o,s2,h1,h2⟩:=M.aN h;obtain⟨hx,hg,hh,ct⟩:=fX h1;have ht:n<top:=Nat.lt_of_lt_of_le hx fi.nx;obtain⟨o',hb,hO,_⟩:=r.block ht hg hn;cases o with
  |cells m t z=>obtain⟨q1,q2⟩:=cX h2;obtain⟨q3,rfl⟩:=gS q2;obtain⟨c,e,rfl,hc,hm,row⟩:=hO;obtain⟨g1,g2⟩:=HB q3;obtain⟨vs,v1,v2,v3,v4⟩:=Row.get (ρ:=ρ) (c:=c) (n:=m) (ar:=cellAt t z) row (aK.1 q1) g1 g2;refine⟨hh,ct,g1,v4,vs,?_,v2,fun j v hv=>by simp only[World.cell?,hb];exact v3 j v hv⟩;have:=Ic (P:=P) hb v3;rw[v1] at this;exact this
  |ro m t=>
   obtain⟨q1,q2⟩:=cX h2;obtain⟨q3,rfl⟩:=gS q2;obtain⟨c,e,fr,rfl,hc,hm,row⟩:=hO;obtain⟨g1,g2⟩:=HB q3;have ahC:Row ρ c m<|cellAt t []:=by intro i hi;obtain⟨x,v,a1,a2,a3,a4⟩:=row i hi;exact⟨x,v,by unfold cellAt;rw[a1],a2,a3,a4⟩
   obtain⟨vs,v1,v2,v3,v4⟩:=ahC.get (aK.1 q1) g1 g2;refine⟨hh,ct,g1,v4,vs,?_,v2,fun j v hv=>by simp only[World.cell?,hb];exact v3 j v hv⟩;have:=Ic (P:=P) hb v3;rw[v1] at this;exact this
  |_=>cases h2
theorem LU{cs:Array Value}{fr:Nat×Nat}(hb:w.heap[b]? =some (.cells c e fr)):
 u0 b w (w.setRow b cs)/\(w.setRow b cs).heap[b]? =some (.cells cs e fr):=by
 refine⟨⟨rfl,rfl,rfl,by simp[World.setRow],fun k hk=>?_⟩,setRow_heap w b c cs e fr hb⟩;simp only[World.setRow,Array.getElem?_modify];rw[if_neg aj]
theorem Zo{x:AV}{v:Value}(h:VR ρ x v)(hx:x.bR=true):v.oneCell'=true:=by
 cases v with
 |agg cs=>exact absurd rfl (VR.bR h hx cs).1
 |tuple cs=>exact absurd rfl (VR.bR h hx cs).2
 |_=>rfl
theorem Hv{ρ:Ren}:∀{l:List AV} {vs:List Value},ay ρ l vs->(∀x∈l,x.bR=true)->∀v∈vs,v.oneCell'=true
 |[],vs,h,_,v,hv=>by simp only[ay] at h;subst h;cases hv
 |x::l,vs,h,hx,v,hv=>by
  simp only[ay] at h;obtain⟨y,ys,rfl,a,b⟩:=h;rcases List.mem_cons.1 hv with rfl|hv
  ·exact Zo a<|hx x List.mem_cons_self
  ·exact Hv b (fun z hz=>hx z<|List.mem_cons_of_mem _ hz) v hv
theorem Row.set{t:Tr AV}{z:List AV}(r:Row ρ c n<|cellAt t z){m:Nat}(hl:ay ρ l vs)(h1:∀x∈l,x.bR=true)(alX:off<=n)(hm:m=max n (off+l.length))(hc:m<=c.size)(ht:m<=top):
 Row ρ ((c.toList.take off++vs++c.toList.drop (off+vs.length)).toArray) m (cellAt (Tr.fill l off t) z):=by
 have hlen:l.length=vs.length:=hl.length;intro i hi;have ahD:cellAt (Tr.fill l off t) z i=match (Tr.fill l off t).get i with|some v=>some v|none=>z[i % z.length]? :=rfl
 rw[ahD,Tr.M3 _ _ _ _ aj aj];by_cases q:off<=i/\i<off+l.length
 ·rw[if_pos q];obtain⟨x,hx⟩:∃x,l[i - off]? =some x:=⟨l[i - off]'aj,List.getElem?_eq_getElem aj⟩;obtain⟨v,hv,hr⟩:=hl.get (i - off) x hx;refine⟨x,v,by rw[hx],h1 x<|List.mem_of_getElem? hx,?_,hr⟩;simp only[List.getElem?_toArray];rw[List.append_assoc,List.getElem?_append_right vY];simp only[List.length_take,Array.length_toList];rw[Nat.min_eq_left aj,List.getElem?_append_left aj];exact hv
 ·rw[if_neg q];have ir:i<n:=by omega
  obtain⟨x,v,a1,a2,a3,a4⟩:=r i ir;refine⟨x,v,a1,a2,?_,a4⟩;simp only[List.getElem?_toArray];by_cases q2:i<off
  ·rw[List.append_assoc,List.getElem?_append_left vY,List.getElem?_take_of_lt q2];simpa using a3
  ·rw[List.getElem?_append_right vY];simp only[List.length_append,List.length_take,Array.length_toList,List.getElem?_drop];rw[Nat.min_eq_left aj];rw[show off+vs.length+(i - (off+vs.length))=i from by omega];simpa using a3
theorem size_set(h:off+vs.length<=c.size):((c.toList.take off++vs++c.toList.drop (off+vs.length)).toArray).size=c.size:=by simp;omega
theorem Mr(hb:w.heap[b]? =some (.cells c e (0,0)))(h:off+vs.length<=c.size)(h1:∀v∈vs,v.oneCell'=true):
 (storeCells ⟨b,off,none⟩ vs).run P w= .ok () (w.setRow b (c.toList.take off++vs++c.toList.drop (off+vs.length)).toArray):=by
 have:=run_storeCells_at P b off e vs 0 c w hb (by simpa using h) h1;simpa using this
theorem LG(fi:bC s)(r:Rel B ρ s.h w)(h:qW n off l s= .ok u s1)(hn:ρ n=some (b,N))(hl:ay ρ l vs):
 s1.nx=s.nx/\∃w',(storeCells ⟨b,off,none⟩ vs).run P w= .ok () w'/\Rel B ρ s1.h w'/\cx B w w':=by
 cases l with
 |nil=>simp only[ay] at hl;subst hl;have h':M.pure () s= .ok u s1:=h;obtain⟨_,rfl⟩:=bB h';exact⟨rfl,w,rfl,r,cx.refl _ _⟩
 |cons x l=>
  unfold qW at h;obtain⟨o,s2,h1,h2⟩:=M.aN h;obtain⟨hx,hg,hh,ct⟩:=fX h1;have ht:n<top:=Nat.lt_of_lt_of_le hx fi.nx;obtain⟨o',hb,hO,hB⟩:=r.block ht hg hn;cases o with
  |cells m t z=>obtain⟨q1,q2⟩:=cX h2;obtain⟨q3,q4⟩:=and_true.1 q1;obtain⟨q5,q6⟩:=and_true.1 q4;obtain⟨_,_,_,e1,e2⟩:=jB q2;obtain⟨c,e,rfl,hc,hm,row⟩:=hO;have hlen:(x::l).length=vs.length:=hl.length;have h3:off+(x::l).length<=m:=aK.1 q3;have h4:m<=top:=aK.1 q5;have h5:∀y∈x::l,y.bR=true:=fun y hy=>List.all_eq_true.1 q6 y hy;have cC:=Mr (P:=P) (off:=off) (vs:=vs) hb aj<|Hv hl h5;obtain⟨g1,g2⟩:=LU (cs:=(c.toList.take off++vs++c.toList.drop (off+vs.length)).toArray) hb;refine⟨by rw[e2,ct],_,cC,?_,g1.below<|hB rfl⟩;rw[e1,hh];refine r.put ht hg rfl rfl hn rfl g1 g2 ?_;refine⟨_,e,rfl,(size_set aj).trans hc,hm,?_⟩;exact Row.set (ρ:=ρ) (c:=c) (n:=m) row hl h5 aj aj aj h4
  |_=>cases h2
theorem yJ{i:Nat}(hl:l.length<=top)(hi:i<l.length):cellAt (Tr.fill l 0 .nil) [] i=l[i]? :=by unfold cellAt;rw[Tr.M3 _ _ _ _ aj aj,if_pos aj];rw[Nat.sub_zero,List.getElem?_eq_getElem hi]
theorem L9(e:TypeId)(rest:List Value)(r:Rel B ρ s.h w)(hf:dB s.nx s1.nx ρ)(h:newRow l s= .ok n s1)(hl:ay ρ l vs):
 n=s.nx/\s1.nx=s.nx+1/\∃σ,Ext s.nx s1.nx ρ σ/\σ n=some (w.heap.size,vs.length+rest.length)/\
  (Go.newRow e (vs++rest).toArray).run P w= .ok ⟨w.heap.size,0,none⟩ {w with heap:=w.heap.push<|.cells (vs++rest).toArray e}/\
  Rel B σ s1.h {w with heap:=w.heap.push<|.cells (vs++rest).toArray e}:=by
 unfold newRow at h;obtain⟨q1,q2⟩:=cX h;obtain⟨q3,q4⟩:=and_true.1 q1;obtain⟨ht,rfl,rfl⟩:=uP q2;have h1:∀y∈l,y.bR=true:=fun y hy=>List.all_eq_true.1 q4 y hy;have h2:l.length<=top:=aK.1 q3;have hlen:=hl.length;have jf:ρ s.nx=none:=hf s.nx (Nat.le_refl _) (Nat.lt_succ_self _) aj;refine⟨rfl,rfl,eQ ρ s.nx (w.heap.size,vs.length+rest.length),Ext.my jf,iQ _ _ _,rfl,?_⟩;refine r.new ht jf rfl ?_;refine⟨_,e,rfl,by simp,by omega,fun i hi=>?_⟩;obtain⟨x,hx⟩:∃x,l[i]? =some x:=⟨l[i]'hi,List.getElem?_eq_getElem hi⟩;obtain⟨v,hv,hr⟩:=hl.get i x hx;refine⟨x,v,by rw[yJ h2 hi];exact hx,h1 x<|List.mem_of_getElem? hx,?_,hr.mono<|om jf⟩;simp only[List.getElem?_toArray];rw[List.getElem?_append_left aj];exact hv
end Go.Rn
namespace Go.Rn
open Go.RowKit
variable {v:Value} {n off b sh N:Nat} {y a:Operand} {ty e:TypeId}
theorem Sa(ρ:Ren){x:AV}(h:FG v=some x):VR ρ x v:=by
 unfold FG at h;split at h<;>first
  |(injection h with h;subst h;simp only[VR];done)
  |(cases h;done)
  |skip
 rename_i len cap;cases hb:(Nat.beq len 0&&Nat.beq cap 0) with
 |false=>rw[hb] at h;cases h
 |true=>
  rw[hb] at h;injection h with h;subst h
  obtain⟨a,b⟩:=and_true.1 hb;have a':=eA.1 a;have b':=eA.1 b;subst a';subst b';simp[VR]
theorem LV(ρ:Ren):∀{l:List Value} {x:List AV},wU l=some x->ay ρ x l
 |[],x,h=>by simp only[wU] at h;injection h with h;subst h;simp only[ay]
 |v::l,x,h=>by
  simp only[wU] at h;cases e:FG v with
  |none=>rw[e] at h;cases h
  |some y=>
   simp only[e] at h;cases e2:wU l with
   |none=>simp only[e2] at h;cases h
   |some r=>
    simp only[e2] at h;injection h with h;subst h
    simp only[ay];exact⟨v,l,rfl,Sa ρ e,LV ρ e2⟩
theorem LW(ρ:Ren){x:AV}(h:ofValue v=some x):VR ρ x v:=by
 unfold ofValue at h;split at h
 ·rename_i cs;cases e:wU cs.toList with
  |none=>rw[e] at h;cases h
  |some l=>simp only[e] at h;injection h with h;subst h;simp only[VR];exact⟨cs,rfl,LV ρ e⟩
 ·rename_i cs;cases e:wU cs.toList with
  |none=>rw[e] at h;cases h
  |some l=>simp only[e] at h;injection h with h;subst h;simp only[VR];exact⟨cs,rfl,LV ρ e⟩
 ·exact Sa ρ h
def gD(ρ:Ren):Prop:=∀g,g<fL->∃N,ρ g=some (g,N)
theorem gD.mono{ρ σ:Ren}(h:gD ρ)(l:ρ.le σ):gD σ:=fun g hg=>let ⟨N,e⟩:=h g hg;⟨N,l _ _ e⟩
theorem CS{ρ:Ren}{nt:Nat}{t:Tr AV}{a:Act}(k:TR ρ nt t a.tmps)(hg:gD ρ){x:Operand}{v:AV}(h:aG t x=some v):VR ρ v<|a.eval x:=by
 cases x with
 |tmp i=>exact k.2 i v h
 |const c=>exact LW ρ h
 |global g=>
  have h': @Bool.rec (fun _=>Option AV) none (some<|.ptr<|some (g,0)) (Nat.blt g fL)=some v:=h;rw[yS] at h';by_cases e:g<fL
  ·rw[if_pos e] at h';injection h' with h';subst h'
   obtain⟨N,hN⟩:=hg g e;simp only[VR];exact⟨g,N,hN,rfl⟩
  ·rw[if_neg e] at h';cases h'
 |func f=>
  have h':some (AV.func (.func f) [] [])=some v:=h;injection h' with h';subst h'
  simp only[VR,ay];exact⟨rfl, #[], #[],rfl,rfl,rfl⟩
theorem Fi{ρ:Ren}{ev:Operand->Option AV}{ec:Operand->Value}(he:∀x v,ev x=some v->VR ρ v (ec x)):∀{l:List Operand} {vs:List AV},jU ev l=some vs->ay ρ vs (l.map ec)
 |[],vs,h=>by simp only[jU] at h;injection h with h;subst h;simp only[ay,List.map_nil]
 |x::l,vs,h=>by
  simp only[jU] at h;cases e:ev x with
  |none=>rw[e] at h;cases h
  |some y=>
   simp only[e] at h;cases e2:jU ev l with
   |none=>simp only[e2] at h;cases h
   |some r=>
    simp only[e2] at h;injection h with h;subst h
    simp only[ay,List.map_cons];exact⟨_,_,rfl,he x y e,Fi he e2⟩
section
variable {P:Program} {w:World}
theorem dv{t:TypeId}{d:TypeDesc}(h:P.underlying t=some d):(underlying t).run P w= .ok d w:=by simp[underlying,h]
theorem uJ{t:TypeId}{i:TypeInfo}(h:P.info? t=some i):(typeInfo t).run P w= .ok i w:=by simp[typeInfo,h]
theorem iP{t:TypeId}{k:Nat}(h:eD P t=some k):(sizeOf t).run P w= .ok k w:=by
 unfold eD at h;cases e:P.info? t with
 |none=>rw[e] at h;cases h
 |some i=>simp only[e] at h;injection h with h;subst h;simp[sizeOf,uJ e]
theorem HC(ρ:Ren){t:TypeId}{z:AV}(h:qj P t=some z):∃v,(zeroValue t).run P w= .ok v w/\VR ρ z v:=by
 unfold qj at h;cases e:P.info? t with
 |none=>rw[e] at h;cases h
 |some i=>
  simp only[e] at h;cases e2:i.zero with
  |none=>simp only[e2] at h;cases h
  |some v=>simp only[e2] at h;exact⟨v,by simp[zeroValue,uJ e,e2],LW ρ h⟩
theorem Am{t:TypeId}{b:Bool}(h:qx P t=some b):(isAgg t).run P w= .ok b w:=by
 unfold qx at h;split at h<;>first|(cases h;done)|skip
 ·rename_i fs e;injection h with h;subst h;simp[isAgg,dv e]
 ·rename_i n m e;injection h with h;subst h;simp[isAgg,dv e]
 ·rename_i d h1 h2 e;injection h with h;subst h
  simp only[isAgg,Sem.run_bind,dv e,Result.andThen_ok];cases d<;>first|rfl|(exact absurd e<|h1 _)|(exact absurd e<|h2 _ _)
end
theorem Addr.rf(b o j:Nat):(Addr.mk b o none).add j=⟨b,o+j,none⟩:=by
 unfold Addr.add;by_cases q:j=0
 ·subst q;simp
 ·rw[if_neg q]
def gg(P:Program)(B:aI)(ρ:Ren)(s s1:AS)(w:World)(x:AV)(c:Sem Next):Prop:=∃σ w' nv,Ext s.nx s1.nx ρ σ/\c.run P w= .ok nv w'/\(match nv with| .value v=>VR σ x v| .skip=>x=qf|_=>False)/\Rel B σ s1.h w'/\cx B w w'
def jV(P:Program)(B:aI)(ρ:Ren)(s s1:AS)(w:World)(x:AV)(c:Sem Value):Prop:=∃σ w' v,Ext s.nx s1.nx ρ σ/\c.run P w= .ok v w'/\VR σ x v/\Rel B σ s1.h w'/\cx B w w'
theorem jV.op{P:Program}{B:aI}{ρ:Ren}{s s1:AS}{w:World}{x:AV}{c:Sem Value}(h:jV P B ρ s s1 w x c):gg P B ρ s s1 w x (do pure (.value<|←c)):=by obtain⟨σ,w',v,a,b,d,e,f⟩:=h;exact⟨σ,w',.value v,a,by simp[b],d,e,f⟩
section
variable {P:Program} {B:aI} {ρ:Ren} {w:World} {s s1:AS}
theorem RP{t:TypeId}{x:AV}(fi:bC s)(r:Rel B ρ s.h w)(h:loadVar P t n off s= .ok x s1)(hn:ρ n=some (b,N)):
 s1.h=s.h/\s1.nx=s.nx/\∃v,(Go.loadVar t ⟨b,off,none⟩).run P w= .ok v w/\VR ρ x v:=by
 unfold loadVar at h;obtain⟨ag,h1,h2⟩:=bw h;cases ag with
 |true=>
  obtain⟨k,h3,h4⟩:=bw h2;obtain⟨l,s2,h5,h6⟩:=M.aN h4;obtain⟨rfl,rfl⟩:=bB h6;obtain⟨a1,a2,a3,a4,vs,a5,a6,_⟩:=yI (P:=P) fi r h5 hn;refine⟨a1,a2,.agg vs.toArray,?_,?_⟩
  ·simp[Go.loadVar,Am h1,iP h3,a5]
  ·simp only[VR];exact⟨_,rfl,by simpa using a6⟩
 |false=>
  obtain⟨l,s2,h5,h6⟩:=M.aN h2;obtain⟨q,rfl⟩:=gS h6;obtain⟨a1,a2,a3,a4,vs,a5,a6,a7⟩:=yI (P:=P) fi r h5 hn;unfold one at q;split at q
  ·rename_i y;injection q with q;subst q
   simp only[ay] at a6;obtain⟨v,ys,rfl,hv,rfl⟩:=a6;have hc:=a7 0 v rfl;refine⟨a1,a2,v,?_,hv⟩;simp only[Go.loadVar,Sem.run_bind,Am h1,Result.andThen_ok];simp[show w.cell? ⟨b,off,none⟩=some v from by simpa using hc]
  ·cases q
theorem Zp{t:TypeId}{x:AV}(fi:bC s)(r:Rel B ρ s.h w)(h:wW P t n off s= .ok x s1)(hn:ρ n=some (b,sh)):
 s1.h=s.h/\s1.nx=s.nx/\∃v,(Go.loadVar t ⟨b,sh+off,none⟩).run P w= .ok v w/\VR ρ x v:=by
 unfold wW at h;obtain⟨ag,h1,h2⟩:=bw h;cases ag with
 |true=>cases h2
 |false=>
  obtain⟨ob,s2,h3,h4⟩:=M.aN h2;obtain⟨hx,hg,hh,ct⟩:=fX h3;have ht:n<top:=Nat.lt_of_lt_of_le hx fi.nx;obtain⟨o',hb,hO,_⟩:=r.block ht hg hn;cases ob with
  |tz m tr=>
   obtain⟨q1,q2⟩:=cX h4;obtain⟨q3,rfl⟩:=gS q2;have cf:off<m:=by rw[←blt_eq];exact q1
   obtain⟨c,e,fr,rfl,row⟩:=hO;obtain⟨y,v,g1,g2,g3,g4⟩:=row off cf;rw[q3] at g1;injection g1 with g1;subst g1
   refine⟨hh,ct,v,?_,g4⟩;have hc:w.cell? ⟨b,sh+off,none⟩=some v:=by simp only[World.cell?,hb];exact g3
   simp only[Go.loadVar,Sem.run_bind,Am h1,Result.andThen_ok];simp[hc]
  |_=>cases h4
def A7(B:aI)(YR:aJ):Prop:=∀(n o k:Nat) (x:AV) (s s1:AS) (ρ:Ren) (w:World),bC s->Rel B ρ s.h w->YR (.row n o k) [] s= .ok x s1->s1.h=s.h/\s1.nx=s.nx/\∀b sh,ρ (hn n b sh)≠none->∃l vs,x= .agg l/\vs.length=k/\ay ρ l vs/\∃c e fr,w.heap[b]? =some (.cells c e fr)/\∀(j:Nat) (v:Value),vs[j]? =some v->c[sh+o+j]? =some v
theorem ZJ{t:TypeId}{x:AV}{YR:aJ}(eU:A7 B YR)(fi:bC s)(r:Rel B ρ s.h w)(h:uY P t YR n off s= .ok x s1)(hn:ρ (hn n b sh)≠none):
 s1.h=s.h/\s1.nx=s.nx/\∃v,(Go.loadVar t ⟨b,sh+off,none⟩).run P w= .ok v w/\VR ρ x v:=by
 unfold uY at h;obtain⟨ag,h1,h2⟩:=bw h;obtain⟨k,h3,h4⟩:=bw h2;obtain⟨y,s2,h5,h6⟩:=M.aN h4;obtain⟨a1,a2,eU⟩:=eU _ _ _ _ _ _ _ _ fi r h5;obtain⟨l,vs,rfl,a3,a5,c,e,fr,a6,a7⟩:=eU b sh hn;have mH:∀(j:Nat) (v:Value),vs[j]? =some v->w.cell? ⟨b,sh+off+j,none⟩=some v:=fun j v hj=>by simp only[World.cell?,a6];exact a7 j v hj
 cases ag with
 |true=>
  obtain⟨rfl,rfl⟩:=bB h6;have F0:=Ic (P:=P) (w:=w) a6 a7;rw[a3] at F0;refine⟨a1,a2,.agg vs.toArray,?_,?_⟩
  ·simp[Go.loadVar,Am h1,iP h3,F0]
  ·simp only[VR];exact⟨_,rfl,by simpa using a5⟩
 |false=>
  obtain⟨q,rfl⟩:=gS h6;unfold one at q;split at q
  ·rename_i y;injection q with q;subst q
   simp only[ay] at a5;obtain⟨v,ys,rfl,hv,rfl⟩:=a5;have hc:=mH 0 v rfl;refine⟨a1,a2,v,?_,hv⟩;simp only[Go.loadVar,Sem.run_bind,Am h1,Result.andThen_ok];simp[show w.cell? ⟨b,sh+off,none⟩=some v from by simpa using hc]
  ·cases q
theorem Zc{t:TypeId}{x:AV}{u:Unit}(fi:bC s)(r:Rel B ρ s.h w)(h:storeVar P t n off x s= .ok u s1)(hn:ρ n=some (b,N))(hv:VR ρ x v):
 s1.nx=s.nx/\∃w',(Go.storeVar t ⟨b,off,none⟩ v).run P w= .ok () w'/\Rel B ρ s1.h w'/\cx B w w':=by
 unfold storeVar at h;obtain⟨k,h1,h2⟩:=bw h;obtain⟨h3,h4⟩:=cX h2;obtain⟨a1,w',a2,a3,a4⟩:=LG (P:=P) fi r h4 hn hv.cells;refine⟨a1,w',?_,a3,a4⟩;have hk:v.cells.size=k:=by have:=hv.cells.length;rw[eA.1 h3] at this;simpa using this.symm
 simp[Go.storeVar,iP h1,hk,a2]
theorem Sb{x:AV}(e:TypeId)(r:Rel B ρ s.h w)(hf:dB s.nx s1.nx ρ)(h:newRow x.cells s= .ok n s1)(hv:VR ρ x v):
 ∃σ w' b N,Ext s.nx s1.nx ρ σ/\(Go.newVar e v).run P w= .ok ⟨b,0,none⟩ w'/\σ n=some (b,N)/\Rel B σ s1.h w'/\cx B w w':=by
 obtain⟨rfl,h1,σ,h2,h3,h4,h5⟩:=L9 (P:=P) e [] r hf h hv.cells;refine⟨σ,_,_,_,h2,?_,h3,h5,(gP.alloc w _).below r.size⟩;have:(v.cells.toList++[]).toArray=v.cells:=by simp
 rw[this] at h4 ⊢;exact h4
end
theorem VR.CT{ρ:Ren}{x:AV}{i:Int}(h:VR ρ x v)(hi:intOf x=some i):∃k,x= .int k i/\v= .int k i:=by
 cases x<;>simp only[intOf] at hi<;>first|(cases hi;done)|skip
 rename_i k n;injection hi with hi;subst hi
 simp only[VR] at h;exact⟨k,rfl,h⟩
theorem VR.Tz{ρ:Ren}{x:AV}{b:Bool}(h:VR ρ x v)(hi:xg x=some b):v= .bool b:=by
 cases x<;>simp only[xg] at hi<;>first|(cases hi;done)|skip
 injection hi with hi;subst hi
 simp only[VR] at h;exact h
theorem VR.M5{ρ:Ren}{x:AV}{a:Nat×Nat}(h:VR ρ x v)(hi:addrOf x=some a):∃b N,ρ a.1=some (b,N)/\v= .pointer (some ⟨b,a.2,none⟩):=by
 unfold addrOf at hi;split at hi
 ·injection hi with hi;subst hi
  rename_i a;obtain⟨n,o⟩:=a;simp only[VR] at h;exact h
 ·cases hi
section
variable {P:Program} {B:aI} {ρ:Ren} {w:World} {s s1:AS} {x:AV} {YR:aJ} {t:Tr AV} {ev:Operand->Value} {o:Oper}
theorem SK(he:∀x v,aG t x=some v->VR ρ v (ev x))(r:Rel B ρ s.h w)(h:vu y YR t s= .ok x s1)(ho:o.op= .move y\/o.op= .assign y):gg P B ρ s s1 w x<|execOp ev o:=by obtain⟨h1,rfl⟩:=gS (show lift (aG t y) s= .ok x s1 from h);refine⟨ρ,w,.value<|ev y,Ext.refl _ _ _,?_,he y x h1,r,cx.refl _ _⟩;rcases ho with ho|ho<;>simp[execOp,ho]
theorem aaz{c b:Operand}(he:∀x v,aG t x=some v->VR ρ v (ev x))(r:Rel B ρ s.h w)(h:Bk c a b YR t s= .ok x s1)(ho:o.op= .pick c a b):gg P B ρ s s1 w x<|execOp ev o:=by
 unfold Bk at h;obtain⟨v,h1,h2⟩:=bw h;obtain⟨q,h3,h4⟩:=bw h2;obtain⟨va,h5,h6⟩:=bw h4;obtain⟨vb,h7,h8⟩:=bw h6;have hc:=(he c v h1).Tz h3;cases q with
 |true=>obtain⟨rfl,rfl⟩:=bB h8;exact⟨ρ,w,.value<|ev a,Ext.refl _ _ _,by simp[execOp,ho,hc,asBool],he a _ h5,r,cx.refl _ _⟩
 |false=>obtain⟨rfl,rfl⟩:=bB h8;exact⟨ρ,w,.value<|ev b,Ext.refl _ _ _,by simp[execOp,ho,hc,asBool],he b _ h7,r,cx.refl _ _⟩
theorem ZK(r:Rel B ρ s.h w)(hf:dB s.nx s1.nx ρ)(h:Jb P e YR t s= .ok x s1)(ho:o.op= .alloc e):gg P B ρ s s1 w x<|execOp ev o:=by
 unfold Jb at h;obtain⟨z,h1,h2⟩:=bw h;obtain⟨n,s2,h3,h4⟩:=M.aN h2;obtain⟨rfl,rfl⟩:=bB h4;obtain⟨v,h5,h6⟩:=HC (P:=P) (w:=w) ρ h1;obtain⟨σ,w',b,N,a1,a2,a3,a4,a5⟩:=Sb (P:=P) e r hf h3 h6;refine⟨σ,w',.value<|.pointer<|some ⟨b,0,none⟩,a1,?_,?_,a4,a5⟩
 ·simp[execOp,ho,Instr.alloc,h5,a2]
 ·simp only[VR];exact⟨b,N,a3,rfl⟩
theorem abI(he:∀x v,aG t x=some v->VR ρ v (ev x))(r:Rel B ρ s.h w)(hf:dB s.nx s1.nx ρ)(h:Bs y YR t s= .ok x s1)(ho:o.op= .box e y):gg P B ρ s s1 w x<|execOp ev o:=by
 unfold Bs at h;obtain⟨z,h1,h2⟩:=bw h;obtain⟨n,s2,h3,h4⟩:=M.aN h2;obtain⟨rfl,rfl⟩:=bB h4;obtain⟨σ,w',b,N,a1,a2,a3,a4,a5⟩:=Sb (P:=P) e r hf h3<|he y z h1;refine⟨σ,w',.value<|.pointer<|some ⟨b,0,none⟩,a1,?_,?_,a4,a5⟩
 ·simp[execOp,ho,Instr.box,a2]
 ·simp only[VR];exact⟨b,N,a3,rfl⟩
theorem aaA(eU:A7 B YR)(he:∀x v,aG t x=some v->VR ρ v (ev x))(fi:bC s)(r:Rel B ρ s.h w)(h:tA P ty a YR t s= .ok x s1)(ho:o.op= .load ty a):gg P B ρ s s1 w x<|execOp ev o:=by
 unfold tA at h;obtain⟨v,h1,h2⟩:=bw h;unfold loadAt at h2;split at h2
 ·rename_i n q;have hv:=he a _ h1;simp only[VR] at hv;obtain⟨b,sh,h5,h6⟩:=hv;have main:s1.h=s.h/\s1.nx=s.nx/\∃v,(Go.loadVar ty ⟨b,sh+q,none⟩).run P w= .ok v w/\VR ρ x v:=by
   cases hb:Nat.ble top n with
   |true=>rw[hb] at h2;exact ZJ eU fi r h2<|h5.high<|aK.1 hb
   |false=>rw[hb] at h2;exact Zp (P:=P) fi r h2 (h5.low fun q=>by rw[aK.2 q] at hb;cases hb)
  obtain⟨a1,a2,u,a3,a4⟩:=main;refine⟨ρ,w,.value u,Ext.refl _ _ _,?_,a4,by rw[a1];exact r,cx.refl _ _⟩;simp[execOp,ho,Instr.loadAt,Instr.sureAddr,h6,a3]
 ·obtain⟨ad,h3,h4⟩:=bw h2;obtain⟨b,N,h5,h6⟩:=(he a v h1).M5 h3;obtain⟨a1,a2,u,a3,a4⟩:=RP (P:=P) fi r h4 h5;refine⟨ρ,w,.value u,Ext.refl _ _ _,?_,a4,by rw[a1];exact r,cx.refl _ _⟩;simp[execOp,ho,Instr.loadAt,Instr.sureAddr,h6,a3]
theorem ZL(he:∀x v,aG t x=some v->VR ρ v (ev x))(fi:bC s)(r:Rel B ρ s.h w)(h:xk P ty a y YR t s= .ok x s1)(ho:o.op= .store ty a y):gg P B ρ s s1 w x<|execOp ev o:=by unfold xk at h;obtain⟨v,h1,h2⟩:=bw h;obtain⟨ad,h3,h4⟩:=bw h2;obtain⟨z,h5,h6⟩:=bw h4;obtain⟨u,s2,h7,h8⟩:=M.aN h6;obtain⟨rfl,rfl⟩:=bB h8;obtain⟨b,N,h9,gG⟩:=(he a v h1).M5 h3;obtain⟨a1,w',a2,a3,a4⟩:=Zc (P:=P) fi r h7 h9<|he y z h5;refine⟨ρ,w',.skip,Ext.refl _ _ _,?_,rfl,a3,a4⟩;simp[execOp,ho,Instr.storeAt,Instr.sureAddr,gG,a2]
theorem Y1(he:∀x v,aG t x=some v->VR ρ v (ev x))(r:Rel B ρ s.h w)(h:Aq y YR t s= .ok x s1)(ho:o.op= .nilCheck y):gg P B ρ s s1 w x<|execOp ev o:=by
 unfold Aq at h;obtain⟨v,h1,h2⟩:=bw h;obtain⟨h3,h4⟩:=cX h2;obtain⟨rfl,rfl⟩:=bB h4;have hv:=he y _ h1;refine⟨ρ,w,.value<|ev y,Ext.refl _ _ _,?_,hv,r,cx.refl _ _⟩;simp only[execOp,ho];generalize ev y=v at hv;cases x<;>(try simp only[VR] at hv)<;>(try (subst hv;first|(simp[notNil] at h3;done)|rfl))
 case ptr a=>
  cases a with
  |none=>simp[notNil] at h3
  |some a=>obtain⟨n,q⟩:=a;simp only[VR] at hv;obtain⟨_,_,_,rfl⟩:=hv;rfl
 case U n o l=>rcases hv with⟨_,_,_,_,rfl,_⟩|⟨_,_,_,_,rfl,_⟩<;>rfl
 case pG n o=>obtain⟨_,_,_,rfl⟩:=hv;rfl
 case slice a len cap=>
  have:∃p q r,v= .slice p q r:=by
   cases a with
   |none=>cases cap<;>simp only[VR] at hv;exact⟨_,_,_,hv.1⟩
   |some a=>
    obtain⟨n,q⟩:=a;cases cap<;>simp only[VR] at hv
    ·obtain⟨_,_,_,rfl⟩:=hv;exact⟨_,_,_,rfl⟩
    ·obtain⟨_,_,_,_,rfl,_⟩:=hv;exact⟨_,_,_,rfl⟩
    ·obtain⟨_,_,_,_,_,_,rfl⟩:=hv;exact⟨_,_,_,rfl⟩
  obtain⟨_,_,_,rfl⟩:=this;rfl
 case map a=>
  cases a with
  |none=>simp only[VR] at hv;subst hv;rfl
  |some a=>simp only[VR] at hv;obtain⟨_,_,_,rfl⟩:=hv;rfl
 case func fn f c=>obtain⟨_,_,_,rfl,_⟩:=hv;cases fn<;>first|rfl|(simp[notNil] at h3)
 case yield l=>obtain⟨_,_,_,rfl⟩:=hv;rfl
 case iface ty y=>obtain⟨_,rfl,_⟩:=hv;rfl
 case agg l=>obtain⟨_,rfl,_⟩:=hv;rfl
 case tuple l=>obtain⟨_,rfl,_⟩:=hv;rfl
end
end Go.Rn
namespace Go.Rn
open Go.RowKit
variable {ty:TypeId} {ps:List<|Nat×AV} {parts:Array<|Nat×Operand}
theorem ay.set{ρ:Ren}:∀{x:List AV} {v:List Value} {i:Nat} {a:AV} {b:Value},ay ρ x v->VR ρ a b->ay ρ (x.set i a) (v.set i b)
 |[],_,_,_,_,h,_=>by simp only[ay] at h;subst h;simp[ay]
 |y::ys,_,0,_,_,h,k=>by simp only[ay] at h;obtain⟨z,zs,rfl,p,q⟩:=h;simp only[List.set_cons_zero,ay];exact⟨_,_,rfl,k,q⟩
 |y::ys,_,i+1,_,_,h,k=>by simp only[ay] at h;obtain⟨z,zs,rfl,p,q⟩:=h;simp only[List.set_cons_succ,ay];exact⟨_,_,rfl,p,q.set k⟩
def vJ:List Value->List Value->Nat->List Value
 |cs,[],_=>cs
 |cs,c::l,off=>vJ (cs.set off c) l<|off+1
theorem RB{ρ:Ren}:∀{l:List AV} {vs:List Value} {cs:List AV} {ds:List Value} {off:Nat},ay ρ l vs->ay ρ cs ds->ay ρ (setCells cs l off) (vJ ds vs off)
 |[],_,_,_,_,h,k=>by simp only[ay] at h;subst h;exact k
 |x::l,_,cs,ds,off,h,k=>by simp only[ay] at h;obtain⟨y,ys,rfl,p,q⟩:=h;show ay ρ (setCells (cs.set off x) l<|off+1)<|vJ (ds.set off y) ys<|off+1;exact RB (l:=l) q<|k.set p
theorem SL(off:Nat):∀(l:List Value) (k:Nat) (cs:Array Value),
 ((l.zipIdx k).foldl (fun(cs:Array Value) (x:Value×Nat)=>cs.setIfInBounds (off+x.2) x.1) cs).toList=vJ cs.toList l (off+k)
 |[],k,cs=>rfl
 |c::l,k,cs=>by simp only[List.zipIdx_cons,List.foldl_cons,vJ];rw[SL off l (k+1) _];simp[Nat.add_assoc]
def v8(ρ:Ren):List (Nat×AV)->List (Nat×Value)->Prop
 |[],l=>l=[]
 |x::xs,l=>∃y ys,l=y::ys/\x.1=y.1/\VR ρ x.2 y.2/\v8 ρ xs ys
theorem Ms{ρ:Ren}{ev:Operand->Option AV}{ec:Operand->Value}(he:∀x v,ev x=some v->VR ρ v (ec x)):∀{l:List<|Nat×Operand} {vs:List<|Nat×AV},vt ev l=some vs->v8 ρ vs (l.map fun(i,x)=>(i,ec x))
 |[],vs,h=>by simp only[vt] at h;injection h with h;subst h;simp only[v8,List.map_nil]
 |(i,x)::l,vs,h=>by
  simp only[vt] at h;cases e:ev x with
  |none=>rw[e] at h;cases h
  |some y=>
   simp only[e] at h;cases e2:vt ev l with
   |none=>simp only[e2] at h;cases h
   |some r=>
    simp only[e2] at h;injection h with h;subst h
    simp only[v8,List.map_cons];exact⟨_,_,rfl,rfl,he x y e,Ms he e2⟩
theorem Ie{ρ:Ren}{place:Nat->Option (Nat×Nat)}:∀{ps:List<|Nat×AV} {qs:List<|Nat×Value} {cs l:List AV} {ds:Array Value},v8 ρ ps qs->ay ρ cs ds.toList->xh place cs ps=some l->
 ∃es,Instr.fill place ds qs=some es/\ay ρ l es.toList
 |[],qs,cs,l,ds,h,k,e=>by
  simp only[v8] at h;subst h;simp only[xh] at e;injection e with e;subst e
  exact⟨ds,rfl,k⟩
 |(i,v)::ps,qs,cs,l,ds,h,k,e=>by
  simp only[v8] at h;obtain⟨⟨i',v'⟩,ys,rfl,hi,hv,hr⟩:=h;simp only at hi hv;subst hi;simp only[xh] at e;cases e1:place i with
  |none=>simp only[e1] at e;cases e
  |some p=>
   obtain⟨off,size⟩:=p;simp only[e1] at e;cases e2:(Nat.beq v.cells.length size&&Nat.ble (off+v.cells.length) cs.length) with
   |false=>simp only[e2] at e;cases e
   |true=>
    simp only[e2] at e;obtain⟨a,b⟩:=and_true.1 e2;have a:=eA.1 a;have b:=aK.1 b;have hc:=hv.cells;have l1:=hc.length;have l2:=k.length;simp only[Array.length_toList] at l1 l2;have Gl:ay ρ (setCells cs v.cells off) (v'.cells.zipIdx.foldl (fun(cs:Array Value) (x:Value×Nat)=>cs.setIfInBounds (off+x.2) x.1) ds).toList:=by rw[←Array.foldl_toList,Array.toList_zipIdx,SL off _ 0 ds];exact RB hc k
    obtain⟨es,g1,g2⟩:=Ie hr Gl e;refine⟨es,?_,g2⟩;simp only[Instr.fill,e1];rw[if_neg vY];exact g1
theorem RQ{P:Program}:∀{fs:List Field} {pl:List<|Nat×Nat},AI P fs=some pl->fs.mapM (fun f=>(P.info? f.type).map fun i=>(f.offset,i.size))=some pl
 |[],pl,h=>by simp only[AI] at h;injection h with h;subst h;rfl
 |f::fs,pl,h=>by
  simp only[AI,eD] at h;cases e:P.info? f.type with
  |none=>simp only[e] at h;cases h
  |some i=>
   simp only[e] at h;cases e2:AI P fs with
   |none=>simp only[e2] at h;cases h
   |some r=>
    simp only[e2] at h;injection h with h;subst h
    simp[List.mapM_cons,e,RQ e2]
theorem ZM{P:Program}(ρ:Ren){t:TypeId}{z:AV}(h:qj P t=some z):∃i v,P.info? t=some i/\i.zero=some v/\VR ρ z v:=by
 unfold qj at h;cases e:P.info? t with
 |none=>rw[e] at h;cases h
 |some i=>
  simp only[e] at h;cases e2:i.zero with
  |none=>simp only[e2] at h;cases h
  |some v=>simp only[e2] at h;exact⟨i,v,rfl,e2,LW ρ h⟩
section
variable {P:Program} {B:aI} {ρ:Ren} {w:World} {s s1:AS} {x:AV} {YR:aJ} {t:Tr AV} {ev:Operand->Value} {o:Oper}
theorem aaB{qs:List<|Nat×Value}(hp:v8 ρ ps qs)(h:build P ty ps=some x):∃cells,P.built ty qs=some cells/\VR ρ x (.agg cells):=by
 unfold build at h;cases ez:qj P ty with
 |none=>simp only[ez] at h;cases h
 |some z=>
  obtain⟨i,v,h1,h2,h3⟩:=ZM ρ ez;simp only[ez] at h;cases eu:P.underlying ty with
  |none=>simp only[eu] at h;cases h
  |some d=>
   cases d<;>simp only[eu] at h<;>first|(cases h;done)|skip
   case array n e=>
    cases ek:eD P e with
    |none=>simp only[ek] at h;cases h
    |some k=>
     simp only[ek] at h;cases ef:xh (fun i=>some (i*k,k)) z.cells ps with
     |none=>simp only[ef] at h;cases h
     |some l=>
      simp only[ef] at h;injection h with h;subst h
      obtain⟨es,g1,g2⟩:=Ie hp h3.cells ef;unfold eD at ek;cases ei:P.info? e with
      |none=>rw[ei] at ek;cases ek
      |some ie=>
       simp only[ei] at ek;injection ek with ek;subst ek
       refine⟨es,?_,by simp only[VR];exact⟨_,rfl,g2⟩⟩;simp only[Program.built,h1,eu,h2,ei];exact g1
   case struct fs=>
    cases ek:AI P fs.toList with
    |none=>simp only[ek] at h;cases h
    |some pl=>
     simp only[ek] at h;cases ef:xh (fun i=>pl[i]?) z.cells ps with
     |none=>simp only[ef] at h;cases h
     |some l=>
      simp only[ef] at h;injection h with h;subst h
      obtain⟨es,g1,g2⟩:=Ie hp h3.cells ef;refine⟨es,?_,by simp only[VR];exact⟨_,rfl,g2⟩⟩;simp only[Program.built,h1,eu,h2,RQ ek];simpa using g1
theorem ZN(he:∀x v,aG t x=some v->VR ρ v (ev x))(r:Rel B ρ s.h w)(h:A0 P ty parts.toList YR t s= .ok x s1)(ho:o.op= .build ty parts):gg P B ρ s s1 w x<|execOp ev o:=by
 unfold A0 at h;obtain⟨ps,h1,h2⟩:=bw h;obtain⟨h3,rfl⟩:=gS h2;have hp:=Ms he h1;obtain⟨cells,g1,g2⟩:=aaB (P:=P) hp h3;refine⟨ρ,w,.value<|.agg cells,Ext.refl _ _ _,?_,g2,r,cx.refl _ _⟩;have BT:P.built ty (parts.map fun(i,x)=>(i,ev x)).toList=some cells:=by rw[Array.toList_map];exact g1
 simp only[execOp,ho,Sem.run_bind,run_build w ty _ cells BT,Result.andThen_ok];rfl
theorem RC{z:List AV}{vs:List Value}(h:ay ρ z vs):∀n,ay ρ (Ff n z) (List.replicate n vs).flatten
 |0=>by simp[Ff,ay]
 |n+1=>by simp only[Ff,List.replicate_succ,List.flatten_cons];exact h.append<|RC h n
theorem Sc{vs:List Value}:∀(n i:Nat),i<n*vs.length->(List.replicate n vs).flatten[i]? =vs[i % vs.length]?
 |0,i,h=>by omega
 |n+1,i,h=>by
  rw[List.replicate_succ,List.flatten_cons];by_cases q:i<vs.length
  ·rw[List.getElem?_append_left q,Nat.mod_eq_of_lt q]
  ·have hs:(n+1)*vs.length=n*vs.length+vs.length:=by rw[Nat.succ_mul]
   rw[List.getElem?_append_right aj,Sc n _ aj];rw[←Nat.mod_eq_sub_mod aj]
theorem ZO{zs:Array Value}{n:Nat}:(Array.range<|n*zs.size).map (fun i=>zs[i % zs.size]!)=(List.replicate n zs.toList).flatten.toArray:=by
 apply Array.ext_getElem?;intro i;have hlen:(List.replicate n zs.toList).flatten.length=n*zs.size:=by simp
 by_cases q:i<n*zs.size
 ·have hz:0<zs.size:=by
   rcases Nat.eq_zero_or_pos zs.size with h0|h0
   ·rw[h0] at q;omega
   ·exact h0
  have hm:i % zs.size<zs.size:=Nat.mod_lt _ hz;have hr:(List.replicate n zs.toList).flatten.toArray[i]? =zs.toList[i % zs.toList.length]? :=by rw[List.getElem?_toArray];exact Sc n i (by rw[Array.length_toList];exact q)
  rw[hr];simp[q,getElem!_pos zs (i % zs.size) hm,Array.getElem?_eq_getElem hm]
 ·have hr:(List.replicate n zs.toList).flatten.toArray[i]? =none:=by rw[List.getElem?_toArray];exact List.getElem?_eq_none (by rw[hlen];omega)
  rw[hr,Array.getElem?_eq_none vY]
theorem YU{len:Nat}{qs:Array<|Nat×Value}(hp:v8 ρ ps qs.toList)(r:Rel B ρ s.h w)(hf:dB s.nx s1.nx ρ)(h:buildSlice P ty len ps s= .ok x s1):
 jV P B ρ s s1 w x (Instr.buildSlice ty len qs):=by
 unfold buildSlice at h;cases eu:P.underlying ty with
 |none=>simp only[eu] at h;cases h
 |some d=>
  cases d<;>simp only[eu] at h<;>first|(cases h;done)|skip
  rename_i e;simp only[bind_eq,acZ] at h;obtain⟨k,s2,h1,h2⟩:=M.aN h;obtain⟨yj,rfl⟩:=gS h1;obtain⟨z,s3,h3,h4⟩:=M.aN h2;obtain⟨Qg,rfl⟩:=gS h3;obtain⟨u,s4,h5,h6⟩:=M.aN h4;have Qh:(Nat.ble (len*k) 1048576&&Nat.beq z.cells.length k)=true/\s4=s3:=by
   cases hb:(Nat.ble (len*k) 1048576&&Nat.beq z.cells.length k) with
   |false=>rw[hb] at h5;cases h5
   |true=>rw[hb] at h5;cases h5;exact⟨rfl,rfl⟩
  obtain⟨Qh,rfl⟩:=Qh;obtain⟨l,s5,h7,h8⟩:=M.aN h6;obtain⟨BU,rfl⟩:=gS h7;obtain⟨n,s6,h9,gG⟩:=M.aN h8;obtain⟨rfl,rfl⟩:=bB gG;obtain⟨a,b⟩:=and_true.1 Qh;have a:=aK.1 a;have b:=eA.1 b;obtain⟨vz,g1,g2⟩:=HC (P:=P) (w:=w) ρ Qg;have hlen:=g2.cells.length;simp only[Array.length_toList] at hlen;have yZ:(Array.range<|len*k).map (fun i=>(if len*k=0 then(#[]:Array Value) else vz.cells)[i % (if len*k=0 then(#[]:Array Value) else vz.cells).size]!)=(List.replicate len vz.cells.toList).flatten.toArray:=by
   by_cases q:len*k=0
   ·rw[q];have:(List.replicate len vz.cells.toList).flatten=[]:=by
     apply List.length_eq_zero_iff.1;have e1:(List.replicate len vz.cells.toList).flatten.length=len*vz.cells.size:=by simp
     rw[e1, ←hlen,b];exact q
    simp[this]
   ·simp only[if_neg q];have:k=vz.cells.size:=by omega
    subst this;exact ZO
  obtain⟨es,f1,f2⟩:=Ie (ds:=(List.replicate len vz.cells.toList).flatten.toArray) hp (by simpa using RC g2.cells len) BU;obtain⟨rfl,n1,σ,e1,e2,e3,e4⟩:=L9 (P:=P) e [] r hf h9 f2;refine⟨σ,_,.slice (some ⟨w.heap.size,0,none⟩) len len,e1,?_,?_,e4,(gP.alloc w _).below r.size⟩
  ·have hes:(es.toList++[]).toArray=es:=by simp
   rw[hes] at e3 e4 ⊢;have Qi:¬(len*k>2 ^ 24):=by omega
   simp only[Instr.buildSlice,Sem.run_bind,dv eu,Result.andThen_ok,iP yj];rw[if_neg Qi];by_cases q:len*k=0
   ·rw[if_pos q];simp only[if_pos q] at yZ;simp only[Sem.run_bind,Sem.run_pure,Result.andThen_ok,yZ,f1,e3]
   ·rw[if_neg q];simp only[if_neg q] at yZ;simp only[Sem.run_bind,Sem.run_pure,Result.andThen_ok,g1,yZ,f1,e3]
  ·simp only[VR];exact⟨_,_,e2,rfl⟩
theorem YS{len:Nat}(he:∀x v,aG t x=some v->VR ρ v (ev x))(r:Rel B ρ s.h w)(hf:dB s.nx s1.nx ρ)(h:An P ty len parts.toList YR t s= .ok x s1)(ho:o.op= .buildSlice ty len parts):gg P B ρ s s1 w x<|execOp ev o:=by
 unfold An at h;obtain⟨ps,h1,h2⟩:=bw h;have hp:v8 ρ ps (parts.map fun(i,x)=>(i,ev x)).toList:=by rw[Array.toList_map];exact Ms he h1
 have:=(YU (P:=P) hp r hf h2).op;simpa only[execOp,ho] using this
end
end Go.Rn
namespace Go.Rn
open Go.RowKit
section
variable {P:Program} {B:aI} {ρ:Ren} {w:World} {s s1:AS} {x:AV} {YR:aJ} {t:Tr AV} {ev:Operand->Value} {o:Oper}
theorem EW{ty:TypeId}{cs:List AV}{ds:Array Value}{off:Nat}(hc:ay ρ cs ds.toList)(h:vq P ty cs off=some x):∃v,(part ty ds off).run P w= .ok v w/\VR ρ x v:=by
 unfold vq at h;cases ea:qx P ty with
 |none=>simp only[ea] at h;cases h
 |some b=>
  simp only[ea] at h;cases b with
  |true=>
   cases ek:eD P ty with
   |none=>simp only[ek] at h;cases h
   |some k=>
    simp only[ek] at h;injection h with h;subst h
    refine⟨.agg<|ds.extract off<|off+k,?_,?_⟩
    ·simp[part,Am ea,iP ek]
    ·simp only[VR];refine⟨_,rfl,?_⟩;have:(ds.extract off<|off+k).toList=(ds.toList.drop off).take k:=by simp[List.extract]
     rw[this];exact(hc.drop off).take k
  |false=>
   obtain⟨v,hv,hr⟩:=hc.get off x h;refine⟨v,?_,hr⟩;have ks:ds[off]? =some v:=by simpa using hv
   simp[part,Am ea,ks]
theorem bytes_beq(a b:ByteArray):(a == b)=(a.toList == b.toList):=beq_toListBytes a b
theorem LN{d:Nat}{eq:TypeId->AV->AV->Option Bool}(he:∀ty a b c v u,eq ty a b=some c->VR ρ a v->VR ρ b u->(Op.equalIn d ty v u).run P w= .ok c w){xs ys:List AV}{cs ds:Array Value}(hx:ay ρ xs cs.toList)(hy:ay ρ ys ds.toList):∀{fs:List Field} {b:Bool},eqFields P eq xs ys fs=some b->(Op.eqFields d cs ds fs).run P w= .ok b w
 |[],b,h=>by simp only[eqFields] at h;injection h with h;subst h;rfl
 |f::fs,b,h=>by
  simp only[eqFields] at h;cases en:(f.name == "_") with
  |true=>
   simp only[en] at h;have:¬(f.name≠ "_"):=by simpa using en
   rw[Op.eqFields,if_neg this];exact LN he hx hy h
  |false=>
   simp only[en] at h;have ch:f.name≠ "_" :=by intro e;rw[e] at en;simp at en
   rw[Op.eqFields,if_pos ch];cases e1:vq P f.type xs f.offset with
   |none=>simp only[e1] at h;cases h
   |some a=>
    cases e2:vq P f.type ys f.offset with
    |none=>simp only[e1,e2] at h;cases h
    |some c=>
     simp only[e1,e2] at h;obtain⟨v,g1,g2⟩:=EW (w:=w) hx e1;obtain⟨u,g3,g4⟩:=EW (w:=w) hy e2;cases e3:eq f.type a c with
     |none=>simp only[e3] at h;cases h
     |some q=>
      simp only[e3] at h;have g5:=he _ _ _ _ _ _ e3 g2 g4;cases q with
      |false=>injection h with h;subst h;simp[g1,g3,g5]
      |true=>simp only[] at h;simp[g1,g3,g5,LN he hx hy h]
theorem IG:∀{d:Nat} {ty:TypeId} {a b:AV} {c:Bool} {v u:Value},pQ P d ty a b=some c->VR ρ a v->VR ρ b u->(Op.equalIn d ty v u).run P w= .ok c w
 |0,_,_,_,_,_,_,h,_,_=>by simp only[pQ] at h;cases h
 |d+1,ty,a,b,c,v,u,h,ha,hb=>by
  simp only[pQ] at h;split at h<;>first|(cases h;done)|skip
  ·rename_i p q eu;injection h with h;subst h;simp only[VR] at ha hb;subst ha;subst hb
   simp[Op.equalIn,dv eu]
  ·rename_i k0 k p k' q eu;simp only[VR] at ha hb;subst ha;subst hb;cases hk:decide (k=k') with
   |false=>rw[hk] at h;cases h
   |true=>rw[hk] at h;injection h with h;subst h;simp[Op.equalIn,dv eu,of_decide_eq_true hk]
  ·rename_i e q eu;injection h with h;subst h;simp only[VR] at ha;subst ha
   cases q with
   |none=>simp only[VR] at hb;subst hb;simp[Op.equalIn,dv eu]
   |some q=>obtain⟨n,i⟩:=q;simp only[VR] at hb;obtain⟨_,_,_,rfl⟩:=hb;simp[Op.equalIn,dv eu]
  ·rename_i e q eu;injection h with h;subst h;simp only[VR] at hb;subst hb
   obtain⟨n,i⟩:=q;simp only[VR] at ha;obtain⟨_,_,_,rfl⟩:=ha;simp[Op.equalIn,dv eu]
  ·rename_i fs xs ys eu;cases hs:P.stoodInHeld ty with
   |true=>rw[hs] at h;cases h
   |false=>
    rw[hs] at h;simp only[VR] at ha hb;obtain⟨cs,rfl,hx⟩:=ha;obtain⟨ds,rfl,hy⟩:=hb;have hf:P.fieldsOf ty=fs:=by simp[Program.fieldsOf,eu]
    rw[run_equalIn_struct w d ty cs ds (by rw[hf];exact eu) hs,hf];exact LN (fun ty a b c v u e p q=>IG e p q) hx hy h
  ·rename_i e l1 c1 q l2 c2 eu;injection h with h;subst h
   have:∃k l,v= .slice none k l:=by cases c1<;>simp only[VR] at ha;exact⟨_,_,ha.1⟩
   obtain⟨_,_,rfl⟩:=this;cases q with
   |none=>
    have:∃k l,u= .slice none k l:=by cases c2<;>simp only[VR] at hb;exact⟨_,_,hb.1⟩
    obtain⟨_,_,rfl⟩:=this;simp[Op.equalIn,dv eu]
   |some q=>
    obtain⟨n,i⟩:=q;have:∃p k l,u= .slice (some p) k l:=by
     cases c2<;>simp only[VR] at hb
     ·obtain⟨_,_,_,rfl⟩:=hb;exact⟨_,_,_,rfl⟩
     ·obtain⟨_,_,_,_,rfl,_⟩:=hb;exact⟨_,_,_,rfl⟩
     ·obtain⟨_,_,_,_,_,_,rfl⟩:=hb;exact⟨_,_,_,rfl⟩
    obtain⟨_,_,_,rfl⟩:=this;simp[Op.equalIn,dv eu]
  ·rename_i e q l1 c1 l2 c2 eu;injection h with h;subst h
   have:∃k l,u= .slice none k l:=by cases c2<;>simp only[VR] at hb;exact⟨_,_,hb.1⟩
   obtain⟨_,_,rfl⟩:=this;obtain⟨n,i⟩:=q;have:∃p k l,v= .slice (some p) k l:=by
    cases c1<;>simp only[VR] at ha
    ·obtain⟨_,_,_,rfl⟩:=ha;exact⟨_,_,_,rfl⟩
    ·obtain⟨_,_,_,_,rfl,_⟩:=ha;exact⟨_,_,_,rfl⟩
    ·obtain⟨_,_,_,_,_,_,rfl⟩:=ha;exact⟨_,_,_,rfl⟩
   obtain⟨_,_,_,rfl⟩:=this;simp[Op.equalIn,dv eu]
  ·rename_i e n o len l2 c2 eu;have:∃k l,u= .slice none k l:=by cases c2<;>simp only[VR] at hb;exact⟨_,_,hb.1⟩
   obtain⟨_,_,rfl⟩:=this;simp only[VR] at ha;have key:∃a k l,v= .slice a k l/\c=a.isNone:=by
    rcases ha with⟨_,rfl,a0,cc,rfl,hz⟩|⟨b,sh,cc,_,rfl,hc⟩
    ·refine⟨a0,_,_,rfl,?_⟩;unfold PF at h;simp only at h;split at h
     ·rename_i q;injection h with h;subst h;rw[hz.2.1<|Nat.eq_of_beq_eq_true q];rfl
     ·split at h
      ·rename_i q;injection h with h;subst h
       cases a0 with
       |none=>exact absurd rfl<|hz.2.2<|Nat.eq_of_beq_eq_true q
       |some _=>rfl
      ·cases h
    ·refine⟨_,_,_,rfl,?_⟩;unfold PF at h;split at h
     ·split at h
      ·rename_i q;have q:=Nat.eq_of_beq_eq_true q;exact absurd q (hc aj).2
      ·split at h
       ·injection h with h;subst h;rfl
       ·cases h
     ·injection h with h;subst h;rfl
   obtain⟨a,_,_,rfl,rfl⟩:=key;cases a<;>simp[Op.equalIn,dv eu]
theorem aaC{op:BinOp}{k:IntKind}{a b:Int}(hs:yQ op=false)(h:Dn op k a b=some x):∃v,(binOp op 0 (.int k a)<|.int k b).run P w= .ok v w/\VR ρ x v/\∀ty,binOp op ty (.int k a) (.int k b)=binOp op 0 (.int k a) (.int k b):=by
 cases op<;>simp only[Dn] at h<;>first
  |(cases h;done)
  |(simp[yQ] at hs;done)
  |(injection h with h;subst h;exact⟨_,by simp[binOp,Op.intArith,Op.intBits,Op.intCmp];first|rfl|done,by simp[VR],fun _=>rfl⟩)
  |(cases hd:decide (b=0) with
   |true=>rw[hd] at h;cases h
   |false=>
    rw[hd] at h;injection h with h;subst h
    exact⟨_,by simp[binOp,Op.intDiv,of_decide_eq_false hd];first|rfl|done,by simp[VR],fun _=>rfl⟩)
end
end Go.Rn
namespace Go.Rn
open Go.RowKit
variable {ty:TypeId} {v u:Value} {a b:AV} {y:Operand} {c:bZ}
section
variable {P:Program} {B:aI} {ρ:Ren} {w:World} {s s1:AS} {x:AV} {YR:aJ} {t:Tr AV} {ev:Operand->Value} {o:Oper}
theorem Zq{op:BinOp}{k k':IntKind}{a b:Int}(hs:yQ op=true)(h:NH op k a b=some x):∃v,(binOp op ty (.int k a)<|.int k' b).run P w= .ok v w/\VR ρ x v:=by
 unfold NH at h;cases hd:decide (b<0) with
 |true=>rw[hd] at h;cases h
 |false=>
  rw[hd] at h;have hn:=of_decide_eq_false hd;cases op<;>simp only[yQ] at hs<;>first|(cases hs;done)|skip
  ·injection h with h;subst h;exact⟨_,by simp[binOp,Op.shift,hn];first|rfl|done,by simp[VR]⟩
  ·injection h with h;subst h;exact⟨_,by simp[binOp,Op.shift,hn];first|rfl|done,by simp[VR]⟩
theorem uL{n i len:Nat}(h:VR ρ (.slice (some (n,i)) len c) v):∃b N q k,ρ n=some (b,N)/\v= .slice (some ⟨b,q,none⟩) len k:=by
 cases c<;>simp only[VR] at h
 ·obtain⟨b,N,e,rfl⟩:=h;exact⟨b,N,_,_,e,rfl⟩
 ·obtain⟨b,N,_,e,rfl,_⟩:=h;exact⟨b,N,_,_,e,rfl⟩
 ·obtain⟨rfl,b,N,_,_,e,rfl⟩:=h;exact⟨b,N,_,_,e,rfl⟩
theorem lN{len:Nat}(h:VR ρ (.slice none len c) v):len=0/\c= .known 0/\v= .slice none 0 0:=by cases c<;>simp only[VR] at h;obtain⟨rfl,rfl,rfl⟩:=h;exact⟨rfl,rfl,rfl⟩
theorem Vq{d:Nat}{c:Bool}(h:pQ P (d+1) ty a b=some c)(ha:VR ρ a v)(hb:VR ρ b u)(n1:∀k p k' q,a= .int k p->b= .int k' q->False):
 binOp .eql ty v u=(do pure (.bool<|←Op.equal ty v u))/\binOp .neq ty v u=(do pure (.bool<|!(←Op.equal ty v u))):=by
 simp only[pQ] at h;split at h<;>first|(cases h;done)|skip
 ·simp only[VR] at ha hb;subst ha;subst hb;exact⟨rfl,rfl⟩
 ·exact(n1 _ _ _ _ rfl rfl).elim
 ·rename_i e q eu;simp only[VR] at ha;subst ha;cases q with
  |none=>simp only[VR] at hb;subst hb;exact⟨rfl,rfl⟩
  |some q=>obtain⟨n,i⟩:=q;simp only[VR] at hb;obtain⟨_,_,_,rfl⟩:=hb;exact⟨rfl,rfl⟩
 ·rename_i e q eu;simp only[VR] at hb;subst hb;obtain⟨n,i⟩:=q;simp only[VR] at ha;obtain⟨_,_,_,rfl⟩:=ha;exact⟨rfl,rfl⟩
 ·simp only[VR] at ha hb;obtain⟨_,rfl,_⟩:=ha;obtain⟨_,rfl,_⟩:=hb;exact⟨rfl,rfl⟩
 ·rename_i e l1 c1 q l2 c2 eu;obtain⟨_,_,rfl⟩:=lN ha;cases q with
  |none=>obtain⟨_,_,rfl⟩:=lN hb;exact⟨rfl,rfl⟩
  |some q=>obtain⟨n,i⟩:=q;obtain⟨_,_,_,_,_,rfl⟩:=uL hb;exact⟨rfl,rfl⟩
 ·rename_i e q l1 c1 l2 c2 eu;obtain⟨_,_,rfl⟩:=lN hb;obtain⟨n,i⟩:=q;obtain⟨_,_,_,_,_,rfl⟩:=uL ha;exact⟨rfl,rfl⟩
 ·obtain⟨_,_,rfl⟩:=lN hb;simp only[VR] at ha;rcases ha with⟨_,_,_,_,rfl,_⟩|⟨_,_,_,_,rfl,_⟩<;>exact⟨rfl,rfl⟩
theorem ZP{op:BinOp}(h:AZ P op ty a b=some x)(ha:VR ρ a v)(hb:VR ρ b u):∃r,(binOp op ty v u).run P w= .ok r w/\VR ρ x r:=by
 unfold AZ at h;split at h
 ·rename_i k p k' q;simp only[VR] at ha hb;subst ha;subst hb;cases hs:yQ op with
  |true=>rw[hs] at h;exact Zq hs h
  |false=>
   rw[hs] at h;cases hk:decide (k=k') with
   |false=>rw[hk] at h;cases h
   |true=>rw[hk] at h;have:=of_decide_eq_true hk;subst this;obtain⟨r,h1,h2,h3⟩:=aaC (P:=P) (w:=w) (ρ:=ρ) hs h;exact⟨r,by rw[h3];exact h1,h2⟩
 ·rename_i n1;split at h<;>first|(cases h;done)|skip
  ·cases e:pQ P Op.maxDepth ty a b with
   |none=>rw[e] at h;cases h
   |some c=>
    rw[e] at h;injection h with h;subst h
    have e':pQ P (9999+1) ty a b=some c:=e;have:=(Vq (P:=P) e' ha hb n1).1;have h2:(Op.equal ty v u).run P w= .ok c w:=IG e ha hb;exact⟨.bool c,by rw[this];simp[h2],by simp[VR]⟩
  ·cases e:pQ P Op.maxDepth ty a b with
   |none=>rw[e] at h;cases h
   |some c=>
    rw[e] at h;injection h with h;subst h
    have e':pQ P (9999+1) ty a b=some c:=e;have:=(Vq (P:=P) e' ha hb n1).2;have h2:(Op.equal ty v u).run P w= .ok c w:=IG e ha hb;exact⟨.bool !c,by rw[this];simp[h2],by simp[VR]⟩
theorem C2(ha:VR ρ a .nilIface):a= .nilIface:=by
 cases a<;>(try simp only[VR] at ha)<;>first|rfl|(cases ha;done)|skip
 ·rename_i q;cases q<;>simp only[VR] at ha<;>first|(cases ha;done)|(obtain⟨_,_,_,e⟩:=ha;cases e)
 ·rename_i q l c;cases q with
  |none=>obtain⟨_,_,e⟩:=lN ha;cases e
  |some q=>obtain⟨n,i⟩:=q;obtain⟨_,_,_,_,_,e⟩:=uL ha;cases e
 ·rcases ha with⟨_,_,_,_,e,_⟩|⟨_,_,_,_,e,_⟩<;>cases e
 ·obtain⟨_,_,_,e⟩:=ha;cases e
 ·rename_i q;cases q<;>simp only[VR] at ha<;>first|(cases ha;done)|(obtain⟨_,_,_,e⟩:=ha;cases e)
 ·obtain⟨_,_,_,e,_⟩:=ha;cases e
 ·obtain⟨_,_,_,e⟩:=ha;cases e
 ·obtain⟨_,e,_⟩:=ha;cases e
 ·obtain⟨_,e,_⟩:=ha;cases e
 ·obtain⟨_,e,_⟩:=ha;cases e
theorem Vr{cs:Array Value}(ha:VR ρ a<|.agg cs):∃l,a= .agg l:=by
 cases a<;>(try simp only[VR] at ha)<;>first|exact⟨_,rfl⟩|(cases ha;done)|skip
 ·rename_i q;cases q<;>simp only[VR] at ha<;>first|(cases ha;done)|(obtain⟨_,_,_,e⟩:=ha;cases e)
 ·rename_i q l c;cases q with
  |none=>obtain⟨_,_,e⟩:=lN ha;cases e
  |some q=>obtain⟨n,i⟩:=q;obtain⟨_,_,_,_,_,e⟩:=uL ha;cases e
 ·rcases ha with⟨_,_,_,_,e,_⟩|⟨_,_,_,_,e,_⟩<;>cases e
 ·obtain⟨_,_,_,e⟩:=ha;cases e
 ·rename_i q;cases q<;>simp only[VR] at ha<;>first|(cases ha;done)|(obtain⟨_,_,_,e⟩:=ha;cases e)
 ·obtain⟨_,_,_,e,_⟩:=ha;cases e
 ·obtain⟨_,_,_,e⟩:=ha;cases e
 ·obtain⟨_,e,_⟩:=ha;cases e
 ·obtain⟨_,e,_⟩:=ha;cases e
theorem aaD{op:BinOp}{z:Operand}(h:IE P op ty y z a b=true)(ha:VR ρ a v)(hb:VR ρ b u):(eqGuard op ty y z v u).run P w= .ok () w:=by
 have key:(op= .eql\/op= .neq)->Mq P ty y z a b=true:=by rintro (rfl|rfl)<;>exact h
 by_cases eX:op= .eql\/op= .neq
 ·have hk:=key eX;by_cases h1:v= .nilIface/\u= .nilIface
  ·obtain⟨rfl,rfl⟩:=h1;have:=C2 ha;subst this;have:=C2 hb;subst this;have hc:(isConst y||isConst z)=true:=hk;rcases eX with rfl|rfl<;>(cases y<;>cases z<;>first|(simp[isConst] at hc;done)|rfl)
  ·by_cases h2:(∃cs,v= .agg cs)/\(∃ds,u= .agg ds)
   ·obtain⟨⟨cs,rfl⟩,⟨ds,rfl⟩⟩:=h2;obtain⟨l,rfl⟩:=Vr ha;obtain⟨m,rfl⟩:=Vr hb;have hq:P.eqGuardType P.depth ty=false:=by simpa[Mq] using hk
    exact run_eqGuard_agg w op ty y z cs ds hq
   ·rcases eX with rfl|rfl<;>(cases v<;>cases u<;>first|rfl|(exact absurd ⟨rfl,rfl⟩ h1)|(exact absurd ⟨⟨_,rfl⟩,⟨_,rfl⟩⟩ h2))
 ·cases op<;>first|rfl|(exact absurd (.inl rfl) eX)|(exact absurd (.inr rfl) eX)
theorem abJ{op:BinOp}{yt:TypeId}{z:Operand}(he:∀x v,aG t x=some v->VR ρ v (ev x))(r:Rel B ρ s.h w)(h:tM P op ty y z YR t s= .ok x s1)(ho:o.op= .binOp op ty y z yt):gg P B ρ s s1 w x<|execOp ev o:=by unfold tM at h;obtain⟨a,h1,h2⟩:=bw h;obtain⟨b,h3,h4⟩:=bw h2;obtain⟨h5,h6⟩:=cX h4;obtain⟨h7,rfl⟩:=gS h6;obtain⟨q,g1,g2⟩:=ZP (P:=P) (w:=w) h7 (he y a h1)<|he z b h3;have g3:=aaD (P:=P) (w:=w) h5 (he y a h1)<|he z b h3;refine⟨ρ,w,.value q,Ext.refl _ _ _,?_,g2,r,cx.refl _ _⟩;simp[execOp,ho,g3,g1]
theorem ac0{op:UnOp}(he:∀x v,aG t x=some v->VR ρ v (ev x))(r:Rel B ρ s.h w)(h:BQ op y YR t s= .ok x s1)(ho:o.op= .unOp op ty y):gg P B ρ s s1 w x<|execOp ev o:=by
 unfold BQ at h;obtain⟨a,h1,h2⟩:=bw h;obtain⟨h3,rfl⟩:=gS h2;have ha:=he y a h1;have:∃q,(Op.unary op<|ev y).run P w= .ok q w/\VR ρ x q:=by
  unfold Wb at h3;split at h3<;>first|(cases h3;done)|skip
  ·rename_i c;simp only[VR] at ha;rw[ha];injection h3 with h3;subst h3
   exact⟨_,rfl,by simp[VR]⟩
 obtain⟨q,g1,g2⟩:=this;refine⟨ρ,w,.value q,Ext.refl _ _ _,?_,g2,r,cx.refl _ _⟩;simp[execOp,ho,g1]
end
end Go.Rn
namespace Go.Rn
open Go.RowKit
variable {y:Operand} {ty:TypeId} {n f i:Nat}
section
variable {P:Program} {B:aI} {ρ:Ren} {w:World} {s s1:AS} {x:AV} {YR:aJ} {t:Tr AV} {ev:Operand->Value} {o:Oper}
theorem LF{size m len:Nat}{c:bZ}(h:c≠ .lost):firstCells size n (.slice (some (m,i)) len c)=jc m i (n*size):=by cases len<;>cases c<;>first|rfl|exact absurd rfl h
theorem Zd{src dst:TypeId}(he:∀x v,aG t x=some v->VR ρ v (ev x))(fi:bC s)(r:Rel B ρ s.h w)(h:Ay P src dst y YR t s= .ok x s1)(ho:o.op= .convert src dst y):gg P B ρ s s1 w x<|execOp ev o:=by
 unfold Ay at h;obtain⟨a,h1,h2⟩:=bw h;have ha:=he y a h1;have plain:lift (M4 P src dst a) s= .ok x s1->gg P B ρ s s1 w x (execOp ev o):=by
  intro h2;obtain⟨h3,rfl⟩:=gS h2;have:∃q,(convert src dst<|ev y).run P w= .ok q w/\VR ρ x q:=by
   unfold M4 at h3;split at h3<;>first|(cases h3;done)|skip
   ·rename_i d k n e1 e2 _;simp only[VR] at ha;rw[ha];injection h3 with h3;subst h3
    refine⟨.int d<|d.wrap n,?_,by simp[VR]⟩;simp[convert,dv e1,dv e2,Conv.intToInt]
  obtain⟨q,g1,g2⟩:=this;exact⟨ρ,w,.value q,Ext.refl _ _ _,by simp[execOp,ho,g1],g2,r,cx.refl _ _⟩
 cases a<;>first|exact plain h2|(have h':(R.bad:R AV)= .ok x s1:=h2;cases h')
theorem acU(he:∀x v,aG t x=some v->VR ρ v (ev x))(r:Rel B ρ s.h w)(h:Cs P ty y YR t s= .ok x s1)(ho:o.op= .makeInterface ty y):gg P B ρ s s1 w x<|execOp ev o:=by have h':(R.bad:R AV)= .ok x s1:=h;cases h'
theorem Y2{fn:Fn}{first captured:Array Operand}(he:∀x v,aG t x=some v->VR ρ v (ev x))(r:Rel B ρ s.h w)(h:Ar fn first.toList captured.toList YR t s= .ok x s1)(ho:o.op= .makeFunc fn first captured):gg P B ρ s s1 w x<|execOp ev o:=by
 unfold Ar at h;obtain⟨h0,h1⟩:=cX h;obtain⟨f,h2,h3⟩:=bw h1;obtain⟨c,h4,h5⟩:=bw h3;obtain⟨rfl,rfl⟩:=bB h5;refine⟨ρ,w,.value<|.func fn (first.map ev)<|captured.map ev,Ext.refl _ _ _,?_,?_,r,cx.refl _ _⟩
 ·simp[execOp,ho,Instr.makeFunc]
 ·simp only[VR];refine⟨by cases fn<;>first|rfl|(simp[WJ] at h0),_,_,rfl,?_,?_⟩
  ·rw[Array.toList_map];exact Fi he h2
  ·rw[Array.toList_map];exact Fi he h4
theorem Uv(r:Rel B ρ s.h w)(hf:dB s.nx s1.nx ρ)(h:gC (.map [] 0) s= .ok n s1):
 n=s.nx/\Ext s.nx s1.nx ρ (eQ ρ n (w.heap.size,0))/\Rel B (eQ ρ n (w.heap.size,0)) s1.h {w with heap:=w.heap.push<|.map #[] 0}:=by
 obtain⟨ht,rfl,rfl⟩:=uP h;have jf:ρ s.nx=none:=hf s.nx (Nat.le_refl _) (Nat.lt_succ_self _) aj;refine⟨rfl,Ext.my jf,r.new ht jf rfl ⟨#[],rfl,rfl,rfl⟩⟩
theorem Ze{q:Option Operand}(he:∀x v,aG t x=some v->VR ρ v (ev x))(r:Rel B ρ s.h w)(hf:dB s.nx s1.nx ρ)(h:Az P ty q YR t s= .ok x s1)(ho:o.op= .makeMap ty q):gg P B ρ s s1 w x<|execOp ev o:=by
 unfold Az at h;obtain⟨u,s2,h1,h2⟩:=M.aN h;obtain⟨n,s3,h3,h4⟩:=M.aN h2;obtain⟨rfl,rfl⟩:=bB h4;cases q with
 |none=>
  obtain⟨_,rfl⟩:=bB h1;obtain⟨rfl,e1,e2⟩:=Uv r hf h3;refine⟨_,_,.value<|.map<|some w.heap.size,e1,?_,?_,e2,(gP.alloc w _).below r.size⟩
  ·simp[execOp,ho,Instr.makeMap]
  ·simp only[VR];exact⟨_,_,iQ _ _ _,rfl⟩
 |some y=>
  obtain⟨v,g1,g2⟩:=bw h1;obtain⟨i,g3,g4⟩:=bw g2;obtain⟨k,_,hv⟩:=(he y v g1).CT g3;have:JK P ty=true/\s2=s:=by
   cases hb:JK P ty with
   |false=>rw[hb] at g4;cases g4
   |true=>rw[hb] at g4;cases g4;exact⟨rfl,rfl⟩
  obtain⟨hm,rfl⟩:=this;obtain⟨rfl,e1,e2⟩:=Uv r hf h3;refine⟨_,_,.value<|.map<|some w.heap.size,e1,?_,?_,e2,(gP.alloc w _).below r.size⟩
  ·unfold JK at hm;split at hm
   ·rename_i a b e;simp[execOp,ho,Instr.makeMap,dv e,hv,asInt,asIntOf]
   ·cases hm
  ·simp only[VR];exact⟨_,_,iQ _ _ _,rfl⟩
theorem yK{i:Int}{len:Nat}(h:within i len=some n):i=(n:Int)/\n<len:=by
 unfold within at h;cases i with
 |negSucc k=>cases h
 |ofNat k=>
  cases hb:Nat.blt k len with
  |false=>simp only[hb] at h;cases h
  |true=>
   simp only[hb] at h;injection h with h;subst h
   exact⟨rfl,by rw[←blt_eq];exact hb⟩
theorem Y3{a:AV}{v:Value}(ha:VR ρ a v)(h:fieldAddr P ty a f=some x):∃q,(Instr.fieldAt ty v f).run P w= .ok q w/\VR ρ x q:=by
 unfold fieldAddr at h;split at h<;>first|(cases h;done)|skip
 rename_i fs e;cases e1:fs[f]? with
 |none=>rw[e1] at h;cases h
 |some fd=>
  simp only[e1] at h;cases e2:eD P fd.type with
  |none=>rw[e2] at h;cases h
  |some k=>
   simp only[e2] at h;cases e3:Nat.beq k 0 with
   |true=>rw[e3] at h;cases h
   |false=>
    simp only[e3] at h;have hk:¬k=0:=by rw[←beq_eq,e3];simp
    split at h<;>first|(cases h;done)|skip
    ·rename_i n i;injection h with h;subst h
     simp only[VR] at ha;obtain⟨b,N,e4,rfl⟩:=ha;refine⟨.pointer<|some ⟨b,i+fd.offset,none⟩,?_,?_⟩
     ·simp[Instr.fieldAt,dv e,e1,Instr.sureAddr,fieldPlace,iP e2,hk,Addr.rf]
     ·simp only[VR];exact⟨b,N,e4,rfl⟩
    ·rename_i n i;injection h with h;subst h
     simp only[VR] at ha;obtain⟨b,sh,e4,rfl⟩:=ha;refine⟨.pointer<|some ⟨b,sh+i+fd.offset,none⟩,?_,?_⟩
     ·simp[Instr.fieldAt,dv e,e1,Instr.sureAddr,fieldPlace,iP e2,hk,Addr.rf]
     ·simp only[VR];exact⟨b,sh,e4,by rw[Nat.add_assoc]⟩
theorem YV(he:∀x v,aG t x=some v->VR ρ v (ev x))(r:Rel B ρ s.h w)(h:Ap P ty y f YR t s= .ok x s1)(ho:o.op= .fieldAddr ty y f):gg P B ρ s s1 w x<|execOp ev o:=by unfold Ap at h;obtain⟨a,h1,h2⟩:=bw h;obtain⟨h3,rfl⟩:=gS h2;obtain⟨q,g1,g2⟩:=Y3 (P:=P) (w:=w) (he y a h1) h3;exact⟨ρ,w,.value q,Ext.refl _ _ _,by simp[execOp,ho,g1],g2,r,cx.refl _ _⟩
theorem ZQ(he:∀x v,aG t x=some v->VR ρ v (ev x))(r:Rel B ρ s.h w)(h:A3 P ty y f YR t s= .ok x s1)(ho:o.op= .field ty y f):gg P B ρ s s1 w x<|execOp ev o:=by
 unfold A3 at h;obtain⟨a,h1,h2⟩:=bw h;obtain⟨h3,rfl⟩:=gS h2;have ha:=he y a h1;unfold Us at h3;split at h3<;>first|(cases h3;done)|skip
 rename_i fs cs e;cases e1:fs[f]? with
 |none=>rw[e1] at h3;cases h3
 |some fd=>simp only[e1] at h3;simp only[VR] at ha;obtain⟨ds,hv,hc⟩:=ha;obtain⟨q,g1,g2⟩:=EW (P:=P) (w:=w) hc h3;exact⟨ρ,w,.value q,Ext.refl _ _ _,by simp[execOp,ho,hv,Instr.field,dv e,e1,asAgg,g1],g2,r,cx.refl _ _⟩
theorem YW{z:Operand}(he:∀x v,aG t x=some v->VR ρ v (ev x))(r:Rel B ρ s.h w)(h:p9 P ty y z YR t s= .ok x s1)(ho:o.op= .indexAddr ty y z):gg P B ρ s s1 w x<|execOp ev o:=by
 unfold p9 at h;obtain⟨a,h1,h2⟩:=bw h;obtain⟨ix,h3,h4⟩:=bw h2;obtain⟨h5,rfl⟩:=gS h4;have ha:=he y a h1;unfold indexAddr at h5;cases ei:intOf ix with
 |none=>rw[ei] at h5;cases h5
 |some i=>
  simp only[ei] at h5;obtain⟨k,_,hi⟩:=(he z ix h3).CT ei;have:∃q,(Instr.indexAt ty (ev y)<|ev z).run P w= .ok q w/\VR ρ x q:=by
   rw[hi];split at h5<;>first|(cases h5;done)|skip
   ·rename_i len e n off e1;split at h5<;>first|(cases h5;done)|skip
    rename_i j m e2 e3;injection h5 with h5;subst h5
    obtain⟨rfl,hj⟩:=yK e2;simp only[VR] at ha;obtain⟨b,N,e4,hv⟩:=ha;rw[hv];refine⟨.pointer<|some ⟨b,off+j*m,none⟩,?_,by simp only[VR];exact⟨b,N,e4,rfl⟩⟩;have hr:(0:Int)<=(j:Int)/\(j:Int)<(len:Int):=⟨by omega,by omega⟩;simp[Instr.indexAt,asIntOf,dv e1,Instr.sureAddr,hr,iP e3,Addr.rf,hj]
   ·rename_i e n off len cap e1;split at h5<;>first|(cases h5;done)|skip
    rename_i j m e2 e3;injection h5 with h5;subst h5
    obtain⟨rfl,hj⟩:=yK e2;have hr:(0:Int)<=(j:Int)/\(j:Int)<(len:Int):=⟨by omega,by omega⟩;have fin:∀b N c,ρ n=some (b,N)->ev y= .slice (some ⟨b,off,none⟩) len c->∃q,(Instr.indexAt ty (ev y)<|.int k j).run P w= .ok q w/\VR ρ (.ptr<|some (n,off+j*m)) q:=by intro b N c e4 hv;rw[hv];refine⟨.pointer<|some ⟨b,off+j*m,none⟩,?_,by simp only[VR];exact⟨b,N,e4,rfl⟩⟩;simp[Instr.indexAt,asIntOf,dv e1,hr,iP e3,Addr.rf,hj]
    cases cap with
    |known c=>simp only[VR] at ha;obtain⟨b,N,e4,hv⟩:=ha;exact fin b N c e4 hv
    |aq lo e5=>simp only[VR] at ha;obtain⟨b,N,c,e4,hv,_⟩:=ha;exact fin b N c e4 hv
    |lost=>simp only[VR] at ha;omega
   ·rename_i e n off len e1;split at h5<;>first|(cases h5;done)|skip
    rename_i j m e2 e3;injection h5 with h5;subst h5
    obtain⟨rfl,hj⟩:=yK e2;have hr:(0:Int)<=(j:Int)/\(j:Int)<(len:Int):=⟨by omega,by omega⟩;simp only[VR] at ha;rcases ha with⟨_,h0,_⟩|⟨b,sh,c,e4,hv,_⟩
    ·omega
    rw[hv];refine⟨.pointer<|some ⟨b,sh+(off+j*m),none⟩,?_,by simp only[VR];exact⟨b,sh,e4,rfl⟩⟩;simp[Instr.indexAt,asIntOf,dv e1,hr,iP e3,Addr.rf,hj,Nat.add_assoc]
  obtain⟨q,g1,g2⟩:=this;exact⟨ρ,w,.value q,Ext.refl _ _ _,by simp[execOp,ho,g1],g2,r,cx.refl _ _⟩
theorem ZR{z:Operand}(he:∀x v,aG t x=some v->VR ρ v (ev x))(r:Rel B ρ s.h w)(h:A4 P ty y z YR t s= .ok x s1)(ho:o.op= .index ty y z):gg P B ρ s s1 w x<|execOp ev o:=by
 unfold A4 at h;obtain⟨a,h1,h2⟩:=bw h;obtain⟨ix,h3,h4⟩:=bw h2;obtain⟨h5,rfl⟩:=gS h4;have ha:=he y a h1;unfold indexOf at h5;cases ei:intOf ix with
 |none=>rw[ei] at h5;cases h5
 |some i=>
  simp only[ei] at h5;obtain⟨k,_,hi⟩:=(he z ix h3).CT ei;have:∃q,(Instr.index ty (ev y)<|ev z).run P w= .ok q w/\VR ρ x q:=by
   rw[hi];split at h5<;>first|(cases h5;done)|skip
   ·rename_i len e cs e1;split at h5<;>first|(cases h5;done)|skip
    rename_i j m e2 e3;obtain⟨rfl,hj⟩:=yK e2;simp only[VR] at ha;obtain⟨ds,hv,hc⟩:=ha;rw[hv];obtain⟨q,g1,g2⟩:=EW (P:=P) (w:=w) hc h5;have hr:(0:Int)<=(j:Int)/\(j:Int)<(len:Int):=⟨by omega,by omega⟩;refine⟨q,?_,g2⟩;simp[Instr.index,asIntOf,dv e1,hr,iP e3,g1,hj]
   ·rename_i q e1;split at h5<;>first|(cases h5;done)|skip
    rename_i j e2;split at h5<;>first|(cases h5;done)|skip
    rename_i b e3;injection h5 with h5;subst h5
    obtain⟨rfl,hj⟩:=yK e2;simp only[VR] at ha;rw[ha];refine⟨.int .u8 b.toNat,?_,by simp[VR]⟩;have hb:q[j]? =some b:=by obtain⟨⟨l⟩⟩:=q;have XA:l[j]? =some b:=e3;have cf:j<l.length:=(List.getElem?_eq_some_iff.1 XA).1;have:(ByteArray.mk ⟨l⟩)[j]? =some ((ByteArray.mk ⟨l⟩)[j]'hj):=getElem?_pos _ _ _;rw[this];have hx:(ByteArray.mk ⟨l⟩)[j]'hj=l[j]'cf:=rfl;rw[hx, ←List.getElem?_eq_getElem cf,XA]
    simp[Instr.index,asIntOf,dv e1,hb]
  obtain⟨q,g1,g2⟩:=this;exact⟨ρ,w,.value q,Ext.refl _ _ _,by simp[execOp,ho,g1],g2,r,cx.refl _ _⟩
theorem Zr{xt:TypeId}{ok:Bool}(he:∀x v,aG t x=some v->VR ρ v (ev x))(r:Rel B ρ s.h w)(h:CQ P ty ok y YR t s= .ok x s1)(ho:o.op= .typeAssert y xt ty ok):gg P B ρ s s1 w x<|execOp ev o:=by have h':(R.bad:R AV)= .ok x s1:=h;cases h'
theorem Zf(he:∀x v,aG t x=some v->VR ρ v (ev x))(r:Rel B ρ s.h w)(h:AA y i YR t s= .ok x s1)(ho:o.op= .extract y i):gg P B ρ s s1 w x<|execOp ev o:=by
 unfold AA at h;obtain⟨a,h1,h2⟩:=bw h;obtain⟨h3,rfl⟩:=gS h2;have ha:=he y a h1;unfold partOf at h3;split at h3<;>first|(cases h3;done)|skip
 rename_i l;simp only[VR] at ha;obtain⟨vs,hv,hl⟩:=ha;obtain⟨q,g1,g2⟩:=hl.get i x h3;have BT:vs[i]? =some q:=by simpa using g1
 exact⟨ρ,w,.value q,Ext.refl _ _ _,by simp[execOp,ho,hv,Instr.extract,BT],g2,r,cx.refl _ _⟩
end
end Go.Rn
namespace Go.Rn
open Go.RowKit
variable {v:Value} {ty:TypeId} {real l hh:Nat} {nX iu Ec:Option Value} {lo:Option AV} {a:AV} {b:Bool}
section
variable {P:Program} {B:aI} {ρ:Ren} {w:World} {s s1:AS} {x:AV} {YR:aJ} {t:Tr AV} {ev:Operand->Value} {o:Oper}
def pI(ρ:Ren):Option AV->Option Value->Prop
 |none,v=>v=none
 |some a,v=>∃u,v=some u/\VR ρ a u
theorem NK(he:∀x v,aG t x=some v->VR ρ v (ev x)){y:Option Operand}{a:Option AV}(h:opt (aG t) y=some a):pI ρ a<|y.map ev:=by
 cases y with
 |none=>simp only[opt] at h;injection h with h;subst h;rfl
 |some y=>
  simp only[opt] at h;cases e:aG t y with
  |none=>rw[e] at h;cases h
  |some v=>simp only[e] at h;injection h with h;subst h;exact⟨_,rfl,he y v e⟩
theorem EX{tL n d:Nat}{code:BoundsCode}(ha:VR ρ a v)(h:bound (some a) tL d=some n)(hr:tL<=real):(Instr.sliceBound v real code).run P w= .ok n w/\n<=tL:=by
 unfold bound at h;cases e:intOf a with
 |none=>simp only[e] at h;cases h
 |some i=>simp only[e] at h;obtain⟨k,_,rfl⟩:=ha.CT e;obtain⟨rfl,hn⟩:=yK h;have hr:(0:Int)<=(n:Int)/\(n:Int)<=(real:Int):=⟨by omega,by omega⟩;refine⟨?_,by omega⟩;simp only[Instr.sliceBound,asIntOf,Sem.run_bind,Sem.run_pure,Result.andThen_ok,if_pos hr,Int.toNat_natCast]
theorem HD{hi:Option AV}{len low:Nat}(h1:pI ρ lo nX)(h2:pI ρ hi iu)(hr:low<=real)(e1:bound hi low len=some hh)(e2:bound lo hh 0=some l):
 (Instr.sliceBounds b len real nX iu none).run P w= .ok (l,hh,real) w/\(hi=none/\hh=len\/hh<=low)/\l<=hh:=by
 have g1:∃c,(match iu,(none:Option Value) with
  |some v,some _=>Instr.sliceBound v real .slice3B
  |some v,none=>Instr.sliceBound v real c
  |none,none=>pure len
  |none,some _=>stuck "Slice: max without high" :Sem Nat).run P w= .ok hh w/\c=(if b then BoundsCode.sliceAcap else .sliceAlen)/\(hi=none/\hh=len\/hh<=low):=by
  cases hi with
  |none=>
   simp only[pI] at h2;subst h2;simp only[bound] at e1;injection e1 with e1;subst e1
   exact⟨_,rfl,rfl,.inl ⟨rfl,rfl⟩⟩
  |some a=>obtain⟨u,rfl,hu⟩:=h2;obtain⟨a1,a2⟩:=EX (P:=P) (w:=w) (code:=if b then BoundsCode.sliceAcap else .sliceAlen) hu e1 hr;exact⟨_,a1,rfl,.inr a2⟩
 obtain⟨c,g1,rfl,g2⟩:=g1;have g3:(match nX with
  |some v=>Instr.sliceBound v hh (if(none:Option Value).isSome then BoundsCode.slice3C else .sliceB)
  |none=>pure 0:Sem Nat).run P w= .ok l w/\l<=hh:=by
  cases lo with
  |none=>
   simp only[pI] at h1;subst h1;simp only[bound] at e2;injection e2 with e2;subst e2
   exact⟨rfl,Nat.zero_le _⟩
  |some a=>obtain⟨u,rfl,hu⟩:=h1;exact EX (P:=P) (w:=w) hu e2<|Nat.le_refl _
 refine⟨?_,g2,g3.2⟩;cases iu<;>cases nX<;>simp_all [Instr.sliceBounds]
theorem RR{len low m:Nat}{c:AV}(h1:pI ρ lo nX)(h2:pI ρ (some a) iu)(h3:pI ρ (some c) Ec)(hr:low<=real)(e0:bound (some c) low 0=some m)(e1:bound (some a) m 0=some hh)(e2:bound lo hh 0=some l):
 (Instr.sliceBounds b len real nX iu Ec).run P w= .ok (l,hh,m) w/\l<=hh/\hh<=m/\m<=low:=by
 obtain⟨u,rfl,hu⟩:=h2;obtain⟨v,rfl,hv⟩:=h3;have q0:=fun code=>EX (P:=P) (w:=w) (code:=code) hv e0 hr;have q1:=fun code=>EX (P:=P) (w:=w) (code:=code) hu e1<|Nat.le_refl _;cases lo with
 |none=>
  simp only[pI] at h1;subst h1;simp only[bound] at e2;injection e2 with e2;subst e2
  refine⟨?_,Nat.zero_le _,(q1 .slice3B).2,(q0 .slice3B).2⟩;simp[Instr.sliceBounds,(q0 _).1,(q1 _).1]
 |some y=>obtain⟨z,rfl,hz⟩:=h1;have q2:=fun code=>EX (P:=P) (w:=w) (code:=code) hz e2<|Nat.le_refl _;refine⟨?_,(q2 .slice3B).2,(q1 .slice3B).2,(q0 .slice3B).2⟩;simp[Instr.sliceBounds,(q0 _).1,(q1 _).1,(q2 _).1]
theorem Y4{e:TypeId}{lo hi mx:Option Value}(h:P.underlying ty=some (.slice e)):(Instr.sliceAt ty v lo hi mx).run P w=(Instr.slice ty v lo hi mx).run P w:=by simp[Instr.sliceAt,dv h]
theorem Zs{hi mx:Option AV}(ha:VR ρ a v)(h1:pI ρ lo nX)(h2:pI ρ hi iu)(h3:pI ρ mx Ec)(h:wV P ty a lo hi mx=some x):
    ∃q,(Instr.sliceAt ty v nX iu Ec).run P w= .ok q w/\VR ρ x q:=by
  unfold wV at h
  split at h<;>first|(cases h;done)|skip
  · 
    rename_i e p len cap e1
    cases ek:eD P e with
    |none=>simp only[ek] at h;cases h
    | some k=>
      simp only[ek] at h
      rw[Y4 e1]
      have hv:∃q real,v= .slice q len real/\jd len cap<=real/\len<=real\/∃q real,v= .slice q len real/\cap= .known real:=by
        cases p with
        |none=>obtain⟨rfl,rfl,rfl⟩:=lN ha;exact⟨none,0,.inr ⟨none,0,rfl,rfl⟩⟩
        | some p=>
          obtain⟨n,i⟩:=p
          cases cap with
          |known c=>simp only[VR] at ha;obtain⟨b,N,_,rfl⟩:=ha;exact⟨none,0,.inr ⟨_,c,rfl,rfl⟩⟩
          |aq b0 e0=>simp only[VR] at ha;obtain⟨b,N,c,_,rfl,h5,h6,_⟩:=ha;exact⟨_,c,.inl ⟨rfl,h5,h6⟩⟩
          |lost=>simp only[VR] at ha;obtain⟨rfl,b,N,_,c,_,rfl⟩:=ha;exact⟨_,c,.inl ⟨rfl,by simp[jd],Nat.zero_le _⟩⟩
      clear hv
      cases mx with
      | some mx =>
        simp only[] at h
        have hl:cap≠ .lost:=by intro e2;subst e2;cases h
        have h':slice3 k p (jd len cap) lo hi mx=some x:=by
          cases cap<;>first|exact h|exact absurd rfl hl
        clear h
        unfold slice3 at h'
        cases e2:bound (some mx) (jd len cap) 0 with
        |none=>simp only[e2] at h';cases h'
        | some m=>
          simp only[e2] at h'
          cases hi with
          |none=>cases h'
          | some hi =>
            simp only[] at h'
            cases e3:bound (some hi) m 0 with
            |none=>simp only[e3] at h';cases h'
            | some hh=>
              simp only[e3] at h'
              cases e4:bound lo hh 0 with
              |none=>simp only[e4] at h';cases h'
              | some l=>
                simp only[e4] at h'
                cases p with
                | none=>
                  obtain⟨rfl,rfl,rfl⟩:=lN ha
                  simp only[] at h';injection h' with h';subst h'
                  obtain⟨g1,g2,g3,g4⟩:=RR (P:=P) (w:=w) (b:=true) (len:=0) (real:=0) h1 h2 h3 (Nat.le_refl _) e2 e3 e4
                  have g4':m<=0:=g4
                  refine⟨.slice none 0 0,?_,?_⟩
                  · have z1:m=0:=by omega
                    have z2:hh=0:=by omega
                    have z3:l=0:=by omega
                    subst z1;subst z2;subst z3
                    simp[Instr.slice,dv e1,g1,iP ek]
                  · have z1:hh - l=0:=by omega
                    have z2:m - l=0:=by omega
                    rw[z1,z2];simp[VR]
                | some p=>
                  obtain⟨n,i⟩:=p
                  simp only[] at h'
                  have hv:∃b N real,ρ n=some (b,N)/\v= .slice (some ⟨b,i,none⟩) len real/\jd len cap<=real:=by
                    cases cap with
                    |known c=>simp only[VR] at ha;obtain⟨b,N,e5,rfl⟩:=ha;exact⟨b,N,c,e5,rfl,by simp[jd]⟩
                    |aq b0 e0=>simp only[VR] at ha;obtain⟨b,N,c,e5,rfl,h5,h6,_⟩:=ha;exact⟨b,N,c,e5,rfl,h5⟩
                    |lost=>exact absurd rfl hl
                  obtain⟨b,N,real,e5,rfl,af2⟩:=hv
                  obtain⟨g1,g2,g3,g4⟩:=RR (P:=P) (w:=w) (b:=true) (len:=len) h1 h2 h3 af2 e2 e3 e4
                  cases e6:Nat.beq m l with
                  | true=>
                    simp only[e6] at h';injection h' with h';subst h'
                    have BV:=eA.1 e6
                    refine⟨.slice (some ⟨b,i,none⟩) (hh - l)<|m - l,?_,by simp only[VR];exact⟨b,N,e5,rfl⟩⟩
                    subst BV;simp[Instr.slice,dv e1,g1,iP ek]
                  | false=>
                    simp only[e6] at h';injection h' with h';subst h'
                    have ch:¬m=l:=by rw[←beq_eq,e6];simp
                    refine⟨.slice (some ⟨b,i+l*k,none⟩) (hh - l)<|m - l,?_,by simp only[VR];exact⟨b,N,e5,rfl⟩⟩
                    simp[Instr.slice,dv e1,g1,iP ek,ch,Addr.rf]
      | none=>
        simp only[pI] at h3;subst h3
        simp only[] at h
        cases e3:bound hi (jd len cap) len with
        |none=>simp only[e3] at h;cases h
        | some hh =>
          simp only[e3] at h
          cases e4:bound lo hh 0 with
          |none=>simp only[e4] at h;cases h
          | some l=>
            simp only[e4] at h
            cases p with
            | none=>
              obtain⟨rfl,rfl,rfl⟩:=lN ha
              simp only[] at h;injection h with h;subst h
              obtain⟨g1,g2,g3⟩:=HD (P:=P) (w:=w) (b:=true) (len:=0) (real:=0) h1 h2 (Nat.le_refl _) e3 e4
              have z1:hh=0:=by rcases g2 with⟨_,e⟩|e<;>omega
              have z2:l=0:=by omega
              subst z1;subst z2
              refine⟨.slice none 0 0,?_,by simp[VR]⟩
              simp[Instr.slice,dv e1,g1,iP ek]
            | some p=>
              obtain⟨n,i⟩:=p
              cases cap with
              | known c=>
                simp only[] at h
                simp only[VR] at ha;obtain⟨b,N,e5,rfl⟩:=ha
                obtain⟨g1,g2,g3⟩:=HD (P:=P) (w:=w) (b:=true) (len:=len) (real:=c) h1 h2 (by simp[jd]) e3 e4
                cases e6:Nat.beq c l with
                | true=>
                  simp only[e6] at h;injection h with h;subst h
                  have BV:=eA.1 e6
                  refine⟨.slice (some ⟨b,i,none⟩) (hh - l)<|c - l,?_,by simp only[VR];exact⟨b,N,e5,rfl⟩⟩
                  subst BV;simp[Instr.slice,dv e1,g1,iP ek]
                | false=>
                  simp only[e6] at h;injection h with h;subst h
                  have ch:¬c=l:=by rw[←beq_eq,e6];simp
                  refine⟨.slice (some ⟨b,i+l*k,none⟩) (hh - l)<|c - l,?_,by simp only[VR];exact⟨b,N,e5,rfl⟩⟩
                  simp[Instr.slice,dv e1,g1,iP ek,ch,Addr.rf]
              | aq b0 e0=>
                simp only[] at h
                simp only[VR] at ha;obtain⟨b,N,c,e5,rfl,h5,h6,h7⟩:=ha
                obtain⟨g1,g2,g3⟩:=HD (P:=P) (w:=w) (b:=true) (len:=len) (real:=c) h1 h2 h5 e3 e4
                have hhc:hh<=c:=by
                  rcases g2 with⟨_,e⟩|e
                  · omega
                  · have e':hh<=b0:=e
                    omega
                cases e6:Nat.beq l 0 with
                | true=>
                  simp only[e6] at h;injection h with h;subst h
                  have BV:=eA.1 e6
                  refine⟨.slice (some ⟨b,i,none⟩) (hh - l)<|c - 0,?_,?_⟩
                  · subst BV;by_cases q:c=0
                    · subst q;simp[Instr.slice,dv e1,g1,iP ek]
                    · simp[Instr.slice,dv e1,g1,iP ek,q,Addr.rf]
                  · simp only[VR];exact⟨b,N,c,e5,rfl,h5,by omega,h7⟩
                |false=>simp only[e6] at h;cases h
              |lost=>cases h
  · -- an array,by its address
    rename_i len e n i e1
    cases ek:eD P e with
    |none=>simp only[ek] at h;cases h
    | some k=>
      simp only[ek] at h
      cases mx with
      |some _=>cases h
      | none=>
        simp only[pI] at h3;subst h3
        simp only[] at h
        cases e2:bound hi len len with
        |none=>simp only[e2] at h;cases h
        | some hh=>
          simp only[e2] at h
          cases e3:bound lo hh 0 with
          |none=>simp only[e3] at h;cases h
          | some l=>
            simp only[e3] at h
            simp only[VR] at ha;obtain⟨b,N,e5,rfl⟩:=ha
            obtain⟨g1,g2,g3⟩:=HD (P:=P) (w:=w) (b:=false) h1 h2 (Nat.le_refl _) e2 e3
            cases e6:Nat.beq len l with
            | true=>
              simp only[e6] at h;injection h with h;subst h
              have BV:=eA.1 e6
              refine⟨.slice (some ⟨b,i,none⟩) (hh - l)<|len - l,?_,by simp only[VR];exact⟨b,N,e5,rfl⟩⟩
              subst BV;simp[Instr.sliceAt,dv e1,Instr.sureAddr,g1,iP ek]
            | false=>
              simp only[e6] at h;injection h with h;subst h
              have ch:¬len=l:=by rw[←beq_eq,e6];simp
              refine⟨.slice (some ⟨b,i+l*k,none⟩) (hh - l)<|len - l,?_,by simp only[VR];exact⟨b,N,e5,rfl⟩⟩
              simp[Instr.sliceAt,dv e1,Instr.sureAddr,g1,iP ek,ch,Addr.rf]
theorem ZS{y:Operand}{lo hi mx:Option Operand}(he:∀x v,aG t x=some v->VR ρ v (ev x))(r:Rel B ρ s.h w)(h:sX P ty y lo hi mx YR t s= .ok x s1)(ho:o.op= .slice ty y lo hi mx):gg P B ρ s s1 w x<|execOp ev o:=by unfold sX at h;obtain⟨a,h1,h2⟩:=bw h;obtain⟨nX,h3,h4⟩:=bw h2;obtain⟨iu,h5,h6⟩:=bw h4;obtain⟨Ec,h7,h8⟩:=bw h6;obtain⟨h9,rfl⟩:=gS h8;obtain⟨q,g1,g2⟩:=Zs (P:=P) (w:=w) (he y a h1) (NK he h3) (NK he h5) (NK he h7) h9;exact⟨ρ,w,.value q,Ext.refl _ _ _,by simp[execOp,ho,g1],g2,r,cx.refl _ _⟩
end
end Go.Rn
namespace Go.Rn
open Go.RowKit
variable {n:Nat} {v:Value} {ty:TypeId} {a:AV}
theorem Rel.Vs{B:aI}{ρ:Ren}{h:Tr ae}{w w':World}(r:Rel B ρ h w){p:ae}{b N:Nat}(ht:n<top)(hg:h.get n=some p)(hp:p.plain=true)(cr:p.dk=false)(hr:ρ n=some (b,N))(hw:u0 b w w'):
 Rel B ρ (h.put n none) w'/\∀m q,m<top->(h.put n none).get m=some q->∀M,ρ m≠some (b,M):=by
 have g:∀m,m<top->(h.put n none).get m=if m=n then none else h.get m:=fun m hm=>Tr.di _ _ _ _ ht hm
 have lT:∀m q,m<top->(h.put n none).get m=some q->∀M,ρ m≠some (b,M):=by
  intro m q hm hq M e;rw[g m hm] at hq;by_cases e2:m=n
  ·rw[if_pos e2] at hq;cases hq
  ·rw[if_neg e2] at hq;exact e2<|r.one m n q p b M N hm ht hq hg (.inr cr) e hr
 refine⟨?_,lT⟩;have hl:h.get n≠some .iy:=by intro e;rw[hg] at e;cases e;simp[ae.plain] at hp
 have r2:=r.drop ht hl;refine⟨?_,r2.one,?_,by rw[hw.size];exact r.size,r2.lone,r.fz.of (Ren.le_refl _) (fun b1 _ hn=>hw.block b1 fun e=>hn n p N ht hg cr (by rw[e];exact hr)) (fun b1 _ hn=>hn.sub fun m q hm hq gZ=>by
  rw[g m hm] at hq;by_cases e:m=n
  ·rw[if_pos e] at hq;cases hq
  ·rw[if_neg e] at hq;exact⟨q,hq,gZ⟩),r.tk.of (Ren.le_refl _) (fun m q hm hq _=>by
  rw[g m hm] at hq;by_cases e:m=n
  ·rw[if_pos e] at hq;cases hq
  ·rw[if_neg e] at hq;exact hq) (by rw[hw.size];exact Nat.le_refl _) (fun b1 _ hn=>hw.block b1 fun e=>hn n p N ht hg cr (by rw[e];exact hr)) (fun b1 _ hn=>hn.sub fun m q hm hq gZ=>by
  rw[g m hm] at hq;by_cases e:m=n
  ·rw[if_pos e] at hq;cases hq
  ·rw[if_neg e] at hq;exact⟨q,hq,gZ⟩) fun _ _ _ _ _ e=>e⟩
 ·intro m q hm hq;obtain⟨b1,N1,o1,h1,h2,h3,h4⟩:=r2.is m q hm hq;exact⟨b1,N1,o1,h1,(hw.block b1 fun e=>lT m q hm hq N1<|by rw[h1,e]).trans h2,h3,h4⟩
 ·intro i m es ex left cur hi hq;obtain⟨hm,fu,u⟩:=r2.iter i m es ex left cur hi hq;exact⟨hm,fu,u.mM hw.block (lT i _ hi hq)<|lT m _ hm fu⟩
section
variable {P:Program} {B:aI} {ρ:Ren} {w:World} {s s1:AS} {x:AV} {YR:aJ} {t:Tr AV} {ev:Operand->Value} {o:Oper}
theorem wrap_small(h:n<2 ^ 63):IntKind.i64.wrap (n:Int)=n:=by exact IntWalk.i64_in _ aj
theorem Y5{l c:AV}{vl vc:Value}(hl:VR ρ l vl)(hc:VR ρ c vc)(r:Rel B ρ s.h w)(hf:dB s.nx s1.nx ρ)(h:makeSlice P ty l c s= .ok x s1):jV P B ρ s s1 w x<|Instr.makeSlice ty vl vc:=by
 unfold makeSlice at h;cases e1:P.underlying ty with
 |none=>simp only[e1] at h;cases h
 |some d=>
  cases d<;>simp only[e1] at h<;>first|(cases h;done)|skip
  rename_i e;obtain⟨il,h1,h⟩:=bw h;obtain⟨ic,h2,h⟩:=bw h;obtain⟨i,h3,h⟩:=bw h;obtain⟨nc,h4,h⟩:=bw h;obtain⟨nl,h5,h⟩:=bw h;obtain⟨z,h6,h⟩:=bw h;obtain⟨h7,h⟩:=cX h;obtain⟨n,s2,h8,h9⟩:=M.aN h;obtain⟨rfl,rfl⟩:=bB h9;obtain⟨q1,q2⟩:=and_true.1 h7;obtain⟨q3,q4⟩:=and_true.1 q2;obtain⟨q5,q6⟩:=and_true.1 q4;have q1:=aK.1 q1;have q3:=aK.1 q3;obtain⟨k1,_,rfl⟩:=hl.CT h1;obtain⟨k2,_,rfl⟩:=hc.CT h2;obtain⟨rfl,jJ⟩:=yK h4;obtain⟨rfl,KR⟩:=yK h5;unfold room at jJ q1;obtain⟨vz,g1,g2⟩:=HC (P:=P) (w:=w) ρ h6;obtain⟨ht,rfl,rfl⟩:=uP h8;have jf:ρ s.nx=none:=hf s.nx (Nat.le_refl _) (Nat.lt_succ_self _) aj;have hz:=g2.cells.length;simp only[Array.length_toList] at hz;have yZ:(Array.range<|nc*i.size).map (fun j=>(if nc*i.size=0 then(#[]:Array Value) else vz.cells)[j % (if nc*i.size=0 then(#[]:Array Value) else vz.cells).size]!)=(Array.range<|nc*i.size).map (fun j=>vz.cells[j % vz.cells.size]!):=by
   by_cases q:nc*i.size=0
   ·rw[q];simp
   ·simp only[if_neg q]
  refine⟨eQ ρ s.nx (w.heap.size,nc*i.size),{w with heap:=w.heap.push<|.cells ((Array.range<|nc*i.size).map fun j=>vz.cells[j % vz.cells.size]!) e},.slice (some ⟨w.heap.size,0,none⟩) nl nc,Ext.my jf,?_,?_,?_,(gP.alloc w _).below r.size⟩
  ·have w1:IntKind.i64.wrap (nl:Int)=nl:=wrap_small aj;have w2:IntKind.i64.wrap (nc:Int)=nc:=wrap_small aj;have t1:(decide ((nc:Int)<0)||decide ((i.bytes:Int)*(nc:Int)>2 ^ 48))=false:=by
    have:¬((nc:Int)<0):=by omega
    have h2:¬((i.bytes:Int)*(nc:Int)>2 ^ 48):=by
     have:(i.bytes:Int)*(nc:Int)=((nc*i.bytes:Nat):Int):=by rw[Nat.mul_comm];simp
     rw[this];omega
    rw[decide_eq_false this,decide_eq_false h2];rfl
   have t2:¬((nl:Int)<0):=by omega
   have t3:¬((nl:Int)>(nc:Int)):=by omega
   simp only[Instr.makeSlice,Sem.run_bind,dv e1,Result.andThen_ok,asInt,asIntOf,Sem.run_pure,uJ h3,w1,w2];have alL:¬(((decide ((nc:Int)<0)||decide ((i.bytes:Int)*(nc:Int)>2 ^ 48))=true)\/((nl:Int)<0)\/((nl:Int)>(nc:Int))):=by
    rw[t1];rintro (e|e|e)
    ·cases e
    ·exact t2 e
    ·exact t3 e
   have aeC:((decide ((nc:Int)<0)||decide ((i.bytes:Int)*(nc:Int)>2 ^ 48))||decide ((nl:Int)<0)||decide ((nl:Int)>(nc:Int)))=false:=by rw[t1];simp[t2,t3]
   simp only[aeC,Bool.false_eq_true,if_false,Sem.run_bind,run_askRoom,Result.andThen_ok,Int.toNat_natCast,iP (show eD P e=some i.size by simp[eD,h3])];by_cases q:nc*i.size=0
   ·simp only[if_pos q] at yZ ⊢;simp only[Sem.run_bind,Sem.run_pure,Result.andThen_ok,yZ];rfl
   ·simp only[if_neg q] at yZ ⊢;simp only[Sem.run_bind,g1,Sem.run_pure,Result.andThen_ok];rfl
  ·simp only[VR];exact⟨_,_,iQ _ _ _,rfl⟩
  ·refine r.new ht jf rfl ⟨_,e,rfl,by simp,Nat.le_refl _,fun j hj=>?_⟩;have af3:0<z.cells.length:=by
    rcases Nat.eq_zero_or_pos z.cells.length with h0|h0
    ·rw[h0] at q5;have:Nat.beq (nc*i.size) 0=true:=by
      cases hb:Nat.beq (nc*i.size) 0 with
      |true=>rfl
      |false=>rw[hb] at q5;simp at q5
     have:=eA.1 this;omega
    ·exact h0
   have hm:j % z.cells.length<z.cells.length:=Nat.mod_lt _ af3;obtain⟨a,ha⟩:∃a,z.cells[j % z.cells.length]? =some a:=⟨_,List.getElem?_eq_getElem hm⟩;obtain⟨v,hv,hr⟩:=g2.cells.get _ a ha;refine⟨a,v,?_,List.all_eq_true.1 q6 a<|List.mem_of_getElem? ha,?_,hr.mono<|om jf⟩
   ·unfold cellAt;rw[Tr.get_nil];exact ha
   ·have cQ:j % vz.cells.size<vz.cells.size:=by rw[←hz];exact hm
    have ks:vz.cells[j % vz.cells.size]? =some v:=by rw[←hz];simpa using hv
    simp only[Array.getElem?_map,Array.getElem?_range,if_pos hj,Option.map_some];rw[getElem!_pos vz.cells _ cQ];rw[Array.getElem?_eq_getElem cQ] at ks;injection ks with ks;rw[ks]
theorem YX{l c:Operand}(he:∀x v,aG t x=some v->VR ρ v (ev x))(r:Rel B ρ s.h w)(hf:dB s.nx s1.nx ρ)(h:Ao P ty l c YR t s= .ok x s1)(ho:o.op= .makeSlice ty l c):gg P B ρ s s1 w x<|execOp ev o:=by unfold Ao at h;obtain⟨a,h1,h2⟩:=bw h;obtain⟨b,h3,h4⟩:=bw h2;have:=(Y5 (P:=P) (he l a h1) (he c b h3) r hf h4).op;simpa only[execOp,ho] using this
theorem Hs{size:Nat}{l:List AV}(ha:VR ρ a v)(fi:bC s)(r:Rel B ρ s.h w)(h:firstCells size n a s= .ok l s1):
 s1.h=s.h/\s1.nx=s.nx/\∃arr:Array Value,(Builtin.firstCells size n v).run P w= .ok arr w/\ay ρ l arr.toList:=by
 cases a with
 |slice p len cap=>
  cases p with
  |none=>
   have h':(M.pure []:M<|List AV) s= .ok l s1:=by cases len<;>cases cap<;>exact h
   obtain⟨rfl,rfl⟩:=bB h';obtain⟨rfl,rfl,rfl⟩:=lN ha;exact⟨rfl,rfl, #[],rfl,by simp[ay]⟩
  |some p=>
   obtain⟨m,i⟩:=p;by_cases hc:cap= .lost
   ·subst hc;simp only[VR] at ha;obtain⟨rfl,b,N,q,c,e,rfl⟩:=ha;obtain⟨h1,h2⟩:=cX (show(aF (Nat.beq n 0) <| (M.pure []:M<|List AV)) s= .ok l s1 from h);obtain⟨rfl,rfl⟩:=bB h2;have:=eA.1 h1;subst this;refine⟨rfl,rfl, #[],?_,by simp[ay]⟩;simp[Builtin.firstCells,loadCells,loadCellsFrom]
   ·rw[LF hc] at h;have:∃b N c,ρ m=some (b,N)/\v= .slice (some ⟨b,i,none⟩) len c:=by
     cases cap with
     |known c=>simp only[VR] at ha;obtain⟨b,N,e,rfl⟩:=ha;exact⟨b,N,c,e,rfl⟩
     |aq lo e0=>simp only[VR] at ha;obtain⟨b,N,c,e,rfl,_⟩:=ha;exact⟨b,N,c,e,rfl⟩
     |lost=>exact absurd rfl hc
    obtain⟨b,N,c,e,rfl⟩:=this;obtain⟨a1,a2,a3,a4,vs,a5,a6,_⟩:=yI (P:=P) fi r h e;exact⟨a1,a2,vs.toArray,by simpa[Builtin.firstCells] using a5,by simpa using a6⟩
 |_=>cases h
theorem SM(ha:VR ρ a v)(h:lenOf a=some n):(Builtin.lenOf v).run P w= .ok n w:=by
 cases a with
 |slice p len cap=>
  simp only[lenOf] at h;injection h with h;subst h
  cases p with
  |none=>obtain⟨rfl,rfl,rfl⟩:=lN ha;rfl
  |some p=>obtain⟨m,i⟩:=p;obtain⟨_,_,_,_,_,rfl⟩:=uL ha;rfl
 |_=>cases h
theorem SN(mW:Nat):∀(k c:Nat),c<=mW->Builtin.growBy mW k c<=mW+mW+800
 |0,c,h=>by simp only[Builtin.growBy];omega
 |k+1,c,h=>by
  simp only[Builtin.growBy];by_cases q:c>=mW
  ·rw[if_pos q];omega
  ·rw[if_neg q];by_cases q2:c+(c+768) / 4<=mW
   ·exact SN mW k _ q2
   ·have:∀k,Builtin.growBy mW k (c+(c+768) / 4)=c+(c+768) / 4:=by
     intro k;cases k with
     |zero=>rfl
     |succ k=>simp only[Builtin.growBy];rw[if_pos aj]
    rw[this];omega
theorem ZT{mW dy:Nat}(h:dy<mW):Builtin.nextslicecap mW dy<=2*mW+4096:=by
 unfold Builtin.nextslicecap;split
 ·omega
 ·split
  ·omega
  ·have:=SN mW 4 dy aj;omega
theorem abK{elem:TypeId}{i:TypeInfo}{sv xv:Value}{base:Option Addr}{len c:Nat}{xt:Option TypeId}{args:Array TypeId}{sT:TypeId}{dy new:Array Value}{zv:Value}(hs:sv= .slice base len c)(hu:P.underlying sT=some (.slice elem))(yk:args[0]? =some sT)(uk:args[1]? =xt)(hx:pt P xt=true)(hi:P.info? elem=some i)(hn:(Builtin.lenOf xv).run P w= .ok n w)(cf:c<len+n)(tD:2*(len+n)*i.bytes+4096*i.bytes<=room)(hb:i.bytes≠0)(ho:(Builtin.firstCells i.size len sv).run P {w with drawn:=w.drawn+1}= .ok dy {w with drawn:=w.drawn+1})(hw:(Builtin.firstCells i.size n xv).run P {w with drawn:=w.drawn+1}= .ok new {w with drawn:=w.drawn+1})(hz:∀w':World,(zeroValue elem).run P w'= .ok zv w'):
    ∃ rest:List Value,∃nc,len+n<=nc/\rest.length=(nc - (len+n))*zv.cells.size/\(Builtin.append_ args 0 #[sv,xv]).run P w=
      .ok (.slice (some ⟨w.heap.size,0,none⟩) (len+n) nc) {w with heap:=w.heap.push<|.cells ((dy++new).toList++rest).toArray elem,drawn:=w.drawn+1}:=by
  subst hs
  have Ka:=ZT cf
  have hmul:Builtin.nextslicecap (len+n) c*i.bytes<=2 ^ 48:=by
    have:=Nat.mul_le_mul_right i.bytes Ka
    have e:(2*(len+n)+4096)*i.bytes=2*(len+n)*i.bytes+4096*i.bytes:=Nat.add_mul _ _ _
    unfold room at tD
    omega
  have hnc:∃nc,len+n<=nc/\(choose<|.appendCap (len+n) c elem).run P w= .ok nc {w with drawn:=w.drawn+1}:=by
    refine⟨len+n+w.tape w.drawn (.appendCap (len+n) c elem) % (2 ^ 63 - (len+n)),by omega,?_⟩
    rw[run_choose]
    simp[Question.forced,Question.cut]
  obtain⟨nc,ahE,WN⟩:=hnc
  refine⟨(Builtin.zeroCells zv.cells<|nc - (len+n)).toList,nc,ahE,by simp[Builtin.zeroCells],?_⟩
  have hle:¬(len+n<=c):=by omega
  have XB:¬(((len+n:Nat):Int)>IntKind.i64.max/\(False\/i.bytes=0)):=by
    rintro ⟨_,e|e⟩
    · cases e
    · exact hb e
  have WO:¬(Builtin.nextslicecap (len+n) c*i.bytes>2 ^ 48):=by omega
  have eU:∀w':World,(Go.newRow elem<|dy++new++Builtin.zeroCells zv.cells (nc - (len+n))).run P w'= .ok ⟨w'.heap.size,0,none⟩ {w' with heap:=w'.heap.push<|.cells ((dy++new).toList++(Builtin.zeroCells zv.cells<|nc - (len+n)).toList).toArray elem}:=by
    intro w'
    have e:((dy++new).toList++(Builtin.zeroCells zv.cells<|nc - (len+n)).toList).toArray=dy++new++Builtin.zeroCells zv.cells (nc - (len+n)):=by
      rw[←Array.toList_append]
    rw[e];rfl
  unfold pt at hx
  cases xt with
  | none=>
    simp only[Builtin.append_,yk,uk]
    simp only[show(#[Value.slice base len c,xv]:Array Value)[0]? =some (.slice base len c) from rfl,show(#[Value.slice base len c,xv]:Array Value)[1]? =some xv from rfl]
    simp only[Sem.run_bind,dv hu,Result.andThen_ok,iP (show eD P elem=some i.size by simp[eD,hi]),Sem.run_pure,Bool.false_eq_true,if_false,hn,if_neg hle,uJ hi]
    rw[if_neg XB]
    simp only[Sem.run_bind,uJ hi,Result.andThen_ok]
    rw[if_neg WO]
    simp only[Sem.run_bind,WN,Result.andThen_ok,uJ hi,run_askRoom,ho,Bool.not_false,if_true,hw,hz,eU,Sem.run_pure]
  | some q =>
    simp only at hx
    cases e:P.underlying q with
    |none=>rw[e] at hx;cases hx
    | some d=>
      rw[e] at hx
      cases d<;>first
        |(cases hx;done)
        | (simp only[Builtin.append_,yk,uk]
           simp only[show(#[Value.slice base len c,xv]:Array Value)[0]? =some (.slice base len c) from rfl,show(#[Value.slice base len c,xv]:Array Value)[1]? =some xv from rfl]
           simp only[Sem.run_bind,dv hu,Result.andThen_ok,iP (show eD P elem=some i.size by simp[eD,hi]),Sem.run_pure,dv e,Bool.false_eq_true,if_false,hn,if_neg hle,uJ hi]
           rw[if_neg XB]
           simp only[Sem.run_bind,uJ hi,Result.andThen_ok]
           rw[if_neg WO]
           simp only[Sem.run_bind,WN,Result.andThen_ok,uJ hi,run_askRoom,ho,Bool.not_false,if_true,hw,hz,eU,Sem.run_pure])
end
end Go.Rn
namespace Go.Rn
open Go.RowKit
variable {n size c:Nat} {elem sT:TypeId} {xv:Value} {xt:Option TypeId} {l:List AV} {i:TypeInfo} {base:Option Addr} {args:Array TypeId}
section
variable {P:Program} {B:aI} {ρ:Ren} {w:World} {s s1:AS} {x:AV} {YR:aJ} {t:Tr AV} {ev:Operand->Value} {o:Oper}
theorem IH{len:Nat}{new:Array Value}{w':World}(hu:P.underlying sT=some (.slice elem))(yk:args[0]? =some sT)(uk:args[1]? =xt)(hx:pt P xt=true)(hi:eD P elem=some size)(hn:(Builtin.lenOf xv).run P w= .ok n w)(hle:len+n<=c)(hw:(Builtin.firstCells size n xv).run P w= .ok new w)(cC:(match base with|some a=>storeCells (a.add<|len*size) new.toList|none=>pure ()).run P w= .ok () w'):
    (Builtin.append_ args 0 #[.slice base len c,xv]).run P w= .ok (.slice base (len+n) c) w':=by
  have jf:base=none->w'=w:=by
    intro e;subst e
    have ahF:Result.ok () w= .ok () w':=cC
    injection ahF with _ e;exact e.symm
  unfold pt at hx
  cases xt with
  | none=>
    simp only[Builtin.append_,yk,uk]
    simp only[show(#[Value.slice base len c,xv]:Array Value)[0]? =some (.slice base len c) from rfl,show(#[Value.slice base len c,xv]:Array Value)[1]? =some xv from rfl]
    simp only[Sem.run_bind,dv hu,Result.andThen_ok,iP hi,Sem.run_pure,Bool.false_eq_true,if_false,hn,if_pos hle,Bool.not_false,if_true,hw]
    cases base with
    |none=>simp only[Sem.run_pure,jf rfl]
    |some a=>simp only[Sem.run_bind,show(storeCells (a.add<|len*size) new.toList).run P w= .ok () w' from cC,Result.andThen_ok,Sem.run_pure]
  | some q =>
    simp only at hx
    cases e:P.underlying q with
    |none=>rw[e] at hx;cases hx
    | some d=>
      rw[e] at hx
      cases d<;>first
        |(cases hx;done)
        | (simp only[Builtin.append_,yk,uk]
           simp only[show(#[Value.slice base len c,xv]:Array Value)[0]? =some (.slice base len c) from rfl,show(#[Value.slice base len c,xv]:Array Value)[1]? =some xv from rfl]
           simp only[Sem.run_bind,dv hu,Result.andThen_ok,iP hi,Sem.run_pure,dv e,Bool.false_eq_true,if_false,hn,if_pos hle,Bool.not_false,if_true,hw]
           cases base with
           |none=>simp only[Sem.run_pure,jf rfl]
           |some a=>simp only[Sem.run_bind,show(storeCells (a.add<|len*size) new.toList).run P w= .ok () w' from cC,Result.andThen_ok,Sem.run_pure])
theorem Y6(hi:P.info? elem=some i)(h:sK i=true):∃zv,(∀w':World,(zeroValue elem).run P w'= .ok zv w')/\zv.cells.size=i.size:=by
 unfold sK at h;cases e:i.zero with
 |none=>rw[e] at h;cases h
 |some v=>rw[e] at h;exact⟨v,fun w'=>by simp[zeroValue,uJ hi,e],eA.1 h⟩
theorem Y7{off:Nat}{vs:List Value}{u:Unit}{b N:Nat}(fi:bC s)(r:Rel B ρ s.h w)(hN:off+l.length<=N)(h:wK n off l s= .ok u s1)(hn:ρ n=some (b,N))(hl:ay ρ l vs):
 s1.nx=s.nx/\∃w',(storeCells ⟨b,off,none⟩ vs).run P w= .ok () w'/\Rel B ρ s1.h w'/\cx B w w':=by
 cases l with
 |nil=>simp only[ay] at hl;subst hl;have h':M.pure () s= .ok u s1:=h;obtain⟨_,rfl⟩:=bB h';exact⟨rfl,w,rfl,r,cx.refl _ _⟩
 |cons x l=>
  unfold wK at h;obtain⟨o,s2,h1,h2⟩:=M.aN h;obtain⟨hx,hg,hh,ct⟩:=fX h1;have ht:n<top:=Nat.lt_of_lt_of_le hx fi.nx;obtain⟨o',hb,hO,hB⟩:=r.block ht hg hn;cases o with
  |cells m t z=>
   obtain⟨q1,q2⟩:=cX h2;obtain⟨q3,q4⟩:=and_true.1 q1;obtain⟨q5,q6⟩:=and_true.1 q4;obtain⟨_,_,_,e1,e2⟩:=jB q2;obtain⟨c,e,rfl,hc,hm,row⟩:=hO;have hlen:(x::l).length=vs.length:=hl.length;have h3:off<=m:=aK.1 q3;have h4:max m (off+(x::l).length)<=top:=aK.1 q5;have h5:∀y∈x::l,y.bR=true:=fun y hy=>List.all_eq_true.1 q6 y hy;have cC:=Mr (P:=P) (off:=off) (vs:=vs) hb aj<|Hv hl h5;obtain⟨g1,g2⟩:=LU (cs:=(c.toList.take off++vs++c.toList.drop (off+vs.length)).toArray) hb;refine⟨by rw[e2,ct],_,cC,?_,g1.below<|hB rfl⟩;rw[e1,hh];refine r.put ht hg rfl rfl hn rfl g1 g2 ?_;refine⟨_,e,rfl,(size_set aj).trans hc,?_,?_⟩
   ·show max m (off+(x::l).length)<=N;omega
   ·have h6:max m (off+(x::l).length)<=c.size:=by omega
    exact Row.set (ρ:=ρ) (c:=c) (n:=m) row hl h5 h3 rfl h6 h4
  |_=>cases h2
theorem Mu{sv:Value}{len:Nat}{dy new:List AV}{vo vn:Array Value}(hs:sv= .slice base len c)(hu:P.underlying sT=some (.slice elem))(yk:args[0]? =some sT)(uk:args[1]? =xt)(hx:pt P xt=true)(hi:P.info? elem=some i)(hz:sK i=true)(hn:(Builtin.lenOf xv).run P w= .ok n w)(cf:c<len+n)(r:Rel B ρ s.h w)(hf:dB s.nx s1.nx ρ)(eY:dy.length=len*i.size)(yl:new.length=n*i.size)(ho:(Builtin.firstCells i.size len sv).run P {w with drawn:=w.drawn+1}= .ok vo {w with drawn:=w.drawn+1})(hw:(Builtin.firstCells i.size n xv).run P {w with drawn:=w.drawn+1}= .ok vn {w with drawn:=w.drawn+1})(XC:ay ρ dy vo.toList)(Ed:ay ρ new vn.toList)(h:grown i.size i.bytes (len+n) dy new s= .ok x s1):jV P B ρ s s1 w x<|Builtin.append_ args 0 #[sv,xv]:=by
 unfold grown at h;obtain⟨h1,h2⟩:=cX h;obtain⟨m,s2,h3,h4⟩:=M.aN h2;obtain⟨rfl,rfl⟩:=bB h4;obtain⟨h5,h6⟩:=and_true.1 h1;have tD:=aK.1 h5;have hb:i.bytes≠0:=by intro e;rw[e] at h6;simp at h6
 obtain⟨zv,hz1,hz2⟩:=Y6 (P:=P) hi hz;obtain⟨rest,nc,g1,g2,g3⟩:=abK (P:=P) (w:=w) hs hu yk uk hx hi hn cf tD hb ho hw hz1;have r1:Rel B ρ s.h {w with drawn:=w.drawn+1}:=r.Bu<|gP.drew w;obtain⟨rfl,k1,σ,k2,k3,k4,k5⟩:=L9 (P:=P) elem rest r1 hf h3<|XC.append Ed;have e:vo.toList++vn.toList++rest=(vo++vn).toList++rest:=by simp
 refine⟨σ,_,_,k2,g3,?_,?_,(gP.trans (gP.drew w)<|gP.alloc _ _).below r.size⟩
 ·simp only[VR];refine⟨_,_,nc,k3,rfl,g1,g1,?_⟩;have e1:=XC.length;have e2:=Ed.length;simp only[List.length_append];rw[←e1, ←e2,eY,yl,g2,hz2,Nat.zero_add, ←Nat.add_mul, ←Nat.add_mul];exact Nat.le_of_eq (by congr 1;omega)
 ·rw[e] at k5;exact k5
theorem aem{len:Nat}{base:Option<|Nat×Nat}{cap:bZ}{v:Value}(fi:bC s)(r:Rel B ρ s.h w)(ha:VR ρ (.slice base len cap) v)(hc:cap≠ .lost)(h:firstCells size len (.slice base len cap) s= .ok l s1):l.length=len*size:=by
 cases base with
 |none=>obtain⟨rfl,rfl,rfl⟩:=lN ha;obtain⟨rfl,rfl⟩:=bB (show(M.pure []:M<|List AV) s= .ok l s1 from h);simp
 |some p=>obtain⟨m,i⟩:=p;rw[LF hc] at h;obtain⟨b,N,q,k,hn,rfl⟩:=uL ha;exact(yI (P:=(default:Program)) fi r h hn).2.2.1
end
end Go.Rn
