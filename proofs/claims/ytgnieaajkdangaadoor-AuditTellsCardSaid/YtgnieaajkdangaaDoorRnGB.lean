import Derived.Test.YtgnieaajkdangaaDoorRnGA
import Derived.Below
import Derived.Laws.CopyRow
import Derived.Laws.Cells
import Derived.Laws.Tables
import Derived.Laws.StructEq
import Derived.Laws.BytesString
set_option maxRecDepth 100000
set_option maxHeartbeats 8000000
set_option linter.unusedSimpArgs false
namespace Go.Rn
open Go.RowKit
variable {ρ σ:Ren} {w w':World} {B:aZ} {b n N c a:Nat} {h h':Tr aE} {o':Obj} {x:Nat×Nat}
def hY(ρ:Ren)(n:Nat)(x:Nat×Nat):Ren:=fun k=>if k=n then some x else ρ k
theorem pL(h:ρ n=none):ρ.le (hY ρ n x):=by
 intro k y e
 unfold hY
 by_cases q:k=n
 ·subst q;rw[h] at e;cases e
 ·rw[if_neg q];exact e
theorem lE(ρ:Ren)(n:Nat)(x:Nat×Nat):hY ρ n x n=some x:=by simp[hY]
theorem mD(ρ:Ren){k:Nat}(x:Nat×Nat)(h:k≠n):hY ρ n x k=ρ k:=by simp[hY,h]
structure rW (b:Nat) (w w':World):Prop where
 os:w'.os=w.os
 tape:w'.tape=w.tape
 output:w'.output=w.output
 size:w'.heap.size=w.heap.size
 block:∀k,k≠b->w'.heap[k]? =w.heap[k]?
structure cU (B:aZ) (w w':World):Prop where
 os:w'.os=w.os
 tape:w'.tape=w.tape
 output:w'.output=w.output
 size:w.heap.size<=w'.heap.size
 block:∀k,k<w.heap.size->¬B.may k->w'.heap[k]? =w.heap[k]?
theorem cU.refl(B:aZ)(w:World):cU B w w:=⟨rfl,rfl,rfl,Nat.le_refl _,fun _ _ _=>rfl⟩
theorem cU.trans{a b c:World}(h:cU B a b)(k:cU B b c):cU B a c:=
 ⟨k.os.trans h.os,k.tape.trans h.tape,k.output.trans h.output,Nat.le_trans h.size k.size,fun i hi hm=>(k.block i (Nat.lt_of_lt_of_le hi h.size) hm).trans (h.block i hi hm)⟩
theorem cU.below{W:World}(h:cU (MR W) W w'):Below W.heap.size W w':=
 ⟨h.os,h.tape,h.output,h.size,fun k hk=>h.block k hk (by show ¬(W.heap.size<=k);omega)⟩
theorem rW.below(h:rW b w w')(hb:B.may b):cU B w w':=
 ⟨h.os,h.tape,h.output,by rw[h.size];exact Nat.le_refl _,fun k _ hm=>h.block k (fun e=>hm (by rw[e];exact hb))⟩
theorem Fz.of(f:Fz B ρ h w)(hl:ρ.le σ)(hw:∀b,b<w.heap.size->re ρ h b->w'.heap[b]? =w.heap[b]?)(hd:∀b,b<w.heap.size->re ρ h b->re σ h' b)(hm:∀k,top<=k->σ k=ρ k:=by(intro k hk;first|rfl|exact mD _ _ aF)):Fz B σ h' w':=by
 intro n b sh e
 rw[hm _ (mG _ _ _)] at e
 obtain⟨h0,l,c,e',fr,h1,h3,h4,h5⟩:=f n b sh e
 have hb:b<w.heap.size:=(Array.getElem?_eq_some_iff.1 h3).1
 exact⟨h0,l,c,e',fr,h1,(hw b hb h4).trans h3,hd b hb h4,fun i x hx=>by obtain⟨v,a1,a2,a3⟩:=h5 i x hx;exact⟨v,a1,VR.mono (Lc hl) _ _ a2,a3⟩⟩
theorem re.sub(k:re ρ h b)(hs:∀m o,m<top->h'.get m=some o->o.du=false->∃p,h.get m=some p/\p.du=false):re ρ h' b:=by
 intro m o N hm hg hr
 obtain⟨p,e1,e2⟩:=hs m o hm hg hr
 exact k m p N hm e1 e2
def aE.plain:aE->Bool
 | .iter _ _ _ _ _=>false
 | .sk=>false
 |_=>true
theorem Rel.block(r:Rel B ρ h w){o:aE}(ht:n<top)(hg:h.get n=some o)(hr:ρ n=some (b,N)):
  ∃o',w.heap[b]? =some o'/\OR ρ N o o'/\(o.du=false->B.may b):=by
 obtain⟨b',N',o',h1,h2,h3,h4⟩:=r.is n o ht hg
 rw[hr] at h1;cases h1
 exact⟨o',h2,h3,h4⟩
theorem o4.zq{m:Nat}{es:List (AV×AV)}{ex:Bool}{left:List (AV×AV)}{cur:Option (AV×AV)}(u:o4 ρ w n m es ex left cur)(hw:∀k,k≠b->w'.heap[k]? =w.heap[k]?)(hn:∀N,ρ n≠some (b,N))(hm:∀N,ρ m≠some (b,N)):o4 ρ w' n m es ex left cur:=by
 obtain⟨b1,N,bm,M,l,ak,seen,h1,h2,h3,h4,h5⟩:=u
 exact⟨b1,N,bm,M,l,ak,seen,h1,h2,(hw b1 (fun e=>hn N (by rw[h1,e]))).trans h3,(hw bm (fun e=>hm M (by rw[h2,e]))).trans h4,h5⟩
theorem Rel.put(r:Rel B ρ h w){p o:aE}(ht:n<top)(hg:h.get n=some p)(hp:p.plain=true)(iL:p.du=false)(hr:ρ n=some (b,N))(ho:o.plain=true)(hw:rW b w w')(hb:w'.heap[b]? =some o')(hO:OR ρ N o o'):Rel B ρ (h.put n (some o)) w':=by
 obtain⟨_,_,_,hB⟩:=r.block ht hg hr
 have g:∀m,m<top->(h.put n (some o)).get m=if m=n then some o else h.get m:=fun m hm=>Tr.hH _ _ _ _ ht hm
 refine⟨?_,?_,?_,by rw[hw.size];exact r.size,?_,r.fz.of (Ren.le_refl _) (fun b1 _ hn=>hw.block b1 fun e=>hn n p N ht hg iL (by rw[e];exact hr)) (fun b1 _ hn=>hn.sub fun m q hm hq nb=>by
  rw[g m hm] at hq
  by_cases e:m=n
  ·subst e;exact⟨p,hg,iL⟩
  ·rw[if_neg e] at hq;exact⟨q,hq,nb⟩)⟩
 ·intro m q hm hq
  rw[g m hm] at hq
  by_cases e:m=n
  ·subst e;rw[if_pos rfl] at hq;cases hq
   exact⟨b,N,o',hr,hb,hO,fun _=>hB iL⟩
  ·rw[if_neg e] at hq
   obtain⟨b1,N1,o1,h1,h2,h3,h4⟩:=r.is m q hm hq
   refine⟨b1,N1,o1,h1,(hw.block b1 fun e2=>?_).trans h2,h3,h4⟩
   subst e2
   exact e (r.one m n q p b1 N1 N hm ht hq hg (.inr iL) h1 hr)
 ·intro m k q q' b1 N1 M1 hm hk hq gy eX h1 h2
  rw[g m hm] at hq;rw[g k hk] at gy
  have live:∀j,j<top->∀x,(if j=n then some o else h.get j)=some x->∃y,h.get j=some y/\(x.du=false->y.du=false):=by
   intro j _ x hx
   by_cases e:j=n
   ·subst e;exact⟨p,hg,fun _=>iL⟩
   ·rw[if_neg e] at hx;exact⟨x,hx,id⟩
  obtain⟨y,hy,kU⟩:=live m hm q hq
  obtain⟨z,hz,hz'⟩:=live k hk q' gy
  exact r.one m k y z b1 N1 M1 hm hk hy hz (eX.imp kU hz') h1 h2
 ·intro i m es ex left cur hi hq
  rw[g i hi] at hq
  by_cases e:i=n
  ·subst e;rw[if_pos rfl] at hq;cases hq;simp[aE.plain] at ho
  ·rw[if_neg e] at hq
   obtain⟨hm,hl,u⟩:=r.iter i m es ex left cur hi hq
   have xF:m≠n:=by intro e2;subst e2;rw[hg] at hl;cases hl;simp[aE.plain] at hp
   refine⟨hm,by rw[g m hm,if_neg xF];exact hl,u.zq hw.block (fun M e2=>e ?_) (fun M e2=>xF ?_)⟩
   ·exact r.one i n _ p b M N hi ht hq hg (.inr iL) e2 hr
   ·exact r.one m n _ p b M N hm ht hl hg (.inr iL) e2 hr
 ·intro i j m es ex left cur kj mo lJ lM hi hj h1 h2
  rw[g i hi] at h1;rw[g j hj] at h2
  by_cases e:i=n
  ·rw[if_pos e] at h1;cases h1;simp[aE.plain] at ho
  ·rw[if_neg e] at h1
   by_cases e2:j=n
   ·rw[if_pos e2] at h2;cases h2;simp[aE.plain] at ho
   ·rw[if_neg e2] at h2;exact r.lone i j m es ex left cur kj mo lJ lM hi hj h1 h2
theorem Rel.drop(r:Rel B ρ h w)(ht:n<top)(hn:h.get n≠some .sk):Rel B ρ (h.put n none) w:=by
  have g:∀m,m<top->(h.put n none).get m=if m=n then none else h.get m:=fun m hm=>Tr.hH _ _ _ _ ht hm
  refine⟨?_,?_,?_,r.size,?_,r.fz.of (Ren.le_refl _) (fun _ _ _=>rfl) (fun b1 _ hn=>hn.sub fun m q hm hq nb=>by
    rw[g m hm] at hq
    by_cases e:m=n
    · rw[if_pos e] at hq;cases hq
    · rw[if_neg e] at hq;exact⟨q,hq,nb⟩)⟩
  · intro m q hm hq
    rw[g m hm] at hq
    by_cases e:m=n
    · rw[if_pos e] at hq;cases hq
    · rw[if_neg e] at hq;exact r.is m q hm hq
  · intro m k q q' b1 N1 M1 hm hk hq gy eX h1 h2
    rw[g m hm] at hq;rw[g k hk] at gy
    by_cases e:m=n
    · rw[if_pos e] at hq;cases hq
    · by_cases e2:k=n
      · rw[if_pos e2] at gy;cases gy
      · rw[if_neg e] at hq;rw[if_neg e2] at gy
        exact r.one m k q q' b1 N1 M1 hm hk hq gy eX h1 h2
  · intro i m es ex left cur hi hq
    rw[g i hi] at hq
    by_cases e:i=n
    · rw[if_pos e] at hq;cases hq
    · rw[if_neg e] at hq
      obtain⟨hm,hl,u⟩:=r.iter i m es ex left cur hi hq
      have xF:m≠n:=by intro e2;subst e2;exact hn hl
      exact⟨hm,by rw[g m hm,if_neg xF];exact hl,u⟩
  · intro i j m es ex left cur kj mo lJ lM hi hj h1 h2
    rw[g i hi] at h1;rw[g j hj] at h2
    by_cases e:i=n
    · rw[if_pos e] at h1;cases h1
    · rw[if_neg e] at h1
      by_cases e2:j=n
      · rw[if_pos e2] at h2;cases h2
      · rw[if_neg e2] at h2;exact r.lone i j m es ex left cur kj mo lJ lM hi hj h1 h2
theorem Rel.mono(r:Rel B ρ h w)(hl:ρ.le σ)(Ae:∀k,top<=k->σ k=ρ k:=by(intro k hk;first|rfl|exact mD _ _ aF)):Rel B σ h w:=by
 refine⟨?_,?_,?_,r.size,r.lone,r.fz.of hl (fun _ _ _=>rfl) (fun b1 _ hn m q N hm hq nb e=>by
  obtain⟨b2,N2,_,e2,_⟩:=r.is m q hm hq
  have:=hl _ _ e2
  rw[e] at this;cases this
  exact hn m q _ hm hq nb e2) Ae⟩
 ·intro m q hm hq
  obtain⟨b1,N1,o1,h1,h2,h3,h4⟩:=r.is m q hm hq
  exact⟨b1,N1,o1,hl _ _ h1,h2,h3.mono hl,h4⟩
 ·intro m k q q' b1 N1 M1 hm hk hq gy eX h1 h2
  obtain⟨b2,N2,_,e2,_⟩:=r.is m q hm hq
  obtain⟨b3,N3,_,e3,_⟩:=r.is k q' hk gy
  have a:=hl _ _ e2;have b:=hl _ _ e3
  rw[h1] at a;rw[h2] at b;cases a;cases b
  exact r.one m k q q' b1 N1 M1 hm hk hq gy eX e2 e3
 ·intro i m es ex left cur hi hq
  obtain⟨hm,nK,u⟩:=r.iter i m es ex left cur hi hq
  exact⟨hm,nK,u.mono hl⟩
structure gh (w w':World):Prop where
 os:w'.os=w.os
 tape:w'.tape=w.tape
 output:w'.output=w.output
 size:w.heap.size<=w'.heap.size
 block:∀k,k<w.heap.size->w'.heap[k]? =w.heap[k]?
theorem gh.refl(w:World):gh w w:=⟨rfl,rfl,rfl,Nat.le_refl _,fun _ _=>rfl⟩
theorem gh.drew(w:World):gh w {w with drawn:=w.drawn+1}:=⟨rfl,rfl,rfl,Nat.le_refl _,fun _ _=>rfl⟩
theorem gh.alloc(w:World)(o:Obj):gh w {w with heap:=w.heap.push o}:=
 ⟨rfl,rfl,rfl,by simp,fun k hk=>by simp[Array.getElem?_push];intro e;omega⟩
theorem gh.trans{a b c:World}(h:gh a b)(k:gh b c):gh a c:=
 ⟨k.os.trans h.os,k.tape.trans h.tape,k.output.trans h.output,Nat.le_trans h.size k.size,fun i hi=>(k.block i (Nat.lt_of_lt_of_le hi h.size)).trans (h.block i hi)⟩
theorem gh.below(h:gh w w')(_:∀k,w.heap.size<=k->B.may k):cU B w w':=
 ⟨h.os,h.tape,h.output,h.size,fun k hk _=>h.block k hk⟩
theorem oQ{o:Obj}(h:w.heap[b]? =some o):b<w.heap.size:=(Array.getElem?_eq_some_iff.1 h).1
theorem Rel.zr(r:Rel B ρ h w)(g:gh w w'):Rel B ρ h w':=by
 refine⟨?_,r.one,?_,fun k hk=>r.size k (Nat.le_trans g.size hk),r.lone,r.fz.of (Ren.le_refl _) (fun b hb _=>g.block b hb) (fun _ _ hn=>hn)⟩
 ·intro m q hm hq
  obtain⟨b1,N1,o1,h1,h2,h3,h4⟩:=r.is m q hm hq
  exact⟨b1,N1,o1,h1,(g.block b1 (oQ h2)).trans h2,h3,h4⟩
 ·intro i m es ex left cur hi hq
  obtain⟨hm,nK,b1,N,bm,M,l,ak,seen,h1,h2,h3,h4,h5⟩:=r.iter i m es ex left cur hi hq
  exact⟨hm,nK,b1,N,bm,M,l,ak,seen,h1,h2,(g.block b1 (oQ h3)).trans h3,(g.block bm (oQ h4)).trans h4,h5⟩
theorem Rel.name(r:Rel B ρ h w){o:aE}(ht:n<top)(xG:ρ n=none)(ho:o.plain=true)(hb:w.heap[b]? =some o')(hB:o.du=false->B.may b)(rh:∀k sh,ρ (hn k b sh)=none)(lL:∀m p,m<top->h.get m=some p->∀M,ρ m≠some (b,M))(hO:OR (hY ρ n (b,N)) N o o'):Rel B (hY ρ n (b,N)) (h.put n (some o)) w:=by
  have hl:ρ.le (hY ρ n (b,N)):=pL xG
  have cK:h.get n=none:=by
    cases e:h.get n with
    |none=>rfl
    |some p=>obtain⟨_,_,_,h1,_⟩:=r.is n p ht e;rw[xG] at h1;cases h1
  have g:∀m,m<top->(h.put n (some o)).get m=if m=n then some o else h.get m:=fun m hm=>Tr.hH _ _ _ _ ht hm
  refine⟨?_,?_,?_,r.size,?_,fun k b1 sh e=>by
    rw[mD ρ _ (by have:=mG k b1 sh;omega)] at e
    obtain⟨h0,l,c,e',fr,h1,h3,h4,h5⟩:=r.fz k b1 sh e
    refine⟨h0,l,c,e',fr,h1,h3,fun m q M hm hq nb e2=>?_,fun i x hx=>by obtain⟨v,a1,a2,a3⟩:=h5 i x hx;exact⟨v,a1,VR.mono (Lc hl) _ _ a2,a3⟩⟩
    rw[g m hm] at hq
    by_cases e3:m=n
    · subst e3;rw[lE] at e2;cases e2;exact e (rh k sh)
    · rw[if_neg e3] at hq;rw[mD ρ _ e3] at e2;exact h4 m q M hm hq nb e2⟩
  · intro m q hm hq
    rw[g m hm] at hq
    by_cases e:m=n
    · subst e;rw[if_pos rfl] at hq;cases hq
      exact⟨b,N,o',lE _ _ _,hb,hO,hB⟩
    · rw[if_neg e] at hq
      obtain⟨b1,N1,o1,h1,h2,h3,h4⟩:=r.is m q hm hq
      exact⟨b1,N1,o1,hl _ _ h1,h2,h3.mono hl,h4⟩
  · intro m k q q' b1 N1 M1 hm hk hq gy eX h1 h2
    rw[g m hm] at hq;rw[g k hk] at gy
    by_cases e:m=n
    · by_cases e2:k=n
      · omega
      · rw[if_neg e2] at gy
        subst e;rw[lE] at h1;cases h1
        rw[mD ρ _ e2] at h2
        exact absurd h2 (lL k q' hk gy M1)
    · rw[if_neg e] at hq
      rw[mD ρ _ e] at h1
      by_cases e2:k=n
      · subst e2;rw[lE] at h2;cases h2
        exact absurd h1 (lL m q hm hq N1)
      · rw[if_neg e2] at gy
        rw[mD ρ _ e2] at h2
        exact r.one m k q q' b1 N1 M1 hm hk hq gy eX h1 h2
  · intro i m es ex left cur hi hq
    rw[g i hi] at hq
    by_cases e:i=n
    · subst e;rw[if_pos rfl] at hq;cases hq;simp[aE.plain] at ho
    · rw[if_neg e] at hq
      obtain⟨hm,nK,u⟩:=r.iter i m es ex left cur hi hq
      have xF:m≠n:=by intro e2;subst e2;rw[cK] at nK;cases nK
      exact⟨hm,by rw[g m hm,if_neg xF];exact nK,u.mono hl⟩
  · intro i j m es ex left cur kj mo lJ lM hi hj h1 h2
    rw[g i hi] at h1;rw[g j hj] at h2
    by_cases e:i=n
    · rw[if_pos e] at h1;cases h1;simp[aE.plain] at ho
    · rw[if_neg e] at h1
      by_cases e2:j=n
      · rw[if_pos e2] at h2;cases h2;simp[aE.plain] at ho
      · rw[if_neg e2] at h2;exact r.lone i j m es ex left cur kj mo lJ lM hi hj h1 h2
theorem Rel.new(r:Rel B ρ h w){o:aE}(ht:n<top)(xG:ρ n=none)(ho:o.plain=true)(hO:OR (hY ρ n (w.heap.size,N)) N o o'):Rel B (hY ρ n (w.heap.size,N)) (h.put n (some o)) {w with heap:=w.heap.push o'}:=by
  refine(r.zr (gh.alloc w o')).name ht xG ho jQ (fun _=>r.size _ (Nat.le_refl _)) (fun k sh=>by
    cases e:ρ (Rn.hn k w.heap.size sh) with
    |none=>rfl
    | some x=>
      obtain⟨_,_,_,_,_,_,h3,_⟩:=r.fz k w.heap.size sh (by rw[e];exact fun h=>by cases h)
      exact absurd (oQ h3) (Nat.lt_irrefl _)) (fun m p hm hp M e=>?_) hO
  obtain⟨b1,N1,o1,h1,h2,_⟩:=r.is m p hm hp
  rw[e] at h1;cases h1
  exact absurd (oQ h2) (Nat.lt_irrefl _)
structure Ext (a b:Nat) (ρ σ:Ren):Prop where
 le:ρ.le σ
 out:∀k,k<top->¬(a<=k/\k<b)->σ k=ρ k
theorem Ext.refl(a b:Nat)(ρ:Ren):Ext a b ρ ρ:=⟨Ren.le_refl ρ,fun _ _ _=>rfl⟩
theorem Ext.trans{τ:Ren}(PW:a<=b)(hbc:b<=c)(h:Ext a b ρ σ)(k:Ext b c σ τ):Ext a c ρ τ:=
 ⟨Ren.le_trans h.le k.le,fun j hj hk=>(k.out j hj aF).trans (h.out j hj aF)⟩
theorem Ext.sK(h:ρ n=none):Ext n (n+1) ρ (hY ρ n x):=
 ⟨pL h,fun k _ hk=>mD ρ x aF⟩
def dH(a b:Nat)(ρ:Ren):Prop:=∀k,a<=k->k<b->k<top->ρ k=none
theorem dH.next(hf:dH a c ρ)(PW:a<=b)(e:Ext a b ρ σ):dH b c σ:=fun k h1 h2 h3=>(e.out k h3 aF).trans (hf k aF h2 h3)
theorem dH.sub{d:Nat}(hf:dH a d ρ)(h1:a<=b)(h2:c<=d):dH b c ρ:=fun k p q r=>hf k aF aF r
end Go.Rn
namespace Go.Rn
open Go.RowKit
variable {n off b m k N:Nat} {ρ:Ren} {w:World} {vs:List Value} {l:List AV} {c:Array Value} {s1 s:AS} {P:Program} {e:TypeId} {B:aZ} {u:Unit} {t:Tr AV}
theorem j0{o:aE}(h:di n s= .ok o s1):n<s.nx/\s.h.get n=some o/\s1.h=s.h/\s1.nx=s.nx:=by
 obtain⟨h1,h2,rfl⟩:=LQ h
 by_cases e:n<s.mark
 ·rw[if_pos e];exact⟨h1,h2,rfl,rfl⟩
 ·rw[if_neg e];exact⟨h1,h2,rfl,rfl⟩
theorem oM{o:Option aE}(h:dy n o s= .ok u s1):
  n<s.nx/\n<top/\(∃p,s.h.get n=some p/\p.du=false)/\s1.h=s.h.put n o/\s1.nx=s.nx:=by
 obtain⟨h1,h2,h3,rfl⟩:=LR h
 by_cases e:n<s.mark
 ·rw[if_pos e];exact⟨h1,h2,h3,rfl,rfl⟩
 ·rw[if_neg e];exact⟨h1,h2,h3,rfl,rfl⟩
theorem bH:Nat.ble n m=true↔n<=m:=by rw[Nat.ble_eq]
theorem fT:Nat.beq n m=true↔n=m:=by rw[Nat.beq_eq]
theorem and_true{a b:Bool}:and a b=true↔a=true/\b=true:=Bool.and_eq_true_iff
theorem Eb{z:List AV}:∀{k off:Nat} {l:List AV},jJ t z k off=some l->l.length=k/\∀i,i<k->cellAt t z (off+i)=l[i]?
  | 0,off,l,h=>by
    simp only[jJ] at h;injection h with h;subst h
    exact⟨rfl,fun i hi=>by omega⟩
  | k + 1,off,l,h=>by
    simp only[jJ] at h
    cases e:cellAt t z off with
    |none=>rw[e] at h;cases h
    | some v=>
      simp only[e] at h
      cases e2:jJ t z k (off+1) with
      |none=>simp only[e2] at h;cases h
      | some r=>
        simp only[e2] at h;injection h with h;subst h
        obtain⟨a,b⟩:=Eb e2
        refine⟨by simp[a],fun i hi=>?_⟩
        cases i with
        |zero=>simpa using e
        | succ i=>
          have:=b i aF
          rw[show off+1+i=off+(i+1) from by omega] at this
          simpa using this
def Row(ρ:Ren)(c:Array Value)(n:Nat)(I:Nat->Option AV):Prop:=
 ∀i,i<n->∃x v,I i=some x/\x.ct=true/\c[i]? =some v/\VR ρ x v
theorem Row.get{I:Nat->Option AV}(r:Row ρ c n I)(hk:off+k<=n)(hl:l.length=k)(h:∀i,i<k->I (off+i)=l[i]?):
  ∃vs:List Value,vs.length=k/\aQ ρ l vs/\(∀j v,vs[j]? =some v->c[off+j]? =some v)/\∀x∈l,x.ct=true:=by
 have cell:∀i,i<k->∃x v,l[i]? =some x/\x.ct=true/\c[off+i]? =some v/\VR ρ x v:=by
  intro i hi
  obtain⟨x,v,h1,h2,h3,h4⟩:=r (off+i) aF
  exact⟨x,v,by rw[←h i hi];exact h1,h2,h3,h4⟩
 refine⟨(List.range k).map (fun i=>c.getD (off+i) undef),by simp,?_,?_,?_⟩
 ·refine aQ.F0 _ _ (by simp[hl]) (fun i a b ha hb=>?_)
  have hi:i<k:=by
   have:=List.getElem?_eq_some_iff.1 ha
   obtain⟨h1,_⟩:=this;omega
  obtain⟨x,v,h1,h2,h3,h4⟩:=cell i hi
  rw[h1] at ha;cases ha
  have jA:b=v:=by
   rw[List.getElem?_map,List.getElem?_range hi] at hb
   simp only[Option.map_some,Option.some.injEq] at hb
   rw[←hb,Array.getD_eq_getD_getElem?,h3];rfl
  rw[jA];exact h4
 ·intro j v hv
  have hj:j<k:=by
   have:=List.getElem?_eq_some_iff.1 hv
   obtain⟨h1,_⟩:=this;simpa using h1
  obtain⟨x,u,h1,h2,h3,h4⟩:=cell j hj
  rw[List.getElem?_map,List.getElem?_range hj] at hv
  simp only[Option.map_some,Option.some.injEq] at hv
  rw[←hv,Array.getD_eq_getD_getElem?,h3];rfl
 ·intro x hx
  obtain⟨i,hi,rfl⟩:=List.getElem_of_mem hx
  obtain⟨y,v,h1,h2,h3,h4⟩:=cell i aF
  rw[List.getElem?_eq_getElem hi] at h1;cases h1;exact h2
theorem Bj{fr:Nat×Nat}(hb:w.heap[b]? =some (.cells c e fr))(h:∀j v,vs[j]? =some v->c[off+j]? =some v):(loadCells ⟨b,off,none⟩ vs.length).run P w= .ok vs.toArray w:=by
 refine run_loadCells_list w ⟨b,off,none⟩ vs (fun j v hv=>?_)
 have Ou:(Addr.mk b off none).add j=⟨b,off+j,none⟩:=by
  unfold Addr.add
  by_cases q:j=0
  ·subst q;simp
  ·rw[if_neg q]
 rw[Ou]
 simp only[World.cell?,hb]
 exact h j v hv
theorem rD(fi:bY s)(r:Rel B ρ s.h w)(h:iU n off k s= .ok l s1)(hn:ρ n=some (b,N)):
    s1.h=s.h/\s1.nx=s.nx/\l.length=k/\(∀x∈l,x.ct=true)/\∃vs:List Value,(loadCells ⟨b,off,none⟩ k).run P w= .ok vs.toArray w/\aQ ρ l vs/\
      ∀j v,vs[j]? =some v->w.cell? ⟨b,off+j,none⟩=some v:=by
  cases k with
  | zero=>
    have h':M.pure [] s= .ok l s1:=h
    obtain⟨rfl,rfl⟩:=bW h'
    exact⟨rfl,rfl,rfl,fun x hx=>(by cases hx),[],rfl,by simp[aQ],fun j v h=>(by simp at h)⟩
  | succ k=>
    unfold iU at h
    obtain⟨o,s2,h1,h2⟩:=M.bG h
    obtain⟨hx,hg,hh,dv⟩:=j0 h1
    have ht:n<top:=Nat.lt_of_lt_of_le hx fi.nx
    obtain⟨o',hb,hO,_⟩:=r.block ht hg hn
    cases o with
    | cells m t z=>
      obtain⟨q1,q2⟩:=dY h2
      obtain⟨q3,rfl⟩:=gq q2
      obtain⟨c,e,rfl,hc,hm,row⟩:=hO
      obtain⟨g1,g2⟩:=Eb q3
      obtain⟨vs,v1,v2,v3,v4⟩:=Row.get (ρ:=ρ) (c:=c) (n:=m) (I:=cellAt t z) row (bH.1 q1) g1 g2
      refine⟨hh,dv,g1,v4,vs,?_,v2,fun j v hv=>by simp only[World.cell?,hb];exact v3 j v hv⟩
      have:=Bj (P:=P) hb v3
      rw[v1] at this;exact this
    | ro m t=>
      obtain⟨q1,q2⟩:=dY h2
      obtain⟨q3,rfl⟩:=gq q2
      obtain⟨c,e,fr,rfl,hc,hm,row⟩:=hO
      obtain⟨g1,g2⟩:=Eb q3
      have Z9:Row ρ c m (cellAt t []):=by
        intro i hi
        obtain⟨x,v,a1,a2,a3,a4⟩:=row i hi
        exact⟨x,v,by unfold cellAt;rw[a1],a2,a3,a4⟩
      obtain⟨vs,v1,v2,v3,v4⟩:=Z9.get (bH.1 q1) g1 g2
      refine⟨hh,dv,g1,v4,vs,?_,v2,fun j v hv=>by simp only[World.cell?,hb];exact v3 j v hv⟩
      have:=Bj (P:=P) hb v3
      rw[v1] at this;exact this
    |_=>cases h2
theorem Ec{cs:Array Value}{fr:Nat×Nat}(hb:w.heap[b]? =some (.cells c e fr)):
  rW b w (w.setRow b cs)/\(w.setRow b cs).heap[b]? =some (.cells cs e fr):=by
 refine⟨⟨rfl,rfl,rfl,by simp[World.setRow],fun k hk=>?_⟩,setRow_heap w b c cs e fr hb⟩
 simp only[World.setRow,Array.getElem?_modify]
 rw[if_neg aF]
theorem Rc{x:AV}{v:Value}(h:VR ρ x v)(hx:x.ct=true):v.oneCell'=true:=by
 cases v with
 |agg cs=>exact absurd rfl (VR.ct h hx cs).1
 |tuple cs=>exact absurd rfl (VR.ct h hx cs).2
 |_=>rfl
theorem AX:∀{l:List AV} {vs:List Value},aQ ρ l vs->(∀x∈l,x.ct=true)->∀v∈vs,v.oneCell'=true
  |[],vs,h,_,v,hv=>by simp only[aQ] at h;subst h;cases hv
  | x::l,vs,h,hx,v,hv=>by
    simp only[aQ] at h
    obtain⟨y,ys,rfl,a,b⟩:=h
    rcases List.mem_cons.1 hv with rfl|hv
    · exact Rc a (hx x List.mem_cons_self)
    · exact AX b (fun z hz=>hx z (List.mem_cons_of_mem _ hz)) v hv
theorem Row.set{z:List AV}(r:Row ρ c n (cellAt t z))(hl:aQ ρ l vs)(h1:∀x∈l,x.ct=true)(aex:off<=n)(hm:m=max n (off+l.length))(hc:m<=c.size)(ht:m<=top):
  Row ρ ((c.toList.take off++vs++c.toList.drop (off+vs.length)).toArray) m (cellAt (Tr.fill l off t) z):=by
 have hlen:l.length=vs.length:=hl.length
 intro i hi
 have aaa:cellAt (Tr.fill l off t) z i=match (Tr.fill l off t).get i with|some v=>some v|none=>z[i % z.length]? :=rfl
 rw[aaa,Tr.EY _ _ _ _ aF aF]
 by_cases q:off<=i/\i<off+l.length
 ·rw[if_pos q]
  obtain⟨x,hx⟩:∃x,l[i - off]? =some x:=⟨l[i - off]'aF,List.getElem?_eq_getElem aF⟩
  obtain⟨v,hv,hr⟩:=hl.get (i - off) x hx
  refine⟨x,v,by rw[hx],h1 x (List.mem_of_getElem? hx),?_,hr⟩
  simp only[List.getElem?_toArray]
  rw[List.append_assoc,List.getElem?_append_right qd]
  simp only[List.length_take,Array.length_toList]
  rw[Nat.min_eq_left aF,List.getElem?_append_left aF]
  exact hv
 ·rw[if_neg q]
  have fZ:i<n:=by omega
  obtain⟨x,v,a1,a2,a3,a4⟩:=r i fZ
  refine⟨x,v,a1,a2,?_,a4⟩
  simp only[List.getElem?_toArray]
  by_cases q2:i<off
  ·rw[List.append_assoc,List.getElem?_append_left qd,List.getElem?_take_of_lt q2]
   simpa using a3
  ·rw[List.getElem?_append_right qd]
   simp only[List.length_append,List.length_take,Array.length_toList,List.getElem?_drop]
   rw[Nat.min_eq_left aF]
   rw[show off+vs.length+(i - (off+vs.length))=i from by omega]
   simpa using a3
theorem size_set(h:off+vs.length<=c.size):((c.toList.take off++vs++c.toList.drop (off+vs.length)).toArray).size=c.size:=by
 simp;omega
theorem ED(hb:w.heap[b]? =some (.cells c e (0,0)))(h:off+vs.length<=c.size)(h1:∀v∈vs,v.oneCell'=true):
  (storeCells ⟨b,off,none⟩ vs).run P w= .ok () (w.setRow b (c.toList.take off++vs++c.toList.drop (off+vs.length)).toArray):=by
 have:=run_storeCells_at P b off e vs 0 c w hb (by simpa using h) h1
 simpa using this
theorem AT(fi:bY s)(r:Rel B ρ s.h w)(h:lX n off l s= .ok u s1)(hn:ρ n=some (b,N))(hl:aQ ρ l vs):
    s1.nx=s.nx/\∃w',(storeCells ⟨b,off,none⟩ vs).run P w= .ok () w'/\Rel B ρ s1.h w'/\cU B w w':=by
  cases l with
  | nil=>
    simp only[aQ] at hl;subst hl
    have h':M.pure () s= .ok u s1:=h
    obtain⟨_,rfl⟩:=bW h'
    exact⟨rfl,w,rfl,r,cU.refl _ _⟩
  | cons x l=>
    unfold lX at h
    obtain⟨o,s2,h1,h2⟩:=M.bG h
    obtain⟨hx,hg,hh,dv⟩:=j0 h1
    have ht:n<top:=Nat.lt_of_lt_of_le hx fi.nx
    obtain⟨o',hb,hO,hB⟩:=r.block ht hg hn
    cases o with
    | cells m t z=>
      obtain⟨q1,q2⟩:=dY h2
      obtain⟨q3,q4⟩:=and_true.1 q1
      obtain⟨q5,q6⟩:=and_true.1 q4
      obtain⟨_,_,_,e1,e2⟩:=oM q2
      obtain⟨c,e,rfl,hc,hm,row⟩:=hO
      have hlen:(x::l).length=vs.length:=hl.length
      have h3:off+(x::l).length<=m:=bH.1 q3
      have h4:m<=top:=bH.1 q5
      have h5:∀y∈x::l,y.ct=true:=fun y hy=>List.all_eq_true.1 q6 y hy
      have kk:=ED (P:=P) (off:=off) (vs:=vs) hb aF (AX hl h5)
      obtain⟨g1,g2⟩:=Ec (cs:=(c.toList.take off++vs++c.toList.drop (off+vs.length)).toArray) hb
      refine⟨by rw[e2,dv],_,kk,?_,g1.below (hB rfl)⟩
      rw[e1,hh]
      refine r.put ht hg rfl rfl hn rfl g1 g2 ?_
      refine⟨_,e,rfl,(size_set aF).trans hc,hm,?_⟩
      exact Row.set (ρ:=ρ) (c:=c) (n:=m) row hl h5 aF aF aF h4
    |_=>cases h2
theorem Ed{i:Nat}(hl:l.length<=top)(hi:i<l.length):cellAt (Tr.fill l 0 .nil) [] i=l[i]? :=by
 unfold cellAt
 rw[Tr.EY _ _ _ _ aF aF,if_pos aF]
 rw[Nat.sub_zero,List.getElem?_eq_getElem hi]
theorem Em(e:TypeId)(rest:List Value)(r:Rel B ρ s.h w)(hf:dH s.nx s1.nx ρ)(h:newRow l s= .ok n s1)(hl:aQ ρ l vs):
    n =s.nx/\s1.nx=s.nx+1/\∃σ,Ext s.nx s1.nx ρ σ/\σ n=some (w.heap.size,vs.length+rest.length)/\
      (Go.newRow e (vs++rest).toArray).run P w= .ok ⟨w.heap.size,0,none⟩ {w with heap:=w.heap.push (.cells (vs++rest).toArray e)}/\
      Rel B σ s1.h {w with heap:=w.heap.push (.cells (vs++rest).toArray e)}:=by
  unfold newRow at h
  obtain⟨q1,q2⟩:=dY h
  obtain⟨q3,q4⟩:=and_true.1 q1
  obtain⟨ht,rfl,rfl⟩:=rL q2
  have h1:∀y∈l,y.ct=true:=fun y hy=>List.all_eq_true.1 q4 y hy
  have h2:l.length<=top:=bH.1 q3
  have hlen:=hl.length
  have kI:ρ s.nx=none:=hf s.nx (Nat.le_refl _) (Nat.lt_succ_self _) aF
  refine⟨rfl,rfl,hY ρ s.nx (w.heap.size,vs.length+rest.length),Ext.sK kI,lE _ _ _,rfl,?_⟩
  refine r.new ht kI rfl ?_
  refine⟨_,e,rfl,by simp,by omega,fun i hi=>?_⟩
  obtain⟨x,hx⟩:∃x,l[i]? =some x:=⟨l[i]'hi,List.getElem?_eq_getElem hi⟩
  obtain⟨v,hv,hr⟩:=hl.get i x hx
  refine⟨x,v,by rw[Ed h2 hi];exact hx,h1 x (List.mem_of_getElem? hx),?_,hr.mono (pL kI)⟩
  simp only[List.getElem?_toArray]
  rw[List.getElem?_append_left aF];exact hv
end Go.Rn
namespace Go.Rn
open Go.RowKit
variable {v:Value} {n off b sh N:Nat} {y a:Operand} {ty e:TypeId} {c:Sem Value}
theorem J3(ρ:Ren){x:AV}(h:yQ v=some x):VR ρ x v:=by
  unfold yQ at h
  split at h<;>first
    |(injection h with h;subst h;simp only[VR];done)
    |(cases h;done)
    |skip
  rename_i len cap
  cases hb:(Nat.beq len 0&&Nat.beq cap 0) with
  |false=>rw[hb] at h;cases h
  | true=>
    rw[hb] at h;injection h with h;subst h
    obtain⟨a,b⟩:=and_true.1 hb
    have a':=fT.1 a;have b':=fT.1 b
    subst a';subst b'
    simp[VR]
theorem Ee(ρ:Ren):∀{l:List Value} {x:List AV},qz l=some x->aQ ρ x l
  |[],x,h=>by simp only[qz] at h;injection h with h;subst h;simp only[aQ]
  | v ::l,x,h=>by
    simp only[qz] at h
    cases e:yQ v with
    |none=>rw[e] at h;cases h
    | some y=>
      simp only[e] at h
      cases e2:qz l with
      |none=>simp only[e2] at h;cases h
      | some r=>
        simp only[e2] at h;injection h with h;subst h
        simp only[aQ];exact⟨v,l,rfl,J3 ρ e,Ee ρ e2⟩
theorem Ef(ρ:Ren){x:AV}(h:ofValue v=some x):VR ρ x v:=by
 unfold ofValue at h
 split at h
 ·rename_i cs
  cases e:qz cs.toList with
  |none=>rw[e] at h;cases h
  |some l=>simp only[e] at h;injection h with h;subst h;simp only[VR];exact⟨cs,rfl,Ee ρ e⟩
 ·rename_i cs
  cases e:qz cs.toList with
  |none=>rw[e] at h;cases h
  |some l=>simp only[e] at h;injection h with h;subst h;simp only[VR];exact⟨cs,rfl,Ee ρ e⟩
 ·exact J3 ρ h
def iJ(ρ:Ren):Prop:=∀g,g<fb->∃N,ρ g=some (g,N)
theorem iJ.mono{ρ σ:Ren}(h:iJ ρ)(l:ρ.le σ):iJ σ:=fun g hg=>let ⟨N,e⟩:=h g hg;⟨N,l _ _ e⟩
theorem BC{ρ:Ren}{nt:Nat}{t:Tr AV}{a:Act}(k:TR ρ nt t a.tmps)(hg:iJ ρ){x:Operand}{v:AV}(h:aR t x=some v):VR ρ v (a.eval x):=by
  cases x with
  | tmp i=>
    exact k.2 i v h
  |const c=>exact Ef ρ h
  | global g=>
    have h': @Bool.rec (fun _=>Option AV) none (some (.ptr (some (g,0)))) (Nat.blt g fb)=some v:=h
    rw[wi] at h'
    by_cases e:g<fb
    · rw[if_pos e] at h';injection h' with h';subst h'
      obtain⟨N,hN⟩:=hg g e
      simp only[VR];exact⟨g,N,hN,rfl⟩
    · rw[if_neg e] at h';cases h'
  | func f=>
    have h':some (AV.func (.func f) [] [])=some v:=h
    injection h' with h';subst h'
    simp only[VR,aQ];exact⟨rfl, #[], #[],rfl,rfl,rfl⟩
theorem vW{ρ:Ren}{ev:Operand->Option AV}{ec:Operand->Value}(he:∀x v,ev x=some v->VR ρ v (ec x)):∀{l:List Operand} {vs:List AV},iv ev l=some vs->aQ ρ vs (l.map ec)
  |[],vs,h=>by simp only[iv] at h;injection h with h;subst h;simp only[aQ,List.map_nil]
  | x ::l,vs,h=>by
    simp only[iv] at h
    cases e:ev x with
    |none=>rw[e] at h;cases h
    | some y=>
      simp only[e] at h
      cases e2:iv ev l with
      |none=>simp only[e2] at h;cases h
      | some r=>
        simp only[e2] at h;injection h with h;subst h
        simp only[aQ,List.map_cons];exact⟨_,_,rfl,he x y e,vW he e2⟩
section
variable {P:Program} {w:World}
theorem bS{t:TypeId}{d:TypeDesc}(h:P.underlying t=some d):(underlying t).run P w= .ok d w:=by
 simp[underlying,h]
theorem oz{t:TypeId}{i:TypeInfo}(h:P.info? t=some i):(typeInfo t).run P w= .ok i w:=by
 simp[typeInfo,h]
theorem eZ{t:TypeId}{k:Nat}(h:dG P t=some k):(sizeOf t).run P w= .ok k w:=by
 unfold dG at h
 cases e:P.info? t with
 |none=>rw[e] at h;cases h
 |some i=>simp only[e] at h;injection h with h;subst h;simp[sizeOf,oz e]
theorem ya(ρ:Ren){t:TypeId}{z:AV}(h:ma P t=some z):∃v,(zeroValue t).run P w= .ok v w/\VR ρ z v:=by
  unfold ma at h
  cases e:P.info? t with
  |none=>rw[e] at h;cases h
  | some i=>
    simp only[e] at h
    cases e2:i.zero with
    |none=>simp only[e2] at h;cases h
    |some v=>simp only[e2] at h;exact⟨v,by simp[zeroValue,oz e,e2],Ef ρ h⟩
theorem tc{t:TypeId}{b:Bool}(h:mU P t=some b):(isAgg t).run P w= .ok b w:=by
 unfold mU at h
 split at h<;>first|(cases h;done)|skip
 ·rename_i fs e;injection h with h;subst h;simp[isAgg,bS e]
 ·rename_i n m e;injection h with h;subst h;simp[isAgg,bS e]
 ·rename_i d h1 h2 e;injection h with h;subst h
  simp only[isAgg,Sem.run_bind,bS e,Result.andThen_ok]
  cases d<;>first|rfl|(exact absurd e (h1 _))|(exact absurd e (h2 _ _))
end
theorem Addr.k9(b o j:Nat):(Addr.mk b o none).add j=⟨b,o+j,none⟩:=by
 unfold Addr.add
 by_cases q:j=0
 ·subst q;simp
 ·rw[if_neg q]
def fB(P:Program)(B:aZ)(ρ:Ren)(s s1:AS)(w:World)(x:AV)(c:Sem Next):Prop:=
 ∃σ w' nv,Ext s.nx s1.nx ρ σ/\c.run P w= .ok nv w'/\(match nv with| .value v=>VR σ x v| .skip=>x=lH|_=>False)/\Rel B σ s1.h w'/\cU B w w'
def hZ(P:Program)(B:aZ)(ρ:Ren)(s s1:AS)(w:World)(x:AV)(c:Sem Value):Prop:=
 ∃σ w' v,Ext s.nx s1.nx ρ σ/\c.run P w= .ok v w'/\VR σ x v/\Rel B σ s1.h w'/\cU B w w'
theorem hZ.op{P:Program}{B:aZ}{ρ:Ren}{s s1:AS}{w:World}{x:AV}(h:hZ P B ρ s s1 w x c):fB P B ρ s s1 w x (do pure (.value (←c))):=by
 obtain⟨σ,w',v,a,b,d,e,f⟩:=h
 exact⟨σ,w',.value v,a,by simp[b],d,e,f⟩
theorem hZ.same{P:Program}{B:aZ}{ρ:Ren}{s s1:AS}{w:World}{x:AV}(hh:s1.h=s.h)(r:Rel B ρ s.h w)(hc:c.run P w= .ok v w)(hv:VR ρ x v):hZ P B ρ s s1 w x c:=
 ⟨ρ,w,v,Ext.refl _ _ _,hc,hv,by rw[hh];exact r,cU.refl _ _⟩
section
variable {P:Program} {B:aZ} {ρ:Ren} {w:World} {s s1:AS}
theorem JM{t:TypeId}{x:AV}(fi:bY s)(r:Rel B ρ s.h w)(h:loadVar P t n off s= .ok x s1)(hn:ρ n=some (b,N)):
    s1.h=s.h/\s1.nx=s.nx/\∃v,(Go.loadVar t ⟨b,off,none⟩).run P w= .ok v w/\VR ρ x v:=by
  unfold loadVar at h
  obtain⟨ag,h1,h2⟩:=ch h
  cases ag with
  | true=>
    obtain⟨k,h3,h4⟩:=ch h2
    obtain⟨l,s2,h5,h6⟩:=M.bG h4
    obtain⟨rfl,rfl⟩:=bW h6
    obtain⟨a1,a2,a3,a4,vs,a5,a6,_⟩:=rD (P:=P) fi r h5 hn
    refine⟨a1,a2,.agg vs.toArray,?_,?_⟩
    · simp[Go.loadVar,tc h1,eZ h3,a5]
    · simp only[VR];exact⟨_,rfl,by simpa using a6⟩
  | false=>
    obtain⟨l,s2,h5,h6⟩:=M.bG h2
    obtain⟨q,rfl⟩:=gq h6
    obtain⟨a1,a2,a3,a4,vs,a5,a6,a7⟩:=rD (P:=P) fi r h5 hn
    unfold one at q
    split at q
    · rename_i y
      injection q with q;subst q
      simp only[aQ] at a6
      obtain⟨v,ys,rfl,hv,rfl⟩:=a6
      have hc:=a7 0 v rfl
      refine⟨a1,a2,v,?_,hv⟩
      simp only[Go.loadVar,Sem.run_bind,tc h1,Result.andThen_ok]
      simp[show w.cell? ⟨b,off,none⟩=some v from by simpa using hc]
    · cases q
theorem Re{t:TypeId}{x:AV}(fi:bY s)(r:Rel B ρ s.h w)(h:qA P t n off s= .ok x s1)(hn:ρ n=some (b,sh)):
    s1.h=s.h/\s1.nx=s.nx/\∃v,(Go.loadVar t ⟨b,sh+off,none⟩).run P w= .ok v w/\VR ρ x v:=by
  unfold qA at h
  obtain⟨ag,h1,h2⟩:=ch h
  cases ag with
  |true=>cases h2
  | false=>
    obtain⟨ob,s2,h3,h4⟩:=M.bG h2
    obtain⟨hx,hg,hh,dv⟩:=j0 h3
    have ht:n<top:=Nat.lt_of_lt_of_le hx fi.nx
    obtain⟨o',hb,hO,_⟩:=r.block ht hg hn
    cases ob with
    | pR m tr=>
      obtain⟨q1,q2⟩:=dY h4
      obtain⟨q3,rfl⟩:=gq q2
      have cQ:off<m:=by rw[←blt_eq];exact q1
      obtain⟨c,e,fr,rfl,row⟩:=hO
      obtain⟨y,v,g1,g2,g3,g4⟩:=row off cQ
      rw[q3] at g1;injection g1 with g1;subst g1
      refine⟨hh,dv,v,?_,g4⟩
      have hc:w.cell? ⟨b,sh+off,none⟩=some v:=by simp only[World.cell?,hb];exact g3
      simp only[Go.loadVar,Sem.run_bind,tc h1,Result.andThen_ok]
      simp[hc]
    |_=>cases h4
def tQ(B:aZ)(call:bf):Prop:=∀(n o k:Nat) (x:AV) (s s1:AS) (ρ:Ren) (w:World),bY s->Rel B ρ s.h w->call (.row n o k) [] s= .ok x s1->s1.h=s.h/\s1.nx=s.nx/\
 ∀b sh,ρ (hn n b sh)≠none->∃l vs,x= .agg l/\vs.length=k/\aQ ρ l vs/\∃c e fr,w.heap[b]? =some (.cells c e fr)/\∀(j:Nat) (v:Value),vs[j]? =some v->c[sh+o+j]? =some v
theorem Rw{t:TypeId}{x:AV}{call:bf}(cF:tQ B call)(fi:bY s)(r:Rel B ρ s.h w)(h:pM P t call n off s= .ok x s1)(hn:ρ (hn n b sh)≠none):
    s1.h=s.h/\s1.nx=s.nx/\∃v,(Go.loadVar t ⟨b,sh+off,none⟩).run P w= .ok v w/\VR ρ x v:=by
  unfold pM at h
  obtain⟨ag,h1,h2⟩:=ch h
  obtain⟨k,h3,h4⟩:=ch h2
  obtain⟨y,s2,h5,h6⟩:=M.bG h4
  obtain⟨a1,a2,cF⟩:=cF _ _ _ _ _ _ _ _ fi r h5
  obtain⟨l,vs,rfl,a3,a5,c,e,fr,a6,a7⟩:=cF b sh hn
  have iG:∀(j:Nat) (v:Value),vs[j]? =some v->w.cell? ⟨b,sh+off+j,none⟩=some v:=fun j v hj=>by
    simp only[World.cell?,a6];exact a7 j v hj
  cases ag with
  | true=>
    obtain⟨rfl,rfl⟩:=bW h6
    have y4:=Bj (P:=P) (w:=w) a6 a7
    rw[a3] at y4
    refine⟨a1,a2,.agg vs.toArray,?_,?_⟩
    · simp[Go.loadVar,tc h1,eZ h3,y4]
    · simp only[VR];exact⟨_,rfl,by simpa using a5⟩
  | false=>
    obtain⟨q,rfl⟩:=gq h6
    unfold one at q
    split at q
    · rename_i y
      injection q with q;subst q
      simp only[aQ] at a5
      obtain⟨v,ys,rfl,hv,rfl⟩:=a5
      have hc:=iG 0 v rfl
      refine⟨a1,a2,v,?_,hv⟩
      simp only[Go.loadVar,Sem.run_bind,tc h1,Result.andThen_ok]
      simp[show w.cell? ⟨b,sh+off,none⟩=some v from by simpa using hc]
    · cases q
theorem Q0{t:TypeId}{x:AV}{u:Unit}(fi:bY s)(r:Rel B ρ s.h w)(h:storeVar P t n off x s= .ok u s1)(hn:ρ n=some (b,N))(hv:VR ρ x v):
  s1.nx=s.nx/\∃w',(Go.storeVar t ⟨b,off,none⟩ v).run P w= .ok () w'/\Rel B ρ s1.h w'/\cU B w w':=by
 unfold storeVar at h
 obtain⟨k,h1,h2⟩:=ch h
 obtain⟨h3,h4⟩:=dY h2
 obtain⟨a1,w',a2,a3,a4⟩:=AT (P:=P) fi r h4 hn hv.cells
 refine⟨a1,w',?_,a3,a4⟩
 have hk:v.cells.size=k:=by
  have:=hv.cells.length
  rw[fT.1 h3] at this;simpa using this.symm
 simp[Go.storeVar,eZ h1,hk,a2]
theorem J4{x:AV}(e:TypeId)(r:Rel B ρ s.h w)(hf:dH s.nx s1.nx ρ)(h:newRow x.cells s= .ok n s1)(hv:VR ρ x v):
  ∃σ w' b N,Ext s.nx s1.nx ρ σ/\(Go.newVar e v).run P w= .ok ⟨b,0,none⟩ w'/\σ n=some (b,N)/\Rel B σ s1.h w'/\cU B w w':=by
 obtain⟨rfl,h1,σ,h2,h3,h4,h5⟩:=Em (P:=P) e [] r hf h hv.cells
 refine⟨σ,_,_,_,h2,?_,h3,h5,(gh.alloc w _).below r.size⟩
 have:(v.cells.toList++[]).toArray=v.cells:=by simp
 rw[this] at h4 ⊢
 exact h4
end
theorem VR.yA{ρ:Ren}{x:AV}{i:Int}(h:VR ρ x v)(hi:intOf x=some i):∃k,x= .int k i/\v= .int k i:=by
 cases x<;>simp only[intOf] at hi<;>first|(cases hi;done)|skip
 rename_i k n
 injection hi with hi;subst hi
 simp only[VR] at h;exact⟨k,rfl,h⟩
theorem VR.Ld{ρ:Ren}{x:AV}{b:Bool}(h:VR ρ x v)(hi:tO x=some b):v= .bool b:=by
 cases x<;>simp only[tO] at hi<;>first|(cases hi;done)|skip
 injection hi with hi;subst hi
 simp only[VR] at h;exact h
theorem VR.E1{ρ:Ren}{x:AV}{a:Nat×Nat}(h:VR ρ x v)(hi:addrOf x=some a):∃b N,ρ a.1=some (b,N)/\v= .pointer (some ⟨b,a.2,none⟩):=by
 unfold addrOf at hi
 split at hi
 ·injection hi with hi;subst hi
  rename_i a
  obtain⟨n,o⟩:=a
  simp only[VR] at h;exact h
 ·cases hi
section
variable {P:Program} {B:aZ} {ρ:Ren} {w:World} {s s1:AS} {x:AV} {call:bf} {t:Tr AV} {ev:Operand->Value} {o:Oper}
theorem Ky(he:∀x v,aR t x=some v->VR ρ v (ev x))(r:Rel B ρ s.h w)(h:pT y call t s= .ok x s1)(ho:o.op= .move y\/o.op= .assign y):fB P B ρ s s1 w x (execOp ev o):=by
 obtain⟨h1,rfl⟩:=gq (show lift (aR t y) s= .ok x s1 from h)
 refine⟨ρ,w,.value (ev y),Ext.refl _ _ _,?_,he y x h1,r,cU.refl _ _⟩
 rcases ho with ho|ho<;>simp[execOp,ho]
theorem Ss{c b:Operand}(he:∀x v,aR t x=some v->VR ρ v (ev x))(r:Rel B ρ s.h w)(h:tY c a b call t s= .ok x s1)(ho:o.op= .pick c a b):fB P B ρ s s1 w x (execOp ev o):=by
  unfold tY at h
  obtain⟨v,h1,h2⟩:=ch h
  obtain⟨q,h3,h4⟩:=ch h2
  obtain⟨va,h5,h6⟩:=ch h4
  obtain⟨vb,h7,h8⟩:=ch h6
  have hc:=(he c v h1).Ld h3
  cases q with
  | true=>
    obtain⟨rfl,rfl⟩:=bW h8
    exact⟨ρ,w,.value (ev a),Ext.refl _ _ _,by simp[execOp,ho,hc,asBool],he a _ h5,r,cU.refl _ _⟩
  | false=>
    obtain⟨rfl,rfl⟩:=bW h8
    exact⟨ρ,w,.value (ev b),Ext.refl _ _ _,by simp[execOp,ho,hc,asBool],he b _ h7,r,cU.refl _ _⟩
theorem Rx(r:Rel B ρ s.h w)(hf:dH s.nx s1.nx ρ)(h:BS P e call t s= .ok x s1)(ho:o.op= .alloc e):fB P B ρ s s1 w x (execOp ev o):=by
 unfold BS at h
 obtain⟨z,h1,h2⟩:=ch h
 obtain⟨n,s2,h3,h4⟩:=M.bG h2
 obtain⟨rfl,rfl⟩:=bW h4
 obtain⟨v,h5,h6⟩:=ya (P:=P) (w:=w) ρ h1
 obtain⟨σ,w',b,N,a1,a2,a3,a4,a5⟩:=J4 (P:=P) e r hf h3 h6
 refine⟨σ,w',.value (.pointer (some ⟨b,0,none⟩)),a1,?_,?_,a4,a5⟩
 ·simp[execOp,ho,Instr.alloc,h5,a2]
 ·simp only[VR];exact⟨b,N,a3,rfl⟩
theorem Tt(he:∀x v,aR t x=some v->VR ρ v (ev x))(r:Rel B ρ s.h w)(hf:dH s.nx s1.nx ρ)(h:uh y call t s= .ok x s1)(ho:o.op= .box e y):fB P B ρ s s1 w x (execOp ev o):=by
 unfold uh at h
 obtain⟨z,h1,h2⟩:=ch h
 obtain⟨n,s2,h3,h4⟩:=M.bG h2
 obtain⟨rfl,rfl⟩:=bW h4
 obtain⟨σ,w',b,N,a1,a2,a3,a4,a5⟩:=J4 (P:=P) e r hf h3 (he y z h1)
 refine⟨σ,w',.value (.pointer (some ⟨b,0,none⟩)),a1,?_,?_,a4,a5⟩
 ·simp[execOp,ho,Instr.box,a2]
 ·simp only[VR];exact⟨b,N,a3,rfl⟩
theorem St(cF:tQ B call)(he:∀x v,aR t x=some v->VR ρ v (ev x))(fi:bY s)(r:Rel B ρ s.h w)(h:o5 P ty a call t s= .ok x s1)(ho:o.op= .load ty a):fB P B ρ s s1 w x (execOp ev o):=by
 unfold o5 at h
 obtain⟨v,h1,h2⟩:=ch h
 unfold loadAt at h2
 split at h2
 ·rename_i n q
  have hv:=he a _ h1
  simp only[VR] at hv
  obtain⟨b,sh,h5,h6⟩:=hv
  have main:s1.h=s.h/\s1.nx=s.nx/\∃v,(Go.loadVar ty ⟨b,sh+q,none⟩).run P w= .ok v w/\VR ρ x v:=by
   cases hb:Nat.ble top n with
   |true=>rw[hb] at h2;exact Rw cF fi r h2 (h5.high (bH.1 hb))
   |false=>rw[hb] at h2;exact Re (P:=P) fi r h2 (h5.low fun q=>by rw[bH.2 q] at hb;cases hb)
  obtain⟨a1,a2,u,a3,a4⟩:=main
  refine⟨ρ,w,.value u,Ext.refl _ _ _,?_,a4,by rw[a1];exact r,cU.refl _ _⟩
  simp[execOp,ho,Instr.loadAt,Instr.sureAddr,h6,a3]
 ·obtain⟨ad,h3,h4⟩:=ch h2
  obtain⟨b,N,h5,h6⟩:=(he a v h1).E1 h3
  obtain⟨a1,a2,u,a3,a4⟩:=JM (P:=P) fi r h4 h5
  refine⟨ρ,w,.value u,Ext.refl _ _ _,?_,a4,by rw[a1];exact r,cU.refl _ _⟩
  simp[execOp,ho,Instr.loadAt,Instr.sureAddr,h6,a3]
theorem Ry(he:∀x v,aR t x=some v->VR ρ v (ev x))(fi:bY s)(r:Rel B ρ s.h w)(h:qG P ty a y call t s= .ok x s1)(ho:o.op= .store ty a y):fB P B ρ s s1 w x (execOp ev o):=by
 unfold qG at h
 obtain⟨v,h1,h2⟩:=ch h
 obtain⟨ad,h3,h4⟩:=ch h2
 obtain⟨z,h5,h6⟩:=ch h4
 obtain⟨u,s2,h7,h8⟩:=M.bG h6
 obtain⟨rfl,rfl⟩:=bW h8
 obtain⟨b,N,h9,eA⟩:=(he a v h1).E1 h3
 obtain⟨a1,w',a2,a3,a4⟩:=Q0 (P:=P) fi r h7 h9 (he y z h5)
 refine⟨ρ,w',.skip,Ext.refl _ _ _,?_,rfl,a3,a4⟩
 simp[execOp,ho,Instr.storeAt,Instr.sureAddr,eA,a2]
theorem QP(he:∀x v,aR t x=some v->VR ρ v (ev x))(r:Rel B ρ s.h w)(h:ti y call t s= .ok x s1)(ho:o.op= .nilCheck y):fB P B ρ s s1 w x (execOp ev o):=by
  unfold ti at h
  obtain⟨v,h1,h2⟩:=ch h
  obtain⟨h3,h4⟩:=dY h2
  obtain⟨rfl,rfl⟩:=bW h4
  have hv:=he y _ h1
  refine⟨ρ,w,.value (ev y),Ext.refl _ _ _,?_,hv,r,cU.refl _ _⟩
  simp only[execOp,ho]
  generalize ev y=v at hv
  cases x<;>(try simp only[VR] at hv)<;>(try (subst hv;first|(simp[notNil] at h3;done)|rfl))
  case ptr a=>
    cases a with
    |none=>simp[notNil] at h3
    |some a=>obtain⟨n,q⟩:=a;simp only[VR] at hv;obtain⟨_,_,_,rfl⟩:=hv;rfl
  case ae n o l=>rcases hv with⟨_,_,_,_,rfl⟩|⟨_,_,_,_,rfl,_⟩<;>rfl
  case kc n o=>obtain⟨_,_,_,rfl⟩:=hv;rfl
  case slice a len cap=>
    have:∃p q r,v= .slice p q r:=by
      cases a with
      |none=>cases cap<;>simp only[VR] at hv;exact⟨_,_,_,hv.1⟩
      | some a=>
        obtain⟨n,q⟩:=a
        cases cap<;>simp only[VR] at hv
        · obtain⟨_,_,_,rfl⟩:=hv;exact⟨_,_,_,rfl⟩
        · obtain⟨_,_,_,_,rfl,_⟩:=hv;exact⟨_,_,_,rfl⟩
        · obtain⟨_,_,_,_,_,_,rfl⟩:=hv;exact⟨_,_,_,rfl⟩
    obtain⟨_,_,_,rfl⟩:=this;rfl
  case map a=>
    cases a with
    |none=>simp only[VR] at hv;subst hv;rfl
    |some a=>simp only[VR] at hv;obtain⟨_,_,_,rfl⟩:=hv;rfl
  case func fn f c=>
    obtain⟨_,_,_,rfl,_⟩:=hv
    cases fn<;>first|rfl|(simp[notNil] at h3)
  case yield l=>obtain⟨_,_,_,rfl⟩:=hv;rfl
  case iface ty y=>obtain⟨_,rfl,_⟩:=hv;rfl
  case agg l=>obtain⟨_,rfl,_⟩:=hv;rfl
  case tuple l=>obtain⟨_,rfl,_⟩:=hv;rfl
end
end Go.Rn
namespace Go.Rn
open Go.RowKit
variable {ty:TypeId} {vs:List Value} {ps:List (Nat×AV)} {parts:Array (Nat×Operand)}
theorem aQ.set{ρ:Ren}:∀{x:List AV} {v:List Value} {i:Nat} {a:AV} {b:Value},aQ ρ x v->VR ρ a b->aQ ρ (x.set i a) (v.set i b)
  |[],_,_,_,_,h,_=>by simp only[aQ] at h;subst h;simp[aQ]
  | y::ys,_,0,_,_,h,k=>by
    simp only[aQ] at h;obtain⟨z,zs,rfl,p,q⟩:=h
    simp only[List.set_cons_zero,aQ];exact⟨_,_,rfl,k,q⟩
  | y::ys,_,i+1,_,_,h,k=>by
    simp only[aQ] at h;obtain⟨z,zs,rfl,p,q⟩:=h
    simp only[List.set_cons_succ,aQ];exact⟨_,_,rfl,p,q.set k⟩
def zt:List Value->List Value->Nat->List Value
 |cs,[],_=>cs
 |cs,c::l,off=>zt (cs.set off c) l (off+1)
theorem Jv{ρ:Ren}:∀{l:List AV} {vs:List Value} {cs:List AV} {ds:List Value} {off:Nat},aQ ρ l vs->aQ ρ cs ds->aQ ρ (setCells cs l off) (zt ds vs off)
  |[],_,_,_,_,h,k=>by simp only[aQ] at h;subst h;exact k
  | x::l,_,cs,ds,off,h,k=>by
    simp only[aQ] at h;obtain⟨y,ys,rfl,p,q⟩:=h
    show aQ ρ (setCells (cs.set off x) l (off+1)) (zt (ds.set off y) ys (off+1))
    exact Jv (l:=l) q (k.set p)
theorem Kz(off:Nat):∀(l:List Value) (k:Nat) (cs:Array Value),
    ((l.zipIdx k).foldl (fun(cs:Array Value) (x:Value×Nat)=>cs.setIfInBounds (off+x.2) x.1) cs).toList=zt cs.toList l (off+k)
  |[],k,cs=>rfl
  | c::l,k,cs=>by
    simp only[List.zipIdx_cons,List.foldl_cons,zt]
    rw[Kz off l (k+1) _]
    simp[Nat.add_assoc]
def qf(ρ:Ren):List (Nat×AV)->List (Nat×Value)->Prop
 |[],l=>l=[]
 |x::xs,l=>∃y ys,l=y::ys/\x.1=y.1/\VR ρ x.2 y.2/\qf ρ xs ys
theorem EF{ρ:Ren}{ev:Operand->Option AV}{ec:Operand->Value}(he:∀x v,ev x=some v->VR ρ v (ec x)):∀{l:List (Nat×Operand)} {vs:List (Nat×AV)},pS ev l=some vs->qf ρ vs (l.map fun(i,x)=>(i,ec x))
  |[],vs,h=>by simp only[pS] at h;injection h with h;subst h;simp only[qf,List.map_nil]
  | (i, x)::l,vs,h=>by
    simp only[pS] at h
    cases e:ev x with
    |none=>rw[e] at h;cases h
    | some y=>
      simp only[e] at h
      cases e2:pS ev l with
      |none=>simp only[e2] at h;cases h
      | some r=>
        simp only[e2] at h;injection h with h;subst h
        simp only[qf,List.map_cons];exact⟨_,_,rfl,rfl,he x y e,EF he e2⟩
theorem Bk{ρ:Ren}{place:Nat->Option (Nat×Nat)}:∀{ps:List (Nat×AV)} {qs:List (Nat×Value)} {cs l:List AV} {ds:Array Value},qf ρ ps qs->aQ ρ cs ds.toList->qE place cs ps=some l->
    ∃es,Instr.fill place ds qs=some es/\aQ ρ l es.toList
  | [],qs,cs,l,ds,h,k,e=>by
    simp only[qf] at h;subst h
    simp only[qE] at e;injection e with e;subst e
    exact⟨ds,rfl,k⟩
  | (i, v)::ps,qs,cs,l,ds,h,k,e=>by
    simp only[qf] at h
    obtain⟨⟨i',v'⟩,ys,rfl,hi,hv,hr⟩:=h
    simp only at hi hv;subst hi
    simp only[qE] at e
    cases e1:place i with
    |none=>simp only[e1] at e;cases e
    | some p=>
      obtain⟨off,size⟩:=p
      simp only[e1] at e
      cases e2:(Nat.beq v.cells.length size&&Nat.ble (off+v.cells.length) cs.length) with
      |false=>simp only[e2] at e;cases e
      | true=>
        simp only[e2] at e
        obtain⟨a,b⟩:=and_true.1 e2
        have a:=fT.1 a;have b:=bH.1 b
        have hc:=hv.cells
        have l1:=hc.length
        have l2:=k.length
        simp only[Array.length_toList] at l1 l2
        have GV:aQ ρ (setCells cs v.cells off) (v'.cells.zipIdx.foldl (fun(cs:Array Value) (x:Value×Nat)=>cs.setIfInBounds (off+x.2) x.1) ds).toList:=by
          rw[←Array.foldl_toList,Array.toList_zipIdx,Kz off _ 0 ds]
          exact Jv hc k
        obtain⟨es,g1,g2⟩:=Bk hr GV e
        refine⟨es,?_,g2⟩
        simp only[Instr.fill,e1]
        rw[if_neg qd]
        exact g1
theorem JN{P:Program}:∀{fs:List Field} {pl:List (Nat×Nat)},tA P fs=some pl->fs.mapM (fun f=>(P.info? f.type).map fun i=>(f.offset,i.size))=some pl
  |[],pl,h=>by simp only[tA] at h;injection h with h;subst h;rfl
  | f ::fs,pl,h=>by
    simp only[tA,dG] at h
    cases e:P.info? f.type with
    |none=>simp only[e] at h;cases h
    | some i=>
      simp only[e] at h
      cases e2:tA P fs with
      |none=>simp only[e2] at h;cases h
      | some r=>
        simp only[e2] at h;injection h with h;subst h
        simp[List.mapM_cons,e,JN e2]
theorem Rz{P:Program}(ρ:Ren){t:TypeId}{z:AV}(h:ma P t=some z):∃i v,P.info? t=some i/\i.zero=some v/\VR ρ z v:=by
  unfold ma at h
  cases e:P.info? t with
  |none=>rw[e] at h;cases h
  | some i=>
    simp only[e] at h
    cases e2:i.zero with
    |none=>simp only[e2] at h;cases h
    |some v=>simp only[e2] at h;exact⟨i,v,rfl,e2,Ef ρ h⟩
section
variable {P:Program} {B:aZ} {ρ:Ren} {w:World} {s s1:AS} {x:AV} {call:bf} {t:Tr AV} {ev:Operand->Value} {o:Oper}
theorem Su{qs :List (Nat×Value)}(hp:qf ρ ps qs)(h:build P ty ps=some x):∃cells,P.built ty qs=some cells/\VR ρ x (.agg cells):=by
  unfold build at h
  cases ez:ma P ty with
  |none=>simp only[ez] at h;cases h
  | some z=>
    obtain⟨i,v,h1,h2,h3⟩:=Rz ρ ez
    simp only[ez] at h
    cases eu:P.underlying ty with
    |none=>simp only[eu] at h;cases h
    | some d=>
      cases d<;>simp only[eu] at h<;>first|(cases h;done)|skip
      case array n e=>
        cases ek:dG P e with
        |none=>simp only[ek] at h;cases h
        | some k=>
          simp only[ek] at h
          cases ef:qE (fun i=>some (i*k,k)) z.cells ps with
          |none=>simp only[ef] at h;cases h
          | some l=>
            simp only[ef] at h;injection h with h;subst h
            obtain⟨es,g1,g2⟩:=Bk hp h3.cells ef
            unfold dG at ek
            cases ei:P.info? e with
            |none=>rw[ei] at ek;cases ek
            | some ie=>
              simp only[ei] at ek;injection ek with ek;subst ek
              refine⟨es,?_,by simp only[VR];exact⟨_,rfl,g2⟩⟩
              simp only[Program.built,h1,eu,h2,ei];exact g1
      case struct fs=>
        cases ek:tA P fs.toList with
        |none=>simp only[ek] at h;cases h
        | some pl=>
          simp only[ek] at h
          cases ef:qE (fun i=>pl[i]?) z.cells ps with
          |none=>simp only[ef] at h;cases h
          | some l=>
            simp only[ef] at h;injection h with h;subst h
            obtain⟨es,g1,g2⟩:=Bk hp h3.cells ef
            refine⟨es,?_,by simp only[VR];exact⟨_,rfl,g2⟩⟩
            simp only[Program.built,h1,eu,h2,JN ek]
            simpa using g1
theorem RA(he:∀x v,aR t x=some v->VR ρ v (ev x))(r:Rel B ρ s.h w)(h:tP P ty parts.toList call t s= .ok x s1)(ho:o.op= .build ty parts):fB P B ρ s s1 w x (execOp ev o):=by
 unfold tP at h
 obtain⟨ps,h1,h2⟩:=ch h
 obtain⟨h3,rfl⟩:=gq h2
 have hp:=EF he h1
 obtain⟨cells,g1,g2⟩:=Su (P:=P) hp h3
 refine⟨ρ,w,.value (.agg cells),Ext.refl _ _ _,?_,g2,r,cU.refl _ _⟩
 have uW:P.built ty (parts.map fun(i,x)=>(i,ev x)).toList=some cells:=by rw[Array.toList_map];exact g1
 simp only[execOp,ho,Sem.run_bind,run_build w ty _ cells uW,Result.andThen_ok]
 rfl
theorem D5{z:List AV}(h:aQ ρ z vs):∀n,aQ ρ (vT n z) (List.replicate n vs).flatten
 |0=>by simp[vT,aQ]
 |n+1=>by simp only[vT,List.replicate_succ,List.flatten_cons];exact h.append (D5 h n)
theorem J5:∀(n i:Nat),i<n*vs.length->(List.replicate n vs).flatten[i]? =vs[i % vs.length]?
  |0,i,h=>by omega
  | n +1,i,h=>by
    rw[List.replicate_succ,List.flatten_cons]
    by_cases q:i<vs.length
    · rw[List.getElem?_append_left q,Nat.mod_eq_of_lt q]
    · have hs:(n+1)*vs.length=n*vs.length+vs.length:=by rw[Nat.succ_mul]
      rw[List.getElem?_append_right aF,J5 n _ aF]
      rw[←Nat.mod_eq_sub_mod aF]
theorem J6{zs:Array Value}{n:Nat}:(Array.range (n*zs.size)).map (fun i=>zs[i % zs.size]!)=(List.replicate n zs.toList).flatten.toArray:=by
 apply Array.ext_getElem?
 intro i
 have hlen:(List.replicate n zs.toList).flatten.length=n*zs.size:=by simp
 by_cases q:i<n*zs.size
 ·have hz:0<zs.size:=by
   rcases Nat.eq_zero_or_pos zs.size with h0|h0
   ·rw[h0] at q;omega
   ·exact h0
  have hm:i % zs.size<zs.size:=Nat.mod_lt _ hz
  have hr:(List.replicate n zs.toList).flatten.toArray[i]? =zs.toList[i % zs.toList.length]? :=by
   rw[List.getElem?_toArray];exact J5 n i (by rw[Array.length_toList];exact q)
  rw[hr]
  simp[q,getElem!_pos zs (i % zs.size) hm,Array.getElem?_eq_getElem hm]
 ·have hr:(List.replicate n zs.toList).flatten.toArray[i]? =none:=by
   rw[List.getElem?_toArray];exact List.getElem?_eq_none (by rw[hlen];omega)
  rw[hr,Array.getElem?_eq_none qd]
theorem QI{len:Nat}{qs:Array (Nat×Value)}(hp:qf ρ ps qs.toList)(r:Rel B ρ s.h w)(hf:dH s.nx s1.nx ρ)(h:buildSlice P ty len ps s= .ok x s1):
    hZ P B ρ s s1 w x (Instr.buildSlice ty len qs):=by
  unfold buildSlice at h
  cases eu:P.underlying ty with
  |none=>simp only[eu] at h;cases h
  | some d=>
    cases d<;>simp only[eu] at h<;>first|(cases h;done)|skip
    rename_i e
    simp only[bind_eq,U3] at h
    obtain⟨k,s2,h1,h2⟩:=M.bG h
    obtain⟨gX,rfl⟩:=gq h1
    obtain⟨z,s3,h3,h4⟩:=M.bG h2
    obtain⟨Ii,rfl⟩:=gq h3
    obtain⟨u,s4,h5,h6⟩:=M.bG h4
    have Ij:(Nat.ble (len*k) 1048576&&Nat.beq z.cells.length k)=true/\s4=s3:=by
      cases hb:(Nat.ble (len*k) 1048576&&Nat.beq z.cells.length k) with
      |false=>rw[hb] at h5;cases h5
      |true=>rw[hb] at h5;cases h5;exact⟨rfl,rfl⟩
    obtain⟨Ij,rfl⟩:=Ij
    obtain⟨l,s5,h7,h8⟩:=M.bG h6
    obtain⟨Dh,rfl⟩:=gq h7
    obtain⟨n,s6,h9,eA⟩:=M.bG h8
    obtain⟨rfl,rfl⟩:=bW eA
    obtain⟨a,b⟩:=and_true.1 Ij
    have a:=bH.1 a;have b:=fT.1 b
    obtain⟨vz,g1,g2⟩:=ya (P:=P) (w:=w) ρ Ii
    have hlen:=g2.cells.length
    simp only[Array.length_toList] at hlen
    have mJ:(Array.range (len*k)).map (fun i=>(if len*k=0 then(#[]:Array Value) else vz.cells)[i % (if len*k=0 then(#[]:Array Value) else vz.cells).size]!)=(List.replicate len vz.cells.toList).flatten.toArray:=by
      by_cases q:len*k=0
      · rw[q]
        have:(List.replicate len vz.cells.toList).flatten=[]:=by
          apply List.length_eq_zero_iff.1
          have e1:(List.replicate len vz.cells.toList).flatten.length=len*vz.cells.size:=by simp
          rw[e1, ←hlen,b];exact q
        simp[this]
      · simp only[if_neg q]
        have:k=vz.cells.size:=by omega
        subst this
        exact J6
    obtain⟨es,f1,f2⟩:=Bk (ds:=(List.replicate len vz.cells.toList).flatten.toArray) hp (by simpa using D5 g2.cells len) Dh
    obtain⟨rfl,n1,σ,e1,e2,e3,e4⟩:=Em (P:=P) e [] r hf h9 f2
    refine⟨σ,_,.slice (some ⟨w.heap.size,0,none⟩) len len,e1,?_,?_,e4,(gh.alloc w _).below r.size⟩
    · have hes:(es.toList++[]).toArray=es:=by simp
      rw[hes] at e3 e4 ⊢
      have Ik:¬(len*k>2 ^ 24):=by omega
      simp only[Instr.buildSlice,Sem.run_bind,bS eu,Result.andThen_ok,eZ gX]
      rw[if_neg Ik]
      by_cases q:len*k=0
      · rw[if_pos q]
        simp only[if_pos q] at mJ
        simp only[Sem.run_bind,Sem.run_pure,Result.andThen_ok,mJ,f1,e3]
      · rw[if_neg q]
        simp only[if_neg q] at mJ
        simp only[Sem.run_bind,Sem.run_pure,Result.andThen_ok,g1,mJ,f1,e3]
    · simp only[VR];exact⟨_,_,e2,rfl⟩
theorem QH{len:Nat}(he:∀x v,aR t x=some v->VR ρ v (ev x))(r:Rel B ρ s.h w)(hf:dH s.nx s1.nx ρ)(h:td P ty len parts.toList call t s= .ok x s1)(ho:o.op= .buildSlice ty len parts):fB P B ρ s s1 w x (execOp ev o):=by
 unfold td at h
 obtain⟨ps,h1,h2⟩:=ch h
 have hp:qf ρ ps (parts.map fun(i,x)=>(i,ev x)).toList:=by rw[Array.toList_map];exact EF he h1
 have:=(QI (P:=P) hp r hf h2).op
 simpa only[execOp,ho] using this
end
end Go.Rn
namespace Go.Rn
open Go.RowKit
variable {ds cs:Array Value} {ys xs:List AV} {ty:TypeId} {eq:TypeId->AV->AV->Option Bool} {d:Nat}
section
variable {P:Program} {B:aZ} {ρ:Ren} {w:World} {s s1:AS} {x:AV} {call:bf} {t:Tr AV} {ev:Operand->Value} {o:Oper}
theorem yj{cs:List AV}{off:Nat}(hc:aQ ρ cs ds.toList)(h:j9 P ty cs off=some x):∃v,(part ty ds off).run P w= .ok v w/\VR ρ x v:=by
  unfold j9 at h
  cases ea:mU P ty with
  |none=>simp only[ea] at h;cases h
  | some b=>
    simp only[ea] at h
    cases b with
    | true=>
      cases ek:dG P ty with
      |none=>simp only[ek] at h;cases h
      | some k=>
        simp only[ek] at h;injection h with h;subst h
        refine⟨.agg (ds.extract off (off+k)),?_,?_⟩
        · simp[part,tc ea,eZ ek]
        · simp only[VR]
          refine⟨_,rfl,?_⟩
          have:(ds.extract off (off+k)).toList=(ds.toList.drop off).take k:=by simp[List.extract]
          rw[this];exact(hc.drop off).take k
    | false=>
      obtain⟨v,hv,hr⟩:=hc.get off x h
      refine⟨v,?_,hr⟩
      have n5:ds[off]? =some v:=by simpa using hv
      simp[part,tc ea,n5]
theorem bytes_beq(a b:ByteArray):(a == b)=(a.toList == b.toList):=beq_toListBytes a b
theorem D6(he:∀ty a b c v u,eq ty a b=some c->VR ρ a v->VR ρ b u->(Op.equalIn d ty v u).run P w= .ok c w)(hx:aQ ρ xs cs.toList)(hy:aQ ρ ys ds.toList):∀{fs:List Field} {b:Bool},eqFields P eq xs ys fs=some b->(Op.eqFields d cs ds fs).run P w= .ok b w
  |[],b,h=>by simp only[eqFields] at h;injection h with h;subst h;rfl
  | f ::fs,b,h=>by
    simp only[eqFields] at h
    cases en:(f.name == "_") with
    | true=>
      simp only[en] at h
      have:¬(f.name≠ "_"):=by simpa using en
      rw[Op.eqFields,if_neg this]
      exact D6 he hx hy h
    | false =>
      simp only[en] at h
      have fD:f.name≠ "_" :=by intro e;rw[e] at en;simp at en
      rw[Op.eqFields,if_pos fD]
      cases e1:j9 P f.type xs f.offset with
      |none=>simp only[e1] at h;cases h
      | some a=>
        cases e2:j9 P f.type ys f.offset with
        |none=>simp only[e1,e2] at h;cases h
        | some c=>
          simp only[e1,e2] at h
          obtain⟨v,g1,g2⟩:=yj (w:=w) hx e1
          obtain⟨u,g3,g4⟩:=yj (w:=w) hy e2
          cases e3:eq f.type a c with
          |none=>simp only[e3] at h;cases h
          | some q=>
            simp only[e3] at h
            have g5:=he _ _ _ _ _ _ e3 g2 g4
            cases q with
            |false=>injection h with h;subst h;simp[g1,g3,g5]
            |true=>simp only[] at h;simp[g1,g3,g5,D6 he hx hy h]
theorem JO(he:∀ty a b c v u,eq ty a b=some c->VR ρ a v->VR ρ b u->(Op.equalIn d ty v u).run P w= .ok c w){k:Nat}(hx:aQ ρ xs cs.toList)(hy:aQ ρ ys ds.toList):∀{n i:Nat} {b:Bool},yz P eq ty k xs ys n i=some b->
    ((forIn (List.range' i n 1) (none,PUnit.unit) (fun j (_:Option Bool×PUnit)=>do
        let a ←part ty cs (j*k)
        let c ←part ty ds (j*k)
        let r ←Op.equalIn d ty a c
        if(!r)=true then pure (ForInStep.done (some false,PUnit.unit)) else pure (ForInStep.yield (none,PUnit.unit)))):Sem (Option Bool×PUnit)).run P w= .ok (if b then none else some false,PUnit.unit) w
  |0,i,b,h=>by simp only[yz] at h;injection h with h;subst h;rfl
  | n + 1,i,b,h=>by
    simp only[yz] at h
    cases e1:j9 P ty xs (i*k) with
    |none=>simp only[e1] at h;cases h
    | some a=>
      cases e2:j9 P ty ys (i*k) with
      |none=>simp only[e1,e2] at h;cases h
      | some c=>
        simp only[e1,e2] at h
        obtain⟨v,g1,g2⟩:=yj (w:=w) hx e1
        obtain⟨u,g3,g4⟩:=yj (w:=w) hy e2
        cases e3:eq ty a c with
        |none=>simp only[e3] at h;cases h
        | some q=>
          simp only[e3] at h
          have g5:=he _ _ _ _ _ _ e3 g2 g4
          rw[List.range'_succ,List.forIn_cons]
          cases q with
          |false=>injection h with h;subst h;simp[g1,g3,g5]
          | true=>
            have ih:=JO he hx hy (n:=n) (i:=i+1) h
            simp only[Sem.run_bind,g1,Result.andThen_ok,g3,g5,Bool.not_true,Bool.false_eq_true,if_false,Sem.run_pure]
            exact ih
theorem yB:∀{d:Nat} {ty:TypeId} {a b:AV} {c:Bool} {v u:Value},jz P d ty a b=some c->VR ρ a v->VR ρ b u->(Op.equalIn d ty v u).run P w= .ok c w
  |0,_,_,_,_,_,_,h,_,_=>by simp only[jz] at h;cases h
  | d + 1,ty,a,b,c,v,u,h,ha,hb=>by
    simp only[jz] at h
    split at h<;>first|(cases h;done)|skip
    · rename_i p q eu
      injection h with h;subst h;simp only[VR] at ha hb;subst ha;subst hb
      simp[Op.equalIn,bS eu]
    · rename_i k0 k p k' q eu
      simp only[VR] at ha hb;subst ha;subst hb
      cases hk:decide (k=k') with
      |false=>rw[hk] at h;cases h
      |true=>rw[hk] at h;injection h with h;subst h;simp[Op.equalIn,bS eu,of_decide_eq_true hk]
    · rename_i p q eu
      injection h with h;subst h;simp only[VR] at ha hb;subst ha;subst hb
      simp[Op.equalIn,bS eu]
    · rename_i e q eu
      injection h with h;subst h;simp only[VR] at ha;subst ha
      cases q with
      |none=>simp only[VR] at hb;subst hb;simp[Op.equalIn,bS eu]
      |some q=>obtain⟨n,i⟩:=q;simp only[VR] at hb;obtain⟨_,_,_,rfl⟩:=hb;simp[Op.equalIn,bS eu]
    · rename_i e q eu
      injection h with h;subst h;simp only[VR] at hb;subst hb
      obtain⟨n,i⟩:=q;simp only[VR] at ha;obtain⟨_,_,_,rfl⟩:=ha;simp[Op.equalIn,bS eu]
    · rename_i ms eu
      injection h with h;subst h;simp only[VR] at ha hb;subst ha;subst hb;simp[Op.equalIn,bS eu]
    · rename_i ms t1 v1 eu
      injection h with h;subst h;simp only[VR] at ha hb;subst ha;obtain⟨_,rfl,_⟩:=hb;simp[Op.equalIn,bS eu]
    · rename_i ms t1 v1 eu
      injection h with h;subst h;simp only[VR] at ha hb;subst hb;obtain⟨_,rfl,_⟩:=ha;simp[Op.equalIn,bS eu]
    · rename_i fs xs ys eu
      cases hs:P.stoodInHeld ty with
      |true=>rw[hs] at h;cases h
      | false=>
        rw[hs] at h
        simp only[VR] at ha hb
        obtain⟨cs,rfl,hx⟩:=ha
        obtain⟨ds,rfl,hy⟩:=hb
        have hf:P.fieldsOf ty=fs:=by simp[Program.fieldsOf,eu]
        rw[run_equalIn_struct w d ty cs ds (by rw[hf];exact eu) hs,hf]
        exact D6 (fun ty a b c v u e p q=>yB e p q) hx hy h
    · rename_i n e xs ys eu
      cases ek:dG P e with
      |none=>simp only[ek] at h;cases h
      | some k=>
        simp only[ek] at h
        simp only[VR] at ha hb
        obtain⟨cs,rfl,hx⟩:=ha
        obtain⟨ds,rfl,hy⟩:=hb
        have:=JO (P:=P) (w:=w) (d:=d) (fun ty a b c v u e p q=>yB e p q) (ty:=e) (k:=k) hx hy (n:=n) (i:=0) h
        simp only[Op.equalIn,Sem.run_bind,bS eu,Result.andThen_ok,eZ ek]
        rw[Std.Legacy.Range.forIn_eq_forIn_range']
        simp only[Std.Legacy.Range.size,Nat.sub_zero,Nat.add_sub_cancel,Nat.div_one]
        rw[this]
        cases c<;>rfl
    · rename_i e l1 c1 q l2 c2 eu
      injection h with h;subst h
      have:∃k l,v= .slice none k l:=by cases c1<;>simp only[VR] at ha;exact⟨_,_,ha.1⟩
      obtain⟨_,_,rfl⟩:=this
      cases q with
      | none=>
        have:∃k l,u= .slice none k l:=by cases c2<;>simp only[VR] at hb;exact⟨_,_,hb.1⟩
        obtain⟨_,_,rfl⟩:=this
        simp[Op.equalIn,bS eu]
      | some q=>
        obtain⟨n,i⟩:=q
        have:∃p k l,u= .slice (some p) k l:=by
          cases c2<;>simp only[VR] at hb
          · obtain⟨_,_,_,rfl⟩:=hb;exact⟨_,_,_,rfl⟩
          · obtain⟨_,_,_,_,rfl,_⟩:=hb;exact⟨_,_,_,rfl⟩
          · obtain⟨_,_,_,_,_,_,rfl⟩:=hb;exact⟨_,_,_,rfl⟩
        obtain⟨_,_,_,rfl⟩:=this
        simp[Op.equalIn,bS eu]
    · rename_i e q l1 c1 l2 c2 eu
      injection h with h;subst h
      have:∃k l,u= .slice none k l:=by cases c2<;>simp only[VR] at hb;exact⟨_,_,hb.1⟩
      obtain⟨_,_,rfl⟩:=this
      obtain⟨n,i⟩:=q
      have:∃p k l,v= .slice (some p) k l:=by
        cases c1<;>simp only[VR] at ha
        · obtain⟨_,_,_,rfl⟩:=ha;exact⟨_,_,_,rfl⟩
        · obtain⟨_,_,_,_,rfl,_⟩:=ha;exact⟨_,_,_,rfl⟩
        · obtain⟨_,_,_,_,_,_,rfl⟩:=ha;exact⟨_,_,_,rfl⟩
      obtain⟨_,_,_,rfl⟩:=this
      simp[Op.equalIn,bS eu]
    · rename_i k0 e0 q eu
      injection h with h;subst h;simp only[VR] at ha;subst ha
      cases q with
      |none=>simp only[VR] at hb;subst hb;simp[Op.equalIn,bS eu]
      |some q=>simp only[VR] at hb;obtain⟨_,_,_,rfl⟩:=hb;simp[Op.equalIn,bS eu]
    · rename_i k0 e0 q eu
      injection h with h;subst h;simp only[VR] at ha hb;subst hb;obtain⟨_,_,_,rfl⟩:=ha;simp[Op.equalIn,bS eu]
    · rename_i p0 r0 v0 eu
      injection h with h;subst h;simp only[VR] at ha hb;subst ha;subst hb;simp[Op.equalIn,bS eu]
    · rename_i p0 r0 v0 f1 c1 c2 eu
      injection h with h;subst h;simp only[VR] at ha hb;subst ha;obtain⟨_,_,_,rfl,_⟩:=hb;simp[Op.equalIn,bS eu]
    · rename_i p0 r0 v0 f1 c1 c2 eu
      injection h with h;subst h;simp only[VR] at ha hb;subst hb;obtain⟨_,_,_,rfl,_⟩:=ha;simp[Op.equalIn,bS eu]
theorem Sv{op:BinOp}{k:IntKind}{a b:Int}(hs:nD op=false)(h:sb op k a b=some x):∃v,(binOp op 0 (.int k a) (.int k b)).run P w= .ok v w/\VR ρ x v/\∀ty,binOp op ty (.int k a) (.int k b)=binOp op 0 (.int k a) (.int k b):=by
  cases op<;>simp only[sb] at h<;>first
    |(cases h;done)
    |(simp[nD] at hs;done)
    |(injection h with h;subst h;exact⟨_,by simp[binOp,Op.intArith,Op.intBits,Op.intCmp];first|rfl|done,by simp[VR],fun _=>rfl⟩)
    | (cases hd:decide (b=0) with
       |true=>rw[hd] at h;cases h
       | false=>
         rw[hd] at h
         injection h with h;subst h
         exact⟨_,by simp[binOp,Op.intDiv,of_decide_eq_false hd];first|rfl|done,by simp[VR],fun _=>rfl⟩)
end
end Go.Rn
namespace Go.Rn
open Go.RowKit
variable {ty:TypeId} {v u:Value} {a b:AV} {y:Operand} {c:kT}
section
variable {P:Program} {B:aZ} {ρ:Ren} {w:World} {s s1:AS} {x:AV} {call:bf} {t:Tr AV} {ev:Operand->Value} {o:Oper}
theorem Rf{op:BinOp}{k k':IntKind}{a b:Int}(hs:nD op=true)(h:BB op k a b=some x):∃v,(binOp op ty (.int k a) (.int k' b)).run P w= .ok v w/\VR ρ x v:=by
  unfold BB at h
  cases hd:decide (b<0) with
  |true=>rw[hd] at h;cases h
  | false=>
    rw[hd] at h
    have hn:=of_decide_eq_false hd
    cases op<;>simp only[nD] at hs<;>first|(cases hs;done)|skip
    · injection h with h;subst h;exact⟨_,by simp[binOp,Op.shift,hn];first|rfl|done,by simp[VR]⟩
    · injection h with h;subst h;exact⟨_,by simp[binOp,Op.shift,hn];first|rfl|done,by simp[VR]⟩
theorem Sw{op:BinOp}{a b:ByteArray}(h:Gf op a b=some x):∃v,(binOp op ty (.string a) (.string b)).run P w= .ok v w/\VR ρ x v:=by
  cases op<;>simp only[Gf] at h<;>first
    |(cases h;done)
    |(injection h with h;subst h;exact⟨_,by simp[binOp,Op.stringOp];first|rfl|done,by simp[VR]⟩)
    |skip
  cases hd:Nat.ble (a.size+b.size) room with
  |false=>rw[hd] at h;cases h
  | true=>
    rw[hd] at h;injection h with h;subst h
    have hl:=bH.1 hd
    unfold room at hl
    refine⟨.string (a++b),?_,by simp[VR]⟩
    have:¬(((a.size+b.size:Nat):Int)>IntKind.i64.max):=by
      have:IntKind.i64.max=9223372036854775807:=by decide
      rw[this];omega
    simp only[binOp,Op.stringOp,if_neg this]
    rfl
theorem pF{n i len:Nat}(h:VR ρ (.slice (some (n,i)) len c) v):∃b N q k,ρ n=some (b,N)/\v= .slice (some ⟨b,q,none⟩) len k:=by
 cases c<;>simp only[VR] at h
 ·obtain⟨b,N,e,rfl⟩:=h;exact⟨b,N,_,_,e,rfl⟩
 ·obtain⟨b,N,_,e,rfl,_⟩:=h;exact⟨b,N,_,_,e,rfl⟩
 ·obtain⟨rfl,b,N,_,_,e,rfl⟩:=h;exact⟨b,N,_,_,e,rfl⟩
theorem jG{len:Nat}(h:VR ρ (.slice none len c) v):len=0/\c= .known 0/\v= .slice none 0 0:=by
 cases c<;>simp only[VR] at h
 obtain⟨rfl,rfl,rfl⟩:=h;exact⟨rfl,rfl,rfl⟩
theorem MU{d:Nat}{c:Bool}(h:jz P (d+1) ty a b=some c)(ha:VR ρ a v)(hb:VR ρ b u)(n1:∀k p k' q,a= .int k p->b= .int k' q->False)(n2:∀p q,a= .str p->b= .str q->False):
  binOp .eql ty v u=(do pure (.bool (←Op.equal ty v u)))/\binOp .neq ty v u=(do pure (.bool (!(←Op.equal ty v u)))):=by
 simp only[jz] at h
 split at h<;>first|(cases h;done)|skip
 ·simp only[VR] at ha hb;subst ha;subst hb;exact⟨rfl,rfl⟩
 ·exact(n1 _ _ _ _ rfl rfl).elim
 ·exact(n2 _ _ rfl rfl).elim
 ·rename_i e q eu
  simp only[VR] at ha;subst ha
  cases q with
  |none=>simp only[VR] at hb;subst hb;exact⟨rfl,rfl⟩
  |some q=>obtain⟨n,i⟩:=q;simp only[VR] at hb;obtain⟨_,_,_,rfl⟩:=hb;exact⟨rfl,rfl⟩
 ·rename_i e q eu
  simp only[VR] at hb;subst hb
  obtain⟨n,i⟩:=q;simp only[VR] at ha;obtain⟨_,_,_,rfl⟩:=ha;exact⟨rfl,rfl⟩
 ·simp only[VR] at ha hb;subst ha;subst hb;exact⟨rfl,rfl⟩
 ·simp only[VR] at ha hb;subst ha;obtain⟨_,rfl,_⟩:=hb;exact⟨rfl,rfl⟩
 ·simp only[VR] at ha hb;subst hb;obtain⟨_,rfl,_⟩:=ha;exact⟨rfl,rfl⟩
 ·simp only[VR] at ha hb;obtain⟨_,rfl,_⟩:=ha;obtain⟨_,rfl,_⟩:=hb;exact⟨rfl,rfl⟩
 ·simp only[VR] at ha hb;obtain⟨_,rfl,_⟩:=ha;obtain⟨_,rfl,_⟩:=hb;exact⟨rfl,rfl⟩
 ·rename_i e l1 c1 q l2 c2 eu
  obtain⟨_,_,rfl⟩:=jG ha
  cases q with
  |none=>obtain⟨_,_,rfl⟩:=jG hb;exact⟨rfl,rfl⟩
  |some q=>obtain⟨n,i⟩:=q;obtain⟨_,_,_,_,_,rfl⟩:=pF hb;exact⟨rfl,rfl⟩
 ·rename_i e q l1 c1 l2 c2 eu
  obtain⟨_,_,rfl⟩:=jG hb
  obtain⟨n,i⟩:=q;obtain⟨_,_,_,_,_,rfl⟩:=pF ha;exact⟨rfl,rfl⟩
 ·rename_i k0 e0 q eu
  simp only[VR] at ha;subst ha
  cases q with
  |none=>simp only[VR] at hb;subst hb;exact⟨rfl,rfl⟩
  |some q=>simp only[VR] at hb;obtain⟨_,_,_,rfl⟩:=hb;exact⟨rfl,rfl⟩
 ·simp only[VR] at ha hb;subst hb;obtain⟨_,_,_,rfl⟩:=ha;exact⟨rfl,rfl⟩
 ·simp only[VR] at ha hb;subst ha;subst hb;exact⟨rfl,rfl⟩
 ·simp only[VR] at ha hb;subst ha;obtain⟨_,_,_,rfl,_⟩:=hb;exact⟨rfl,rfl⟩
 ·simp only[VR] at ha hb;subst hb;obtain⟨_,_,_,rfl,_⟩:=ha;exact⟨rfl,rfl⟩
theorem RB{op:BinOp}(h:mI P op ty a b=some x)(ha:VR ρ a v)(hb:VR ρ b u):∃r,(binOp op ty v u).run P w= .ok r w/\VR ρ x r:=by
  unfold mI at h
  split at h
  · rename_i k p k' q
    simp only[VR] at ha hb;subst ha;subst hb
    cases hs:nD op with
    |true=>rw[hs] at h;exact Rf hs h
    | false=>
      rw[hs] at h
      cases hk:decide (k=k') with
      |false=>rw[hk] at h;cases h
      | true=>
        rw[hk] at h
        have:=of_decide_eq_true hk;subst this
        obtain⟨r,h1,h2,h3⟩:=Sv (P:=P) (w:=w) (ρ:=ρ) hs h
        exact⟨r,by rw[h3];exact h1,h2⟩
  · simp only[VR] at ha hb;subst ha;subst hb;exact Sw h
  · rename_i n1 n2
    split at h<;>first|(cases h;done)|skip
    · cases e:jz P Op.maxDepth ty a b with
      |none=>rw[e] at h;cases h
      | some c=>
        rw[e] at h;injection h with h;subst h
        have e':jz P (9999+1) ty a b=some c:=e
        have:=(MU (P:=P) e' ha hb n1 n2).1
        have h2:(Op.equal ty v u).run P w= .ok c w:=yB e ha hb
        exact⟨.bool c,by rw[this];simp[h2],by simp[VR]⟩
    · cases e:jz P Op.maxDepth ty a b with
      |none=>rw[e] at h;cases h
      | some c=>
        rw[e] at h;injection h with h;subst h
        have e':jz P (9999+1) ty a b=some c:=e
        have:=(MU (P:=P) e' ha hb n1 n2).2
        have h2:(Op.equal ty v u).run P w= .ok c w:=yB e ha hb
        exact⟨.bool !c,by rw[this];simp[h2],by simp[VR]⟩
theorem MV(ha:VR ρ a .nilIface):a= .nilIface:=by
 cases a<;>(try simp only[VR] at ha)<;>first|rfl|(cases ha;done)|skip
 ·rename_i q;cases q<;>simp only[VR] at ha<;>first|(cases ha;done)|(obtain⟨_,_,_,e⟩:=ha;cases e)
 ·rename_i q l c;cases q with
  |none=>obtain⟨_,_,e⟩:=jG ha;cases e
  |some q=>obtain⟨n,i⟩:=q;obtain⟨_,_,_,_,_,e⟩:=pF ha;cases e
 ·rcases ha with⟨_,_,_,_,e⟩|⟨_,_,_,_,e,_⟩<;>cases e
 ·obtain⟨_,_,_,e⟩:=ha;cases e
 ·rename_i q;cases q<;>simp only[VR] at ha<;>first|(cases ha;done)|(obtain⟨_,_,_,e⟩:=ha;cases e)
 ·obtain⟨_,_,_,e,_⟩:=ha;cases e
 ·obtain⟨_,_,_,e⟩:=ha;cases e
 ·obtain⟨_,e,_⟩:=ha;cases e
 ·obtain⟨_,e,_⟩:=ha;cases e
 ·obtain⟨_,e,_⟩:=ha;cases e
theorem MW{cs:Array Value}(ha:VR ρ a (.agg cs)):∃l,a= .agg l:=by
 cases a<;>(try simp only[VR] at ha)<;>first|exact⟨_,rfl⟩|(cases ha;done)|skip
 ·rename_i q;cases q<;>simp only[VR] at ha<;>first|(cases ha;done)|(obtain⟨_,_,_,e⟩:=ha;cases e)
 ·rename_i q l c;cases q with
  |none=>obtain⟨_,_,e⟩:=jG ha;cases e
  |some q=>obtain⟨n,i⟩:=q;obtain⟨_,_,_,_,_,e⟩:=pF ha;cases e
 ·rcases ha with⟨_,_,_,_,e⟩|⟨_,_,_,_,e,_⟩<;>cases e
 ·obtain⟨_,_,_,e⟩:=ha;cases e
 ·rename_i q;cases q<;>simp only[VR] at ha<;>first|(cases ha;done)|(obtain⟨_,_,_,e⟩:=ha;cases e)
 ·obtain⟨_,_,_,e,_⟩:=ha;cases e
 ·obtain⟨_,_,_,e⟩:=ha;cases e
 ·obtain⟨_,e,_⟩:=ha;cases e
 ·obtain⟨_,e,_⟩:=ha;cases e
theorem Sx{op:BinOp}{z:Operand}(h:tC P op ty y z a b=true)(ha:VR ρ a v)(hb:VR ρ b u):(eqGuard op ty y z v u).run P w= .ok () w:=by
  have key:(op= .eql\/op= .neq)->EC P ty y z a b=true:=by
    rintro (rfl|rfl)<;>exact h
  by_cases dV:op= .eql\/op= .neq
  · have hk:=key dV
    by_cases h1:v= .nilIface/\u= .nilIface
    · obtain⟨rfl,rfl⟩:=h1
      have:=MV ha;subst this
      have:=MV hb;subst this
      have hc:(isConst y||isConst z)=true:=hk
      rcases dV with rfl|rfl<;>(cases y<;>cases z<;>first|(simp[isConst] at hc;done)|rfl)
    · by_cases h2:(∃cs,v= .agg cs)/\(∃ds,u= .agg ds)
      · obtain⟨⟨cs,rfl⟩,⟨ds,rfl⟩⟩:=h2
        obtain⟨l,rfl⟩:=MW ha
        obtain⟨m,rfl⟩:=MW hb
        have hq:P.eqGuardType P.depth ty=false:=by simpa[EC] using hk
        exact run_eqGuard_agg w op ty y z cs ds hq
      · rcases dV with rfl|rfl<;>(cases v<;>cases u<;>first|rfl|(exact absurd ⟨rfl,rfl⟩ h1)|(exact absurd ⟨⟨_,rfl⟩,⟨_,rfl⟩⟩ h2))
  · cases op<;>first|rfl|(exact absurd (.inl rfl) dV)|(exact absurd (.inr rfl) dV)
theorem Tu{op:BinOp}{yt:TypeId}{z:Operand}(he:∀x v,aR t x=some v->VR ρ v (ev x))(r:Rel B ρ s.h w)(h:kK P op ty y z call t s= .ok x s1)(ho:o.op= .binOp op ty y z yt):fB P B ρ s s1 w x (execOp ev o):=by
 unfold kK at h
 obtain⟨a,h1,h2⟩:=ch h
 obtain⟨b,h3,h4⟩:=ch h2
 obtain⟨h5,h6⟩:=dY h4
 obtain⟨h7,rfl⟩:=gq h6
 obtain⟨q,g1,g2⟩:=RB (P:=P) (w:=w) h7 (he y a h1) (he z b h3)
 have g3:=Sx (P:=P) (w:=w) h5 (he y a h1) (he z b h3)
 refine⟨ρ,w,.value q,Ext.refl _ _ _,?_,g2,r,cU.refl _ _⟩
 simp[execOp,ho,g3,g1]
theorem U5{op:UnOp}(he:∀x v,aR t x=some v->VR ρ v (ev x))(r:Rel B ρ s.h w)(h:uV op y call t s= .ok x s1)(ho:o.op= .unOp op ty y):fB P B ρ s s1 w x (execOp ev o):=by
 unfold uV at h
 obtain⟨a,h1,h2⟩:=ch h
 obtain⟨h3,rfl⟩:=gq h2
 have ha:=he y a h1
 have:∃q,(Op.unary op (ev y)).run P w= .ok q w/\VR ρ x q:=by
  unfold NA at h3
  split at h3<;>first|(cases h3;done)|skip
  ·rename_i k n
   simp only[VR] at ha;rw[ha]
   injection h3 with h3;subst h3
   exact⟨_,rfl,by simp[VR]⟩
  ·rename_i k n
   simp only[VR] at ha;rw[ha]
   injection h3 with h3;subst h3
   refine⟨_,rfl,?_⟩
   cases k<;>simp[VR,IntKind.signed]
  ·rename_i c
   simp only[VR] at ha;rw[ha]
   injection h3 with h3;subst h3
   exact⟨_,rfl,by simp[VR]⟩
 obtain⟨q,g1,g2⟩:=this
 refine⟨ρ,w,.value q,Ext.refl _ _ _,?_,g2,r,cU.refl _ _⟩
 simp[execOp,ho,g1]
end
end Go.Rn
namespace Go.Rn
open Go.RowKit
variable {y:Operand} {ty:TypeId} {n f i:Nat}
section
variable {P:Program} {B:aZ} {ρ:Ren} {w:World} {s s1:AS} {x:AV} {call:bf} {t:Tr AV} {ev:Operand->Value} {o:Oper}
theorem DY{size m len:Nat}{c:kT}(h:c≠ .lost):firstCells size n (.slice (some (m,i)) len c)=iU m i (n*size):=by
 cases len<;>cases c<;>first|rfl|exact absurd rfl h
theorem Q1{src dst:TypeId}(he:∀x v,aR t x=some v->VR ρ v (ev x))(fi:bY s)(r:Rel B ρ s.h w)(h:tk P src dst y call t s= .ok x s1)(ho:o.op= .convert src dst y):fB P B ρ s s1 w x (execOp ev o):=by
  unfold tk at h
  obtain⟨a,h1,h2⟩:=ch h
  have ha:=he y a h1
  have plain:lift (EZ P src dst a) s= .ok x s1->fB P B ρ s s1 w x (execOp ev o):=by
    intro h2
    obtain⟨h3,rfl⟩:=gq h2
    have:∃q,(convert src dst (ev y)).run P w= .ok q w/\VR ρ x q:=by
      unfold EZ at h3
      split at h3<;>first|(cases h3;done)|skip
      · rename_i d k n e1 e2 _
        simp only[VR] at ha;rw[ha];injection h3 with h3;subst h3
        refine⟨.int d (d.wrap n),?_,by simp[VR]⟩
        simp[convert,bS e1,bS e2,Conv.intToInt]
      · rename_i d q e1 e2 _
        simp only[VR] at ha;rw[ha];injection h3 with h3;subst h3
        refine⟨.string q,?_,by simp[VR]⟩
        cases d<;>simp[convert,bS e1,bS e2]
    obtain⟨q,g1,g2⟩:=this
    exact⟨ρ,w,.value q,Ext.refl _ _ _,by simp[execOp,ho,g1],g2,r,cU.refl _ _⟩
  cases a<;>first|exact plain h2|(have h':(R.bad:R AV)= .ok x s1:=h2;cases h')
theorem QF(he:∀x v,aR t x=some v->VR ρ v (ev x))(r:Rel B ρ s.h w)(h:tb P ty y call t s= .ok x s1)(ho:o.op= .makeInterface ty y):fB P B ρ s s1 w x (execOp ev o):=by
  unfold tb at h
  obtain⟨a,h1,h2⟩:=ch h
  obtain⟨h3,rfl⟩:=gq h2
  unfold LP at h3
  cases e:P.underlying ty with
  |none=>rw[e] at h3;cases h3
  | some d=>
    rw[e] at h3
    refine⟨ρ,w,.value (.iface ty (ev y)),Ext.refl _ _ _,?_,?_,r,cU.refl _ _⟩
    · cases d<;>first|(cases h3;done)|simp[execOp,ho,Instr.makeInterface,bS e]
    · cases d<;>first|(cases h3;done)|(injection h3 with h3;subst h3;simp only[VR];exact⟨_,rfl,he y a h1⟩)
theorem QQ{fn:Fn}{first captured:Array Operand}(he:∀x v,aR t x=some v->VR ρ v (ev x))(r:Rel B ρ s.h w)(h:tj fn first.toList captured.toList call t s= .ok x s1)(ho:o.op= .makeFunc fn first captured):fB P B ρ s s1 w x (execOp ev o):=by
 unfold tj at h
 obtain⟨h0,h1⟩:=dY h
 obtain⟨f,h2,h3⟩:=ch h1
 obtain⟨c,h4,h5⟩:=ch h3
 obtain⟨rfl,rfl⟩:=bW h5
 refine⟨ρ,w,.value (.func fn (first.map ev) (captured.map ev)),Ext.refl _ _ _,?_,?_,r,cU.refl _ _⟩
 ·simp[execOp,ho,Instr.makeFunc]
 ·simp only[VR]
  refine⟨by cases fn<;>first|rfl|(simp[Oq] at h0),_,_,rfl,?_,?_⟩
  ·rw[Array.toList_map];exact vW he h2
  ·rw[Array.toList_map];exact vW he h4
theorem LS(r:Rel B ρ s.h w)(hf:dH s.nx s1.nx ρ)(h:gR (.map [] 0) s= .ok n s1):
  n=s.nx/\Ext s.nx s1.nx ρ (hY ρ n (w.heap.size,0))/\Rel B (hY ρ n (w.heap.size,0)) s1.h {w with heap:=w.heap.push (.map #[] 0)}:=by
 obtain⟨ht,rfl,rfl⟩:=rL h
 have kI:ρ s.nx=none:=hf s.nx (Nat.le_refl _) (Nat.lt_succ_self _) aF
 refine⟨rfl,Ext.sK kI,r.new ht kI rfl ⟨#[],rfl,rfl,rfl⟩⟩
theorem Q2{q:Option Operand}(he:∀x v,aR t x=some v->VR ρ v (ev x))(r:Rel B ρ s.h w)(hf:dH s.nx s1.nx ρ)(h:tl P ty q call t s= .ok x s1)(ho:o.op= .makeMap ty q):fB P B ρ s s1 w x (execOp ev o):=by
  unfold tl at h
  obtain⟨u,s2,h1,h2⟩:=M.bG h
  obtain⟨n,s3,h3,h4⟩:=M.bG h2
  obtain⟨rfl,rfl⟩:=bW h4
  cases q with
  | none=>
    obtain⟨_,rfl⟩:=bW h1
    obtain⟨rfl,e1,e2⟩:=LS r hf h3
    refine⟨_,_,.value (.map (some w.heap.size)),e1,?_,?_,e2,(gh.alloc w _).below r.size⟩
    · simp[execOp,ho,Instr.makeMap]
    · simp only[VR];exact⟨_,_,lE _ _ _,rfl⟩
  | some y=>
    obtain⟨v,g1,g2⟩:=ch h1
    obtain⟨i,g3,g4⟩:=ch g2
    obtain⟨k,_,hv⟩:=(he y v g1).yA g3
    have:B5 P ty=true/\s2=s:=by
      cases hb:B5 P ty with
      |false=>rw[hb] at g4;cases g4
      |true=>rw[hb] at g4;cases g4;exact⟨rfl,rfl⟩
    obtain⟨hm,rfl⟩:=this
    obtain⟨rfl,e1,e2⟩:=LS r hf h3
    refine⟨_,_,.value (.map (some w.heap.size)),e1,?_,?_,e2,(gh.alloc w _).below r.size⟩
    · unfold B5 at hm
      split at hm
      · rename_i a b e
        simp[execOp,ho,Instr.makeMap,bS e,hv,asInt,asIntOf]
      · cases hm
    · simp only[VR];exact⟨_,_,lE _ _ _,rfl⟩
theorem vL{i:Int}{len:Nat}(h:within i len=some n):i=(n:Int)/\n<len:=by
  unfold within at h
  cases i with
  |negSucc k=>cases h
  | ofNat k=>
    cases hb:Nat.blt k len with
    |false=>simp only[hb] at h;cases h
    | true=>
      simp only[hb] at h;injection h with h;subst h
      exact⟨rfl,by rw[←blt_eq];exact hb⟩
theorem QR{a:AV}{v:Value}(ha:VR ρ a v)(h:fieldAddr P ty a f=some x):∃q,(Instr.fieldAt ty v f).run P w= .ok q w/\VR ρ x q:=by
  unfold fieldAddr at h
  split at h<;>first|(cases h;done)|skip
  rename_i fs e
  cases e1:fs[f]? with
  |none=>rw[e1] at h;cases h
  | some fd=>
    simp only[e1] at h
    cases e2:dG P fd.type with
    |none=>rw[e2] at h;cases h
    | some k=>
      simp only[e2] at h
      cases e3:Nat.beq k 0 with
      |true=>rw[e3] at h;cases h
      | false=>
        simp only[e3] at h
        have hk:¬k=0:=by rw[←beq_eq,e3];simp
        split at h<;>first|(cases h;done)|skip
        · rename_i n i
          injection h with h;subst h
          simp only[VR] at ha
          obtain⟨b,N,e4,rfl⟩:=ha
          refine⟨.pointer (some ⟨b,i+fd.offset,none⟩),?_,?_⟩
          · simp[Instr.fieldAt,bS e,e1,Instr.sureAddr,fieldPlace,eZ e2,hk,Addr.k9]
          · simp only[VR];exact⟨b,N,e4,rfl⟩
        · rename_i n i
          injection h with h;subst h
          simp only[VR] at ha
          obtain⟨b,sh,e4,rfl⟩:=ha
          refine⟨.pointer (some ⟨b,sh+i+fd.offset,none⟩),?_,?_⟩
          · simp[Instr.fieldAt,bS e,e1,Instr.sureAddr,fieldPlace,eZ e2,hk,Addr.k9]
          · simp only[VR];exact⟨b,sh,e4,by rw[Nat.add_assoc]⟩
theorem QJ(he:∀x v,aR t x=some v->VR ρ v (ev x))(r:Rel B ρ s.h w)(h:tf P ty y f call t s= .ok x s1)(ho:o.op= .fieldAddr ty y f):fB P B ρ s s1 w x (execOp ev o):=by
 unfold tf at h
 obtain⟨a,h1,h2⟩:=ch h
 obtain⟨h3,rfl⟩:=gq h2
 obtain⟨q,g1,g2⟩:=QR (P:=P) (w:=w) (he y a h1) h3
 exact⟨ρ,w,.value q,Ext.refl _ _ _,by simp[execOp,ho,g1],g2,r,cU.refl _ _⟩
theorem RC(he:∀x v,aR t x=some v->VR ρ v (ev x))(r:Rel B ρ s.h w)(h:wB P ty y f call t s= .ok x s1)(ho:o.op= .field ty y f):fB P B ρ s s1 w x (execOp ev o):=by
 have h':(R.bad:R AV)= .ok x s1:=h
 cases h'
theorem QK{z:Operand}(he:∀x v,aR t x=some v->VR ρ v (ev x))(r:Rel B ρ s.h w)(h:oA P ty y z call t s= .ok x s1)(ho:o.op= .indexAddr ty y z):fB P B ρ s s1 w x (execOp ev o):=by
  unfold oA at h
  obtain⟨a,h1,h2⟩:=ch h
  obtain⟨ix,h3,h4⟩:=ch h2
  obtain⟨h5,rfl⟩:=gq h4
  have ha:=he y a h1
  unfold indexAddr at h5
  cases ei:intOf ix with
  |none=>rw[ei] at h5;cases h5
  | some i=>
    simp only[ei] at h5
    obtain⟨k,_,hi⟩:=(he z ix h3).yA ei
    have:∃q,(Instr.indexAt ty (ev y) (ev z)).run P w= .ok q w/\VR ρ x q:=by
      rw[hi]
      split at h5<;>first|(cases h5;done)|skip
      · rename_i len e n off e1
        split at h5<;>first|(cases h5;done)|skip
        rename_i j m e2 e3
        injection h5 with h5;subst h5
        obtain⟨rfl,hj⟩:=vL e2
        simp only[VR] at ha
        obtain⟨b,N,e4,hv⟩:=ha
        rw[hv]
        refine⟨.pointer (some ⟨b,off+j*m,none⟩),?_,by simp only[VR];exact⟨b,N,e4,rfl⟩⟩
        have hr:(0:Int)<=(j:Int)/\(j:Int)<(len:Int):=⟨by omega,by omega⟩
        simp[Instr.indexAt,asIntOf,bS e1,Instr.sureAddr,hr,eZ e3,Addr.k9,hj]
      · rename_i e n off len cap e1
        split at h5<;>first|(cases h5;done)|skip
        rename_i j m e2 e3
        injection h5 with h5;subst h5
        obtain⟨rfl,hj⟩:=vL e2
        have hr:(0:Int)<=(j:Int)/\(j:Int)<(len:Int):=⟨by omega,by omega⟩
        have fin:∀b N c,ρ n=some (b,N)->ev y= .slice (some ⟨b,off,none⟩) len c->∃q,(Instr.indexAt ty (ev y) (.int k j)).run P w= .ok q w/\VR ρ (.ptr (some (n,off+j*m))) q:=by
          intro b N c e4 hv
          rw[hv]
          refine⟨.pointer (some ⟨b,off+j*m,none⟩),?_,by simp only[VR];exact⟨b,N,e4,rfl⟩⟩
          simp[Instr.indexAt,asIntOf,bS e1,hr,eZ e3,Addr.k9,hj]
        cases cap with
        |known c=>simp only[VR] at ha;obtain⟨b,N,e4,hv⟩:=ha;exact fin b N c e4 hv
        |aX lo e5=>simp only[VR] at ha;obtain⟨b,N,c,e4,hv,_⟩:=ha;exact fin b N c e4 hv
        |lost=>simp only[VR] at ha;omega
      · rename_i e n off len e1
        split at h5<;>first|(cases h5;done)|skip
        rename_i j m e2 e3
        injection h5 with h5;subst h5
        obtain⟨rfl,hj⟩:=vL e2
        have hr:(0:Int)<=(j:Int)/\(j:Int)<(len:Int):=⟨by omega,by omega⟩
        simp only[VR] at ha
        rcases ha with⟨_,h0,_⟩|⟨b,sh,c,e4,hv,_⟩
        · omega
        rw[hv]
        refine⟨.pointer (some ⟨b,sh+(off+j*m),none⟩),?_,by simp only[VR];exact⟨b,sh,e4,rfl⟩⟩
        simp[Instr.indexAt,asIntOf,bS e1,hr,eZ e3,Addr.k9,hj,Nat.add_assoc]
    obtain⟨q,g1,g2⟩:=this
    exact⟨ρ,w,.value q,Ext.refl _ _ _,by simp[execOp,ho,g1],g2,r,cU.refl _ _⟩
theorem RD{z:Operand}(he:∀x v,aR t x=some v->VR ρ v (ev x))(r:Rel B ρ s.h w)(h:wD P ty y z call t s= .ok x s1)(ho:o.op= .index ty y z):fB P B ρ s s1 w x (execOp ev o):=by
 have h':(R.bad:R AV)= .ok x s1:=h
 cases h'
theorem Rg{xt:TypeId}{ok:Bool}(he:∀x v,aR t x=some v->VR ρ v (ev x))(r:Rel B ρ s.h w)(h:wg P ty ok y call t s= .ok x s1)(ho:o.op= .typeAssert y xt ty ok):fB P B ρ s s1 w x (execOp ev o):=by
 have h':(R.bad:R AV)= .ok x s1:=h
 cases h'
theorem Q3(he:∀x v,aR t x=some v->VR ρ v (ev x))(r:Rel B ρ s.h w)(h:tm y i call t s= .ok x s1)(ho:o.op= .extract y i):fB P B ρ s s1 w x (execOp ev o):=by
 unfold tm at h
 obtain⟨a,h1,h2⟩:=ch h
 obtain⟨h3,rfl⟩:=gq h2
 have ha:=he y a h1
 unfold partOf at h3
 split at h3<;>first|(cases h3;done)|skip
 rename_i l
 simp only[VR] at ha
 obtain⟨vs,hv,hl⟩:=ha
 obtain⟨q,g1,g2⟩:=hl.get i x h3
 have uW:vs[i]? =some q:=by simpa using g1
 exact⟨ρ,w,.value q,Ext.refl _ _ _,by simp[execOp,ho,hv,Instr.extract,uW],g2,r,cU.refl _ _⟩
end
end Go.Rn
namespace Go.Rn
open Go.RowKit
variable {v:Value} {ty:TypeId} {real l hh:Nat} {mr iY Af mx:Option Value} {lo:Option AV} {a:AV} {b:Bool}
section
variable {P:Program} {B:aZ} {ρ:Ren} {w:World} {s s1:AS} {x:AV} {call:bf} {t:Tr AV} {ev:Operand->Value} {o:Oper}
def lr(ρ:Ren):Option AV->Option Value->Prop
 |none,v=>v=none
 |some a,v=>∃u,v=some u/\VR ρ a u
theorem Fy(he:∀x v,aR t x=some v->VR ρ v (ev x)){y:Option Operand}{a:Option AV}(h:opt (aR t) y=some a):lr ρ a (y.map ev):=by
  cases y with
  |none=>simp only[opt] at h;injection h with h;subst h;rfl
  | some y=>
    simp only[opt] at h
    cases e:aR t y with
    |none=>rw[e] at h;cases h
    |some v=>simp only[e] at h;injection h with h;subst h;exact⟨_,rfl,he y v e⟩
theorem yk{pb n d:Nat}{code:BoundsCode}(ha:VR ρ a v)(h:bound (some a) pb d=some n)(hr:pb<=real):(Instr.sliceBound v real code).run P w= .ok n w/\n<=pb:=by
  unfold bound at h
  cases e:intOf a with
  |none=>simp only[e] at h;cases h
  | some i=>
    simp only[e] at h
    obtain⟨k,_,rfl⟩:=ha.yA e
    obtain⟨rfl,hn⟩:=vL h
    have hr:(0:Int)<=(n:Int)/\(n:Int)<=(real:Int):=⟨by omega,by omega⟩
    refine⟨?_,by omega⟩
    simp only[Instr.sliceBound,asIntOf,Sem.run_bind,Sem.run_pure,Result.andThen_ok,if_pos hr,Int.toNat_natCast]
theorem rE{hi:Option AV}{len low:Nat}(h1:lr ρ lo mr)(h2:lr ρ hi iY)(hr:low<=real)(e1:bound hi low len=some hh)(e2:bound lo hh 0=some l):
    (Instr.sliceBounds b len real mr iY none).run P w= .ok (l,hh,real) w/\(hi=none/\hh=len\/hh<=low)/\l<=hh:=by
  have g1:∃c,(match iY,(none:Option Value) with
      |some v,some _=>Instr.sliceBound v real .slice3B
      |some v,none=>Instr.sliceBound v real c
      |none,none=>pure len
      |none,some _=>stuck "Slice: max without high" :Sem Nat).run P w= .ok hh w/\c=(if b then BoundsCode.sliceAcap else .sliceAlen)/\(hi=none/\hh=len\/hh<=low):=by
    cases hi with
    | none=>
      simp only[lr] at h2;subst h2
      simp only[bound] at e1;injection e1 with e1;subst e1
      exact⟨_,rfl,rfl,.inl ⟨rfl,rfl⟩⟩
    | some a=>
      obtain⟨u,rfl,hu⟩:=h2
      obtain⟨a1,a2⟩:=yk (P:=P) (w:=w) (code:=if b then BoundsCode.sliceAcap else .sliceAlen) hu e1 hr
      exact⟨_,a1,rfl,.inr a2⟩
  obtain⟨c,g1,rfl,g2⟩:=g1
  have g3:(match mr with
      |some v=>Instr.sliceBound v hh (if(none:Option Value).isSome then BoundsCode.slice3C else .sliceB)
      |none=>pure 0:Sem Nat).run P w= .ok l w/\l<=hh:=by
    cases lo with
    | none=>
      simp only[lr] at h1;subst h1
      simp only[bound] at e2;injection e2 with e2;subst e2
      exact⟨rfl,Nat.zero_le _⟩
    | some a=>
      obtain⟨u,rfl,hu⟩:=h1
      exact yk (P:=P) (w:=w) hu e2 (Nat.le_refl _)
  refine⟨?_,g2,g3.2⟩
  cases iY<;>cases mr<;>simp_all [Instr.sliceBounds]
theorem JP{len low m:Nat}{c:AV}(h1:lr ρ lo mr)(h2:lr ρ (some a) iY)(h3:lr ρ (some c) Af)(hr:low<=real)(e0:bound (some c) low 0=some m)(e1:bound (some a) m 0=some hh)(e2:bound lo hh 0=some l):
    (Instr.sliceBounds b len real mr iY Af).run P w= .ok (l,hh,m) w/\l<=hh/\hh<=m/\m<=low:=by
  obtain⟨u,rfl,hu⟩:=h2
  obtain⟨v,rfl,hv⟩:=h3
  have q0:=fun code=>yk (P:=P) (w:=w) (code:=code) hv e0 hr
  have q1:=fun code=>yk (P:=P) (w:=w) (code:=code) hu e1 (Nat.le_refl _)
  cases lo with
  | none=>
    simp only[lr] at h1;subst h1
    simp only[bound] at e2;injection e2 with e2;subst e2
    refine⟨?_,Nat.zero_le _,(q1 .slice3B).2,(q0 .slice3B).2⟩
    simp[Instr.sliceBounds,(q0 _).1,(q1 _).1]
  | some y=>
    obtain⟨z,rfl,hz⟩:=h1
    have q2:=fun code=>yk (P:=P) (w:=w) (code:=code) hz e2 (Nat.le_refl _)
    refine⟨?_,(q2 .slice3B).2,(q1 .slice3B).2,(q0 .slice3B).2⟩
    simp[Instr.sliceBounds,(q0 _).1,(q1 _).1,(q2 _).1]
theorem D1{e:TypeId}{lo hi:Option Value}(h:P.underlying ty=some (.slice e)):(Instr.sliceAt ty v lo hi mx).run P w=(Instr.slice ty v lo hi mx).run P w:=by
 simp[Instr.sliceAt,bS h]
theorem QL{lo hi:Option Value}(h:P.underlying ty=some .string):(Instr.sliceAt ty v lo hi mx).run P w=(Instr.slice ty v lo hi mx).run P w:=by
 simp[Instr.sliceAt,bS h]
theorem Rh{hi mx:Option AV}(ha:VR ρ a v)(h1:lr ρ lo mr)(h2:lr ρ hi iY)(h3:lr ρ mx Af)(h:wc P ty a lo hi mx=some x):
    ∃q,(Instr.sliceAt ty v mr iY Af).run P w= .ok q w/\VR ρ x q:=by
  unfold wc at h
  split at h<;>first|(cases h;done)|skip
  · 
    rename_i st e1
    simp only[VR] at ha;subst ha
    cases mx with
    |some _=>cases h
    | none=>
      simp only[lr] at h3;subst h3
      simp only[] at h
      cases e2:bound hi st.size st.size with
      |none=>simp only[e2] at h;cases h
      | some hh=>
        simp only[e2] at h
        cases e3:bound lo hh 0 with
        |none=>simp only[e3] at h;cases h
        | some l=>
          simp only[e3] at h;injection h with h;subst h
          obtain⟨g1,g2,g3⟩:=rE (P:=P) (w:=w) (b:=false) h1 h2 (Nat.le_refl _) e2 e3
          refine⟨.string (st.extract l hh),?_,by simp[VR]⟩
          rw[QL e1]
          simp[Instr.slice,bS e1,g1]
  · 
    rename_i e p len cap e1
    cases ek:dG P e with
    |none=>simp only[ek] at h;cases h
    | some k=>
      simp only[ek] at h
      rw[D1 e1]
      have hv:∃q real,v= .slice q len real/\oV len cap<=real/\len<=real\/∃q real,v= .slice q len real/\cap= .known real:=by
        cases p with
        |none=>obtain⟨rfl,rfl,rfl⟩:=jG ha;exact⟨none,0,.inr ⟨none,0,rfl,rfl⟩⟩
        | some p=>
          obtain⟨n,i⟩:=p
          cases cap with
          |known c=>simp only[VR] at ha;obtain⟨b,N,_,rfl⟩:=ha;exact⟨none,0,.inr ⟨_,c,rfl,rfl⟩⟩
          |aX b0 e0=>simp only[VR] at ha;obtain⟨b,N,c,_,rfl,h5,h6,_⟩:=ha;exact⟨_,c,.inl ⟨rfl,h5,h6⟩⟩
          |lost=>simp only[VR] at ha;obtain⟨rfl,b,N,_,c,_,rfl⟩:=ha;exact⟨_,c,.inl ⟨rfl,by simp[oV],Nat.zero_le _⟩⟩
      clear hv
      cases mx with
      | some mx =>
        simp only[] at h
        have hl:cap≠ .lost:=by intro e2;subst e2;cases h
        have h':slice3 k p (oV len cap) lo hi mx=some x:=by
          cases cap<;>first|exact h|exact absurd rfl hl
        clear h
        unfold slice3 at h'
        cases e2:bound (some mx) (oV len cap) 0 with
        |none=>simp only[e2] at h';cases h'
        | some m=>
          simp only[e2] at h'
          cases hi with
          |none=>cases h'
          | some hi =>
            simp only[] at h'
            cases e3:bound (some hi) m 0 with
            |none=>simp only[e3] at h';cases h'
            | some hh=>
              simp only[e3] at h'
              cases e4:bound lo hh 0 with
              |none=>simp only[e4] at h';cases h'
              | some l=>
                simp only[e4] at h'
                cases p with
                | none=>
                  obtain⟨rfl,rfl,rfl⟩:=jG ha
                  simp only[] at h';injection h' with h';subst h'
                  obtain⟨g1,g2,g3,g4⟩:=JP (P:=P) (w:=w) (b:=true) (len:=0) (real:=0) h1 h2 h3 (Nat.le_refl _) e2 e3 e4
                  have g4':m<=0:=g4
                  refine⟨.slice none 0 0,?_,?_⟩
                  · have z1:m=0:=by omega
                    have z2:hh=0:=by omega
                    have z3:l=0:=by omega
                    subst z1;subst z2;subst z3
                    simp[Instr.slice,bS e1,g1,eZ ek]
                  · have z1:hh - l=0:=by omega
                    have z2:m - l=0:=by omega
                    rw[z1,z2];simp[VR]
                | some p=>
                  obtain⟨n,i⟩:=p
                  simp only[] at h'
                  have hv:∃b N real,ρ n=some (b,N)/\v= .slice (some ⟨b,i,none⟩) len real/\oV len cap<=real:=by
                    cases cap with
                    |known c=>simp only[VR] at ha;obtain⟨b,N,e5,rfl⟩:=ha;exact⟨b,N,c,e5,rfl,by simp[oV]⟩
                    |aX b0 e0=>simp only[VR] at ha;obtain⟨b,N,c,e5,rfl,h5,h6,_⟩:=ha;exact⟨b,N,c,e5,rfl,h5⟩
                    |lost=>exact absurd rfl hl
                  obtain⟨b,N,real,e5,rfl,YH⟩:=hv
                  obtain⟨g1,g2,g3,g4⟩:=JP (P:=P) (w:=w) (b:=true) (len:=len) h1 h2 h3 YH e2 e3 e4
                  cases e6:Nat.beq m l with
                  | true=>
                    simp only[e6] at h';injection h' with h';subst h'
                    have uX:=fT.1 e6
                    refine⟨.slice (some ⟨b,i,none⟩) (hh - l) (m - l),?_,by simp only[VR];exact⟨b,N,e5,rfl⟩⟩
                    subst uX;simp[Instr.slice,bS e1,g1,eZ ek]
                  | false=>
                    simp only[e6] at h';injection h' with h';subst h'
                    have fD:¬m=l:=by rw[←beq_eq,e6];simp
                    refine⟨.slice (some ⟨b,i+l*k,none⟩) (hh - l) (m - l),?_,by simp only[VR];exact⟨b,N,e5,rfl⟩⟩
                    simp[Instr.slice,bS e1,g1,eZ ek,fD,Addr.k9]
      | none=>
        simp only[lr] at h3;subst h3
        simp only[] at h
        cases e3:bound hi (oV len cap) len with
        |none=>simp only[e3] at h;cases h
        | some hh =>
          simp only[e3] at h
          cases e4:bound lo hh 0 with
          |none=>simp only[e4] at h;cases h
          | some l=>
            simp only[e4] at h
            cases p with
            | none=>
              obtain⟨rfl,rfl,rfl⟩:=jG ha
              simp only[] at h;injection h with h;subst h
              obtain⟨g1,g2,g3⟩:=rE (P:=P) (w:=w) (b:=true) (len:=0) (real:=0) h1 h2 (Nat.le_refl _) e3 e4
              have z1:hh=0:=by rcases g2 with⟨_,e⟩|e<;>omega
              have z2:l=0:=by omega
              subst z1;subst z2
              refine⟨.slice none 0 0,?_,by simp[VR]⟩
              simp[Instr.slice,bS e1,g1,eZ ek]
            | some p=>
              obtain⟨n,i⟩:=p
              cases cap with
              | known c=>
                simp only[] at h
                simp only[VR] at ha;obtain⟨b,N,e5,rfl⟩:=ha
                obtain⟨g1,g2,g3⟩:=rE (P:=P) (w:=w) (b:=true) (len:=len) (real:=c) h1 h2 (by simp[oV]) e3 e4
                cases e6:Nat.beq c l with
                | true=>
                  simp only[e6] at h;injection h with h;subst h
                  have uX:=fT.1 e6
                  refine⟨.slice (some ⟨b,i,none⟩) (hh - l) (c - l),?_,by simp only[VR];exact⟨b,N,e5,rfl⟩⟩
                  subst uX;simp[Instr.slice,bS e1,g1,eZ ek]
                | false=>
                  simp only[e6] at h;injection h with h;subst h
                  have fD:¬c=l:=by rw[←beq_eq,e6];simp
                  refine⟨.slice (some ⟨b,i+l*k,none⟩) (hh - l) (c - l),?_,by simp only[VR];exact⟨b,N,e5,rfl⟩⟩
                  simp[Instr.slice,bS e1,g1,eZ ek,fD,Addr.k9]
              | aX b0 e0=>
                simp only[] at h
                simp only[VR] at ha;obtain⟨b,N,c,e5,rfl,h5,h6,h7⟩:=ha
                obtain⟨g1,g2,g3⟩:=rE (P:=P) (w:=w) (b:=true) (len:=len) (real:=c) h1 h2 h5 e3 e4
                have hhc:hh<=c:=by
                  rcases g2 with⟨_,e⟩|e
                  · omega
                  · have e':hh<=b0:=e
                    omega
                cases e6:Nat.beq l 0 with
                | true=>
                  simp only[e6] at h;injection h with h;subst h
                  have uX:=fT.1 e6
                  refine⟨.slice (some ⟨b,i,none⟩) (hh - l) (c - 0),?_,?_⟩
                  · subst uX;by_cases q:c=0
                    · subst q;simp[Instr.slice,bS e1,g1,eZ ek]
                    · simp[Instr.slice,bS e1,g1,eZ ek,q,Addr.k9]
                  · simp only[VR];exact⟨b,N,c,e5,rfl,h5,by omega,h7⟩
                | false =>
                  simp only[e6] at h
                  cases e7:(Nat.beq e0 k&&Nat.blt l b0) with
                  | true=>
                    simp only[e7] at h;injection h with h;subst h
                    obtain⟨q1,q2⟩:=and_true.1 e7
                    have q1:=fT.1 q1;subst q1
                    rw[blt_eq] at q2
                    have fD:¬c=l:=by omega
                    refine⟨.slice (some ⟨b,i+l*e0,none⟩) (hh - l) (c - l),?_,?_⟩
                    · simp[Instr.slice,bS e1,g1,eZ ek,fD,Addr.k9]
                    · simp only[VR]
                      refine⟨b,N,c - l,e5,rfl,by omega,by omega,?_⟩
                      have:l*e0+(c - l)*e0=c*e0:=by rw[←Nat.add_mul];congr 1;omega
                      omega
                  | false=>
                    simp only[e7] at h
                    cases e8:Nat.beq (hh - l) 0 with
                    |false=>simp only[e8] at h;cases h
                    | true=>
                      simp only[e8] at h;injection h with h;subst h
                      have z:=fT.1 e8
                      by_cases q:c=l
                      · refine⟨.slice (some ⟨b,i,none⟩) (hh - l) (c - l),?_,?_⟩
                        · subst q;simp[Instr.slice,bS e1,g1,eZ ek]
                        · simp only[VR];rw[z];exact⟨by first|rfl|trivial,b,N,_,_,e5,rfl⟩
                      · refine⟨.slice (some ⟨b,i+l*k,none⟩) (hh - l) (c - l),?_,?_⟩
                        · simp[Instr.slice,bS e1,g1,eZ ek,q,Addr.k9]
                        · simp only[VR];rw[z];exact⟨by first|rfl|trivial,b,N,_,_,e5,rfl⟩
              | lost=>
                simp only[] at h
                simp only[VR] at ha;obtain⟨rfl,b,N,j,c,e5,rfl⟩:=ha
                obtain⟨g1,g2,g3⟩:=rE (P:=P) (w:=w) (b:=true) (len:=0) (real:=c) h1 h2 (by simp[oV]) e3 e4
                cases e6:Nat.beq hh 0 with
                |false=>simp only[e6] at h;cases h
                | true=>
                  simp only[e6] at h;injection h with h;subst h
                  have z:=fT.1 e6;subst z
                  have z:l=0:=by omega
                  subst z
                  refine⟨.slice (some ⟨b,j,none⟩) 0 c,?_,?_⟩
                  · by_cases q:c=0
                    · subst q;simp[Instr.slice,bS e1,g1,eZ ek]
                    · simp[Instr.slice,bS e1,g1,eZ ek,q,Addr.k9]
                  · simp only[VR];exact⟨trivial,b,N,_,_,e5,rfl⟩
  · -- a row that stays as it is
    rename_i e n i len e1
    cases ek:dG P e with
    |none=>simp only[ek] at h;cases h
    | some k=>
      simp only[ek] at h
      cases mx with
      |some _=>cases h
      | none=>
        simp only[lr] at h3;subst h3
        simp only[] at h
        cases e3:bound hi len len with
        |none=>simp only[e3] at h;cases h
        | some hh =>
          simp only[e3] at h
          cases e4:bound lo hh 0 with
          |none=>simp only[e4] at h;cases h
          | some l=>
            simp only[e4] at h
            cases e5:Nat.ble top n with
            |false=>simp only[e5] at h;cases h
            | true=>
              simp only[e5] at h;injection h with h;subst h
              have q1:=bH.1 e5
              simp only[VR] at ha
              rcases ha with⟨_,rfl,a0,c,rfl⟩|⟨b,sh,c,e6,rfl,e7⟩
              · obtain⟨g1,g2,g3⟩:=rE (P:=P) (w:=w) (b:=true) (len:=0) (real:=c) h1 h2 (Nat.zero_le c) e3 e4
                have zh:hh=0:=by rcases g2 with⟨_,e⟩|e<;>omega
                subst zh
                have zl:l=0:=by omega
                subst zl
                rw[D1 e1]
                cases a0 with
                |none=>exact⟨.slice none 0 c,by simp[Instr.slice,bS e1,g1,eZ ek],by simp only[VR];exact .inl ⟨q1,trivial,none,c,rfl⟩⟩
                | some a0=>
                  by_cases q:c=0
                  · subst q
                    exact⟨.slice (some a0) 0 0,by simp[Instr.slice,bS e1,g1,eZ ek],by simp only[VR];exact .inl ⟨q1,trivial,some a0,0,rfl⟩⟩
                  · exact⟨.slice (some (a0.add 0)) 0 c,by simp[Instr.slice,bS e1,g1,eZ ek,q],by simp only[VR];exact .inl ⟨q1,trivial,_,c,rfl⟩⟩
              have hc:=e7 q1
              obtain⟨g1,g2,g3⟩:=rE (P:=P) (w:=w) (b:=true) (len:=len) (real:=c) h1 h2 hc e3 e4
              have hhc:hh<=c:=by rcases g2 with⟨_,e⟩|e<;>omega
              rw[D1 e1]
              by_cases q:c=l
              · subst q
                refine⟨.slice (some ⟨b,sh+i,none⟩) (hh - c) (c - c),by simp[Instr.slice,bS e1,g1,eZ ek],?_⟩
                have z:hh - c=0:=by omega
                simp only[VR]
                exact .inl ⟨q1,z,some ⟨b,sh+i,none⟩,c - c,by rw[z]⟩
              · refine⟨.slice (some ⟨b,sh+(i+l*k),none⟩) (hh - l) (c - l),by simp[Instr.slice,bS e1,g1,eZ ek,q,Addr.k9,Nat.add_assoc],?_⟩
                simp only[VR]
                exact .inr ⟨b,sh,c - l,e6,rfl,fun _=>by omega⟩
  · -- an array,by its address
    rename_i len e n i e1
    cases ek:dG P e with
    |none=>simp only[ek] at h;cases h
    | some k=>
      simp only[ek] at h
      cases mx with
      |some _=>cases h
      | none=>
        simp only[lr] at h3;subst h3
        simp only[] at h
        cases e2:bound hi len len with
        |none=>simp only[e2] at h;cases h
        | some hh=>
          simp only[e2] at h
          cases e3:bound lo hh 0 with
          |none=>simp only[e3] at h;cases h
          | some l=>
            simp only[e3] at h
            simp only[VR] at ha;obtain⟨b,N,e5,rfl⟩:=ha
            obtain⟨g1,g2,g3⟩:=rE (P:=P) (w:=w) (b:=false) h1 h2 (Nat.le_refl _) e2 e3
            cases e6:Nat.beq len l with
            | true=>
              simp only[e6] at h;injection h with h;subst h
              have uX:=fT.1 e6
              refine⟨.slice (some ⟨b,i,none⟩) (hh - l) (len - l),?_,by simp only[VR];exact⟨b,N,e5,rfl⟩⟩
              subst uX;simp[Instr.sliceAt,bS e1,Instr.sureAddr,g1,eZ ek]
            | false=>
              simp only[e6] at h;injection h with h;subst h
              have fD:¬len=l:=by rw[←beq_eq,e6];simp
              refine⟨.slice (some ⟨b,i+l*k,none⟩) (hh - l) (len - l),?_,by simp only[VR];exact⟨b,N,e5,rfl⟩⟩
              simp[Instr.sliceAt,bS e1,Instr.sureAddr,g1,eZ ek,fD,Addr.k9]
theorem RG{y:Operand}{lo hi mx:Option Operand}(he:∀x v,aR t x=some v->VR ρ v (ev x))(r:Rel B ρ s.h w)(h:qH P ty y lo hi mx call t s= .ok x s1)(ho:o.op= .slice ty y lo hi mx):fB P B ρ s s1 w x (execOp ev o):=by
 unfold qH at h
 obtain⟨a,h1,h2⟩:=ch h
 obtain⟨mr,h3,h4⟩:=ch h2
 obtain⟨iY,h5,h6⟩:=ch h4
 obtain⟨Af,h7,h8⟩:=ch h6
 obtain⟨h9,rfl⟩:=gq h8
 obtain⟨q,g1,g2⟩:=Rh (P:=P) (w:=w) (he y a h1) (Fy he h3) (Fy he h5) (Fy he h7) h9
 exact⟨ρ,w,.value q,Ext.refl _ _ _,by simp[execOp,ho,g1],g2,r,cU.refl _ _⟩
end
end Go.Rn
