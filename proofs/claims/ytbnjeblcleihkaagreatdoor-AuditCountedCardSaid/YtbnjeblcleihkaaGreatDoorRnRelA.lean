/- How a world stays one of its names: at a write, at a new block, at a name that is not asked for any more. -/
import Derived.Test.YtbnjeblcleihkaaGreatDoorRnLocalA
import Derived.Below
import Derived.Laws.CopyRow
import Derived.Laws.Cells
namespace Go.Rn
open Go.RowKit
def updR (ρ : Ren) (n : Nat) (x : Nat × Nat) : Ren := fun k => if k = n then some x else ρ k
theorem updR_le {ρ : Ren} {n : Nat} {x : Nat × Nat} (h : ρ n = none) : ρ.le (updR ρ n x) := by
  intro k y e
  unfold updR
  by_cases q : k = n
  · subst q; rw [h] at e; cases e
  · rw [if_neg q]; exact e
theorem updR_self (ρ : Ren) (n : Nat) (x : Nat × Nat) : updR ρ n x n = some x := by simp [updR]
theorem updR_ne (ρ : Ren) {n k : Nat} (x : Nat × Nat) (h : k ≠ n) : updR ρ n x k = ρ k := by simp [updR, h]
structure OnlyAt (b : Nat) (w w' : World) : Prop where
  os : w'.os = w.os
  tape : w'.tape = w.tape
  output : w'.output = w.output
  size : w'.heap.size = w.heap.size
  block : ∀ k, k ≠ b → w'.heap[k]? = w.heap[k]?
structure Bel (B : Base) (w w' : World) : Prop where
  os : w'.os = w.os
  tape : w'.tape = w.tape
  output : w'.output = w.output
  size : w.heap.size ≤ w'.heap.size
  block : ∀ k, k < w.heap.size → ¬ B.may k → w'.heap[k]? = w.heap[k]?
theorem Bel.refl (B : Base) (w : World) : Bel B w w := ⟨rfl, rfl, rfl, Nat.le_refl _, fun _ _ _ => rfl⟩
theorem Bel.trans {B : Base} {a b c : World} (h : Bel B a b) (k : Bel B b c) : Bel B a c :=
  ⟨k.os.trans h.os, k.tape.trans h.tape, k.output.trans h.output, Nat.le_trans h.size k.size, fun i hi hm => (k.block i (Nat.lt_of_lt_of_le hi h.size) hm).trans (h.block i hi hm)⟩
theorem Bel.below {W w' : World} (h : Bel (baseOf W) W w') : Below W.heap.size W w' :=
  ⟨h.os, h.tape, h.output, h.size, fun k hk => h.block k hk (by show ¬ (W.heap.size ≤ k); omega)⟩
theorem OnlyAt.below {B : Base} {b : Nat} {w w' : World} (h : OnlyAt b w w') (hb : B.may b) : Bel B w w' :=
  ⟨h.os, h.tape, h.output, by rw [h.size]; exact Nat.le_refl _, fun k _ hm => h.block k (fun e => hm (by rw [e]; exact hb))⟩
theorem Fz.of {B : Base} {ρ σ : Ren} {h h' : Tr AObj} {w w' : World} (f : Fz B ρ h w) (hl : ρ.le σ) (hw : ∀ b, b < w.heap.size → NoW ρ h b → w'.heap[b]? = w.heap[b]?) (hd : ∀ b, b < w.heap.size → NoW ρ h b → NoW σ h' b) : Fz B σ h' w' := by
  intro n l e
  obtain ⟨h1, b, sh, c, e', fr, h2, h3, h4, h5⟩ := f n l e
  have hb : b < w.heap.size := (Array.getElem?_eq_some_iff.1 h3).1
  exact ⟨h1, b, sh, c, e', fr, hl _ _ h2, (hw b hb h4).trans h3, hd b hb h4, fun i x hx => by obtain ⟨v, a1, a2, a3⟩ := h5 i x hx; exact ⟨v, a1, VR.mono (hiF_mono B.F hl) _ _ a2, a3⟩⟩
theorem NoW.sub {ρ : Ren} {h h' : Tr AObj} {b : Nat} (k : NoW ρ h b) (hs : ∀ m o, m < top → h'.get m = some o → o.isRo = false → ∃ p, h.get m = some p ∧ p.isRo = false) : NoW ρ h' b := by
  intro m o N hm hg hr
  obtain ⟨p, e1, e2⟩ := hs m o hm hg hr
  exact k m p N hm e1 e2
def AObj.plain : AObj → Bool
  | .iter _ _ _ _ _ => false
  | .lent => false
  | _ => true
theorem Rel.block {B : Base} {ρ : Ren} {h : Tr AObj} {w : World} (r : Rel B ρ h w) {n : Nat} {o : AObj} {b N : Nat} (ht : n < top) (hg : h.get n = some o) (hr : ρ n = some (b, N)) :
    ∃ o', w.heap[b]? = some o' ∧ OR ρ N o o' ∧ (o.isRo = false → B.may b) := by
  obtain ⟨b', N', o', h1, h2, h3, h4⟩ := r.is n o ht hg
  rw [hr] at h1; cases h1
  exact ⟨o', h2, h3, h4⟩
theorem Under.keep {ρ : Ren} {w w' : World} {n m : Nat} {es : List (AV × AV)} {ex : Bool} {left : List (AV × AV)} {cur : Option (AV × AV)} {b : Nat}
    (u : Under ρ w n m es ex left cur) (hw : ∀ k, k ≠ b → w'.heap[k]? = w.heap[k]?) (hn : ∀ N, ρ n ≠ some (b, N)) (hm : ∀ N, ρ m ≠ some (b, N)) : Under ρ w' n m es ex left cur := by
  obtain ⟨b1, N, bm, M, l, clock, seen, h1, h2, h3, h4, h5⟩ := u
  exact ⟨b1, N, bm, M, l, clock, seen, h1, h2, (hw b1 (fun e => hn N (by rw [h1, e]))).trans h3, (hw bm (fun e => hm M (by rw [h2, e]))).trans h4, h5⟩
theorem Rel.put {B : Base} {ρ : Ren} {h : Tr AObj} {w w' : World} (r : Rel B ρ h w) {n : Nat} {p o : AObj} {o' : Obj} {b N : Nat} (ht : n < top) (hg : h.get n = some p) (hp : p.plain = true)
    (hro : p.isRo = false) (hr : ρ n = some (b, N)) (ho : o.plain = true) (hw : OnlyAt b w w') (hb : w'.heap[b]? = some o') (hO : OR ρ N o o') : Rel B ρ (h.put n (some o)) w' := by
  obtain ⟨_, _, _, hB⟩ := r.block ht hg hr
  have g : ∀ m, m < top → (h.put n (some o)).get m = if m = n then some o else h.get m := fun m hm => Tr.get_put _ _ _ _ ht hm
  refine ⟨?_, ?_, ?_, by rw [hw.size]; exact r.size, ?_, r.fz.of (Ren.le_refl _) (fun b1 _ hn => hw.block b1 fun e => hn n p N ht hg hro (by rw [e]; exact hr)) (fun b1 _ hn => hn.sub fun m q hm hq hqr => by
    rw [g m hm] at hq
    by_cases e : m = n
    · subst e; exact ⟨p, hg, hro⟩
    · rw [if_neg e] at hq; exact ⟨q, hq, hqr⟩)⟩
  · intro m q hm hq
    rw [g m hm] at hq
    by_cases e : m = n
    · subst e; rw [if_pos rfl] at hq; cases hq
      exact ⟨b, N, o', hr, hb, hO, fun _ => hB hro⟩
    · rw [if_neg e] at hq
      obtain ⟨b1, N1, o1, h1, h2, h3, h4⟩ := r.is m q hm hq
      refine ⟨b1, N1, o1, h1, (hw.block b1 fun e2 => ?_).trans h2, h3, h4⟩
      subst e2
      exact e (r.one m n q p b1 N1 N hm ht hq hg (.inr hro) h1 hr)
  · intro m k q q' b1 N1 M1 hm hk hq hq' hor h1 h2
    rw [g m hm] at hq; rw [g k hk] at hq'
    have live : ∀ j, j < top → ∀ x, (if j = n then some o else h.get j) = some x → ∃ y, h.get j = some y ∧ (x.isRo = false → y.isRo = false) := by
      intro j _ x hx
      by_cases e : j = n
      · subst e; exact ⟨p, hg, fun _ => hro⟩
      · rw [if_neg e] at hx; exact ⟨x, hx, id⟩
    obtain ⟨y, hy, hy'⟩ := live m hm q hq
    obtain ⟨z, hz, hz'⟩ := live k hk q' hq'
    exact r.one m k y z b1 N1 M1 hm hk hy hz (hor.imp hy' hz') h1 h2
  · intro i m es ex left cur hi hq
    rw [g i hi] at hq
    by_cases e : i = n
    · subst e; rw [if_pos rfl] at hq; cases hq; simp [AObj.plain] at ho
    · rw [if_neg e] at hq
      obtain ⟨hm, hl, u⟩ := r.iter i m es ex left cur hi hq
      have hmn : m ≠ n := by intro e2; subst e2; rw [hg] at hl; cases hl; simp [AObj.plain] at hp
      refine ⟨hm, by rw [g m hm, if_neg hmn]; exact hl, u.keep hw.block (fun M e2 => e ?_) (fun M e2 => hmn ?_)⟩
      · exact r.one i n _ p b M N hi ht hq hg (.inr hro) e2 hr
      · exact r.one m n _ p b M N hm ht hl hg (.inr hro) e2 hr
  · intro i j m es ex left cur es' ex' left' cur' hi hj h1 h2
    rw [g i hi] at h1; rw [g j hj] at h2
    by_cases e : i = n
    · rw [if_pos e] at h1; cases h1; simp [AObj.plain] at ho
    · rw [if_neg e] at h1
      by_cases e2 : j = n
      · rw [if_pos e2] at h2; cases h2; simp [AObj.plain] at ho
      · rw [if_neg e2] at h2; exact r.lone i j m es ex left cur es' ex' left' cur' hi hj h1 h2
theorem Rel.drop {B : Base} {ρ : Ren} {h : Tr AObj} {w : World} (r : Rel B ρ h w) {n : Nat} (ht : n < top) (hn : h.get n ≠ some .lent) : Rel B ρ (h.put n none) w := by
  have g : ∀ m, m < top → (h.put n none).get m = if m = n then none else h.get m := fun m hm => Tr.get_put _ _ _ _ ht hm
  refine ⟨?_, ?_, ?_, r.size, ?_, r.fz.of (Ren.le_refl _) (fun _ _ _ => rfl) (fun b1 _ hn => hn.sub fun m q hm hq hqr => by
    rw [g m hm] at hq
    by_cases e : m = n
    · rw [if_pos e] at hq; cases hq
    · rw [if_neg e] at hq; exact ⟨q, hq, hqr⟩)⟩
  · intro m q hm hq
    rw [g m hm] at hq
    by_cases e : m = n
    · rw [if_pos e] at hq; cases hq
    · rw [if_neg e] at hq; exact r.is m q hm hq
  · intro m k q q' b1 N1 M1 hm hk hq hq' hor h1 h2
    rw [g m hm] at hq; rw [g k hk] at hq'
    by_cases e : m = n
    · rw [if_pos e] at hq; cases hq
    · by_cases e2 : k = n
      · rw [if_pos e2] at hq'; cases hq'
      · rw [if_neg e] at hq; rw [if_neg e2] at hq'
        exact r.one m k q q' b1 N1 M1 hm hk hq hq' hor h1 h2
  · intro i m es ex left cur hi hq
    rw [g i hi] at hq
    by_cases e : i = n
    · rw [if_pos e] at hq; cases hq
    · rw [if_neg e] at hq
      obtain ⟨hm, hl, u⟩ := r.iter i m es ex left cur hi hq
      have hmn : m ≠ n := by intro e2; subst e2; exact hn hl
      exact ⟨hm, by rw [g m hm, if_neg hmn]; exact hl, u⟩
  · intro i j m es ex left cur es' ex' left' cur' hi hj h1 h2
    rw [g i hi] at h1; rw [g j hj] at h2
    by_cases e : i = n
    · rw [if_pos e] at h1; cases h1
    · rw [if_neg e] at h1
      by_cases e2 : j = n
      · rw [if_pos e2] at h2; cases h2
      · rw [if_neg e2] at h2; exact r.lone i j m es ex left cur es' ex' left' cur' hi hj h1 h2
theorem Rel.mono {B : Base} {ρ σ : Ren} {h : Tr AObj} {w : World} (r : Rel B ρ h w) (hl : ρ.le σ) : Rel B σ h w := by
  refine ⟨?_, ?_, ?_, r.size, r.lone, r.fz.of hl (fun _ _ _ => rfl) (fun b1 _ hn m q N hm hq hqr e => by
    obtain ⟨b2, N2, _, e2, _⟩ := r.is m q hm hq
    have := hl _ _ e2
    rw [e] at this; cases this
    exact hn m q _ hm hq hqr e2)⟩
  · intro m q hm hq
    obtain ⟨b1, N1, o1, h1, h2, h3, h4⟩ := r.is m q hm hq
    exact ⟨b1, N1, o1, hl _ _ h1, h2, h3.mono hl, h4⟩
  · intro m k q q' b1 N1 M1 hm hk hq hq' hor h1 h2
    obtain ⟨b2, N2, _, e2, _⟩ := r.is m q hm hq
    obtain ⟨b3, N3, _, e3, _⟩ := r.is k q' hk hq'
    have a := hl _ _ e2; have b := hl _ _ e3
    rw [h1] at a; rw [h2] at b; cases a; cases b
    exact r.one m k q q' b1 N1 M1 hm hk hq hq' hor e2 e3
  · intro i m es ex left cur hi hq
    obtain ⟨hm, hlent, u⟩ := r.iter i m es ex left cur hi hq
    exact ⟨hm, hlent, u.mono hl⟩
structure Grew (w w' : World) : Prop where
  os : w'.os = w.os
  tape : w'.tape = w.tape
  output : w'.output = w.output
  size : w.heap.size ≤ w'.heap.size
  block : ∀ k, k < w.heap.size → w'.heap[k]? = w.heap[k]?
theorem Grew.drew (w : World) : Grew w { w with drawn := w.drawn + 1 } := ⟨rfl, rfl, rfl, Nat.le_refl _, fun _ _ => rfl⟩
theorem Grew.alloc (w : World) (o : Obj) : Grew w { w with heap := w.heap.push o } :=
  ⟨rfl, rfl, rfl, by simp, fun k hk => by simp [Array.getElem?_push]; intro e; omega⟩
theorem Grew.trans {a b c : World} (h : Grew a b) (k : Grew b c) : Grew a c :=
  ⟨k.os.trans h.os, k.tape.trans h.tape, k.output.trans h.output, Nat.le_trans h.size k.size, fun i hi => (k.block i (Nat.lt_of_lt_of_le hi h.size)).trans (h.block i hi)⟩
theorem Grew.below {B : Base} {w w' : World} (h : Grew w w') (_ : ∀ k, w.heap.size ≤ k → B.may k) : Bel B w w' :=
  ⟨h.os, h.tape, h.output, h.size, fun k hk _ => h.block k hk⟩
theorem heap_lt {w : World} {b : Nat} {o : Obj} (h : w.heap[b]? = some o) : b < w.heap.size := (Array.getElem?_eq_some_iff.1 h).1
theorem Rel.grew {B : Base} {ρ : Ren} {h : Tr AObj} {w w' : World} (r : Rel B ρ h w) (g : Grew w w') : Rel B ρ h w' := by
  refine ⟨?_, r.one, ?_, fun k hk => r.size k (Nat.le_trans g.size hk), r.lone, r.fz.of (Ren.le_refl _) (fun b hb _ => g.block b hb) (fun _ _ hn => hn)⟩
  · intro m q hm hq
    obtain ⟨b1, N1, o1, h1, h2, h3, h4⟩ := r.is m q hm hq
    exact ⟨b1, N1, o1, h1, (g.block b1 (heap_lt h2)).trans h2, h3, h4⟩
  · intro i m es ex left cur hi hq
    obtain ⟨hm, hlent, b1, N, bm, M, l, clock, seen, h1, h2, h3, h4, h5⟩ := r.iter i m es ex left cur hi hq
    exact ⟨hm, hlent, b1, N, bm, M, l, clock, seen, h1, h2, (g.block b1 (heap_lt h3)).trans h3, (g.block bm (heap_lt h4)).trans h4, h5⟩
theorem Rel.name {B : Base} {ρ : Ren} {h : Tr AObj} {w : World} (r : Rel B ρ h w) {n : Nat} {o : AObj} {o' : Obj} {b N : Nat} (ht : n < top) (hn : ρ n = none) (ho : o.plain = true)
    (hb : w.heap[b]? = some o') (hB : o.isRo = false → B.may b) (hfz : ∀ k l, B.F k = some l → ∀ sh, ρ k ≠ some (b, sh)) (hfree : ∀ m p, m < top → h.get m = some p → ∀ M, ρ m ≠ some (b, M)) (hO : OR (updR ρ n (b, N)) N o o') : Rel B (updR ρ n (b, N)) (h.put n (some o)) w := by
  have hl : ρ.le (updR ρ n (b, N)) := updR_le hn
  have hno : h.get n = none := by
    cases e : h.get n with
    | none => rfl
    | some p => obtain ⟨_, _, _, h1, _⟩ := r.is n p ht e; rw [hn] at h1; cases h1
  have g : ∀ m, m < top → (h.put n (some o)).get m = if m = n then some o else h.get m := fun m hm => Tr.get_put _ _ _ _ ht hm
  refine ⟨?_, ?_, ?_, r.size, ?_, fun k l e => by
    obtain ⟨h1, b1, sh, c, e', fr, h2, h3, h4, h5⟩ := r.fz k l e
    refine ⟨h1, b1, sh, c, e', fr, hl _ _ h2, h3, fun m q M hm hq hqr e2 => ?_, fun i x hx => by obtain ⟨v, a1, a2, a3⟩ := h5 i x hx; exact ⟨v, a1, VR.mono (hiF_mono B.F hl) _ _ a2, a3⟩⟩
    rw [g m hm] at hq
    by_cases e3 : m = n
    · subst e3; rw [updR_self] at e2; cases e2; exact hfz k l e sh h2
    · rw [if_neg e3] at hq; rw [updR_ne ρ _ e3] at e2; exact h4 m q M hm hq hqr e2⟩
  · intro m q hm hq
    rw [g m hm] at hq
    by_cases e : m = n
    · subst e; rw [if_pos rfl] at hq; cases hq
      exact ⟨b, N, o', updR_self _ _ _, hb, hO, hB⟩
    · rw [if_neg e] at hq
      obtain ⟨b1, N1, o1, h1, h2, h3, h4⟩ := r.is m q hm hq
      exact ⟨b1, N1, o1, hl _ _ h1, h2, h3.mono hl, h4⟩
  · intro m k q q' b1 N1 M1 hm hk hq hq' hor h1 h2
    rw [g m hm] at hq; rw [g k hk] at hq'
    by_cases e : m = n
    · by_cases e2 : k = n
      · omega
      · rw [if_neg e2] at hq'
        subst e; rw [updR_self] at h1; cases h1
        rw [updR_ne ρ _ e2] at h2
        exact absurd h2 (hfree k q' hk hq' M1)
    · rw [if_neg e] at hq
      rw [updR_ne ρ _ e] at h1
      by_cases e2 : k = n
      · subst e2; rw [updR_self] at h2; cases h2
        exact absurd h1 (hfree m q hm hq N1)
      · rw [if_neg e2] at hq'
        rw [updR_ne ρ _ e2] at h2
        exact r.one m k q q' b1 N1 M1 hm hk hq hq' hor h1 h2
  · intro i m es ex left cur hi hq
    rw [g i hi] at hq
    by_cases e : i = n
    · subst e; rw [if_pos rfl] at hq; cases hq; simp [AObj.plain] at ho
    · rw [if_neg e] at hq
      obtain ⟨hm, hlent, u⟩ := r.iter i m es ex left cur hi hq
      have hmn : m ≠ n := by intro e2; subst e2; rw [hno] at hlent; cases hlent
      exact ⟨hm, by rw [g m hm, if_neg hmn]; exact hlent, u.mono hl⟩
  · intro i j m es ex left cur es' ex' left' cur' hi hj h1 h2
    rw [g i hi] at h1; rw [g j hj] at h2
    by_cases e : i = n
    · rw [if_pos e] at h1; cases h1; simp [AObj.plain] at ho
    · rw [if_neg e] at h1
      by_cases e2 : j = n
      · rw [if_pos e2] at h2; cases h2; simp [AObj.plain] at ho
      · rw [if_neg e2] at h2; exact r.lone i j m es ex left cur es' ex' left' cur' hi hj h1 h2
theorem Rel.new {B : Base} {ρ : Ren} {h : Tr AObj} {w : World} (r : Rel B ρ h w) {n : Nat} {o : AObj} {o' : Obj} {N : Nat} (ht : n < top) (hn : ρ n = none) (ho : o.plain = true)
    (hO : OR (updR ρ n (w.heap.size, N)) N o o') : Rel B (updR ρ n (w.heap.size, N)) (h.put n (some o)) { w with heap := w.heap.push o' } := by
  refine (r.grew (Grew.alloc w o')).name ht hn ho (by simp) (fun _ => r.size _ (Nat.le_refl _)) (fun k l e sh e2 => by
    obtain ⟨_, b1, sh1, c, e', fr, h2, h3, _⟩ := r.fz k l e
    rw [e2] at h2; cases h2
    exact absurd (heap_lt h3) (Nat.lt_irrefl _)) (fun m p hm hp M e => ?_) hO
  obtain ⟨b1, N1, o1, h1, h2, _⟩ := r.is m p hm hp
  rw [e] at h1; cases h1
  exact absurd (heap_lt h2) (Nat.lt_irrefl _)
structure Ext (a b : Nat) (ρ σ : Ren) : Prop where
  le : ρ.le σ
  out : ∀ k, ¬(a ≤ k ∧ k < b) → σ k = ρ k
theorem Ext.refl (a b : Nat) (ρ : Ren) : Ext a b ρ ρ := ⟨Ren.le_refl ρ, fun _ _ => rfl⟩
theorem Ext.trans {a b c : Nat} {ρ σ τ : Ren} (hab : a ≤ b) (hbc : b ≤ c) (h : Ext a b ρ σ) (k : Ext b c σ τ) : Ext a c ρ τ :=
  ⟨Ren.le_trans h.le k.le, fun j hj => (k.out j (by omega)).trans (h.out j (by omega))⟩
theorem Ext.upd {n : Nat} {ρ : Ren} {x : Nat × Nat} (h : ρ n = none) : Ext n (n + 1) ρ (updR ρ n x) :=
  ⟨updR_le h, fun k hk => updR_ne ρ x (by omega)⟩
def Free (a b : Nat) (ρ : Ren) : Prop := ∀ k, a ≤ k → k < b → ρ k = none
theorem Free.next {a b c : Nat} {ρ σ : Ren} (hf : Free a c ρ) (hab : a ≤ b) (e : Ext a b ρ σ) : Free b c σ := fun k h1 h2 => (e.out k (by omega)).trans (hf k (by omega) h2)
theorem Free.sub {a b c d : Nat} {ρ : Ren} (hf : Free a d ρ) (h1 : a ≤ b) (h2 : c ≤ d) : Free b c ρ := fun k p q => hf k (by omega) (by omega)
end Go.Rn

namespace Go.Rn
open Go.RowKit
theorem rdN_same {n : Nat} {o : AObj} {s s1 : AS} (h : rdN n s = .ok o s1) : n < s.nx ∧ s.h.get n = some o ∧ s1.h = s.h ∧ s1.nx = s.nx := by
  obtain ⟨h1, h2, rfl⟩ := rdN_inv h
  by_cases e : n < s.mark
  · rw [if_pos e]; exact ⟨h1, h2, rfl, rfl⟩
  · rw [if_neg e]; exact ⟨h1, h2, rfl, rfl⟩
theorem wrN_same {n : Nat} {o : Option AObj} {u : Unit} {s s1 : AS} (h : wrN n o s = .ok u s1) :
    n < s.nx ∧ n < top ∧ (∃ p, s.h.get n = some p ∧ p.isRo = false) ∧ s1.h = s.h.put n o ∧ s1.nx = s.nx := by
  obtain ⟨h1, h2, h3, rfl⟩ := wrN_inv h
  by_cases e : n < s.mark
  · rw [if_pos e]; exact ⟨h1, h2, h3, rfl, rfl⟩
  · rw [if_neg e]; exact ⟨h1, h2, h3, rfl, rfl⟩
theorem ble_true {n m : Nat} : Nat.ble n m = true ↔ n ≤ m := by rw [Nat.ble_eq]
theorem beqN_true {n m : Nat} : Nat.beq n m = true ↔ n = m := by rw [Nat.beq_eq]
theorem and_true {a b : Bool} : and a b = true ↔ a = true ∧ b = true := Bool.and_eq_true_iff
theorem gather_some {t : Tr AV} {z : List AV} : ∀ {k off : Nat} {l : List AV}, gather t z k off = some l → l.length = k ∧ ∀ i, i < k → cellAt t z (off + i) = l[i]?
  | 0, off, l, h => by
    simp only [gather] at h; injection h with h; subst h
    exact ⟨rfl, fun i hi => by omega⟩
  | k + 1, off, l, h => by
    simp only [gather] at h
    cases e : cellAt t z off with
    | none => rw [e] at h; cases h
    | some v =>
      simp only [e] at h
      cases e2 : gather t z k (off + 1) with
      | none => simp only [e2] at h; cases h
      | some r =>
        simp only [e2] at h; injection h with h; subst h
        obtain ⟨a, b⟩ := gather_some e2
        refine ⟨by simp [a], fun i hi => ?_⟩
        cases i with
        | zero => simpa using e
        | succ i =>
          have := b i (by omega)
          rw [show off + 1 + i = off + (i + 1) from by omega] at this
          simpa using this
def Row (ρ : Ren) (c : Array Value) (n : Nat) (at_ : Nat → Option AV) : Prop :=
  ∀ i, i < n → ∃ x v, at_ i = some x ∧ x.oneCell = true ∧ c[i]? = some v ∧ VR ρ x v
theorem Row.get {ρ : Ren} {c : Array Value} {n : Nat} {at_ : Nat → Option AV} (r : Row ρ c n at_) {off k : Nat} {l : List AV} (hk : off + k ≤ n) (hl : l.length = k)
    (h : ∀ i, i < k → at_ (off + i) = l[i]?) :
    ∃ vs : List Value, vs.length = k ∧ VRs ρ l vs ∧ (∀ j v, vs[j]? = some v → c[off + j]? = some v) ∧ ∀ x ∈ l, x.oneCell = true := by
  have cell : ∀ i, i < k → ∃ x v, l[i]? = some x ∧ x.oneCell = true ∧ c[off + i]? = some v ∧ VR ρ x v := by
    intro i hi
    obtain ⟨x, v, h1, h2, h3, h4⟩ := r (off + i) (by omega)
    exact ⟨x, v, by rw [← h i hi]; exact h1, h2, h3, h4⟩
  refine ⟨(List.range k).map (fun i => c.getD (off + i) undef), by simp, ?_, ?_, ?_⟩
  · refine VRs.of_get _ _ (by simp [hl]) (fun i a b ha hb => ?_)
    have hi : i < k := by
      have := List.getElem?_eq_some_iff.1 ha
      obtain ⟨h1, _⟩ := this; omega
    obtain ⟨x, v, h1, h2, h3, h4⟩ := cell i hi
    rw [h1] at ha; cases ha
    have hb' : b = v := by
      rw [List.getElem?_map, List.getElem?_range hi] at hb
      simp only [Option.map_some, Option.some.injEq] at hb
      rw [← hb, Array.getD_eq_getD_getElem?, h3]; rfl
    rw [hb']; exact h4
  · intro j v hv
    have hj : j < k := by
      have := List.getElem?_eq_some_iff.1 hv
      obtain ⟨h1, _⟩ := this; simpa using h1
    obtain ⟨x, u, h1, h2, h3, h4⟩ := cell j hj
    rw [List.getElem?_map, List.getElem?_range hj] at hv
    simp only [Option.map_some, Option.some.injEq] at hv
    rw [← hv, Array.getD_eq_getD_getElem?, h3]; rfl
  · intro x hx
    obtain ⟨i, hi, rfl⟩ := List.getElem_of_mem hx
    obtain ⟨y, v, h1, h2, h3, h4⟩ := cell i (by omega)
    rw [List.getElem?_eq_getElem hi] at h1; cases h1; exact h2
theorem load_row {P : Program} {w : World} {b off : Nat} {c : Array Value} {e : TypeId} {fr : Nat × Nat} {vs : List Value} (hb : w.heap[b]? = some (.cells c e fr))
    (h : ∀ j v, vs[j]? = some v → c[off + j]? = some v) : (loadCells ⟨b, off, none⟩ vs.length).run P w = .ok vs.toArray w := by
  refine run_loadCells_list w ⟨b, off, none⟩ vs (fun j v hv => ?_)
  have hadd : (Addr.mk b off none).add j = ⟨b, off + j, none⟩ := by
    unfold Addr.add
    by_cases q : j = 0
    · subst q; simp
    · rw [if_neg q]
  rw [hadd]
  simp only [World.cell?, hb]
  exact h j v hv
theorem readCells_sim {P : Program} {B : Base} {ρ : Ren} {w : World} {n off k : Nat} {l : List AV} {s s1 : AS} {b N : Nat} (fi : Fine s) (r : Rel B ρ s.h w)
    (h : readCells n off k s = .ok l s1) (hn : ρ n = some (b, N)) :
    s1.h = s.h ∧ s1.nx = s.nx ∧ l.length = k ∧ (∀ x ∈ l, x.oneCell = true) ∧ ∃ vs : List Value, (loadCells ⟨b, off, none⟩ k).run P w = .ok vs.toArray w ∧ VRs ρ l vs ∧
      ∀ j v, vs[j]? = some v → w.cell? ⟨b, off + j, none⟩ = some v := by
  cases k with
  | zero =>
    have h' : M.pure [] s = .ok l s1 := h
    obtain ⟨rfl, rfl⟩ := pure_inv h'
    exact ⟨rfl, rfl, rfl, fun x hx => (by cases hx), [], rfl, by simp [VRs], fun j v h => (by simp at h)⟩
  | succ k =>
    unfold readCells at h
    obtain ⟨o, s2, h1, h2⟩ := M.bind_inv h
    obtain ⟨hx, hg, hh, hnx⟩ := rdN_same h1
    have ht : n < top := Nat.lt_of_lt_of_le hx fi.nx
    obtain ⟨o', hb, hO, _⟩ := r.block ht hg hn
    cases o with
    | cells m t z =>
      obtain ⟨q1, q2⟩ := withB_inv h2
      obtain ⟨q3, rfl⟩ := lift_inv q2
      obtain ⟨c, e, rfl, hc, hm, row⟩ := hO
      obtain ⟨g1, g2⟩ := gather_some q3
      obtain ⟨vs, v1, v2, v3, v4⟩ := Row.get (ρ := ρ) (c := c) (n := m) (at_ := cellAt t z) row (ble_true.1 q1) g1 g2
      refine ⟨hh, hnx, g1, v4, vs, ?_, v2, fun j v hv => by simp only [World.cell?, hb]; exact v3 j v hv⟩
      have := load_row (P := P) hb v3
      rw [v1] at this; exact this
    | ro m t =>
      obtain ⟨q1, q2⟩ := withB_inv h2
      obtain ⟨q3, rfl⟩ := lift_inv q2
      obtain ⟨c, e, fr, rfl, hc, hm, row⟩ := hO
      obtain ⟨g1, g2⟩ := gather_some q3
      have row' : Row ρ c m (cellAt t []) := by
        intro i hi
        obtain ⟨x, v, a1, a2, a3, a4⟩ := row i hi
        exact ⟨x, v, by unfold cellAt; rw [a1], a2, a3, a4⟩
      obtain ⟨vs, v1, v2, v3, v4⟩ := row'.get (ble_true.1 q1) g1 g2
      refine ⟨hh, hnx, g1, v4, vs, ?_, v2, fun j v hv => by simp only [World.cell?, hb]; exact v3 j v hv⟩
      have := load_row (P := P) hb v3
      rw [v1] at this; exact this
    | _ => cases h2
theorem setRow_only {w : World} {b : Nat} {cs c : Array Value} {e : TypeId} {fr : Nat × Nat} (hb : w.heap[b]? = some (.cells c e fr)) :
    OnlyAt b w (w.setRow b cs) ∧ (w.setRow b cs).heap[b]? = some (.cells cs e fr) := by
  refine ⟨⟨rfl, rfl, rfl, by simp [World.setRow], fun k hk => ?_⟩, setRow_heap w b c cs e fr hb⟩
  simp only [World.setRow, Array.getElem?_modify]
  rw [if_neg (by omega)]
theorem oneCell'_of {ρ : Ren} {x : AV} {v : Value} (h : VR ρ x v) (hx : x.oneCell = true) : v.oneCell' = true := by
  cases v with
  | agg cs => exact absurd rfl (VR.oneCell h hx cs).1
  | tuple cs => exact absurd rfl (VR.oneCell h hx cs).2
  | _ => rfl
theorem oneCells'_of {ρ : Ren} : ∀ {l : List AV} {vs : List Value}, VRs ρ l vs → (∀ x ∈ l, x.oneCell = true) → ∀ v ∈ vs, v.oneCell' = true
  | [], vs, h, _, v, hv => by simp only [VRs] at h; subst h; cases hv
  | x :: l, vs, h, hx, v, hv => by
    simp only [VRs] at h
    obtain ⟨y, ys, rfl, a, b⟩ := h
    rcases List.mem_cons.1 hv with rfl | hv
    · exact oneCell'_of a (hx x List.mem_cons_self)
    · exact oneCells'_of b (fun z hz => hx z (List.mem_cons_of_mem _ hz)) v hv
theorem Row.set {ρ : Ren} {c : Array Value} {n : Nat} {t : Tr AV} {z : List AV} (r : Row ρ c n (cellAt t z)) {off m : Nat} {l : List AV} {vs : List Value} (hl : VRs ρ l vs) (h1 : ∀ x ∈ l, x.oneCell = true)
    (hoff : off ≤ n) (hm : m = max n (off + l.length)) (hc : m ≤ c.size) (ht : m ≤ top) :
    Row ρ ((c.toList.take off ++ vs ++ c.toList.drop (off + vs.length)).toArray) m (cellAt (Tr.fill l off t) z) := by
  have hlen : l.length = vs.length := hl.length
  intro i hi
  have hcat : cellAt (Tr.fill l off t) z i = match (Tr.fill l off t).get i with | some v => some v | none => z[i % z.length]? := rfl
  rw [hcat, Tr.get_fill _ _ _ _ (by omega) (by omega)]
  by_cases q : off ≤ i ∧ i < off + l.length
  · rw [if_pos q]
    obtain ⟨x, hx⟩ : ∃ x, l[i - off]? = some x := ⟨l[i - off]'(by omega), List.getElem?_eq_getElem (by omega)⟩
    obtain ⟨v, hv, hr⟩ := hl.get (i - off) x hx
    refine ⟨x, v, by rw [hx], h1 x (List.mem_of_getElem? hx), ?_, hr⟩
    simp only [List.getElem?_toArray]
    rw [List.append_assoc, List.getElem?_append_right (by simp; omega)]
    simp only [List.length_take, Array.length_toList]
    rw [Nat.min_eq_left (by omega), List.getElem?_append_left (by omega)]
    exact hv
  · rw [if_neg q]
    have hin : i < n := by omega
    obtain ⟨x, v, a1, a2, a3, a4⟩ := r i hin
    refine ⟨x, v, a1, a2, ?_, a4⟩
    simp only [List.getElem?_toArray]
    by_cases q2 : i < off
    · rw [List.append_assoc, List.getElem?_append_left (by simp; omega), List.getElem?_take_of_lt q2]
      simpa using a3
    · rw [List.getElem?_append_right (by simp; omega)]
      simp only [List.length_append, List.length_take, Array.length_toList, List.getElem?_drop]
      rw [Nat.min_eq_left (by omega)]
      rw [show off + vs.length + (i - (off + vs.length)) = i from by omega]
      simpa using a3
theorem size_set {c : Array Value} {vs : List Value} {off : Nat} (h : off + vs.length ≤ c.size) : ((c.toList.take off ++ vs ++ c.toList.drop (off + vs.length)).toArray).size = c.size := by
  simp; omega
theorem store_row {P : Program} {w : World} {b off : Nat} {c : Array Value} {e : TypeId} {vs : List Value} (hb : w.heap[b]? = some (.cells c e (0, 0))) (h : off + vs.length ≤ c.size) (h1 : ∀ v ∈ vs, v.oneCell' = true) :
    (storeCells ⟨b, off, none⟩ vs).run P w = .ok () (w.setRow b (c.toList.take off ++ vs ++ c.toList.drop (off + vs.length)).toArray) := by
  have := run_storeCells_at P b off e vs 0 c w hb (by simpa using h) h1
  simpa using this
theorem writeCells_sim {P : Program} {B : Base} {ρ : Ren} {w : World} {n off : Nat} {l : List AV} {vs : List Value} {u : Unit} {s s1 : AS} {b N : Nat} (fi : Fine s) (r : Rel B ρ s.h w)
    (h : writeCells n off l s = .ok u s1) (hn : ρ n = some (b, N)) (hl : VRs ρ l vs) :
    s1.nx = s.nx ∧ ∃ w', (storeCells ⟨b, off, none⟩ vs).run P w = .ok () w' ∧ Rel B ρ s1.h w' ∧ Bel B w w' := by
  cases l with
  | nil =>
    simp only [VRs] at hl; subst hl
    have h' : M.pure () s = .ok u s1 := h
    obtain ⟨_, rfl⟩ := pure_inv h'
    exact ⟨rfl, w, rfl, r, Bel.refl _ _⟩
  | cons x l =>
    unfold writeCells at h
    obtain ⟨o, s2, h1, h2⟩ := M.bind_inv h
    obtain ⟨hx, hg, hh, hnx⟩ := rdN_same h1
    have ht : n < top := Nat.lt_of_lt_of_le hx fi.nx
    obtain ⟨o', hb, hO, hB⟩ := r.block ht hg hn
    cases o with
    | cells m t z =>
      obtain ⟨q1, q2⟩ := withB_inv h2
      obtain ⟨q3, q4⟩ := and_true.1 q1
      obtain ⟨q5, q6⟩ := and_true.1 q4
      obtain ⟨_, _, _, e1, e2⟩ := wrN_same q2
      obtain ⟨c, e, rfl, hc, hm, row⟩ := hO
      have hlen : (x :: l).length = vs.length := hl.length
      have h3 : off + (x :: l).length ≤ m := ble_true.1 q3
      have h4 : m ≤ top := ble_true.1 q5
      have h5 : ∀ y ∈ x :: l, y.oneCell = true := fun y hy => List.all_eq_true.1 q6 y hy
      have hst := store_row (P := P) (off := off) (vs := vs) hb (by omega) (oneCells'_of hl h5)
      obtain ⟨g1, g2⟩ := setRow_only (cs := (c.toList.take off ++ vs ++ c.toList.drop (off + vs.length)).toArray) hb
      refine ⟨by rw [e2, hnx], _, hst, ?_, g1.below (hB rfl)⟩
      rw [e1, hh]
      refine r.put ht hg rfl rfl hn rfl g1 g2 ?_
      refine ⟨_, e, rfl, (size_set (by omega)).trans hc, hm, ?_⟩
      exact Row.set (ρ := ρ) (c := c) (n := m) row hl h5 (by omega) (by omega) (by omega) h4
    | _ => cases h2
theorem cellAt_fill {l : List AV} {i : Nat} (hl : l.length ≤ top) (hi : i < l.length) : cellAt (Tr.fill l 0 .nil) [] i = l[i]? := by
  unfold cellAt
  rw [Tr.get_fill _ _ _ _ (by omega) (by omega), if_pos (by omega)]
  rw [Nat.sub_zero, List.getElem?_eq_getElem hi]
theorem newRow_sim {P : Program} {B : Base} {ρ : Ren} {w : World} {l : List AV} {vs : List Value} {n : Nat} {s s1 : AS} (e : TypeId) (rest : List Value) (r : Rel B ρ s.h w) (hf : Free s.nx s1.nx ρ)
    (h : newRow l s = .ok n s1) (hl : VRs ρ l vs) :
    n = s.nx ∧ s1.nx = s.nx + 1 ∧ ∃ σ, Ext s.nx s1.nx ρ σ ∧ σ n = some (w.heap.size, vs.length + rest.length) ∧
      (Go.newRow e (vs ++ rest).toArray).run P w = .ok ⟨w.heap.size, 0, none⟩ { w with heap := w.heap.push (.cells (vs ++ rest).toArray e) } ∧
      Rel B σ s1.h { w with heap := w.heap.push (.cells (vs ++ rest).toArray e) } := by
  unfold newRow at h
  obtain ⟨q1, q2⟩ := withB_inv h
  obtain ⟨q3, q4⟩ := and_true.1 q1
  obtain ⟨ht, rfl, rfl⟩ := newN_inv q2
  have h1 : ∀ y ∈ l, y.oneCell = true := fun y hy => List.all_eq_true.1 q4 y hy
  have h2 : l.length ≤ top := ble_true.1 q3
  have hlen := hl.length
  have hnone : ρ s.nx = none := hf s.nx (Nat.le_refl _) (Nat.lt_succ_self _)
  refine ⟨rfl, rfl, updR ρ s.nx (w.heap.size, vs.length + rest.length), Ext.upd hnone, updR_self _ _ _, rfl, ?_⟩
  refine r.new ht hnone rfl ?_
  refine ⟨_, e, rfl, by simp, by omega, fun i hi => ?_⟩
  obtain ⟨x, hx⟩ : ∃ x, l[i]? = some x := ⟨l[i]'hi, List.getElem?_eq_getElem hi⟩
  obtain ⟨v, hv, hr⟩ := hl.get i x hx
  refine ⟨x, v, by rw [cellAt_fill h2 hi]; exact hx, h1 x (List.mem_of_getElem? hx), ?_, hr.mono (updR_le hnone)⟩
  simp only [List.getElem?_toArray]
  rw [List.getElem?_append_left (by omega)]; exact hv
end Go.Rn
