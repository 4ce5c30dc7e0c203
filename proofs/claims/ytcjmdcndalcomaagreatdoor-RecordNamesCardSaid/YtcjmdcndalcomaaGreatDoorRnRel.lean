/- How a world stays one of its names: at a write, at a new block, at a name that is not asked for any more. -/
import Derived.Test.YtcjmdcndalcomaaGreatDoorRnLocalAll
import Derived.Below
import Derived.Laws.CopyRow
import Derived.Laws.Cells
namespace Go.Rn
open Go.RowKit

def updR (ρ : Ren) (n : Nat) (x : Nat × Nat) : Ren := fun k => if k = n then some x else ρ k
theorem updR_le {ρ : Ren} {n : Nat} {x : Nat × Nat} (h : ρ n = none) : ρ.le (updR ρ n x) := by
  intro k y e
  unfold updR
  by_cases q : k = n
  · subst q; rw [h] at e; cases e
  · rw [if_neg q]; exact e
theorem updR_self (ρ : Ren) (n : Nat) (x : Nat × Nat) : updR ρ n x n = some x := by simp [updR]
theorem updR_ne (ρ : Ren) {n k : Nat} (x : Nat × Nat) (h : k ≠ n) : updR ρ n x k = ρ k := by simp [updR, h]

/-- One block at most is another one. -/
structure OnlyAt (b : Nat) (w w' : World) : Prop where
  os : w'.os = w.os
  tape : w'.tape = w.tape
  output : w'.output = w.output
  size : w'.heap.size = w.heap.size
  block : ∀ k, k ≠ b → w'.heap[k]? = w.heap[k]?
theorem OnlyAt.below {B b : Nat} {w w' : World} (h : OnlyAt b w w') (hb : B ≤ b) : Below B w w' :=
  ⟨h.os, h.tape, h.output, by rw [h.size]; exact Nat.le_refl _, fun k hk => h.block k (by omega)⟩

/-- No map that is gone through. -/
def AObj.plain : AObj → Bool
  | .iter _ _ _ _ _ => false
  | .lent => false
  | _ => true

theorem Rel.block {B : Nat} {ρ : Ren} {h : Tr AObj} {w : World} (r : Rel B ρ h w) {n : Nat} {o : AObj} {b N : Nat} (ht : n < top) (hg : h.get n = some o) (hr : ρ n = some (b, N)) :
    ∃ o', w.heap[b]? = some o' ∧ OR ρ N o o' ∧ (o.isRo = false → B ≤ b) := by
  obtain ⟨b', N', o', h1, h2, h3, h4⟩ := r.is n o ht hg
  rw [hr] at h1; cases h1
  exact ⟨o', h2, h3, h4⟩

theorem Under.keep {ρ : Ren} {w w' : World} {n m : Nat} {es : List (AV × AV)} {ex : Bool} {left : List (AV × AV)} {cur : Option (AV × AV)} {b : Nat}
    (u : Under ρ w n m es ex left cur) (hw : ∀ k, k ≠ b → w'.heap[k]? = w.heap[k]?) (hn : ∀ N, ρ n ≠ some (b, N)) (hm : ∀ N, ρ m ≠ some (b, N)) : Under ρ w' n m es ex left cur := by
  obtain ⟨b1, N, bm, M, l, clock, seen, h1, h2, h3, h4, h5⟩ := u
  exact ⟨b1, N, bm, M, l, clock, seen, h1, h2, (hw b1 (fun e => hn N (by rw [h1, e]))).trans h3, (hw bm (fun e => hm M (by rw [h2, e]))).trans h4, h5⟩

theorem Rel.put {B : Nat} {ρ : Ren} {h : Tr AObj} {w w' : World} (r : Rel B ρ h w) {n : Nat} {p o : AObj} {o' : Obj} {b N : Nat} (ht : n < top) (hg : h.get n = some p) (hp : p.plain = true)
    (hro : p.isRo = false) (hr : ρ n = some (b, N)) (ho : o.plain = true) (hw : OnlyAt b w w') (hb : w'.heap[b]? = some o') (hO : OR ρ N o o') : Rel B ρ (h.put n (some o)) w' := by
  obtain ⟨_, _, _, hB⟩ := r.block ht hg hr
  have g : ∀ m, m < top → (h.put n (some o)).get m = if m = n then some o else h.get m := fun m hm => Tr.get_put _ _ _ _ ht hm
  refine ⟨?_, ?_, ?_, by rw [hw.size]; exact r.size, ?_⟩
  · intro m q hm hq
    rw [g m hm] at hq
    by_cases e : m = n
    · subst e; rw [if_pos rfl] at hq; cases hq
      exact ⟨b, N, o', hr, hb, hO, fun _ => hB hro⟩
    · rw [if_neg e] at hq
      obtain ⟨b1, N1, o1, h1, h2, h3, h4⟩ := r.is m q hm hq
      refine ⟨b1, N1, o1, h1, (hw.block b1 fun e2 => ?_).trans h2, h3, h4⟩
      subst e2
      exact e (r.one m n q p b1 N1 N hm ht hq hg h1 hr)
  · intro m k q q' b1 N1 M1 hm hk hq hq' h1 h2
    rw [g m hm] at hq; rw [g k hk] at hq'
    have live : ∀ j, j < top → ∀ x, (if j = n then some o else h.get j) = some x → ∃ y, h.get j = some y := by
      intro j _ x hx
      by_cases e : j = n
      · subst e; exact ⟨p, hg⟩
      · rw [if_neg e] at hx; exact ⟨x, hx⟩
    obtain ⟨y, hy⟩ := live m hm q hq
    obtain ⟨z, hz⟩ := live k hk q' hq'
    exact r.one m k y z b1 N1 M1 hm hk hy hz h1 h2
  · intro i m es ex left cur hi hq
    rw [g i hi] at hq
    by_cases e : i = n
    · subst e; rw [if_pos rfl] at hq; cases hq; simp [AObj.plain] at ho
    · rw [if_neg e] at hq
      obtain ⟨hm, hl, u⟩ := r.iter i m es ex left cur hi hq
      have hmn : m ≠ n := by intro e2; subst e2; rw [hg] at hl; cases hl; simp [AObj.plain] at hp
      refine ⟨hm, by rw [g m hm, if_neg hmn]; exact hl, u.keep hw.block (fun M e2 => e ?_) (fun M e2 => hmn ?_)⟩
      · exact r.one i n _ p b M N hi ht hq hg e2 hr
      · exact r.one m n _ p b M N hm ht hl hg e2 hr
  · intro i j m es ex left cur es' ex' left' cur' hi hj h1 h2
    rw [g i hi] at h1; rw [g j hj] at h2
    by_cases e : i = n
    · rw [if_pos e] at h1; cases h1; simp [AObj.plain] at ho
    · rw [if_neg e] at h1
      by_cases e2 : j = n
      · rw [if_pos e2] at h2; cases h2; simp [AObj.plain] at ho
      · rw [if_neg e2] at h2; exact r.lone i j m es ex left cur es' ex' left' cur' hi hj h1 h2

/-- A name that is not asked for any more. -/
theorem Rel.drop {B : Nat} {ρ : Ren} {h : Tr AObj} {w : World} (r : Rel B ρ h w) {n : Nat} (ht : n < top) (hn : h.get n ≠ some .lent) : Rel B ρ (h.put n none) w := by
  have g : ∀ m, m < top → (h.put n none).get m = if m = n then none else h.get m := fun m hm => Tr.get_put _ _ _ _ ht hm
  refine ⟨?_, ?_, ?_, r.size, ?_⟩
  · intro m q hm hq
    rw [g m hm] at hq
    by_cases e : m = n
    · rw [if_pos e] at hq; cases hq
    · rw [if_neg e] at hq; exact r.is m q hm hq
  · intro m k q q' b1 N1 M1 hm hk hq hq' h1 h2
    rw [g m hm] at hq; rw [g k hk] at hq'
    by_cases e : m = n
    · rw [if_pos e] at hq; cases hq
    · by_cases e2 : k = n
      · rw [if_pos e2] at hq'; cases hq'
      · rw [if_neg e] at hq; rw [if_neg e2] at hq'
        exact r.one m k q q' b1 N1 M1 hm hk hq hq' h1 h2
  · intro i m es ex left cur hi hq
    rw [g i hi] at hq
    by_cases e : i = n
    · rw [if_pos e] at hq; cases hq
    · rw [if_neg e] at hq
      obtain ⟨hm, hl, u⟩ := r.iter i m es ex left cur hi hq
      have hmn : m ≠ n := by intro e2; subst e2; exact hn hl
      exact ⟨hm, by rw [g m hm, if_neg hmn]; exact hl, u⟩
  · intro i j m es ex left cur es' ex' left' cur' hi hj h1 h2
    rw [g i hi] at h1; rw [g j hj] at h2
    by_cases e : i = n
    · rw [if_pos e] at h1; cases h1
    · rw [if_neg e] at h1
      by_cases e2 : j = n
      · rw [if_pos e2] at h2; cases h2
      · rw [if_neg e2] at h2; exact r.lone i j m es ex left cur es' ex' left' cur' hi hj h1 h2

theorem Rel.mono {B : Nat} {ρ σ : Ren} {h : Tr AObj} {w : World} (r : Rel B ρ h w) (hl : ρ.le σ) : Rel B σ h w := by
  refine ⟨?_, ?_, ?_, r.size, r.lone⟩
  · intro m q hm hq
    obtain ⟨b1, N1, o1, h1, h2, h3, h4⟩ := r.is m q hm hq
    exact ⟨b1, N1, o1, hl _ _ h1, h2, h3.mono hl, h4⟩
  · intro m k q q' b1 N1 M1 hm hk hq hq' h1 h2
    obtain ⟨b2, N2, _, e2, _⟩ := r.is m q hm hq
    obtain ⟨b3, N3, _, e3, _⟩ := r.is k q' hk hq'
    have a := hl _ _ e2; have b := hl _ _ e3
    rw [h1] at a; rw [h2] at b; cases a; cases b
    exact r.one m k q q' b1 N1 M1 hm hk hq hq' e2 e3
  · intro i m es ex left cur hi hq
    obtain ⟨hm, hlent, u⟩ := r.iter i m es ex left cur hi hq
    exact ⟨hm, hlent, u.mono hl⟩

/-- New blocks behind all others, or draws. -/
structure Grew (w w' : World) : Prop where
  os : w'.os = w.os
  tape : w'.tape = w.tape
  output : w'.output = w.output
  size : w.heap.size ≤ w'.heap.size
  block : ∀ k, k < w.heap.size → w'.heap[k]? = w.heap[k]?
theorem Grew.refl (w : World) : Grew w w := ⟨rfl, rfl, rfl, Nat.le_refl _, fun _ _ => rfl⟩
theorem Grew.drew (w : World) : Grew w { w with drawn := w.drawn + 1 } := ⟨rfl, rfl, rfl, Nat.le_refl _, fun _ _ => rfl⟩
theorem Grew.alloc (w : World) (o : Obj) : Grew w { w with heap := w.heap.push o } :=
  ⟨rfl, rfl, rfl, by simp, fun k hk => by simp [Array.getElem?_push]; intro e; omega⟩
theorem Grew.trans {a b c : World} (h : Grew a b) (k : Grew b c) : Grew a c :=
  ⟨k.os.trans h.os, k.tape.trans h.tape, k.output.trans h.output, Nat.le_trans h.size k.size, fun i hi => (k.block i (Nat.lt_of_lt_of_le hi h.size)).trans (h.block i hi)⟩
theorem Grew.below {B : Nat} {w w' : World} (h : Grew w w') (hB : B ≤ w.heap.size) : Below B w w' :=
  ⟨h.os, h.tape, h.output, h.size, fun k hk => h.block k (Nat.lt_of_lt_of_le hk hB)⟩
theorem heap_lt {w : World} {b : Nat} {o : Obj} (h : w.heap[b]? = some o) : b < w.heap.size := (Array.getElem?_eq_some_iff.1 h).1
theorem Rel.grew {B : Nat} {ρ : Ren} {h : Tr AObj} {w w' : World} (r : Rel B ρ h w) (g : Grew w w') : Rel B ρ h w' := by
  refine ⟨?_, r.one, ?_, Nat.le_trans r.size g.size, r.lone⟩
  · intro m q hm hq
    obtain ⟨b1, N1, o1, h1, h2, h3, h4⟩ := r.is m q hm hq
    exact ⟨b1, N1, o1, h1, (g.block b1 (heap_lt h2)).trans h2, h3, h4⟩
  · intro i m es ex left cur hi hq
    obtain ⟨hm, hlent, b1, N, bm, M, l, clock, seen, h1, h2, h3, h4, h5⟩ := r.iter i m es ex left cur hi hq
    exact ⟨hm, hlent, b1, N, bm, M, l, clock, seen, h1, h2, (g.block b1 (heap_lt h3)).trans h3, (g.block bm (heap_lt h4)).trans h4, h5⟩

/-- A name for a block that no name is for. -/
theorem Rel.name {B : Nat} {ρ : Ren} {h : Tr AObj} {w : World} (r : Rel B ρ h w) {n : Nat} {o : AObj} {o' : Obj} {b N : Nat} (ht : n < top) (hn : ρ n = none) (ho : o.plain = true)
    (hb : w.heap[b]? = some o') (hB : o.isRo = false → B ≤ b) (hfree : ∀ m p, m < top → h.get m = some p → ∀ M, ρ m ≠ some (b, M)) (hO : OR (updR ρ n (b, N)) N o o') : Rel B (updR ρ n (b, N)) (h.put n (some o)) w := by
  have hl : ρ.le (updR ρ n (b, N)) := updR_le hn
  have hno : h.get n = none := by
    cases e : h.get n with
    | none => rfl
    | some p => obtain ⟨_, _, _, h1, _⟩ := r.is n p ht e; rw [hn] at h1; cases h1
  have g : ∀ m, m < top → (h.put n (some o)).get m = if m = n then some o else h.get m := fun m hm => Tr.get_put _ _ _ _ ht hm
  refine ⟨?_, ?_, ?_, r.size, ?_⟩
  · intro m q hm hq
    rw [g m hm] at hq
    by_cases e : m = n
    · subst e; rw [if_pos rfl] at hq; cases hq
      exact ⟨b, N, o', updR_self _ _ _, hb, hO, hB⟩
    · rw [if_neg e] at hq
      obtain ⟨b1, N1, o1, h1, h2, h3, h4⟩ := r.is m q hm hq
      exact ⟨b1, N1, o1, hl _ _ h1, h2, h3.mono hl, h4⟩
  · intro m k q q' b1 N1 M1 hm hk hq hq' h1 h2
    rw [g m hm] at hq; rw [g k hk] at hq'
    by_cases e : m = n
    · by_cases e2 : k = n
      · omega
      · rw [if_neg e2] at hq'
        subst e; rw [updR_self] at h1; cases h1
        rw [updR_ne ρ _ e2] at h2
        exact absurd h2 (hfree k q' hk hq' M1)
    · rw [if_neg e] at hq
      rw [updR_ne ρ _ e] at h1
      by_cases e2 : k = n
      · subst e2; rw [updR_self] at h2; cases h2
        exact absurd h1 (hfree m q hm hq N1)
      · rw [if_neg e2] at hq'
        rw [updR_ne ρ _ e2] at h2
        exact r.one m k q q' b1 N1 M1 hm hk hq hq' h1 h2
  · intro i m es ex left cur hi hq
    rw [g i hi] at hq
    by_cases e : i = n
    · subst e; rw [if_pos rfl] at hq; cases hq; simp [AObj.plain] at ho
    · rw [if_neg e] at hq
      obtain ⟨hm, hlent, u⟩ := r.iter i m es ex left cur hi hq
      have hmn : m ≠ n := by intro e2; subst e2; rw [hno] at hlent; cases hlent
      exact ⟨hm, by rw [g m hm, if_neg hmn]; exact hlent, u.mono hl⟩
  · intro i j m es ex left cur es' ex' left' cur' hi hj h1 h2
    rw [g i hi] at h1; rw [g j hj] at h2
    by_cases e : i = n
    · rw [if_pos e] at h1; cases h1; simp [AObj.plain] at ho
    · rw [if_neg e] at h1
      by_cases e2 : j = n
      · rw [if_pos e2] at h2; cases h2; simp [AObj.plain] at ho
      · rw [if_neg e2] at h2; exact r.lone i j m es ex left cur es' ex' left' cur' hi hj h1 h2

/-- A new block, and its name. -/
theorem Rel.new {B : Nat} {ρ : Ren} {h : Tr AObj} {w : World} (r : Rel B ρ h w) {n : Nat} {o : AObj} {o' : Obj} {N : Nat} (ht : n < top) (hn : ρ n = none) (ho : o.plain = true)
    (hO : OR (updR ρ n (w.heap.size, N)) N o o') : Rel B (updR ρ n (w.heap.size, N)) (h.put n (some o)) { w with heap := w.heap.push o' } := by
  refine (r.grew (Grew.alloc w o')).name ht hn ho (by simp) (fun _ => r.size) (fun m p hm hp M e => ?_) hO
  obtain ⟨b1, N1, o1, h1, h2, _⟩ := r.is m p hm hp
  rw [e] at h1; cases h1
  exact absurd (heap_lt h2) (Nat.lt_irrefl _)

/-- Which names a computation has made: from a on, below b; all others mean what they meant. -/
structure Ext (a b : Nat) (ρ σ : Ren) : Prop where
  le : ρ.le σ
  out : ∀ k, ¬(a ≤ k ∧ k < b) → σ k = ρ k
theorem Ext.refl (a b : Nat) (ρ : Ren) : Ext a b ρ ρ := ⟨Ren.le_refl ρ, fun _ _ => rfl⟩
theorem Ext.trans {a b c : Nat} {ρ σ τ : Ren} (hab : a ≤ b) (hbc : b ≤ c) (h : Ext a b ρ σ) (k : Ext b c σ τ) : Ext a c ρ τ :=
  ⟨Ren.le_trans h.le k.le, fun j hj => (k.out j (by omega)).trans (h.out j (by omega))⟩
theorem Ext.upd {n : Nat} {ρ : Ren} {x : Nat × Nat} (h : ρ n = none) : Ext n (n + 1) ρ (updR ρ n x) :=
  ⟨updR_le h, fun k hk => updR_ne ρ x (by omega)⟩
def Free (a b : Nat) (ρ : Ren) : Prop := ∀ k, a ≤ k → k < b → ρ k = none
theorem Free.next {a b c : Nat} {ρ σ : Ren} (hf : Free a c ρ) (hab : a ≤ b) (e : Ext a b ρ σ) : Free b c σ := fun k h1 h2 => (e.out k (by omega)).trans (hf k (by omega) h2)
theorem Free.sub {a b c d : Nat} {ρ : Ren} (hf : Free a d ρ) (h1 : a ≤ b) (h2 : c ≤ d) : Free b c ρ := fun k p q => hf k (by omega) (by omega)
end Go.Rn
