/- A binary tree over places (numbers), with what is at a place, and how it is set. Plain; no program in sight. -/
import Derived.Calls
namespace Go.Rn
noncomputable section

/-- A tree over ways: here, on the left, on the right. -/
inductive Tr (α : Type) where
  | nil : Tr α
  | node (l : Tr α) (v : Option α) (r : Tr α) : Tr α

def Tr.getP {α : Type} (p : List Bool) : Tr α → Option α :=
  @List.rec Bool (fun _ => Tr α → Option α) (fun t => @Tr.rec α (fun _ => Option α) none (fun _ v _ _ _ => v) t)
    (fun b _ ih t => @Tr.rec α (fun _ => Option α) none (fun l _ r _ _ => ih (@Bool.rec (fun _ => Tr α) r l b)) t) p

def Tr.setP {α : Type} (v : Option α) (p : List Bool) : Tr α → Tr α :=
  @List.rec Bool (fun _ => Tr α → Tr α) (fun t => @Tr.rec α (fun _ => Tr α) (.node .nil v .nil) (fun l _ r _ _ => .node l v r) t)
    (fun b _ ih t => @Tr.rec α (fun _ => Tr α)
      (@Bool.rec (fun _ => Tr α) (.node .nil none (ih .nil)) (.node (ih .nil) none .nil) b)
      (fun l x r _ _ => @Bool.rec (fun _ => Tr α) (.node l x (ih r)) (.node (ih l) x r) b) t) p

theorem Tr.getP_nil {α : Type} (p : List Bool) : (Tr.nil : Tr α).getP p = none := by cases p <;> rfl
theorem Tr.getP_here {α : Type} (l r : Tr α) (v : Option α) : (Tr.node l v r).getP [] = v := rfl
theorem Tr.getP_cons {α : Type} (l r : Tr α) (v : Option α) (b : Bool) (p : List Bool) :
    (Tr.node l v r).getP (b :: p) = if b = true then l.getP p else r.getP p := by cases b <;> rfl
theorem Tr.setP_node {α : Type} (l r : Tr α) (x v : Option α) (b : Bool) (p : List Bool) :
    Tr.setP v (b :: p) (Tr.node l x r) = if b = true then .node (Tr.setP v p l) x r else .node l x (Tr.setP v p r) := by cases b <;> rfl
theorem Tr.setP_nil {α : Type} (v : Option α) (b : Bool) (p : List Bool) :
    Tr.setP v (b :: p) (Tr.nil : Tr α) = if b = true then .node (Tr.setP v p .nil) none .nil else .node .nil none (Tr.setP v p .nil) := by cases b <;> rfl

theorem Tr.getP_setP {α : Type} (v : Option α) : ∀ (p q : List Bool) (t : Tr α), (Tr.setP v p t).getP q = if q = p then v else t.getP q
  | [], q, t => by
    cases t with
    | nil =>
      show (Tr.node .nil v .nil).getP q = _
      cases q with
      | nil => simp [Tr.getP_here]
      | cons b q => simp [Tr.getP_cons, Tr.getP_nil]
    | node l x r =>
      show (Tr.node l v r).getP q = _
      cases q with
      | nil => simp [Tr.getP_here]
      | cons b q => simp [Tr.getP_cons]
  | a :: p, q, t => by
    cases t with
    | nil =>
      rw [Tr.setP_nil]
      cases q with
      | nil => cases a <;> simp [Tr.getP_here, Tr.getP_nil]
      | cons b q =>
        cases a <;> cases b <;> simp [Tr.getP_cons, Tr.getP_nil, Tr.getP_setP v p q]
    | node l x r =>
      rw [Tr.setP_node]
      cases q with
      | nil => cases a <;> simp [Tr.getP_here]
      | cons b q =>
        cases a <;> cases b <;> simp [Tr.getP_cons, Tr.getP_setP v p q]

/-- The way to a number: odd ones stand on the left. -/
def path (f : Nat) : Nat → List Bool :=
  @Nat.rec (fun _ => Nat → List Bool) (fun _ => [])
    (fun _ ih n => @Bool.rec (fun _ => List Bool) (List.cons (Nat.beq (Nat.mod n 2) 1) (ih (Nat.div (Nat.pred n) 2))) [] (Nat.beq n 0)) f

theorem rec_bool {α : Type} (a b : α) (c : Bool) : @Bool.rec (fun _ => α) a b c = if c = true then b else a := by cases c <;> rfl
theorem beq_eq (n m : Nat) : (Nat.beq n m = true) = (n = m) := by rw [Nat.beq_eq]
theorem path_succ (f n : Nat) : path (f + 1) n = if n = 0 then [] else (Nat.beq (n % 2) 1) :: path f ((n - 1) / 2) := by
  show @Bool.rec (fun _ => List Bool) (List.cons (Nat.beq (n % 2) 1) (path f ((n - 1) / 2))) [] (Nat.beq n 0) = _
  simp only [rec_bool, beq_eq]

theorem path_inj : ∀ (f n m : Nat), n + 1 ≤ 2 ^ f → m + 1 ≤ 2 ^ f → path f n = path f m → n = m
  | 0, n, m, hn, hm, _ => by simp at hn hm; omega
  | f + 1, n, m, hn, hm, h => by
    rw [path_succ, path_succ] at h
    have hp : 2 ^ (f + 1) = 2 * 2 ^ f := by rw [Nat.pow_succ]; omega
    by_cases h0 : n = 0
    · by_cases h1 : m = 0
      · omega
      · rw [if_pos h0, if_neg h1] at h; cases h
    · by_cases h1 : m = 0
      · rw [if_neg h0, if_pos h1] at h; cases h
      · rw [if_neg h0, if_neg h1] at h
        injection h with ha hb
        have := path_inj f _ _ (by omega) (by omega) hb
        have hq : (n % 2 = 1) = (m % 2 = 1) := by rw [← beq_eq, ← beq_eq, ha]
        have hq' : n % 2 = 1 ↔ m % 2 = 1 := by rw [hq]
        omega

/-- The places: below 2 to the 39. -/
def top : Nat := 549755813888
def Tr.get {α : Type} (t : Tr α) (n : Nat) : Option α := Tr.getP (path 40 n) t
def Tr.put {α : Type} (t : Tr α) (n : Nat) (v : Option α) : Tr α := Tr.setP v (path 40 n) t
theorem Tr.get_nil {α : Type} (n : Nat) : (Tr.nil : Tr α).get n = none := Tr.getP_nil _
theorem path_short : ∀ (f k n : Nat), n + 1 < 2 ^ k → (path f n).length < k
  | 0, k, n, h => by
    have : k ≠ 0 := by intro e; subst e; simp at h
    show 0 < k
    omega
  | f + 1, k, n, h => by
    rw [path_succ]
    have hk : k ≠ 0 := by intro e; subst e; simp at h
    by_cases h0 : n = 0
    · rw [if_pos h0]; show 0 < k; omega
    · rw [if_neg h0]
      obtain ⟨j, rfl⟩ : ∃ j, k = j + 1 := ⟨k - 1, by omega⟩
      have hp : 2 ^ (j + 1) = 2 * 2 ^ j := by rw [Nat.pow_succ]; omega
      have := path_short f j ((n - 1) / 2) (by omega)
      simp only [List.length_cons]; omega
theorem path_long : ∀ (f k n : Nat), k ≤ f → 2 ^ k ≤ n + 1 → k ≤ (path f n).length
  | _, 0, _, _, _ => Nat.zero_le _
  | 0, k + 1, _, h, _ => by omega
  | f + 1, k + 1, n, h, hn => by
    have hp : 2 ^ (k + 1) = 2 * 2 ^ k := by rw [Nat.pow_succ]; omega
    have h1 : 1 ≤ 2 ^ k := Nat.one_le_two_pow
    rw [path_succ, if_neg (by omega)]
    have := path_long f k ((n - 1) / 2) (by omega) (by omega)
    simp only [List.length_cons]; omega
theorem path_ne {n m : Nat} (h : n < top) (e : m ≠ n) : path 40 m ≠ path 40 n := by
  unfold top at h
  by_cases hm : m + 1 ≤ 2 ^ 40
  · exact fun k => e (path_inj 40 m n hm (by omega) k)
  · intro k
    have h1 := path_long 40 40 m (Nat.le_refl _) (by omega)
    have h2 := path_short 40 40 n (by omega)
    rw [k] at h1; omega
theorem Tr.get_put' {α : Type} (t : Tr α) (n m : Nat) (v : Option α) (h : n < top) : (t.put n v).get m = if m = n then v else t.get m := by
  unfold Tr.get Tr.put
  rw [Tr.getP_setP]
  by_cases e : m = n
  · subst e; simp
  · simp [e, path_ne h e]
theorem Tr.get_put {α : Type} (t : Tr α) (n m : Nat) (v : Option α) (h : n < top) (_ : m < top) : (t.put n v).get m = if m = n then v else t.get m := Tr.get_put' t n m v h

/-- A tree out of a list, from a place on. -/
def Tr.fill {α : Type} (l : List α) : Nat → Tr α → Tr α :=
  @List.rec α (fun _ => Nat → Tr α → Tr α) (fun _ t => t) (fun x _ ih i t => ih (Nat.succ i) (t.put i (some x))) l
theorem Tr.get_fill {α : Type} : ∀ (l : List α) (i : Nat) (t : Tr α) (m : Nat), i + l.length ≤ top → m < top →
    (Tr.fill l i t).get m = if i ≤ m ∧ m < i + l.length then l[m - i]? else t.get m
  | [], i, t, m, _, _ => by
    show t.get m = _
    simp; intro h1 h2; omega
  | x :: l, i, t, m, h, hm => by
    simp only [List.length_cons] at h
    show (Tr.fill l (i + 1) (t.put i (some x))).get m = _
    rw [Tr.get_fill l _ _ _ (by omega) hm, Tr.get_put _ _ _ _ (by omega) hm]
    simp only [List.length_cons]
    by_cases h1 : i + 1 ≤ m ∧ m < i + 1 + l.length
    · have h2 : i ≤ m ∧ m < i + (l.length + 1) := by omega
      rw [if_pos h1, if_pos h2]
      obtain ⟨k, rfl⟩ : ∃ k, m = i + 1 + k := ⟨m - (i + 1), by omega⟩
      rw [show i + 1 + k - (i + 1) = k from by omega, show i + 1 + k - i = k + 1 from by omega]
      simp
    · rw [if_neg h1]
      by_cases e : m = i
      · subst e; simp
      · have h2 : ¬ (i ≤ m ∧ m < i + (l.length + 1)) := by omega
        rw [if_neg e, if_neg h2]
theorem Tr.get_fill' {α : Type} : ∀ (l : List α) (i : Nat) (t : Tr α) (m : Nat), i + l.length ≤ top →
    (Tr.fill l i t).get m = if i ≤ m ∧ m < i + l.length then l[m - i]? else t.get m
  | [], i, t, m, _ => by
    show t.get m = _
    simp; intro h1 h2; omega
  | x :: l, i, t, m, h => by
    simp only [List.length_cons] at h
    show (Tr.fill l (i + 1) (t.put i (some x))).get m = _
    rw [Tr.get_fill' l _ _ _ (by omega), Tr.get_put' _ _ _ _ (by omega)]
    simp only [List.length_cons]
    by_cases h1 : i + 1 ≤ m ∧ m < i + 1 + l.length
    · have h2 : i ≤ m ∧ m < i + (l.length + 1) := by omega
      rw [if_pos h1, if_pos h2]
      obtain ⟨k, rfl⟩ : ∃ k, m = i + 1 + k := ⟨m - (i + 1), by omega⟩
      rw [show i + 1 + k - (i + 1) = k from by omega, show i + 1 + k - i = k + 1 from by omega]
      simp
    · rw [if_neg h1]
      by_cases e : m = i
      · subst e; simp
      · have h2 : ¬ (i ≤ m ∧ m < i + (l.length + 1)) := by omega
        rw [if_neg e, if_neg h2]
end
end Go.Rn
