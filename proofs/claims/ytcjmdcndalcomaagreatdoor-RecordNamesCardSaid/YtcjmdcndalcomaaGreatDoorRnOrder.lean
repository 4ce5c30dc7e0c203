/- Regions whose row is drawn: every row that may be drawn, and what stands ahead of what in all of them. -/
import Derived.Test.YtcjmdcndalcomaaGreatDoorRnMach3
import Derived.Orders
namespace Go.Rn
open Go.RowKit

def stepBits (acc : Array Nat) (o : Oper) : Nat := o.after.foldl (fun s e => if Region.binds .any e then s ||| 2 ^ e.on ||| acc.getD e.on 0 else s) 0

theorem stepBits_bit (acc : Array Nat) (o : Oper) (i : Nat) : (stepBits acc o).testBit i = true ↔ ∃ e ∈ o.after.toList, Region.binds .any e = true ∧ (e.on = i ∨ (acc.getD e.on 0).testBit i = true) := by
  unfold stepBits
  rw [← Array.foldl_toList]
  have : ∀ (l : List Edge) (s : Nat), (l.foldl (fun s e => if Region.binds .any e then s ||| 2 ^ e.on ||| acc.getD e.on 0 else s) s).testBit i = true ↔
      s.testBit i = true ∨ ∃ e ∈ l, Region.binds .any e = true ∧ (e.on = i ∨ (acc.getD e.on 0).testBit i = true) := by
    intro l
    induction l with
    | nil => intro s; simp
    | cons e l ih =>
      intro s
      rw [List.foldl_cons, ih]
      by_cases q : Region.binds .any e = true
      · rw [if_pos q]
        simp only [Nat.testBit_or, Bool.or_eq_true, Nat.testBit_two_pow, decide_eq_true_eq, List.mem_cons, exists_eq_or_imp, q, true_and]
        constructor
        · rintro ((h | h) | h)
          · rcases h with h | h
            · exact .inl h
            · exact .inr (.inl (.inl h))
          · exact .inr (.inl (.inr h))
          · exact .inr (.inr h)
        · rintro (h | (h | h) | h)
          · exact .inl (.inl (.inl h))
          · exact .inl (.inl (.inr h))
          · exact .inl (.inr h)
          · exact .inr h
      · rw [if_neg q]
        simp only [List.mem_cons, exists_eq_or_imp, q, false_and, false_or, Bool.false_eq_true]
  have h := this o.after.toList 0
  simpa using h

theorem before_list (l : List Oper) : ∀ (acc : Array Nat), (l.foldl (fun acc o => acc.push (stepBits acc o)) acc).size = acc.size + l.length ∧
    (∀ k, k < acc.size → (l.foldl (fun acc o => acc.push (stepBits acc o)) acc).getD k 0 = acc.getD k 0) := by
  induction l with
  | nil => intro acc; exact ⟨by simp, fun k _ => rfl⟩
  | cons o l ih =>
    intro acc
    rw [List.foldl_cons]
    obtain ⟨h1, h2⟩ := ih (acc.push (stepBits acc o))
    refine ⟨by rw [h1]; simp; omega, fun k hk => ?_⟩
    rw [h2 k (by simp; omega)]
    simp only [Array.getD_eq_getD_getElem?, Array.getElem?_push]
    rw [if_neg (by omega)]

theorem before_at {ops : Array Oper} {j : Nat} {o : Oper} (ho : ops[j]? = some o) :
    (Region.before ops).getD j 0 = stepBits ((ops.toList.take j).foldl (fun acc o => acc.push (stepBits acc o)) #[]) o ∧
    ∀ k, k < j → ((ops.toList.take j).foldl (fun acc o => acc.push (stepBits acc o)) #[]).getD k 0 = (Region.before ops).getD k 0 := by
  have hb : Region.before ops = ops.toList.foldl (fun acc o => acc.push (stepBits acc o)) #[] := by
    unfold Region.before
    rw [← Array.foldl_toList]
    rfl
  have hj : j < ops.toList.length := by
    have := (Array.getElem?_eq_some_iff.1 ho).1; simpa using this
  have ho' : ops.toList[j]? = some o := by simpa using ho
  have hsplit : ops.toList = ops.toList.take j ++ o :: ops.toList.drop (j + 1) := by
    have e : ops.toList.drop j = o :: ops.toList.drop (j + 1) := by
      rw [List.drop_eq_getElem_cons hj]
      congr 1
      rw [List.getElem?_eq_getElem hj] at ho'
      injection ho'
    rw [← e, List.take_append_drop]
  obtain ⟨s1, _⟩ := before_list (ops.toList.take j) #[]
  have hsz : ((ops.toList.take j).foldl (fun acc o => acc.push (stepBits acc o)) #[]).size = j := by
    rw [s1, List.length_take, Nat.min_eq_left (by omega)]; exact Nat.zero_add j
  generalize hA : (ops.toList.take j).foldl (fun acc o => acc.push (stepBits acc o)) #[] = A at *
  have hb2 : Region.before ops = (ops.toList.drop (j + 1)).foldl (fun acc o => acc.push (stepBits acc o)) (A.push (stepBits A o)) := by
    rw [hb]
    conv => lhs; rw [hsplit]
    rw [List.foldl_append, hA, List.foldl_cons]
  obtain ⟨_, q2⟩ := before_list (ops.toList.drop (j + 1)) (A.push (stepBits A o))
  refine ⟨?_, fun k hk => ?_⟩
  · rw [hb2, q2 j (by simp; omega)]
    rw [Array.getD_eq_getD_getElem?, Array.getElem?_push, if_pos hsz.symm]; rfl
  · rw [hb2, q2 k (by simp; omega)]
    simp only [Array.getD_eq_getD_getElem?, Array.getElem?_push]
    rw [if_neg (by omega)]

theorem before_size (ops : Array Oper) : (Region.before ops).size = ops.size := by
  have hb : Region.before ops = ops.toList.foldl (fun acc o => acc.push (stepBits acc o)) #[] := by
    unfold Region.before
    rw [← Array.foldl_toList]
    rfl
  rw [hb, (before_list ops.toList #[]).1]; simp

/-- What stands ahead: earlier in the text, and whatever is closed holds it. -/
theorem before_closed {ops : Array Oper} (he : EdgesOk ops) (D : Nat → Prop) (hD : ∀ (j : Nat) (o : Oper) (e : Edge), ops[j]? = some o → D j → e ∈ o.after → Region.binds .any e = true → D e.on) :
    ∀ (n j i : Nat), j ≤ n → ((Region.before ops).getD j 0).testBit i = true → i < j ∧ (D j → D i) ∧ ((∀ (o : Oper) (e : Edge), ops[j]? = some o → e ∈ o.after → Region.binds .any e = true → D e.on) → D i) := by
  intro n
  induction n with
  | zero =>
    intro j i hj h
    have : j = 0 := by omega
    subst this
    cases ho : ops[0]? with
    | none =>
      have : ¬ 0 < (Region.before ops).size := by
        rw [before_size]; intro q; rw [Array.getElem?_eq_getElem q] at ho; cases ho
      rw [Array.getD_eq_getD_getElem?, Array.getElem?_eq_none (by omega)] at h
      simp at h
    | some o =>
      obtain ⟨h1, _⟩ := before_at ho
      rw [h1, stepBits_bit] at h
      obtain ⟨e, hm, hbd, _⟩ := h
      exact absurd (he 0 o e ho (Array.mem_toList_iff.1 hm) hbd) (Nat.not_lt_zero _)
  | succ n ih =>
    intro j i hj h
    by_cases q : j ≤ n
    · exact ih j i q h
    · have : j = n + 1 := by omega
      subst this
      cases ho : ops[n + 1]? with
      | none =>
        have : ¬ n + 1 < (Region.before ops).size := by
          rw [before_size]; intro q; rw [Array.getElem?_eq_getElem q] at ho; cases ho
        rw [Array.getD_eq_getD_getElem?, Array.getElem?_eq_none (by omega)] at h
        simp at h
      | some o =>
        obtain ⟨h1, h2⟩ := before_at ho
        rw [h1, stepBits_bit] at h
        obtain ⟨e, hm, hbd, hor⟩ := h
        have hm' := Array.mem_toList_iff.1 hm
        have hlt := he (n + 1) o e ho hm' hbd
        rcases hor with rfl | hor
        · exact ⟨hlt, fun hDj => hD _ o e ho hDj hm' hbd, fun hall => hall o e rfl hm' hbd⟩
        · rw [h2 e.on hlt] at hor
          obtain ⟨a, b, _⟩ := ih e.on i (by omega) hor
          exact ⟨by omega, fun hDj => b (hD _ o e ho hDj hm' hbd), fun hall => b (hall o e rfl hm' hbd)⟩

/-- How many are not listed. -/
def open_ (listed : Array Bool) : Nat := (List.range listed.size).countP fun i => !listed.getD i true
theorem countP_lt {n i : Nat} {p q : Nat → Bool} (hi : i < n) (hp : p i = true) (hq : q i = false) (hne : ∀ k, k ≠ i → q k = p k) : (List.range n).countP q < (List.range n).countP p := by
  induction n with
  | zero => omega
  | succ n ih =>
    rw [List.range_succ, List.countP_append, List.countP_append]
    by_cases e : i = n
    · subst e
      have : (List.range i).countP q = (List.range i).countP p := by
        apply List.countP_congr
        intro k hk
        have : k ≠ i := by have := List.mem_range.1 hk; omega
        rw [hne k this]
      rw [this]; simp [hp, hq]
    · have := ih (by omega)
      have e2 : (List.countP q [n]) = List.countP p [n] := by
        simp [List.countP_cons, hne n (Ne.symm e)]
      rw [e2]; omega
theorem open_set {listed : Array Bool} {i : Nat} (hi : listed.getD i true = false) : open_ (listed.setIfInBounds i true) < open_ listed := by
  have hlt : i < listed.size := by
    rcases Nat.lt_or_ge i listed.size with q | q
    · exact q
    · rw [Array.getD_eq_getD_getElem?, Array.getElem?_eq_none q] at hi; cases hi
  unfold open_
  rw [Array.size_setIfInBounds]
  refine countP_lt hlt (by simp [hi]) ?_ (fun k hk => ?_)
  · simp [Array.getD_eq_getD_getElem?, Array.getElem?_setIfInBounds_self_of_lt hlt]
  · simp only [Array.getD_eq_getD_getElem?]
    rw [Array.getElem?_setIfInBounds_ne (by omega)]
theorem open_none {listed : Array Bool} (h : open_ listed = 0) : ∀ i, i < listed.size → listed.getD i false = true := by
  intro i hi
  unfold open_ at h
  rw [List.countP_eq_zero] at h
  have := h i (List.mem_range.2 hi)
  rw [Array.getD_eq_getD_getElem?, Array.getElem?_eq_getElem hi] at this ⊢
  simpa using this

theorem all_listed {ops : Array Oper} (he : EdgesOk ops) {listed : Array Bool} (hs : listed.size = ops.size) (hr : Region.ready .any ops listed = []) : ∀ n i, i < n → i < ops.size → listed.getD i false = true := by
  intro n
  induction n with
  | zero => intro i hi; omega
  | succ n ih =>
    intro i hi hlt
    by_cases q : i < n
    · exact ih i q hlt
    · have : i = n := by omega
      subst this
      cases h : listed.getD i false with
      | true => rfl
      | false =>
        exfalso
        have hmem : i ∈ Region.ready .any ops listed := by
          unfold Region.ready
          rw [List.mem_filter]
          refine ⟨List.mem_range.2 hlt, ?_⟩
          have h1 : listed.getD i true = false := by
            rw [Array.getD_eq_getD_getElem?, Array.getElem?_eq_getElem (by omega)] at h ⊢
            simpa using h
          rw [h1, Array.getElem?_eq_getElem hlt]
          simp only [Bool.not_false, Bool.true_and, Option.map_some, Option.getD_some]
          rw [Array.all_eq_true_iff_forall_mem]
          intro e hm
          cases hb : Region.binds .any e with
          | false => rfl
          | true =>
            have hlt2 := he i ops[i] e (Array.getElem?_eq_getElem hlt) hm hb
            simp only [Bool.not_true, Bool.false_or]
            exact ih e.on hlt2 (by omega)
        rw [hr] at hmem; cases hmem

section
variable {P : Program} {ops : Array Oper}

/-- Whatever row is drawn: what each step keeps is kept to the end. -/
theorem order_run (he : EdgesOk ops) (b : Frame) (k : List Item) (cs : List Frame) (Inv : Array Bool → Act → World → Prop)
    (step_ : ∀ (listed : Array Bool) (a : Act) (w : World) (i : Nat) (o : Oper) (rest : List Nat), listed.size = ops.size → Inv listed a w → ops[i]? = some o → listed.getD i true = false →
      (∀ e ∈ o.after, Region.binds .any e = true → listed.getD e.on false = true) →
      ∃ a' w', Inv (listed.setIfInBounds i true) a' w' ∧ Steps P (lone (b.atR a (.inRegion ops (i :: rest) :: k)) cs w) (lone (b.atR a' (.inRegion ops rest :: k)) cs w')) :
    ∀ (fuel t : Nat) (listed : Array Bool) (a : Act) (w : World), listed.size = ops.size → open_ listed ≤ fuel → Inv listed a w →
      ∃ listed' a' w', listed'.size = ops.size ∧ (∀ i, i < ops.size → listed'.getD i false = true) ∧ Inv listed' a' w' ∧
        Steps P (lone (b.atR a (.inRegion ops (Region.linearise.go .any ops fuel t listed []) :: k)) cs w) (lone (b.atR a' k) cs w') := by
  intro fuel
  induction fuel with
  | zero =>
    intro t listed a w hs ho hi
    refine ⟨listed, a, w, hs, ?_, hi, ?_⟩
    · intro i hlt; exact open_none (by omega) i (by omega)
    · simp only [Region.linearise.go, List.reverse_nil]
      exact .one stepR_region_end
  | succ fuel ih =>
    intro t listed a w hs ho hi
    simp only [Region.linearise.go]
    change ∃ listed' a' w', listed'.size = ops.size ∧ (∀ i, i < ops.size → listed'.getD i false = true) ∧ Inv listed' a' w' ∧
        Steps P (lone (b.atR a (.inRegion ops (match (Region.ready .any ops listed)[t % (Region.ready .any ops listed).length]? with
          | some i => Region.linearise.go .any ops fuel (t / (Region.ready .any ops listed).length) (listed.setIfInBounds i true) [i]
          | none => [].reverse) :: k)) cs w) (lone (b.atR a' k) cs w')
    cases hq : (Region.ready .any ops listed)[t % (Region.ready .any ops listed).length]? with
    | none =>
      have hnil : Region.ready .any ops listed = [] := by
        cases hr : Region.ready .any ops listed with
        | nil => rfl
        | cons x xs =>
          rw [hr] at hq
          have hlt : t % (x :: xs).length < (x :: xs).length := Nat.mod_lt _ (by simp)
          simp at hq
          simp at hlt
          omega
      refine ⟨listed, a, w, hs, fun i hlt => all_listed he hs hnil (i + 1) i (by omega) hlt, hi, ?_⟩
      simp only [List.reverse_nil]
      exact .one stepR_region_end
    | some i =>
      simp only []
      have hmem := List.mem_of_getElem? hq
      unfold Region.ready at hmem
      rw [List.mem_filter, Bool.and_eq_true] at hmem
      obtain ⟨hlt, h1, h2⟩ := hmem
      have hlt' := List.mem_range.1 hlt
      have hoi : ops[i]? = some ops[i] := Array.getElem?_eq_getElem hlt'
      rw [hoi] at h2
      simp only [Option.map_some, Option.getD_some] at h2
      rw [Array.all_eq_true_iff_forall_mem] at h2
      have h1' : listed.getD i true = false := by simpa using h1
      rw [linearise_go_acc, List.reverse_singleton, List.singleton_append]
      obtain ⟨a', w', j1, j2⟩ := step_ listed a w i ops[i] (Region.linearise.go .any ops fuel (t / (Region.ready .any ops listed).length) (listed.setIfInBounds i true) []) hs hi hoi h1' (fun e hm hb => by
        have := h2 e hm
        rw [hb] at this; simpa using this)
      obtain ⟨l', a'', w'', k0, k1, k2, k3⟩ := ih (t / (Region.ready .any ops listed).length) (listed.setIfInBounds i true) a' w' (by simp [hs]) (by have := open_set h1'; omega) j1
      exact ⟨l', a'', w'', k0, k1, k2, Steps.trans j2 k3⟩

theorem open_all (n : Nat) : open_ (Array.replicate n false) ≤ n := by
  unfold open_
  have := List.countP_le_length (p := fun i => !(Array.replicate n false).getD i true) (l := List.range (Array.replicate n false).size)
  simpa using this
end
end Go.Rn
