/- What a computation over names does hangs on the names that it notes, and on those that it made, alone. -/
import Derived.Test.YtcjmdcndalcomaaGreatDoorRnRun
namespace Go.Rn

/-- Two memories that are one at some older names (A), and at all names from m0 on. -/
structure Agree (A : Nat → Prop) (m0 : Nat) (s t : AS) : Prop where
  nx : s.nx = t.nx
  mark : s.mark = t.mark
  low : m0 ≤ s.mark
  is : ∀ k, k < s.nx → (A k ∨ m0 ≤ k) → s.h.get k = t.h.get k

structure Fine (s : AS) : Prop where
  mark : s.mark ≤ s.nx
  nx : s.nx ≤ top

structure Did (s s1 : AS) (dr dw : List Nat) : Prop where
  rd : s1.rd = dr ++ s.rd
  wr : s1.wr = dw ++ s.wr
  nx : s.nx ≤ s1.nx
  top : s1.nx ≤ top
  mark : s1.mark = s.mark
  same : ∀ k, k < s.mark → k ∉ dw → s1.h.get k = s.h.get k
  sub : ∀ k ∈ dw, k ∈ dr
  far : ∀ k, s1.nx ≤ k → k < Rn.top → s1.h.get k = s.h.get k

theorem Did.fine {s s1 : AS} {dr dw : List Nat} (f : Fine s) (d : Did s s1 dr dw) : Fine s1 :=
  ⟨by rw [d.mark]; exact Nat.le_trans f.mark d.nx, d.top⟩

structure Also (A : Nat → Prop) (m0 : Nat) (s1 t t1 : AS) (dr dw : List Nat) : Prop where
  agree : Agree A m0 s1 t1
  rd : t1.rd = dr ++ t.rd
  wr : t1.wr = dw ++ t.wr
  same : ∀ k, k < m0 → k ∉ dw → t1.h.get k = t.h.get k
  far : ∀ k, s1.nx ≤ k → k < Rn.top → t1.h.get k = t.h.get k

def Local {α : Type} (m : M α) : Prop :=
  ∀ s v s1, Fine s → m s = .ok v s1 → ∃ dr dw, Did s s1 dr dw ∧
    ∀ A m0 t, Agree A m0 s t → (∀ k ∈ dr, k < m0 → A k) → ∃ t1, m t = .ok v t1 ∧ Also A m0 s1 t t1 dr dw

theorem M.bind_ok {α β : Type} {m : M α} {f : α → M β} {s s1 : AS} {a : α} (h : m s = .ok a s1) : (m.bind f) s = f a s1 := by
  unfold M.bind; rw [h]
theorem M.bind_bad {α β : Type} {m : M α} {f : α → M β} {s : AS} (h : m s = .bad) : (m.bind f) s = .bad := by
  unfold M.bind; rw [h]
theorem M.bind_inv {α β : Type} {m : M α} {f : α → M β} {s s2 : AS} {b : β} (h : (m.bind f) s = .ok b s2) : ∃ a s1, m s = .ok a s1 ∧ f a s1 = .ok b s2 := by
  cases e : m s with
  | bad => rw [M.bind_bad e] at h; cases h
  | ok a s1 => rw [M.bind_ok e] at h; exact ⟨a, s1, rfl, h⟩
theorem bind_eq {α β : Type} (m : M α) (f : α → M β) : (m >>= f) = m.bind f := rfl
theorem pure_eq {α : Type} (a : α) : (pure a : M α) = M.pure a := rfl
theorem withO_some {α β : Type} (a : α) (f : α → M β) : withO (some a) f = f a := rfl
theorem withO_none {α β : Type} (f : α → M β) : withO none f = fail := rfl
theorem withB_true {β : Type} (m : M β) : withB true m = m := rfl
theorem withB_false {β : Type} (m : M β) : withB false m = fail := rfl
theorem withO_inv {α β : Type} {o : Option α} {f : α → M β} {s s1 : AS} {b : β} (h : withO o f s = .ok b s1) : ∃ a, o = some a ∧ f a s = .ok b s1 := by
  cases o with
  | none => cases h
  | some a => exact ⟨a, rfl, h⟩
theorem withB_inv {β : Type} {c : Bool} {m : M β} {s s1 : AS} {b : β} (h : withB c m s = .ok b s1) : c = true ∧ m s = .ok b s1 := by
  cases c with
  | false => cases h
  | true => exact ⟨rfl, h⟩
theorem pure_inv {α : Type} {a b : α} {s s1 : AS} (h : M.pure a s = .ok b s1) : b = a ∧ s1 = s := by
  cases h; exact ⟨rfl, rfl⟩
theorem lift_inv {α : Type} {o : Option α} {b : α} {s s1 : AS} (h : lift o s = .ok b s1) : o = some b ∧ s1 = s := by
  cases o with
  | none => cases h
  | some a => cases h; exact ⟨rfl, rfl⟩

theorem Local.pure {α : Type} (a : α) : Local (M.pure a) := by
  intro s v s1 fi h
  obtain ⟨rfl, rfl⟩ := pure_inv h
  exact ⟨[], [], ⟨rfl, rfl, Nat.le_refl _, fi.nx, rfl, fun _ _ _ => rfl, fun _ h => h, fun _ _ _ => rfl⟩,
    fun A m0 t ag _ => ⟨t, rfl, ag, rfl, rfl, fun _ _ _ => rfl, fun _ _ _ => rfl⟩⟩
theorem Local.fail {α : Type} : Local (fail : M α) := by
  intro s v s1 _ h; cases h
theorem Local.withO {α β : Type} {o : Option α} {f : α → M β} (h : ∀ a, o = some a → Local (f a)) : Local (withO o f) := by
  cases o with
  | none => exact Local.fail
  | some a => exact h a rfl
theorem Local.withB {β : Type} {c : Bool} {m : M β} (h : c = true → Local m) : Local (withB c m) := by
  cases c with
  | false => exact Local.fail
  | true => exact h rfl
theorem Local.lift {α : Type} (o : Option α) : Local (lift o) := by
  cases o with
  | none => exact Local.fail
  | some a => exact Local.pure a
theorem Local.need (b : Bool) : Local (need b) := by
  cases b with
  | false => exact Local.fail
  | true => exact Local.pure ()

theorem Local.bind {α β : Type} {m : M α} {f : α → M β} (hm : Local m) (hf : ∀ a, Local (f a)) : Local (m.bind f) := by
  intro s v s2 fi h
  obtain ⟨a, s1, h1, h2⟩ := M.bind_inv h
  obtain ⟨dr, dw, d, x⟩ := hm s a s1 fi h1
  obtain ⟨dr', dw', d', x'⟩ := hf a s1 v s2 (d.fine fi) h2
  refine ⟨dr' ++ dr, dw' ++ dw, ⟨by rw [d'.rd, d.rd, List.append_assoc], by rw [d'.wr, d.wr, List.append_assoc], Nat.le_trans d.nx d'.nx, d'.top, d'.mark.trans d.mark, ?_, ?_, ?_⟩, ?_⟩
  · intro k hk hn
    have hn1 : k ∉ dw' := fun e => hn (List.mem_append.2 (.inl e))
    have hn2 : k ∉ dw := fun e => hn (List.mem_append.2 (.inr e))
    exact (d'.same k (by rw [d.mark]; exact hk) hn1).trans (d.same k hk hn2)
  · intro k hk
    rcases List.mem_append.1 hk with e | e
    · exact List.mem_append.2 (.inl (d'.sub k e))
    · exact List.mem_append.2 (.inr (d.sub k e))
  · intro k hk ht
    exact (d'.far k hk ht).trans (d.far k (Nat.le_trans d'.nx hk) ht)
  · intro A m0 t ag hA
    obtain ⟨t1, e1, al⟩ := x A m0 t ag (fun k hk hlt => hA k (List.mem_append.2 (.inr hk)) hlt)
    obtain ⟨t2, e2, al'⟩ := x' A m0 t1 al.agree (fun k hk hlt => hA k (List.mem_append.2 (.inl hk)) hlt)
    refine ⟨t2, by rw [M.bind_ok e1]; exact e2, al'.agree, by rw [al'.rd, al.rd, List.append_assoc], by rw [al'.wr, al.wr, List.append_assoc], ?_, ?_⟩
    · intro k hk hn
      have hn1 : k ∉ dw' := fun e => hn (List.mem_append.2 (.inl e))
      have hn2 : k ∉ dw := fun e => hn (List.mem_append.2 (.inr e))
      exact (al'.same k hk hn1).trans (al.same k hk hn2)
    · intro k hk ht
      exact (al'.far k hk ht).trans (al.far k (Nat.le_trans d'.nx hk) ht)

theorem blt_eq (n m : Nat) : (Nat.blt n m = true) = (n < m) := by
  show (Nat.ble (n + 1) m = true) = _
  rw [Nat.ble_eq]; rfl

theorem rec_blt {α : Type} (a b : α) (n m : Nat) : @Bool.rec (fun _ => α) a b (Nat.blt n m) = if n < m then b else a := by
  rw [rec_bool]; by_cases h : n < m
  · rw [if_pos h, if_pos (by rw [blt_eq]; exact h)]
  · rw [if_neg h, if_neg (by rw [blt_eq]; exact h)]

theorem rdN_inv {n : Nat} {o : AObj} {s s1 : AS} (h : rdN n s = .ok o s1) :
    n < s.nx ∧ s.h.get n = some o ∧ s1 = if n < s.mark then { s with rd := n :: s.rd } else s := by
  obtain ⟨hh, nx, mark, rd, wr⟩ := s
  cases hb : Nat.blt n nx with
  | false =>
    have : rdN n ⟨hh, nx, mark, rd, wr⟩ = .bad := by show @Bool.rec (fun _ => R AObj) .bad _ (Nat.blt n nx) = _; rw [hb]
    rw [this] at h; cases h
  | true =>
    cases hg : hh.get n with
    | none =>
      have : rdN n ⟨hh, nx, mark, rd, wr⟩ = .bad := by
        show @Bool.rec (fun _ => R AObj) .bad (@Option.rec AObj (fun _ => R AObj) .bad _ (hh.get n)) (Nat.blt n nx) = _; rw [hb, hg]
      rw [this] at h; cases h
    | some o' =>
      have : rdN n ⟨hh, nx, mark, rd, wr⟩ = @Bool.rec (fun _ => R AObj) (.ok o' ⟨hh, nx, mark, rd, wr⟩) (.ok o' ⟨hh, nx, mark, n :: rd, wr⟩) (Nat.blt n mark) := by
        show @Bool.rec (fun _ => R AObj) .bad (@Option.rec AObj (fun _ => R AObj) .bad _ (hh.get n)) (Nat.blt n nx) = _; rw [hb, hg]
      rw [this] at h
      have hlt : n < nx := by rw [← blt_eq]; exact hb
      cases hm : Nat.blt n mark with
      | false =>
        rw [hm] at h; cases h
        have : ¬ n < mark := by rw [← blt_eq, hm]; simp
        exact ⟨hlt, by first | exact hg | rfl, by simp [this]⟩
      | true =>
        rw [hm] at h; cases h
        have : n < mark := by rw [← blt_eq]; exact hm
        exact ⟨hlt, by first | exact hg | rfl, by simp [this]⟩
theorem rdN_ok {n : Nat} {o : AObj} {s : AS} (h1 : n < s.nx) (h2 : s.h.get n = some o) :
    rdN n s = .ok o (if n < s.mark then { s with rd := n :: s.rd } else s) := by
  obtain ⟨hh, nx, mark, rd, wr⟩ := s
  have hb : Nat.blt n nx = true := by rw [blt_eq]; exact h1
  have hg : hh.get n = some o := h2
  show @Bool.rec (fun _ => R AObj) .bad (@Option.rec AObj (fun _ => R AObj) .bad (fun o => @Bool.rec (fun _ => R AObj) (.ok o ⟨hh, nx, mark, rd, wr⟩) (.ok o ⟨hh, nx, mark, n :: rd, wr⟩) (Nat.blt n mark)) (hh.get n)) (Nat.blt n nx) = _
  rw [hb, hg]
  show @Bool.rec (fun _ => R AObj) _ _ (Nat.blt n mark) = _
  rw [rec_blt]
  by_cases e : n < mark <;> simp [e]

theorem wrN_inv {n : Nat} {o : Option AObj} {u : Unit} {s s1 : AS} (h : wrN n o s = .ok u s1) :
    n < s.nx ∧ n < top ∧ (∃ p, s.h.get n = some p ∧ p.isRo = false) ∧
      s1 = if n < s.mark then { s with h := s.h.put n o, rd := n :: s.rd, wr := n :: s.wr } else { s with h := s.h.put n o } := by
  obtain ⟨hh, nx, mark, rd, wr⟩ := s
  have e : wrN n o ⟨hh, nx, mark, rd, wr⟩ = @Bool.rec (fun _ => R Unit) .bad
      (@Option.rec AObj (fun _ => R Unit) .bad
        (fun p => @Bool.rec (fun _ => R Unit)
          (@Bool.rec (fun _ => R Unit) (.ok () ⟨hh.put n o, nx, mark, rd, wr⟩) (.ok () ⟨hh.put n o, nx, mark, n :: rd, n :: wr⟩) (Nat.blt n mark))
          .bad p.isRo)
        (hh.get n))
      (and (Nat.blt n nx) (Nat.blt n top)) := rfl
  rw [e] at h
  cases hb : and (Nat.blt n nx) (Nat.blt n top) with
  | false => rw [hb] at h; cases h
  | true =>
    rw [hb] at h
    have hb' := Bool.and_eq_true_iff.1 hb
    rw [blt_eq, blt_eq] at hb'
    cases hg : hh.get n with
    | none => rw [hg] at h; cases h
    | some p =>
      rw [hg] at h
      cases hr : p.isRo with
      | true =>
        have h' : @Bool.rec (fun _ => R Unit)
          (@Bool.rec (fun _ => R Unit) (.ok () ⟨hh.put n o, nx, mark, rd, wr⟩) (.ok () ⟨hh.put n o, nx, mark, n :: rd, n :: wr⟩) (Nat.blt n mark))
          .bad p.isRo = .ok u s1 := h
        rw [hr] at h'; cases h'
      | false =>
        have h' : @Bool.rec (fun _ => R Unit)
          (@Bool.rec (fun _ => R Unit) (.ok () ⟨hh.put n o, nx, mark, rd, wr⟩) (.ok () ⟨hh.put n o, nx, mark, n :: rd, n :: wr⟩) (Nat.blt n mark))
          .bad p.isRo = .ok u s1 := h
        rw [hr] at h'
        refine ⟨hb'.1, hb'.2, ⟨p, by first | exact hg | rfl, hr⟩, ?_⟩
        have h'' : @Bool.rec (fun _ => R Unit) (.ok () ⟨hh.put n o, nx, mark, rd, wr⟩) (.ok () ⟨hh.put n o, nx, mark, n :: rd, n :: wr⟩) (Nat.blt n mark) = .ok u s1 := h'
        rw [rec_blt] at h''
        by_cases e : n < mark
        · rw [if_pos e] at h''; injection h'' with _ h3; simp [e, ← h3]
        · rw [if_neg e] at h''; injection h'' with _ h3; simp [e, ← h3]
theorem wrN_ok {n : Nat} {o : Option AObj} {s : AS} {p : AObj} (h1 : n < s.nx) (h2 : n < top) (h3 : s.h.get n = some p) (h4 : p.isRo = false) :
    wrN n o s = .ok () (if n < s.mark then { s with h := s.h.put n o, rd := n :: s.rd, wr := n :: s.wr } else { s with h := s.h.put n o }) := by
  obtain ⟨hh, nx, mark, rd, wr⟩ := s
  have e : wrN n o ⟨hh, nx, mark, rd, wr⟩ = @Bool.rec (fun _ => R Unit) .bad
      (@Option.rec AObj (fun _ => R Unit) .bad
        (fun p => @Bool.rec (fun _ => R Unit)
          (@Bool.rec (fun _ => R Unit) (.ok () ⟨hh.put n o, nx, mark, rd, wr⟩) (.ok () ⟨hh.put n o, nx, mark, n :: rd, n :: wr⟩) (Nat.blt n mark))
          .bad p.isRo)
        (hh.get n))
      (and (Nat.blt n nx) (Nat.blt n top)) := rfl
  have hb : and (Nat.blt n nx) (Nat.blt n top) = true := Bool.and_eq_true_iff.2 ⟨by rw [blt_eq]; exact h1, by rw [blt_eq]; exact h2⟩
  have hg : hh.get n = some p := h3
  rw [e, hb, hg]
  show @Bool.rec (fun _ => R Unit) (@Bool.rec (fun _ => R Unit) (.ok () ⟨hh.put n o, nx, mark, rd, wr⟩) (.ok () ⟨hh.put n o, nx, mark, n :: rd, n :: wr⟩) (Nat.blt n mark)) .bad p.isRo = _
  rw [h4]
  show @Bool.rec (fun _ => R Unit) (.ok () ⟨hh.put n o, nx, mark, rd, wr⟩) (.ok () ⟨hh.put n o, nx, mark, n :: rd, n :: wr⟩) (Nat.blt n mark) = _
  rw [rec_blt]
  by_cases e : n < mark <;> simp [e]

theorem newN_inv {o : AObj} {n : Nat} {s s1 : AS} (h : newN o s = .ok n s1) : s.nx < top ∧ n = s.nx ∧ s1 = { s with h := s.h.put s.nx (some o), nx := s.nx + 1 } := by
  obtain ⟨hh, nx, mark, rd, wr⟩ := s
  have e : newN o ⟨hh, nx, mark, rd, wr⟩ = @Bool.rec (fun _ => R Nat) .bad (forced nx fun m => .ok m ⟨hh.put m (some o), m + 1, mark, rd, wr⟩) (Nat.blt nx top) := rfl
  rw [e, forced_eq] at h
  cases hb : Nat.blt nx top with
  | false => rw [hb] at h; cases h
  | true => rw [hb] at h; cases h; exact ⟨by rw [← blt_eq]; exact hb, rfl, rfl⟩
theorem newN_ok {o : AObj} {s : AS} (h : s.nx < top) : newN o s = .ok s.nx { s with h := s.h.put s.nx (some o), nx := s.nx + 1 } := by
  obtain ⟨hh, nx, mark, rd, wr⟩ := s
  have e : newN o ⟨hh, nx, mark, rd, wr⟩ = @Bool.rec (fun _ => R Nat) .bad (forced nx fun m => .ok m ⟨hh.put m (some o), m + 1, mark, rd, wr⟩) (Nat.blt nx top) := rfl
  have hb : Nat.blt nx top = true := by rw [blt_eq]; exact h
  rw [e, forced_eq, hb]

theorem Local.rdN (n : Nat) : Local (rdN n) := by
  intro s v s1 fi h
  obtain ⟨h1, h2, rfl⟩ := rdN_inv h
  by_cases e : n < s.mark
  · rw [if_pos e]
    refine ⟨[n], [], ⟨rfl, rfl, Nat.le_refl _, fi.nx, rfl, fun _ _ _ => rfl, fun _ h => (by cases h), fun _ _ _ => rfl⟩, fun A m0 t ag hA => ?_⟩
    have hq : A n ∨ m0 ≤ n := by
      by_cases q : n < m0
      · exact .inl (hA n (by simp) q)
      · exact .inr (by omega)
    have hg := ag.is n h1 hq
    have hr := rdN_ok (o := v) (s := t) (n := n) (by rw [← ag.nx]; exact h1) (by rw [← hg]; exact h2)
    rw [← ag.mark, if_pos e] at hr
    exact ⟨_, hr, ⟨ag.nx, by first | exact ag.mark | rfl, ag.low, ag.is⟩, rfl, rfl, fun _ _ _ => rfl, fun _ _ _ => rfl⟩
  · rw [if_neg e]
    refine ⟨[], [], ⟨rfl, rfl, Nat.le_refl _, fi.nx, rfl, fun _ _ _ => rfl, fun _ h => (by cases h), fun _ _ _ => rfl⟩, fun A m0 t ag hA => ?_⟩
    have hg := ag.is n h1 (.inr (Nat.le_trans ag.low (by omega)))
    have hr := rdN_ok (o := v) (s := t) (n := n) (by rw [← ag.nx]; exact h1) (by rw [← hg]; exact h2)
    rw [← ag.mark, if_neg e] at hr
    exact ⟨_, hr, ag, rfl, rfl, fun _ _ _ => rfl, fun _ _ _ => rfl⟩

theorem Local.wrN (n : Nat) (o : Option AObj) : Local (wrN n o) := by
  intro s v s1 fi h
  obtain ⟨h1, ht, ⟨p, h2, h3⟩, rfl⟩ := wrN_inv h
  by_cases e : n < s.mark
  · rw [if_pos e]
    refine ⟨[n], [n], ⟨rfl, rfl, Nat.le_refl _, fi.nx, rfl, fun k hk hn => ?_, fun _ h => h, fun k hk hkt => ?_⟩, fun A m0 t ag hA => ?_⟩
    · show (s.h.put n o).get k = _
      rw [Tr.get_put _ _ _ _ ht (by have := fi.mark; have := fi.nx; omega), if_neg (by simpa using hn)]
    · show (s.h.put n o).get k = _
      have : s.nx ≤ k := hk
      rw [Tr.get_put _ _ _ _ ht hkt, if_neg (by omega)]
    · have hq : A n ∨ m0 ≤ n := by
        by_cases q : n < m0
        · exact .inl (hA n (by simp) q)
        · exact .inr (by omega)
      have hg := ag.is n h1 hq
      have hr := wrN_ok (o := o) (s := t) (n := n) (p := p) (by rw [← ag.nx]; exact h1) ht (by rw [← hg]; exact h2) h3
      rw [← ag.mark, if_pos e] at hr
      refine ⟨_, hr, ⟨ag.nx, by first | exact ag.mark | rfl, ag.low, fun k hk hq => ?_⟩, rfl, rfl, fun k hk hn => ?_, fun k hk hkt => ?_⟩
      · show (s.h.put n o).get k = (t.h.put n o).get k
        have hk' : k < s.nx := hk
        have := fi.nx
        rw [Tr.get_put _ _ _ _ ht (by omega), Tr.get_put _ _ _ _ ht (by omega)]
        by_cases q : k = n
        · simp [q]
        · rw [if_neg q, if_neg q]; exact ag.is k hk hq
      · show (t.h.put n o).get k = _
        have := fi.mark; have := fi.nx; have := ag.low
        rw [Tr.get_put _ _ _ _ ht (by omega), if_neg (by simpa using hn)]
      · show (t.h.put n o).get k = _
        have : s.nx ≤ k := hk
        rw [Tr.get_put _ _ _ _ ht hkt, if_neg (by omega)]
  · rw [if_neg e]
    refine ⟨[], [], ⟨rfl, rfl, Nat.le_refl _, fi.nx, rfl, fun k hk hn => ?_, fun _ h => h, fun k hk hkt => ?_⟩, fun A m0 t ag hA => ?_⟩
    · show (s.h.put n o).get k = _
      have := fi.mark; have := fi.nx
      rw [Tr.get_put _ _ _ _ ht (by omega), if_neg (by omega)]
    · show (s.h.put n o).get k = _
      have : s.nx ≤ k := hk
      rw [Tr.get_put _ _ _ _ ht hkt, if_neg (by omega)]
    · have hg := ag.is n h1 (.inr (Nat.le_trans ag.low (by omega)))
      have hr := wrN_ok (o := o) (s := t) (n := n) (p := p) (by rw [← ag.nx]; exact h1) ht (by rw [← hg]; exact h2) h3
      rw [← ag.mark, if_neg e] at hr
      refine ⟨_, hr, ⟨ag.nx, by first | exact ag.mark | rfl, ag.low, fun k hk hq => ?_⟩, rfl, rfl, fun k hk hn => ?_, fun k hk hkt => ?_⟩
      · show (s.h.put n o).get k = (t.h.put n o).get k
        have hk' : k < s.nx := hk
        have := fi.nx
        rw [Tr.get_put _ _ _ _ ht (by omega), Tr.get_put _ _ _ _ ht (by omega)]
        by_cases q : k = n
        · simp [q]
        · rw [if_neg q, if_neg q]; exact ag.is k hk hq
      · show (t.h.put n o).get k = _
        have := fi.mark; have := fi.nx; have := ag.low
        rw [Tr.get_put _ _ _ _ ht (by omega), if_neg (by omega)]
      · show (t.h.put n o).get k = _
        have : s.nx ≤ k := hk
        rw [Tr.get_put _ _ _ _ ht hkt, if_neg (by omega)]

theorem Local.newN (o : AObj) : Local (newN o) := by
  intro s v s1 fi h
  obtain ⟨ht, rfl, rfl⟩ := newN_inv h
  refine ⟨[], [], ⟨rfl, rfl, Nat.le_succ _, ht, rfl, fun k hk hn => ?_, fun _ h => h, fun k hk hkt => ?_⟩, fun A m0 t ag hA => ?_⟩
  · show (s.h.put s.nx (some o)).get k = _
    have := fi.mark; have := fi.nx
    rw [Tr.get_put _ _ _ _ ht (by omega), if_neg (by omega)]
  · show (s.h.put s.nx (some o)).get k = _
    have : s.nx + 1 ≤ k := hk
    rw [Tr.get_put _ _ _ _ ht hkt, if_neg (by omega)]
  · have hr := newN_ok (o := o) (s := t) (by rw [← ag.nx]; exact ht)
    rw [← ag.nx] at hr
    refine ⟨_, hr, ⟨rfl, ag.mark, ag.low, fun k hk hq => ?_⟩, rfl, rfl, fun k hk hn => ?_, fun k hk hkt => ?_⟩
    · show (s.h.put s.nx (some o)).get k = (t.h.put s.nx (some o)).get k
      have hk' : k < s.nx + 1 := hk
      rw [Tr.get_put _ _ _ _ ht (by omega), Tr.get_put _ _ _ _ ht (by omega)]
      by_cases q : k = s.nx
      · simp [q]
      · rw [if_neg q, if_neg q]; exact ag.is k (by omega) hq
    · show (t.h.put s.nx (some o)).get k = _
      have := fi.mark; have := fi.nx; have := ag.low
      rw [Tr.get_put _ _ _ _ ht (by omega), if_neg (by omega)]
    · show (t.h.put s.nx (some o)).get k = _
      have : s.nx + 1 ≤ k := hk
      rw [Tr.get_put _ _ _ _ ht hkt, if_neg (by omega)]
end Go.Rn
