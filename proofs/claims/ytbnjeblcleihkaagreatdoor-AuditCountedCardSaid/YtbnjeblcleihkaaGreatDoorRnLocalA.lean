/- What a computation over names does hangs on the names that it notes, and on those that it made, alone. -/
import Derived.Test.YtbnjeblcleihkaaGreatDoorRnRun
namespace Go.Rn
structure Agree (A : Nat → Prop) (m0 : Nat) (s t : AS) : Prop where
  nx : s.nx = t.nx
  mark : s.mark = t.mark
  low : m0 ≤ s.mark
  is : ∀ k, k < s.nx → (A k ∨ m0 ≤ k) → s.h.get k = t.h.get k
structure Fine (s : AS) : Prop where
  mark : s.mark ≤ s.nx
  nx : s.nx ≤ top
structure Did (s s1 : AS) (dr dw : List Nat) : Prop where
  rd : s1.rd = dr ++ s.rd
  wr : s1.wr = dw ++ s.wr
  nx : s.nx ≤ s1.nx
  top : s1.nx ≤ top
  mark : s1.mark = s.mark
  same : ∀ k, k < s.mark → k ∉ dw → s1.h.get k = s.h.get k
  sub : ∀ k ∈ dw, k ∈ dr
  far : ∀ k, s1.nx ≤ k → k < Rn.top → s1.h.get k = s.h.get k
theorem Did.fine {s s1 : AS} {dr dw : List Nat} (f : Fine s) (d : Did s s1 dr dw) : Fine s1 :=
  ⟨by rw [d.mark]; exact Nat.le_trans f.mark d.nx, d.top⟩
structure Also (A : Nat → Prop) (m0 : Nat) (s1 t t1 : AS) (dr dw : List Nat) : Prop where
  agree : Agree A m0 s1 t1
  rd : t1.rd = dr ++ t.rd
  wr : t1.wr = dw ++ t.wr
  same : ∀ k, k < m0 → k ∉ dw → t1.h.get k = t.h.get k
  far : ∀ k, s1.nx ≤ k → k < Rn.top → t1.h.get k = t.h.get k
def Local {α : Type} (m : M α) : Prop :=
  ∀ s v s1, Fine s → m s = .ok v s1 → ∃ dr dw, Did s s1 dr dw ∧
    ∀ A m0 t, Agree A m0 s t → (∀ k ∈ dr, k < m0 → A k) → ∃ t1, m t = .ok v t1 ∧ Also A m0 s1 t t1 dr dw
theorem M.bind_ok {α β : Type} {m : M α} {f : α → M β} {s s1 : AS} {a : α} (h : m s = .ok a s1) : (m.bind f) s = f a s1 := by
  unfold M.bind; rw [h]
theorem M.bind_bad {α β : Type} {m : M α} {f : α → M β} {s : AS} (h : m s = .bad) : (m.bind f) s = .bad := by
  unfold M.bind; rw [h]
theorem M.bind_inv {α β : Type} {m : M α} {f : α → M β} {s s2 : AS} {b : β} (h : (m.bind f) s = .ok b s2) : ∃ a s1, m s = .ok a s1 ∧ f a s1 = .ok b s2 := by
  cases e : m s with
  | bad => rw [M.bind_bad e] at h; cases h
  | ok a s1 => rw [M.bind_ok e] at h; exact ⟨a, s1, rfl, h⟩
theorem bind_eq {α β : Type} (m : M α) (f : α → M β) : (m >>= f) = m.bind f := rfl
theorem pure_eq {α : Type} (a : α) : (pure a : M α) = M.pure a := rfl
theorem withO_some {α β : Type} (a : α) (f : α → M β) : withO (some a) f = f a := rfl
theorem withB_true {β : Type} (m : M β) : withB true m = m := rfl
theorem withO_inv {α β : Type} {o : Option α} {f : α → M β} {s s1 : AS} {b : β} (h : withO o f s = .ok b s1) : ∃ a, o = some a ∧ f a s = .ok b s1 := by
  cases o with
  | none => cases h
  | some a => exact ⟨a, rfl, h⟩
theorem withB_inv {β : Type} {c : Bool} {m : M β} {s s1 : AS} {b : β} (h : withB c m s = .ok b s1) : c = true ∧ m s = .ok b s1 := by
  cases c with
  | false => cases h
  | true => exact ⟨rfl, h⟩
theorem pure_inv {α : Type} {a b : α} {s s1 : AS} (h : M.pure a s = .ok b s1) : b = a ∧ s1 = s := by
  cases h; exact ⟨rfl, rfl⟩
theorem lift_inv {α : Type} {o : Option α} {b : α} {s s1 : AS} (h : lift o s = .ok b s1) : o = some b ∧ s1 = s := by
  cases o with
  | none => cases h
  | some a => cases h; exact ⟨rfl, rfl⟩
theorem Local.pure {α : Type} (a : α) : Local (M.pure a) := by
  intro s v s1 fi h
  obtain ⟨rfl, rfl⟩ := pure_inv h
  exact ⟨[], [], ⟨rfl, rfl, Nat.le_refl _, fi.nx, rfl, fun _ _ _ => rfl, fun _ h => h, fun _ _ _ => rfl⟩,
    fun A m0 t ag _ => ⟨t, rfl, ag, rfl, rfl, fun _ _ _ => rfl, fun _ _ _ => rfl⟩⟩
theorem Local.fail {α : Type} : Local (fail : M α) := by
  intro s v s1 _ h; cases h
theorem Local.withO {α β : Type} {o : Option α} {f : α → M β} (h : ∀ a, o = some a → Local (f a)) : Local (withO o f) := by
  cases o with
  | none => exact Local.fail
  | some a => exact h a rfl
theorem Local.withB {β : Type} {c : Bool} {m : M β} (h : c = true → Local m) : Local (withB c m) := by
  cases c with
  | false => exact Local.fail
  | true => exact h rfl
theorem Local.lift {α : Type} (o : Option α) : Local (lift o) := by
  cases o with
  | none => exact Local.fail
  | some a => exact Local.pure a
theorem Local.need (b : Bool) : Local (need b) := by
  cases b with
  | false => exact Local.fail
  | true => exact Local.pure ()
theorem Local.bind {α β : Type} {m : M α} {f : α → M β} (hm : Local m) (hf : ∀ a, Local (f a)) : Local (m.bind f) := by
  intro s v s2 fi h
  obtain ⟨a, s1, h1, h2⟩ := M.bind_inv h
  obtain ⟨dr, dw, d, x⟩ := hm s a s1 fi h1
  obtain ⟨dr', dw', d', x'⟩ := hf a s1 v s2 (d.fine fi) h2
  refine ⟨dr' ++ dr, dw' ++ dw, ⟨by rw [d'.rd, d.rd, List.append_assoc], by rw [d'.wr, d.wr, List.append_assoc], Nat.le_trans d.nx d'.nx, d'.top, d'.mark.trans d.mark, ?_, ?_, ?_⟩, ?_⟩
  · intro k hk hn
    have hn1 : k ∉ dw' := fun e => hn (List.mem_append.2 (.inl e))
    have hn2 : k ∉ dw := fun e => hn (List.mem_append.2 (.inr e))
    exact (d'.same k (by rw [d.mark]; exact hk) hn1).trans (d.same k hk hn2)
  · intro k hk
    rcases List.mem_append.1 hk with e | e
    · exact List.mem_append.2 (.inl (d'.sub k e))
    · exact List.mem_append.2 (.inr (d.sub k e))
  · intro k hk ht
    exact (d'.far k hk ht).trans (d.far k (Nat.le_trans d'.nx hk) ht)
  · intro A m0 t ag hA
    obtain ⟨t1, e1, al⟩ := x A m0 t ag (fun k hk hlt => hA k (List.mem_append.2 (.inr hk)) hlt)
    obtain ⟨t2, e2, al'⟩ := x' A m0 t1 al.agree (fun k hk hlt => hA k (List.mem_append.2 (.inl hk)) hlt)
    refine ⟨t2, by rw [M.bind_ok e1]; exact e2, al'.agree, by rw [al'.rd, al.rd, List.append_assoc], by rw [al'.wr, al.wr, List.append_assoc], ?_, ?_⟩
    · intro k hk hn
      have hn1 : k ∉ dw' := fun e => hn (List.mem_append.2 (.inl e))
      have hn2 : k ∉ dw := fun e => hn (List.mem_append.2 (.inr e))
      exact (al'.same k hk hn1).trans (al.same k hk hn2)
    · intro k hk ht
      exact (al'.far k hk ht).trans (al.far k (Nat.le_trans d'.nx hk) ht)
theorem blt_eq (n m : Nat) : (Nat.blt n m = true) = (n < m) := by
  show (Nat.ble (n + 1) m = true) = _
  rw [Nat.ble_eq]; rfl
theorem rec_blt {α : Type} (a b : α) (n m : Nat) : @Bool.rec (fun _ => α) a b (Nat.blt n m) = if n < m then b else a := by
  rw [rec_bool]; by_cases h : n < m
  · rw [if_pos h, if_pos (by rw [blt_eq]; exact h)]
  · rw [if_neg h, if_neg (by rw [blt_eq]; exact h)]
theorem rdN_inv {n : Nat} {o : AObj} {s s1 : AS} (h : rdN n s = .ok o s1) :
    n < s.nx ∧ s.h.get n = some o ∧ s1 = if n < s.mark then { s with rd := n :: s.rd } else s := by
  obtain ⟨hh, nx, mark, rd, wr⟩ := s
  cases hb : Nat.blt n nx with
  | false =>
    have : rdN n ⟨hh, nx, mark, rd, wr⟩ = .bad := by show @Bool.rec (fun _ => R AObj) .bad _ (Nat.blt n nx) = _; rw [hb]
    rw [this] at h; cases h
  | true =>
    cases hg : hh.get n with
    | none =>
      have : rdN n ⟨hh, nx, mark, rd, wr⟩ = .bad := by
        show @Bool.rec (fun _ => R AObj) .bad (@Option.rec AObj (fun _ => R AObj) .bad _ (hh.get n)) (Nat.blt n nx) = _; rw [hb, hg]
      rw [this] at h; cases h
    | some o' =>
      have : rdN n ⟨hh, nx, mark, rd, wr⟩ = @Bool.rec (fun _ => R AObj) (.ok o' ⟨hh, nx, mark, rd, wr⟩) (.ok o' ⟨hh, nx, mark, n :: rd, wr⟩) (Nat.blt n mark) := by
        show @Bool.rec (fun _ => R AObj) .bad (@Option.rec AObj (fun _ => R AObj) .bad _ (hh.get n)) (Nat.blt n nx) = _; rw [hb, hg]
      rw [this] at h
      have hlt : n < nx := by rw [← blt_eq]; exact hb
      cases hm : Nat.blt n mark with
      | false =>
        rw [hm] at h; cases h
        have : ¬ n < mark := by rw [← blt_eq, hm]; simp
        exact ⟨hlt, by first | exact hg | rfl, by simp [this]⟩
      | true =>
        rw [hm] at h; cases h
        have : n < mark := by rw [← blt_eq]; exact hm
        exact ⟨hlt, by first | exact hg | rfl, by simp [this]⟩
theorem rdN_ok {n : Nat} {o : AObj} {s : AS} (h1 : n < s.nx) (h2 : s.h.get n = some o) :
    rdN n s = .ok o (if n < s.mark then { s with rd := n :: s.rd } else s) := by
  obtain ⟨hh, nx, mark, rd, wr⟩ := s
  have hb : Nat.blt n nx = true := by rw [blt_eq]; exact h1
  have hg : hh.get n = some o := h2
  show @Bool.rec (fun _ => R AObj) .bad (@Option.rec AObj (fun _ => R AObj) .bad (fun o => @Bool.rec (fun _ => R AObj) (.ok o ⟨hh, nx, mark, rd, wr⟩) (.ok o ⟨hh, nx, mark, n :: rd, wr⟩) (Nat.blt n mark)) (hh.get n)) (Nat.blt n nx) = _
  rw [hb, hg]
  show @Bool.rec (fun _ => R AObj) _ _ (Nat.blt n mark) = _
  rw [rec_blt]
  by_cases e : n < mark <;> simp [e]
theorem wrN_inv {n : Nat} {o : Option AObj} {u : Unit} {s s1 : AS} (h : wrN n o s = .ok u s1) :
    n < s.nx ∧ n < top ∧ (∃ p, s.h.get n = some p ∧ p.isRo = false) ∧
      s1 = if n < s.mark then { s with h := s.h.put n o, rd := n :: s.rd, wr := n :: s.wr } else { s with h := s.h.put n o } := by
  obtain ⟨hh, nx, mark, rd, wr⟩ := s
  have e : wrN n o ⟨hh, nx, mark, rd, wr⟩ = @Bool.rec (fun _ => R Unit) .bad
      (@Option.rec AObj (fun _ => R Unit) .bad
        (fun p => @Bool.rec (fun _ => R Unit)
          (@Bool.rec (fun _ => R Unit) (.ok () ⟨hh.put n o, nx, mark, rd, wr⟩) (.ok () ⟨hh.put n o, nx, mark, n :: rd, n :: wr⟩) (Nat.blt n mark))
          .bad p.isRo)
        (hh.get n))
      (and (Nat.blt n nx) (Nat.blt n top)) := rfl
  rw [e] at h
  cases hb : and (Nat.blt n nx) (Nat.blt n top) with
  | false => rw [hb] at h; cases h
  | true =>
    rw [hb] at h
    have hb' := Bool.and_eq_true_iff.1 hb
    rw [blt_eq, blt_eq] at hb'
    cases hg : hh.get n with
    | none => rw [hg] at h; cases h
    | some p =>
      rw [hg] at h
      cases hr : p.isRo with
      | true =>
        have h' : @Bool.rec (fun _ => R Unit)
          (@Bool.rec (fun _ => R Unit) (.ok () ⟨hh.put n o, nx, mark, rd, wr⟩) (.ok () ⟨hh.put n o, nx, mark, n :: rd, n :: wr⟩) (Nat.blt n mark))
          .bad p.isRo = .ok u s1 := h
        rw [hr] at h'; cases h'
      | false =>
        have h' : @Bool.rec (fun _ => R Unit)
          (@Bool.rec (fun _ => R Unit) (.ok () ⟨hh.put n o, nx, mark, rd, wr⟩) (.ok () ⟨hh.put n o, nx, mark, n :: rd, n :: wr⟩) (Nat.blt n mark))
          .bad p.isRo = .ok u s1 := h
        rw [hr] at h'
        refine ⟨hb'.1, hb'.2, ⟨p, by first | exact hg | rfl, hr⟩, ?_⟩
        have h'' : @Bool.rec (fun _ => R Unit) (.ok () ⟨hh.put n o, nx, mark, rd, wr⟩) (.ok () ⟨hh.put n o, nx, mark, n :: rd, n :: wr⟩) (Nat.blt n mark) = .ok u s1 := h'
        rw [rec_blt] at h''
        by_cases e : n < mark
        · rw [if_pos e] at h''; injection h'' with _ h3; simp [e, ← h3]
        · rw [if_neg e] at h''; injection h'' with _ h3; simp [e, ← h3]
theorem wrN_ok {n : Nat} {o : Option AObj} {s : AS} {p : AObj} (h1 : n < s.nx) (h2 : n < top) (h3 : s.h.get n = some p) (h4 : p.isRo = false) :
    wrN n o s = .ok () (if n < s.mark then { s with h := s.h.put n o, rd := n :: s.rd, wr := n :: s.wr } else { s with h := s.h.put n o }) := by
  obtain ⟨hh, nx, mark, rd, wr⟩ := s
  have e : wrN n o ⟨hh, nx, mark, rd, wr⟩ = @Bool.rec (fun _ => R Unit) .bad
      (@Option.rec AObj (fun _ => R Unit) .bad
        (fun p => @Bool.rec (fun _ => R Unit)
          (@Bool.rec (fun _ => R Unit) (.ok () ⟨hh.put n o, nx, mark, rd, wr⟩) (.ok () ⟨hh.put n o, nx, mark, n :: rd, n :: wr⟩) (Nat.blt n mark))
          .bad p.isRo)
        (hh.get n))
      (and (Nat.blt n nx) (Nat.blt n top)) := rfl
  have hb : and (Nat.blt n nx) (Nat.blt n top) = true := Bool.and_eq_true_iff.2 ⟨by rw [blt_eq]; exact h1, by rw [blt_eq]; exact h2⟩
  have hg : hh.get n = some p := h3
  rw [e, hb, hg]
  show @Bool.rec (fun _ => R Unit) (@Bool.rec (fun _ => R Unit) (.ok () ⟨hh.put n o, nx, mark, rd, wr⟩) (.ok () ⟨hh.put n o, nx, mark, n :: rd, n :: wr⟩) (Nat.blt n mark)) .bad p.isRo = _
  rw [h4]
  show @Bool.rec (fun _ => R Unit) (.ok () ⟨hh.put n o, nx, mark, rd, wr⟩) (.ok () ⟨hh.put n o, nx, mark, n :: rd, n :: wr⟩) (Nat.blt n mark) = _
  rw [rec_blt]
  by_cases e : n < mark <;> simp [e]
theorem newN_inv {o : AObj} {n : Nat} {s s1 : AS} (h : newN o s = .ok n s1) : s.nx < top ∧ n = s.nx ∧ s1 = { s with h := s.h.put s.nx (some o), nx := s.nx + 1 } := by
  obtain ⟨hh, nx, mark, rd, wr⟩ := s
  have e : newN o ⟨hh, nx, mark, rd, wr⟩ = @Bool.rec (fun _ => R Nat) .bad (forced nx fun m => .ok m ⟨hh.put m (some o), m + 1, mark, rd, wr⟩) (Nat.blt nx top) := rfl
  rw [e, forced_eq] at h
  cases hb : Nat.blt nx top with
  | false => rw [hb] at h; cases h
  | true => rw [hb] at h; cases h; exact ⟨by rw [← blt_eq]; exact hb, rfl, rfl⟩
theorem newN_ok {o : AObj} {s : AS} (h : s.nx < top) : newN o s = .ok s.nx { s with h := s.h.put s.nx (some o), nx := s.nx + 1 } := by
  obtain ⟨hh, nx, mark, rd, wr⟩ := s
  have e : newN o ⟨hh, nx, mark, rd, wr⟩ = @Bool.rec (fun _ => R Nat) .bad (forced nx fun m => .ok m ⟨hh.put m (some o), m + 1, mark, rd, wr⟩) (Nat.blt nx top) := rfl
  have hb : Nat.blt nx top = true := by rw [blt_eq]; exact h
  rw [e, forced_eq, hb]
theorem Local.rdN (n : Nat) : Local (rdN n) := by
  intro s v s1 fi h
  obtain ⟨h1, h2, rfl⟩ := rdN_inv h
  by_cases e : n < s.mark
  · rw [if_pos e]
    refine ⟨[n], [], ⟨rfl, rfl, Nat.le_refl _, fi.nx, rfl, fun _ _ _ => rfl, fun _ h => (by cases h), fun _ _ _ => rfl⟩, fun A m0 t ag hA => ?_⟩
    have hq : A n ∨ m0 ≤ n := by
      by_cases q : n < m0
      · exact .inl (hA n (by simp) q)
      · exact .inr (by omega)
    have hg := ag.is n h1 hq
    have hr := rdN_ok (o := v) (s := t) (n := n) (by rw [← ag.nx]; exact h1) (by rw [← hg]; exact h2)
    rw [← ag.mark, if_pos e] at hr
    exact ⟨_, hr, ⟨ag.nx, by first | exact ag.mark | rfl, ag.low, ag.is⟩, rfl, rfl, fun _ _ _ => rfl, fun _ _ _ => rfl⟩
  · rw [if_neg e]
    refine ⟨[], [], ⟨rfl, rfl, Nat.le_refl _, fi.nx, rfl, fun _ _ _ => rfl, fun _ h => (by cases h), fun _ _ _ => rfl⟩, fun A m0 t ag hA => ?_⟩
    have hg := ag.is n h1 (.inr (Nat.le_trans ag.low (by omega)))
    have hr := rdN_ok (o := v) (s := t) (n := n) (by rw [← ag.nx]; exact h1) (by rw [← hg]; exact h2)
    rw [← ag.mark, if_neg e] at hr
    exact ⟨_, hr, ag, rfl, rfl, fun _ _ _ => rfl, fun _ _ _ => rfl⟩
theorem Local.wrN (n : Nat) (o : Option AObj) : Local (wrN n o) := by
  intro s v s1 fi h
  obtain ⟨h1, ht, ⟨p, h2, h3⟩, rfl⟩ := wrN_inv h
  by_cases e : n < s.mark
  · rw [if_pos e]
    refine ⟨[n], [n], ⟨rfl, rfl, Nat.le_refl _, fi.nx, rfl, fun k hk hn => ?_, fun _ h => h, fun k hk hkt => ?_⟩, fun A m0 t ag hA => ?_⟩
    · show (s.h.put n o).get k = _
      rw [Tr.get_put _ _ _ _ ht (by have := fi.mark; have := fi.nx; omega), if_neg (by simpa using hn)]
    · show (s.h.put n o).get k = _
      have : s.nx ≤ k := hk
      rw [Tr.get_put _ _ _ _ ht hkt, if_neg (by omega)]
    · have hq : A n ∨ m0 ≤ n := by
        by_cases q : n < m0
        · exact .inl (hA n (by simp) q)
        · exact .inr (by omega)
      have hg := ag.is n h1 hq
      have hr := wrN_ok (o := o) (s := t) (n := n) (p := p) (by rw [← ag.nx]; exact h1) ht (by rw [← hg]; exact h2) h3
      rw [← ag.mark, if_pos e] at hr
      refine ⟨_, hr, ⟨ag.nx, by first | exact ag.mark | rfl, ag.low, fun k hk hq => ?_⟩, rfl, rfl, fun k hk hn => ?_, fun k hk hkt => ?_⟩
      · show (s.h.put n o).get k = (t.h.put n o).get k
        have hk' : k < s.nx := hk
        have := fi.nx
        rw [Tr.get_put _ _ _ _ ht (by omega), Tr.get_put _ _ _ _ ht (by omega)]
        by_cases q : k = n
        · simp [q]
        · rw [if_neg q, if_neg q]; exact ag.is k hk hq
      · show (t.h.put n o).get k = _
        have := fi.mark; have := fi.nx; have := ag.low
        rw [Tr.get_put _ _ _ _ ht (by omega), if_neg (by simpa using hn)]
      · show (t.h.put n o).get k = _
        have : s.nx ≤ k := hk
        rw [Tr.get_put _ _ _ _ ht hkt, if_neg (by omega)]
  · rw [if_neg e]
    refine ⟨[], [], ⟨rfl, rfl, Nat.le_refl _, fi.nx, rfl, fun k hk hn => ?_, fun _ h => h, fun k hk hkt => ?_⟩, fun A m0 t ag hA => ?_⟩
    · show (s.h.put n o).get k = _
      have := fi.mark; have := fi.nx
      rw [Tr.get_put _ _ _ _ ht (by omega), if_neg (by omega)]
    · show (s.h.put n o).get k = _
      have : s.nx ≤ k := hk
      rw [Tr.get_put _ _ _ _ ht hkt, if_neg (by omega)]
    · have hg := ag.is n h1 (.inr (Nat.le_trans ag.low (by omega)))
      have hr := wrN_ok (o := o) (s := t) (n := n) (p := p) (by rw [← ag.nx]; exact h1) ht (by rw [← hg]; exact h2) h3
      rw [← ag.mark, if_neg e] at hr
      refine ⟨_, hr, ⟨ag.nx, by first | exact ag.mark | rfl, ag.low, fun k hk hq => ?_⟩, rfl, rfl, fun k hk hn => ?_, fun k hk hkt => ?_⟩
      · show (s.h.put n o).get k = (t.h.put n o).get k
        have hk' : k < s.nx := hk
        have := fi.nx
        rw [Tr.get_put _ _ _ _ ht (by omega), Tr.get_put _ _ _ _ ht (by omega)]
        by_cases q : k = n
        · simp [q]
        · rw [if_neg q, if_neg q]; exact ag.is k hk hq
      · show (t.h.put n o).get k = _
        have := fi.mark; have := fi.nx; have := ag.low
        rw [Tr.get_put _ _ _ _ ht (by omega), if_neg (by omega)]
      · show (t.h.put n o).get k = _
        have : s.nx ≤ k := hk
        rw [Tr.get_put _ _ _ _ ht hkt, if_neg (by omega)]
theorem Local.newN (o : AObj) : Local (newN o) := by
  intro s v s1 fi h
  obtain ⟨ht, rfl, rfl⟩ := newN_inv h
  refine ⟨[], [], ⟨rfl, rfl, Nat.le_succ _, ht, rfl, fun k hk hn => ?_, fun _ h => h, fun k hk hkt => ?_⟩, fun A m0 t ag hA => ?_⟩
  · show (s.h.put s.nx (some o)).get k = _
    have := fi.mark; have := fi.nx
    rw [Tr.get_put _ _ _ _ ht (by omega), if_neg (by omega)]
  · show (s.h.put s.nx (some o)).get k = _
    have : s.nx + 1 ≤ k := hk
    rw [Tr.get_put _ _ _ _ ht hkt, if_neg (by omega)]
  · have hr := newN_ok (o := o) (s := t) (by rw [← ag.nx]; exact ht)
    rw [← ag.nx] at hr
    refine ⟨_, hr, ⟨rfl, ag.mark, ag.low, fun k hk hq => ?_⟩, rfl, rfl, fun k hk hn => ?_, fun k hk hkt => ?_⟩
    · show (s.h.put s.nx (some o)).get k = (t.h.put s.nx (some o)).get k
      have hk' : k < s.nx + 1 := hk
      rw [Tr.get_put _ _ _ _ ht (by omega), Tr.get_put _ _ _ _ ht (by omega)]
      by_cases q : k = s.nx
      · simp [q]
      · rw [if_neg q, if_neg q]; exact ag.is k (by omega) hq
    · show (t.h.put s.nx (some o)).get k = _
      have := fi.mark; have := fi.nx; have := ag.low
      rw [Tr.get_put _ _ _ _ ht (by omega), if_neg (by omega)]
    · show (t.h.put s.nx (some o)).get k = _
      have : s.nx + 1 ≤ k := hk
      rw [Tr.get_put _ _ _ _ ht hkt, if_neg (by omega)]
end Go.Rn

namespace Go.Rn
theorem Local.readCells (n off k : Nat) : Local (readCells n off k) := by
  cases k with
  | zero => exact Local.pure _
  | succ k =>
    unfold Rn.readCells
    repeat' (first
    | exact Local.pure _ | exact Local.fail | exact Local.lift _ | exact Local.need _ | exact Local.rdN _ | exact Local.wrN _ _ | exact Local.newN _
    | refine Local.withO (fun _ _ => ?_) | refine Local.withB (fun _ => ?_) | refine Local.bind ?_ (fun _ => ?_)
    | split)
theorem Local.writeCells (n off : Nat) (l : List AV) : Local (writeCells n off l) := by
  unfold Rn.writeCells
  repeat' (first
    | exact Local.pure _ | exact Local.fail | exact Local.lift _ | exact Local.need _ | exact Local.rdN _ | exact Local.wrN _ _ | exact Local.newN _
    | exact Local.fail | exact Local.readCells _ _ _
    | refine Local.withO (fun _ _ => ?_) | refine Local.withB (fun _ => ?_) | refine Local.bind ?_ (fun _ => ?_)
    | split)
theorem Local.newRow (l : List AV) : Local (newRow l) := by
  unfold Rn.newRow
  repeat' (first
    | exact Local.pure _ | exact Local.fail | exact Local.lift _ | exact Local.need _ | exact Local.rdN _ | exact Local.wrN _ _ | exact Local.newN _
    | exact Local.fail | exact Local.readCells _ _ _ | exact Local.writeCells _ _ _
    | refine Local.withO (fun _ _ => ?_) | refine Local.withB (fun _ => ?_) | refine Local.bind ?_ (fun _ => ?_)
    | split)
theorem Local.loadVar (P : Program) (t : TypeId) (n off : Nat) : Local (loadVar P t n off) := by
  unfold Rn.loadVar
  repeat' (first
    | exact Local.pure _ | exact Local.fail | exact Local.lift _ | exact Local.need _ | exact Local.rdN _ | exact Local.wrN _ _ | exact Local.newN _
    | exact Local.fail | exact Local.readCells _ _ _ | exact Local.writeCells _ _ _ | exact Local.newRow _
    | refine Local.withO (fun _ _ => ?_) | refine Local.withB (fun _ => ?_) | refine Local.bind ?_ (fun _ => ?_)
    | split)
theorem Local.loadRow (P : Program) (t : TypeId) (n off : Nat) : Local (loadRow P t n off) := by
  unfold Rn.loadRow
  repeat' (first
    | exact Local.pure _ | exact Local.fail | exact Local.lift _ | exact Local.need _ | exact Local.rdN _ | exact Local.wrN _ _ | exact Local.newN _
    | exact Local.fail | exact Local.readCells _ _ _ | exact Local.writeCells _ _ _ | exact Local.newRow _ | exact Local.loadVar _ _ _ _
    | refine Local.withO (fun _ _ => ?_) | refine Local.withB (fun _ => ?_) | refine Local.bind ?_ (fun _ => ?_)
    | split)
theorem Local.loadFz (P : Program) (t : TypeId) {call : Caller} (hcall : ∀ t a, Local (call t a)) (n o : Nat) : Local (loadFz P t call n o) := by
  unfold Rn.loadFz
  repeat' (first
    | exact Local.pure _ | exact Local.fail | exact Local.lift _ | exact Local.need _ | exact Local.rdN _ | exact Local.wrN _ _ | exact Local.newN _
    | exact hcall _ _ | exact Local.readCells _ _ _ | exact Local.writeCells _ _ _ | exact Local.newRow _ | exact Local.loadVar _ _ _ _ | exact Local.loadRow _ _ _ _
    | refine Local.withO (fun _ _ => ?_) | refine Local.withB (fun _ => ?_) | refine Local.bind ?_ (fun _ => ?_)
    | split)
theorem Local.loadAt (P : Program) (t : TypeId) {call : Caller} (hcall : ∀ t a, Local (call t a)) (a : AV) : Local (loadAt P t call a) := by
  unfold Rn.loadAt
  repeat' (first
    | exact Local.pure _ | exact Local.fail | exact Local.lift _ | exact Local.need _ | exact Local.rdN _ | exact Local.wrN _ _ | exact Local.newN _
    | exact hcall _ _ | exact Local.readCells _ _ _ | exact Local.writeCells _ _ _ | exact Local.newRow _ | exact Local.loadVar _ _ _ _ | exact Local.loadRow _ _ _ _ | exact Local.loadFz _ _ hcall _ _
    | refine Local.withO (fun _ _ => ?_) | refine Local.withB (fun _ => ?_) | refine Local.bind ?_ (fun _ => ?_)
    | split)
theorem Local.storeVar (P : Program) (t : TypeId) (n off : Nat) (v : AV) : Local (storeVar P t n off v) := by
  unfold Rn.storeVar
  repeat' (first
    | exact Local.pure _ | exact Local.fail | exact Local.lift _ | exact Local.need _ | exact Local.rdN _ | exact Local.wrN _ _ | exact Local.newN _
    | exact Local.fail | exact Local.readCells _ _ _ | exact Local.writeCells _ _ _ | exact Local.newRow _ | exact Local.loadVar _ _ _ _ | exact Local.loadRow _ _ _ _
    | refine Local.withO (fun _ _ => ?_) | refine Local.withB (fun _ => ?_) | refine Local.bind ?_ (fun _ => ?_)
    | split)
theorem Local.buildSlice (P : Program) (t : TypeId) (len : Nat) (parts : List (Nat × AV)) : Local (buildSlice P t len parts) := by
  unfold Rn.buildSlice
  repeat' (first
    | exact Local.pure _ | exact Local.fail | exact Local.lift _ | exact Local.need _ | exact Local.rdN _ | exact Local.wrN _ _ | exact Local.newN _
    | exact Local.fail | exact Local.readCells _ _ _ | exact Local.writeCells _ _ _ | exact Local.newRow _ | exact Local.loadVar _ _ _ _ | exact Local.loadRow _ _ _ _ | exact Local.storeVar _ _ _ _ _
    | refine Local.withO (fun _ _ => ?_) | refine Local.withB (fun _ => ?_) | refine Local.bind ?_ (fun _ => ?_)
    | split)
theorem Local.makeSlice (P : Program) (t : TypeId) (len cap : AV) : Local (makeSlice P t len cap) := by
  unfold Rn.makeSlice
  repeat' (first
    | exact Local.pure _ | exact Local.fail | exact Local.lift _ | exact Local.need _ | exact Local.rdN _ | exact Local.wrN _ _ | exact Local.newN _
    | exact Local.fail | exact Local.readCells _ _ _ | exact Local.writeCells _ _ _ | exact Local.newRow _ | exact Local.loadVar _ _ _ _ | exact Local.loadRow _ _ _ _ | exact Local.storeVar _ _ _ _ _ | exact Local.buildSlice _ _ _ _
    | refine Local.withO (fun _ _ => ?_) | refine Local.withB (fun _ => ?_) | refine Local.bind ?_ (fun _ => ?_)
    | split)
theorem Local.firstCells (size n : Nat) (v : AV) : Local (firstCells size n v) := by
  unfold Rn.firstCells
  repeat' (first
    | exact Local.pure _ | exact Local.fail | exact Local.lift _ | exact Local.need _ | exact Local.rdN _ | exact Local.wrN _ _ | exact Local.newN _
    | exact Local.fail | exact Local.readCells _ _ _ | exact Local.writeCells _ _ _ | exact Local.newRow _ | exact Local.loadVar _ _ _ _ | exact Local.loadRow _ _ _ _ | exact Local.storeVar _ _ _ _ _ | exact Local.buildSlice _ _ _ _ | exact Local.makeSlice _ _ _ _
    | refine Local.withO (fun _ _ => ?_) | refine Local.withB (fun _ => ?_) | refine Local.bind ?_ (fun _ => ?_)
    | split)
theorem Local.grown (a b c : Nat) (l m : List AV) : Local (grown a b c l m) := by
  unfold Rn.grown
  repeat' (first
    | exact Local.pure _ | exact Local.fail | exact Local.lift _ | exact Local.need _ | exact Local.rdN _ | exact Local.wrN _ _ | exact Local.newN _
    | exact Local.fail | exact Local.readCells _ _ _ | exact Local.writeCells _ _ _ | exact Local.newRow _ | exact Local.loadVar _ _ _ _ | exact Local.loadRow _ _ _ _ | exact Local.storeVar _ _ _ _ _ | exact Local.buildSlice _ _ _ _ | exact Local.makeSlice _ _ _ _ | exact Local.firstCells _ _ _
    | refine Local.withO (fun _ _ => ?_) | refine Local.withB (fun _ => ?_) | refine Local.bind ?_ (fun _ => ?_)
    | split)
theorem Local.writeMore (n off : Nat) (l : List AV) : Local (writeMore n off l) := by
  unfold Rn.writeMore
  repeat' (first
    | exact Local.pure _ | exact Local.fail | exact Local.lift _ | exact Local.need _ | exact Local.rdN _ | exact Local.wrN _ _ | exact Local.newN _
    | exact Local.fail | exact Local.readCells _ _ _ | exact Local.writeCells _ _ _ | exact Local.newRow _ | exact Local.loadVar _ _ _ _ | exact Local.loadRow _ _ _ _ | exact Local.storeVar _ _ _ _ _ | exact Local.buildSlice _ _ _ _ | exact Local.makeSlice _ _ _ _ | exact Local.firstCells _ _ _ | exact Local.grown _ _ _ _ _
    | refine Local.withO (fun _ _ => ?_) | refine Local.withB (fun _ => ?_) | refine Local.bind ?_ (fun _ => ?_)
    | split)
theorem Local.appendRow (size bytes : Nat) (base : Option (Nat × Nat)) (len : Nat) (cap : Cap) (n : Nat) (new : List AV) : Local (appendRow size bytes base len cap n new) := by
  unfold Rn.appendRow
  repeat' (first
    | exact Local.pure _ | exact Local.fail | exact Local.lift _ | exact Local.need _ | exact Local.rdN _ | exact Local.wrN _ _ | exact Local.newN _
    | exact Local.fail | exact Local.readCells _ _ _ | exact Local.writeCells _ _ _ | exact Local.newRow _ | exact Local.loadVar _ _ _ _ | exact Local.loadRow _ _ _ _ | exact Local.storeVar _ _ _ _ _ | exact Local.buildSlice _ _ _ _ | exact Local.makeSlice _ _ _ _ | exact Local.firstCells _ _ _ | exact Local.grown _ _ _ _ _ | exact Local.writeMore _ _ _
    | refine Local.withO (fun _ _ => ?_) | refine Local.withB (fun _ => ?_) | refine Local.bind ?_ (fun _ => ?_)
    | split)
theorem Local.appendTo (P : Program) (ts : Array TypeId) (s x : AV) : Local (appendTo P ts s x) := by
  unfold Rn.appendTo
  repeat' (first
    | exact Local.pure _ | exact Local.fail | exact Local.lift _ | exact Local.need _ | exact Local.rdN _ | exact Local.wrN _ _ | exact Local.newN _
    | exact Local.fail | exact Local.readCells _ _ _ | exact Local.writeCells _ _ _ | exact Local.newRow _ | exact Local.loadVar _ _ _ _ | exact Local.loadRow _ _ _ _ | exact Local.storeVar _ _ _ _ _ | exact Local.buildSlice _ _ _ _ | exact Local.makeSlice _ _ _ _ | exact Local.firstCells _ _ _ | exact Local.grown _ _ _ _ _ | exact Local.writeMore _ _ _ | exact Local.appendRow _ _ _ _ _ _ _
    | refine Local.withO (fun _ _ => ?_) | refine Local.withB (fun _ => ?_) | refine Local.bind ?_ (fun _ => ?_)
    | split)
theorem Local.copyTo (P : Program) (ts : Array TypeId) (s x : AV) : Local (copyTo P ts s x) := by
  unfold Rn.copyTo
  repeat' (first
    | exact Local.pure _ | exact Local.fail | exact Local.lift _ | exact Local.need _ | exact Local.rdN _ | exact Local.wrN _ _ | exact Local.newN _
    | exact Local.fail | exact Local.readCells _ _ _ | exact Local.writeCells _ _ _ | exact Local.newRow _ | exact Local.loadVar _ _ _ _ | exact Local.loadRow _ _ _ _ | exact Local.storeVar _ _ _ _ _ | exact Local.buildSlice _ _ _ _ | exact Local.makeSlice _ _ _ _ | exact Local.firstCells _ _ _ | exact Local.grown _ _ _ _ _ | exact Local.writeMore _ _ _ | exact Local.appendRow _ _ _ _ _ _ _ | exact Local.appendTo _ _ _ _
    | refine Local.withO (fun _ _ => ?_) | refine Local.withB (fun _ => ?_) | refine Local.bind ?_ (fun _ => ?_)
    | split)
theorem Local.mapObj (r : Nat) : Local (mapObj r) := by
  unfold Rn.mapObj
  repeat' (first
    | exact Local.pure _ | exact Local.fail | exact Local.lift _ | exact Local.need _ | exact Local.rdN _ | exact Local.wrN _ _ | exact Local.newN _
    | exact Local.fail | exact Local.readCells _ _ _ | exact Local.writeCells _ _ _ | exact Local.newRow _ | exact Local.loadVar _ _ _ _ | exact Local.loadRow _ _ _ _ | exact Local.storeVar _ _ _ _ _ | exact Local.buildSlice _ _ _ _ | exact Local.makeSlice _ _ _ _ | exact Local.firstCells _ _ _ | exact Local.grown _ _ _ _ _ | exact Local.writeMore _ _ _ | exact Local.appendRow _ _ _ _ _ _ _ | exact Local.appendTo _ _ _ _ | exact Local.copyTo _ _ _ _
    | refine Local.withO (fun _ _ => ?_) | refine Local.withB (fun _ => ?_) | refine Local.bind ?_ (fun _ => ?_)
    | split)
theorem Local.mapFor (P : Program) (k : TypeId) (a x : AV) : Local (mapFor P k a x) := by
  unfold Rn.mapFor
  repeat' (first
    | exact Local.pure _ | exact Local.fail | exact Local.lift _ | exact Local.need _ | exact Local.rdN _ | exact Local.wrN _ _ | exact Local.newN _
    | exact Local.fail | exact Local.readCells _ _ _ | exact Local.writeCells _ _ _ | exact Local.newRow _ | exact Local.loadVar _ _ _ _ | exact Local.loadRow _ _ _ _ | exact Local.storeVar _ _ _ _ _ | exact Local.buildSlice _ _ _ _ | exact Local.makeSlice _ _ _ _ | exact Local.firstCells _ _ _ | exact Local.grown _ _ _ _ _ | exact Local.writeMore _ _ _ | exact Local.appendRow _ _ _ _ _ _ _ | exact Local.appendTo _ _ _ _ | exact Local.copyTo _ _ _ _ | exact Local.mapObj _
    | refine Local.withO (fun _ _ => ?_) | refine Local.withB (fun _ => ?_) | refine Local.bind ?_ (fun _ => ?_)
    | split)
theorem Local.putIn (r : Nat) (a b : AV) (l : List (AV × AV)) (c : Nat) (f : Option (Nat × AV)) : Local (putIn r a b l c f) := by
  unfold Rn.putIn
  repeat' (first
    | exact Local.pure _ | exact Local.fail | exact Local.lift _ | exact Local.need _ | exact Local.rdN _ | exact Local.wrN _ _ | exact Local.newN _
    | exact Local.fail | exact Local.readCells _ _ _ | exact Local.writeCells _ _ _ | exact Local.newRow _ | exact Local.loadVar _ _ _ _ | exact Local.loadRow _ _ _ _ | exact Local.storeVar _ _ _ _ _ | exact Local.buildSlice _ _ _ _ | exact Local.makeSlice _ _ _ _ | exact Local.firstCells _ _ _ | exact Local.grown _ _ _ _ _ | exact Local.writeMore _ _ _ | exact Local.appendRow _ _ _ _ _ _ _ | exact Local.appendTo _ _ _ _ | exact Local.copyTo _ _ _ _ | exact Local.mapObj _ | exact Local.mapFor _ _ _ _
    | refine Local.withO (fun _ _ => ?_) | refine Local.withB (fun _ => ?_) | refine Local.bind ?_ (fun _ => ?_)
    | split)
theorem Local.putInAny (r : Nat) (a b : AV) (l : List (AV × AV)) (f : Option (Nat × AV)) : Local (putInAny r a b l f) := by
  unfold Rn.putInAny
  repeat' (first
    | exact Local.pure _ | exact Local.fail | exact Local.lift _ | exact Local.need _ | exact Local.rdN _ | exact Local.wrN _ _ | exact Local.newN _
    | exact Local.fail | exact Local.readCells _ _ _ | exact Local.writeCells _ _ _ | exact Local.newRow _ | exact Local.loadVar _ _ _ _ | exact Local.loadRow _ _ _ _ | exact Local.storeVar _ _ _ _ _ | exact Local.buildSlice _ _ _ _ | exact Local.makeSlice _ _ _ _ | exact Local.firstCells _ _ _ | exact Local.grown _ _ _ _ _ | exact Local.writeMore _ _ _ | exact Local.appendRow _ _ _ _ _ _ _ | exact Local.appendTo _ _ _ _ | exact Local.copyTo _ _ _ _ | exact Local.mapObj _ | exact Local.mapFor _ _ _ _ | exact Local.putIn _ _ _ _ _ _
    | refine Local.withO (fun _ _ => ?_) | refine Local.withB (fun _ => ?_) | refine Local.bind ?_ (fun _ => ?_)
    | split)
theorem Local.lookupT (P : Program) (t : TypeId) (x k : AV) (ok : Bool) : Local (lookupT P t x k ok) := by
  unfold Rn.lookupT
  repeat' (first
    | exact Local.pure _ | exact Local.fail | exact Local.lift _ | exact Local.need _ | exact Local.rdN _ | exact Local.wrN _ _ | exact Local.newN _
    | exact Local.fail | exact Local.readCells _ _ _ | exact Local.writeCells _ _ _ | exact Local.newRow _ | exact Local.loadVar _ _ _ _ | exact Local.loadRow _ _ _ _ | exact Local.storeVar _ _ _ _ _ | exact Local.buildSlice _ _ _ _ | exact Local.makeSlice _ _ _ _ | exact Local.firstCells _ _ _ | exact Local.grown _ _ _ _ _ | exact Local.writeMore _ _ _ | exact Local.appendRow _ _ _ _ _ _ _ | exact Local.appendTo _ _ _ _ | exact Local.copyTo _ _ _ _ | exact Local.mapObj _ | exact Local.mapFor _ _ _ _ | exact Local.putIn _ _ _ _ _ _ | exact Local.putInAny _ _ _ _ _
    | refine Local.withO (fun _ _ => ?_) | refine Local.withB (fun _ => ?_) | refine Local.bind ?_ (fun _ => ?_)
    | split)
theorem Local.mapPut (P : Program) (t : TypeId) (m k v : AV) : Local (mapPut P t m k v) := by
  unfold Rn.mapPut
  repeat' (first
    | exact Local.pure _ | exact Local.fail | exact Local.lift _ | exact Local.need _ | exact Local.rdN _ | exact Local.wrN _ _ | exact Local.newN _
    | exact Local.fail | exact Local.readCells _ _ _ | exact Local.writeCells _ _ _ | exact Local.newRow _ | exact Local.loadVar _ _ _ _ | exact Local.loadRow _ _ _ _ | exact Local.storeVar _ _ _ _ _ | exact Local.buildSlice _ _ _ _ | exact Local.makeSlice _ _ _ _ | exact Local.firstCells _ _ _ | exact Local.grown _ _ _ _ _ | exact Local.writeMore _ _ _ | exact Local.appendRow _ _ _ _ _ _ _ | exact Local.appendTo _ _ _ _ | exact Local.copyTo _ _ _ _ | exact Local.mapObj _ | exact Local.mapFor _ _ _ _ | exact Local.putIn _ _ _ _ _ _ | exact Local.putInAny _ _ _ _ _ | exact Local.lookupT _ _ _ _ _
    | refine Local.withO (fun _ _ => ?_) | refine Local.withB (fun _ => ?_) | refine Local.bind ?_ (fun _ => ?_)
    | split)
theorem Local.lenT (P : Program) (ts : Array TypeId) (x : AV) : Local (lenT P ts x) := by
  unfold Rn.lenT
  repeat' (first
    | exact Local.pure _ | exact Local.fail | exact Local.lift _ | exact Local.need _ | exact Local.rdN _ | exact Local.wrN _ _ | exact Local.newN _
    | exact Local.fail | exact Local.readCells _ _ _ | exact Local.writeCells _ _ _ | exact Local.newRow _ | exact Local.loadVar _ _ _ _ | exact Local.loadRow _ _ _ _ | exact Local.storeVar _ _ _ _ _ | exact Local.buildSlice _ _ _ _ | exact Local.makeSlice _ _ _ _ | exact Local.firstCells _ _ _ | exact Local.grown _ _ _ _ _ | exact Local.writeMore _ _ _ | exact Local.appendRow _ _ _ _ _ _ _ | exact Local.appendTo _ _ _ _ | exact Local.copyTo _ _ _ _ | exact Local.mapObj _ | exact Local.mapFor _ _ _ _ | exact Local.putIn _ _ _ _ _ _ | exact Local.putInAny _ _ _ _ _ | exact Local.lookupT _ _ _ _ _ | exact Local.mapPut _ _ _ _ _
    | refine Local.withO (fun _ _ => ?_) | refine Local.withB (fun _ => ?_) | refine Local.bind ?_ (fun _ => ?_)
    | split)
theorem Local.clearT (P : Program) (ts : Array TypeId) (x : AV) : Local (clearT P ts x) := by
  unfold Rn.clearT
  repeat' (first
    | exact Local.pure _ | exact Local.fail | exact Local.lift _ | exact Local.need _ | exact Local.rdN _ | exact Local.wrN _ _ | exact Local.newN _
    | exact Local.fail | exact Local.readCells _ _ _ | exact Local.writeCells _ _ _ | exact Local.newRow _ | exact Local.loadVar _ _ _ _ | exact Local.loadRow _ _ _ _ | exact Local.storeVar _ _ _ _ _ | exact Local.buildSlice _ _ _ _ | exact Local.makeSlice _ _ _ _ | exact Local.firstCells _ _ _ | exact Local.grown _ _ _ _ _ | exact Local.writeMore _ _ _ | exact Local.appendRow _ _ _ _ _ _ _ | exact Local.appendTo _ _ _ _ | exact Local.copyTo _ _ _ _ | exact Local.mapObj _ | exact Local.mapFor _ _ _ _ | exact Local.putIn _ _ _ _ _ _ | exact Local.putInAny _ _ _ _ _ | exact Local.lookupT _ _ _ _ _ | exact Local.mapPut _ _ _ _ _ | exact Local.lenT _ _ _
    | refine Local.withO (fun _ _ => ?_) | refine Local.withB (fun _ => ?_) | refine Local.bind ?_ (fun _ => ?_)
    | split)
theorem Local.builtinT (P : Program) (b : Builtin) (ts : Array TypeId) (l : List AV) : Local (builtinT P b ts l) := by
  unfold Rn.builtinT
  repeat' (first
    | exact Local.pure _ | exact Local.fail | exact Local.lift _ | exact Local.need _ | exact Local.rdN _ | exact Local.wrN _ _ | exact Local.newN _
    | exact Local.fail | exact Local.readCells _ _ _ | exact Local.writeCells _ _ _ | exact Local.newRow _ | exact Local.loadVar _ _ _ _ | exact Local.loadRow _ _ _ _ | exact Local.storeVar _ _ _ _ _ | exact Local.buildSlice _ _ _ _ | exact Local.makeSlice _ _ _ _ | exact Local.firstCells _ _ _ | exact Local.grown _ _ _ _ _ | exact Local.writeMore _ _ _ | exact Local.appendRow _ _ _ _ _ _ _ | exact Local.appendTo _ _ _ _ | exact Local.copyTo _ _ _ _ | exact Local.mapObj _ | exact Local.mapFor _ _ _ _ | exact Local.putIn _ _ _ _ _ _ | exact Local.putInAny _ _ _ _ _ | exact Local.lookupT _ _ _ _ _ | exact Local.mapPut _ _ _ _ _ | exact Local.lenT _ _ _ | exact Local.clearT _ _ _
    | refine Local.withO (fun _ _ => ?_) | refine Local.withB (fun _ => ?_) | refine Local.bind ?_ (fun _ => ?_)
    | split)
theorem Local.toText (P : Program) (a b : TypeId) (x : AV) (n : Nat) : Local (toText P a b x n) := by
  unfold Rn.toText
  repeat' (first
    | exact Local.pure _ | exact Local.fail | exact Local.lift _ | exact Local.need _ | exact Local.rdN _ | exact Local.wrN _ _ | exact Local.newN _
    | exact Local.fail | exact Local.readCells _ _ _ | exact Local.writeCells _ _ _ | exact Local.newRow _ | exact Local.loadVar _ _ _ _ | exact Local.loadRow _ _ _ _ | exact Local.storeVar _ _ _ _ _ | exact Local.buildSlice _ _ _ _ | exact Local.makeSlice _ _ _ _ | exact Local.firstCells _ _ _ | exact Local.grown _ _ _ _ _ | exact Local.writeMore _ _ _ | exact Local.appendRow _ _ _ _ _ _ _ | exact Local.appendTo _ _ _ _ | exact Local.copyTo _ _ _ _ | exact Local.mapObj _ | exact Local.mapFor _ _ _ _ | exact Local.putIn _ _ _ _ _ _ | exact Local.putInAny _ _ _ _ _ | exact Local.lookupT _ _ _ _ _ | exact Local.mapPut _ _ _ _ _ | exact Local.lenT _ _ _ | exact Local.clearT _ _ _ | exact Local.builtinT _ _ _ _
    | refine Local.withO (fun _ _ => ?_) | refine Local.withB (fun _ => ?_) | refine Local.bind ?_ (fun _ => ?_)
    | split)
theorem Local.zeroOf (x : AV) (n : Nat) : Local (zeroOf x n) := by
  unfold Rn.zeroOf
  repeat' (first
    | exact Local.pure _ | exact Local.fail | exact Local.lift _ | exact Local.need _ | exact Local.rdN _ | exact Local.wrN _ _ | exact Local.newN _
    | exact Local.fail | exact Local.readCells _ _ _ | exact Local.writeCells _ _ _ | exact Local.newRow _ | exact Local.loadVar _ _ _ _ | exact Local.loadRow _ _ _ _ | exact Local.storeVar _ _ _ _ _ | exact Local.buildSlice _ _ _ _ | exact Local.makeSlice _ _ _ _ | exact Local.firstCells _ _ _ | exact Local.grown _ _ _ _ _ | exact Local.writeMore _ _ _ | exact Local.appendRow _ _ _ _ _ _ _ | exact Local.appendTo _ _ _ _ | exact Local.copyTo _ _ _ _ | exact Local.mapObj _ | exact Local.mapFor _ _ _ _ | exact Local.putIn _ _ _ _ _ _ | exact Local.putInAny _ _ _ _ _ | exact Local.lookupT _ _ _ _ _ | exact Local.mapPut _ _ _ _ _ | exact Local.lenT _ _ _ | exact Local.clearT _ _ _ | exact Local.builtinT _ _ _ _ | exact Local.toText _ _ _ _ _
    | refine Local.withO (fun _ _ => ?_) | refine Local.withB (fun _ => ?_) | refine Local.bind ?_ (fun _ => ?_)
    | split)
theorem Local.toZero (P : Program) (a b : TypeId) (x : AV) (n : Nat) : Local (toZero P a b x n) := by
  unfold Rn.toZero
  repeat' (first
    | exact Local.pure _ | exact Local.fail | exact Local.lift _ | exact Local.need _ | exact Local.rdN _ | exact Local.wrN _ _ | exact Local.newN _
    | exact Local.fail | exact Local.readCells _ _ _ | exact Local.writeCells _ _ _ | exact Local.newRow _ | exact Local.loadVar _ _ _ _ | exact Local.loadRow _ _ _ _ | exact Local.storeVar _ _ _ _ _ | exact Local.buildSlice _ _ _ _ | exact Local.makeSlice _ _ _ _ | exact Local.firstCells _ _ _ | exact Local.grown _ _ _ _ _ | exact Local.writeMore _ _ _ | exact Local.appendRow _ _ _ _ _ _ _ | exact Local.appendTo _ _ _ _ | exact Local.copyTo _ _ _ _ | exact Local.mapObj _ | exact Local.mapFor _ _ _ _ | exact Local.putIn _ _ _ _ _ _ | exact Local.putInAny _ _ _ _ _ | exact Local.lookupT _ _ _ _ _ | exact Local.mapPut _ _ _ _ _ | exact Local.lenT _ _ _ | exact Local.clearT _ _ _ | exact Local.builtinT _ _ _ _ | exact Local.toText _ _ _ _ _ | exact Local.zeroOf _ _
    | refine Local.withO (fun _ _ => ?_) | refine Local.withB (fun _ => ?_) | refine Local.bind ?_ (fun _ => ?_)
    | split)
theorem Local.rangeOf (P : Program) (a : TypeId) (x : AV) : Local (rangeOf P a x) := by
  unfold Rn.rangeOf
  repeat' (first
    | exact Local.pure _ | exact Local.fail | exact Local.lift _ | exact Local.need _ | exact Local.rdN _ | exact Local.wrN _ _ | exact Local.newN _
    | exact Local.fail | exact Local.readCells _ _ _ | exact Local.writeCells _ _ _ | exact Local.newRow _ | exact Local.loadVar _ _ _ _ | exact Local.loadRow _ _ _ _ | exact Local.storeVar _ _ _ _ _ | exact Local.buildSlice _ _ _ _ | exact Local.makeSlice _ _ _ _ | exact Local.firstCells _ _ _ | exact Local.grown _ _ _ _ _ | exact Local.writeMore _ _ _ | exact Local.appendRow _ _ _ _ _ _ _ | exact Local.appendTo _ _ _ _ | exact Local.copyTo _ _ _ _ | exact Local.mapObj _ | exact Local.mapFor _ _ _ _ | exact Local.putIn _ _ _ _ _ _ | exact Local.putInAny _ _ _ _ _ | exact Local.lookupT _ _ _ _ _ | exact Local.mapPut _ _ _ _ _ | exact Local.lenT _ _ _ | exact Local.clearT _ _ _ | exact Local.builtinT _ _ _ _ | exact Local.toText _ _ _ _ _ | exact Local.zeroOf _ _ | exact Local.toZero _ _ _ _ _
    | refine Local.withO (fun _ _ => ?_) | refine Local.withB (fun _ => ?_) | refine Local.bind ?_ (fun _ => ?_)
    | split)
theorem Local.entryOf (x : AV) : Local (entryOf x) := by
  unfold Rn.entryOf
  repeat' (first
    | exact Local.pure _ | exact Local.fail | exact Local.lift _ | exact Local.need _ | exact Local.rdN _ | exact Local.wrN _ _ | exact Local.newN _
    | exact Local.fail | exact Local.readCells _ _ _ | exact Local.writeCells _ _ _ | exact Local.newRow _ | exact Local.loadVar _ _ _ _ | exact Local.loadRow _ _ _ _ | exact Local.storeVar _ _ _ _ _ | exact Local.buildSlice _ _ _ _ | exact Local.makeSlice _ _ _ _ | exact Local.firstCells _ _ _ | exact Local.grown _ _ _ _ _ | exact Local.writeMore _ _ _ | exact Local.appendRow _ _ _ _ _ _ _ | exact Local.appendTo _ _ _ _ | exact Local.copyTo _ _ _ _ | exact Local.mapObj _ | exact Local.mapFor _ _ _ _ | exact Local.putIn _ _ _ _ _ _ | exact Local.putInAny _ _ _ _ _ | exact Local.lookupT _ _ _ _ _ | exact Local.mapPut _ _ _ _ _ | exact Local.lenT _ _ _ | exact Local.clearT _ _ _ | exact Local.builtinT _ _ _ _ | exact Local.toText _ _ _ _ _ | exact Local.zeroOf _ _ | exact Local.toZero _ _ _ _ _ | exact Local.rangeOf _ _ _
    | refine Local.withO (fun _ _ => ?_) | refine Local.withB (fun _ => ?_) | refine Local.bind ?_ (fun _ => ?_)
    | split)
theorem Local.nextStr (x : AV) : Local (nextStr x) := by
  unfold Rn.nextStr
  repeat' (first
    | exact Local.pure _ | exact Local.fail | exact Local.lift _ | exact Local.need _ | exact Local.rdN _ | exact Local.wrN _ _ | exact Local.newN _
    | exact Local.fail | exact Local.readCells _ _ _ | exact Local.writeCells _ _ _ | exact Local.newRow _ | exact Local.loadVar _ _ _ _ | exact Local.loadRow _ _ _ _ | exact Local.storeVar _ _ _ _ _ | exact Local.buildSlice _ _ _ _ | exact Local.makeSlice _ _ _ _ | exact Local.firstCells _ _ _ | exact Local.grown _ _ _ _ _ | exact Local.writeMore _ _ _ | exact Local.appendRow _ _ _ _ _ _ _ | exact Local.appendTo _ _ _ _ | exact Local.copyTo _ _ _ _ | exact Local.mapObj _ | exact Local.mapFor _ _ _ _ | exact Local.putIn _ _ _ _ _ _ | exact Local.putInAny _ _ _ _ _ | exact Local.lookupT _ _ _ _ _ | exact Local.mapPut _ _ _ _ _ | exact Local.lenT _ _ _ | exact Local.clearT _ _ _ | exact Local.builtinT _ _ _ _ | exact Local.toText _ _ _ _ _ | exact Local.zeroOf _ _ | exact Local.toZero _ _ _ _ _ | exact Local.rangeOf _ _ _ | exact Local.entryOf _
    | refine Local.withO (fun _ _ => ?_) | refine Local.withB (fun _ => ?_) | refine Local.bind ?_ (fun _ => ?_)
    | split)
theorem Local.callV {call : Caller} (hcall : ∀ t a, Local (call t a)) (f : AV) (l : List AV) : Local (callV call f l) := by
  unfold Rn.callV
  repeat' (first
    | exact Local.pure _ | exact Local.fail | exact Local.lift _ | exact Local.need _ | exact Local.rdN _ | exact Local.wrN _ _ | exact Local.newN _
    | exact hcall _ _ | exact Local.readCells _ _ _ | exact Local.writeCells _ _ _ | exact Local.newRow _ | exact Local.loadVar _ _ _ _ | exact Local.loadRow _ _ _ _ | exact Local.loadAt _ _ hcall _ | exact Local.storeVar _ _ _ _ _ | exact Local.buildSlice _ _ _ _ | exact Local.makeSlice _ _ _ _ | exact Local.firstCells _ _ _ | exact Local.grown _ _ _ _ _ | exact Local.writeMore _ _ _ | exact Local.appendRow _ _ _ _ _ _ _ | exact Local.appendTo _ _ _ _ | exact Local.copyTo _ _ _ _ | exact Local.mapObj _ | exact Local.mapFor _ _ _ _ | exact Local.putIn _ _ _ _ _ _ | exact Local.putInAny _ _ _ _ _ | exact Local.lookupT _ _ _ _ _ | exact Local.mapPut _ _ _ _ _ | exact Local.lenT _ _ _ | exact Local.clearT _ _ _ | exact Local.builtinT _ _ _ _ | exact Local.toText _ _ _ _ _ | exact Local.zeroOf _ _ | exact Local.toZero _ _ _ _ _ | exact Local.rangeOf _ _ _ | exact Local.entryOf _ | exact Local.nextStr _
    | refine Local.withO (fun _ _ => ?_) | refine Local.withB (fun _ => ?_) | refine Local.bind ?_ (fun _ => ?_)
    | split)
set_option maxHeartbeats 1000000 in
theorem Local.aop (P : Program) {call : Caller} (hcall : ∀ t a, Local (call t a)) (t : Tr AV) (op : Op) : Local (aop P call t op) := by
  unfold Rn.aop Rn.opB
  split <;> simp only [Box.val] <;> (first
    | (unfold Rn.kMove; (repeat' (first     | exact Local.pure _ | exact Local.fail | exact Local.lift _ | exact Local.need _ | exact Local.rdN _ | exact Local.wrN _ _ | exact Local.newN _     | exact hcall _ _ | exact Local.readCells _ _ _ | exact Local.writeCells _ _ _ | exact Local.newRow _ | exact Local.loadVar _ _ _ _ | exact Local.loadRow _ _ _ _ | exact Local.loadAt _ _ hcall _ | exact Local.storeVar _ _ _ _ _ | exact Local.buildSlice _ _ _ _ | exact Local.makeSlice _ _ _ _ | exact Local.firstCells _ _ _ | exact Local.grown _ _ _ _ _ | exact Local.writeMore _ _ _ | exact Local.appendRow _ _ _ _ _ _ _ | exact Local.appendTo _ _ _ _ | exact Local.copyTo _ _ _ _ | exact Local.mapObj _ | exact Local.mapFor _ _ _ _ | exact Local.putIn _ _ _ _ _ _ | exact Local.putInAny _ _ _ _ _ | exact Local.lookupT _ _ _ _ _ | exact Local.mapPut _ _ _ _ _ | exact Local.lenT _ _ _ | exact Local.clearT _ _ _ | exact Local.builtinT _ _ _ _ | exact Local.toText _ _ _ _ _ | exact Local.zeroOf _ _ | exact Local.toZero _ _ _ _ _ | exact Local.rangeOf _ _ _ | exact Local.entryOf _ | exact Local.nextStr _ | exact Local.callV hcall _ _     | refine Local.withO (fun _ _ => ?_) | refine Local.withB (fun _ => ?_) | refine Local.bind ?_ (fun _ => ?_)     | split)); done)
    | (unfold Rn.kPick; (repeat' (first     | exact Local.pure _ | exact Local.fail | exact Local.lift _ | exact Local.need _ | exact Local.rdN _ | exact Local.wrN _ _ | exact Local.newN _     | exact hcall _ _ | exact Local.readCells _ _ _ | exact Local.writeCells _ _ _ | exact Local.newRow _ | exact Local.loadVar _ _ _ _ | exact Local.loadRow _ _ _ _ | exact Local.loadAt _ _ hcall _ | exact Local.storeVar _ _ _ _ _ | exact Local.buildSlice _ _ _ _ | exact Local.makeSlice _ _ _ _ | exact Local.firstCells _ _ _ | exact Local.grown _ _ _ _ _ | exact Local.writeMore _ _ _ | exact Local.appendRow _ _ _ _ _ _ _ | exact Local.appendTo _ _ _ _ | exact Local.copyTo _ _ _ _ | exact Local.mapObj _ | exact Local.mapFor _ _ _ _ | exact Local.putIn _ _ _ _ _ _ | exact Local.putInAny _ _ _ _ _ | exact Local.lookupT _ _ _ _ _ | exact Local.mapPut _ _ _ _ _ | exact Local.lenT _ _ _ | exact Local.clearT _ _ _ | exact Local.builtinT _ _ _ _ | exact Local.toText _ _ _ _ _ | exact Local.zeroOf _ _ | exact Local.toZero _ _ _ _ _ | exact Local.rangeOf _ _ _ | exact Local.entryOf _ | exact Local.nextStr _ | exact Local.callV hcall _ _     | refine Local.withO (fun _ _ => ?_) | refine Local.withB (fun _ => ?_) | refine Local.bind ?_ (fun _ => ?_)     | split)); done)
    | (unfold Rn.kAlloc; (repeat' (first     | exact Local.pure _ | exact Local.fail | exact Local.lift _ | exact Local.need _ | exact Local.rdN _ | exact Local.wrN _ _ | exact Local.newN _     | exact hcall _ _ | exact Local.readCells _ _ _ | exact Local.writeCells _ _ _ | exact Local.newRow _ | exact Local.loadVar _ _ _ _ | exact Local.loadRow _ _ _ _ | exact Local.loadAt _ _ hcall _ | exact Local.storeVar _ _ _ _ _ | exact Local.buildSlice _ _ _ _ | exact Local.makeSlice _ _ _ _ | exact Local.firstCells _ _ _ | exact Local.grown _ _ _ _ _ | exact Local.writeMore _ _ _ | exact Local.appendRow _ _ _ _ _ _ _ | exact Local.appendTo _ _ _ _ | exact Local.copyTo _ _ _ _ | exact Local.mapObj _ | exact Local.mapFor _ _ _ _ | exact Local.putIn _ _ _ _ _ _ | exact Local.putInAny _ _ _ _ _ | exact Local.lookupT _ _ _ _ _ | exact Local.mapPut _ _ _ _ _ | exact Local.lenT _ _ _ | exact Local.clearT _ _ _ | exact Local.builtinT _ _ _ _ | exact Local.toText _ _ _ _ _ | exact Local.zeroOf _ _ | exact Local.toZero _ _ _ _ _ | exact Local.rangeOf _ _ _ | exact Local.entryOf _ | exact Local.nextStr _ | exact Local.callV hcall _ _     | refine Local.withO (fun _ _ => ?_) | refine Local.withB (fun _ => ?_) | refine Local.bind ?_ (fun _ => ?_)     | split)); done)
    | (unfold Rn.kBox; (repeat' (first     | exact Local.pure _ | exact Local.fail | exact Local.lift _ | exact Local.need _ | exact Local.rdN _ | exact Local.wrN _ _ | exact Local.newN _     | exact hcall _ _ | exact Local.readCells _ _ _ | exact Local.writeCells _ _ _ | exact Local.newRow _ | exact Local.loadVar _ _ _ _ | exact Local.loadRow _ _ _ _ | exact Local.loadAt _ _ hcall _ | exact Local.storeVar _ _ _ _ _ | exact Local.buildSlice _ _ _ _ | exact Local.makeSlice _ _ _ _ | exact Local.firstCells _ _ _ | exact Local.grown _ _ _ _ _ | exact Local.writeMore _ _ _ | exact Local.appendRow _ _ _ _ _ _ _ | exact Local.appendTo _ _ _ _ | exact Local.copyTo _ _ _ _ | exact Local.mapObj _ | exact Local.mapFor _ _ _ _ | exact Local.putIn _ _ _ _ _ _ | exact Local.putInAny _ _ _ _ _ | exact Local.lookupT _ _ _ _ _ | exact Local.mapPut _ _ _ _ _ | exact Local.lenT _ _ _ | exact Local.clearT _ _ _ | exact Local.builtinT _ _ _ _ | exact Local.toText _ _ _ _ _ | exact Local.zeroOf _ _ | exact Local.toZero _ _ _ _ _ | exact Local.rangeOf _ _ _ | exact Local.entryOf _ | exact Local.nextStr _ | exact Local.callV hcall _ _     | refine Local.withO (fun _ _ => ?_) | refine Local.withB (fun _ => ?_) | refine Local.bind ?_ (fun _ => ?_)     | split)); done)
    | (unfold Rn.kBuild; (repeat' (first     | exact Local.pure _ | exact Local.fail | exact Local.lift _ | exact Local.need _ | exact Local.rdN _ | exact Local.wrN _ _ | exact Local.newN _     | exact hcall _ _ | exact Local.readCells _ _ _ | exact Local.writeCells _ _ _ | exact Local.newRow _ | exact Local.loadVar _ _ _ _ | exact Local.loadRow _ _ _ _ | exact Local.loadAt _ _ hcall _ | exact Local.storeVar _ _ _ _ _ | exact Local.buildSlice _ _ _ _ | exact Local.makeSlice _ _ _ _ | exact Local.firstCells _ _ _ | exact Local.grown _ _ _ _ _ | exact Local.writeMore _ _ _ | exact Local.appendRow _ _ _ _ _ _ _ | exact Local.appendTo _ _ _ _ | exact Local.copyTo _ _ _ _ | exact Local.mapObj _ | exact Local.mapFor _ _ _ _ | exact Local.putIn _ _ _ _ _ _ | exact Local.putInAny _ _ _ _ _ | exact Local.lookupT _ _ _ _ _ | exact Local.mapPut _ _ _ _ _ | exact Local.lenT _ _ _ | exact Local.clearT _ _ _ | exact Local.builtinT _ _ _ _ | exact Local.toText _ _ _ _ _ | exact Local.zeroOf _ _ | exact Local.toZero _ _ _ _ _ | exact Local.rangeOf _ _ _ | exact Local.entryOf _ | exact Local.nextStr _ | exact Local.callV hcall _ _     | refine Local.withO (fun _ _ => ?_) | refine Local.withB (fun _ => ?_) | refine Local.bind ?_ (fun _ => ?_)     | split)); done)
    | (unfold Rn.kBuildSlice; (repeat' (first     | exact Local.pure _ | exact Local.fail | exact Local.lift _ | exact Local.need _ | exact Local.rdN _ | exact Local.wrN _ _ | exact Local.newN _     | exact hcall _ _ | exact Local.readCells _ _ _ | exact Local.writeCells _ _ _ | exact Local.newRow _ | exact Local.loadVar _ _ _ _ | exact Local.loadRow _ _ _ _ | exact Local.loadAt _ _ hcall _ | exact Local.storeVar _ _ _ _ _ | exact Local.buildSlice _ _ _ _ | exact Local.makeSlice _ _ _ _ | exact Local.firstCells _ _ _ | exact Local.grown _ _ _ _ _ | exact Local.writeMore _ _ _ | exact Local.appendRow _ _ _ _ _ _ _ | exact Local.appendTo _ _ _ _ | exact Local.copyTo _ _ _ _ | exact Local.mapObj _ | exact Local.mapFor _ _ _ _ | exact Local.putIn _ _ _ _ _ _ | exact Local.putInAny _ _ _ _ _ | exact Local.lookupT _ _ _ _ _ | exact Local.mapPut _ _ _ _ _ | exact Local.lenT _ _ _ | exact Local.clearT _ _ _ | exact Local.builtinT _ _ _ _ | exact Local.toText _ _ _ _ _ | exact Local.zeroOf _ _ | exact Local.toZero _ _ _ _ _ | exact Local.rangeOf _ _ _ | exact Local.entryOf _ | exact Local.nextStr _ | exact Local.callV hcall _ _     | refine Local.withO (fun _ _ => ?_) | refine Local.withB (fun _ => ?_) | refine Local.bind ?_ (fun _ => ?_)     | split)); done)
    | (unfold Rn.kLoad; (repeat' (first     | exact Local.pure _ | exact Local.fail | exact Local.lift _ | exact Local.need _ | exact Local.rdN _ | exact Local.wrN _ _ | exact Local.newN _     | exact hcall _ _ | exact Local.readCells _ _ _ | exact Local.writeCells _ _ _ | exact Local.newRow _ | exact Local.loadVar _ _ _ _ | exact Local.loadRow _ _ _ _ | exact Local.loadAt _ _ hcall _ | exact Local.storeVar _ _ _ _ _ | exact Local.buildSlice _ _ _ _ | exact Local.makeSlice _ _ _ _ | exact Local.firstCells _ _ _ | exact Local.grown _ _ _ _ _ | exact Local.writeMore _ _ _ | exact Local.appendRow _ _ _ _ _ _ _ | exact Local.appendTo _ _ _ _ | exact Local.copyTo _ _ _ _ | exact Local.mapObj _ | exact Local.mapFor _ _ _ _ | exact Local.putIn _ _ _ _ _ _ | exact Local.putInAny _ _ _ _ _ | exact Local.lookupT _ _ _ _ _ | exact Local.mapPut _ _ _ _ _ | exact Local.lenT _ _ _ | exact Local.clearT _ _ _ | exact Local.builtinT _ _ _ _ | exact Local.toText _ _ _ _ _ | exact Local.zeroOf _ _ | exact Local.toZero _ _ _ _ _ | exact Local.rangeOf _ _ _ | exact Local.entryOf _ | exact Local.nextStr _ | exact Local.callV hcall _ _     | refine Local.withO (fun _ _ => ?_) | refine Local.withB (fun _ => ?_) | refine Local.bind ?_ (fun _ => ?_)     | split)); done)
    | (unfold Rn.kStore; (repeat' (first     | exact Local.pure _ | exact Local.fail | exact Local.lift _ | exact Local.need _ | exact Local.rdN _ | exact Local.wrN _ _ | exact Local.newN _     | exact hcall _ _ | exact Local.readCells _ _ _ | exact Local.writeCells _ _ _ | exact Local.newRow _ | exact Local.loadVar _ _ _ _ | exact Local.loadRow _ _ _ _ | exact Local.loadAt _ _ hcall _ | exact Local.storeVar _ _ _ _ _ | exact Local.buildSlice _ _ _ _ | exact Local.makeSlice _ _ _ _ | exact Local.firstCells _ _ _ | exact Local.grown _ _ _ _ _ | exact Local.writeMore _ _ _ | exact Local.appendRow _ _ _ _ _ _ _ | exact Local.appendTo _ _ _ _ | exact Local.copyTo _ _ _ _ | exact Local.mapObj _ | exact Local.mapFor _ _ _ _ | exact Local.putIn _ _ _ _ _ _ | exact Local.putInAny _ _ _ _ _ | exact Local.lookupT _ _ _ _ _ | exact Local.mapPut _ _ _ _ _ | exact Local.lenT _ _ _ | exact Local.clearT _ _ _ | exact Local.builtinT _ _ _ _ | exact Local.toText _ _ _ _ _ | exact Local.zeroOf _ _ | exact Local.toZero _ _ _ _ _ | exact Local.rangeOf _ _ _ | exact Local.entryOf _ | exact Local.nextStr _ | exact Local.callV hcall _ _     | refine Local.withO (fun _ _ => ?_) | refine Local.withB (fun _ => ?_) | refine Local.bind ?_ (fun _ => ?_)     | split)); done)
    | (unfold Rn.kNilCheck; (repeat' (first     | exact Local.pure _ | exact Local.fail | exact Local.lift _ | exact Local.need _ | exact Local.rdN _ | exact Local.wrN _ _ | exact Local.newN _     | exact hcall _ _ | exact Local.readCells _ _ _ | exact Local.writeCells _ _ _ | exact Local.newRow _ | exact Local.loadVar _ _ _ _ | exact Local.loadRow _ _ _ _ | exact Local.loadAt _ _ hcall _ | exact Local.storeVar _ _ _ _ _ | exact Local.buildSlice _ _ _ _ | exact Local.makeSlice _ _ _ _ | exact Local.firstCells _ _ _ | exact Local.grown _ _ _ _ _ | exact Local.writeMore _ _ _ | exact Local.appendRow _ _ _ _ _ _ _ | exact Local.appendTo _ _ _ _ | exact Local.copyTo _ _ _ _ | exact Local.mapObj _ | exact Local.mapFor _ _ _ _ | exact Local.putIn _ _ _ _ _ _ | exact Local.putInAny _ _ _ _ _ | exact Local.lookupT _ _ _ _ _ | exact Local.mapPut _ _ _ _ _ | exact Local.lenT _ _ _ | exact Local.clearT _ _ _ | exact Local.builtinT _ _ _ _ | exact Local.toText _ _ _ _ _ | exact Local.zeroOf _ _ | exact Local.toZero _ _ _ _ _ | exact Local.rangeOf _ _ _ | exact Local.entryOf _ | exact Local.nextStr _ | exact Local.callV hcall _ _     | refine Local.withO (fun _ _ => ?_) | refine Local.withB (fun _ => ?_) | refine Local.bind ?_ (fun _ => ?_)     | split)); done)
    | (unfold Rn.kBin; (repeat' (first     | exact Local.pure _ | exact Local.fail | exact Local.lift _ | exact Local.need _ | exact Local.rdN _ | exact Local.wrN _ _ | exact Local.newN _     | exact hcall _ _ | exact Local.readCells _ _ _ | exact Local.writeCells _ _ _ | exact Local.newRow _ | exact Local.loadVar _ _ _ _ | exact Local.loadRow _ _ _ _ | exact Local.loadAt _ _ hcall _ | exact Local.storeVar _ _ _ _ _ | exact Local.buildSlice _ _ _ _ | exact Local.makeSlice _ _ _ _ | exact Local.firstCells _ _ _ | exact Local.grown _ _ _ _ _ | exact Local.writeMore _ _ _ | exact Local.appendRow _ _ _ _ _ _ _ | exact Local.appendTo _ _ _ _ | exact Local.copyTo _ _ _ _ | exact Local.mapObj _ | exact Local.mapFor _ _ _ _ | exact Local.putIn _ _ _ _ _ _ | exact Local.putInAny _ _ _ _ _ | exact Local.lookupT _ _ _ _ _ | exact Local.mapPut _ _ _ _ _ | exact Local.lenT _ _ _ | exact Local.clearT _ _ _ | exact Local.builtinT _ _ _ _ | exact Local.toText _ _ _ _ _ | exact Local.zeroOf _ _ | exact Local.toZero _ _ _ _ _ | exact Local.rangeOf _ _ _ | exact Local.entryOf _ | exact Local.nextStr _ | exact Local.callV hcall _ _     | refine Local.withO (fun _ _ => ?_) | refine Local.withB (fun _ => ?_) | refine Local.bind ?_ (fun _ => ?_)     | split)); done)
    | (unfold Rn.kUn; (repeat' (first     | exact Local.pure _ | exact Local.fail | exact Local.lift _ | exact Local.need _ | exact Local.rdN _ | exact Local.wrN _ _ | exact Local.newN _     | exact hcall _ _ | exact Local.readCells _ _ _ | exact Local.writeCells _ _ _ | exact Local.newRow _ | exact Local.loadVar _ _ _ _ | exact Local.loadRow _ _ _ _ | exact Local.loadAt _ _ hcall _ | exact Local.storeVar _ _ _ _ _ | exact Local.buildSlice _ _ _ _ | exact Local.makeSlice _ _ _ _ | exact Local.firstCells _ _ _ | exact Local.grown _ _ _ _ _ | exact Local.writeMore _ _ _ | exact Local.appendRow _ _ _ _ _ _ _ | exact Local.appendTo _ _ _ _ | exact Local.copyTo _ _ _ _ | exact Local.mapObj _ | exact Local.mapFor _ _ _ _ | exact Local.putIn _ _ _ _ _ _ | exact Local.putInAny _ _ _ _ _ | exact Local.lookupT _ _ _ _ _ | exact Local.mapPut _ _ _ _ _ | exact Local.lenT _ _ _ | exact Local.clearT _ _ _ | exact Local.builtinT _ _ _ _ | exact Local.toText _ _ _ _ _ | exact Local.zeroOf _ _ | exact Local.toZero _ _ _ _ _ | exact Local.rangeOf _ _ _ | exact Local.entryOf _ | exact Local.nextStr _ | exact Local.callV hcall _ _     | refine Local.withO (fun _ _ => ?_) | refine Local.withB (fun _ => ?_) | refine Local.bind ?_ (fun _ => ?_)     | split)); done)
    | (unfold Rn.kConvert; (repeat' (first     | exact Local.pure _ | exact Local.fail | exact Local.lift _ | exact Local.need _ | exact Local.rdN _ | exact Local.wrN _ _ | exact Local.newN _     | exact hcall _ _ | exact Local.readCells _ _ _ | exact Local.writeCells _ _ _ | exact Local.newRow _ | exact Local.loadVar _ _ _ _ | exact Local.loadRow _ _ _ _ | exact Local.loadAt _ _ hcall _ | exact Local.storeVar _ _ _ _ _ | exact Local.buildSlice _ _ _ _ | exact Local.makeSlice _ _ _ _ | exact Local.firstCells _ _ _ | exact Local.grown _ _ _ _ _ | exact Local.writeMore _ _ _ | exact Local.appendRow _ _ _ _ _ _ _ | exact Local.appendTo _ _ _ _ | exact Local.copyTo _ _ _ _ | exact Local.mapObj _ | exact Local.mapFor _ _ _ _ | exact Local.putIn _ _ _ _ _ _ | exact Local.putInAny _ _ _ _ _ | exact Local.lookupT _ _ _ _ _ | exact Local.mapPut _ _ _ _ _ | exact Local.lenT _ _ _ | exact Local.clearT _ _ _ | exact Local.builtinT _ _ _ _ | exact Local.toText _ _ _ _ _ | exact Local.zeroOf _ _ | exact Local.toZero _ _ _ _ _ | exact Local.rangeOf _ _ _ | exact Local.entryOf _ | exact Local.nextStr _ | exact Local.callV hcall _ _     | refine Local.withO (fun _ _ => ?_) | refine Local.withB (fun _ => ?_) | refine Local.bind ?_ (fun _ => ?_)     | split)); done)
    | (unfold Rn.kMakeInterface; (repeat' (first     | exact Local.pure _ | exact Local.fail | exact Local.lift _ | exact Local.need _ | exact Local.rdN _ | exact Local.wrN _ _ | exact Local.newN _     | exact hcall _ _ | exact Local.readCells _ _ _ | exact Local.writeCells _ _ _ | exact Local.newRow _ | exact Local.loadVar _ _ _ _ | exact Local.loadRow _ _ _ _ | exact Local.loadAt _ _ hcall _ | exact Local.storeVar _ _ _ _ _ | exact Local.buildSlice _ _ _ _ | exact Local.makeSlice _ _ _ _ | exact Local.firstCells _ _ _ | exact Local.grown _ _ _ _ _ | exact Local.writeMore _ _ _ | exact Local.appendRow _ _ _ _ _ _ _ | exact Local.appendTo _ _ _ _ | exact Local.copyTo _ _ _ _ | exact Local.mapObj _ | exact Local.mapFor _ _ _ _ | exact Local.putIn _ _ _ _ _ _ | exact Local.putInAny _ _ _ _ _ | exact Local.lookupT _ _ _ _ _ | exact Local.mapPut _ _ _ _ _ | exact Local.lenT _ _ _ | exact Local.clearT _ _ _ | exact Local.builtinT _ _ _ _ | exact Local.toText _ _ _ _ _ | exact Local.zeroOf _ _ | exact Local.toZero _ _ _ _ _ | exact Local.rangeOf _ _ _ | exact Local.entryOf _ | exact Local.nextStr _ | exact Local.callV hcall _ _     | refine Local.withO (fun _ _ => ?_) | refine Local.withB (fun _ => ?_) | refine Local.bind ?_ (fun _ => ?_)     | split)); done)
    | (unfold Rn.kMakeFunc; (repeat' (first     | exact Local.pure _ | exact Local.fail | exact Local.lift _ | exact Local.need _ | exact Local.rdN _ | exact Local.wrN _ _ | exact Local.newN _     | exact hcall _ _ | exact Local.readCells _ _ _ | exact Local.writeCells _ _ _ | exact Local.newRow _ | exact Local.loadVar _ _ _ _ | exact Local.loadRow _ _ _ _ | exact Local.loadAt _ _ hcall _ | exact Local.storeVar _ _ _ _ _ | exact Local.buildSlice _ _ _ _ | exact Local.makeSlice _ _ _ _ | exact Local.firstCells _ _ _ | exact Local.grown _ _ _ _ _ | exact Local.writeMore _ _ _ | exact Local.appendRow _ _ _ _ _ _ _ | exact Local.appendTo _ _ _ _ | exact Local.copyTo _ _ _ _ | exact Local.mapObj _ | exact Local.mapFor _ _ _ _ | exact Local.putIn _ _ _ _ _ _ | exact Local.putInAny _ _ _ _ _ | exact Local.lookupT _ _ _ _ _ | exact Local.mapPut _ _ _ _ _ | exact Local.lenT _ _ _ | exact Local.clearT _ _ _ | exact Local.builtinT _ _ _ _ | exact Local.toText _ _ _ _ _ | exact Local.zeroOf _ _ | exact Local.toZero _ _ _ _ _ | exact Local.rangeOf _ _ _ | exact Local.entryOf _ | exact Local.nextStr _ | exact Local.callV hcall _ _     | refine Local.withO (fun _ _ => ?_) | refine Local.withB (fun _ => ?_) | refine Local.bind ?_ (fun _ => ?_)     | split)); done)
    | (unfold Rn.kMakeMap; (repeat' (first     | exact Local.pure _ | exact Local.fail | exact Local.lift _ | exact Local.need _ | exact Local.rdN _ | exact Local.wrN _ _ | exact Local.newN _     | exact hcall _ _ | exact Local.readCells _ _ _ | exact Local.writeCells _ _ _ | exact Local.newRow _ | exact Local.loadVar _ _ _ _ | exact Local.loadRow _ _ _ _ | exact Local.loadAt _ _ hcall _ | exact Local.storeVar _ _ _ _ _ | exact Local.buildSlice _ _ _ _ | exact Local.makeSlice _ _ _ _ | exact Local.firstCells _ _ _ | exact Local.grown _ _ _ _ _ | exact Local.writeMore _ _ _ | exact Local.appendRow _ _ _ _ _ _ _ | exact Local.appendTo _ _ _ _ | exact Local.copyTo _ _ _ _ | exact Local.mapObj _ | exact Local.mapFor _ _ _ _ | exact Local.putIn _ _ _ _ _ _ | exact Local.putInAny _ _ _ _ _ | exact Local.lookupT _ _ _ _ _ | exact Local.mapPut _ _ _ _ _ | exact Local.lenT _ _ _ | exact Local.clearT _ _ _ | exact Local.builtinT _ _ _ _ | exact Local.toText _ _ _ _ _ | exact Local.zeroOf _ _ | exact Local.toZero _ _ _ _ _ | exact Local.rangeOf _ _ _ | exact Local.entryOf _ | exact Local.nextStr _ | exact Local.callV hcall _ _     | refine Local.withO (fun _ _ => ?_) | refine Local.withB (fun _ => ?_) | refine Local.bind ?_ (fun _ => ?_)     | split)); done)
    | (unfold Rn.kMakeSlice; (repeat' (first     | exact Local.pure _ | exact Local.fail | exact Local.lift _ | exact Local.need _ | exact Local.rdN _ | exact Local.wrN _ _ | exact Local.newN _     | exact hcall _ _ | exact Local.readCells _ _ _ | exact Local.writeCells _ _ _ | exact Local.newRow _ | exact Local.loadVar _ _ _ _ | exact Local.loadRow _ _ _ _ | exact Local.loadAt _ _ hcall _ | exact Local.storeVar _ _ _ _ _ | exact Local.buildSlice _ _ _ _ | exact Local.makeSlice _ _ _ _ | exact Local.firstCells _ _ _ | exact Local.grown _ _ _ _ _ | exact Local.writeMore _ _ _ | exact Local.appendRow _ _ _ _ _ _ _ | exact Local.appendTo _ _ _ _ | exact Local.copyTo _ _ _ _ | exact Local.mapObj _ | exact Local.mapFor _ _ _ _ | exact Local.putIn _ _ _ _ _ _ | exact Local.putInAny _ _ _ _ _ | exact Local.lookupT _ _ _ _ _ | exact Local.mapPut _ _ _ _ _ | exact Local.lenT _ _ _ | exact Local.clearT _ _ _ | exact Local.builtinT _ _ _ _ | exact Local.toText _ _ _ _ _ | exact Local.zeroOf _ _ | exact Local.toZero _ _ _ _ _ | exact Local.rangeOf _ _ _ | exact Local.entryOf _ | exact Local.nextStr _ | exact Local.callV hcall _ _     | refine Local.withO (fun _ _ => ?_) | refine Local.withB (fun _ => ?_) | refine Local.bind ?_ (fun _ => ?_)     | split)); done)
    | (unfold Rn.kSlice; (repeat' (first     | exact Local.pure _ | exact Local.fail | exact Local.lift _ | exact Local.need _ | exact Local.rdN _ | exact Local.wrN _ _ | exact Local.newN _     | exact hcall _ _ | exact Local.readCells _ _ _ | exact Local.writeCells _ _ _ | exact Local.newRow _ | exact Local.loadVar _ _ _ _ | exact Local.loadRow _ _ _ _ | exact Local.loadAt _ _ hcall _ | exact Local.storeVar _ _ _ _ _ | exact Local.buildSlice _ _ _ _ | exact Local.makeSlice _ _ _ _ | exact Local.firstCells _ _ _ | exact Local.grown _ _ _ _ _ | exact Local.writeMore _ _ _ | exact Local.appendRow _ _ _ _ _ _ _ | exact Local.appendTo _ _ _ _ | exact Local.copyTo _ _ _ _ | exact Local.mapObj _ | exact Local.mapFor _ _ _ _ | exact Local.putIn _ _ _ _ _ _ | exact Local.putInAny _ _ _ _ _ | exact Local.lookupT _ _ _ _ _ | exact Local.mapPut _ _ _ _ _ | exact Local.lenT _ _ _ | exact Local.clearT _ _ _ | exact Local.builtinT _ _ _ _ | exact Local.toText _ _ _ _ _ | exact Local.zeroOf _ _ | exact Local.toZero _ _ _ _ _ | exact Local.rangeOf _ _ _ | exact Local.entryOf _ | exact Local.nextStr _ | exact Local.callV hcall _ _     | refine Local.withO (fun _ _ => ?_) | refine Local.withB (fun _ => ?_) | refine Local.bind ?_ (fun _ => ?_)     | split)); done)
    | (unfold Rn.kFieldAddr; (repeat' (first     | exact Local.pure _ | exact Local.fail | exact Local.lift _ | exact Local.need _ | exact Local.rdN _ | exact Local.wrN _ _ | exact Local.newN _     | exact hcall _ _ | exact Local.readCells _ _ _ | exact Local.writeCells _ _ _ | exact Local.newRow _ | exact Local.loadVar _ _ _ _ | exact Local.loadRow _ _ _ _ | exact Local.loadAt _ _ hcall _ | exact Local.storeVar _ _ _ _ _ | exact Local.buildSlice _ _ _ _ | exact Local.makeSlice _ _ _ _ | exact Local.firstCells _ _ _ | exact Local.grown _ _ _ _ _ | exact Local.writeMore _ _ _ | exact Local.appendRow _ _ _ _ _ _ _ | exact Local.appendTo _ _ _ _ | exact Local.copyTo _ _ _ _ | exact Local.mapObj _ | exact Local.mapFor _ _ _ _ | exact Local.putIn _ _ _ _ _ _ | exact Local.putInAny _ _ _ _ _ | exact Local.lookupT _ _ _ _ _ | exact Local.mapPut _ _ _ _ _ | exact Local.lenT _ _ _ | exact Local.clearT _ _ _ | exact Local.builtinT _ _ _ _ | exact Local.toText _ _ _ _ _ | exact Local.zeroOf _ _ | exact Local.toZero _ _ _ _ _ | exact Local.rangeOf _ _ _ | exact Local.entryOf _ | exact Local.nextStr _ | exact Local.callV hcall _ _     | refine Local.withO (fun _ _ => ?_) | refine Local.withB (fun _ => ?_) | refine Local.bind ?_ (fun _ => ?_)     | split)); done)
    | (unfold Rn.kField; (repeat' (first     | exact Local.pure _ | exact Local.fail | exact Local.lift _ | exact Local.need _ | exact Local.rdN _ | exact Local.wrN _ _ | exact Local.newN _     | exact hcall _ _ | exact Local.readCells _ _ _ | exact Local.writeCells _ _ _ | exact Local.newRow _ | exact Local.loadVar _ _ _ _ | exact Local.loadRow _ _ _ _ | exact Local.loadAt _ _ hcall _ | exact Local.storeVar _ _ _ _ _ | exact Local.buildSlice _ _ _ _ | exact Local.makeSlice _ _ _ _ | exact Local.firstCells _ _ _ | exact Local.grown _ _ _ _ _ | exact Local.writeMore _ _ _ | exact Local.appendRow _ _ _ _ _ _ _ | exact Local.appendTo _ _ _ _ | exact Local.copyTo _ _ _ _ | exact Local.mapObj _ | exact Local.mapFor _ _ _ _ | exact Local.putIn _ _ _ _ _ _ | exact Local.putInAny _ _ _ _ _ | exact Local.lookupT _ _ _ _ _ | exact Local.mapPut _ _ _ _ _ | exact Local.lenT _ _ _ | exact Local.clearT _ _ _ | exact Local.builtinT _ _ _ _ | exact Local.toText _ _ _ _ _ | exact Local.zeroOf _ _ | exact Local.toZero _ _ _ _ _ | exact Local.rangeOf _ _ _ | exact Local.entryOf _ | exact Local.nextStr _ | exact Local.callV hcall _ _     | refine Local.withO (fun _ _ => ?_) | refine Local.withB (fun _ => ?_) | refine Local.bind ?_ (fun _ => ?_)     | split)); done)
    | (unfold Rn.kIndexAddr; (repeat' (first     | exact Local.pure _ | exact Local.fail | exact Local.lift _ | exact Local.need _ | exact Local.rdN _ | exact Local.wrN _ _ | exact Local.newN _     | exact hcall _ _ | exact Local.readCells _ _ _ | exact Local.writeCells _ _ _ | exact Local.newRow _ | exact Local.loadVar _ _ _ _ | exact Local.loadRow _ _ _ _ | exact Local.loadAt _ _ hcall _ | exact Local.storeVar _ _ _ _ _ | exact Local.buildSlice _ _ _ _ | exact Local.makeSlice _ _ _ _ | exact Local.firstCells _ _ _ | exact Local.grown _ _ _ _ _ | exact Local.writeMore _ _ _ | exact Local.appendRow _ _ _ _ _ _ _ | exact Local.appendTo _ _ _ _ | exact Local.copyTo _ _ _ _ | exact Local.mapObj _ | exact Local.mapFor _ _ _ _ | exact Local.putIn _ _ _ _ _ _ | exact Local.putInAny _ _ _ _ _ | exact Local.lookupT _ _ _ _ _ | exact Local.mapPut _ _ _ _ _ | exact Local.lenT _ _ _ | exact Local.clearT _ _ _ | exact Local.builtinT _ _ _ _ | exact Local.toText _ _ _ _ _ | exact Local.zeroOf _ _ | exact Local.toZero _ _ _ _ _ | exact Local.rangeOf _ _ _ | exact Local.entryOf _ | exact Local.nextStr _ | exact Local.callV hcall _ _     | refine Local.withO (fun _ _ => ?_) | refine Local.withB (fun _ => ?_) | refine Local.bind ?_ (fun _ => ?_)     | split)); done)
    | (unfold Rn.kIndex; (repeat' (first     | exact Local.pure _ | exact Local.fail | exact Local.lift _ | exact Local.need _ | exact Local.rdN _ | exact Local.wrN _ _ | exact Local.newN _     | exact hcall _ _ | exact Local.readCells _ _ _ | exact Local.writeCells _ _ _ | exact Local.newRow _ | exact Local.loadVar _ _ _ _ | exact Local.loadRow _ _ _ _ | exact Local.loadAt _ _ hcall _ | exact Local.storeVar _ _ _ _ _ | exact Local.buildSlice _ _ _ _ | exact Local.makeSlice _ _ _ _ | exact Local.firstCells _ _ _ | exact Local.grown _ _ _ _ _ | exact Local.writeMore _ _ _ | exact Local.appendRow _ _ _ _ _ _ _ | exact Local.appendTo _ _ _ _ | exact Local.copyTo _ _ _ _ | exact Local.mapObj _ | exact Local.mapFor _ _ _ _ | exact Local.putIn _ _ _ _ _ _ | exact Local.putInAny _ _ _ _ _ | exact Local.lookupT _ _ _ _ _ | exact Local.mapPut _ _ _ _ _ | exact Local.lenT _ _ _ | exact Local.clearT _ _ _ | exact Local.builtinT _ _ _ _ | exact Local.toText _ _ _ _ _ | exact Local.zeroOf _ _ | exact Local.toZero _ _ _ _ _ | exact Local.rangeOf _ _ _ | exact Local.entryOf _ | exact Local.nextStr _ | exact Local.callV hcall _ _     | refine Local.withO (fun _ _ => ?_) | refine Local.withB (fun _ => ?_) | refine Local.bind ?_ (fun _ => ?_)     | split)); done)
    | (unfold Rn.kLookup; (repeat' (first     | exact Local.pure _ | exact Local.fail | exact Local.lift _ | exact Local.need _ | exact Local.rdN _ | exact Local.wrN _ _ | exact Local.newN _     | exact hcall _ _ | exact Local.readCells _ _ _ | exact Local.writeCells _ _ _ | exact Local.newRow _ | exact Local.loadVar _ _ _ _ | exact Local.loadRow _ _ _ _ | exact Local.loadAt _ _ hcall _ | exact Local.storeVar _ _ _ _ _ | exact Local.buildSlice _ _ _ _ | exact Local.makeSlice _ _ _ _ | exact Local.firstCells _ _ _ | exact Local.grown _ _ _ _ _ | exact Local.writeMore _ _ _ | exact Local.appendRow _ _ _ _ _ _ _ | exact Local.appendTo _ _ _ _ | exact Local.copyTo _ _ _ _ | exact Local.mapObj _ | exact Local.mapFor _ _ _ _ | exact Local.putIn _ _ _ _ _ _ | exact Local.putInAny _ _ _ _ _ | exact Local.lookupT _ _ _ _ _ | exact Local.mapPut _ _ _ _ _ | exact Local.lenT _ _ _ | exact Local.clearT _ _ _ | exact Local.builtinT _ _ _ _ | exact Local.toText _ _ _ _ _ | exact Local.zeroOf _ _ | exact Local.toZero _ _ _ _ _ | exact Local.rangeOf _ _ _ | exact Local.entryOf _ | exact Local.nextStr _ | exact Local.callV hcall _ _     | refine Local.withO (fun _ _ => ?_) | refine Local.withB (fun _ => ?_) | refine Local.bind ?_ (fun _ => ?_)     | split)); done)
    | (unfold Rn.kMapPut; (repeat' (first     | exact Local.pure _ | exact Local.fail | exact Local.lift _ | exact Local.need _ | exact Local.rdN _ | exact Local.wrN _ _ | exact Local.newN _     | exact hcall _ _ | exact Local.readCells _ _ _ | exact Local.writeCells _ _ _ | exact Local.newRow _ | exact Local.loadVar _ _ _ _ | exact Local.loadRow _ _ _ _ | exact Local.loadAt _ _ hcall _ | exact Local.storeVar _ _ _ _ _ | exact Local.buildSlice _ _ _ _ | exact Local.makeSlice _ _ _ _ | exact Local.firstCells _ _ _ | exact Local.grown _ _ _ _ _ | exact Local.writeMore _ _ _ | exact Local.appendRow _ _ _ _ _ _ _ | exact Local.appendTo _ _ _ _ | exact Local.copyTo _ _ _ _ | exact Local.mapObj _ | exact Local.mapFor _ _ _ _ | exact Local.putIn _ _ _ _ _ _ | exact Local.putInAny _ _ _ _ _ | exact Local.lookupT _ _ _ _ _ | exact Local.mapPut _ _ _ _ _ | exact Local.lenT _ _ _ | exact Local.clearT _ _ _ | exact Local.builtinT _ _ _ _ | exact Local.toText _ _ _ _ _ | exact Local.zeroOf _ _ | exact Local.toZero _ _ _ _ _ | exact Local.rangeOf _ _ _ | exact Local.entryOf _ | exact Local.nextStr _ | exact Local.callV hcall _ _     | refine Local.withO (fun _ _ => ?_) | refine Local.withB (fun _ => ?_) | refine Local.bind ?_ (fun _ => ?_)     | split)); done)
    | (unfold Rn.kAssert; (repeat' (first     | exact Local.pure _ | exact Local.fail | exact Local.lift _ | exact Local.need _ | exact Local.rdN _ | exact Local.wrN _ _ | exact Local.newN _     | exact hcall _ _ | exact Local.readCells _ _ _ | exact Local.writeCells _ _ _ | exact Local.newRow _ | exact Local.loadVar _ _ _ _ | exact Local.loadRow _ _ _ _ | exact Local.loadAt _ _ hcall _ | exact Local.storeVar _ _ _ _ _ | exact Local.buildSlice _ _ _ _ | exact Local.makeSlice _ _ _ _ | exact Local.firstCells _ _ _ | exact Local.grown _ _ _ _ _ | exact Local.writeMore _ _ _ | exact Local.appendRow _ _ _ _ _ _ _ | exact Local.appendTo _ _ _ _ | exact Local.copyTo _ _ _ _ | exact Local.mapObj _ | exact Local.mapFor _ _ _ _ | exact Local.putIn _ _ _ _ _ _ | exact Local.putInAny _ _ _ _ _ | exact Local.lookupT _ _ _ _ _ | exact Local.mapPut _ _ _ _ _ | exact Local.lenT _ _ _ | exact Local.clearT _ _ _ | exact Local.builtinT _ _ _ _ | exact Local.toText _ _ _ _ _ | exact Local.zeroOf _ _ | exact Local.toZero _ _ _ _ _ | exact Local.rangeOf _ _ _ | exact Local.entryOf _ | exact Local.nextStr _ | exact Local.callV hcall _ _     | refine Local.withO (fun _ _ => ?_) | refine Local.withB (fun _ => ?_) | refine Local.bind ?_ (fun _ => ?_)     | split)); done)
    | (unfold Rn.kRange; (repeat' (first     | exact Local.pure _ | exact Local.fail | exact Local.lift _ | exact Local.need _ | exact Local.rdN _ | exact Local.wrN _ _ | exact Local.newN _     | exact hcall _ _ | exact Local.readCells _ _ _ | exact Local.writeCells _ _ _ | exact Local.newRow _ | exact Local.loadVar _ _ _ _ | exact Local.loadRow _ _ _ _ | exact Local.loadAt _ _ hcall _ | exact Local.storeVar _ _ _ _ _ | exact Local.buildSlice _ _ _ _ | exact Local.makeSlice _ _ _ _ | exact Local.firstCells _ _ _ | exact Local.grown _ _ _ _ _ | exact Local.writeMore _ _ _ | exact Local.appendRow _ _ _ _ _ _ _ | exact Local.appendTo _ _ _ _ | exact Local.copyTo _ _ _ _ | exact Local.mapObj _ | exact Local.mapFor _ _ _ _ | exact Local.putIn _ _ _ _ _ _ | exact Local.putInAny _ _ _ _ _ | exact Local.lookupT _ _ _ _ _ | exact Local.mapPut _ _ _ _ _ | exact Local.lenT _ _ _ | exact Local.clearT _ _ _ | exact Local.builtinT _ _ _ _ | exact Local.toText _ _ _ _ _ | exact Local.zeroOf _ _ | exact Local.toZero _ _ _ _ _ | exact Local.rangeOf _ _ _ | exact Local.entryOf _ | exact Local.nextStr _ | exact Local.callV hcall _ _     | refine Local.withO (fun _ _ => ?_) | refine Local.withB (fun _ => ?_) | refine Local.bind ?_ (fun _ => ?_)     | split)); done)
    | (unfold Rn.kEntry; (repeat' (first     | exact Local.pure _ | exact Local.fail | exact Local.lift _ | exact Local.need _ | exact Local.rdN _ | exact Local.wrN _ _ | exact Local.newN _     | exact hcall _ _ | exact Local.readCells _ _ _ | exact Local.writeCells _ _ _ | exact Local.newRow _ | exact Local.loadVar _ _ _ _ | exact Local.loadRow _ _ _ _ | exact Local.loadAt _ _ hcall _ | exact Local.storeVar _ _ _ _ _ | exact Local.buildSlice _ _ _ _ | exact Local.makeSlice _ _ _ _ | exact Local.firstCells _ _ _ | exact Local.grown _ _ _ _ _ | exact Local.writeMore _ _ _ | exact Local.appendRow _ _ _ _ _ _ _ | exact Local.appendTo _ _ _ _ | exact Local.copyTo _ _ _ _ | exact Local.mapObj _ | exact Local.mapFor _ _ _ _ | exact Local.putIn _ _ _ _ _ _ | exact Local.putInAny _ _ _ _ _ | exact Local.lookupT _ _ _ _ _ | exact Local.mapPut _ _ _ _ _ | exact Local.lenT _ _ _ | exact Local.clearT _ _ _ | exact Local.builtinT _ _ _ _ | exact Local.toText _ _ _ _ _ | exact Local.zeroOf _ _ | exact Local.toZero _ _ _ _ _ | exact Local.rangeOf _ _ _ | exact Local.entryOf _ | exact Local.nextStr _ | exact Local.callV hcall _ _     | refine Local.withO (fun _ _ => ?_) | refine Local.withB (fun _ => ?_) | refine Local.bind ?_ (fun _ => ?_)     | split)); done)
    | (unfold Rn.kNextStr; (repeat' (first     | exact Local.pure _ | exact Local.fail | exact Local.lift _ | exact Local.need _ | exact Local.rdN _ | exact Local.wrN _ _ | exact Local.newN _     | exact hcall _ _ | exact Local.readCells _ _ _ | exact Local.writeCells _ _ _ | exact Local.newRow _ | exact Local.loadVar _ _ _ _ | exact Local.loadRow _ _ _ _ | exact Local.loadAt _ _ hcall _ | exact Local.storeVar _ _ _ _ _ | exact Local.buildSlice _ _ _ _ | exact Local.makeSlice _ _ _ _ | exact Local.firstCells _ _ _ | exact Local.grown _ _ _ _ _ | exact Local.writeMore _ _ _ | exact Local.appendRow _ _ _ _ _ _ _ | exact Local.appendTo _ _ _ _ | exact Local.copyTo _ _ _ _ | exact Local.mapObj _ | exact Local.mapFor _ _ _ _ | exact Local.putIn _ _ _ _ _ _ | exact Local.putInAny _ _ _ _ _ | exact Local.lookupT _ _ _ _ _ | exact Local.mapPut _ _ _ _ _ | exact Local.lenT _ _ _ | exact Local.clearT _ _ _ | exact Local.builtinT _ _ _ _ | exact Local.toText _ _ _ _ _ | exact Local.zeroOf _ _ | exact Local.toZero _ _ _ _ _ | exact Local.rangeOf _ _ _ | exact Local.entryOf _ | exact Local.nextStr _ | exact Local.callV hcall _ _     | refine Local.withO (fun _ _ => ?_) | refine Local.withB (fun _ => ?_) | refine Local.bind ?_ (fun _ => ?_)     | split)); done)
    | (unfold Rn.kExtract; (repeat' (first     | exact Local.pure _ | exact Local.fail | exact Local.lift _ | exact Local.need _ | exact Local.rdN _ | exact Local.wrN _ _ | exact Local.newN _     | exact hcall _ _ | exact Local.readCells _ _ _ | exact Local.writeCells _ _ _ | exact Local.newRow _ | exact Local.loadVar _ _ _ _ | exact Local.loadRow _ _ _ _ | exact Local.loadAt _ _ hcall _ | exact Local.storeVar _ _ _ _ _ | exact Local.buildSlice _ _ _ _ | exact Local.makeSlice _ _ _ _ | exact Local.firstCells _ _ _ | exact Local.grown _ _ _ _ _ | exact Local.writeMore _ _ _ | exact Local.appendRow _ _ _ _ _ _ _ | exact Local.appendTo _ _ _ _ | exact Local.copyTo _ _ _ _ | exact Local.mapObj _ | exact Local.mapFor _ _ _ _ | exact Local.putIn _ _ _ _ _ _ | exact Local.putInAny _ _ _ _ _ | exact Local.lookupT _ _ _ _ _ | exact Local.mapPut _ _ _ _ _ | exact Local.lenT _ _ _ | exact Local.clearT _ _ _ | exact Local.builtinT _ _ _ _ | exact Local.toText _ _ _ _ _ | exact Local.zeroOf _ _ | exact Local.toZero _ _ _ _ _ | exact Local.rangeOf _ _ _ | exact Local.entryOf _ | exact Local.nextStr _ | exact Local.callV hcall _ _     | refine Local.withO (fun _ _ => ?_) | refine Local.withB (fun _ => ?_) | refine Local.bind ?_ (fun _ => ?_)     | split)); done)
    | (unfold Rn.kBuiltin; (repeat' (first     | exact Local.pure _ | exact Local.fail | exact Local.lift _ | exact Local.need _ | exact Local.rdN _ | exact Local.wrN _ _ | exact Local.newN _     | exact hcall _ _ | exact Local.readCells _ _ _ | exact Local.writeCells _ _ _ | exact Local.newRow _ | exact Local.loadVar _ _ _ _ | exact Local.loadRow _ _ _ _ | exact Local.loadAt _ _ hcall _ | exact Local.storeVar _ _ _ _ _ | exact Local.buildSlice _ _ _ _ | exact Local.makeSlice _ _ _ _ | exact Local.firstCells _ _ _ | exact Local.grown _ _ _ _ _ | exact Local.writeMore _ _ _ | exact Local.appendRow _ _ _ _ _ _ _ | exact Local.appendTo _ _ _ _ | exact Local.copyTo _ _ _ _ | exact Local.mapObj _ | exact Local.mapFor _ _ _ _ | exact Local.putIn _ _ _ _ _ _ | exact Local.putInAny _ _ _ _ _ | exact Local.lookupT _ _ _ _ _ | exact Local.mapPut _ _ _ _ _ | exact Local.lenT _ _ _ | exact Local.clearT _ _ _ | exact Local.builtinT _ _ _ _ | exact Local.toText _ _ _ _ _ | exact Local.zeroOf _ _ | exact Local.toZero _ _ _ _ _ | exact Local.rangeOf _ _ _ | exact Local.entryOf _ | exact Local.nextStr _ | exact Local.callV hcall _ _     | refine Local.withO (fun _ _ => ?_) | refine Local.withB (fun _ => ?_) | refine Local.bind ?_ (fun _ => ?_)     | split)); done)
    | (unfold Rn.kCall; (repeat' (first     | exact Local.pure _ | exact Local.fail | exact Local.lift _ | exact Local.need _ | exact Local.rdN _ | exact Local.wrN _ _ | exact Local.newN _     | exact hcall _ _ | exact Local.readCells _ _ _ | exact Local.writeCells _ _ _ | exact Local.newRow _ | exact Local.loadVar _ _ _ _ | exact Local.loadRow _ _ _ _ | exact Local.loadAt _ _ hcall _ | exact Local.storeVar _ _ _ _ _ | exact Local.buildSlice _ _ _ _ | exact Local.makeSlice _ _ _ _ | exact Local.firstCells _ _ _ | exact Local.grown _ _ _ _ _ | exact Local.writeMore _ _ _ | exact Local.appendRow _ _ _ _ _ _ _ | exact Local.appendTo _ _ _ _ | exact Local.copyTo _ _ _ _ | exact Local.mapObj _ | exact Local.mapFor _ _ _ _ | exact Local.putIn _ _ _ _ _ _ | exact Local.putInAny _ _ _ _ _ | exact Local.lookupT _ _ _ _ _ | exact Local.mapPut _ _ _ _ _ | exact Local.lenT _ _ _ | exact Local.clearT _ _ _ | exact Local.builtinT _ _ _ _ | exact Local.toText _ _ _ _ _ | exact Local.zeroOf _ _ | exact Local.toZero _ _ _ _ _ | exact Local.rangeOf _ _ _ | exact Local.entryOf _ | exact Local.nextStr _ | exact Local.callV hcall _ _     | refine Local.withO (fun _ _ => ?_) | refine Local.withB (fun _ => ?_) | refine Local.bind ?_ (fun _ => ?_)     | split)); done)
    | (unfold Rn.kInvoke; (repeat' (first     | exact Local.pure _ | exact Local.fail | exact Local.lift _ | exact Local.need _ | exact Local.rdN _ | exact Local.wrN _ _ | exact Local.newN _     | exact hcall _ _ | exact Local.readCells _ _ _ | exact Local.writeCells _ _ _ | exact Local.newRow _ | exact Local.loadVar _ _ _ _ | exact Local.loadRow _ _ _ _ | exact Local.loadAt _ _ hcall _ | exact Local.storeVar _ _ _ _ _ | exact Local.buildSlice _ _ _ _ | exact Local.makeSlice _ _ _ _ | exact Local.firstCells _ _ _ | exact Local.grown _ _ _ _ _ | exact Local.writeMore _ _ _ | exact Local.appendRow _ _ _ _ _ _ _ | exact Local.appendTo _ _ _ _ | exact Local.copyTo _ _ _ _ | exact Local.mapObj _ | exact Local.mapFor _ _ _ _ | exact Local.putIn _ _ _ _ _ _ | exact Local.putInAny _ _ _ _ _ | exact Local.lookupT _ _ _ _ _ | exact Local.mapPut _ _ _ _ _ | exact Local.lenT _ _ _ | exact Local.clearT _ _ _ | exact Local.builtinT _ _ _ _ | exact Local.toText _ _ _ _ _ | exact Local.zeroOf _ _ | exact Local.toZero _ _ _ _ _ | exact Local.rangeOf _ _ _ | exact Local.entryOf _ | exact Local.nextStr _ | exact Local.callV hcall _ _     | refine Local.withO (fun _ _ => ?_) | refine Local.withB (fun _ => ?_) | refine Local.bind ?_ (fun _ => ?_)     | split)); done)
    | (unfold Rn.kFail; (repeat' (first     | exact Local.pure _ | exact Local.fail | exact Local.lift _ | exact Local.need _ | exact Local.rdN _ | exact Local.wrN _ _ | exact Local.newN _     | exact hcall _ _ | exact Local.readCells _ _ _ | exact Local.writeCells _ _ _ | exact Local.newRow _ | exact Local.loadVar _ _ _ _ | exact Local.loadRow _ _ _ _ | exact Local.loadAt _ _ hcall _ | exact Local.storeVar _ _ _ _ _ | exact Local.buildSlice _ _ _ _ | exact Local.makeSlice _ _ _ _ | exact Local.firstCells _ _ _ | exact Local.grown _ _ _ _ _ | exact Local.writeMore _ _ _ | exact Local.appendRow _ _ _ _ _ _ _ | exact Local.appendTo _ _ _ _ | exact Local.copyTo _ _ _ _ | exact Local.mapObj _ | exact Local.mapFor _ _ _ _ | exact Local.putIn _ _ _ _ _ _ | exact Local.putInAny _ _ _ _ _ | exact Local.lookupT _ _ _ _ _ | exact Local.mapPut _ _ _ _ _ | exact Local.lenT _ _ _ | exact Local.clearT _ _ _ | exact Local.builtinT _ _ _ _ | exact Local.toText _ _ _ _ _ | exact Local.zeroOf _ _ | exact Local.toZero _ _ _ _ _ | exact Local.rangeOf _ _ _ | exact Local.entryOf _ | exact Local.nextStr _ | exact Local.callV hcall _ _     | refine Local.withO (fun _ _ => ?_) | refine Local.withB (fun _ => ?_) | refine Local.bind ?_ (fun _ => ?_)     | split)); done)
    )
end Go.Rn
namespace Go.Rn
theorem mem_below {k m : Nat} {l : List Nat} : k ∈ below m l ↔ k ∈ l ∧ k < m := by
  have h1 : ∀ l : List Nat, k ∈ belowOf m l ↔ k ∈ l ∧ k < m := by
    intro l
    induction l with
    | nil => simp [belowOf]
    | cons x l ih =>
      have e : belowOf m (x :: l) = if m ≤ x then belowOf m l else x :: belowOf m l := by
        show @Bool.rec (fun _ => List Nat) (belowOf m l) (x :: belowOf m l) (not (Nat.ble m x)) = _
        by_cases h : m ≤ x
        · have : Nat.ble m x = true := by rw [Nat.ble_eq]; exact h
          rw [this, if_pos h]; rfl
        · have : Nat.ble m x = false := by
            cases q : Nat.ble m x with
            | false => rfl
            | true => rw [Nat.ble_eq] at q; exact absurd q h
          rw [this, if_neg h]; rfl
      rw [e]
      by_cases h : m ≤ x
      · rw [if_pos h, ih]
        constructor
        · rintro ⟨a, b⟩; exact ⟨List.mem_cons_of_mem _ a, b⟩
        · rintro ⟨a, b⟩
          rcases List.mem_cons.1 a with rfl | a
          · omega
          · exact ⟨a, b⟩
      · rw [if_neg h, List.mem_cons, ih, List.mem_cons]
        constructor
        · rintro (rfl | ⟨a, b⟩)
          · exact ⟨.inl rfl, by omega⟩
          · exact ⟨.inr a, b⟩
        · rintro ⟨rfl | a, b⟩
          · exact .inl rfl
          · exact .inr ⟨a, b⟩
  have e : below m l = if m = 0 then [] else belowOf m l := by
    show @Bool.rec (fun _ => List Nat) (belowOf m l) [] (Nat.beq m 0) = _
    rw [rec_bool]; by_cases h : m = 0
    · rw [if_pos h, if_pos (by rw [beq_eq]; exact h)]
    · rw [if_neg h, if_neg (by rw [beq_eq]; exact h)]
  rw [e]
  by_cases h : m = 0
  · rw [if_pos h]; subst h; simp
  · rw [if_neg h, h1]
theorem alone_inv {α : Type} {i : Nat} {m : M α} {s s2 : AS} {x : α × Met} (h : alone i m s = .ok x s2) :
    ∃ a s1, m ⟨s.h, s.nx, s.nx, [], []⟩ = .ok a s1 ∧ x = (a, ⟨i, below s.nx s1.rd, below s.nx s1.wr, s.nx, s1.nx⟩) ∧
      s2 = ⟨s1.h, s1.nx, s.mark, below s.mark s1.rd ++ s.rd, below s.mark s1.wr ++ s.wr⟩ := by
  obtain ⟨hh, nx, mark, rd, wr⟩ := s
  have e : alone i m ⟨hh, nx, mark, rd, wr⟩ = forced nx fun lo =>
    @R.rec α (fun _ => R (α × Met)) .bad (fun a s1 =>
      @AS.rec (fun _ => R (α × Met)) (fun h1 nx1 _ rd1 wr1 => forced nx1 fun hi =>
        .ok (a, ⟨i, below lo rd1, below lo wr1, lo, hi⟩) ⟨h1, hi, mark, below mark rd1 ++ rd, below mark wr1 ++ wr⟩) s1)
      (m ⟨hh, lo, lo, [], []⟩) := rfl
  rw [e, forced_eq] at h
  cases hm : m ⟨hh, nx, nx, [], []⟩ with
  | bad => rw [hm] at h; cases h
  | ok a s1 =>
    rw [hm] at h
    obtain ⟨h1, nx1, mark1, rd1, wr1⟩ := s1
    have h' : forced nx1 (fun hi => R.ok (a, (⟨i, below nx rd1, below nx wr1, nx, hi⟩ : Met)) (⟨h1, hi, mark, below mark rd1 ++ rd, below mark wr1 ++ wr⟩ : AS)) = .ok x s2 := h
    rw [forced_eq] at h'
    cases h'
    exact ⟨a, ⟨h1, nx1, mark1, rd1, wr1⟩, by first | exact hm | rfl, rfl, rfl⟩
theorem alone_ok {α : Type} {i : Nat} {m : M α} {s s1 : AS} {a : α} (h : m ⟨s.h, s.nx, s.nx, [], []⟩ = .ok a s1) :
    alone i m s = .ok (a, ⟨i, below s.nx s1.rd, below s.nx s1.wr, s.nx, s1.nx⟩) ⟨s1.h, s1.nx, s.mark, below s.mark s1.rd ++ s.rd, below s.mark s1.wr ++ s.wr⟩ := by
  obtain ⟨hh, nx, mark, rd, wr⟩ := s
  have e : alone i m ⟨hh, nx, mark, rd, wr⟩ = forced nx fun lo =>
    @R.rec α (fun _ => R (α × Met)) .bad (fun a s1 =>
      @AS.rec (fun _ => R (α × Met)) (fun h1 nx1 _ rd1 wr1 => forced nx1 fun hi =>
        .ok (a, ⟨i, below lo rd1, below lo wr1, lo, hi⟩) ⟨h1, hi, mark, below mark rd1 ++ rd, below mark wr1 ++ wr⟩) s1)
      (m ⟨hh, lo, lo, [], []⟩) := rfl
  rw [e, forced_eq, h]
  obtain ⟨h1, nx1, mark1, rd1, wr1⟩ := s1
  show forced nx1 (fun hi => R.ok (a, (⟨i, below nx rd1, below nx wr1, nx, hi⟩ : Met)) (⟨h1, hi, mark, below mark rd1 ++ rd, below mark wr1 ++ wr⟩ : AS)) = _
  rw [forced_eq]
theorem Local.alone {α : Type} (i : Nat) {m : M α} (hm : Local m) : Local (alone i m) := by
  intro s v s2 fi h
  obtain ⟨a, s1, h1, rfl, rfl⟩ := alone_inv h
  obtain ⟨dr, dw, d, x⟩ := hm ⟨s.h, s.nx, s.nx, [], []⟩ a s1 ⟨Nat.le_refl _, fi.nx⟩ h1
  have er : s1.rd = dr := by have := d.rd; simpa using this
  have ew : s1.wr = dw := by have := d.wr; simpa using this
  refine ⟨below s.mark dr, below s.mark dw, ⟨by show below s.mark s1.rd ++ s.rd = _; rw [er], by show below s.mark s1.wr ++ s.wr = _; rw [ew], d.nx, d.top, rfl, ?_, ?_, d.far⟩, ?_⟩
  · intro k hk hn
    exact d.same k (Nat.lt_of_lt_of_le hk fi.mark) (fun e => hn (mem_below.2 ⟨e, hk⟩))
  · intro k hk
    obtain ⟨a, b⟩ := mem_below.1 hk
    exact mem_below.2 ⟨d.sub k a, b⟩
  · intro A m0 t ag hA
    obtain ⟨t1, e1, al⟩ := x A m0 ⟨t.h, t.nx, t.nx, [], []⟩ ⟨ag.nx, ag.nx, Nat.le_trans ag.low fi.mark, ag.is⟩
      (fun k hk hlt => hA k (mem_below.2 ⟨hk, Nat.lt_of_lt_of_le hlt ag.low⟩) hlt)
    have er' : t1.rd = dr := by have := al.rd; simpa using this
    have ew' : t1.wr = dw := by have := al.wr; simpa using this
    have hr := alone_ok (i := i) (s := t) e1
    rw [er', ew', ← ag.nx, ← ag.mark, ← al.agree.nx] at hr
    rw [er, ew]
    refine ⟨_, hr, ⟨rfl, rfl, ag.low, al.agree.is⟩, rfl, rfl, fun k hk hn => al.same k hk (fun e => hn (mem_below.2 ⟨e, Nat.lt_of_lt_of_le hk ag.low⟩)), al.far⟩
theorem Local.aone (P : Program) {call : Caller} (hcall : ∀ t a, Local (call t a)) (nt : Nat) (ops : Array Oper) (o : Oper) (t : Tr AV) : Local (aone P call nt ops o t) := by
  have hv : ∀ t op, Local ((opB P op).val call t) := fun t op => Local.aop P hcall t op
  unfold Rn.aone slotB
  split <;> simp only [Box.val]
  · unfold kOp
    refine Local.bind (hv _ _) (fun _ => Local.lift _)
  · unfold kOpIf
    rename_i g _
    refine Local.withB (fun _ => ?_)
    cases awanted ops g t
    · exact Local.lift _
    · exact Local.bind (hv _ _) (fun _ => Local.lift _)
theorem Local.aops (P : Program) {call : Caller} (hcall : ∀ t a, Local (call t a)) (nt : Nat) (ops : Array Oper) : ∀ (l : List Oper) (t : Tr AV), Local (aops P call nt ops l t)
  | [], t => Local.pure t
  | o :: l, t => Local.bind (Local.aone P hcall nt ops o t) (fun t => Local.aops P hcall nt ops l t)
theorem Local.aopsD (P : Program) {call : Caller} (hcall : ∀ t a, Local (call t a)) (nt : Nat) (ops : Array Oper) : ∀ (l : List Oper) (i : Nat) (t : Tr AV), Local (aopsD P call nt ops l i t)
  | [], _, _ => Local.pure _
  | o :: l, i, t => Local.bind (Local.alone i (Local.aone P hcall nt ops o t)) (fun x => Local.bind (Local.aopsD P hcall nt ops l (i + 1) x.1) (fun _ => Local.pure _))
theorem Local.aregionD (P : Program) {call : Caller} (hcall : ∀ t a, Local (call t a)) (nt : Nat) (ops : Array Oper) (t : Tr AV) : Local (aregionD P call nt ops t) :=
  Local.bind (Local.aopsD P hcall nt ops _ _ _) (fun _ => Local.withB (fun _ => Local.pure _))
theorem Local.getLoop (l : Nat) : Local (getLoop l) := by
  unfold Rn.getLoop
  repeat' (first
    | exact Local.pure _ | exact Local.fail | exact Local.lift _ | exact Local.need _ | exact Local.rdN _ | exact Local.wrN _ _ | exact Local.newN _
    | refine Local.withO (fun _ _ => ?_) | refine Local.withB (fun _ => ?_) | refine Local.bind ?_ (fun _ => ?_)
    | split)
theorem Local.loopOver (l : Nat) : Local (loopOver l) := by
  unfold Rn.loopOver
  repeat' (first
    | exact Local.pure _ | exact Local.fail | exact Local.lift _ | exact Local.need _ | exact Local.rdN _ | exact Local.wrN _ _ | exact Local.newN _ | exact Local.getLoop _
    | refine Local.withO (fun _ _ => ?_) | refine Local.withB (fun _ => ?_) | refine Local.bind ?_ (fun _ => ?_)
    | split)
theorem Local.stepB (P : Program) {call : Caller} (hcall : ∀ t a, Local (call t a)) (it : Item) (fn : FuncId) (t : Tr AV) (nt : Nat) (d : List Nat) (r : Option Nat) (k : List Item) : Local ((itemB P it).val call fn t nt d r k) := by
  cases it <;> simp only [itemB]  <;> (try simp only [Box.val])
  case code c =>
    unfold codeB
    split <;> simp only <;> (first | (unfold sPop; exact Local.pure _) | (unfold sPush; exact Local.pure _) | (unfold sRet; exact Local.pure _) | (unfold sFail; exact Local.fail) | (unfold sCond; exact Local.withO (fun _ _ => Local.withO (fun _ _ => Local.pure _))) | (unfold sExit; split <;> exact Local.pure _) | (unfold sGoto; split <;> exact Local.pure _) | (unfold sRegion; exact Local.bind (Local.aops P hcall _ _ _ _) (fun _ => Local.pure _)) | (unfold sRegionD; exact Local.bind (Local.aregionD P hcall _ _ _) (fun _ => Local.pure _)) | skip)
    unfold sRange
    repeat' (first
      | exact Local.pure _ | exact Local.fail | exact Local.lift _ | exact Local.need _ | exact Local.rdN _ | exact Local.wrN _ _ | exact Local.newN _
      | exact Local.callV hcall _ _ | exact hcall _ _ | exact Local.getLoop _ | exact Local.loopOver _
      | refine Local.withO (fun _ _ => ?_) | refine Local.withB (fun _ => ?_) | refine Local.bind ?_ (fun _ => ?_)
      | split)
  case beginRound =>
    unfold sBegin
    repeat' (first
      | exact Local.pure _ | exact Local.fail | exact Local.lift _ | exact Local.need _ | exact Local.rdN _ | exact Local.wrN _ _ | exact Local.newN _ | exact Local.getLoop _
      | refine Local.withO (fun _ _ => ?_) | refine Local.withB (fun _ => ?_) | refine Local.bind ?_ (fun _ => ?_)
      | split)
  all_goals (first | exact Local.pure _ | exact Local.fail)
theorem Local.astep (P : Program) {call : Caller} (hcall : ∀ t a, Local (call t a)) (fr : AF) : Local (astep P call fr) := by
  obtain ⟨fn, t, nt, todo, d, r⟩ := fr
  cases todo with
  | nil => exact Local.pure _
  | cons it k => exact Local.stepB P hcall it fn t nt d r k
theorem Local.aloop (P : Program) {call : Caller} (hcall : ∀ t a, Local (call t a)) : ∀ (n : Nat) (fr : AF), Local (aloop P call n fr)
  | 0, fr => Local.astep P hcall fr
  | n + 1, fr => Local.bind (Local.aloop P hcall n fr) (fun x => by
    cases x with
    | go fr => exact Local.aloop P hcall n fr
    | leave fr j => exact Local.pure _)
theorem Local.agrow (P : Program) {call : Caller} (hcall : ∀ t a, Local (call t a)) : ∀ (n k : Nat) (fr : AF), Local (agrow P call n k fr)
  | 0, _, _ => Local.fail
  | n + 1, k, fr => Local.bind (Local.aloop P hcall k fr) (fun x => by
    cases x with
    | go fr => exact Local.agrow P hcall n (k + 1) fr
    | leave fr j => exact Local.pure _)
theorem Local.resultOf (P : Program) (t : Tr AV) (r : ResultVar) : Local (resultOf P t r) := by
  unfold Rn.resultOf
  repeat' (first
    | exact Local.pure _ | exact Local.fail | exact Local.lift _ | exact Local.need _ | exact Local.rdN _ | exact Local.wrN _ _ | exact Local.newN _ | exact Local.loadVar _ _ _ _
    | refine Local.withO (fun _ _ => ?_) | refine Local.withB (fun _ => ?_) | refine Local.bind ?_ (fun _ => ?_)
    | split)
theorem Local.resultsOf (P : Program) (t : Tr AV) : ∀ l : List ResultVar, Local (resultsOf P t l)
  | [] => Local.pure _
  | r :: l => Local.bind (Local.resultOf P t r) (fun _ => Local.bind (Local.resultsOf P t l) (fun _ => Local.pure _))
theorem Local.dropDefs : ∀ l : List Nat, Local (dropDefs l)
  | [] => Local.pure _
  | d :: l => Local.bind (Local.rdN d) (fun o => by
    split
    · exact Local.bind (Local.wrN _ _) (fun _ => Local.dropDefs l)
    · exact Local.fail)
theorem Local.finish (P : Program) (rs : List ResultVar) (fr : AF) (j : Option Code) : Local (finish P rs fr j) := by
  unfold Rn.finish
  repeat' (first
    | exact Local.pure _ | exact Local.fail | exact Local.lift _ | exact Local.need _ | exact Local.rdN _ | exact Local.wrN _ _ | exact Local.newN _ | exact Local.dropDefs _ | exact Local.resultsOf _ _ _
    | refine Local.withO (fun _ _ => ?_) | refine Local.withB (fun _ => ?_) | refine Local.bind ?_ (fun _ => ?_)
    | split)
theorem Local.kBody (P : Program) (f n : Nat) (rs : List ResultVar) (body : Code) {call : Caller} (hcall : ∀ t a, Local (call t a)) (args : List AV) : Local (kBody P f n rs body call args) :=
  Local.withB (fun _ => Local.bind (Local.agrow P hcall _ _ _) (fun x => by
    cases x with
    | go fr => exact Local.fail
    | leave fr j => exact Local.finish P rs fr j))
theorem Local.cloneMap (l : List AV) : Local (cloneMap l) := by
  unfold Rn.cloneMap
  repeat' (first
    | exact Local.pure _ | exact Local.fail | exact Local.lift _ | exact Local.need _ | exact Local.rdN _ | exact Local.wrN _ _ | exact Local.newN _
    | refine Local.withO (fun _ _ => ?_) | refine Local.withB (fun _ => ?_) | refine Local.bind ?_ (fun _ => ?_)
    | split)
theorem Local.joinStrs (l : List AV) : Local (joinStrs l) := by
  unfold Rn.joinStrs
  repeat' (first
    | exact Local.pure _ | exact Local.fail | exact Local.lift _ | exact Local.need _ | exact Local.rdN _ | exact Local.wrN _ _ | exact Local.newN _ | exact Local.firstCells _ _ _
    | refine Local.withO (fun _ _ => ?_) | refine Local.withB (fun _ => ?_) | refine Local.bind ?_ (fun _ => ?_)
    | split)
theorem Local.endRound (l : Nat) (j : Option Code) : Local (endRound l j) := by
  unfold Rn.endRound
  repeat' (first
    | exact Local.pure _ | exact Local.fail | exact Local.lift _ | exact Local.need _ | exact Local.rdN _ | exact Local.wrN _ _ | exact Local.newN _ | exact Local.getLoop _
    | refine Local.withO (fun _ _ => ?_) | refine Local.withB (fun _ => ?_) | refine Local.bind ?_ (fun _ => ?_)
    | split)
theorem Local.runRound (P : Program) {call : Caller} (hcall : ∀ t a, Local (call t a)) (l : Nat) (args : List AV) : Local (runRound P call l args) := by
  unfold Rn.runRound
  refine Local.bind (Local.getLoop _) (fun o => ?_)
  split
  · exact Local.withB (fun _ => Local.bind (Local.agrow P hcall _ _ _) (fun x => by
      cases x with
      | go fr => exact Local.fail
      | leave fr j => exact Local.endRound l j))
  · exact Local.fail
end Go.Rn
namespace Go.Rn
def Fellow {β : Type} (A : Nat → Prop) (m0 : Nat) (s t : AS) (x y : β × AS) : Prop :=
  x.1 = y.1 ∧ ∃ dr dw, Did s x.2 dr dw ∧ Also A m0 x.2 t y.2 dr dw
def Fellows {β : Type} (A : Nat → Prop) (m0 : Nat) (s t : AS) : List (β × AS) → List (β × AS) → Prop
  | [], l => l = []
  | x :: xs, l => ∃ y ys, l = y :: ys ∧ Fellow A m0 s t x y ∧ Fellows A m0 s t xs ys
theorem Fellows.append {β : Type} {A : Nat → Prop} {m0 : Nat} {s t : AS} : ∀ {a b c d : List (β × AS)}, Fellows A m0 s t a b → Fellows A m0 s t c d → Fellows A m0 s t (a ++ c) (b ++ d)
  | [], _, _, _, h, k => by simp only [Fellows] at h; subst h; simpa using k
  | x :: xs, _, _, _, h, k => by
    obtain ⟨y, ys, rfl, f, r⟩ := h
    exact ⟨y, _, rfl, f, Fellows.append r k⟩
def Noted {β : Type} (A : Nat → Prop) (m0 : Nat) (s : AS) (l : List (β × AS)) : Prop :=
  ∀ x ∈ l, ∀ dr dw, Did s x.2 dr dw → ∀ k ∈ dr, k < m0 → A k
def LocalL {β : Type} (m : AS → Option (List (β × AS))) : Prop :=
  ∀ s outs, Fine s → m s = some outs → outs ≠ [] ∧ (∀ x ∈ outs, ∃ dr dw, Did s x.2 dr dw) ∧
    ∀ A m0 t, Agree A m0 s t → Noted A m0 s outs → ∃ outs', m t = some outs' ∧ Fellows A m0 s t outs outs'
theorem Did.trans {s s1 s2 : AS} {dr dw dr' dw' : List Nat} (d : Did s s1 dr dw) (d' : Did s1 s2 dr' dw') : Did s s2 (dr' ++ dr) (dw' ++ dw) := by
  refine ⟨by rw [d'.rd, d.rd, List.append_assoc], by rw [d'.wr, d.wr, List.append_assoc], Nat.le_trans d.nx d'.nx, d'.top, d'.mark.trans d.mark, ?_, ?_, ?_⟩
  · intro k hk hn
    have hn1 : k ∉ dw' := fun e => hn (List.mem_append.2 (.inl e))
    have hn2 : k ∉ dw := fun e => hn (List.mem_append.2 (.inr e))
    exact (d'.same k (by rw [d.mark]; exact hk) hn1).trans (d.same k hk hn2)
  · intro k hk
    rcases List.mem_append.1 hk with e | e
    · exact List.mem_append.2 (.inl (d'.sub k e))
    · exact List.mem_append.2 (.inr (d.sub k e))
  · intro k hk ht
    exact (d'.far k hk ht).trans (d.far k (Nat.le_trans d'.nx hk) ht)
theorem Also.trans {A : Nat → Prop} {m0 : Nat} {s1 s2 t t1 t2 : AS} {dr dw dr' dw' : List Nat} (hx : s1.nx ≤ s2.nx) (al : Also A m0 s1 t t1 dr dw) (al' : Also A m0 s2 t1 t2 dr' dw') : Also A m0 s2 t t2 (dr' ++ dr) (dw' ++ dw) := by
  refine ⟨al'.agree, by rw [al'.rd, al.rd, List.append_assoc], by rw [al'.wr, al.wr, List.append_assoc], ?_, ?_⟩
  · intro k hk hn
    have hn1 : k ∉ dw' := fun e => hn (List.mem_append.2 (.inl e))
    have hn2 : k ∉ dw := fun e => hn (List.mem_append.2 (.inr e))
    exact (al'.same k hk hn1).trans (al.same k hk hn2)
  · intro k hk ht
    exact (al'.far k hk ht).trans (al.far k (Nat.le_trans hx hk) ht)
theorem Fellow.prepend {β : Type} {A : Nat → Prop} {m0 : Nat} {s s1 t t1 : AS} {dr dw : List Nat} {x y : β × AS} (d : Did s s1 dr dw) (al : Also A m0 s1 t t1 dr dw)
    (h : Fellow A m0 s1 t1 x y) : Fellow A m0 s t x y := by
  obtain ⟨e, dr', dw', d', al'⟩ := h
  exact ⟨e, _, _, d.trans d', al.trans d'.nx al'⟩
theorem Fellows.prepend {β : Type} {A : Nat → Prop} {m0 : Nat} {s s1 t t1 : AS} {dr dw : List Nat} (d : Did s s1 dr dw) (al : Also A m0 s1 t t1 dr dw) :
    ∀ {a b : List (β × AS)}, Fellows A m0 s1 t1 a b → Fellows A m0 s t a b
  | [], _, h => h
  | x :: xs, _, h => by
    obtain ⟨y, ys, rfl, f, r⟩ := h
    exact ⟨y, ys, rfl, f.prepend d al, Fellows.prepend d al r⟩
def andAll {α β : Type} (m : M α) (F : α → AS → Option (List (β × AS))) : AS → Option (List (β × AS)) := fun s =>
  match m s with
  | .ok a s1 => F a s1
  | .bad => none
theorem locL_step {α β : Type} {m : M α} {F : α → AS → Option (List (β × AS))} (hm : Local m) (hF : ∀ a, LocalL (F a)) :
    LocalL (andAll m F) := by
  intro s outs fi h
  unfold andAll at h ⊢
  cases e : m s with
  | bad => simp only [e] at h; cases h
  | ok a s1 =>
    simp only [e] at h
    obtain ⟨dr, dw, d, x⟩ := hm s a s1 fi e
    obtain ⟨ne, g1, g2⟩ := hF a s1 outs (d.fine fi) h
    refine ⟨ne, fun y hy => ?_, fun A m0 t ag hA => ?_⟩
    · obtain ⟨dr', dw', d'⟩ := g1 y hy
      exact ⟨_, _, d.trans d'⟩
    · cases outs with
      | nil => exact absurd rfl ne
      | cons y ys =>
        obtain ⟨dr1, dw1, d1⟩ := g1 y List.mem_cons_self
        have hA1 : ∀ k ∈ dr, k < m0 → A k := fun k hk hlt => hA y List.mem_cons_self _ _ (d.trans d1) k (List.mem_append.2 (.inr hk)) hlt
        obtain ⟨t1, e1, al⟩ := x A m0 t ag hA1
        obtain ⟨outs', e2, fl⟩ := g2 A m0 t1 al.agree (fun z hz dr' dw' d' k hk hlt => hA z hz _ _ (d.trans d') k (List.mem_append.2 (.inl hk)) hlt)
        exact ⟨outs', by simp only [e1]; exact e2, fl.prepend d al⟩
theorem locL_one {β : Type} (b : β) : LocalL (fun s => some [(b, s)]) := by
  intro s outs fi h
  injection h with h; subst h
  have dd : Did s s [] [] := ⟨rfl, rfl, Nat.le_refl _, fi.nx, rfl, fun _ _ _ => rfl, fun _ h => h, fun _ _ _ => rfl⟩
  refine ⟨by simp, fun x hx => ?_, fun A m0 t ag _ => ⟨[(b, t)], rfl, (b, t), [], rfl, ⟨rfl, [], [], dd, ag, rfl, rfl, fun _ _ _ => rfl, fun _ _ _ => rfl⟩, rfl⟩⟩
  simp only [List.mem_singleton] at hx; subst hx
  exact ⟨[], [], dd⟩
theorem locL_none {β : Type} : LocalL (fun _ => (none : Option (List (β × AS)))) := by
  intro s outs _ h; cases h
theorem locL_collect {α β : Type} {F : α → AS → Option (List (β × AS))} : ∀ (l : List α), l ≠ [] → (∀ a ∈ l, LocalL (F a)) → LocalL (fun s => Rn.collect (fun a => F a s) l)
  | [], h, _ => absurd rfl h
  | x :: l, _, hF => by
    intro s outs fi h
    simp only [Rn.collect] at h
    cases e : F x s with
    | none => rw [e] at h; cases h
    | some a =>
      rw [e] at h
      obtain ⟨ne, g1, g2⟩ := hF x List.mem_cons_self s a fi e
      cases l with
      | nil =>
        simp only [Rn.collect, List.append_nil] at h
        injection h with h; subst h
        refine ⟨ne, g1, fun A m0 t ag hA => ?_⟩
        obtain ⟨o', e', fl⟩ := g2 A m0 t ag hA
        exact ⟨o', by simp only [Rn.collect, e', List.append_nil], fl⟩
      | cons z l =>
        cases e2 : Rn.collect (fun a => F a s) (z :: l) with
        | none => rw [e2] at h; cases h
        | some b =>
          rw [e2] at h
          injection h with h; subst h
          obtain ⟨ne', g1', g2'⟩ := locL_collect (F := F) (z :: l) (by simp) (fun a ha => hF a (List.mem_cons_of_mem _ ha)) s b fi e2
          refine ⟨by simp [ne], fun y hy => ?_, fun A m0 t ag hA => ?_⟩
          · rcases List.mem_append.1 hy with hy | hy
            · exact g1 y hy
            · exact g1' y hy
          · obtain ⟨o1, e1', f1⟩ := g2 A m0 t ag (fun y hy => hA y (List.mem_append.2 (.inl hy)))
            obtain ⟨o2, e2', f2⟩ := g2' A m0 t ag (fun y hy => hA y (List.mem_append.2 (.inr hy)))
            refine ⟨o1 ++ o2, ?_, f1.append f2⟩
            have e2'' : Rn.collect (fun a => F a t) (z :: l) = some o2 := e2'
            show Rn.collect (fun a => F a t) (x :: z :: l) = _
            rw [Rn.collect, e1']
            simp only [e2'']
theorem picks_ne {α : Type} (x : α) (l : List α) : picks (x :: l) ≠ [] := by simp [picks]
theorem Local.getIter (fr : AF) (it : Operand) : Local (getIter fr it) := by
  unfold Rn.getIter
  repeat' (first
    | exact Local.pure _ | exact Local.fail | exact Local.lift _ | exact Local.rdN _
    | refine Local.bind ?_ (fun _ => ?_)
    | split)
theorem Local.nextIs (P : Program) {call : Caller} (hcall : ∀ t a, Local (call t a)) (fr : AF) (n : Nat) (ob : AObj) (o : Oper) (ops : Array Oper) (rest : List Oper) (k : List Item) (v : AV) :
    Local (nextIs P call fr n ob o ops rest k v) := by
  unfold Rn.nextIs
  repeat' (first
    | exact Local.pure _ | exact Local.lift _ | exact Local.wrN _ _ | exact Local.aops P hcall _ _ _ _
    | refine Local.bind ?_ (fun _ => ?_))
theorem Local.nextOver (P : Program) {call : Caller} (hcall : ∀ t a, Local (call t a)) (fr : AF) (n m : Nat) (es : List (AV × AV)) (ex : Bool) (o : Oper) (ops : Array Oper) (rest : List Oper) (k : List Item) :
    Local (nextOver P call fr n m es ex o ops rest k) := by
  unfold Rn.nextOver
  repeat' (first
    | exact Local.pure _ | exact Local.lift _ | exact Local.wrN _ _ | exact Local.aops P hcall _ _ _ _
    | refine Local.bind ?_ (fun _ => ?_))
noncomputable section
def nStp (P : Program) (call : Caller) (f : Nat) (x : Stp) : AS → Option (List ((AF × Option Code) × AS)) :=
  match x with
  | .go fr => nframe P call f fr
  | .leave fr j => fun s => some [((fr, j), s)]
def nNext (P : Program) (call : Caller) (f : Nat) (fr : AF) (n m : Nat) (es : List (AV × AV)) (exact : Bool) (o : Oper) (ops : Array Oper) (rest : List Oper) (k : List Item)
    (x : (AV × AV) × List (AV × AV)) : AS → Option (List ((AF × Option Code) × AS)) :=
  andAll (nextIs P call fr n (.iter m es exact x.2 (some x.1)) o ops rest k (.tuple [.bool true, x.1.1, x.1.2])) (nframe P call f)
def nIter (P : Program) (call : Caller) (f : Nat) (fr : AF) (o : Oper) (ops : Array Oper) (rest : List Oper) (k : List Item) (x : Nat × AObj) : AS → Option (List ((AF × Option Code) × AS)) :=
  match x with
  | (n, .iter m es exact left _) => match left with
    | [] => andAll (nextOver P call fr n m es exact o ops rest k) (nframe P call f)
    | y :: ys => fun s => collect (fun x => nNext P call f fr n m es exact o ops rest k x s) (picks (y :: ys))
  | _ => fun _ => none
end
theorem nframe_step {P : Program} {call : Caller} {f : Nat} {fr : AF} (e : asksNext fr = none) :
    nframe P call (f + 1) fr = andAll (astep P call fr) (nStp P call f) := by
  funext s
  simp only [nframe, e, andAll]
  cases astep P call fr s with
  | bad => rfl
  | ok x s1 => cases x <;> rfl
theorem nframe_next {P : Program} {call : Caller} {f : Nat} {fr : AF} {it : Operand} {o : Oper} {ops : Array Oper} {rest : List Oper} {k : List Item} (e : asksNext fr = some (it, o, ops, rest, k)) :
    nframe P call (f + 1) fr = andAll (getIter fr it) (nIter P call f fr o ops rest k) := by
  funext s
  simp only [nframe, e, andAll]
  cases getIter fr it s with
  | bad => rfl
  | ok x s1 =>
    obtain ⟨n, ob⟩ := x
    cases ob with
    | iter m es ex left cur =>
      cases left with
      | nil =>
        simp only [nIter, andAll]
        cases nextOver P call fr n m es ex o ops rest k s1 <;> rfl
      | cons y ys =>
        simp only [nIter]
        congr 1
        funext x
        simp only [nNext, andAll]
        cases nextIs P call fr n (.iter m es ex x.2 (some x.1)) o ops rest k (.tuple [.bool true, x.1.1, x.1.2]) s1 <;> rfl
    | _ => rfl
theorem locL_nframe (P : Program) {call : Caller} (hcall : ∀ t a, Local (call t a)) : ∀ (f : Nat) (fr : AF), LocalL (nframe P call f fr)
  | 0, fr => locL_none
  | f + 1, fr => by
    cases e : asksNext fr with
    | none =>
      rw [nframe_step e]
      refine locL_step (Local.astep P hcall fr) (fun x => ?_)
      cases x with
      | go fr => exact locL_nframe P hcall f fr
      | leave fr j => exact locL_one (fr, j)
    | some q =>
      obtain ⟨it, o, ops, rest, k⟩ := q
      rw [nframe_next e]
      refine locL_step (Local.getIter fr it) (fun x => ?_)
      obtain ⟨n, ob⟩ := x
      cases ob with
      | iter m es ex left cur =>
        cases left with
        | nil => exact locL_step (Local.nextOver P hcall _ _ _ _ _ _ _ _ _) (fun fr => locL_nframe P hcall f fr)
        | cons y ys =>
          exact locL_collect _ (picks_ne y ys) (fun x _ => locL_step (Local.nextIs P hcall _ _ _ _ _ _ _ _) (fun fr => locL_nframe P hcall f fr))
      | _ => exact locL_none
theorem locL_finishAll (P : Program) (rs : List ResultVar) {m : AS → Option (List ((AF × Option Code) × AS))} (hm : LocalL m) :
    LocalL (fun s => match m s with | some l => finishAll P rs l | none => none) := by
  have key : ∀ (s : AS) (l : List ((AF × Option Code) × AS)) (outs : List (AV × AS)), Fine s → (∀ x ∈ l, ∃ dr dw, Did s x.2 dr dw) → finishAll P rs l = some outs →
      outs.length = l.length ∧ (∀ x ∈ outs, ∃ dr dw, Did s x.2 dr dw) ∧
      (∀ A m0, Noted A m0 s outs → Noted A m0 s l) ∧
      ∀ A m0 t l', Agree A m0 s t → Fellows A m0 s t l l' → Noted A m0 s outs → ∃ outs', finishAll P rs l' = some outs' ∧ Fellows A m0 s t outs outs' := by
    intro s l
    induction l with
    | nil =>
      intro outs fi _ h
      simp only [finishAll] at h; injection h with h; subst h
      refine ⟨rfl, fun x hx => (by cases hx), fun A m0 _ x hx => (by cases hx), fun A m0 t l' _ fl _ => ?_⟩
      simp only [Fellows] at fl; subst fl
      exact ⟨[], rfl, rfl⟩
    | cons x l ih =>
      obtain ⟨⟨fr, j⟩, sx⟩ := x
      intro outs fi hd h
      simp only [finishAll] at h
      obtain ⟨dr, dw, d⟩ := hd _ List.mem_cons_self
      cases e : finish P rs fr j sx with
      | bad => rw [e] at h; cases h
      | ok v s1 =>
        rw [e] at h
        cases e2 : finishAll P rs l with
        | none => simp only [e2] at h; cases h
        | some r =>
          simp only [e2] at h; injection h with h; subst h
          obtain ⟨hl, i1, i2, i3⟩ := ih r fi (fun x hx => hd x (List.mem_cons_of_mem _ hx)) e2
          obtain ⟨dr', dw', d', x'⟩ := Local.finish P rs fr j sx v s1 (d.fine fi) e
          refine ⟨by simp [hl], fun y hy => ?_, fun A m0 hN y hy => ?_, fun A m0 t l' ag fl hN => ?_⟩
          · rcases List.mem_cons.1 hy with rfl | hy
            · exact ⟨_, _, d.trans d'⟩
            · exact i1 y hy
          · rcases List.mem_cons.1 hy with rfl | hy
            · intro dr1 dw1 d1 k hk hlt
              exact hN (v, s1) List.mem_cons_self _ _ (d1.trans d') k (List.mem_append.2 (.inr hk)) hlt
            · exact i2 A m0 (fun z hz => hN z (List.mem_cons_of_mem _ hz)) y hy
          · obtain ⟨y, ys, rfl, ⟨ey, dr1, dw1, d1, al1⟩, fr'⟩ := fl
            obtain ⟨⟨fr2, j2⟩, ty⟩ := y
            simp only at ey; cases ey
            obtain ⟨outs', e3, fl3⟩ := i3 A m0 t ys ag fr' (fun z hz => hN z (List.mem_cons_of_mem _ hz))
            obtain ⟨t1, e4, al4⟩ := x' A m0 ty al1.agree (fun k hk hlt => hN (v, s1) List.mem_cons_self _ _ (d1.trans d') k (List.mem_append.2 (.inl hk)) hlt)
            refine ⟨(v, t1) :: outs', ?_, (v, t1), outs', rfl, ⟨rfl, _, _, d1.trans d', al1.trans d'.nx al4⟩, fl3⟩
            simp only [finishAll]
            have e4' : finish P rs fr j ty = .ok v t1 := e4
            rw [e4', e3]
  intro s outs fi h
  cases e : m s with
  | none => simp only [e] at h; cases h
  | some l =>
    simp only [e] at h
    obtain ⟨ne, g1, g2⟩ := hm s l fi e
    obtain ⟨hl, i1, i2, i3⟩ := key s l outs fi g1 h
    refine ⟨fun h0 => ne (by rw [h0] at hl; exact List.length_eq_zero_iff.1 hl.symm), i1, fun A m0 t ag hN => ?_⟩
    obtain ⟨l', e', fl⟩ := g2 A m0 t ag (i2 A m0 hN)
    obtain ⟨outs', e2, fl2⟩ := i3 A m0 t l' ag fl hN
    exact ⟨outs', by simp only [e']; exact e2, fl2⟩
end Go.Rn

namespace Go.Rn
theorem noteAll_dr : ∀ (l : List Nat) (s : AS) (u : Unit) (s1 : AS), noteAll l s = .ok u s1 → ∃ dr, s1.rd = dr ++ s.rd ∧ s1.mark = s.mark ∧ ∀ k ∈ l, k < s.mark → k ∈ dr
  | [], s, u, s1, h => by
    have h' : M.pure () s = .ok u s1 := h
    obtain ⟨_, rfl⟩ := pure_inv h'
    exact ⟨[], rfl, rfl, fun k hk => by cases hk⟩
  | n :: l, s, u, s1, h => by
    have h' : (rdN n).bind (fun _ => noteAll l) s = .ok u s1 := h
    obtain ⟨o, s2, h1, h2⟩ := M.bind_inv h'
    obtain ⟨_, _, rfl⟩ := rdN_inv h1
    obtain ⟨dr, e1, e2, e3⟩ := noteAll_dr l _ _ _ h2
    by_cases q : n < s.mark
    · rw [if_pos q] at e1 e2 e3
      refine ⟨dr ++ [n], by rw [e1]; simp, e2, fun k hk hlt => ?_⟩
      rcases List.mem_cons.1 hk with rfl | hk
      · simp
      · exact List.mem_append.2 (.inl (e3 k hk hlt))
    · rw [if_neg q] at e1 e2 e3
      refine ⟨dr, e1, e2, fun k hk hlt => ?_⟩
      rcases List.mem_cons.1 hk with rfl | hk
      · exact absurd hlt q
      · exact e3 k hk hlt
theorem Local.noteAll : ∀ l : List Nat, Local (noteAll l)
  | [] => Local.pure _
  | n :: l => Local.bind (Local.rdN n) (fun _ => Local.noteAll l)
theorem Local.putEs : ∀ l : List (Nat × List (AV × AV)), Local (putEs l)
  | [] => Local.pure _
  | (_, _) :: l => Local.bind (Local.mapObj _) (fun _ => Local.bind (Local.wrN _ _) (fun _ => Local.putEs l))
theorem Local.skipN : ∀ k : Nat, Local (skipN k)
  | 0 => Local.pure _
  | k + 1 => Local.bind (Local.newN _) (fun _ => Local.bind (Local.wrN _ _) (fun _ => Local.skipN k))
theorem Local.retM (lo : Nat) (r : Ret) : Local (retM lo r) := by
  cases r with
  | none => exact Local.pure _
  | nil => exact Local.pure _
  | row n c len e => exact Local.bind (Local.skipN _) (fun _ => Local.bind (Local.newRow c) (fun _ => Local.withB fun _ => Local.pure _))
theorem Local.doPlan (p : Plan) : Local (doPlan p) := Local.bind (Local.noteAll _) (fun _ => Local.bind (Local.putEs _) (fun _ => Local.bind (Local.retM _ _) (fun _ => Local.bind (Local.skipN _) (fun _ => Local.pure _))))
theorem memN_iff {n : Nat} : ∀ {l : List Nat}, memN n l = true ↔ n ∈ l
  | [] => by simp [memN]
  | x :: l => by
    simp only [memN]
    cases h : Nat.beq x n with
    | true => rw [beq_eq] at h; subst h; simp
    | false =>
      have : ¬ x = n := by rw [← beq_eq, h]; simp
      simp only [memN_iff (l := l), List.mem_cons]
      constructor
      · exact .inr
      · rintro (e | e)
        · exact absurd e.symm this
        · exact e
theorem mem_addName {k n : Nat} {l : List Nat} : k ∈ addName n l ↔ k = n ∨ k ∈ l := by
  unfold addName
  cases h : memN n l with
  | true =>
    have := memN_iff.1 h
    constructor
    · exact .inr
    · rintro (rfl | e)
      · exact this
      · exact e
  | false => exact List.mem_cons
theorem mem_namesOf {k : Nat} : ∀ {l : List Nat}, k ∈ namesOf l ↔ k ∈ l
  | [] => by simp [namesOf]
  | x :: l => by rw [namesOf, mem_addName, mem_namesOf (l := l), List.mem_cons]
def OneAt (ns : List Nat) (s t : AS) : Prop := ∀ n ∈ ns, s.h.get n = t.h.get n
theorem esOf_eq {s t : AS} {n : Nat} (h : s.h.get n = t.h.get n) : esOf s n = esOf t n := by unfold esOf; rw [h]
theorem entriesOf_eq {s t : AS} : ∀ {ns : List Nat}, OneAt ns s t → entriesOf s ns = entriesOf t ns
  | [], _ => rfl
  | n :: l, h => by
    simp only [entriesOf, esOf_eq (h n List.mem_cons_self), entriesOf_eq (ns := l) (fun m hm => h m (List.mem_cons_of_mem _ hm))]
theorem entriesOf_names {s : AS} : ∀ {ns : List Nat} {es : List (Nat × List (AV × AV))}, entriesOf s ns = some es → es.map (·.1) = ns
  | [], es, h => by simp only [entriesOf] at h; injection h with h; subst h; rfl
  | n :: l, es, h => by
    simp only [entriesOf] at h
    cases e : esOf s n with
    | none => rw [e] at h; cases h
    | some x =>
      simp only [e] at h
      cases e2 : entriesOf s l with
      | none => simp only [e2] at h; cases h
      | some r =>
        simp only [e2] at h; injection h with h; subst h
        simp [entriesOf_names e2]
theorem hasEs_eq {s t : AS} : ∀ {es : List (Nat × List (AV × AV))}, OneAt (es.map (·.1)) s t → hasEs s es = hasEs t es
  | [], _ => rfl
  | (n, x) :: l, h => by
    simp only [hasEs, esOf_eq (h n (by simp)), hasEs_eq (es := l) (fun m hm => h m (by simp only [List.map_cons, List.mem_cons]; exact .inr hm))]
theorem retOf_eq {lo : Nat} {s t : AS} (hn : s.nx = t.nx) (h : ∀ k, lo ≤ k → k < s.nx → s.h.get k = t.h.get k) (v : AV) : retOf lo s v = retOf lo t v := by
  cases v with
  | slice a len cap =>
    cases a with
    | none =>
      cases cap with
      | known c => cases len <;> cases c <;> rfl
      | atLeast lo e => cases len <;> rfl
      | lost => cases len <;> rfl
    | some a =>
      obtain ⟨n, o⟩ := a
      cases o with
      | succ o => cases cap <;> rfl
      | zero =>
        cases cap with
        | known c => rfl
        | lost => rfl
        | atLeast c e =>
          by_cases q : lo ≤ n ∧ n < s.nx
          · simp only [retOf, h n q.1 q.2, hn]
          · have q1 : (Nat.ble lo n && Nat.blt n s.nx) = false := by
              cases hb : (Nat.ble lo n && Nat.blt n s.nx) with
              | false => rfl
              | true =>
                have := Bool.and_eq_true_iff.1 hb
                rw [Nat.ble_eq, blt_eq] at this
                exact absurd this q
            have none1 : ∀ u : AS, (Nat.ble lo n && Nat.blt n u.nx) = false → retOf lo u (.slice (some (n, 0)) len (.atLeast c e)) = none := by
              intro u hu
              simp only [retOf, hu, Bool.false_and]
              split
              · split <;> rfl
              · rfl
            rw [none1 s q1, none1 t (by rw [← hn]; exact q1)]
  | tuple vs => cases vs <;> rfl
  | _ => rfl
theorem mem_rdsOf {x : AV × AS} {k : Nat} : ∀ {l : List (AV × AS)}, x ∈ l → k ∈ x.2.rd → k ∈ rdsOf l
  | [], h, _ => by cases h
  | (_, _) :: b, h, hk => by
    rcases List.mem_cons.1 h with rfl | hx
    · exact List.mem_append.2 (.inl hk)
    · exact List.mem_append.2 (.inr (mem_rdsOf hx hk))
theorem Local.ajoin (P : Program) {call : Caller} (hcall : ∀ t a, Local (call t a)) (f n : Nat) (rs : List ResultVar) (body : Code) (args : List AV) : Local (ajoin P call f n rs body args) := by
  intro s v s2 fi h
  unfold Rn.ajoin at h
  cases e0 : Nat.ble (max n args.length) top with
  | false => simp only [e0] at h; cases h
  | true =>
    simp only [e0] at h
    cases e1 : ajoinAll P call f n rs body args ⟨s.h, s.nx, s.nx, [], []⟩ with
    | none => simp only [e1] at h; cases h
    | some outs =>
      simp only [e1] at h
      cases e2 : planOf s.nx outs with
      | none => simp only [e2] at h; cases h
      | some p =>
        simp only [e2] at h
        obtain ⟨dr, dw, d, x⟩ := Local.doPlan p s v s2 fi h
        refine ⟨dr, dw, d, fun A m0 t ag hA => ?_⟩
        have hnote : ∀ k ∈ p.note, k < m0 → A k := by
          intro k hk hlt
          refine hA k ?_ hlt
          obtain ⟨u, s3, h1, h2⟩ := M.bind_inv (show ((Rn.noteAll p.note).bind fun _ => (Rn.putEs p.es).bind fun _ => (Rn.retM p.lo p.ret).bind fun v => (Rn.skipN p.skip).bind fun _ => M.pure (joinRest p.rest v)) s = .ok v s2 from h)
          obtain ⟨dr1, q1, q2, q3⟩ := noteAll_dr _ _ _ _ h1
          obtain ⟨dr', dw', d', _⟩ := Local.noteAll p.note s u s3 fi h1
          obtain ⟨dr2, dw2, d2, _⟩ := Local.bind (Local.putEs p.es) (fun _ => Local.bind (Local.retM p.lo p.ret) (fun v => Local.bind (Local.skipN p.skip) (fun _ => Local.pure (joinRest p.rest v)))) s3 v s2 (d'.fine fi) h2
          have : dr = dr2 ++ dr1 := by
            have a := d.rd
            rw [d2.rd, q1, ← List.append_assoc] at a
            exact (List.append_cancel_right a).symm
          rw [this]
          exact List.mem_append.2 (.inr (q3 k hk (Nat.lt_of_lt_of_le hlt ag.low)))
        have hL : LocalL (ajoinAll P call f n rs body args) := locL_finishAll P rs (locL_nframe P hcall _ _)
        obtain ⟨ne, g1, g2⟩ := hL ⟨s.h, s.nx, s.nx, [], []⟩ outs ⟨Nat.le_refl _, fi.nx⟩ e1
        cases outs with
        | nil => exact absurd rfl ne
        | cons y l =>
          obtain ⟨v1, s1⟩ := y
          have e2' := e2
          simp only [planOf] at e2'
          cases e3 : entriesOf s1 (namesOf (below s.nx s1.wr)) with
          | none => simp only [e3] at e2'; cases e2'
          | some es =>
            cases e4 : retOf s.nx s1 (headOf v1) with
            | none => simp only [e3, e4] at e2'; cases e2'
            | some r =>
              simp only [e3, e4] at e2'
              cases e5 : fits s.nx (namesOf (below s.nx s1.wr)) es r (restOf v1) ((v1, s1) :: l) && allKeysOk es with
              | false => simp only [e5] at e2'; cases e2'
              | true =>
                simp only [e5] at e2'
                injection e2' with e2'
                have hrd : ∀ x ∈ ((v1, s1) :: l), ∀ k ∈ x.2.rd, k ∈ rdsOf ((v1, s1) :: l) := fun x hx k hk => mem_rdsOf hx hk
                have hN : Noted A m0 ⟨s.h, s.nx, s.nx, [], []⟩ ((v1, s1) :: l) := by
                  intro x hx dr' dw' d' k hk hlt
                  refine hnote k ?_ hlt
                  rw [← e2']
                  refine mem_below.2 ⟨hrd x hx k (by rw [d'.rd]; simpa using hk), Nat.lt_of_lt_of_le hlt (Nat.le_trans ag.low fi.mark)⟩
                obtain ⟨outs', e6, fl⟩ := g2 A m0 ⟨t.h, t.nx, t.nx, [], []⟩ ⟨ag.nx, ag.nx, Nat.le_trans ag.low fi.mark, ag.is⟩ hN
                have hp : planOf t.nx outs' = some p := by
                  rw [← ag.nx, ← e2']
                  obtain ⟨y', l', rfl, ⟨ey, dr1, dw1, d1, al1⟩, fl'⟩ := fl
                  obtain ⟨v2, t1⟩ := y'
                  simp only at ey; subst ey
                  have ewr : t1.wr = s1.wr := by have a := al1.wr; have b := d1.wr; simp only [List.append_nil] at a b; rw [a, b]
                  have hns : ∀ m ∈ namesOf (below s.nx s1.wr), (A m ∨ m0 ≤ m) ∧ m < s.nx := by
                    intro m hm
                    obtain ⟨a, b⟩ := mem_below.1 (mem_namesOf.1 hm)
                    refine ⟨?_, b⟩
                    by_cases q : m < m0
                    · refine .inl (hN _ List.mem_cons_self dr1 dw1 d1 m (d1.sub m ?_) q)
                      have := d1.wr; simp only [List.append_nil] at this; rw [← this]; exact a
                    · exact .inr (by omega)
                  have one : ∀ (x y : AS) (dr dw : List Nat), Did ⟨s.h, s.nx, s.nx, [], []⟩ x dr dw → Also A m0 x ⟨t.h, t.nx, t.nx, [], []⟩ y dr dw → OneAt (namesOf (below s.nx s1.wr)) x y := by
                    intro x y dr dw d' al m hm
                    obtain ⟨a, b⟩ := hns m hm
                    exact al.agree.is m (Nat.lt_of_lt_of_le b d'.nx) a
                  have ret : ∀ (x y : AS) (dr dw : List Nat) (v : AV), Did ⟨s.h, s.nx, s.nx, [], []⟩ x dr dw → Also A m0 x ⟨t.h, t.nx, t.nx, [], []⟩ y dr dw → retOf s.nx x v = retOf s.nx y v := by
                    intro x y dr dw v d' al
                    exact retOf_eq al.agree.nx (fun k hk hlt => al.agree.is k hlt (.inr (Nat.le_trans (Nat.le_trans ag.low fi.mark) hk))) v
                  have e3' : entriesOf t1 (namesOf (below s.nx s1.wr)) = some es := by rw [← entriesOf_eq (one s1 t1 dr1 dw1 d1 al1)]; exact e3
                  have e4' : retOf s.nx t1 (headOf v1) = some r := by rw [← ret s1 t1 dr1 dw1 (headOf v1) d1 al1]; exact e4
                  have hfits : ∀ (a b : List (AV × AS)), Fellows A m0 ⟨s.h, s.nx, s.nx, [], []⟩ ⟨t.h, t.nx, t.nx, [], []⟩ a b → fits s.nx (namesOf (below s.nx s1.wr)) es r (restOf v1) a = fits s.nx (namesOf (below s.nx s1.wr)) es r (restOf v1) b := by
                    intro a
                    induction a with
                    | nil => intro b hb; simp only [Fellows] at hb; subst hb; rfl
                    | cons x xs ih =>
                      intro b hb
                      obtain ⟨y, ys, rfl, ⟨exy, dr2, dw2, d2, al2⟩, r2⟩ := hb
                      obtain ⟨x1, x2⟩ := x
                      obtain ⟨y1, y2⟩ := y
                      simp only at exy; subst exy
                      have w2 : y2.wr = x2.wr := by have a := al2.wr; have b := d2.wr; simp only [List.append_nil] at a b; rw [a, b]
                      have n2 := entriesOf_names e3
                      simp only [fits, w2, hasEs_eq (es := es) (s := x2) (t := y2) (by rw [n2]; exact one x2 y2 dr2 dw2 d2 al2), ret x2 y2 dr2 dw2 (headOf x1) d2 al2, ih ys r2]
                  have hrds : ∀ (a b : List (AV × AS)), Fellows A m0 ⟨s.h, s.nx, s.nx, [], []⟩ ⟨t.h, t.nx, t.nx, [], []⟩ a b → rdsOf a = rdsOf b := by
                    intro a
                    induction a with
                    | nil => intro b hb; simp only [Fellows] at hb; subst hb; rfl
                    | cons x xs ih =>
                      intro b hb
                      obtain ⟨y, ys, rfl, ⟨exy, dr2, dw2, d2, al2⟩, r2⟩ := hb
                      obtain ⟨x1, x2⟩ := x
                      obtain ⟨y1, y2⟩ := y
                      have w2 : y2.rd = x2.rd := by have a := al2.rd; have b := d2.rd; simp only [List.append_nil] at a b; rw [a, b]
                      simp only [rdsOf, ih ys r2]
                      rw [w2]
                  have hnxs : ∀ (a b : List (AV × AS)), Fellows A m0 ⟨s.h, s.nx, s.nx, [], []⟩ ⟨t.h, t.nx, t.nx, [], []⟩ a b → nxOf a = nxOf b := by
                    intro a
                    induction a with
                    | nil => intro b hb; simp only [Fellows] at hb; subst hb; rfl
                    | cons x xs ih =>
                      intro b hb
                      obtain ⟨y, ys, rfl, ⟨exy, dr2, dw2, d2, al2⟩, r2⟩ := hb
                      obtain ⟨x1, x2⟩ := x
                      obtain ⟨y1, y2⟩ := y
                      have w2 : x2.nx = y2.nx := al2.agree.nx
                      simp only [nxOf, ih ys r2, w2]
                  have whole : Fellows A m0 ⟨s.h, s.nx, s.nx, [], []⟩ ⟨t.h, t.nx, t.nx, [], []⟩ ((v1, s1) :: l) ((v1, t1) :: l') := ⟨(v1, t1), l', rfl, ⟨rfl, dr1, dw1, d1, al1⟩, fl'⟩
                  simp only [planOf, ewr, e3', e4']
                  rw [← hfits _ _ whole, e5, ← hrds _ _ whole, ← hnxs _ _ whole]
                obtain ⟨t1, e7, al⟩ := x A m0 t ag hA
                refine ⟨t1, ?_, al⟩
                unfold Rn.ajoin
                simp only [e0, e6, hp]
                exact e7
theorem local_arun (P : Program) (way : FuncId → Nat) : ∀ (n : Nat) (t : Tgt) (args : List AV), Local (arun P way n t args)
  | 0, _, _ => Local.fail
  | n + 1, .fn f, args => by
    have hcall : ∀ t a, Local (arun P way n t a) := fun t a => local_arun P way n t a
    show Local ((fnB P way f).val (arun P way n) args)
    unfold fnB
    split
    · exact Local.cloneMap _
    · exact Local.joinStrs _
    · split
      · exact Local.fail
      · split
        · exact Local.fail
        · split
          · exact Local.fail
          · split
            · exact Local.ajoin P hcall _ _ _ _ _
            · exact Local.kBody P _ _ _ _ hcall _
  | n + 1, .round l, args => Local.runRound P (fun t a => local_arun P way n t a) l args
  | _ + 1, .row _ _ _, _ => Local.fail
end Go.Rn
