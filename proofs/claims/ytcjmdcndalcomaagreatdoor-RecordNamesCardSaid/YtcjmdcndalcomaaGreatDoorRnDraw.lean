/- A region whose row is drawn: whatever the row, what its text comes to. -/
import Derived.Test.YtcjmdcndalcomaaGreatDoorRnCongr
namespace Go.Rn
open Go.RowKit

theorem Rel.congr {B : Nat} {ρ : Ren} {h h' : Tr AObj} {w : World} (r : Rel B ρ h w) (e : ∀ m, m < top → h'.get m = h.get m) : Rel B ρ h' w := by
  refine ⟨fun n o hn hg => r.is n o hn (by rw [← e n hn]; exact hg), fun n m o p b N M hn hm h1 h2 => r.one n m o p b N M hn hm (by rw [← e n hn]; exact h1) (by rw [← e m hm]; exact h2), fun n m es ex left cur hn h1 => ?_, r.size,
    fun i j m es ex left cur es' ex' left' cur' hi hj h1 h2 => r.lone i j m es ex left cur es' ex' left' cur' hi hj (by rw [← e i hi]; exact h1) (by rw [← e j hj]; exact h2)⟩
  obtain ⟨a, b, c⟩ := r.iter n m es ex left cur hn (by rw [← e n hn]; exact h1)
  exact ⟨a, by rw [e m a]; exact b, c⟩

theorem againstAll_mem {b : Array Nat} {x : Met} : ∀ {all : List Met}, againstAll b x all = true → ∀ y ∈ all, x.i = y.i ∨ apartM x y = true ∨ loose b x.i y.i = false
  | [], _, y, hy => by cases hy
  | z :: l, h, y, hy => by
    simp only [againstAll] at h
    cases q : (Nat.beq x.i z.i || (apartM x z || !loose b x.i z.i)) with
    | false => rw [q] at h; cases h
    | true =>
      rw [q] at h
      rcases List.mem_cons.1 hy with rfl | hy
      · simp only [Bool.or_eq_true, Bool.not_eq_true'] at q
        rcases q with q | q | q
        · exact .inl (beqN_true.1 q)
        · exact .inr (.inl q)
        · exact .inr (.inr q)
      · exact againstAll_mem h y hy
theorem metOk_mem {b : Array Nat} {all : List Met} : ∀ {l : List Met}, metOk b all l = true → ∀ x ∈ l, quietM x = true ∨ againstAll b x all = true
  | [], _, x, hx => by cases hx
  | z :: l, h, x, hx => by
    simp only [metOk] at h
    cases q : (quietM z || againstAll b z all) with
    | false => rw [q] at h; cases h
    | true =>
      rw [q] at h
      rcases List.mem_cons.1 hx with rfl | hx
      · exact Bool.or_eq_true_iff.1 q
      · exact metOk_mem h x hx
theorem meets_false {m : List Nat} : ∀ {l : List Nat}, meets l m = false → ∀ x ∈ l, x ∉ m
  | [], _, x, hx => by cases hx
  | z :: l, h, x, hx => by
    simp only [meets] at h
    cases q : memN z m with
    | true => rw [q] at h; cases h
    | false =>
      rw [q] at h
      rcases List.mem_cons.1 hx with rfl | hx
      · intro e; rw [memN_iff.2 e] at q; cases q
      · exact meets_false h x hx
theorem hasIn_false {lo hi : Nat} : ∀ {l : List Nat}, hasIn lo hi l = false → ∀ x ∈ l, ¬ (lo ≤ x ∧ x < hi)
  | [], _, x, hx => by cases hx
  | z :: l, h, x, hx => by
    simp only [hasIn] at h
    cases q : (Nat.ble lo z && Nat.blt z hi) with
    | true => rw [q] at h; cases h
    | false =>
      rw [q] at h
      rcases List.mem_cons.1 hx with rfl | hx
      · rintro ⟨h1, h2⟩
        rw [show Nat.ble lo x = true from ble_true.2 h1, show Nat.blt x hi = true from (blt_eq _ _).mpr h2] at q
        cases q
      · exact hasIn_false h x hx

section
variable {P : Program} {call : Caller} {ops : Array Oper} {nt : Nat}

/-- One operation of the text's row. -/
structure Did1 (P : Program) (call : Caller) (ops : Array Oper) (nt : Nat) (H : Nat → Tr AObj) (N : Nat → Nat) (T : Nat → Tr AV) (k : Nat) (o : Oper) (x : Met) (s1 : AS) : Prop where
  lo : x.lo = N k
  hi : x.hi = N (k + 1)
  run : aone P call nt ops o (T k) ⟨H k, N k, N k, [], []⟩ = .ok (T (k + 1)) s1
  h : s1.h = H (k + 1)
  nx : s1.nx = N (k + 1)
  rd : x.rd = below (N k) s1.rd
  wr : x.wr = below (N k) s1.wr

theorem aopsD_seq (hl : ∀ t a, Local (call t a)) : ∀ (l : List Oper) (i : Nat) {t t' : Tr AV} {s s' : AS} {ms : List Met}, Fine s → aopsD P call nt ops l i t s = .ok (t', ms) s' →
    Fine s' ∧ ∃ (H : Nat → Tr AObj) (N : Nat → Nat) (T : Nat → Tr AV), H 0 = s.h ∧ N 0 = s.nx ∧ T 0 = t ∧ H l.length = s'.h ∧ N l.length = s'.nx ∧ T l.length = t' ∧
      (∀ k, k ≤ l.length → N k ≤ top) ∧ ∀ k o, l[k]? = some o → ∃ x s1, ms[k]? = some x ∧ x.i = i + k ∧ Did1 P call ops nt H N T k o x s1
  | [], i, t, t', s, s', ms, fi, h => by
    obtain ⟨e, rfl⟩ := pure_inv (show M.pure (t, []) s = .ok (t', ms) s' from h)
    cases e
    exact ⟨fi, fun _ => s'.h, fun _ => s'.nx, fun _ => t, rfl, rfl, rfl, rfl, rfl, rfl, fun _ _ => fi.nx, fun k o h => by simp at h⟩
  | o :: l, i, t, t', s, s', ms, fi, h => by
    obtain ⟨x, s2, h1, h2⟩ := M.bind_inv (show ((alone i (aone P call nt ops o t)).bind fun x => (aopsD P call nt ops l (i + 1) x.1).bind fun y => M.pure (y.1, x.2 :: y.2)) s = .ok (t', ms) s' from h)
    obtain ⟨y, s3, h3, h4⟩ := M.bind_inv h2
    obtain ⟨e, rfl⟩ := pure_inv h4
    cases e
    obtain ⟨a, s1, g1, rfl, rfl⟩ := alone_inv h1
    have fi1 : Fine s1 := (Local.aone P hl nt ops o t).fine (s := ⟨s.h, s.nx, s.nx, [], []⟩) ⟨Nat.le_refl _, fi.nx⟩ g1
    have fle : s.nx ≤ s1.nx := (Local.aone P hl nt ops o t).le (s := ⟨s.h, s.nx, s.nx, [], []⟩) ⟨Nat.le_refl _, fi.nx⟩ g1
    have fi2 : Fine ⟨s1.h, s1.nx, s.mark, below s.mark s1.rd ++ s.rd, below s.mark s1.wr ++ s.wr⟩ := ⟨Nat.le_trans fi.mark fle, fi1.nx⟩
    obtain ⟨f3, H, N, T, a1, a2, a3, a4, a5, a6, a7, a8⟩ := aopsD_seq hl l (i + 1) (t' := y.1) (ms := y.2) fi2 h3
    refine ⟨f3, fun k => match k with | 0 => s.h | k + 1 => H k, fun k => match k with | 0 => s.nx | k + 1 => N k, fun k => match k with | 0 => t | k + 1 => T k, rfl, rfl, rfl, a4, a5, a6, ?_, ?_⟩
    · intro k hk
      cases k with
      | zero => exact fi.nx
      | succ k => exact a7 k (by simpa using hk)
    · intro k o2 hk
      cases k with
      | zero =>
        simp only [List.getElem?_cons_zero, Option.some.injEq] at hk
        subst hk
        refine ⟨_, s1, rfl, rfl, ⟨rfl, a2.symm, ?_, a1.symm, a2.symm, rfl, rfl⟩⟩
        show aone P call nt ops o t ⟨s.h, s.nx, s.nx, [], []⟩ = .ok (T 0) s1
        rw [a3]; exact g1
      | succ k =>
        simp only [List.getElem?_cons_succ] at hk
        obtain ⟨x, s4, b1, b2, b3⟩ := a8 k o2 hk
        exact ⟨x, s4, by simpa using b1, by rw [b2]; omega, ⟨b3.lo, b3.hi, b3.run, b3.h, b3.nx, b3.rd, b3.wr⟩⟩

/-- What the text's row has come to, and what each of it met. -/
structure Text (P : Program) (call : Caller) (ops : Array Oper) (nt : Nat) (H : Nat → Tr AObj) (N : Nat → Nat) (T : Nat → Tr AV) (Rd Wr : Nat → Nat → Prop) : Prop where
  top : ∀ k, k ≤ ops.size → N k ≤ Rn.top
  up : ∀ k, k < ops.size → N k ≤ N (k + 1)
  keep : ∀ k m, k < ops.size → ¬ Wr k m → m < Rn.top → (H (k + 1)).get m = (H k).get m
  made : ∀ k m, k < ops.size → N k ≤ m → m < N (k + 1) → Wr k m
  wrote : ∀ k m, k < ops.size → Wr k m → m < N (k + 1) ∧ (m < N k → Rd k m)
  slot : ∀ k o d, ops[k]? = some o → o.dst ≠ some d → (T (k + 1)).get d = (T k).get d
  apart : ∀ i j m, i < ops.size → j < ops.size → i ≠ j → loose (Region.before ops) i j = true → Wr i m → ¬ Rd j m
  again : ∀ j o, ops[j]? = some o → ∀ (h : Tr AObj), (∀ m, m < Rn.top → Rd j m → h.get m = (H j).get m) → ∃ t1, aone P call nt ops o (T j) ⟨h, N j, N j, [], []⟩ = .ok (T (j + 1)) t1 ∧ t1.nx = N (j + 1) ∧
    (∀ m, Wr j m → t1.h.get m = (H (j + 1)).get m) ∧ (∀ m, ¬ Wr j m → m < Rn.top → t1.h.get m = h.get m)

theorem text_of (hl : ∀ t a, Local (call t a)) (hnt : nt ≤ top) {t t' : Tr AV} {s s' : AS} {ms : List Met} (fi : Fine s) (h : aopsD P call nt ops ops.toList 0 t s = .ok (t', ms) s') (hm : metOk (Region.before ops) ms ms = true) :
    Fine s' ∧ ∃ (H : Nat → Tr AObj) (N : Nat → Nat) (T : Nat → Tr AV) (Rd Wr : Nat → Nat → Prop), H 0 = s.h ∧ N 0 = s.nx ∧ T 0 = t ∧ H ops.size = s'.h ∧ N ops.size = s'.nx ∧ T ops.size = t' ∧ Text P call ops nt H N T Rd Wr := by
  obtain ⟨f', H, N, T, a1, a2, a3, a4, a5, a6, a7, a8⟩ := aopsD_seq hl ops.toList 0 fi h
  have hlen : ops.toList.length = ops.size := by simp
  rw [hlen] at a4 a5 a6 a7
  refine ⟨f', H, N, T, fun k m => ∃ x, ms[k]? = some x ∧ m ∈ x.rd, fun k m => ∃ x, ms[k]? = some x ∧ (m ∈ x.wr ∨ (N k ≤ m ∧ m < N (k + 1))), a1, a2, a3, a4, a5, a6, ?_⟩
  have at_ : ∀ k, k < ops.size → ∃ o x s1, ops[k]? = some o ∧ ms[k]? = some x ∧ x.i = k ∧ Did1 P call ops nt H N T k o x s1 := by
    intro k hk
    have ho : ops.toList[k]? = some ops[k] := by simp [hk]
    obtain ⟨x, s1, b1, b2, b3⟩ := a8 k _ ho
    exact ⟨ops[k], x, s1, Array.getElem?_eq_getElem hk, b1, by omega, b3⟩
  have did : ∀ k, k < ops.size → ∀ o x s1, Did1 P call ops nt H N T k o x s1 → ∃ dr dw, Did ⟨H k, N k, N k, [], []⟩ s1 dr dw ∧
      (∀ A m0 t, Agree A m0 ⟨H k, N k, N k, [], []⟩ t → (∀ q ∈ dr, q < m0 → A q) → ∃ t1, aone P call nt ops o (T k) t = .ok (T (k + 1)) t1 ∧ Also A m0 s1 t t1 dr dw) ∧ (∀ m, m ∈ x.rd ↔ m ∈ dr ∧ m < N k) ∧ (∀ m, m ∈ x.wr ↔ m ∈ dw ∧ m < N k) := by
    intro k hk o x s1 hd
    obtain ⟨dr, dw, d1, d2⟩ := Local.aone P hl nt ops o (T k) _ _ _ ⟨Nat.le_refl _, a7 k (by omega)⟩ hd.run
    refine ⟨dr, dw, d1, d2, fun m => ?_, fun m => ?_⟩
    · rw [hd.rd, mem_below, d1.rd]; simp
    · rw [hd.wr, mem_below, d1.wr]; simp
  refine ⟨a7, ?_, ?_, ?_, ?_, ?_, ?_, ?_⟩
  · intro k hk
    obtain ⟨o, x, s1, _, _, _, hd⟩ := at_ k hk
    obtain ⟨dr, dw, d1, _⟩ := did k hk o x s1 hd
    have := d1.nx
    rw [hd.nx] at this; exact this
  · intro k m hk hw hmt
    obtain ⟨o, x, s1, _, hx, _, hd⟩ := at_ k hk
    obtain ⟨dr, dw, d1, _, _, d4⟩ := did k hk o x s1 hd
    rw [← hd.h]
    by_cases q : m < N k
    · refine d1.same m q fun e => hw ⟨_, hx, .inl ((d4 m).2 ⟨e, q⟩)⟩
    · refine d1.far m ?_ hmt
      rw [hd.nx]
      rcases Nat.lt_or_ge m (N (k + 1)) with q2 | q2
      · exact absurd ⟨_, hx, .inr ⟨by omega, q2⟩⟩ hw
      · exact q2
  · intro k m hk h1 h2
    obtain ⟨o, x, s1, _, hx, _, hd⟩ := at_ k hk
    exact ⟨x, hx, .inr ⟨h1, h2⟩⟩
  · rintro k m hk ⟨x', hx', hw⟩
    obtain ⟨o, x, s1, _, hx, _, hd⟩ := at_ k hk
    rw [hx] at hx'; cases hx'
    obtain ⟨dr, dw, d1, _, d3, d4⟩ := did k hk o _ s1 hd
    have hup := d1.nx
    rw [hd.nx] at hup
    have hup' : N k ≤ N (k + 1) := hup
    rcases hw with hw | ⟨h1, h2⟩
    · obtain ⟨e1, e2⟩ := (d4 m).1 hw
      exact ⟨by omega, fun _ => ⟨_, hx, (d3 m).2 ⟨d1.sub m e1, e2⟩⟩⟩
    · exact ⟨h2, fun q => by omega⟩
  · intro k o d ho hne
    have hk : k < ops.size := (Array.getElem?_eq_some_iff.1 ho).1
    obtain ⟨o', x, s1, ho', hx, _, hd⟩ := at_ k hk
    rw [ho] at ho'; cases ho'
    obtain ⟨v, hv, _⟩ := aone_congr (u := T k) (fun _ _ => rfl) hd.run
    rcases aput_inv hv with ⟨_, e⟩ | ⟨d', e1, e2, e3⟩
    · rw [e]
    · rw [e3, Tr.get_put' _ _ _ _ (Nat.lt_of_lt_of_le e2 hnt), if_neg (by intro e; subst e; exact hne e1)]
  · rintro i j m hi hj hne hloose ⟨x', hx', hw⟩ ⟨y', hy', hr⟩
    obtain ⟨_, x, s1, _, hx, xi, hd⟩ := at_ i hi
    obtain ⟨_, y, s2, _, hy, yi, he⟩ := at_ j hj
    rw [hx] at hx'; cases hx'
    rw [hy] at hy'; cases hy'
    rcases metOk_mem hm _ (List.mem_of_getElem? hx) with q | q
    · unfold quietM at q
      split at q
      · rename_i hwr
        rcases hw with hw | ⟨h1, h2⟩
        · rw [hwr] at hw; cases hw
        · have := ble_true.1 q
          rw [hd.lo, hd.hi] at this; omega
      · cases q
    · rcases againstAll_mem q _ (List.mem_of_getElem? hy) with e | e | e
      · rw [xi, yi] at e; exact hne e
      · unfold apartM at e
        simp only [Bool.and_eq_true, Bool.not_eq_true'] at e
        rcases hw with hw | ⟨h1, h2⟩
        · exact meets_false e.1 m hw hr
        · exact hasIn_false e.2 m hr ⟨by rw [hd.lo]; exact h1, by rw [hd.hi]; exact h2⟩
      · rw [xi, yi, hloose] at e; cases e
  · intro j o ho h' hag
    have hj : j < ops.size := (Array.getElem?_eq_some_iff.1 ho).1
    obtain ⟨o', x, s1, ho', hx, _, hd⟩ := at_ j hj
    rw [ho] at ho'; cases ho'
    obtain ⟨dr, dw, d1, d2, d3, d4⟩ := did j hj o x s1 hd
    obtain ⟨t1, c1, c2⟩ := d2 (fun m => ∃ x, ms[j]? = some x ∧ m ∈ x.rd) (N j) ⟨h', N j, N j, [], []⟩
      ⟨rfl, rfl, Nat.le_refl _, fun k hk hor => by
        rcases hor with hor | hor
        · exact (hag k (Nat.lt_of_lt_of_le hk (a7 j (by omega))) hor).symm
        · exact absurd hk (Nat.not_lt.2 hor)⟩ (fun q hq hlt => ⟨x, hx, (d3 q).2 ⟨hq, hlt⟩⟩)
    have hnx : t1.nx = N (j + 1) := by rw [← c2.agree.nx, hd.nx]
    refine ⟨t1, c1, hnx, ?_, ?_⟩
    · rintro m ⟨x', hx', hw⟩
      rw [hx] at hx'; cases hx'
      rw [← hd.h]
      have hup := d1.nx
      rw [hd.nx] at hup
      have hup' : N j ≤ N (j + 1) := hup
      symm
      rcases hw with hw | ⟨h1, h2⟩
      · obtain ⟨e1, e2⟩ := (d4 m).1 hw
        exact c2.agree.is m (by rw [hd.nx]; omega) (.inl ⟨x, hx, (d3 m).2 ⟨d1.sub m e1, e2⟩⟩)
      · exact c2.agree.is m (by rw [hd.nx]; exact h2) (.inr h1)
    · intro m hw hmt
      by_cases q : m < N j
      · exact c2.same m q fun e => hw ⟨_, hx, .inl ((d4 m).2 ⟨e, q⟩)⟩
      · refine c2.far m ?_ hmt
        rw [hd.nx]
        rcases Nat.lt_or_ge m (N (j + 1)) with q2 | q2
        · exact absurd ⟨_, hx, .inr ⟨by omega, q2⟩⟩ hw
        · exact q2
end
end Go.Rn
