/- A region whose row is drawn: whatever the row, what its text comes to. -/
import Derived.Test.YtbnjeblcleihkaaGreatDoorRnMachA
namespace Go.Rn
open Go.RowKit
theorem Rel.congr {B : Base} {ρ : Ren} {h h' : Tr AObj} {w : World} (r : Rel B ρ h w) (e : ∀ m, m < top → h'.get m = h.get m) : Rel B ρ h' w := by
  refine ⟨fun n o hn hg => r.is n o hn (by rw [← e n hn]; exact hg), fun n m o p b N M hn hm h1 h2 hor => r.one n m o p b N M hn hm (by rw [← e n hn]; exact h1) (by rw [← e m hm]; exact h2) hor, fun n m es ex left cur hn h1 => ?_, r.size,
    fun i j m es ex left cur es' ex' left' cur' hi hj h1 h2 => r.lone i j m es ex left cur es' ex' left' cur' hi hj (by rw [← e i hi]; exact h1) (by rw [← e j hj]; exact h2),
    r.fz.of (Ren.le_refl _) (fun _ _ _ => rfl) (fun b1 _ hn => hn.sub fun m q hm hq hqr => ⟨q, by rw [← e m hm]; exact hq, hqr⟩)⟩
  obtain ⟨a, b, c⟩ := r.iter n m es ex left cur hn (by rw [← e n hn]; exact h1)
  exact ⟨a, by rw [e m a]; exact b, c⟩
theorem againstAll_mem {b : Array Nat} {x : Met} : ∀ {all : List Met}, againstAll b x all = true → ∀ y ∈ all, x.i = y.i ∨ apartM x y = true ∨ loose b x.i y.i = false
  | [], _, y, hy => by cases hy
  | z :: l, h, y, hy => by
    simp only [againstAll] at h
    cases q : (Nat.beq x.i z.i || (apartM x z || !loose b x.i z.i)) with
    | false => rw [q] at h; cases h
    | true =>
      rw [q] at h
      rcases List.mem_cons.1 hy with rfl | hy
      · simp only [Bool.or_eq_true, Bool.not_eq_true'] at q
        rcases q with q | q | q
        · exact .inl (beqN_true.1 q)
        · exact .inr (.inl q)
        · exact .inr (.inr q)
      · exact againstAll_mem h y hy
theorem metOk_mem {b : Array Nat} {all : List Met} : ∀ {l : List Met}, metOk b all l = true → ∀ x ∈ l, quietM x = true ∨ againstAll b x all = true
  | [], _, x, hx => by cases hx
  | z :: l, h, x, hx => by
    simp only [metOk] at h
    cases q : (quietM z || againstAll b z all) with
    | false => rw [q] at h; cases h
    | true =>
      rw [q] at h
      rcases List.mem_cons.1 hx with rfl | hx
      · exact Bool.or_eq_true_iff.1 q
      · exact metOk_mem h x hx
theorem meets_false {m : List Nat} : ∀ {l : List Nat}, meets l m = false → ∀ x ∈ l, x ∉ m
  | [], _, x, hx => by cases hx
  | z :: l, h, x, hx => by
    simp only [meets] at h
    cases q : memN z m with
    | true => rw [q] at h; cases h
    | false =>
      rw [q] at h
      rcases List.mem_cons.1 hx with rfl | hx
      · intro e; rw [memN_iff.2 e] at q; cases q
      · exact meets_false h x hx
theorem hasIn_false {lo hi : Nat} : ∀ {l : List Nat}, hasIn lo hi l = false → ∀ x ∈ l, ¬ (lo ≤ x ∧ x < hi)
  | [], _, x, hx => by cases hx
  | z :: l, h, x, hx => by
    simp only [hasIn] at h
    cases q : (Nat.ble lo z && Nat.blt z hi) with
    | true => rw [q] at h; cases h
    | false =>
      rw [q] at h
      rcases List.mem_cons.1 hx with rfl | hx
      · rintro ⟨h1, h2⟩
        rw [show Nat.ble lo x = true from ble_true.2 h1, show Nat.blt x hi = true from (blt_eq _ _).mpr h2] at q
        cases q
      · exact hasIn_false h x hx
section
variable {P : Program} {call : Caller} {ops : Array Oper} {nt : Nat}
structure Did1 (P : Program) (call : Caller) (ops : Array Oper) (nt : Nat) (H : Nat → Tr AObj) (N : Nat → Nat) (T : Nat → Tr AV) (k : Nat) (o : Oper) (x : Met) (s1 : AS) : Prop where
  lo : x.lo = N k
  hi : x.hi = N (k + 1)
  run : aone P call nt ops o (T k) ⟨H k, N k, N k, [], []⟩ = .ok (T (k + 1)) s1
  h : s1.h = H (k + 1)
  nx : s1.nx = N (k + 1)
  rd : x.rd = below (N k) s1.rd
  wr : x.wr = below (N k) s1.wr
theorem aopsD_seq (hl : ∀ t a, Local (call t a)) : ∀ (l : List Oper) (i : Nat) {t t' : Tr AV} {s s' : AS} {ms : List Met}, Fine s → aopsD P call nt ops l i t s = .ok (t', ms) s' →
    Fine s' ∧ ∃ (H : Nat → Tr AObj) (N : Nat → Nat) (T : Nat → Tr AV), H 0 = s.h ∧ N 0 = s.nx ∧ T 0 = t ∧ H l.length = s'.h ∧ N l.length = s'.nx ∧ T l.length = t' ∧
      (∀ k, k ≤ l.length → N k ≤ top) ∧ ∀ k o, l[k]? = some o → ∃ x s1, ms[k]? = some x ∧ x.i = i + k ∧ Did1 P call ops nt H N T k o x s1
  | [], i, t, t', s, s', ms, fi, h => by
    obtain ⟨e, rfl⟩ := pure_inv (show M.pure (t, []) s = .ok (t', ms) s' from h)
    cases e
    exact ⟨fi, fun _ => s'.h, fun _ => s'.nx, fun _ => t, rfl, rfl, rfl, rfl, rfl, rfl, fun _ _ => fi.nx, fun k o h => by simp at h⟩
  | o :: l, i, t, t', s, s', ms, fi, h => by
    obtain ⟨x, s2, h1, h2⟩ := M.bind_inv (show ((alone i (aone P call nt ops o t)).bind fun x => (aopsD P call nt ops l (i + 1) x.1).bind fun y => M.pure (y.1, x.2 :: y.2)) s = .ok (t', ms) s' from h)
    obtain ⟨y, s3, h3, h4⟩ := M.bind_inv h2
    obtain ⟨e, rfl⟩ := pure_inv h4
    cases e
    obtain ⟨a, s1, g1, rfl, rfl⟩ := alone_inv h1
    have fi1 : Fine s1 := (Local.aone P hl nt ops o t).fine (s := ⟨s.h, s.nx, s.nx, [], []⟩) ⟨Nat.le_refl _, fi.nx⟩ g1
    have fle : s.nx ≤ s1.nx := (Local.aone P hl nt ops o t).le (s := ⟨s.h, s.nx, s.nx, [], []⟩) ⟨Nat.le_refl _, fi.nx⟩ g1
    have fi2 : Fine ⟨s1.h, s1.nx, s.mark, below s.mark s1.rd ++ s.rd, below s.mark s1.wr ++ s.wr⟩ := ⟨Nat.le_trans fi.mark fle, fi1.nx⟩
    obtain ⟨f3, H, N, T, a1, a2, a3, a4, a5, a6, a7, a8⟩ := aopsD_seq hl l (i + 1) (t' := y.1) (ms := y.2) fi2 h3
    refine ⟨f3, fun k => match k with | 0 => s.h | k + 1 => H k, fun k => match k with | 0 => s.nx | k + 1 => N k, fun k => match k with | 0 => t | k + 1 => T k, rfl, rfl, rfl, a4, a5, a6, ?_, ?_⟩
    · intro k hk
      cases k with
      | zero => exact fi.nx
      | succ k => exact a7 k (by simpa using hk)
    · intro k o2 hk
      cases k with
      | zero =>
        simp only [List.getElem?_cons_zero, Option.some.injEq] at hk
        subst hk
        refine ⟨_, s1, rfl, rfl, ⟨rfl, a2.symm, ?_, a1.symm, a2.symm, rfl, rfl⟩⟩
        show aone P call nt ops o t ⟨s.h, s.nx, s.nx, [], []⟩ = .ok (T 0) s1
        rw [a3]; exact g1
      | succ k =>
        simp only [List.getElem?_cons_succ] at hk
        obtain ⟨x, s4, b1, b2, b3⟩ := a8 k o2 hk
        exact ⟨x, s4, by simpa using b1, by rw [b2]; omega, ⟨b3.lo, b3.hi, b3.run, b3.h, b3.nx, b3.rd, b3.wr⟩⟩
structure Text (P : Program) (call : Caller) (ops : Array Oper) (nt : Nat) (H : Nat → Tr AObj) (N : Nat → Nat) (T : Nat → Tr AV) (Rd Wr : Nat → Nat → Prop) : Prop where
  top : ∀ k, k ≤ ops.size → N k ≤ Rn.top
  up : ∀ k, k < ops.size → N k ≤ N (k + 1)
  keep : ∀ k m, k < ops.size → ¬ Wr k m → m < Rn.top → (H (k + 1)).get m = (H k).get m
  made : ∀ k m, k < ops.size → N k ≤ m → m < N (k + 1) → Wr k m
  wrote : ∀ k m, k < ops.size → Wr k m → m < N (k + 1) ∧ (m < N k → Rd k m)
  slot : ∀ k o d, ops[k]? = some o → o.dst ≠ some d → (T (k + 1)).get d = (T k).get d
  apart : ∀ i j m, i < ops.size → j < ops.size → i ≠ j → loose (Region.before ops) i j = true → Wr i m → ¬ Rd j m
  again : ∀ j o, ops[j]? = some o → ∀ (h : Tr AObj), (∀ m, m < Rn.top → Rd j m → h.get m = (H j).get m) → ∃ t1, aone P call nt ops o (T j) ⟨h, N j, N j, [], []⟩ = .ok (T (j + 1)) t1 ∧ t1.nx = N (j + 1) ∧
    (∀ m, Wr j m → t1.h.get m = (H (j + 1)).get m) ∧ (∀ m, ¬ Wr j m → m < Rn.top → t1.h.get m = h.get m)
theorem text_of (hl : ∀ t a, Local (call t a)) (hnt : nt ≤ top) {t t' : Tr AV} {s s' : AS} {ms : List Met} (fi : Fine s) (h : aopsD P call nt ops ops.toList 0 t s = .ok (t', ms) s') (hm : metOk (Region.before ops) ms ms = true) :
    Fine s' ∧ ∃ (H : Nat → Tr AObj) (N : Nat → Nat) (T : Nat → Tr AV) (Rd Wr : Nat → Nat → Prop), H 0 = s.h ∧ N 0 = s.nx ∧ T 0 = t ∧ H ops.size = s'.h ∧ N ops.size = s'.nx ∧ T ops.size = t' ∧ Text P call ops nt H N T Rd Wr := by
  obtain ⟨f', H, N, T, a1, a2, a3, a4, a5, a6, a7, a8⟩ := aopsD_seq hl ops.toList 0 fi h
  have hlen : ops.toList.length = ops.size := by simp
  rw [hlen] at a4 a5 a6 a7
  refine ⟨f', H, N, T, fun k m => ∃ x, ms[k]? = some x ∧ m ∈ x.rd, fun k m => ∃ x, ms[k]? = some x ∧ (m ∈ x.wr ∨ (N k ≤ m ∧ m < N (k + 1))), a1, a2, a3, a4, a5, a6, ?_⟩
  have at_ : ∀ k, k < ops.size → ∃ o x s1, ops[k]? = some o ∧ ms[k]? = some x ∧ x.i = k ∧ Did1 P call ops nt H N T k o x s1 := by
    intro k hk
    have ho : ops.toList[k]? = some ops[k] := by simp [hk]
    obtain ⟨x, s1, b1, b2, b3⟩ := a8 k _ ho
    exact ⟨ops[k], x, s1, Array.getElem?_eq_getElem hk, b1, by omega, b3⟩
  have did : ∀ k, k < ops.size → ∀ o x s1, Did1 P call ops nt H N T k o x s1 → ∃ dr dw, Did ⟨H k, N k, N k, [], []⟩ s1 dr dw ∧
      (∀ A m0 t, Agree A m0 ⟨H k, N k, N k, [], []⟩ t → (∀ q ∈ dr, q < m0 → A q) → ∃ t1, aone P call nt ops o (T k) t = .ok (T (k + 1)) t1 ∧ Also A m0 s1 t t1 dr dw) ∧ (∀ m, m ∈ x.rd ↔ m ∈ dr ∧ m < N k) ∧ (∀ m, m ∈ x.wr ↔ m ∈ dw ∧ m < N k) := by
    intro k hk o x s1 hd
    obtain ⟨dr, dw, d1, d2⟩ := Local.aone P hl nt ops o (T k) _ _ _ ⟨Nat.le_refl _, a7 k (by omega)⟩ hd.run
    refine ⟨dr, dw, d1, d2, fun m => ?_, fun m => ?_⟩
    · rw [hd.rd, mem_below, d1.rd]; simp
    · rw [hd.wr, mem_below, d1.wr]; simp
  refine ⟨a7, ?_, ?_, ?_, ?_, ?_, ?_, ?_⟩
  · intro k hk
    obtain ⟨o, x, s1, _, _, _, hd⟩ := at_ k hk
    obtain ⟨dr, dw, d1, _⟩ := did k hk o x s1 hd
    have := d1.nx
    rw [hd.nx] at this; exact this
  · intro k m hk hw hmt
    obtain ⟨o, x, s1, _, hx, _, hd⟩ := at_ k hk
    obtain ⟨dr, dw, d1, _, _, d4⟩ := did k hk o x s1 hd
    rw [← hd.h]
    by_cases q : m < N k
    · refine d1.same m q fun e => hw ⟨_, hx, .inl ((d4 m).2 ⟨e, q⟩)⟩
    · refine d1.far m ?_ hmt
      rw [hd.nx]
      rcases Nat.lt_or_ge m (N (k + 1)) with q2 | q2
      · exact absurd ⟨_, hx, .inr ⟨by omega, q2⟩⟩ hw
      · exact q2
  · intro k m hk h1 h2
    obtain ⟨o, x, s1, _, hx, _, hd⟩ := at_ k hk
    exact ⟨x, hx, .inr ⟨h1, h2⟩⟩
  · rintro k m hk ⟨x', hx', hw⟩
    obtain ⟨o, x, s1, _, hx, _, hd⟩ := at_ k hk
    rw [hx] at hx'; cases hx'
    obtain ⟨dr, dw, d1, _, d3, d4⟩ := did k hk o _ s1 hd
    have hup := d1.nx
    rw [hd.nx] at hup
    have hup' : N k ≤ N (k + 1) := hup
    rcases hw with hw | ⟨h1, h2⟩
    · obtain ⟨e1, e2⟩ := (d4 m).1 hw
      exact ⟨by omega, fun _ => ⟨_, hx, (d3 m).2 ⟨d1.sub m e1, e2⟩⟩⟩
    · exact ⟨h2, fun q => by omega⟩
  · intro k o d ho hne
    have hk : k < ops.size := (Array.getElem?_eq_some_iff.1 ho).1
    obtain ⟨o', x, s1, ho', hx, _, hd⟩ := at_ k hk
    rw [ho] at ho'; cases ho'
    obtain ⟨v, hv, _⟩ := aone_congr (u := T k) (fun _ _ => rfl) hd.run
    rcases aput_inv hv with ⟨_, e⟩ | ⟨d', e1, e2, e3⟩
    · rw [e]
    · rw [e3, Tr.get_put' _ _ _ _ (Nat.lt_of_lt_of_le e2 hnt), if_neg (by intro e; subst e; exact hne e1)]
  · rintro i j m hi hj hne hloose ⟨x', hx', hw⟩ ⟨y', hy', hr⟩
    obtain ⟨_, x, s1, _, hx, xi, hd⟩ := at_ i hi
    obtain ⟨_, y, s2, _, hy, yi, he⟩ := at_ j hj
    rw [hx] at hx'; cases hx'
    rw [hy] at hy'; cases hy'
    rcases metOk_mem hm _ (List.mem_of_getElem? hx) with q | q
    · unfold quietM at q
      split at q
      · rename_i hwr
        rcases hw with hw | ⟨h1, h2⟩
        · rw [hwr] at hw; cases hw
        · have := ble_true.1 q
          rw [hd.lo, hd.hi] at this; omega
      · cases q
    · rcases againstAll_mem q _ (List.mem_of_getElem? hy) with e | e | e
      · rw [xi, yi] at e; exact hne e
      · unfold apartM at e
        simp only [Bool.and_eq_true, Bool.not_eq_true'] at e
        rcases hw with hw | ⟨h1, h2⟩
        · exact meets_false e.1 m hw hr
        · exact hasIn_false e.2 m hr ⟨by rw [hd.lo]; exact h1, by rw [hd.hi]; exact h2⟩
      · rw [xi, yi, hloose] at e; cases e
  · intro j o ho h' hag
    have hj : j < ops.size := (Array.getElem?_eq_some_iff.1 ho).1
    obtain ⟨o', x, s1, ho', hx, _, hd⟩ := at_ j hj
    rw [ho] at ho'; cases ho'
    obtain ⟨dr, dw, d1, d2, d3, d4⟩ := did j hj o x s1 hd
    obtain ⟨t1, c1, c2⟩ := d2 (fun m => ∃ x, ms[j]? = some x ∧ m ∈ x.rd) (N j) ⟨h', N j, N j, [], []⟩
      ⟨rfl, rfl, Nat.le_refl _, fun k hk hor => by
        rcases hor with hor | hor
        · exact (hag k (Nat.lt_of_lt_of_le hk (a7 j (by omega))) hor).symm
        · exact absurd hk (Nat.not_lt.2 hor)⟩ (fun q hq hlt => ⟨x, hx, (d3 q).2 ⟨hq, hlt⟩⟩)
    have hnx : t1.nx = N (j + 1) := by rw [← c2.agree.nx, hd.nx]
    refine ⟨t1, c1, hnx, ?_, ?_⟩
    · rintro m ⟨x', hx', hw⟩
      rw [hx] at hx'; cases hx'
      rw [← hd.h]
      have hup := d1.nx
      rw [hd.nx] at hup
      have hup' : N j ≤ N (j + 1) := hup
      symm
      rcases hw with hw | ⟨h1, h2⟩
      · obtain ⟨e1, e2⟩ := (d4 m).1 hw
        exact c2.agree.is m (by rw [hd.nx]; omega) (.inl ⟨x, hx, (d3 m).2 ⟨d1.sub m e1, e2⟩⟩)
      · exact c2.agree.is m (by rw [hd.nx]; exact h2) (.inr h1)
    · intro m hw hmt
      by_cases q : m < N j
      · exact c2.same m q fun e => hw ⟨_, hx, .inl ((d4 m).2 ⟨e, q⟩)⟩
      · refine c2.far m ?_ hmt
        rw [hd.nx]
        rcases Nat.lt_or_ge m (N (j + 1)) with q2 | q2
        · exact absurd ⟨_, hx, .inr ⟨by omega, q2⟩⟩ hw
        · exact q2
end
end Go.Rn

namespace Go.Rn
open Go.RowKit
section
variable {P : Program} {B : Base} {call : Caller} {ops : Array Oper} {nt : Nat} {H : Nat → Tr AObj} {N : Nat → Nat} {T : Nat → Tr AV} {Rd Wr : Nat → Nat → Prop}
def Done (listed : Array Bool) (i : Nat) : Prop := listed.getD i false = true
def Cut (n : Nat) (W : Nat → Prop) (D : Nat → Prop) (c : Nat) : Prop := c ≤ n ∧ ∀ i, i < n → W i → (D i ↔ i < c)
theorem keep_range {α : Type} {f : Nat → α} {n : Nat} {W : Nat → Prop} (hk : ∀ k, k < n → ¬ W k → f (k + 1) = f k) : ∀ (m c : Nat), c + m ≤ n → (∀ i, c ≤ i → i < c + m → ¬ W i) → f (c + m) = f c
  | 0, _, _, _ => rfl
  | m + 1, c, hn, hw => by
    have h1 := hk (c + m) (by omega) (hw (c + m) (by omega) (by omega))
    rw [show c + (m + 1) = c + m + 1 from rfl, h1]
    exact keep_range hk m c (by omega) fun i h1 h2 => hw i h1 (by omega)
theorem cut_same {α : Type} {f : Nat → α} {n : Nat} {W D : Nat → Prop} (hk : ∀ k, k < n → ¬ W k → f (k + 1) = f k) {c c' : Nat} (h : Cut n W D c) (h' : Cut n W D c') : f c = f c' := by
  have key : ∀ {a b : Nat}, Cut n W D a → Cut n W D b → a ≤ b → f b = f a := by
    intro a b ha hb hab
    obtain ⟨m, rfl⟩ : ∃ m, b = a + m := ⟨b - a, by omega⟩
    refine keep_range hk m a hb.1 fun i h1 h2 hw => ?_
    have hin : i < n := Nat.lt_of_lt_of_le h2 hb.1
    have := (ha.2 i hin hw).1 ((hb.2 i hin hw).2 h2)
    omega
  rcases Nat.le_total c c' with q | q
  · exact (key h h' q).symm
  · exact key h' h q
theorem mono_N (x : Text P call ops nt H N T Rd Wr) : ∀ {i j : Nat}, i ≤ j → j ≤ ops.size → N i ≤ N j := by
  intro i j hij hj
  obtain ⟨m, rfl⟩ : ∃ m, j = i + m := ⟨j - i, by omega⟩
  clear hij
  induction m with
  | zero => exact Nat.le_refl _
  | succ m ih => exact Nat.le_trans (ih (by omega)) (x.up (i + m) (by omega))
structure Inv (B : Base) (ops : Array Oper) (nt : Nat) (H : Nat → Tr AObj) (N : Nat → Nat) (T : Nat → Tr AV) (Wr : Nat → Nat → Prop) (ρ₀ : Ren) (w₀ : World) (a₀ : Act) (listed : Array Bool) (a : Act) (w : World) (h : Tr AObj) (t : Tr AV) (ρ : Ren) : Prop where
  rel : Rel B ρ h w
  tr : TR ρ nt t a.tmps
  le : ρ₀.le ρ
  new : ∀ m, ρ m ≠ ρ₀ m → ∃ i, i < ops.size ∧ Done listed i ∧ N i ≤ m ∧ m < N (i + 1)
  heap : ∀ m, m < top → ∃ c, Cut ops.size (fun i => Wr i m) (Done listed) c ∧ h.get m = (H c).get m
  slots : ∀ d, ∃ c, Cut ops.size (fun i => ∃ o, ops[i]? = some o ∧ o.dst = some d) (Done listed) c ∧ t.get d = (T c).get d
  below : Bel B w₀ w
  defers : a.defers = a₀.defers
  closed : ∀ (j : Nat) (o : Oper) (e : Edge), ops[j]? = some o → Done listed j → e ∈ o.after → Region.binds .any e = true → Done listed e.on
theorem done_set {listed : Array Bool} {j : Nat} (hj : j < listed.size) (i : Nat) : Done (listed.setIfInBounds j true) i ↔ i = j ∨ Done listed i := by
  unfold Done
  simp only [Array.getD_eq_getD_getElem?]
  by_cases e : i = j
  · subst e; rw [Array.getElem?_setIfInBounds_self_of_lt hj]; simp
  · rw [Array.getElem?_setIfInBounds_ne (Ne.symm e)]; simp [e]
theorem inv_step (reg : RegOk ops) (x : Text P call ops nt H N T Rd Wr) (hc : CallSim P B call) (hl : ∀ t a, Local (call t a)) (hnt : nt ≤ top) {ρ₀ : Ren} (hg : RenG ρ₀) (hfree : Free (N 0) (N ops.size) ρ₀) {w₀ : World} {a₀ : Act}
    {listed : Array Bool} {a : Act} {w : World} {j : Nat} {o : Oper} (hs : listed.size = ops.size) {h : Tr AObj} {t : Tr AV} {ρ : Ren} (inv : Inv B ops nt H N T Wr ρ₀ w₀ a₀ listed a w h t ρ)
    (ho : ops[j]? = some o) (hj : listed.getD j true = false) (hready : ∀ e ∈ o.after, Region.binds .any e = true → listed.getD e.on false = true) (b : Frame) (k : List Item) (cs : List Frame) (rest : List Nat) :
    ∃ a' w' h' t' ρ', Inv B ops nt H N T Wr ρ₀ w₀ a₀ (listed.setIfInBounds j true) a' w' h' t' ρ' ∧ Steps P (lone (b.atR a (.inRegion ops (j :: rest) :: k)) cs w) (lone (b.atR a' (.inRegion ops rest :: k)) cs w') := by
  have hjn : j < ops.size := (Array.getElem?_eq_some_iff.1 ho).1
  have hnd : ¬ Done listed j := by
    unfold Done
    rw [Array.getD_eq_getD_getElem?, Array.getElem?_eq_getElem (by omega)] at hj ⊢
    simp at hj ⊢; exact hj
  have hbef := before_closed reg.edges (Done listed) inv.closed
  have ordered : ∀ i, i ≠ j → loose (Region.before ops) i j = false → (Done listed i ↔ i < j) := by
    intro i hij hlo
    unfold loose at hlo
    simp only [Bool.not_eq_false', Bool.or_eq_true] at hlo
    rcases hlo with q | q
    · obtain ⟨h1, h2, _⟩ := hbef i i j (Nat.le_refl _) q
      exact ⟨fun hd => absurd (h2 hd) hnd, fun e => by omega⟩
    · obtain ⟨h1, _, h3⟩ := hbef j j i (Nat.le_refl _) q
      exact ⟨fun _ => h1, fun _ => h3 fun o' e ho' hm hb => by rw [ho] at ho'; cases ho'; exact hready e hm hb⟩
  have looseC : ∀ i, loose (Region.before ops) i j = loose (Region.before ops) j i := by
    intro i; unfold loose; rw [Bool.or_comm]
  have cutAt : ∀ (W : Nat → Prop), (∀ i, i < ops.size → W i → i ≠ j → loose (Region.before ops) i j = false) → Cut ops.size W (Done listed) j := by
    intro W hW
    refine ⟨Nat.le_of_lt hjn, fun i hi hw => ?_⟩
    by_cases e : i = j
    · subst e; exact ⟨fun hd => absurd hd hnd, fun q => absurd q (Nat.lt_irrefl _)⟩
    · exact ordered i e (hW i hi hw e)
  have cutNext : ∀ (W : Nat → Prop), (∀ i, i < ops.size → W i → i ≠ j → loose (Region.before ops) i j = false) → Cut ops.size W (Done (listed.setIfInBounds j true)) (j + 1) := by
    intro W hW
    refine ⟨hjn, fun i hi hw => ?_⟩
    rw [done_set (by omega)]
    by_cases e : i = j
    · subst e; exact ⟨fun _ => Nat.lt_succ_self _, fun _ => .inl rfl⟩
    · have := ordered i e (hW i hi hw e)
      constructor
      · rintro (q | q)
        · exact absurd q e
        · have := this.1 q; omega
      · intro q; exact .inr (this.2 (by omega))
  have cutKeep : ∀ (W : Nat → Prop) (c : Nat), ¬ W j → Cut ops.size W (Done listed) c → Cut ops.size W (Done (listed.setIfInBounds j true)) c := by
    intro W c hW hcut
    refine ⟨hcut.1, fun i hi hw => ?_⟩
    rw [done_set (by omega)]
    have hij : i ≠ j := by intro e; subst e; exact hW hw
    rw [← hcut.2 i hi hw]
    exact ⟨fun q => q.resolve_left hij, .inr⟩
  have isLoose : ∀ i m, i < ops.size → i ≠ j → Wr i m → Rd j m → loose (Region.before ops) i j = false := by
    intro i m hi hij hw hr
    cases q : loose (Region.before ops) i j with
    | false => rfl
    | true => exact absurd hr (x.apart i j m hi hjn hij q hw)
  have rdTop : ∀ m, m < N j → m < top := fun m hm => Nat.lt_of_lt_of_le hm (x.top j (by omega))
  have hheap : ∀ m, m < top → Rd j m → h.get m = (H j).get m := by
    intro m hm hr
    obtain ⟨c, hc1, hc2⟩ := inv.heap m hm
    rw [hc2]
    exact cut_same (f := fun c => (H c).get m) (fun k hk hw => x.keep k m hk hw hm) hc1 (cutAt _ fun i hi hw hij => isLoose i m hi hij hw hr)
  have hslot : ∀ d ∈ o.looksAt ops, (T j).get d = t.get d := by
    intro d hd
    obtain ⟨c, hc1, hc2⟩ := inv.slots d
    rw [hc2]
    refine cut_same (f := fun c => (T c).get d) (fun k hk hw => ?_) (cutAt _ ?_) hc1
    · have hok : ops[k]? = some ops[k] := Array.getElem?_eq_getElem hk
      exact x.slot k _ d hok fun e => hw ⟨_, hok, e⟩
    · rintro i hi ⟨y, hy, hyd⟩ hij
      exact reg.slots i j y o d hij hy ho hyd (.inl hd)
  obtain ⟨t1, c1, c2, c3, c4⟩ := x.again j o ho h hheap
  obtain ⟨v, v1, v2⟩ := aone_congr hslot c1
  obtain ⟨u1, hu1⟩ : ∃ u1, aput nt t o.dst v = some u1 := by
    rcases aput_inv v1 with ⟨e, _⟩ | ⟨d, e, hd, _⟩
    · rw [e]; exact ⟨t, rfl⟩
    · rw [e]
      refine ⟨t.put d (some v), ?_⟩
      show @Bool.rec (fun _ => Option (Tr AV)) none (some (t.put d (some v))) (Nat.blt d nt) = _
      rw [rec_blt, if_pos hd]
  have hrun := v2 u1 hu1
  have hNj : N j ≤ N (j + 1) := x.up j hjn
  have hfr : Free (N j) (N (j + 1)) ρ := by
    intro m h1 h2
    have e0 : ρ₀ m = none := hfree m (Nat.le_trans (mono_N x (Nat.zero_le j) (by omega)) h1) (Nat.lt_of_lt_of_le h2 (mono_N x hjn (Nat.le_refl _)))
    by_cases e : ρ m = ρ₀ m
    · rw [e]; exact e0
    · exfalso
      obtain ⟨i, hi, hdi, p1, p2⟩ := inv.new m e
      have hij : i ≠ j := by intro q; subst q; exact hnd hdi
      rcases Nat.lt_or_ge i j with q | q
      · have := mono_N x (show i + 1 ≤ j from q) (by omega); omega
      · have := mono_N x (show j + 1 ≤ i from by omega) (by omega); omega
  have hat : At B ρ ⟨h, N j, N j, [], []⟩ nt t w a := ⟨inv.tr, inv.rel, hg.mono inv.le, hnt, ⟨Nat.le_refl _, x.top j (by omega)⟩⟩
  obtain ⟨σ, a', w', g1, g2, g3, g4, g5⟩ := aone_sim hc hl ho hat (by rw [c2]; exact hfr) hrun b k cs rest
  rw [c2] at g1
  refine ⟨a', w', t1.h, u1, σ, ⟨g2.rel, g2.tr, Ren.le_trans inv.le g1.le, ?_, ?_, ?_, inv.below.trans g4, g3.trans inv.defers, ?_⟩, g5⟩
  · intro m hm
    by_cases e : ρ m = ρ₀ m
    · by_cases q : N j ≤ m ∧ m < N (j + 1)
      · exact ⟨j, hjn, (done_set (by omega) j).2 (.inl rfl), q.1, q.2⟩
      · exact absurd ((g1.out m q).trans e) hm
    · obtain ⟨i, hi, hdi, p⟩ := inv.new m e
      exact ⟨i, hi, (done_set (by omega) i).2 (.inr hdi), p⟩
  · intro m hm
    by_cases q : Wr j m
    · refine ⟨j + 1, cutNext _ (fun i hi hw hij => ?_), c3 m q⟩
      obtain ⟨w1, w2⟩ := x.wrote j m hjn q
      by_cases e : m < N j
      · exact isLoose i m hi hij hw (w2 e)
      · obtain ⟨y1, y2⟩ := x.wrote i m hi hw
        have him : m < N i := by
          rcases Nat.lt_or_ge i j with r | r
          · have := mono_N x (show i + 1 ≤ j from r) (by omega); omega
          · have := mono_N x (show j + 1 ≤ i from by omega) (by omega); omega
        cases hl2 : loose (Region.before ops) i j with
        | false => rfl
        | true =>
          rw [looseC] at hl2
          exact absurd (y2 him) (x.apart j i m hjn hi (Ne.symm hij) hl2 q)
    · obtain ⟨c, hc1, hc2⟩ := inv.heap m hm
      exact ⟨c, cutKeep _ c q hc1, (c4 m q hm).trans hc2⟩
  · intro d
    by_cases q : o.dst = some d
    · refine ⟨j + 1, cutNext _ (fun i hi hw hij => ?_), ?_⟩
      · obtain ⟨y, hy, hyd⟩ := hw
        exact reg.slots i j y o d hij hy ho hyd (.inr q)
      · rcases aput_inv v1 with ⟨e, _⟩ | ⟨d1, e, hd, e3⟩
        · rw [e] at q; cases q
        · rw [q] at e; cases e
          rcases aput_inv hu1 with ⟨e, _⟩ | ⟨d2, e, hd', e4⟩
          · rw [e] at q; cases q
          · rw [q] at e; cases e
            rw [e3, e4, Tr.get_put' _ _ _ _ (Nat.lt_of_lt_of_le hd hnt), Tr.get_put' _ _ _ _ (Nat.lt_of_lt_of_le hd hnt), if_pos rfl, if_pos rfl]
    · obtain ⟨c, hc1, hc2⟩ := inv.slots d
      refine ⟨c, cutKeep _ c (fun hw => ?_) hc1, ?_⟩
      · obtain ⟨y, hy, hyd⟩ := hw
        rw [ho] at hy; cases hy; exact q hyd
      · rw [← hc2]
        rcases aput_inv hu1 with ⟨_, e⟩ | ⟨d2, e, hd', e4⟩
        · rw [e]
        · rw [e4, Tr.get_put' _ _ _ _ (Nat.lt_of_lt_of_le hd' hnt), if_neg (by intro r; subst r; exact q e)]
  · intro j' o' e ho' hd hm hb
    rw [done_set (by omega)] at hd ⊢
    rcases hd with rfl | hd
    · rw [ho] at ho'; cases ho'; exact .inr (hready e hm hb)
    · exact .inr (inv.closed j' o' e ho' hd hm hb)
theorem done_none (n i : Nat) : ¬ Done (Array.replicate n false) i := by
  unfold Done
  rw [Array.getD_eq_getD_getElem?]
  by_cases h : i < n
  · simp [h]
  · simp [h]
theorem regionD_sim (hmix : P.follows .mixedOrders = true) (reg : RegOk ops) (hc : CallSim P B call) (hl : ∀ t a, Local (call t a)) {id : Nat} {t t1 : Tr AV} {s s1 : AS} {ρ : Ren} {a : Act} {w : World} (hat : At B ρ s nt t w a) (hf : Free s.nx s1.nx ρ)
    (h : aregionD P call nt ops t s = .ok t1 s1) (b : Frame) (k : List Item) (cs : List Frame) :
    Goes P B ρ s s1 nt t1 w a (lone (b.atR a (.code (.region id ops true) :: k)) cs w) (fun a' w' => lone (b.atR a' k) cs w') := by
  obtain ⟨⟨t', ms⟩, s', h1, h2⟩ := M.bind_inv (show ((aopsD P call nt ops ops.toList 0 t).bind fun x => withB (metOk (Region.before ops) x.2 x.2) <| M.pure x.1) s = .ok t1 s1 from h)
  obtain ⟨h3, h4⟩ := withB_inv h2
  obtain ⟨rfl, rfl⟩ := pure_inv h4
  obtain ⟨f', H, N, T, Rd, Wr, a1, a2, a3, a4, a5, a6, x⟩ := text_of hl hat.nt hat.fine h1 h3
  have hfree : Free (N 0) (N ops.size) ρ := by rw [a2, a5]; exact hf
  let w1 : World := { w with drawn := w.drawn + 1 }
  have rel1 : Rel B ρ s.h w1 := hat.rel.grew (Grew.drew w)
  have inv0 : Inv B ops nt H N T Wr ρ w a (Array.replicate ops.size false) a w1 s.h t ρ := by
    refine ⟨rel1, hat.tr, Ren.le_refl ρ, fun m hm => absurd rfl hm, fun m _ => ⟨0, ⟨Nat.zero_le _, fun i _ _ => ⟨fun q => absurd q (done_none _ _), fun q => absurd q (Nat.not_lt_zero _)⟩⟩, by rw [a1]⟩,
      fun d => ⟨0, ⟨Nat.zero_le _, fun i _ _ => ⟨fun q => absurd q (done_none _ _), fun q => absurd q (Nat.not_lt_zero _)⟩⟩, by rw [a3]⟩, (Grew.drew w).below hat.rel.size, rfl, fun j o e _ q => absurd q (done_none _ _)⟩
  obtain ⟨l', a', w', z1, z2, ⟨h', t', ρ', inv⟩, z3⟩ := order_run (P := P) reg.edges b k cs (fun listed a2 w2 => ∃ h' t' ρ', Inv B ops nt H N T Wr ρ w a listed a2 w2 h' t' ρ')
    (fun listed a2 w2 i o rest q1 ⟨h', t', ρ', inv⟩ q3 q4 q5 => by
      obtain ⟨a3, w3, h3, t3, ρ3, i3, st⟩ := inv_step reg x hc hl hat.nt hat.g hfree q1 inv q3 q4 q5 b k cs rest
      exact ⟨a3, w3, ⟨h3, t3, ρ3, i3⟩, st⟩)
    ops.size (w.tape w.drawn (.order b.fn id)) (Array.replicate ops.size false) a w1 (by simp) (open_all _) ⟨s.h, t, ρ, inv0⟩
  have all : ∀ (W : Nat → Prop), Cut ops.size W (Done l') ops.size := fun W => ⟨Nat.le_refl _, fun i hi _ => ⟨fun _ => hi, fun _ => z2 i hi⟩⟩
  have hend : ∀ m, m < top → s1.h.get m = h'.get m := by
    intro m hm
    obtain ⟨c, c1, c2⟩ := inv.heap m hm
    rw [c2, ← a4]
    exact cut_same (f := fun c => (H c).get m) (fun k hk hw => x.keep k m hk hw hm) (all _) c1
  have tend : ∀ d, t'.get d = (T ops.size).get d := by
    intro d
    obtain ⟨c, c1, c2⟩ := inv.slots d
    rw [c2]
    refine cut_same (f := fun c => (T c).get d) (fun k hk hw => ?_) c1 (all _)
    have hok : ops[k]? = some ops[k] := Array.getElem?_eq_getElem hk
    exact x.slot k _ d hok fun e => hw ⟨_, hok, e⟩
  refine ⟨ρ', a', w', ⟨inv.le, fun m hm => ?_⟩, ⟨?_, inv.rel.congr hend, hat.g.mono inv.le, hat.nt, f'⟩, inv.defers, inv.below, ?_⟩
  · by_cases e : ρ' m = ρ m
    · exact e
    · exfalso
      obtain ⟨i, hi, _, p1, p2⟩ := inv.new m e
      have q1 := mono_N x (Nat.zero_le i) (by omega)
      have q2 := mono_N x (show i + 1 ≤ ops.size from hi) (Nat.le_refl _)
      exact hm ⟨by omega, by omega⟩
  · rw [← a6]
    exact ⟨inv.tr.1, fun i x hx => inv.tr.2 i x (by rw [tend i]; exact hx)⟩
  · refine .head stepR_region_draw ?_
    simp only [Region.schedule, hmix, Bool.true_or, if_true]
    exact z3
end
end Go.Rn
