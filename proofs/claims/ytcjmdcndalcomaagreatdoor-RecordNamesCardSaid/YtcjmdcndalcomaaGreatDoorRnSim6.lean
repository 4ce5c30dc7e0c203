/- Slices: cut, made, grown, copied. -/
import Derived.Test.YtcjmdcndalcomaaGreatDoorRnSim5
namespace Go.Rn
open Go.RowKit

section
variable {P : Program} {B : Nat} {ρ : Ren} {w : World} {s s1 : AS} {x : AV} {call : Caller} {t : Tr AV} {ev : Operand → Value} {o : Oper}

def OptR (ρ : Ren) : Option AV → Option Value → Prop
  | none, v => v = none
  | some a, v => ∃ u, v = some u ∧ VR ρ a u
theorem opt_sim (he : ∀ x v, opd t x = some v → VR ρ v (ev x)) {y : Option Operand} {a : Option AV} (h : opt (opd t) y = some a) : OptR ρ a (y.map ev) := by
  cases y with
  | none => simp only [opt] at h; injection h with h; subst h; rfl
  | some y =>
    simp only [opt] at h
    cases e : opd t y with
    | none => rw [e] at h; cases h
    | some v => simp only [e] at h; injection h with h; subst h; exact ⟨_, rfl, he y v e⟩

theorem bound_sim {a : AV} {v : Value} {most real n d : Nat} {code : BoundsCode} (ha : VR ρ a v) (h : bound (some a) most d = some n) (hr : most ≤ real) : (Instr.sliceBound v real code).run P w = .ok n w ∧ n ≤ most := by
  unfold bound at h
  cases e : intOf a with
  | none => simp only [e] at h; cases h
  | some i =>
    simp only [e] at h
    obtain ⟨k, _, rfl⟩ := ha.int_inv e
    obtain ⟨rfl, hn⟩ := within_some h
    have hr : (0 : Int) ≤ (n : Int) ∧ (n : Int) ≤ (real : Int) := ⟨by omega, by omega⟩
    refine ⟨?_, by omega⟩
    simp only [Instr.sliceBound, asIntOf, Sem.run_bind, Sem.run_pure, Result.andThen_ok, if_pos hr, Int.toNat_natCast]

theorem bounds_none {b : Bool} {lo hi : Option AV} {lo' hi' : Option Value} {len low real hh l : Nat} (h1 : OptR ρ lo lo') (h2 : OptR ρ hi hi') (hr : low ≤ real) (e1 : bound hi low len = some hh) (e2 : bound lo hh 0 = some l) :
    (Instr.sliceBounds b len real lo' hi' none).run P w = .ok (l, hh, real) w ∧ (hi = none ∧ hh = len ∨ hh ≤ low) ∧ l ≤ hh := by
  have g1 : ∃ c, (match hi', (none : Option Value) with
      | some v, some _ => Instr.sliceBound v real .slice3B
      | some v, none => Instr.sliceBound v real c
      | none, none => pure len
      | none, some _ => stuck "Slice: max without high" : Sem Nat).run P w = .ok hh w ∧ c = (if b then BoundsCode.sliceAcap else .sliceAlen) ∧ (hi = none ∧ hh = len ∨ hh ≤ low) := by
    cases hi with
    | none =>
      simp only [OptR] at h2; subst h2
      simp only [bound] at e1; injection e1 with e1; subst e1
      exact ⟨_, rfl, rfl, .inl ⟨rfl, rfl⟩⟩
    | some a =>
      obtain ⟨u, rfl, hu⟩ := h2
      obtain ⟨a1, a2⟩ := bound_sim (P := P) (w := w) (code := if b then BoundsCode.sliceAcap else .sliceAlen) hu e1 hr
      exact ⟨_, a1, rfl, .inr a2⟩
  obtain ⟨c, g1, rfl, g2⟩ := g1
  have g3 : (match lo' with
      | some v => Instr.sliceBound v hh (if (none : Option Value).isSome then BoundsCode.slice3C else .sliceB)
      | none => pure 0 : Sem Nat).run P w = .ok l w ∧ l ≤ hh := by
    cases lo with
    | none =>
      simp only [OptR] at h1; subst h1
      simp only [bound] at e2; injection e2 with e2; subst e2
      exact ⟨rfl, Nat.zero_le _⟩
    | some a =>
      obtain ⟨u, rfl, hu⟩ := h1
      exact bound_sim (P := P) (w := w) hu e2 (Nat.le_refl _)
  refine ⟨?_, g2, g3.2⟩
  cases hi' <;> cases lo' <;> simp_all [Instr.sliceBounds]

theorem bounds_some {b : Bool} {lo : Option AV} {lo' hi' mx' : Option Value} {len low real hh l m : Nat} {a c : AV} (h1 : OptR ρ lo lo') (h2 : OptR ρ (some a) hi') (h3 : OptR ρ (some c) mx') (hr : low ≤ real)
    (e0 : bound (some c) low 0 = some m) (e1 : bound (some a) m 0 = some hh) (e2 : bound lo hh 0 = some l) :
    (Instr.sliceBounds b len real lo' hi' mx').run P w = .ok (l, hh, m) w ∧ l ≤ hh ∧ hh ≤ m ∧ m ≤ low := by
  obtain ⟨u, rfl, hu⟩ := h2
  obtain ⟨v, rfl, hv⟩ := h3
  have q0 := fun code => bound_sim (P := P) (w := w) (code := code) hv e0 hr
  have q1 := fun code => bound_sim (P := P) (w := w) (code := code) hu e1 (Nat.le_refl _)
  cases lo with
  | none =>
    simp only [OptR] at h1; subst h1
    simp only [bound] at e2; injection e2 with e2; subst e2
    refine ⟨?_, Nat.zero_le _, (q1 .slice3B).2, (q0 .slice3B).2⟩
    simp [Instr.sliceBounds, (q0 _).1, (q1 _).1]
  | some y =>
    obtain ⟨z, rfl, hz⟩ := h1
    have q2 := fun code => bound_sim (P := P) (w := w) (code := code) hz e2 (Nat.le_refl _)
    refine ⟨?_, (q2 .slice3B).2, (q1 .slice3B).2, (q0 .slice3B).2⟩
    simp [Instr.sliceBounds, (q0 _).1, (q1 _).1, (q2 _).1]

theorem sliceAt_slice {ty e : TypeId} {v : Value} {lo hi mx : Option Value} (h : P.underlying ty = some (.slice e)) : (Instr.sliceAt ty v lo hi mx).run P w = (Instr.slice ty v lo hi mx).run P w := by
  simp [Instr.sliceAt, run_underlying_of h]
theorem sliceAt_string {ty : TypeId} {v : Value} {lo hi mx : Option Value} (h : P.underlying ty = some .string) : (Instr.sliceAt ty v lo hi mx).run P w = (Instr.slice ty v lo hi mx).run P w := by
  simp [Instr.sliceAt, run_underlying_of h]

theorem sliceOf_sim {ty : TypeId} {a : AV} {v : Value} {lo hi mx : Option AV} {lo' hi' mx' : Option Value} (ha : VR ρ a v) (h1 : OptR ρ lo lo') (h2 : OptR ρ hi hi') (h3 : OptR ρ mx mx') (h : sliceOf P ty a lo hi mx = some x) :
    ∃ q, (Instr.sliceAt ty v lo' hi' mx').run P w = .ok q w ∧ VR ρ x q := by
  unfold sliceOf at h
  split at h <;> first | (cases h; done) | skip
  · -- a text
    rename_i st e1
    simp only [VR] at ha; subst ha
    cases mx with
    | some _ => cases h
    | none =>
      simp only [OptR] at h3; subst h3
      simp only [] at h
      cases e2 : bound hi st.size st.size with
      | none => simp only [e2] at h; cases h
      | some hh =>
        simp only [e2] at h
        cases e3 : bound lo hh 0 with
        | none => simp only [e3] at h; cases h
        | some l =>
          simp only [e3] at h; injection h with h; subst h
          obtain ⟨g1, g2, g3⟩ := bounds_none (P := P) (w := w) (b := false) h1 h2 (Nat.le_refl _) e2 e3
          refine ⟨.string (st.extract l hh), ?_, by simp [VR]⟩
          rw [sliceAt_string e1]
          simp [Instr.slice, run_underlying_of e1, g1]
  · -- a slice
    rename_i e p len cap e1
    cases ek : sizeT P e with
    | none => simp only [ek] at h; cases h
    | some k =>
      simp only [ek] at h
      rw [sliceAt_slice e1]
      -- what the value is
      have hv : ∃ q real, v = .slice q len real ∧ capLow len cap ≤ real ∧ len ≤ real ∨ ∃ q real, v = .slice q len real ∧ cap = .known real := by
        cases p with
        | none => obtain ⟨rfl, rfl, rfl⟩ := slice_none ha; exact ⟨none, 0, .inr ⟨none, 0, rfl, rfl⟩⟩
        | some p =>
          obtain ⟨n, i⟩ := p
          cases cap with
          | known c => simp only [VR] at ha; obtain ⟨b, N, _, rfl⟩ := ha; exact ⟨none, 0, .inr ⟨_, c, rfl, rfl⟩⟩
          | atLeast b0 e0 => simp only [VR] at ha; obtain ⟨b, N, c, _, rfl, h5, h6, _⟩ := ha; exact ⟨_, c, .inl ⟨rfl, h5, h6⟩⟩
          | lost => simp only [VR] at ha; obtain ⟨rfl, b, N, _, c, _, rfl⟩ := ha; exact ⟨_, c, .inl ⟨rfl, by simp [capLow], Nat.zero_le _⟩⟩
      clear hv
      cases mx with
      | some mx =>
        simp only [] at h
        have hl : cap ≠ .lost := by intro e2; subst e2; cases h
        have h' : slice3 k p (capLow len cap) lo hi mx = some x := by
          cases cap <;> first | exact h | exact absurd rfl hl
        clear h
        unfold slice3 at h'
        cases e2 : bound (some mx) (capLow len cap) 0 with
        | none => simp only [e2] at h'; cases h'
        | some m =>
          simp only [e2] at h'
          cases hi with
          | none => cases h'
          | some hi =>
            simp only [] at h'
            cases e3 : bound (some hi) m 0 with
            | none => simp only [e3] at h'; cases h'
            | some hh =>
              simp only [e3] at h'
              cases e4 : bound lo hh 0 with
              | none => simp only [e4] at h'; cases h'
              | some l =>
                simp only [e4] at h'
                cases p with
                | none =>
                  obtain ⟨rfl, rfl, rfl⟩ := slice_none ha
                  simp only [] at h'; injection h' with h'; subst h'
                  obtain ⟨g1, g2, g3, g4⟩ := bounds_some (P := P) (w := w) (b := true) (len := 0) (real := 0) h1 h2 h3 (Nat.le_refl _) e2 e3 e4
                  have g4' : m ≤ 0 := g4
                  refine ⟨.slice none 0 0, ?_, ?_⟩
                  · have z1 : m = 0 := by omega
                    have z2 : hh = 0 := by omega
                    have z3 : l = 0 := by omega
                    subst z1; subst z2; subst z3
                    simp [Instr.slice, run_underlying_of e1, g1, run_size_of ek]
                  · have z1 : hh - l = 0 := by omega
                    have z2 : m - l = 0 := by omega
                    rw [z1, z2]; simp [VR]
                | some p =>
                  obtain ⟨n, i⟩ := p
                  simp only [] at h'
                  have hv : ∃ b N real, ρ n = some (b, N) ∧ v = .slice (some ⟨b, i, none⟩) len real ∧ capLow len cap ≤ real := by
                    cases cap with
                    | known c => simp only [VR] at ha; obtain ⟨b, N, e5, rfl⟩ := ha; exact ⟨b, N, c, e5, rfl, by simp [capLow]⟩
                    | atLeast b0 e0 => simp only [VR] at ha; obtain ⟨b, N, c, e5, rfl, h5, h6, _⟩ := ha; exact ⟨b, N, c, e5, rfl, h5⟩
                    | lost => exact absurd rfl hl
                  obtain ⟨b, N, real, e5, rfl, hreal⟩ := hv
                  obtain ⟨g1, g2, g3, g4⟩ := bounds_some (P := P) (w := w) (b := true) (len := len) h1 h2 h3 hreal e2 e3 e4
                  cases e6 : Nat.beq m l with
                  | true =>
                    simp only [e6] at h'; injection h' with h'; subst h'
                    have hml := beqN_true.1 e6
                    refine ⟨.slice (some ⟨b, i, none⟩) (hh - l) (m - l), ?_, by simp only [VR]; exact ⟨b, N, e5, rfl⟩⟩
                    subst hml; simp [Instr.slice, run_underlying_of e1, g1, run_size_of ek]
                  | false =>
                    simp only [e6] at h'; injection h' with h'; subst h'
                    have hne : ¬ m = l := by rw [← beq_eq, e6]; simp
                    refine ⟨.slice (some ⟨b, i + l * k, none⟩) (hh - l) (m - l), ?_, by simp only [VR]; exact ⟨b, N, e5, rfl⟩⟩
                    simp [Instr.slice, run_underlying_of e1, g1, run_size_of ek, hne, Addr.add_flat]
      | none =>
        simp only [OptR] at h3; subst h3
        simp only [] at h
        cases e3 : bound hi (capLow len cap) len with
        | none => simp only [e3] at h; cases h
        | some hh =>
          simp only [e3] at h
          cases e4 : bound lo hh 0 with
          | none => simp only [e4] at h; cases h
          | some l =>
            simp only [e4] at h
            cases p with
            | none =>
              obtain ⟨rfl, rfl, rfl⟩ := slice_none ha
              simp only [] at h; injection h with h; subst h
              obtain ⟨g1, g2, g3⟩ := bounds_none (P := P) (w := w) (b := true) (len := 0) (real := 0) h1 h2 (Nat.le_refl _) e3 e4
              have z1 : hh = 0 := by rcases g2 with ⟨_, e⟩ | e <;> omega
              have z2 : l = 0 := by omega
              subst z1; subst z2
              refine ⟨.slice none 0 0, ?_, by simp [VR]⟩
              simp [Instr.slice, run_underlying_of e1, g1, run_size_of ek]
            | some p =>
              obtain ⟨n, i⟩ := p
              cases cap with
              | known c =>
                simp only [] at h
                simp only [VR] at ha; obtain ⟨b, N, e5, rfl⟩ := ha
                obtain ⟨g1, g2, g3⟩ := bounds_none (P := P) (w := w) (b := true) (len := len) (real := c) h1 h2 (by simp [capLow]) e3 e4
                cases e6 : Nat.beq c l with
                | true =>
                  simp only [e6] at h; injection h with h; subst h
                  have hml := beqN_true.1 e6
                  refine ⟨.slice (some ⟨b, i, none⟩) (hh - l) (c - l), ?_, by simp only [VR]; exact ⟨b, N, e5, rfl⟩⟩
                  subst hml; simp [Instr.slice, run_underlying_of e1, g1, run_size_of ek]
                | false =>
                  simp only [e6] at h; injection h with h; subst h
                  have hne : ¬ c = l := by rw [← beq_eq, e6]; simp
                  refine ⟨.slice (some ⟨b, i + l * k, none⟩) (hh - l) (c - l), ?_, by simp only [VR]; exact ⟨b, N, e5, rfl⟩⟩
                  simp [Instr.slice, run_underlying_of e1, g1, run_size_of ek, hne, Addr.add_flat]
              | atLeast b0 e0 =>
                simp only [] at h
                simp only [VR] at ha; obtain ⟨b, N, c, e5, rfl, h5, h6, h7⟩ := ha
                obtain ⟨g1, g2, g3⟩ := bounds_none (P := P) (w := w) (b := true) (len := len) (real := c) h1 h2 h5 e3 e4
                have hhc : hh ≤ c := by
                  rcases g2 with ⟨_, e⟩ | e
                  · omega
                  · have e' : hh ≤ b0 := e
                    omega
                cases e6 : Nat.beq l 0 with
                | true =>
                  simp only [e6] at h; injection h with h; subst h
                  have hml := beqN_true.1 e6
                  refine ⟨.slice (some ⟨b, i, none⟩) (hh - l) (c - 0), ?_, ?_⟩
                  · subst hml; by_cases q : c = 0
                    · subst q; simp [Instr.slice, run_underlying_of e1, g1, run_size_of ek]
                    · simp [Instr.slice, run_underlying_of e1, g1, run_size_of ek, q, Addr.add_flat]
                  · simp only [VR]; exact ⟨b, N, c, e5, rfl, h5, by omega, h7⟩
                | false =>
                  simp only [e6] at h
                  cases e7 : (Nat.beq e0 k && Nat.blt l b0) with
                  | true =>
                    simp only [e7] at h; injection h with h; subst h
                    obtain ⟨q1, q2⟩ := and_true.1 e7
                    have q1 := beqN_true.1 q1; subst q1
                    rw [blt_eq] at q2
                    have hne : ¬ c = l := by omega
                    refine ⟨.slice (some ⟨b, i + l * e0, none⟩) (hh - l) (c - l), ?_, ?_⟩
                    · simp [Instr.slice, run_underlying_of e1, g1, run_size_of ek, hne, Addr.add_flat]
                    · simp only [VR]
                      refine ⟨b, N, c - l, e5, rfl, by omega, by omega, ?_⟩
                      have : l * e0 + (c - l) * e0 = c * e0 := by rw [← Nat.add_mul]; congr 1; omega
                      omega
                  | false =>
                    simp only [e7] at h
                    cases e8 : Nat.beq (hh - l) 0 with
                    | false => simp only [e8] at h; cases h
                    | true =>
                      simp only [e8] at h; injection h with h; subst h
                      have z := beqN_true.1 e8
                      by_cases q : c = l
                      · refine ⟨.slice (some ⟨b, i, none⟩) (hh - l) (c - l), ?_, ?_⟩
                        · subst q; simp [Instr.slice, run_underlying_of e1, g1, run_size_of ek]
                        · simp only [VR]; rw [z]; exact ⟨by first | rfl | trivial, b, N, _, _, e5, rfl⟩
                      · refine ⟨.slice (some ⟨b, i + l * k, none⟩) (hh - l) (c - l), ?_, ?_⟩
                        · simp [Instr.slice, run_underlying_of e1, g1, run_size_of ek, q, Addr.add_flat]
                        · simp only [VR]; rw [z]; exact ⟨by first | rfl | trivial, b, N, _, _, e5, rfl⟩
              | lost =>
                simp only [] at h
                simp only [VR] at ha; obtain ⟨rfl, b, N, j, c, e5, rfl⟩ := ha
                obtain ⟨g1, g2, g3⟩ := bounds_none (P := P) (w := w) (b := true) (len := 0) (real := c) h1 h2 (by simp [capLow]) e3 e4
                cases e6 : Nat.beq hh 0 with
                | false => simp only [e6] at h; cases h
                | true =>
                  simp only [e6] at h; injection h with h; subst h
                  have z := beqN_true.1 e6; subst z
                  have z : l = 0 := by omega
                  subst z
                  refine ⟨.slice (some ⟨b, j, none⟩) 0 c, ?_, ?_⟩
                  · by_cases q : c = 0
                    · subst q; simp [Instr.slice, run_underlying_of e1, g1, run_size_of ek]
                    · simp [Instr.slice, run_underlying_of e1, g1, run_size_of ek, q, Addr.add_flat]
                  · simp only [VR]; exact ⟨trivial, b, N, _, _, e5, rfl⟩
  · -- an array, by its address
    rename_i len e n i e1
    cases ek : sizeT P e with
    | none => simp only [ek] at h; cases h
    | some k =>
      simp only [ek] at h
      cases mx with
      | some _ => cases h
      | none =>
        simp only [OptR] at h3; subst h3
        simp only [] at h
        cases e2 : bound hi len len with
        | none => simp only [e2] at h; cases h
        | some hh =>
          simp only [e2] at h
          cases e3 : bound lo hh 0 with
          | none => simp only [e3] at h; cases h
          | some l =>
            simp only [e3] at h
            simp only [VR] at ha; obtain ⟨b, N, e5, rfl⟩ := ha
            obtain ⟨g1, g2, g3⟩ := bounds_none (P := P) (w := w) (b := false) h1 h2 (Nat.le_refl _) e2 e3
            cases e6 : Nat.beq len l with
            | true =>
              simp only [e6] at h; injection h with h; subst h
              have hml := beqN_true.1 e6
              refine ⟨.slice (some ⟨b, i, none⟩) (hh - l) (len - l), ?_, by simp only [VR]; exact ⟨b, N, e5, rfl⟩⟩
              subst hml; simp [Instr.sliceAt, run_underlying_of e1, Instr.sureAddr, g1, run_size_of ek]
            | false =>
              simp only [e6] at h; injection h with h; subst h
              have hne : ¬ len = l := by rw [← beq_eq, e6]; simp
              refine ⟨.slice (some ⟨b, i + l * k, none⟩) (hh - l) (len - l), ?_, by simp only [VR]; exact ⟨b, N, e5, rfl⟩⟩
              simp [Instr.sliceAt, run_underlying_of e1, Instr.sureAddr, g1, run_size_of ek, hne, Addr.add_flat]

theorem sim_kSlice {ty : TypeId} {y : Operand} {lo hi mx : Option Operand} (he : ∀ x v, opd t x = some v → VR ρ v (ev x)) (r : Rel B ρ s.h w) (h : kSlice P ty y lo hi mx call t s = .ok x s1) (ho : o.op = .slice ty y lo hi mx) : SimOp P B ρ s s1 w x (execOp ev o) := by
  unfold kSlice at h
  obtain ⟨a, h1, h2⟩ := withO_inv h
  obtain ⟨lo', h3, h4⟩ := withO_inv h2
  obtain ⟨hi', h5, h6⟩ := withO_inv h4
  obtain ⟨mx', h7, h8⟩ := withO_inv h6
  obtain ⟨h9, rfl⟩ := lift_inv h8
  obtain ⟨q, g1, g2⟩ := sliceOf_sim (P := P) (w := w) (he y a h1) (opt_sim he h3) (opt_sim he h5) (opt_sim he h7) h9
  exact ⟨ρ, w, .value q, Ext.refl _ _ _, by simp [execOp, ho, g1], g2, r, Below.refl _ _⟩
end
end Go.Rn
