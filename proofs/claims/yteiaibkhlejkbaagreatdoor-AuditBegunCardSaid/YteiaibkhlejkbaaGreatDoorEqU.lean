import Derived.Test.YteiaibkhlejkbaaGreatDoorEqT
open Go Go.Rn Go.RowKit Go.Proofs
set_option maxRecDepth 100000
namespace EqT
open ComT
noncomputable def rsE : List ResultVar := [.tmp 4]
section
variable {B : Base} {sp : Sp} {F : Nat → Option (List AV)} {dn : Nat} {a b : AV} {la lb : List Cm} [DecidableEq Cm]
theorem loopE (hc : CallSim Tryz.prog B (arunI Tryz.prog sp F dn)) (hl : ∀ t a, Local (arunI Tryz.prog sp F dn t a)) (ha : SlT F a 3 encCm la) (hb : SlT F b 3 encCm lb) (hll : la.length = lb.length) (hmx : la.length ≤ 140737488355328) (n : Nat) :
    ∀ i : Nat, la.length - i = n → i ≤ la.length → la.take i = lb.take i →
    Sim Tryz.prog B 256 (Fin Tryz.prog rsE fun x s => x = .bool (decide (la = lb)) ∧ s = stOf [] 256) ⟨10, (trOf [(0, a), (1, b), (12, (.int .i64 (((la.length : Nat) : Int)))), (13, (.int .i64 ((i : Int))))]), 26, [.code (cAt Tryz.prog 10 [1, 1, 0, 1, 0, 0]), .inLoop (cAt Tryz.prog 10 [1, 1, 0, 1, 0, 0]), .inBlock 0, .code (cAt Tryz.prog 10 [1, 1, 1])], [], none⟩ (stOf [] 256) := by
  induction n using Nat.strongRecOn with
  | _ n ih =>
    intro i hn hi ht
    by_cases hlt : i < la.length
    · have hx : la[((i : Int)).toNat]? = some (la[i]'hlt) := by simp [hlt]
      have hy : lb[((i : Int)).toNat]? = some (lb[i]'(hll ▸ hlt)) := by simp [hll ▸ hlt]
      by_cases hxy : la[i]'hlt = lb[i]'(hll ▸ hlt)
      · refine r1 hc hl ha hb (by omega) (by omega) hx (by omega) hy hxy (wrap_i64 (by omega) (by omega)) ?_
        refine Sim.moves hmix hc hl (K1 := [.code (cAt Tryz.prog 10 [1, 1, 0, 1, 0, 0]), .inLoop (cAt Tryz.prog 10 [1, 1, 0, 1, 0, 0]), .inBlock 0, .code (cAt Tryz.prog 10 [1, 1, 1])]) 1 (by as_aux_lemma => kernel_rfl) (ble_true.1 (by as_aux_lemma => kernel_rfl)) ?_
        rw [show ((i : Int) + 1) = ((i + 1 : Nat) : Int) from by omega]
        refine ih (la.length - (i + 1)) (by omega) (i + 1) rfl (by omega) ?_
        rw [List.take_succ_eq_append_getElem hlt, List.take_succ_eq_append_getElem (hll ▸ hlt), ht, hxy]
      · refine r0 hc hl ha hb (by omega) (by omega) hx (by omega) hy hxy ?_
        refine ⟨.bool false, stOf [] 256, by as_aux_lemma => kernel_rfl, ?_, rfl⟩
        have : la ≠ lb := by
          intro e
          apply hxy
          subst e; rfl
        simp [this]
    · refine r2 hc hl ha hb (by omega) ?_
      refine ⟨.bool true, stOf [] 256, by as_aux_lemma => kernel_rfl, ?_, rfl⟩
      have hi' : i = la.length := by omega
      subst hi'
      rw [List.take_length, hll, List.take_length] at ht
      simp [ht]
theorem equal_sim (hc : CallSim Tryz.prog B (arunI Tryz.prog sp F dn)) (hl : ∀ t a, Local (arunI Tryz.prog sp F dn t a)) (ha : SlT F a 3 encCm la) (hb : SlT F b 3 encCm lb) (hmx : la.length ≤ 140737488355328) :
    Sim Tryz.prog B 256 (Fin Tryz.prog rsE fun x s => x = .bool (decide (la = lb)) ∧ s = stOf [] 256) ⟨10, (trOf [(0, a), (1, b)]), 26, [.code (cAt Tryz.prog 10 [])], [], none⟩ (stOf [] 256) := by
  by_cases h : la.length = lb.length
  · refine q1 hc hl ha hb (by omega) ?_
    refine Sim.moves hmix hc hl (K1 := [.code (cAt Tryz.prog 10 [1, 1, 0, 1, 0, 0]), .inLoop (cAt Tryz.prog 10 [1, 1, 0, 1, 0, 0]), .inBlock 0, .code (cAt Tryz.prog 10 [1, 1, 1])]) 1 (by as_aux_lemma => kernel_rfl) (ble_true.1 (by as_aux_lemma => kernel_rfl)) ?_
    exact loopE hc hl ha hb h hmx _ 0 rfl (Nat.zero_le _) rfl
  · refine q0 hc hl ha hb (by omega) ?_
    refine ⟨.bool false, stOf [] 256, by as_aux_lemma => kernel_rfl, ?_, rfl⟩
    have : la ≠ lb := by intro e; subst e; exact h rfl
    simp [this]
end
end EqT
