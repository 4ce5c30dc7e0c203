import Derived.Test.YteiaibkhlejkbaaGreatDoorBegT
open Go Go.Rn Go.RowKit Go.Proofs
set_option maxRecDepth 100000
namespace BegT
open ComT
noncomputable def rsB : List ResultVar := [.tmp 4]
section
variable {B : Base} {sp : Sp} {F : Nat → Option (List AV)} {dn : Nat} {a b : AV} {la lb : List Cm} [DecidableEq Cm]
theorem begins_sim (hc : CallSim Tryz.prog B (arunI Tryz.prog sp F dn)) (hl : ∀ t a, Local (arunI Tryz.prog sp F dn t a)) (hE : ∀ {x y : AV} {l m : List Cm}, SlT F x 3 encCm l → SlT F y 3 encCm m → l.length ≤ 140737488355328 → ∀ s, arunI Tryz.prog sp F dn (.fn 10) [x, y] s = .ok (.bool (decide (l = m))) s)
    (ha : SlT F a 3 encCm la) (hb : SlT F b 3 encCm lb) (hmx : la.length ≤ 140737488355328) :
    Sim Tryz.prog B 256 (Fin Tryz.prog rsB fun x s => x = .bool (decide (la <+: lb)) ∧ s = stOf [] 256) ⟨6, (trOf [(0, a), (1, b)]), 18, [.code (cAt Tryz.prog 6 [])], [], none⟩ (stOf [] 256) := by
  have hpre : la <+: lb ↔ la = lb.take la.length := List.prefix_iff_eq_take
  by_cases h : la.length ≤ lb.length
  · refine g0 hc hl hE ha hb hmx (by omega) h ⟨.bool (decide (la = lb.take la.length)), stOf [] 256, by as_aux_lemma => kernel_rfl, ?_, rfl⟩
    simp only [hpre]
  · refine g1 hc hl hE ha hb hmx (by omega) ⟨.bool false, stOf [] 256, by as_aux_lemma => kernel_rfl, ?_, rfl⟩
    have : ¬ la <+: lb := fun q => h q.length_le
    simp only [this, decide_false]
end
end BegT
