/- What is known of functions, as tables; leaves of May. -/
import Derived.Test.YtadcegpdegpnmaaGreatDoorDtS
import Derived.Test.YtadcegpdegpnmaaGreatDoorRnOpenD
open Go Go.Rn Go.RowKit Go.Proofs
set_option maxRecDepth 100000
namespace DtV
open DtP DtS Go.Proofs.YtadcegpdegpnmaaGreatDoor.divergeTexts
noncomputable section
def tab0 := tabUp (tabUp (fun _ => none) 36 fmtL) 39 bareL
def tabI := tabUp (tabUp (tabUp (tabUp tab0 21 itoaL) 9 itoaL) 23 fmtL) 37 withinL
def tabA := tabUp tabI 22 mayL
def tabB := tabUp tabA 10 showL
def tabI2 := tabUp tabI 38 knL
def tabB2 := tabUp tabB 27 nameL
def tabC := tabUp tabB 25 mayL
def tabD := tabUp tabC 26 itoaL
def env (sp : Sp) (tab : FuncId → Option (List AV → Option AV)) (F : Nat → Option (List AV)) : Env := ⟨Tryz.prog, sp, F, tab, fun g => Nat.beq g 24, chkB nx0 heap1 known1, chkS nx0 heap1 known1⟩
end
theorem env_ok {sp : Sp} {tab : FuncId → Option (List AV → Option AV)} (h : TabOk K1 sp tab) {F : Nat → Option (List AV)} (hj : sp 24 = some (fun _ args => joinStrs args) := by as_aux_lemma => kernel_rfl) : (env sp tab F).Ok :=
  ⟨fun g _ _ _ _ _ e hv hk => k1_says (h g _ e) hv hk, fun g e => by rw [Nat.eq_of_beq_eq_true e]; exact hj⟩
theorem ok0 : TabOk K1 sp0 tab0 := ((TabOk.nil.up 36 fmtL).other 24 _ rfl).up 39 bareL
theorem okI : TabOk K1 spI tabI := (((ok0.up 21 itoaL).up 9 itoaL).up 23 fmtL).up 37 withinL
theorem okA : TabOk K1 spA tabA := okI.up 22 mayL
theorem okB : TabOk K1 spB tabB := okA.up 10 showL
theorem okI2 : TabOk K1 spI2 tabI2 := okI.up 38 knL
theorem okB2 : TabOk K1 spB2 tabB2 := okB.up 27 nameL
theorem okC : TabOk K1 spC tabC := okB.up 25 mayL
theorem okD : TabOk K1 spD tabD := okC.up 26 itoaL
theorem withinL_p (n a b : Int) : withinL [.int .i64 n, .int .i64 a, .int .i64 b] = some (.bool (decide (a ≤ n ∧ n ≤ b))) := rfl
theorem knL_p (k : Int) : knL [.int .u8 k] = some (.bool (decide (1 ≤ k ∧ k ≤ 13))) := rfl
theorem mT (k th tx at_ v x why : Int) (h : 1 ≤ k ∧ k ≤ 13 ∧ (k ≠ 10 ∨ (1 ≤ why ∧ why ≤ 6)) ∧ 0 ≤ th ∧ th ≤ 5 ∧ 0 ≤ tx ∧ tx ≤ 5 ∧ 0 ≤ v ∧ v ≤ 1099511627776 ∧ (k ≠ 5 ∨ 1 ≤ v) ∧ 0 ≤ at_ ∧ at_ ≤ 31 ∧ (k ≠ 10 ∨ why ≠ 6 ∨ at_ ≤ 0) ∧
  (k = 1 ∨ tx = 0) ∧ ((k ≠ 1 ∧ k ≠ 5 ∧ k ≠ 7 ∧ k ≠ 12 ∧ k ≠ 13) ∨ at_ = 0) ∧ (k = 1 ∨ k = 2 ∨ k = 5 ∨ k = 7 ∨ v = 0) ∧ (k = 3 ∨ k = 8 ∨ x = 0) ∧ (k = 10 ∨ why = 0)) : AV.bool true = AV.bool (decide (MayE ⟨k, th, tx, at_, v, x, why⟩)) := (congrArg AV.bool (decide_eq_true h)).symm
theorem mF (k th tx at_ v x why : Int) (h : ¬ (1 ≤ k ∧ k ≤ 13 ∧ (k ≠ 10 ∨ (1 ≤ why ∧ why ≤ 6)) ∧ 0 ≤ th ∧ th ≤ 5 ∧ 0 ≤ tx ∧ tx ≤ 5 ∧ 0 ≤ v ∧ v ≤ 1099511627776 ∧ (k ≠ 5 ∨ 1 ≤ v) ∧ 0 ≤ at_ ∧ at_ ≤ 31 ∧ (k ≠ 10 ∨ why ≠ 6 ∨ at_ ≤ 0) ∧
  (k = 1 ∨ tx = 0) ∧ ((k ≠ 1 ∧ k ≠ 5 ∧ k ≠ 7 ∧ k ≠ 12 ∧ k ≠ 13) ∨ at_ = 0) ∧ (k = 1 ∨ k = 2 ∨ k = 5 ∨ k = 7 ∨ v = 0) ∧ (k = 3 ∨ k = 8 ∨ x = 0) ∧ (k = 10 ∨ why = 0))) : AV.bool false = AV.bool (decide (MayE ⟨k, th, tx, at_, v, x, why⟩)) := (congrArg AV.bool (decide_eq_false h)).symm
end DtV
