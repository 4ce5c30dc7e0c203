/-
  Proved here: the function of the closed statement attemptNames, called in any world in which the listed variables are what the statement says, returns true, and leaves what was there as it was.
  Conditions: those that the given statement names, and no others.
-/
import Derived.Test.YtfgamllkaonamaaGreatDoorSeg1
import Derived.Test.YtfgamllkaonamaaGreatDoorRnSegA
import Derived.LaidHandle
namespace Go.Proofs.YtfgamllkaonamaaGreatDoor.attemptNames
open Go.RowKit Go.Rn
set_option maxRecDepth 100000

theorem sound : progB Tryz.prog = true := by kernel_rfl
theorem mixed : Tryz.prog.follows .mixedOrders = true := by kernel_rfl
theorem progOk : ProgOk Tryz.prog := progOk_of mixed sound
theorem way_ne3 (f : FuncId) : way f ≠ 3 := by
  intro h
  unfold way at h
  revert h
  cases Nat.beq f 59 <;> cases Nat.beq f 90 <;> cases Nat.beq f 115 <;> (intro h; exact absurd h (by decide))
theorem way_two (f : FuncId) (h : way f = 2) : f = 115 := by
  cases q : Nat.beq f 115 with
  | true => exact Nat.eq_of_beq_eq_true q
  | false =>
    exfalso
    unfold way at h
    rw [q] at h
    revert h
    cases Nat.beq f 59 <;> cases Nat.beq f 90 <;> (intro h; exact absurd h (by decide))
theorem clone_is : IsClone Tryz.prog 115 := ⟨Tryz.f115, Tryz.func115, by kernel_rfl, by kernel_rfl, by kernel_rfl, by kernel_rfl⟩
theorem ways (B : Nat) : WaysOk Tryz.prog B way := waysOk progOk way_ne3 fun f h => by rw [way_two f h]; exact clone_is
theorem ends : ∃ fr j s2 s3, Leads Tryz.prog (arun Tryz.prog way 60) fr0 st0 (.leave fr j) s2 ∧ finish Tryz.prog Tryz.f3.results.toList fr j s2 = .ok (.bool true) s3 := by
  obtain ⟨fr, j, s2, s3, h1, h2⟩ := valueOf_inv (isTrue_inv segLast)
  exact ⟨fr, j, s2, s3, .one h1, h2⟩
theorem known (W : World) (hL : laidMetH Tryz.prog Rows.attemptNamesRow.laid W) : Known W heap0 := by
  have hfa := hL.funcs (List.mem_singleton.2 rfl)
  obtain ⟨c, ty, z, h1, h2, h3⟩ := table_cells (g := 0) (t := 187) (e := 186) (n := 9) (ps := #[2, 2]) (rs := #[2]) (va := false) (fs := table0) hfa (by kernel_rfl) (by kernel_rfl) (by kernel_rfl) (by kernel_rfl) (by kernel_rfl) (by kernel_rfl)
  exact known_table (by unfold globs; decide) (by unfold top; decide) h1 h2 h3
theorem body_is : Tryz.f3.body = some body := by kernel_rfl
theorem walk (W : World) (hL : laidMetH Tryz.prog Rows.attemptNamesRow.laid W) : Calls Tryz.prog 3 #[] W fun e w' => e = .returned (.bool true) ∧ Below W.heap.size W w' := by
  obtain ⟨fr, j, s2, s3, h1, h2⟩ := ends
  refine (closed_leads (n := 60) progOk (ways _) Tryz.func3 body_is (by kernel_rfl) (known W hL) h1 h2).mono fun e w' => ?_
  rintro ⟨v, rfl, ⟨σ, hv⟩, hbl⟩
  simp only [VR] at hv
  exact ⟨by rw [hv], hbl⟩
end Go.Proofs.YtfgamllkaonamaaGreatDoor.attemptNames
