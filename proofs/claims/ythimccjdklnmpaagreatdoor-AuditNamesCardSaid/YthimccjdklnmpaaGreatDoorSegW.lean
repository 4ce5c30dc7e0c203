/-
  Proved here: the function of the closed statement auditNames, called in any world in which the listed variables are what the statement says, returns true, and leaves what was there as it was.
  Conditions: those that the given statement names, and no others.
-/
import Derived.Test.YthimccjdklnmpaaGreatDoorSeg1
import Derived.Test.YthimccjdklnmpaaGreatDoorSeg2
import Derived.Test.YthimccjdklnmpaaGreatDoorSeg3
import Derived.Test.YthimccjdklnmpaaGreatDoorSeg4
import Derived.Test.YthimccjdklnmpaaGreatDoorSeg5
import Derived.Test.YthimccjdklnmpaaGreatDoorSeg6
import Derived.Test.YthimccjdklnmpaaGreatDoorSeg7
import Derived.Test.YthimccjdklnmpaaGreatDoorSeg8
import Derived.Test.YthimccjdklnmpaaGreatDoorSeg9
import Derived.Test.YthimccjdklnmpaaGreatDoorSeg10
import Derived.Test.YthimccjdklnmpaaGreatDoorSeg11
import Derived.Test.YthimccjdklnmpaaGreatDoorSeg12
import Derived.Test.YthimccjdklnmpaaGreatDoorSeg13
import Derived.Test.YthimccjdklnmpaaGreatDoorSeg14
import Derived.Test.YthimccjdklnmpaaGreatDoorSeg15
import Derived.Test.YthimccjdklnmpaaGreatDoorSeg16
import Derived.Test.YthimccjdklnmpaaGreatDoorSeg17
import Derived.Test.YthimccjdklnmpaaGreatDoorSeg18
import Derived.Test.YthimccjdklnmpaaGreatDoorSeg19
import Derived.Test.YthimccjdklnmpaaGreatDoorSegJ
import Derived.Test.YthimccjdklnmpaaGreatDoorRnSegA
import Derived.LaidHandle
namespace Go.Proofs.YthimccjdklnmpaaGreatDoor.auditNames
open Go.RowKit Go.Rn
set_option maxRecDepth 100000

theorem sound : progB Tryz.prog = true := by kernel_rfl
theorem mixed : Tryz.prog.follows .mixedOrders = true := by kernel_rfl
theorem progOk : ProgOk Tryz.prog := progOk_of mixed sound
theorem way_two (f : FuncId) (h : way f = 2) : f = 405 := by
  cases q : Nat.beq f 405 with
  | true => exact Nat.eq_of_beq_eq_true q
  | false =>
    exfalso
    unfold way at h
    rw [q] at h
    revert h
    cases Nat.beq f 44 <;> cases Nat.beq f 141 <;> cases Nat.beq f 312 <;> cases Nat.beq f 355 <;> (intro h; exact absurd h (by decide))
theorem way_three (f : FuncId) (h : way f = 3) : f = 141 := by
  cases q : Nat.beq f 141 with
  | true => exact Nat.eq_of_beq_eq_true q
  | false =>
    exfalso
    unfold way at h
    rw [q] at h
    revert h
    cases Nat.beq f 44 <;> cases Nat.beq f 312 <;> cases Nat.beq f 355 <;> cases Nat.beq f 405 <;> (intro h; exact absurd h (by decide))
theorem clone_is : IsClone Tryz.prog 405 := ⟨Tryz.f405, Tryz.func405, by kernel_rfl, by kernel_rfl, by kernel_rfl, by kernel_rfl⟩
theorem join_is : IsJoin Tryz.prog 141 := ⟨⟨Tryz.f141, Tryz.f141.body.getD .skip, Tryz.func141, by kernel_rfl, by kernel_rfl⟩, Tryz.strings_Join_none, Tryz.strings_Join⟩
theorem ways (B : Nat) : WaysOk Tryz.prog B way := waysOk3 progOk (fun f h => by rw [way_three f h]; exact join_is) (fun f h => by rw [way_two f h]; exact clone_is)
theorem hl0 : ∀ t a, Local (arun Tryz.prog way 60 t a) := local_arun Tryz.prog way 60
theorem hl : ∀ t a, Local (call t a) := hl0
theorem hc (B : Nat) : CallSim Tryz.prog B call := arun_sim progOk (ways B) 60
theorem bodyF3_is : Tryz.f3.body = some bodyF3 := by kernel_rfl
theorem bodyF4_is : Tryz.f4.body = some bodyF4 := by kernel_rfl
theorem bodyF6_is : Tryz.f6.body = some bodyF6 := by kernel_rfl
theorem ends : Rn.Ends Tryz.prog call Tryz.f3.results.toList fr0 st0 ns19 y19 8821 os19 :=
  Rn.Ends.next seg1 (fine_of (by kernel_rfl)) hl (by kernel_rfl) (by kernel_rfl) (Rn.Ends.callOf (fine_of (by kernel_rfl)) hl cal2 (by kernel_rfl) (by kernel_rfl) Tryz.func4 bodyF4_is (by kernel_rfl) (by kernel_rfl) (Rn.Ends.next seg3 (fine_of (by kernel_rfl)) hl (by kernel_rfl) (by kernel_rfl) (Rn.Ends.callOf (fine_of (by kernel_rfl)) hl cal4 (by kernel_rfl) (by kernel_rfl) Tryz.func6 bodyF6_is (by kernel_rfl) (by kernel_rfl) (Rn.Ends.next seg5 (fine_of (by kernel_rfl)) hl (by kernel_rfl) (by kernel_rfl) (Rn.Ends.next seg6 (fine_of (by kernel_rfl)) hl (by kernel_rfl) (by kernel_rfl) (Rn.Ends.next seg7 (fine_of (by kernel_rfl)) hl (by kernel_rfl) (by kernel_rfl) (Rn.Ends.last end8)))) (by kernel_rfl) (by kernel_rfl) pos9 (by kernel_rfl) (by kernel_rfl) (Rn.Ends.last end10))) (by kernel_rfl) (by kernel_rfl) pos11 (by kernel_rfl) (by kernel_rfl) (Rn.Ends.next seg12 (fine_of (by kernel_rfl)) hl (by kernel_rfl) (by kernel_rfl) (Rn.Ends.callOf (fine_of (by kernel_rfl)) hl cal13 (by kernel_rfl) (by kernel_rfl) Tryz.func6 bodyF6_is (by kernel_rfl) (by kernel_rfl) (Rn.Ends.next seg14 (fine_of (by kernel_rfl)) hl (by kernel_rfl) (by kernel_rfl) (Rn.Ends.next seg15 (fine_of (by kernel_rfl)) hl (by kernel_rfl) (by kernel_rfl) (Rn.Ends.next seg16 (fine_of (by kernel_rfl)) hl (by kernel_rfl) (by kernel_rfl) (Rn.Ends.last end17)))) (by kernel_rfl) (by kernel_rfl) pos18 (by kernel_rfl) (by kernel_rfl) (Rn.Ends.last end19))))
theorem value_is : y19 = .bool true := by kernel_rfl
theorem starts (W : World) (hL : laidMetH Tryz.prog Rows.auditNamesRow.laid W) : ∃ ρ, Rn.Start nx0 heap0 ρ W := by
  have hk := hL.funcs (List.mem_cons_of_mem _ (List.mem_cons_of_mem _ (List.mem_cons_self)))
  obtain ⟨c, ty, z, k1, k2, rows, k3⟩ := kinds_cells (g := 0) (l := kinds0) hk (by kernel_rfl) (by kernel_rfl) Tryz.underlying314 Tryz.underlying313 (by kernel_rfl) ⟨rfl, rfl⟩ ⟨rfl, rfl⟩ Tryz.underlying9 (by kernel_rfl) Tryz.underlying312 (by kernel_rfl) Tryz.underlying316 (by kernel_rfl) (by kernel_rfl)
  obtain ⟨ρ, S, low⟩ := kinds_start (g := 0) (l := kinds0) (by unfold globs; decide) (by unfold globs top kinds0; decide) (by unfold top kinds0; decide) (by unfold top kinds0; decide) k1 k2 k3
  have hd : laidMet Tryz.prog [("math/bits.deBruijn32tab", Rows.laid_math_bits_deBruijn32tab)] W := (show laidMet Tryz.prog _ W ∧ handlesMet Tryz.prog _ W from hL).1
  obtain ⟨ci0, tyi0, zi0, i10, i20, i30⟩ := ints_cells1 (g := 1) (k := .u8) (l := ints0) (laidMet_one hd (List.mem_cons_self)) (by kernel_rfl) (by kernel_rfl) Tryz.underlying379 Tryz.underlying5 (by kernel_rfl) (by kernel_rfl)
  have S0 := S.addCells low (g := 1) (by unfold globs; decide) i10 intCells0 (by unfold intCells0; rw [List.length_map]; unfold top ints0; decide) (by unfold intCells0; rw [List.length_map]; exact i20) (fun i x hx => by
    unfold intCells0 at hx
    rw [List.getElem?_map] at hx
    cases e : ints0[i]? with
    | none => rw [e] at hx; cases hx
    | some m => rw [e] at hx; injection hx with hx; subst hx; exact ⟨rfl, _, i30 i m e, by simp only [VR]⟩)
  have S1 := S0
  have hf := hL.funcs (List.mem_cons_of_mem _ (List.mem_cons_self))
  obtain ⟨co, tyo, zo, o1, o2, o3⟩ := table_cells (g := 3) (fs := table0) hf (by kernel_rfl) (by kernel_rfl) Tryz.underlying516 Tryz.underlying515 (by kernel_rfl) (by kernel_rfl)
  exact ⟨ρ, S1.addCells low (g := 3) (by unfold globs; decide) o1 tableCells (by unfold tableCells; rw [List.length_map]; unfold top table0; decide) (by unfold tableCells; rw [List.length_map]; exact o2) (fun i x hx => by
    unfold tableCells at hx
    rw [List.getElem?_map] at hx
    cases e : table0[i]? with
    | none => rw [e] at hx; cases hx
    | some m => rw [e] at hx; injection hx with hx; subst hx; exact ⟨entry_oneCell m, _, o3 i m e, entry_sim _ m⟩)⟩
theorem walk (W : World) (hL : laidMetH Tryz.prog Rows.auditNamesRow.laid W) : Calls Tryz.prog 3 #[] W fun e w' => e = .returned (.bool true) ∧ Below W.heap.size W w' := by
  obtain ⟨ρ, S⟩ := starts W hL
  refine (start_ends progOk (hc _) hl Tryz.func3 bodyF3_is (by kernel_rfl) (by kernel_rfl) S ends).mono fun e w' => ?_
  rintro ⟨v, rfl, ⟨σ, hv⟩, hbl⟩
  rw [value_is] at hv
  simp only [VR] at hv
  exact ⟨by rw [hv], hbl⟩
end Go.Proofs.YthimccjdklnmpaaGreatDoor.auditNames
