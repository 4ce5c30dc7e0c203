/-
  Proved here: the function of the closed statement scriptNames, called in any world in which the listed variables are what the statement says, returns true, and leaves what was there as it was.
  Conditions: those that the given statement names, and no others.
-/
import Derived.Test.YtadpekpmkclapaaGreatDoorSeg1
import Derived.Test.YtadpekpmkclapaaGreatDoorSeg2
import Derived.Test.YtadpekpmkclapaaGreatDoorSeg3
import Derived.Test.YtadpekpmkclapaaGreatDoorSeg4
import Derived.Test.YtadpekpmkclapaaGreatDoorSeg5
import Derived.Test.YtadpekpmkclapaaGreatDoorSeg6
import Derived.Test.YtadpekpmkclapaaGreatDoorSeg7
import Derived.Test.YtadpekpmkclapaaGreatDoorSeg8
import Derived.Test.YtadpekpmkclapaaGreatDoorSeg9
import Derived.Test.YtadpekpmkclapaaGreatDoorSeg10
import Derived.Test.YtadpekpmkclapaaGreatDoorSeg11
import Derived.Test.YtadpekpmkclapaaGreatDoorSeg12
import Derived.Test.YtadpekpmkclapaaGreatDoorSeg13
import Derived.Test.YtadpekpmkclapaaGreatDoorSegJ
import Derived.Test.YtadpekpmkclapaaGreatDoorRnSegA
import Derived.LaidHandle
namespace Go.Proofs.YtadpekpmkclapaaGreatDoor.scriptNames
open Go.RowKit Go.Rn
set_option maxRecDepth 100000

theorem sound : progB Tryz.prog = true := by kernel_rfl
theorem mixed : Tryz.prog.follows .mixedOrders = true := by kernel_rfl
theorem progOk : ProgOk Tryz.prog := progOk_of mixed sound
theorem way_two (f : FuncId) (h : way f = 2) : f = 403 := by
  cases q : Nat.beq f 403 with
  | true => exact Nat.eq_of_beq_eq_true q
  | false =>
    exfalso
    unfold way at h
    rw [q] at h
    revert h
    cases Nat.beq f 42 <;> cases Nat.beq f 50 <;> cases Nat.beq f 253 <;> cases Nat.beq f 299 <;> (intro h; exact absurd h (by decide))
theorem way_three (f : FuncId) (h : way f = 3) : f = 42 := by
  cases q : Nat.beq f 42 with
  | true => exact Nat.eq_of_beq_eq_true q
  | false =>
    exfalso
    unfold way at h
    rw [q] at h
    revert h
    cases Nat.beq f 50 <;> cases Nat.beq f 253 <;> cases Nat.beq f 299 <;> cases Nat.beq f 403 <;> (intro h; exact absurd h (by decide))
theorem clone_is : IsClone Tryz.prog 403 := ⟨Tryz.f403, Tryz.func403, by kernel_rfl, by kernel_rfl, by kernel_rfl, by kernel_rfl⟩
theorem join_is : IsJoin Tryz.prog 42 := ⟨⟨Tryz.f42, Tryz.f42.body.getD .skip, Tryz.func42, by kernel_rfl, by kernel_rfl⟩, Tryz.strings_Join_none, Tryz.strings_Join⟩
theorem ways (B : Base) : WaysOk Tryz.prog B way := waysOk3 progOk (fun f h => by rw [way_three f h]; exact join_is) (fun f h => by rw [way_two f h]; exact clone_is)
theorem hl0 : ∀ t a, Local (arun Tryz.prog way 60 t a) := local_arun Tryz.prog way 60
theorem hl : ∀ t a, Local (call t a) := hl0
theorem hc (B : Base) : CallSim Tryz.prog B call := arun_sim progOk (ways B) 60
theorem bodyF3_is : Tryz.f3.body = some bodyF3 := by kernel_rfl
theorem bodyF6_is : Tryz.f6.body = some bodyF6 := by kernel_rfl
theorem bodyF10_is : Tryz.f10.body = some bodyF10 := by kernel_rfl
theorem ends : Rn.Ends Tryz.prog call Tryz.f3.results.toList fr0 st0 ns13 y13 3623 os13 :=
  Rn.Ends.next seg1 (fine_of (by kernel_rfl)) hl (by kernel_rfl) (by kernel_rfl) (Rn.Ends.next seg2 (fine_of (by kernel_rfl)) hl (by kernel_rfl) (by kernel_rfl) (Rn.Ends.callOf (fine_of (by kernel_rfl)) hl cal3 (by kernel_rfl) (by kernel_rfl) Tryz.func10 bodyF10_is (by kernel_rfl) (by kernel_rfl) (Rn.Ends.next seg4 (fine_of (by kernel_rfl)) hl (by kernel_rfl) (by kernel_rfl) (Rn.Ends.callOf (fine_of (by kernel_rfl)) hl cal5 (by kernel_rfl) (by kernel_rfl) Tryz.func6 bodyF6_is (by kernel_rfl) (by kernel_rfl) (Rn.Ends.next seg6 (fine_of (by kernel_rfl)) hl (by kernel_rfl) (by kernel_rfl) (Rn.Ends.next seg7 (fine_of (by kernel_rfl)) hl (by kernel_rfl) (by kernel_rfl) (Rn.Ends.next seg8 (fine_of (by kernel_rfl)) hl (by kernel_rfl) (by kernel_rfl) (Rn.Ends.last end9)))) (by kernel_rfl) (by kernel_rfl) pos10 (by kernel_rfl) (by kernel_rfl) (Rn.Ends.last end11))) (by kernel_rfl) (by kernel_rfl) pos12 (by kernel_rfl) (by kernel_rfl) (Rn.Ends.last end13)))
theorem value_is : y13 = .bool true := by kernel_rfl
theorem starts (W : World) (hL : laidMetH Tryz.prog Rows.scriptNamesRow.laid W) : ∃ ρ, Rn.Start nx0 heap0 ρ W := by
  have hk := hL.funcs (List.mem_cons_of_mem _ (List.mem_cons_of_mem _ (List.mem_cons_self)))
  obtain ⟨c, ty, z, k1, k2, rows, k3⟩ := kinds_cells (g := 1) (l := kinds0) hk (by kernel_rfl) (by kernel_rfl) Tryz.underlying415 Tryz.underlying414 (by kernel_rfl) ⟨rfl, rfl⟩ ⟨rfl, rfl⟩ Tryz.underlying9 (by kernel_rfl) Tryz.underlying413 (by kernel_rfl) Tryz.underlying417 (by kernel_rfl) (by kernel_rfl)
  obtain ⟨ρ, S, low⟩ := kinds_start (g := 1) (l := kinds0) (by unfold globs; decide) (by unfold globs top kinds0; decide) (by unfold top kinds0; decide) (by unfold top kinds0; decide) k1 k2 k3
  have hd : laidMet Tryz.prog [("math/bits.deBruijn32tab", Rows.laid_math_bits_deBruijn32tab)] W := (show laidMet Tryz.prog _ W ∧ handlesMet Tryz.prog _ W from hL).1
  obtain ⟨ci0, tyi0, zi0, i10, i20, i30⟩ := ints_cells1 (g := 2) (k := .u8) (l := ints0) (laidMet_one hd (List.mem_cons_self)) (by kernel_rfl) (by kernel_rfl) Tryz.underlying496 Tryz.underlying5 (by kernel_rfl) (by kernel_rfl)
  have S0 := S.addCells low (g := 2) (by unfold globs; decide) i10 intCells0 (by unfold intCells0; rw [List.length_map]; unfold top ints0; decide) (by unfold intCells0; rw [List.length_map]; exact i20) (fun i x hx => by
    unfold intCells0 at hx
    rw [List.getElem?_map] at hx
    cases e : ints0[i]? with
    | none => rw [e] at hx; cases hx
    | some m => rw [e] at hx; injection hx with hx; subst hx; exact ⟨rfl, _, i30 i m e, by simp only [VR]⟩)
  have S1 := S0
  have hf := hL.funcs (List.mem_cons_of_mem _ (List.mem_cons_self))
  obtain ⟨co, tyo, zo, o1, o2, o3⟩ := table_cells (g := 3) (fs := table0) hf (by kernel_rfl) (by kernel_rfl) Tryz.underlying509 Tryz.underlying508 (by kernel_rfl) (by kernel_rfl)
  exact ⟨ρ, S1.addCells low (g := 3) (by unfold globs; decide) o1 tableCells (by unfold tableCells; rw [List.length_map]; unfold top table0; decide) (by unfold tableCells; rw [List.length_map]; exact o2) (fun i x hx => by
    unfold tableCells at hx
    rw [List.getElem?_map] at hx
    cases e : table0[i]? with
    | none => rw [e] at hx; cases hx
    | some m => rw [e] at hx; injection hx with hx; subst hx; exact ⟨entry_oneCell m, _, o3 i m e, entry_sim _ m⟩)⟩
theorem walk (W : World) (hL : laidMetH Tryz.prog Rows.scriptNamesRow.laid W) : Calls Tryz.prog 3 #[] W fun e w' => e = .returned (.bool true) ∧ Below W.heap.size W w' := by
  obtain ⟨ρ, S⟩ := starts W hL
  refine (start_ends progOk (hc _) hl Tryz.func3 bodyF3_is (by kernel_rfl) (by kernel_rfl) S ends).mono fun e w' => ?_
  rintro ⟨v, rfl, ⟨σ, hv⟩, hbl⟩
  rw [value_is] at hv
  simp only [VR] at hv
  exact ⟨by rw [hv], hbl⟩
end Go.Proofs.YtadpekpmkclapaaGreatDoor.scriptNames
