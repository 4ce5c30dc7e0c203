/-
  Proved here: the function of the closed statement auditCounted, called in any world in which the listed variables are what the statement says, returns true, and leaves what was there as it was.
  Conditions: those that the given statement names, and no others.
-/
import Derived.Test.YtbnjeblcleihkaaGreatDoorSeg1
import Derived.Test.YtbnjeblcleihkaaGreatDoorSeg2
import Derived.Test.YtbnjeblcleihkaaGreatDoorSeg3
import Derived.Test.YtbnjeblcleihkaaGreatDoorSeg4
import Derived.Test.YtbnjeblcleihkaaGreatDoorSeg5
import Derived.Test.YtbnjeblcleihkaaGreatDoorSeg6
import Derived.Test.YtbnjeblcleihkaaGreatDoorSeg7
import Derived.Test.YtbnjeblcleihkaaGreatDoorSegJ
import Derived.Test.YtbnjeblcleihkaaGreatDoorRnSegA
import Derived.LaidHandle
namespace Go.Proofs.YtbnjeblcleihkaaGreatDoor.auditCounted
open Go.RowKit Go.Rn
set_option maxRecDepth 100000

theorem sound : progB Tryz.prog = true := by kernel_rfl
theorem mixed : Tryz.prog.follows .mixedOrders = true := by kernel_rfl
theorem progOk : ProgOk Tryz.prog := progOk_of mixed sound
theorem way_two (f : FuncId) (h : way f = 2) : f = 400 := by
  cases q : Nat.beq f 400 with
  | true => exact Nat.eq_of_beq_eq_true q
  | false =>
    exfalso
    unfold way at h
    rw [q] at h
    revert h
    cases Nat.beq f 59 <;> cases Nat.beq f 137 <;> cases Nat.beq f 307 <;> cases Nat.beq f 350 <;> (intro h; exact absurd h (by decide))
theorem way_three (f : FuncId) (h : way f = 3) : f = 137 := by
  cases q : Nat.beq f 137 with
  | true => exact Nat.eq_of_beq_eq_true q
  | false =>
    exfalso
    unfold way at h
    rw [q] at h
    revert h
    cases Nat.beq f 59 <;> cases Nat.beq f 307 <;> cases Nat.beq f 350 <;> cases Nat.beq f 400 <;> (intro h; exact absurd h (by decide))
theorem clone_is : IsClone Tryz.prog 400 := ⟨Tryz.f400, Tryz.func400, by kernel_rfl, by kernel_rfl, by kernel_rfl, by kernel_rfl⟩
theorem join_is : IsJoin Tryz.prog 137 := ⟨⟨Tryz.f137, Tryz.f137.body.getD .skip, Tryz.func137, by kernel_rfl, by kernel_rfl⟩, Tryz.strings_Join_none, Tryz.strings_Join⟩
theorem ways (B : Base) : WaysOk Tryz.prog B way := waysOk3 progOk (fun f h => by rw [way_three f h]; exact join_is) (fun f h => by rw [way_two f h]; exact clone_is)
theorem hl0 : ∀ t a, Local (arun Tryz.prog way 60 t a) := local_arun Tryz.prog way 60
theorem hl : ∀ t a, Local (call t a) := hl0
theorem hc (B : Base) : CallSim Tryz.prog B call := arun_sim progOk (ways B) 60
theorem bodyF4_is : Tryz.f4.body = some bodyF4 := by kernel_rfl
theorem bodyF9_is : Tryz.f9.body = some bodyF9 := by kernel_rfl
theorem ends : Rn.Ends Tryz.prog call Tryz.f4.results.toList fr0 st0 ns7 y7 3140 os7 :=
  Rn.Ends.next seg1 (fine_of (by kernel_rfl)) hl (by kernel_rfl) (by kernel_rfl) (Rn.Ends.callOf (fine_of (by kernel_rfl)) hl cal2 (by kernel_rfl) (by kernel_rfl) Tryz.func9 bodyF9_is (by kernel_rfl) (by kernel_rfl) (Rn.Ends.next seg3 (fine_of (by kernel_rfl)) hl (by kernel_rfl) (by kernel_rfl) (Rn.Ends.next seg4 (fine_of (by kernel_rfl)) hl (by kernel_rfl) (by kernel_rfl) (Rn.Ends.last end5))) (by kernel_rfl) (by kernel_rfl) pos6 (by kernel_rfl) (by kernel_rfl) (Rn.Ends.last end7))
theorem value_is : y7 = .bool true := by kernel_rfl
theorem starts_low (W : World) (hL : laidMetH Tryz.prog Rows.auditCountedRow.laid W) : ∃ ρ, Rn.Start nx0 heap0 ρ W ∧ ∀ k, k < globs → ρ k = startRen W k := by
  have hk := hL.funcs (List.mem_cons_of_mem _ (List.mem_cons_of_mem _ (List.mem_cons_self)))
  obtain ⟨c, ty, z, k1, k2, rows, k3⟩ := kinds_cells (g := 0) (l := kinds0) hk (by kernel_rfl) (by kernel_rfl) Tryz.underlying153 Tryz.underlying152 (by kernel_rfl) ⟨rfl, rfl⟩ ⟨rfl, rfl⟩ Tryz.underlying9 (by kernel_rfl) Tryz.underlying151 (by kernel_rfl) Tryz.underlying155 (by kernel_rfl) (by kernel_rfl) (by kernel_rfl)
  obtain ⟨ρ, S, low⟩ := kinds_start (g := 0) (l := kinds0) (by unfold globs; decide) (by unfold globs top kinds0; decide) (by unfold top kinds0; decide) (by unfold top kinds0; decide) k1 k2 k3
  have hd : laidMet Tryz.prog [("math/bits.deBruijn32tab", Rows.laid_math_bits_deBruijn32tab)] W := (show laidMet Tryz.prog _ W ∧ handlesMet Tryz.prog _ W from hL).1
  obtain ⟨ci0, tyi0, zi0, i10, i20, i30⟩ := ints_cells1 (g := 1) (k := .u8) (l := ints0) (laidMet_one hd (List.mem_cons_self)) (by kernel_rfl) (by kernel_rfl) Tryz.underlying226 Tryz.underlying5 (by kernel_rfl) (by kernel_rfl) (by kernel_rfl)
  have S0 := S.addCells low (g := 1) (by unfold globs; decide) i10 intCells0 (by unfold intCells0; rw [List.length_map]; unfold top ints0; decide) (by unfold intCells0; rw [List.length_map]; exact i20) (fun i x hx => by
    unfold intCells0 at hx
    rw [List.getElem?_map] at hx
    cases e : ints0[i]? with
    | none => rw [e] at hx; cases hx
    | some m => rw [e] at hx; injection hx with hx; subst hx; exact ⟨rfl, _, i30 i m e, by simp only [VR]⟩)
  have S1 := S0
  have hf := hL.funcs (List.mem_cons_of_mem _ (List.mem_cons_self))
  obtain ⟨co, tyo, zo, o1, o2, o3⟩ := table_cells (g := 3) (fs := table0) hf (by kernel_rfl) (by kernel_rfl) Tryz.underlying511 Tryz.underlying510 (by kernel_rfl) (by kernel_rfl) (by kernel_rfl)
  exact ⟨ρ, S1.addCells low (g := 3) (by unfold globs; decide) o1 tableCells (by unfold tableCells; rw [List.length_map]; unfold top table0; decide) (by unfold tableCells; rw [List.length_map]; exact o2) (fun i x hx => by
    unfold tableCells at hx
    rw [List.getElem?_map] at hx
    cases e : table0[i]? with
    | none => rw [e] at hx; cases hx
    | some m => rw [e] at hx; injection hx with hx; subst hx; exact ⟨entry_oneCell m, _, o3 i m e, entry_sim _ m⟩), low⟩
theorem starts (W : World) (hL : laidMetH Tryz.prog Rows.auditCountedRow.laid W) : ∃ ρ, Rn.Start nx0 heap0 ρ W := (starts_low W hL).elim fun ρ h => ⟨ρ, h.1⟩
theorem walkW (W : World) {ρ : Ren} (S : Rn.Start nx0 heap0 ρ W) : Calls Tryz.prog 4 #[] W fun e w' => e = .returned (.bool true) ∧ Below W.heap.size W w' := by
  refine (start_ends progOk (hc _) hl Tryz.func4 bodyF4_is (by kernel_rfl) (by kernel_rfl) S ends).mono fun e w' => ?_
  rintro ⟨v, rfl, ⟨σ, hv⟩, hbl⟩
  rw [value_is] at hv
  simp only [VR] at hv
  exact ⟨by rw [hv], hbl⟩
end Go.Proofs.YtbnjeblcleihkaaGreatDoor.auditCounted
