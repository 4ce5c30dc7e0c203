/-
  Proved here: the function of the closed statement gateNames, called in any world in which the listed variables are what the statement says, returns true, and leaves what was there as it was.
  Conditions: those that the given statement names, and no others.
-/
import Derived.Test.YtdmgdhoofmbgfaaGreatDoorSeg1
import Derived.Test.YtdmgdhoofmbgfaaGreatDoorSeg2
import Derived.Test.YtdmgdhoofmbgfaaGreatDoorSeg3
import Derived.Test.YtdmgdhoofmbgfaaGreatDoorSeg4
import Derived.Test.YtdmgdhoofmbgfaaGreatDoorSeg5
import Derived.Test.YtdmgdhoofmbgfaaGreatDoorSeg6
import Derived.Test.YtdmgdhoofmbgfaaGreatDoorRnSegA
import Derived.LaidHandle
namespace Go.Proofs.YtdmgdhoofmbgfaaGreatDoor.gateNames
open Go.RowKit Go.Rn
set_option maxRecDepth 100000

theorem sound : progB Tryz.prog = true := by kernel_rfl
theorem mixed : Tryz.prog.follows .mixedOrders = true := by kernel_rfl
theorem progOk : ProgOk Tryz.prog := progOk_of mixed sound
theorem way_ne3 (f : FuncId) : way f ≠ 3 := by
  intro h
  unfold way at h
  revert h
  cases Nat.beq f 184 <;> cases Nat.beq f 185 <;> cases Nat.beq f 188 <;> (intro h; exact absurd h (by decide))
theorem way_two (f : FuncId) (h : way f = 2) : f = 185 := by
  cases q : Nat.beq f 185 with
  | true => exact Nat.eq_of_beq_eq_true q
  | false =>
    exfalso
    unfold way at h
    rw [q] at h
    revert h
    cases Nat.beq f 184 <;> cases Nat.beq f 188 <;> (intro h; exact absurd h (by decide))
theorem clone_is : IsClone Tryz.prog 185 := ⟨Tryz.f185, Tryz.func185, by kernel_rfl, by kernel_rfl, by kernel_rfl, by kernel_rfl⟩
theorem ways (B : Nat) : WaysOk Tryz.prog B way := waysOk progOk way_ne3 fun f h => by rw [way_two f h]; exact clone_is
theorem hl0 : ∀ t a, Local (arun Tryz.prog way 60 t a) := local_arun Tryz.prog way 60
theorem endsA : ∃ fr j s2 s3, Leads Tryz.prog call0 frA0 stA0 (.leave fr j) s2 ∧ finish Tryz.prog Tryz.f15.results.toList fr j s2 = .ok (.bool true) s3 := by
  obtain ⟨fr, j, s2, s3, h1, h2⟩ := valueOf_inv (isTrue_inv segLastA)
  exact ⟨fr, j, s2, s3, .next segA1 (fine_of (by kernel_rfl)) hl0 (by kernel_rfl) (by kernel_rfl) (.next segA2 (fine_of (by kernel_rfl)) hl0 (by kernel_rfl) (by kernel_rfl) (.one h1)), h2⟩
theorem bodyA_is : Tryz.f15.body = some bodyA := by kernel_rfl
theorem inner (ρ : Ren) (w : World) (S : Rn.Start nx0 heap0 ρ w) : Calls Tryz.prog 15 #[] w fun e w' => e = .returned (.bool true) ∧ Below w.heap.size w w' := by
  obtain ⟨fr, j, s2, s3, h1, h2⟩ := endsA
  refine (start_leads progOk (arun_sim progOk (ways _) 60) hl0 Tryz.func15 bodyA_is (by kernel_rfl) (by kernel_rfl) S h1 h2).mono fun e w' => ?_
  rintro ⟨v, rfl, ⟨σ, hv⟩, hbl⟩
  simp only [VR] at hv
  exact ⟨by rw [hv], hbl⟩
theorem hall (n : Nat) (o : AObj) (hn : n < top) (h : heap0.get n = some o) : n ∈ known0 := by
  have ht : ∀ g, g < globs → g < top := fun g hg => Nat.lt_of_lt_of_le hg (by unfold globs top; decide)
  have hmem : n = 2 ∨ n = 1 ∨ n = 0 ∨ (256 ≤ n ∧ n < 270) := by
    unfold heap0 at h
    rw [Tr.get_put _ _ _ _ (ht 2 (by unfold globs; decide)) hn] at h
    by_cases q : n = 2
    · exact .inl q
    · rw [if_neg q] at h
      unfold heapI at h
      rw [Tr.get_put _ _ _ _ (ht 1 (by unfold globs; decide)) hn] at h
      by_cases q2 : n = 1
      · omega
      · rw [if_neg q2] at h
        unfold heapK at h
        rw [Tr.get_put _ _ _ _ (ht 0 (by unfold globs; decide)) hn] at h
        by_cases q3 : n = 0
        · omega
        · rw [if_neg q3] at h
          have := rowsHeap_mem (by unfold globs top kinds0; decide) hn h
          rcases this with this | this
          · have e : globs + (kinds0.map (·.2)).length = 270 := by unfold globs kinds0; rfl
            have e2 : globs = 256 := rfl
            omega
          · rw [Tr.get_nil] at this; cases this
  unfold known0
  simp only [List.mem_cons, List.not_mem_nil, or_false]
  omega
theorem hns : ∀ n ∈ known0, n < nx0 := by unfold known0 nx0; decide
theorem hl : ∀ t a, Local (call t a) := Local.closedCall hl0
theorem hc (B : Nat) : CallSim Tryz.prog B call := closedCall_sim (arun_sim progOk (ways B) 60) Tryz.func15 bodyA_is (by kernel_rfl) (by unfold globs nx0; decide) hall hns inner
theorem ends : ∃ fr j s2 s3, Leads Tryz.prog call fr0 st0 (.leave fr j) s2 ∧ finish Tryz.prog Tryz.f3.results.toList fr j s2 = .ok (.bool true) s3 := by
  obtain ⟨fr, j, s2, s3, h1, h2⟩ := valueOf_inv (isTrue_inv segLast)
  exact ⟨fr, j, s2, s3, .next seg1 (fine_of (by kernel_rfl)) hl (by kernel_rfl) (by kernel_rfl) (.next seg2 (fine_of (by kernel_rfl)) hl (by kernel_rfl) (by kernel_rfl) (.one h1)), h2⟩
theorem body_is : Tryz.f3.body = some body := by kernel_rfl
theorem starts (W : World) (hL : laidMetH Tryz.prog Rows.gateNamesRow.laid W) : ∃ ρ, Rn.Start nx0 heap0 ρ W := by
  have hk := hL.funcs (n := "seesaw/event.kinds") (List.mem_cons_of_mem _ (List.mem_cons_of_mem _ (List.mem_cons_self)))
  obtain ⟨c, ty, z, k1, k2, rows, k3⟩ := kinds_cells (g := 0) (l := kinds0) hk (by kernel_rfl) (by kernel_rfl) Tryz.underlying228 Tryz.underlying227 (by kernel_rfl) ⟨rfl, rfl⟩ ⟨rfl, rfl⟩ Tryz.underlying9 (by kernel_rfl) Tryz.underlying226 (by kernel_rfl) Tryz.underlying230 (by kernel_rfl) (by kernel_rfl)
  obtain ⟨ρ, S, low⟩ := kinds_start (g := 0) (l := kinds0) (by unfold globs; decide) (by unfold globs top kinds0; decide) (by unfold top kinds0; decide) (by unfold top kinds0; decide) k1 k2 k3
  have hd : laidMet Tryz.prog [("math/bits.deBruijn32tab", Rows.laid_math_bits_deBruijn32tab)] W := (show laidMet Tryz.prog _ W ∧ handlesMet Tryz.prog _ W from hL).1
  obtain ⟨ci, tyi, zi, i1, i2, i3⟩ := ints_cells (g := 1) (k := .u8) (l := ints0) hd (by kernel_rfl) (by kernel_rfl) Tryz.underlying257 Tryz.underlying5 (by kernel_rfl) (by kernel_rfl)
  have S1 := S.addCells low (g := 1) (by unfold globs; decide) i1 intCells (by unfold intCells; rw [List.length_map]; unfold top ints0; decide) (by unfold intCells; rw [List.length_map]; exact i2) (fun i x hx => by
    unfold intCells at hx
    rw [List.getElem?_map] at hx
    cases e : ints0[i]? with
    | none => rw [e] at hx; cases hx
    | some m => rw [e] at hx; injection hx with hx; subst hx; exact ⟨rfl, _, i3 i m e, by simp only [VR]⟩)
  have hf := hL.funcs (n := "seesaw/expr.operators") (List.mem_cons_of_mem _ (List.mem_cons_self))
  obtain ⟨co, tyo, zo, o1, o2, o3⟩ := table_cells (g := 2) (fs := table0) hf (by kernel_rfl) (by kernel_rfl) Tryz.underlying285 Tryz.underlying284 (by kernel_rfl) (by kernel_rfl)
  exact ⟨ρ, S1.addCells low (g := 2) (by unfold globs; decide) o1 tableCells (by unfold tableCells; rw [List.length_map]; unfold top table0; decide) (by unfold tableCells; rw [List.length_map]; exact o2) (fun i x hx => by
    unfold tableCells at hx
    rw [List.getElem?_map] at hx
    cases e : table0[i]? with
    | none => rw [e] at hx; cases hx
    | some m => rw [e] at hx; injection hx with hx; subst hx; exact ⟨entry_oneCell m, _, o3 i m e, entry_sim _ m⟩)⟩
theorem walk (W : World) (hL : laidMetH Tryz.prog Rows.gateNamesRow.laid W) : Calls Tryz.prog 3 #[] W fun e w' => e = .returned (.bool true) ∧ Below W.heap.size W w' := by
  obtain ⟨ρ, S⟩ := starts W hL
  obtain ⟨fr, j, s2, s3, h1, h2⟩ := ends
  refine (start_leads progOk (hc _) hl Tryz.func3 body_is (by kernel_rfl) (by kernel_rfl) S h1 h2).mono fun e w' => ?_
  rintro ⟨v, rfl, ⟨σ, hv⟩, hbl⟩
  simp only [VR] at hv
  exact ⟨by rw [hv], hbl⟩
end Go.Proofs.YtdmgdhoofmbgfaaGreatDoor.gateNames
