/-
  Proved here: the function of the closed statement divergeNames, called in any world in which the listed variables are what the statement says, returns true, and leaves what was there as it was.
  Conditions: those that the given statement names, and no others.
-/
import Derived.Test.YtfigabiiopcjoaaGreatDoorSeg1
import Derived.Test.YtfigabiiopcjoaaGreatDoorSeg2
import Derived.Test.YtfigabiiopcjoaaGreatDoorSegJ
import Derived.Test.YtfigabiiopcjoaaGreatDoorRnSegA
import Derived.LaidHandle
namespace Go.Proofs.YtfigabiiopcjoaaGreatDoor.divergeNames
open Go.RowKit Go.Rn
set_option maxRecDepth 100000

theorem sound : progB Tryz.prog = true := by kernel_rfl
theorem mixed : Tryz.prog.follows .mixedOrders = true := by kernel_rfl
theorem progOk : ProgOk Tryz.prog := progOk_of mixed sound
theorem way_two (f : FuncId) (h : way f = 2) : f = 208 := by
  cases q : Nat.beq f 208 with
  | true => exact Nat.eq_of_beq_eq_true q
  | false =>
    exfalso
    unfold way at h
    rw [q] at h
    revert h
    cases Nat.beq f 29 <;> cases Nat.beq f 207 <;> cases Nat.beq f 210 <;> (intro h; exact absurd h (by decide))
theorem way_three (f : FuncId) (h : way f = 3) : f = 29 := by
  cases q : Nat.beq f 29 with
  | true => exact Nat.eq_of_beq_eq_true q
  | false =>
    exfalso
    unfold way at h
    rw [q] at h
    revert h
    cases Nat.beq f 207 <;> cases Nat.beq f 208 <;> cases Nat.beq f 210 <;> (intro h; exact absurd h (by decide))
theorem clone_is : IsClone Tryz.prog 208 := ⟨Tryz.f208, Tryz.func208, by kernel_rfl, by kernel_rfl, by kernel_rfl, by kernel_rfl⟩
theorem join_is : IsJoin Tryz.prog 29 := ⟨⟨Tryz.f29, Tryz.f29.body.getD .skip, Tryz.func29, by kernel_rfl, by kernel_rfl⟩, Tryz.strings_Join_none, Tryz.strings_Join⟩
theorem ways (B : Nat) : WaysOk Tryz.prog B way := waysOk3 progOk (fun f h => by rw [way_three f h]; exact join_is) (fun f h => by rw [way_two f h]; exact clone_is)
theorem hl0 : ∀ t a, Local (arun Tryz.prog way 60 t a) := local_arun Tryz.prog way 60
theorem hl : ∀ t a, Local (call t a) := hl0
theorem hc (B : Nat) : CallSim Tryz.prog B call := arun_sim progOk (ways B) 60
theorem ends : ∃ fr j s2 s3, Leads Tryz.prog call fr0 st0 (.leave fr j) s2 ∧ finish Tryz.prog Tryz.f3.results.toList fr j s2 = .ok (.bool true) s3 := by
  obtain ⟨fr, j, s2, s3, h1, h2⟩ := valueOf_inv (isTrue_inv segLast)
  exact ⟨fr, j, s2, s3, .next seg1 (fine_of (by kernel_rfl)) hl (by kernel_rfl) (by kernel_rfl) (.one h1), h2⟩
theorem body_is : Tryz.f3.body = some body := by kernel_rfl
theorem starts (W : World) (hL : laidMetH Tryz.prog Rows.divergeNamesRow.laid W) : ∃ ρ, Rn.Start nx0 heap0 ρ W := by
  have hk := hL.funcs (List.mem_cons_of_mem _ (List.mem_cons_of_mem _ (List.mem_cons_of_mem _ (List.mem_cons_of_mem _ (List.mem_cons_self)))))
  obtain ⟨c, ty, z, k1, k2, rows, k3⟩ := kinds_cells (g := 0) (l := kinds0) hk (by kernel_rfl) (by kernel_rfl) Tryz.underlying80 Tryz.underlying79 (by kernel_rfl) ⟨rfl, rfl⟩ ⟨rfl, rfl⟩ Tryz.underlying9 (by kernel_rfl) Tryz.underlying78 (by kernel_rfl) Tryz.underlying83 (by kernel_rfl) (by kernel_rfl)
  obtain ⟨ρ, S, low⟩ := kinds_start (g := 0) (l := kinds0) (by unfold globs; decide) (by unfold globs top kinds0; decide) (by unfold top kinds0; decide) (by unfold top kinds0; decide) k1 k2 k3
  have hd : laidMet Tryz.prog [("math/bits.deBruijn32tab", Rows.laid_math_bits_deBruijn32tab), ("math/bits.deBruijn64tab", Rows.laid_math_bits_deBruijn64tab), ("internal/strconv.uint64pow10", Rows.laid_internal_strconv_uint64pow10)] W := (show laidMet Tryz.prog _ W ∧ handlesMet Tryz.prog _ W from hL).1
  obtain ⟨ci0, tyi0, zi0, i10, i20, i30⟩ := ints_cells1 (g := 3) (k := .u8) (l := ints0) (laidMet_one hd (List.mem_cons_self)) (by kernel_rfl) (by kernel_rfl) Tryz.underlying256 Tryz.underlying5 (by kernel_rfl) (by kernel_rfl)
  have S0 := S.addCells low (g := 3) (by unfold globs; decide) i10 intCells0 (by unfold intCells0; rw [List.length_map]; unfold top ints0; decide) (by unfold intCells0; rw [List.length_map]; exact i20) (fun i x hx => by
    unfold intCells0 at hx
    rw [List.getElem?_map] at hx
    cases e : ints0[i]? with
    | none => rw [e] at hx; cases hx
    | some m => rw [e] at hx; injection hx with hx; subst hx; exact ⟨rfl, _, i30 i m e, by simp only [VR]⟩)
  obtain ⟨ci1, tyi1, zi1, i11, i21, i31⟩ := ints_cells1 (g := 4) (k := .u8) (l := ints1) (laidMet_one hd (List.mem_cons_of_mem _ (List.mem_cons_self))) (by kernel_rfl) (by kernel_rfl) Tryz.underlying288 Tryz.underlying5 (by kernel_rfl) (by kernel_rfl)
  have S1 := S0.addCells low (g := 4) (by unfold globs; decide) i11 intCells1 (by unfold intCells1; rw [List.length_map]; unfold top ints1; decide) (by unfold intCells1; rw [List.length_map]; exact i21) (fun i x hx => by
    unfold intCells1 at hx
    rw [List.getElem?_map] at hx
    cases e : ints1[i]? with
    | none => rw [e] at hx; cases hx
    | some m => rw [e] at hx; injection hx with hx; subst hx; exact ⟨rfl, _, i31 i m e, by simp only [VR]⟩)
  obtain ⟨ci2, tyi2, zi2, i12, i22, i32⟩ := ints_cells1 (g := 1) (k := .u64) (l := ints2) (laidMet_one hd (List.mem_cons_of_mem _ (List.mem_cons_of_mem _ (List.mem_cons_self)))) (by kernel_rfl) (by kernel_rfl) Tryz.underlying215 Tryz.underlying167 (by kernel_rfl) (by kernel_rfl)
  have S2 := S1.addCells low (g := 1) (by unfold globs; decide) i12 intCells2 (by unfold intCells2; rw [List.length_map]; unfold top ints2; decide) (by unfold intCells2; rw [List.length_map]; exact i22) (fun i x hx => by
    unfold intCells2 at hx
    rw [List.getElem?_map] at hx
    cases e : ints2[i]? with
    | none => rw [e] at hx; cases hx
    | some m => rw [e] at hx; injection hx with hx; subst hx; exact ⟨rfl, _, i32 i m e, by simp only [VR]⟩)
  have S1 := S2
  have hf := hL.funcs (List.mem_cons_of_mem _ (List.mem_cons_of_mem _ (List.mem_cons_of_mem _ (List.mem_cons_self))))
  obtain ⟨co, tyo, zo, o1, o2, o3⟩ := table_cells (g := 5) (fs := table0) hf (by kernel_rfl) (by kernel_rfl) Tryz.underlying320 Tryz.underlying319 (by kernel_rfl) (by kernel_rfl)
  exact ⟨ρ, S1.addCells low (g := 5) (by unfold globs; decide) o1 tableCells (by unfold tableCells; rw [List.length_map]; unfold top table0; decide) (by unfold tableCells; rw [List.length_map]; exact o2) (fun i x hx => by
    unfold tableCells at hx
    rw [List.getElem?_map] at hx
    cases e : table0[i]? with
    | none => rw [e] at hx; cases hx
    | some m => rw [e] at hx; injection hx with hx; subst hx; exact ⟨entry_oneCell m, _, o3 i m e, entry_sim _ m⟩)⟩
theorem walk (W : World) (hL : laidMetH Tryz.prog Rows.divergeNamesRow.laid W) : Calls Tryz.prog 3 #[] W fun e w' => e = .returned (.bool true) ∧ Below W.heap.size W w' := by
  obtain ⟨ρ, S⟩ := starts W hL
  obtain ⟨fr, j, s2, s3, h1, h2⟩ := ends
  refine (start_leads progOk (hc _) hl Tryz.func3 body_is (by kernel_rfl) (by kernel_rfl) S h1 h2).mono fun e w' => ?_
  rintro ⟨v, rfl, ⟨σ, hv⟩, hbl⟩
  simp only [VR] at hv
  exact ⟨by rw [hv], hbl⟩
end Go.Proofs.YtfigabiiopcjoaaGreatDoor.divergeNames
