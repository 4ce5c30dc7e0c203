/-
  Proved here: what is known of package variables when the function of AuditTells is called.
  Conditions: none beyond what the given statement names.
-/
import Derived.Test.YtgnieaajkdangaaDoorRows
import Derived.Test.YtgnieaajkdangaaDoorAtGH
import Derived.Test.YtgnieaajkdangaaDoorRnGE
import Derived.Test.YtgnieaajkdangaaDoorRnGG
import Derived.LaidHandle
namespace Go.Proofs.YtgnieaajkdangaaDoor.auditTells
open Go.RowKit Go.Rn
open cd
set_option maxRecDepth 100000
theorem progOk : fa Tryd.prog := aeh (by kernel_rfl) (by kernel_rfl)
theorem starts (W : World) (hL : laidMetH Tryd.prog Rows.auditTellsRow.laid W) : ∃ ρ, Rn.Start 270 eD ρ W := by
  have hk := hL.funcs (List.mem_cons_of_mem _ (List.mem_cons_of_mem _ (List.mem_cons_self)))
  obtain ⟨c, ty, z, k1, k2, rows, k3⟩ := aec (g := 0) (l := BX) hk (by kernel_rfl) (by kernel_rfl) Tryd.underlying109 Tryd.underlying108 (by kernel_rfl) ⟨rfl, rfl⟩ ⟨rfl, rfl⟩ Tryd.underlying9 (by kernel_rfl) Tryd.underlying107 (by kernel_rfl) Tryd.underlying111 (by kernel_rfl) (by kernel_rfl) (by kernel_rfl)
  obtain ⟨ρ, S, low⟩ := aed (g := 0) (l := BX) (by unfold fb; decide) (by unfold fb top BX; decide) (by unfold top BX; decide) (by unfold top BX; decide) k1 k2 k3
  have hd : laidMet Tryd.prog [("math/bits.deBruijn32tab", Rows.laid_math_bits_deBruijn32tab), ("seesaw/seesawref12.names", Rows.laid_seesaw_seesawref12_names)] W := (show laidMet Tryd.prog _ W ∧ handlesMet Tryd.prog _ W from hL).1
  obtain ⟨ci0, tyi0, zi0, DL, i20, i30⟩ := aef (g := 1) (k := .u8) (l := Y9) (aee hd (List.mem_cons_self)) (by kernel_rfl) (by kernel_rfl) Tryd.underlying113 Tryd.underlying5 (by kernel_rfl) (by kernel_rfl) (by kernel_rfl)
  have S0 := S.T7 low (g := 1) (by unfold fb; decide) DL K2 (by unfold K2; rw [List.length_map]; unfold top Y9; decide) (by unfold K2; rw [List.length_map]; exact i20) (fun i x hx => by
    unfold K2 at hx
    rw [List.getElem?_map] at hx
    cases e : Y9[i]? with
    | none => rw [e] at hx; cases hx
    | some m => rw [e] at hx; injection hx with hx; subst hx; exact ⟨rfl, _, i30 i m e, by simp only [VR]⟩)
  obtain ⟨ci1, tyi1, zi1, xQ, i21, i31⟩ := aeg (g := 2) (l := BX.map (·.1)) (aee hd (List.mem_cons_of_mem _ (List.mem_cons_self))) (by kernel_rfl) (by kernel_rfl) Tryd.underlying114 Tryd.underlying9 (by kernel_rfl) (by kernel_rfl) (by kernel_rfl)
  have S1 := S0.T7 low (g := 2) (by unfold fb; decide) xQ K3 (by unfold K3; rw [List.length_map]; unfold top BX; decide) (by unfold K3; rw [List.length_map]; exact (by have := i21; rw [List.length_map] at this; exact this)) (fun i x hx => by
    unfold K3 at hx
    rw [List.getElem?_map] at hx
    cases e : BX[i]? with
    | none => rw [e] at hx; cases hx
    | some m => rw [e] at hx; injection hx with hx; subst hx; exact ⟨rfl, _, i31 i m.1 (by rw [List.getElem?_map, e]; rfl), by simp only [VR]⟩)
  exact ⟨ρ, S1⟩
end Go.Proofs.YtgnieaajkdangaaDoor.auditTells
