/-
  Proved here: what is known of package variables when the function of AttemptSees is called.
  Conditions: none beyond what the given statement names.
-/
import Derived.Test.YtfjgmdmfnjaoaaaGreatDoorRows
import Derived.Test.YtfjgmdmfnjaoaaaGreatDoorAtGI
import Derived.Test.YtfjgmdmfnjaoaaaGreatDoorRnGE
import Derived.Test.YtfjgmdmfnjaoaaaGreatDoorRnGH
import Derived.LaidHandle
namespace Go.Proofs.YtfjgmdmfnjaoaaaGreatDoor.attemptSees
open Go.RowKit Go.Rn
open cv
set_option maxRecDepth 100000
theorem progOk : bE Tryz.prog := amw (by kernel_rfl) (by kernel_rfl)
theorem starts (W : World) (hL : laidMetH Tryz.prog Rows.attemptSeesRow.laid W) : ∃ ρ, Rn.Start 270 dX ρ W := by
  have hfa := hL.funcs (List.mem_singleton.2 rfl)
  obtain ⟨c, ty, z, h1, h2, h3⟩ := amv (g := 0) (t := 172) (e := 171) (n := 9) (ps := #[2, 2]) (rs := #[2]) (va := false) (fs := afH) hfa (by kernel_rfl) (by kernel_rfl) (by kernel_rfl) (by kernel_rfl) (by kernel_rfl) (by kernel_rfl) (by kernel_rfl)
  have S : Rn.Start 270 .nil (TG W) W := ⟨fun g hg => ⟨_, by unfold TG; rw [if_pos hg]⟩, fun k hk => by unfold TG; rw [if_neg (by unfold fM; omega)], fun n o _ h => by rw [Tr.get_nil] at h; cases h⟩
  exact ⟨_, S.amz (fun _ _ => rfl) (by unfold fM; decide) h1 Sx (by unfold Sx; rw [List.length_map]; unfold top afH; decide) (by unfold Sx; rw [List.length_map]; exact h2) fun i x hx => by
    unfold Sx at hx
    rw [List.getElem?_map] at hx
    cases e : afH[i]? with
    | none => rw [e] at hx; cases hx
    | some f => rw [e] at hx; injection hx with hx; subst hx; exact ⟨by cases f <;> rfl, _, h3 i f e, amx _ f⟩⟩
end Go.Proofs.YtfjgmdmfnjaoaaaGreatDoor.attemptSees
