/-
  Proved here: what is known of package variables when the function of SerialOrder is called.
  Conditions: none beyond what the given statement names.
-/
import Derived.Test.YtecppcijmhmapaaGreatDoorRows
import Derived.Test.YtecppcijmhmapaaGreatDoorAtGE
import Derived.Test.YtecppcijmhmapaaGreatDoorRnGC
import Derived.Test.YtecppcijmhmapaaGreatDoorRnGD
import Derived.LaidHandle
namespace Go.Proofs.YtecppcijmhmapaaGreatDoor.serialOrder
open Go.RowKit Go.Rn
open dx
set_option maxRecDepth 100000
theorem progOk : du Tryz.prog := U3 (by kernel_rfl) (by kernel_rfl)
theorem starts (W : World) (hL : laidMetH Tryz.prog Rows.serialOrderRow.laid W) : ∃ ρ, Rn.Start 270 dy ρ W := by
  have hfa := hL.funcs (List.mem_singleton.2 rfl)
  obtain ⟨c, ty, z, h1, h2, h3⟩ := U2 (g := 0) (t := 217) (e := 216) (n := 9) (ps := #[2, 2]) (rs := #[2]) (va := false) (fs := QS) hfa (by kernel_rfl) (by kernel_rfl) (by kernel_rfl) (by kernel_rfl) (by kernel_rfl) (by kernel_rfl) (by kernel_rfl)
  have S : Rn.Start 270 .nil (H9 W) W := ⟨fun g hg => ⟨_, by unfold H9; rw [if_pos hg]⟩, fun k hk => by unfold H9; rw [if_neg (by unfold gj; omega)], fun n o _ h => by rw [Tr.get_nil] at h; cases h⟩
  exact ⟨_, S.U6 (fun _ _ => rfl) (by unfold gj; decide) h1 Hk (by unfold Hk; rw [List.length_map]; unfold top QS; decide) (by unfold Hk; rw [List.length_map]; exact h2) fun i x hx => by
    unfold Hk at hx
    rw [List.getElem?_map] at hx
    cases e : QS[i]? with
    | none => rw [e] at hx; cases hx
    | some f => rw [e] at hx; injection hx with hx; subst hx; exact ⟨by cases f <;> rfl, _, h3 i f e, U4 _ f⟩⟩
end Go.Proofs.YtecppcijmhmapaaGreatDoor.serialOrder
