/-
  Proved here: what is known of package variables when the function of AttemptRow is called.
  Conditions: none beyond what the given statement names.
-/
import Derived.Test.YtaooegdfpnfncaaGreatDoorRows
import Derived.Test.YtaooegdfpnfncaaGreatDoorAtGE
import Derived.Test.YtaooegdfpnfncaaGreatDoorRnGC
import Derived.Test.YtaooegdfpnfncaaGreatDoorRnGD
import Derived.LaidHandle
namespace Go.Proofs.YtaooegdfpnfncaaGreatDoor.attemptRow
open Go.RowKit Go.Rn
open cr
set_option maxRecDepth 100000
theorem progOk : bB Tryz.prog := anC (by kernel_rfl) (by kernel_rfl)
theorem starts (W : World) (hL : laidMetH Tryz.prog Rows.attemptRowRow.laid W) : ∃ ρ, Rn.Start 270 dV ρ W := by
  have hfa := hL.funcs (List.mem_singleton.2 rfl)
  obtain ⟨c, ty, z, h1, h2, h3⟩ := anB (g := 0) (t := 188) (e := 187) (n := 9) (ps := #[2, 2]) (rs := #[2]) (va := false) (fs := ag0) hfa (by kernel_rfl) (by kernel_rfl) (by kernel_rfl) (by kernel_rfl) (by kernel_rfl) (by kernel_rfl) (by kernel_rfl)
  have S : Rn.Start 270 .nil (U0 W) W := ⟨fun g hg => ⟨_, by unfold U0; rw [if_pos hg]⟩, fun k hk => by unfold U0; rw [if_neg (by unfold fH; omega)], fun n o _ h => by rw [Tr.get_nil] at h; cases h⟩
  exact ⟨_, S.anF (fun _ _ => rfl) (by unfold fH; decide) h1 TL (by unfold TL; rw [List.length_map]; unfold top ag0; decide) (by unfold TL; rw [List.length_map]; exact h2) fun i x hx => by
    unfold TL at hx
    rw [List.getElem?_map] at hx
    cases e : ag0[i]? with
    | none => rw [e] at hx; cases hx
    | some f => rw [e] at hx; injection hx with hx; subst hx; exact ⟨by cases f <;> rfl, _, h3 i f e, anD _ f⟩⟩
end Go.Proofs.YtaooegdfpnfncaaGreatDoor.attemptRow
