/-
  Proved here: what is known of package variables when the function of ReliveRow is called.
  Conditions: none beyond what the given statement names.
-/
import Derived.Test.YtodklcjkfnagpaaGreatDoorRows
import Derived.Test.YtodklcjkfnagpaaGreatDoorAtGE
import Derived.Test.YtodklcjkfnagpaaGreatDoorRnGC
import Derived.Test.YtodklcjkfnagpaaGreatDoorRnGD
import Derived.LaidHandle
namespace Go.Proofs.YtodklcjkfnagpaaGreatDoor.reliveRow
open Go.RowKit Go.Rn
open dP
set_option maxRecDepth 100000
theorem progOk : dp Tryz.prog := Sv (by kernel_rfl) (by kernel_rfl)
theorem starts (W : World) (hL : laidMetH Tryz.prog Rows.reliveRowRow.laid W) : ∃ ρ, Rn.Start 270 dI ρ W := by
  have hfa := hL.funcs (List.mem_singleton.2 rfl)
  obtain ⟨c, ty, z, h1, h2, h3⟩ := Su (g := 0) (t := 170) (e := 169) (n := 9) (ps := #[2, 2]) (rs := #[2]) (va := false) (fs := OH) hfa (by kernel_rfl) (by kernel_rfl) (by kernel_rfl) (by kernel_rfl) (by kernel_rfl) (by kernel_rfl) (by kernel_rfl)
  have S : Rn.Start 270 .nil (Gu W) W := ⟨fun g hg => ⟨_, by unfold Gu; rw [if_pos hg]⟩, fun k hk => by unfold Gu; rw [if_neg (by unfold fw; omega)], fun n o _ h => by rw [Tr.get_nil] at h; cases h⟩
  exact ⟨_, S.Sz (fun _ _ => rfl) (by unfold fw; decide) h1 FG (by unfold FG; rw [List.length_map]; unfold top OH; decide) (by unfold FG; rw [List.length_map]; exact h2) fun i x hx => by
    unfold FG at hx
    rw [List.getElem?_map] at hx
    cases e : OH[i]? with
    | none => rw [e] at hx; cases hx
    | some f => rw [e] at hx; injection hx with hx; subst hx; exact ⟨by cases f <;> rfl, _, h3 i f e, Sw _ f⟩⟩
end Go.Proofs.YtodklcjkfnagpaaGreatDoor.reliveRow
