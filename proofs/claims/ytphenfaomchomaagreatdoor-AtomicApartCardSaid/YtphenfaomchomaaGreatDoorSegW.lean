/-
  Proved here: what is known of package variables when the function of AtomicApart is called.
  Conditions: none beyond what the given statement names.
-/
import Derived.Test.YtphenfaomchomaaGreatDoorRows
import Derived.Test.YtphenfaomchomaaGreatDoorAtGJ
import Derived.Test.YtphenfaomchomaaGreatDoorRnGE
import Derived.Test.YtphenfaomchomaaGreatDoorRnGI
import Derived.LaidHandle
namespace Go.Proofs.YtphenfaomchomaaGreatDoor.atomicApart
open Go.RowKit Go.Rn
open cj
set_option maxRecDepth 100000
theorem progOk : bS Tryz.prog := alx (by kernel_rfl) (by kernel_rfl)
theorem starts (W : World) (hL : laidMetH Tryz.prog Rows.atomicApartRow.laid W) : ∃ ρ, Rn.Start 270 dH ρ W := by
  have hfa := hL.funcs (List.mem_singleton.2 rfl)
  obtain ⟨c, ty, z, h1, h2, h3⟩ := alu (g := 0) (t := 148) (e := 147) (n := 9) (ps := #[2, 2]) (rs := #[2]) (va := false) (fs := afc) hfa (by kernel_rfl) (by kernel_rfl) (by kernel_rfl) (by kernel_rfl) (by kernel_rfl) (by kernel_rfl) (by kernel_rfl)
  have S : Rn.Start 270 .nil (TO W) W := ⟨fun g hg => ⟨_, by unfold TO; rw [if_pos hg]⟩, fun k hk => by unfold TO; rw [if_neg (by unfold fL; omega)], fun n o _ h => by rw [Tr.get_nil] at h; cases h⟩
  exact ⟨_, S.alF (fun _ _ => rfl) (by unfold fL; decide) h1 SA (by unfold SA; rw [List.length_map]; unfold top afc; decide) (by unfold SA; rw [List.length_map]; exact h2) fun i x hx => by
    unfold SA at hx
    rw [List.getElem?_map] at hx
    cases e : afc[i]? with
    | none => rw [e] at hx; cases hx
    | some f => rw [e] at hx; injection hx with hx; subst hx; exact ⟨by cases f <;> rfl, _, h3 i f e, aly _ f⟩⟩
end Go.Proofs.YtphenfaomchomaaGreatDoor.atomicApart
