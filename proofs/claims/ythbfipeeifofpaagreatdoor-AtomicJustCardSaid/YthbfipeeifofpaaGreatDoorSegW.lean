/-
  Proved here: what is known of package variables when the function of AtomicJust is called.
  Conditions: none beyond what the given statement names.
-/
import Derived.Test.YthbfipeeifofpaaGreatDoorRows
import Derived.Test.YthbfipeeifofpaaGreatDoorAtGJ
import Derived.Test.YthbfipeeifofpaaGreatDoorRnGE
import Derived.Test.YthbfipeeifofpaaGreatDoorRnGI
import Derived.LaidHandle
namespace Go.Proofs.YthbfipeeifofpaaGreatDoor.atomicJust
open Go.RowKit Go.Rn
open ch
set_option maxRecDepth 100000
theorem progOk : bR Tryz.prog := alc (by kernel_rfl) (by kernel_rfl)
theorem starts (W : World) (hL : laidMetH Tryz.prog Rows.atomicJustRow.laid W) : ∃ ρ, Rn.Start 270 dF ρ W := by
  have hfa := hL.funcs (List.mem_singleton.2 rfl)
  obtain ⟨c, ty, z, h1, h2, h3⟩ := ak9 (g := 0) (t := 150) (e := 149) (n := 9) (ps := #[2, 2]) (rs := #[2]) (va := false) (fs := aeR) hfa (by kernel_rfl) (by kernel_rfl) (by kernel_rfl) (by kernel_rfl) (by kernel_rfl) (by kernel_rfl) (by kernel_rfl)
  have S : Rn.Start 270 .nil (Ts W) W := ⟨fun g hg => ⟨_, by unfold Ts; rw [if_pos hg]⟩, fun k hk => by unfold Ts; rw [if_neg (by unfold fI; omega)], fun n o _ h => by rw [Tr.get_nil] at h; cases h⟩
  exact ⟨_, S.alk (fun _ _ => rfl) (by unfold fI; decide) h1 Sc (by unfold Sc; rw [List.length_map]; unfold top aeR; decide) (by unfold Sc; rw [List.length_map]; exact h2) fun i x hx => by
    unfold Sc at hx
    rw [List.getElem?_map] at hx
    cases e : aeR[i]? with
    | none => rw [e] at hx; cases hx
    | some f => rw [e] at hx; injection hx with hx; subst hx; exact ⟨by cases f <;> rfl, _, h3 i f e, ald _ f⟩⟩
end Go.Proofs.YthbfipeeifofpaaGreatDoor.atomicJust
