/-
  Proved here: what is known of package variables when the function of AttemptSnapshot is called.
  Conditions: none beyond what the given statement names.
-/
import Derived.Test.YthjiifomjmdjbaaGreatDoorRows
import Derived.Test.YthjiifomjmdjbaaGreatDoorAtGI
import Derived.Test.YthjiifomjmdjbaaGreatDoorRnGE
import Derived.Test.YthjiifomjmdjbaaGreatDoorRnGH
import Derived.LaidHandle
namespace Go.Proofs.YthjiifomjmdjbaaGreatDoor.attemptSnapshot
open Go.RowKit Go.Rn
open cq
set_option maxRecDepth 100000
theorem progOk : bE Tryz.prog := alK (by kernel_rfl) (by kernel_rfl)
theorem starts (W : World) (hL : laidMetH Tryz.prog Rows.attemptSnapshotRow.laid W) : ∃ ρ, Rn.Start 270 dV ρ W := by
  have hfa := hL.funcs (List.mem_singleton.2 rfl)
  obtain ⟨c, ty, z, h1, h2, h3⟩ := alJ (g := 0) (t := 168) (e := 167) (n := 9) (ps := #[2, 2]) (rs := #[2]) (va := false) (fs := aeX) hfa (by kernel_rfl) (by kernel_rfl) (by kernel_rfl) (by kernel_rfl) (by kernel_rfl) (by kernel_rfl) (by kernel_rfl)
  have S : Rn.Start 270 .nil (Tc W) W := ⟨fun g hg => ⟨_, by unfold Tc; rw [if_pos hg]⟩, fun k hk => by unfold Tc; rw [if_neg (by unfold fN; omega)], fun n o _ h => by rw [Tr.get_nil] at h; cases h⟩
  exact ⟨_, S.alQ (fun _ _ => rfl) (by unfold fN; decide) h1 RY (by unfold RY; rw [List.length_map]; unfold top aeX; decide) (by unfold RY; rw [List.length_map]; exact h2) fun i x hx => by
    unfold RY at hx
    rw [List.getElem?_map] at hx
    cases e : aeX[i]? with
    | none => rw [e] at hx; cases hx
    | some f => rw [e] at hx; injection hx with hx; subst hx; exact ⟨by cases f <;> rfl, _, h3 i f e, alL _ f⟩⟩
end Go.Proofs.YthjiifomjmdjbaaGreatDoor.attemptSnapshot
