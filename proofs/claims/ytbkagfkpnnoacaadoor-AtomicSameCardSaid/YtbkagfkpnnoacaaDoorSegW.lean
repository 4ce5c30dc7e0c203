/-
  Proved here: what is known of package variables at the call.
  Conditions: none beyond what the given statement names.
-/
import Derived.Test.YtbkagfkpnnoacaaDoorRows
import Derived.Test.YtbkagfkpnnoacaaDoorAtGJ
import Derived.Test.YtbkagfkpnnoacaaDoorRnGE
import Derived.Test.YtbkagfkpnnoacaaDoorRnGI
import Derived.LaidHandle
namespace Go.Proofs.YtbkagfkpnnoacaaDoor.atomicSame
open Go.RowKit Go.Rn
open ch
set_option maxRecDepth 100000
theorem progOk : bS Tryd.prog := als (by kernel_rfl) (by kernel_rfl)
theorem starts (W : World) (hL : laidMetH Tryd.prog Rows.atomicSameRow.laid W) : ∃ ρ, Rn.Start 270 dG ρ W := by
  have hfa := hL.funcs (List.mem_singleton.2 rfl)
  obtain ⟨c, ty, z, h1, h2, h3⟩ := alo (g := 0) (t := 147) (e := 146) (n := 9) (ps := #[2, 2]) (rs := #[2]) (va := false) (fs := ae6) hfa (by kernel_rfl) (by kernel_rfl) (by kernel_rfl) (by kernel_rfl) (by kernel_rfl) (by kernel_rfl) (by kernel_rfl)
  have S : Rn.Start 270 .nil (TC W) W := ⟨fun g hg => ⟨_, by unfold TC; rw [if_pos hg]⟩, fun k hk => by unfold TC; rw [if_neg (by unfold fI; omega)], fun n o _ h => by rw [Tr.get_nil] at h; cases h⟩
  exact ⟨_, S.alB (fun _ _ => rfl) (by unfold fI; decide) h1 Sk (by unfold Sk; rw [List.length_map]; unfold top ae6; decide) (by unfold Sk; rw [List.length_map]; exact h2) fun i x hx => by
    unfold Sk at hx
    rw [List.getElem?_map] at hx
    cases e : ae6[i]? with
    | none => rw [e] at hx; cases hx
    | some f => rw [e] at hx; injection hx with hx; subst hx; exact ⟨by cases f <;> rfl, _, h3 i f e, alu _ f⟩⟩
end Go.Proofs.YtbkagfkpnnoacaaDoor.atomicSame
