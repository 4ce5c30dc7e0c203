/-
  Proved here: what is known of package variables when the function of AtomicOne is called.
  Conditions: none beyond what the given statement names.
-/
import Derived.Test.YtjcfiaeoopphoaaDoorRows
import Derived.Test.YtjcfiaeoopphoaaDoorAtGD
import Derived.Test.YtjcfiaeoopphoaaDoorRnGB
import Derived.Test.YtjcfiaeoopphoaaDoorRnGC
import Derived.LaidHandle
namespace Go.Proofs.YtjcfiaeoopphoaaDoor.atomicOne
open Go.RowKit Go.Rn
open cj
set_option maxRecDepth 100000
theorem progOk : bY Tryd.prog := aoc (by kernel_rfl) (by kernel_rfl)
theorem starts (W : World) (hL : laidMetH Tryd.prog Rows.atomicOneRow.laid W) : ∃ ρ, Rn.Start 270 dk ρ W := by
  have hfa := hL.funcs (List.mem_singleton.2 rfl)
  obtain ⟨c, ty, z, h1, h2, h3⟩ := an9 (g := 0) (t := 150) (e := 149) (n := 9) (ps := #[2, 2]) (rs := #[2]) (va := false) (fs := ahr) hfa (by kernel_rfl) (by kernel_rfl) (by kernel_rfl) (by kernel_rfl) (by kernel_rfl) (by kernel_rfl) (by kernel_rfl)
  have S : Rn.Start 270 .nil (VL W) W := ⟨fun g hg => ⟨_, by unfold VL; rw [if_pos hg]⟩, fun k hk => by unfold VL; rw [if_neg (by unfold fY; omega)], fun n o _ h => by rw [Tr.get_nil] at h; cases h⟩
  exact ⟨_, S.aof (fun _ _ => rfl) (by unfold fY; decide) h1 Uv (by unfold Uv; rw [List.length_map]; unfold top ahr; decide) (by unfold Uv; rw [List.length_map]; exact h2) fun i x hx => by
    unfold Uv at hx
    rw [List.getElem?_map] at hx
    cases e : ahr[i]? with
    | none => rw [e] at hx; cases hx
    | some f => rw [e] at hx; injection hx with hx; subst hx; exact ⟨by cases f <;> rfl, _, h3 i f e, aod _ f⟩⟩
end Go.Proofs.YtjcfiaeoopphoaaDoor.atomicOne
