/-
  Proved here: the function of the closed statement AttemptNames, called in any world, returns true, and leaves what was there as it was.
  Conditions: those that the given statement names, and no others.
-/
import Derived.Test.YtfgamllkaonamaaGreatDoorRows
import Derived.Test.YtfgamllkaonamaaGreatDoorRnProg
import Derived.KernelRfl
import Derived.ChangeSame
import Derived.ChangeVars
import Derived.JoinedOf
import Derived.RowKit
import Derived.RowKitTokens
import Derived.LaidLaws
import Derived.LaidHandle
import Derived.WalkKit
import Derived.ProofKit
import Derived.OpenShut
import Derived.Stop.Joined
namespace Go.Proofs.YtfgamllkaonamaaGreatDoor.attemptNames
open Go.ChangeShapes Go.WideShapes Go.ChangeAt Go.RowKit Go.Rn

theorem own : ownKnob Tryz.prog.godebug = none := by kernel_rfl
theorem mixed : Tryz.prog.follows .mixedOrders = true := by kernel_rfl
theorem sound : progB Tryz.prog = true := by kernel_rfl
theorem progOk : ProgOk Tryz.prog := progOk_of mixed sound
noncomputable def saysTrue (r : R AV) : Bool := match r with
  | .ok (.bool b) _ => b
  | _ => false
theorem run : saysTrue (arun Tryz.prog (fun _ => 0) 60 (.fn 3) [] ⟨.nil, globs, 0, [], []⟩) = true := by kernel_rfl
theorem saysTrue_inv {r : R AV} (h : saysTrue r = true) : ∃ s, r = .ok (.bool true) s := by
  unfold saysTrue at h
  split at h
  · rename_i b s; subst h; exact ⟨s, rfl⟩
  · cases h
theorem unknown (W : World) : Known W .nil := fun n o _ h => by rw [Tr.get_nil] at h; cases h

theorem walk (w : World) : Calls Tryz.prog 3 #[] w fun e w' => e = .returned (.bool true) ∧ Below w.heap.size w w' := by
  obtain ⟨s, hs⟩ := saysTrue_inv run
  have hb : ∃ body, Tryz.f3.body = some body := ⟨_, rfl⟩
  obtain ⟨body, hb⟩ := hb
  refine (closed_calls progOk (noWays _ _) Tryz.func3 hb (by kernel_rfl) (unknown w) hs).mono fun e w' => ?_
  rintro ⟨v, rfl, ⟨σ, hv⟩, hbl⟩
  simp only [VR] at hv
  exact ⟨by rw [hv], hbl⟩
end Go.Proofs.YtfgamllkaonamaaGreatDoor.attemptNames
