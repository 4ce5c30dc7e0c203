/- Each operation of a region; regions in the row of their text. -/
import Derived.Test.YtcjmdcndalcomaaGreatDoorRnMach1
namespace Go.Rn
open Go.RowKit

section
variable {P : Program} {B : Nat} {ρ : Ren} {w : World} {s s1 : AS} {x : AV} {call : Caller} {t : Tr AV} {o : Oper}

theorem op_sim {a : Act} {nt : Nat} (hc : CallSim P B call) (ht : TR ρ nt t a.tmps) (hg : RenG ρ) (fi : Fine s) (r : Rel B ρ s.h w) (hf : Free s.nx s1.nx ρ) (h : (opB P o.op).val call t s = .ok x s1) :
    (∀ c, o.op ≠ .defer c) ∧ Back P ((execOp a.eval o).run P w) (Came B ρ s s1 w x) := by
  have he : ∀ x v, opd t x = some v → VR ρ v (a.eval x) := fun x v => opd_sim ht hg
  cases hop : o.op
  all_goals rw [hop] at h
  case move y => exact ⟨by simp, (sim_kMove (call := call) he r h (.inl hop)).back⟩
  case assign y => exact ⟨by simp, (sim_kMove (call := call) he r h (.inr hop)).back⟩
  case pick c p q => exact ⟨by simp, (sim_kPick (call := call) he r h hop).back⟩
  case alloc e => exact ⟨by simp, (sim_kAlloc (call := call) (t := t) r hf h hop).back⟩
  case box e y => exact ⟨by simp, (sim_kBox (call := call) he r hf h hop).back⟩
  case build ty parts => exact ⟨by simp, (sim_kBuild (call := call) he r h hop).back⟩
  case buildSlice ty len parts => exact ⟨by simp, (sim_kBuildSlice (call := call) he r hf h hop).back⟩
  case load ty y => exact ⟨by simp, (sim_kLoad (call := call) he fi r h hop).back⟩
  case store ty y z => exact ⟨by simp, (sim_kStore (call := call) he fi r h hop).back⟩
  case nilCheck y => exact ⟨by simp, (sim_kNilCheck (call := call) he r h hop).back⟩
  case binOp op ty y z u => exact ⟨by simp, (sim_kBin (call := call) he r h hop).back⟩
  case unOp op ty y => exact ⟨by simp, (sim_kUn (call := call) he r h hop).back⟩
  case convert src dst y => exact ⟨by simp, (sim_kConvert (call := call) he fi r h hop).back⟩
  case makeInterface ty y => exact ⟨by simp, (sim_kMakeInterface (call := call) he r h hop).back⟩
  case makeFunc fn first captured => exact ⟨by simp, (sim_kMakeFunc (call := call) he r h hop).back⟩
  case makeMap ty y => exact ⟨by simp, (sim_kMakeMap (call := call) he r hf h hop).back⟩
  case makeSlice ty l c => exact ⟨by simp, (sim_kMakeSlice (call := call) he r hf h hop).back⟩
  case slice ty y lo hi mx => exact ⟨by simp, (sim_kSlice (call := call) he r h hop).back⟩
  case fieldAddr ty y f => exact ⟨by simp, (sim_kFieldAddr (call := call) he r h hop).back⟩
  case field ty y f => exact ⟨by simp, (sim_kField (call := call) he r h hop).back⟩
  case indexAddr ty y z => exact ⟨by simp, (sim_kIndexAddr (call := call) he r h hop).back⟩
  case index ty y z => exact ⟨by simp, (sim_kIndex (call := call) he r h hop).back⟩
  case lookup ty y z ok => exact ⟨by simp, (sim_kLookup (call := call) he fi r h hop).back⟩
  case mapUpdate ty m k y => exact ⟨by simp, (sim_kMapPut (call := call) he fi r h (.inl hop)).back⟩
  case insert ty m k y => exact ⟨by simp, (sim_kMapPut (call := call) he fi r h (.inr hop)).back⟩
  case typeAssert y xt asserted ok => exact ⟨by simp, (sim_kAssert (call := call) he r h hop).back⟩
  case range ty y => exact ⟨by simp, (sim_kRange (call := call) he fi r hf h hop).back⟩
  case entry y => exact ⟨by simp, (sim_kEntry (call := call) he fi r h hop).back⟩
  case extract y i => exact ⟨by simp, (sim_kExtract (call := call) he r h hop).back⟩
  case call c =>
    obtain ⟨callee, args, ts⟩ := c
    cases callee with
    | builtin b => exact ⟨by simp, (sim_kBuiltin (call := call) he fi r hf h hop).back⟩
    | value f => exact ⟨by simp, sim_kCall hc he hg fi r hf h hop⟩
    | invoke recv name => exact ⟨by simp, sim_kInvoke hc he hg fi r hf h hop⟩
  all_goals (exact absurd (show (fail : M AV) s = .ok x s1 from h) (by intro e; cases e))
end
end Go.Rn
