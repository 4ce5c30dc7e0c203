/-
  Proved here: the row of the statement AtomicOne: for any setup and any jobs.
  Conditions: those that the given statement names, and no others.
-/
import Derived.Test.YtjcfiaeoopphoaaDoorAtGG
import Derived.Test.YtjcfiaeoopphoaaDoorSegW
import Derived.Test.YtjcfiaeoopphoaaDoorSegD
import Derived.ChangeSame
import Derived.ChangeVars
import Derived.ChangeOld
import Derived.Carry
import Derived.JoinedOf
import Derived.RowKit
import Derived.RowKitTokens
import Derived.LaidLaws
import Derived.LaidHandle
import Derived.LaidMore
import Derived.WalkKit
import Derived.ProofKit
import Derived.OpenShut
import Derived.Stop.Joined
namespace Go.Proofs.YtjcfiaeoopphoaaDoor.atomicOne
open Go.ChangeShapes Go.WideShapes Go.ChangeAt Go.RowKit Go.Rn
open cj aly
set_option maxRecDepth 100000
theorem laidOut : laidOutB Tryd.prog = true := by kernel_rfl
theorem rd25 : Tryd.prog.readableRec 25 = true := by kernel_rfl
theorem rd26 : Tryd.prog.readableRec 26 = true := by kernel_rfl
theorem at25 : 25 < Tryd.prog.types.size := of_decide_eq_true (by kernel_rfl)
theorem at26 : 26 < Tryd.prog.types.size := of_decide_eq_true (by kernel_rfl)
theorem lifted (os : Os) (started : os.Started) (H : Type) (enc : TypeId × Value → H) :
    ReturnsInHanded {} Tryd.checked os 3 .any (fun w args => (Rows.atomicOneSpec.pre enc Tryd.prog Tryd.f3 [] false w args ∧ laidMetH Tryd.prog Rows.atomicOneRow.laid w) ∧ sizedMet enc Tryd.prog Tryd.f3 (OpenSpec.ofChange Rows.atomicOneSpec) false w args)
      (Rows.atomicOneSpec.post enc Tryd.prog Tryd.f3 false true false false) := by
  refine returnsInHanded_of_change_and (C := Tryd.checked) (X := fun w _ => laidMetH Tryd.prog Rows.atomicOneRow.laid w) (fun _ _ _ hh h => h.of_heap hh) own started (by as_aux_lemma => kernel_rfl) Tryd.func3
    (ChangeSpec.witness_shaped (enc := enc) (C := Tryd.checked) (os := os) (X := fun w _ => laidMetH Tryd.prog Rows.atomicOneRow.laid w) false (World.doorLaid Tryd.prog 14 os) #[.agg #[.int .i64 0, .int .i64 0, .int .i64 0, .slice none 0 0, .slice none 0 0], .slice none 0 0] 8 rfl (World.shaped_of_RefB (by as_aux_lemma => kernel_rfl) (by as_aux_lemma => kernel_rfl)) (by as_aux_lemma => kernel_rfl) (by as_aux_lemma => kernel_rfl) (by as_aux_lemma => kernel_rfl) (door_met os _)) ?_
  intro W base args ds gs before hval0 hW _ _ hL _
  have eX : ∀ (j : Nat) t v, Tryd.f3.params[j]? = some t → args[j]? = some v → Value.okWide Tryd.prog W .any base t v := hval0
  have hW' := hW
  have ct := hW.lt
  obtain ⟨p, q, hA0, hV, rfl, hfz, A9⟩ := hW
  have hA : DataW.TrodAll enc Tryd.prog W 0 (fun _ => true) true Tryd.f3.params.toList args.toList ds p := hA0
  rw [Tryd.params3] at hA eX
  obtain ⟨va, l1, da, d1, pa, p1, QK, rfl, rfl, h1, hA⟩ := trodAll_cons hA
  obtain ⟨vb, l2, db, d2, pb, p2, rfl, rfl, rfl, h2, hA⟩ := trodAll_cons hA
  obtain ⟨rfl, rfl, rfl⟩ := trodAll_nil hA
  obtain rfl : args = #[va, vb] := by cases args; simp_all
  obtain ⟨rfl, rfl⟩ := trodVars_none hV
  obtain ⟨st, m1, kq, g1, i1⟩ := Lj (eX 0 25 va rfl rfl) h1
  obtain ⟨bg, m2, g2, i2⟩ := aog (eX 1 26 vb rfl rfl) h2
  obtain ⟨ρ, S⟩ := starts W hL
  clear hA0 hval0
  simp only [List.append_nil] at hW' ct
  refine (aoi progOk W S kq g1 i1 g2 i2).mono fun e W' ⟨he, hg⟩ => ?_
  subst he
  refine ⟨_, rfl, _, _, _, [], pa ++ pb, [], hW', ?_, ?_, ?_, hg.frame _, fun h => by cases h⟩
  · exact trodAll_mk1 (shut_bool Tryd.underlying4 true)
  · exact ⟨pa, _, Below.trod laidOut rd25 at25 h1 hg (fun x hx => ct x (by simp [hx])), trodAll_mk1 (Below.trod laidOut rd26 at26 h2 hg (fun x hx => ct x (by simp [hx]))), rfl⟩
  · rfl
end Go.Proofs.YtjcfiaeoopphoaaDoor.atomicOne
