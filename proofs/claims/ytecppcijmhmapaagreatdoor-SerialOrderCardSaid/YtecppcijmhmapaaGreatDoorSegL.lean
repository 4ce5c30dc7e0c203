/-
  Proved here: the row of the statement SerialOrder: for any values and any history.
  Conditions: those that the given statement names, and no others.
-/
import Derived.Test.YtecppcijmhmapaaGreatDoorAtGF
import Derived.Test.YtecppcijmhmapaaGreatDoorSegW
import Derived.Test.YtecppcijmhmapaaGreatDoorSegD
import Derived.ChangeSame
import Derived.ChangeVars
import Derived.ChangeOld
import Derived.Carry
import Derived.JoinedOf
import Derived.RowKit
import Derived.RowKitTokens
import Derived.LaidLaws
import Derived.LaidHandle
import Derived.LaidMore
import Derived.WalkKit
import Derived.ProofKit
import Derived.OpenShut
import Derived.Stop.Joined
namespace Go.Proofs.YtecppcijmhmapaaGreatDoor.serialOrder
open Go.ChangeShapes Go.WideShapes Go.ChangeAt Go.RowKit Go.Rn
open dx R6
set_option maxRecDepth 100000
theorem laidOut : laidOutB Tryz.prog = true := by kernel_rfl
theorem rd22 : Tryz.prog.readableRec 22 = true := by kernel_rfl
theorem rd23 : Tryz.prog.readableRec 23 = true := by kernel_rfl
theorem at22 : 22 < Tryz.prog.types.size := of_decide_eq_true (by kernel_rfl)
theorem at23 : 23 < Tryz.prog.types.size := of_decide_eq_true (by kernel_rfl)
theorem lifted (os : Os) (started : os.Started) (H : Type) (enc : TypeId × Value → H) :
    ReturnsInHanded {} Tryz.checked os 3 .any (fun w args => (Rows.serialOrderSpec.pre enc Tryz.prog Tryz.f3 [] false w args ∧ laidMetH Tryz.prog Rows.serialOrderRow.laid w) ∧ sizedMet enc Tryz.prog Tryz.f3 (OpenSpec.ofChange Rows.serialOrderSpec) false w args)
      (Rows.serialOrderSpec.post enc Tryz.prog Tryz.f3 false true false false) := by
  refine returnsInHanded_of_change_and (C := Tryz.checked) (X := fun w _ => laidMetH Tryz.prog Rows.serialOrderRow.laid w) (fun _ _ _ hh h => h.of_heap hh) own started (by as_aux_lemma => kernel_rfl) Tryz.func3
    (ChangeSpec.witness_shaped (enc := enc) (C := Tryz.checked) (os := os) (X := fun w _ => laidMetH Tryz.prog Rows.serialOrderRow.laid w) false (World.doorLaid Tryz.prog 14 os) #[.slice none 0 0, .slice none 0 0] 8 rfl (World.shaped_of_RefB (by as_aux_lemma => kernel_rfl) (by as_aux_lemma => kernel_rfl)) (by as_aux_lemma => kernel_rfl) (by as_aux_lemma => kernel_rfl) (by as_aux_lemma => kernel_rfl) (door_met os _)) ?_
  intro W base args ds gs before hval0 hW _ _ hL _
  have iG : ∀ (j : Nat) t v, Tryz.f3.params[j]? = some t → args[j]? = some v → Value.okWide Tryz.prog W .any base t v := hval0
  have hW' := hW
  have aW := hW.lt
  obtain ⟨p, q, hA0, hV, rfl, Tm, pS⟩ := hW
  have hA : DataW.TrodAll enc Tryz.prog W 0 (fun _ => true) true Tryz.f3.params.toList args.toList ds p := hA0
  rw [Tryz.params3] at hA iG
  obtain ⟨va, l1, da, d1, pa, p1, xH, rfl, rfl, h1, hA⟩ := trodAll_cons hA
  obtain ⟨vb, l2, db, d2, pb, p2, rfl, rfl, rfl, h2, hA⟩ := trodAll_cons hA
  obtain ⟨rfl, rfl, rfl⟩ := trodAll_nil hA
  obtain rfl : args = #[va, vb] := by cases args; simp_all
  obtain ⟨rfl, rfl⟩ := trodVars_none hV
  obtain ⟨ini, m1, g1, i1⟩ := U9 (iG 0 22 va rfl rfl) h1
  obtain ⟨hist, m2, g2, i2⟩ := Vc (iG 1 23 vb rfl rfl) h2
  obtain ⟨ρ, S⟩ := starts W hL
  clear hA0 hval0
  simp only [List.append_nil] at hW' aW
  refine (Vd progOk W S g1 i1 g2 i2).mono fun e W' ⟨he, hg⟩ => ?_
  subst he
  refine ⟨_, rfl, _, _, _, [], pa ++ pb, [], hW', ?_, ?_, ?_, hg.frame _, fun h => by cases h⟩
  · exact trodAll_mk1 (shut_bool Tryz.underlying4 true)
  · exact ⟨pa, _, Below.trod laidOut rd22 at22 h1 hg (fun x hx => aW x (by simp [hx])), trodAll_mk1 (Below.trod laidOut rd23 at23 h2 hg (fun x hx => aW x (by simp [hx]))), rfl⟩
  · rfl
end Go.Proofs.YtecppcijmhmapaaGreatDoor.serialOrder
