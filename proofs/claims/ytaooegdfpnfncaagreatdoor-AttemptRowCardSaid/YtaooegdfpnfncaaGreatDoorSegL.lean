/-
  Proved here: the row of the statement AttemptRow: for any transaction, any values of the heap, any number of stripes, any returned values and any turns.
  Conditions: those that the given statement names, and no others.
-/
import Derived.Test.YtaooegdfpnfncaaGreatDoorAtGG
import Derived.Test.YtaooegdfpnfncaaGreatDoorSegW
import Derived.Test.YtaooegdfpnfncaaGreatDoorSegD
import Derived.ChangeSame
import Derived.ChangeVars
import Derived.ChangeOld
import Derived.Carry
import Derived.JoinedOf
import Derived.RowKit
import Derived.RowKitTokens
import Derived.LaidLaws
import Derived.LaidHandle
import Derived.LaidMore
import Derived.WalkKit
import Derived.ProofKit
import Derived.OpenShut
import Derived.Stop.Joined
namespace Go.Proofs.YtaooegdfpnfncaaGreatDoor.attemptRow
open Go.ChangeShapes Go.WideShapes Go.ChangeAt Go.RowKit Go.Rn
open cr ajF
set_option maxRecDepth 100000
theorem laidOut : laidOutB Tryz.prog = true := by kernel_rfl
theorem rd22 : Tryz.prog.readableRec 22 = true := by kernel_rfl
theorem rd23 : Tryz.prog.readableRec 23 = true := by kernel_rfl
theorem rd3 : Tryz.prog.readableRec 3 = true := by kernel_rfl
theorem rd24 : Tryz.prog.readableRec 24 = true := by kernel_rfl
theorem at22 : 22 < Tryz.prog.types.size := of_decide_eq_true (by kernel_rfl)
theorem at23 : 23 < Tryz.prog.types.size := of_decide_eq_true (by kernel_rfl)
theorem at3 : 3 < Tryz.prog.types.size := of_decide_eq_true (by kernel_rfl)
theorem at24 : 24 < Tryz.prog.types.size := of_decide_eq_true (by kernel_rfl)
theorem lifted (os : Os) (started : os.Started) (H : Type) (enc : TypeId × Value → H) :
    ReturnsInHanded {} Tryz.checked os 3 .any (fun w args => (Rows.attemptRowSpec.pre enc Tryz.prog Tryz.f3 [] false w args ∧ laidMetH Tryz.prog Rows.attemptRowRow.laid w) ∧ sizedMet enc Tryz.prog Tryz.f3 (OpenSpec.ofChange Rows.attemptRowSpec) false w args)
      (Rows.attemptRowSpec.post enc Tryz.prog Tryz.f3 false true false false) := by
  refine returnsInHanded_of_change_and (C := Tryz.checked) (X := fun w _ => laidMetH Tryz.prog Rows.attemptRowRow.laid w) (fun _ _ _ hh h => h.of_heap hh) own started (by as_aux_lemma => kernel_rfl) Tryz.func3
    (ChangeSpec.witness_shaped (enc := enc) (C := Tryz.checked) (os := os) (X := fun w _ => laidMetH Tryz.prog Rows.attemptRowRow.laid w) false (World.doorLaid Tryz.prog 14 os) #[.slice none 0 0, .slice none 0 0, .int .i64 0, .slice none 0 0, .slice none 0 0] 8 rfl (World.shaped_of_RefB (by as_aux_lemma => kernel_rfl) (by as_aux_lemma => kernel_rfl)) (by as_aux_lemma => kernel_rfl) (by as_aux_lemma => kernel_rfl) (by as_aux_lemma => kernel_rfl) (door_met os _)) ?_
  intro W base args ds gs before hval0 hW _ _ hL _
  have eK : ∀ (j : Nat) t v, Tryz.f3.params[j]? = some t → args[j]? = some v → Value.okWide Tryz.prog W .any base t v := hval0
  have hW' := hW
  have cF := hW.lt
  obtain ⟨p, q, hA0, hV, rfl, hfz, FQ⟩ := hW
  have hA : DataW.TrodAll enc Tryz.prog W 0 (fun _ => true) true Tryz.f3.params.toList args.toList ds p := hA0
  rw [Tryz.params3] at hA eK
  obtain ⟨va, l1, da, d1, pa, p1, Ql, rfl, rfl, h1, hA⟩ := trodAll_cons hA
  obtain ⟨vb, l2, db, d2, pb, p2, rfl, rfl, rfl, h2, hA⟩ := trodAll_cons hA
  obtain ⟨vc, l3, dc, d3, pc, p3, rfl, rfl, rfl, h3, hA⟩ := trodAll_cons hA
  obtain ⟨vd, l4, dd, d4, pd, p4, rfl, rfl, rfl, h4, hA⟩ := trodAll_cons hA
  obtain ⟨ve, l5, de, d5, pe, p5, rfl, rfl, rfl, h5, hA⟩ := trodAll_cons hA
  obtain ⟨rfl, rfl, rfl⟩ := trodAll_nil hA
  obtain rfl : args = #[va, vb, vc, vd, ve] := by cases args; simp_all
  obtain ⟨rfl, rfl⟩ := trodVars_none hV
  obtain ⟨tx, m1, k1, g1, i1⟩ := anV (eK 0 22 va rfl rfl) h1
  obtain ⟨ini, m2, g2, i2⟩ := anG (eK 1 23 vb rfl rfl) h2
  obtain ⟨st, rfl⟩ := anJ (eK 2 3 vc rfl rfl) h3
  obtain ⟨aH, m4, g4, i4⟩ := anG (eK 3 23 vd rfl rfl) h4
  obtain ⟨trs, m5, g5, i5⟩ := anH (eK 4 24 ve rfl rfl) h5
  obtain ⟨ρ, S⟩ := starts W hL
  clear hA0 hval0
  simp only [List.append_nil] at hW' cF
  refine (anK progOk W S k1 g1 i1 g2 i2 g4 i4 g5 i5).mono fun e W' ⟨he, hg⟩ => ?_
  subst he
  refine ⟨_, rfl, _, _, _, [], pa ++ (pb ++ (pc ++ (pd ++ pe))), [], hW', ?_, ?_, ?_, hg.frame _, fun h => by cases h⟩
  · exact trodAll_mk1 (shut_bool Tryz.underlying4 true)
  · exact ⟨pa, _, Below.trod laidOut rd22 at22 h1 hg (fun x hx => cF x (by simp [hx])), trodAll_mk4 (Below.trod laidOut rd23 at23 h2 hg (fun x hx => cF x (by simp [hx]))) (Below.trod laidOut rd3 at3 h3 hg (fun x hx => cF x (by simp [hx]))) (Below.trod laidOut rd23 at23 h4 hg (fun x hx => cF x (by simp [hx]))) (Below.trod laidOut rd24 at24 h5 hg (fun x hx => cF x (by simp [hx]))), rfl⟩
  · rfl
end Go.Proofs.YtaooegdfpnfncaaGreatDoor.attemptRow
