/-
  Proved here: the row of the statement AtomicSame: for any transaction, memories and values.
  Conditions: those that the given statement names, and no others.
-/
import Derived.Test.YtbkagfkpnnoacaaDoorAtGP
import Derived.Test.YtbkagfkpnnoacaaDoorSegW
import Derived.Test.YtbkagfkpnnoacaaDoorSegD
import Derived.ChangeSame
import Derived.ChangeVars
import Derived.ChangeOld
import Derived.Carry
import Derived.JoinedOf
import Derived.RowKit
import Derived.RowKitTokens
import Derived.LaidLaws
import Derived.LaidHandle
import Derived.LaidMore
import Derived.WalkKit
import Derived.ProofKit
import Derived.OpenShut
import Derived.Stop.Joined
namespace Go.Proofs.YtbkagfkpnnoacaaDoor.atomicSame
open Go.ChangeShapes Go.WideShapes Go.ChangeAt Go.RowKit Go.Rn
open ch ahz
set_option maxRecDepth 100000
theorem laidOut : laidOutB Tryd.prog = true := by kernel_rfl
theorem rd22 : Tryd.prog.readableRec 22 = true := by kernel_rfl
theorem rd23 : Tryd.prog.readableRec 23 = true := by kernel_rfl
theorem at22 : 22 < Tryd.prog.types.size := of_decide_eq_true (by kernel_rfl)
theorem at23 : 23 < Tryd.prog.types.size := of_decide_eq_true (by kernel_rfl)
theorem lifted (os : Os) (started : os.Started) (H : Type) (enc : TypeId × Value → H) :
    ReturnsInHanded {} Tryd.checked os 3 .any (fun w args => (Rows.atomicSameSpec.pre enc Tryd.prog Tryd.f3 [] false w args ∧ laidMetH Tryd.prog Rows.atomicSameRow.laid w) ∧ sizedMet enc Tryd.prog Tryd.f3 (OpenSpec.ofChange Rows.atomicSameSpec) false w args)
      (Rows.atomicSameSpec.post enc Tryd.prog Tryd.f3 false true false false) := by
  refine returnsInHanded_of_change_and (C := Tryd.checked) (X := fun w _ => laidMetH Tryd.prog Rows.atomicSameRow.laid w) (fun _ _ _ hh h => h.of_heap hh) own started (by as_aux_lemma => kernel_rfl) Tryd.func3
    (ChangeSpec.witness_shaped (enc := enc) (C := Tryd.checked) (os := os) (X := fun w _ => laidMetH Tryd.prog Rows.atomicSameRow.laid w) false (World.doorLaid Tryd.prog 14 os) #[.slice none 0 0, .slice none 0 0, .slice none 0 0, .slice none 0 0] 8 rfl (World.shaped_of_RefB (by as_aux_lemma => kernel_rfl) (by as_aux_lemma => kernel_rfl)) (by as_aux_lemma => kernel_rfl) (by as_aux_lemma => kernel_rfl) (by as_aux_lemma => kernel_rfl) (door_met os _)) ?_
  intro W base args ds gs before hval0 hW _ _ hL _
  have eT : ∀ (j : Nat) t v, Tryd.f3.params[j]? = some t → args[j]? = some v → Value.okWide Tryd.prog W .any base t v := hval0
  have hW' := hW
  have bZ := hW.lt
  obtain ⟨p, q, hA0, hV, rfl, hfz, zO⟩ := hW
  have hA : DataW.TrodAll enc Tryd.prog W 0 (fun _ => true) true Tryd.f3.params.toList args.toList ds p := hA0
  rw [Tryd.params3] at hA eT
  obtain ⟨va, l1, da, d1, pa, p1, OX, rfl, rfl, h1, hA⟩ := trodAll_cons hA
  obtain ⟨vb, l2, db, d2, pb, p2, rfl, rfl, rfl, h2, hA⟩ := trodAll_cons hA
  obtain ⟨vc, l3, dc, d3, pc, p3, rfl, rfl, rfl, h3, hA⟩ := trodAll_cons hA
  obtain ⟨vd, l4, dd, d4, pd, p4, rfl, rfl, rfl, h4, hA⟩ := trodAll_cons hA
  obtain ⟨rfl, rfl, rfl⟩ := trodAll_nil hA
  obtain rfl : args = #[va, vb, vc, vd] := by cases args; simp_all
  obtain ⟨rfl, rfl⟩ := trodVars_none hV
  obtain ⟨tx, m1, k1, g1, i1⟩ := alX (eT 0 22 va rfl rfl) h1
  obtain ⟨ini, m2, g2, i2⟩ := alF (eT 1 23 vb rfl rfl) h2
  obtain ⟨QY, m3, g3, i3⟩ := alF (eT 2 23 vc rfl rfl) h3
  obtain ⟨aA, m4, g4, i4⟩ := alF (eT 3 23 vd rfl rfl) h4
  obtain ⟨ρ, S⟩ := starts W hL
  clear hA0 hval0
  simp only [List.append_nil] at hW' bZ
  refine (alK progOk W S k1 g1 i1 g2 i2 g3 i3 g4 i4).mono fun e W' ⟨he, hg⟩ => ?_
  subst he
  refine ⟨_, rfl, _, _, _, [], pa ++ (pb ++ (pc ++ pd)), [], hW', ?_, ?_, ?_, hg.frame _, fun h => by cases h⟩
  · exact trodAll_mk1 (shut_bool Tryd.underlying4 true)
  · exact ⟨pa, _, Below.trod laidOut rd22 at22 h1 hg (fun x hx => bZ x (by simp [hx])), trodAll_mk3 (Below.trod laidOut rd23 at23 h2 hg (fun x hx => bZ x (by simp [hx]))) (Below.trod laidOut rd23 at23 h3 hg (fun x hx => bZ x (by simp [hx]))) (Below.trod laidOut rd23 at23 h4 hg (fun x hx => bZ x (by simp [hx]))), rfl⟩
  · rfl
end Go.Proofs.YtbkagfkpnnoacaaDoor.atomicSame
