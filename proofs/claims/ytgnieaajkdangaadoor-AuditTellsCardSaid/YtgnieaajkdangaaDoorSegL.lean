/-
  Proved here: the row of the statement AuditTells: for every two traces and any outcomes.
  Conditions: those that the given statement names, and no others.
-/
import Derived.Test.YtgnieaajkdangaaDoorAtGO
import Derived.Test.YtgnieaajkdangaaDoorSegW
import Derived.Test.YtgnieaajkdangaaDoorSegD
import Derived.ChangeSame
import Derived.ChangeVars
import Derived.ChangeOld
import Derived.Carry
import Derived.JoinedOf
import Derived.RowKit
import Derived.RowKitTokens
import Derived.LaidLaws
import Derived.LaidHandle
import Derived.LaidMore
import Derived.WalkKit
import Derived.ProofKit
import Derived.OpenShut
import Derived.Stop.Joined
namespace Go.Proofs.YtgnieaajkdangaaDoor.auditTells
open Go.ChangeShapes Go.WideShapes Go.ChangeAt Go.RowKit Go.Rn
open cd abG
set_option maxRecDepth 100000
theorem laidOut : laidOutB Tryd.prog = true := by kernel_rfl
theorem rd24 : Tryd.prog.readableRec 24 = true := by kernel_rfl
theorem rd25 : Tryd.prog.readableRec 25 = true := by kernel_rfl
theorem at24 : 24 < Tryd.prog.types.size := of_decide_eq_true (by kernel_rfl)
theorem at25 : 25 < Tryd.prog.types.size := of_decide_eq_true (by kernel_rfl)
def zeroTrace : Value := .agg #[.int .i64 0, .int .i64 0, .int .i64 0, .slice none 0 0]
theorem lifted (os : Os) (started : os.Started) (H : Type) (enc : TypeId × Value → H) :
    ReturnsInHanded {} Tryd.checked os 3 .any (fun w args => (Rows.auditTellsSpec.pre enc Tryd.prog Tryd.f3 [] false w args ∧ laidMetH Tryd.prog Rows.auditTellsRow.laid w) ∧ sizedMet enc Tryd.prog Tryd.f3 (OpenSpec.ofChange Rows.auditTellsSpec) false w args)
      (Rows.auditTellsSpec.post enc Tryd.prog Tryd.f3 false true false false) := by
  refine returnsInHanded_of_change_and (C := Tryd.checked) (X := fun w _ => laidMetH Tryd.prog Rows.auditTellsRow.laid w) (fun _ _ _ hh h => h.of_heap hh) own started (by as_aux_lemma => kernel_rfl) Tryd.func3
    (ChangeSpec.witness_shaped (enc := enc) (C := Tryd.checked) (os := os) (X := fun w _ => laidMetH Tryd.prog Rows.auditTellsRow.laid w) false (World.doorLaid Tryd.prog 48 os) #[zeroTrace, zeroTrace, .slice none 0 0] 8 rfl (World.shaped_of_RefB (by as_aux_lemma => kernel_rfl) (by as_aux_lemma => kernel_rfl)) (by as_aux_lemma => kernel_rfl) (by as_aux_lemma => kernel_rfl) (by as_aux_lemma => kernel_rfl) (door_met os _)) ?_
  intro W base args ds gs before hval0 hW _ _ hL _
  have nO : ∀ (j : Nat) t v, Tryd.f3.params[j]? = some t → args[j]? = some v → Value.okWide Tryd.prog W .any base t v := hval0
  have hW' := hW
  have cQ := hW.lt
  obtain ⟨p, q, hA0, hV, rfl, rh, xK⟩ := hW
  have hA : DataW.TrodAll enc Tryd.prog W 0 (fun _ => true) true Tryd.f3.params.toList args.toList ds p := hA0
  rw [Tryd.params3] at hA nO
  obtain ⟨va, vb, vc, da, db, dc, pa, pb, pc, rfl, rfl, rfl, h1, h2, h3⟩ := trodAll_three hA
  obtain ⟨rfl, rfl⟩ := trodVars_none hV
  obtain ⟨x1, y1, z1, e1, l1, m1, rfl, o1, g1, i1⟩ := aej (nO 0 24 va rfl rfl) h1
  obtain ⟨x2, y2, z2, e2, l2, m2, rfl, o2, g2, i2⟩ := aej (nO 1 24 vb rfl rfl) h2
  obtain ⟨l3, m3, g3, i3⟩ := aer (nO 2 25 vc rfl rfl) h3
  obtain ⟨ρ, S⟩ := starts W hL
  clear hA0 hval0
  simp only [List.append_nil] at hW' cQ
  refine (aes progOk W S o1 g1 i1 o2 g2 i2 g3 i3).mono fun e W' ⟨he, hg⟩ => ?_
  subst he
  refine ⟨_, rfl, _, _, _, [], pa ++ (pb ++ pc), [], hW', ?_, ?_, ?_, hg.frame _, fun h => by cases h⟩
  · exact trodAll_mk1 (shut_bool Tryd.underlying4 true)
  · exact trodAll_mk3 (Below.trod laidOut rd24 at24 h1 hg (fun x hx => cQ x (by simp [hx]))) (Below.trod laidOut rd24 at24 h2 hg (fun x hx => cQ x (by simp [hx]))) (Below.trod laidOut rd25 at25 h3 hg (fun x hx => cQ x (by simp [hx])))
  · rfl
end Go.Proofs.YtgnieaajkdangaaDoor.auditTells
