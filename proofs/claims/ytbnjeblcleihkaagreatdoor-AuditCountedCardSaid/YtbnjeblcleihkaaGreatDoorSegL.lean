/-
  Proved here: the row of the statement AuditCounted: for every input.
  Conditions: those that the given statement names, and no others.
-/
import Derived.Test.YtbnjeblcleihkaaGreatDoorAcGd
import Derived.Test.YtbnjeblcleihkaaGreatDoorAcGe
import Derived.Test.YtbnjeblcleihkaaGreatDoorTzJ
import Derived.Test.YtbnjeblcleihkaaGreatDoorSegW
import Derived.Test.YtbnjeblcleihkaaGreatDoorSegD
import Derived.Test.YtbnjeblcleihkaaGreatDoorRnOpenB
import Derived.ChangeSame
import Derived.ChangeVars
import Derived.ChangeOld
import Derived.Carry
import Derived.JoinedOf
import Derived.RowKit
import Derived.RowKitTokens
import Derived.LaidLaws
import Derived.LaidHandle
import Derived.LaidMore
import Derived.WalkKit
import Derived.ProofKit
import Derived.OpenShut
import Derived.Stop.Joined
namespace Go.Proofs.YtbnjeblcleihkaaGreatDoor.auditCounted
open Go.ChangeShapes Go.WideShapes Go.ChangeAt Go.RowKit Go.Rn
open AcS AcW AcT AcG AcL AcP AcH AcC
set_option maxRecDepth 100000

theorem okT : ∀ F, SpAll Tryz.prog F spT := tz_all Tryz.lays28 rfl rfl
theorem okB0 : ∀ F, SpAll Tryz.prog F spB := bare_all progOk okT
theorem okI0 : ∀ F, SpAll Tryz.prog F spI := within_all progOk okB0
theorem okMay : ∀ F, SpAll Tryz.prog F spM0 := may_all progOk okI0 (known_all progOk okI0)
theorem okWorks : ∀ F, SpAll Tryz.prog F spM := fun F =>
  (okMay F).upd (fun call _ args => Local.knownM _ _ _ _ call args) fun B hB call hc hl args x s s1 ρ w vs fi r hg hf hm hv =>
    closedM_sim (body := bodyF4) Tryz.func4 bodyF4_is (by kernel_rfl) (by unfold globs nx0; decide) hall1 hns1 (fun ρ w S => walkW w S) r hg (works_closed hm) hv
theorem okTries {F : Nat → Option (List AV)} (hfin : FinF F) : SpAll Tryz.prog F (spZ F) := tries_all progOk hfin (okWorks F)

/-- An event in its range. -/
def EvS : Type := { e : Ev // EvOk e }
def encS (e : EvS) : List AV := evCells e.1
def valsS (e : EvS) : List Value := [.int .u8 e.1.kind, .int .i64 e.1.thread, .int .i64 e.1.tx, .int .i64 e.1.at_, .int .i64 e.1.v, .int .i64 e.1.x, .int .u8 e.1.why]
theorem evVal : EncVal 7 encS valsS := ⟨fun _ => rfl, fun _ => rfl, fun a j x h => by
  rcases j with _ | _ | _ | _ | _ | _ | _ | j
  all_goals first
    | (have h' : some _ = some x := h
       injection h' with h'
       subst h'
       exact ⟨_, rfl, fun ρ => by simp only [VR], rfl⟩)
    | (exfalso
       have : (encS a)[j + 7]? = none := List.getElem?_eq_none (by show 7 ≤ j + 7; omega)
       rw [this] at h; cases h)⟩
section
variable {H : Type} {enc : TypeId × Value → H} {w : World} {base : Nat} {sp : Nat → Bool} {held : Bool}
theorem wf_i64 {n : Int} (h : (Lit.int .i64 n).wf = true) : i64In n := by
  obtain ⟨h1, h2⟩ := and_true.1 (show (decide (IntKind.i64.min ≤ n) && decide (n ≤ IntKind.i64.max)) = true from h)
  exact ⟨of_decide_eq_true h1, of_decide_eq_true h2⟩
theorem wf_u8 {n : Int} (h : (Lit.int .u8 n).wf = true) : 0 ≤ n ∧ n ≤ 255 := by
  obtain ⟨h1, h2⟩ := and_true.1 (show (decide (IntKind.u8.min ≤ n) && decide (n ≤ IntKind.u8.max)) = true from h)
  exact ⟨of_decide_eq_true h1, of_decide_eq_true h2⟩
theorem sz24 : Tryz.prog.cellsOf 24 = 4 := by kernel_rfl
theorem sz2 : Tryz.prog.cellsOf 2 = 1 := by kernel_rfl
theorem sz3 : Tryz.prog.cellsOf 3 = 1 := by kernel_rfl
theorem sz5 : Tryz.prog.cellsOf 5 = 1 := by kernel_rfl
theorem sz22 : Tryz.prog.cellsOf 22 = 1 := by kernel_rfl
theorem sz32 : Tryz.prog.cellsOf 32 = 7 := by kernel_rfl
theorem ct24 : Tryz.prog.cellTypes Tryz.prog.depth 24 = some [3, 3, 3, 22] := by kernel_rfl
theorem ev_row (row : List Value) (hrow : row.length = 7) (h2 : ∃ n y, DataW.trod enc Tryz.prog w base sp held n 32 row = some y) : ∃ a, row = valsS a := by
  obtain ⟨fuel, y, h⟩ := h2
  obtain ⟨xs, n, _, _, hlen, hxs, hf⟩ := DataW.trod_struct Tryz.underlying32 h
  have hxs7 : xs.length = 7 := hxs
  match row, hrow, xs, hxs7, hf with
  | [c0, c1, c2, c3, c4, c5, c6], _, [x0, x1, x2, x3, x4, x5, x6], _, hf =>
    have f0 : DataW.trod enc Tryz.prog w base sp held n 5 (([c0, c1, c2, c3, c4, c5, c6].drop 0).take (Tryz.prog.cellsOf 5)) = some x0 := hf 0 _ rfl
    have f1 : DataW.trod enc Tryz.prog w base sp held n 3 (([c0, c1, c2, c3, c4, c5, c6].drop 1).take (Tryz.prog.cellsOf 3)) = some x1 := hf 1 _ rfl
    have f2 : DataW.trod enc Tryz.prog w base sp held n 3 (([c0, c1, c2, c3, c4, c5, c6].drop 2).take (Tryz.prog.cellsOf 3)) = some x2 := hf 2 _ rfl
    have f3 : DataW.trod enc Tryz.prog w base sp held n 3 (([c0, c1, c2, c3, c4, c5, c6].drop 3).take (Tryz.prog.cellsOf 3)) = some x3 := hf 3 _ rfl
    have f4 : DataW.trod enc Tryz.prog w base sp held n 3 (([c0, c1, c2, c3, c4, c5, c6].drop 4).take (Tryz.prog.cellsOf 3)) = some x4 := hf 4 _ rfl
    have f5 : DataW.trod enc Tryz.prog w base sp held n 2 (([c0, c1, c2, c3, c4, c5, c6].drop 5).take (Tryz.prog.cellsOf 2)) = some x5 := hf 5 _ rfl
    have f6 : DataW.trod enc Tryz.prog w base sp held n 5 (([c0, c1, c2, c3, c4, c5, c6].drop 6).take (Tryz.prog.cellsOf 5)) = some x6 := hf 6 _ rfl
    rw [sz5] at f0 f6
    rw [sz3] at f1 f2 f3 f4
    rw [sz2] at f5
    obtain ⟨a0, e0, _, w0⟩ := DataW.trod_int Tryz.underlying5 f0
    obtain ⟨a1, e1, _, w1⟩ := DataW.trod_int Tryz.underlying3 f1
    obtain ⟨a2, e2, _, w2⟩ := DataW.trod_int Tryz.underlying3 f2
    obtain ⟨a3, e3, _, w3⟩ := DataW.trod_int Tryz.underlying3 f3
    obtain ⟨a4, e4, _, w4⟩ := DataW.trod_int Tryz.underlying3 f4
    obtain ⟨a5, e5, _, w5⟩ := DataW.trod_int Tryz.underlying2 f5
    obtain ⟨a6, e6, _, w6⟩ := DataW.trod_int Tryz.underlying5 f6
    injection (show [c0] = [.int .u8 a0] from e0) with g0 _
    injection (show [c1] = [.int .i64 a1] from e1) with g1 _
    injection (show [c2] = [.int .i64 a2] from e2) with g2 _
    injection (show [c3] = [.int .i64 a3] from e3) with g3 _
    injection (show [c4] = [.int .i64 a4] from e4) with g4 _
    injection (show [c5] = [.int .i64 a5] from e5) with g5 _
    injection (show [c6] = [.int .u8 a6] from e6) with g6 _
    subst g0; subst g1; subst g2; subst g3; subst g4; subst g5; subst g6
    exact ⟨⟨⟨a0, a1, a2, a3, a4, a5, a6⟩, wf_u8 w0, wf_i64 w1, wf_i64 w2, wf_i64 w3, wf_i64 w4, wf_i64 w5, wf_u8 w6⟩, rfl⟩
/-- A trace of the input. -/
theorem trace_in {b0 : Nat} {v : Value} {d : DataW H} {p : List MemPlace} (hok : Value.okWide Tryz.prog w .any b0 24 v) (h : DataW.Trod enc Tryz.prog w base sp held 24 v d p) :
    ∃ (x y z : Int) (e : Value) (l : List EvS), v = .agg #[.int .i64 x, .int .i64 y, .int .i64 z, e] ∧ InSl w 7 encS e l := by
  unfold Value.okWide at hok
  rw [Tryz.underlying24] at hok
  obtain ⟨cs, rfl, hsz, ts, hts, _, hcell⟩ := hok
  obtain ⟨fuel, h⟩ := h
  have h' : DataW.trod enc Tryz.prog w base sp held fuel 24 cs.toList = some (d, p) := h
  obtain ⟨xs, n, _, _, hlen, hxs, hf⟩ := DataW.trod_struct Tryz.underlying24 h'
  rw [sz24] at hlen
  have hxs4 : xs.length = 4 := hxs
  rw [ct24] at hts
  injection hts with hts
  subst hts
  obtain ⟨l⟩ := cs
  match l, hlen, xs, hxs4, hf, hcell with
  | [c0, c1, c2, c3], _, [x0, x1, x2, x3], _, hf, hcell =>
    have f0 : DataW.trod enc Tryz.prog w base sp held n 3 (([c0, c1, c2, c3].drop 0).take (Tryz.prog.cellsOf 3)) = some x0 := hf 0 _ rfl
    have f1 : DataW.trod enc Tryz.prog w base sp held n 3 (([c0, c1, c2, c3].drop 1).take (Tryz.prog.cellsOf 3)) = some x1 := hf 1 _ rfl
    have f2 : DataW.trod enc Tryz.prog w base sp held n 3 (([c0, c1, c2, c3].drop 2).take (Tryz.prog.cellsOf 3)) = some x2 := hf 2 _ rfl
    have f3 : DataW.trod enc Tryz.prog w base sp held n 22 (([c0, c1, c2, c3].drop 3).take (Tryz.prog.cellsOf 22)) = some x3 := hf 3 _ rfl
    rw [sz3] at f0 f1 f2
    rw [sz22] at f3
    obtain ⟨a, e0, _, _⟩ := DataW.trod_int Tryz.underlying3 f0
    obtain ⟨b, e1, _, _⟩ := DataW.trod_int Tryz.underlying3 f1
    obtain ⟨c, e2, _, _⟩ := DataW.trod_int Tryz.underlying3 f2
    have e0' : [c0] = [.int .i64 a] := e0
    have e1' : [c1] = [.int .i64 b] := e1
    have e2' : [c2] = [.int .i64 c] := e2
    have f3' : DataW.trod enc Tryz.prog w base sp held n 22 [c3] = some x3 := f3
    injection e0' with e0' _
    injection e1' with e1' _
    injection e2' with e2' _
    subst e0'; subst e1'; subst e2'
    obtain ⟨u, hu, hc⟩ := hcell 3 c3 rfl
    have hu' : (some 22 : Option TypeId) = some u := hu
    injection hu' with hu'
    subst hu'
    obtain ⟨l, hl⟩ := input_slice evVal Tryz.underlying22 sz32 ev_row hc f3'
    exact ⟨a, b, c, c3, l, rfl, hl⟩
end
theorem lawFr {a : AV} {T V S : Int} : (⟨3, fillArgs [.agg [.int .i64 T, .int .i64 V, .int .i64 S, a]], max Tryz.f3.ntmps 1, [.code (cAt Tryz.prog 3 [])], [], none⟩ : AF) = ⟨3, fillArgs [.agg [.int .i64 T, .int .i64 V, .int .i64 S, a]], 119, [.code (cAt Tryz.prog 3 [])], [], none⟩ := by kernel_rfl
theorem lowFree : ∀ (W : World) (ρ : Ren), Rn.Start nx0 heap0 ρ W → ∀ k, top ≤ k → ρ k = none := fun W ρ S k hk => S.free k (Nat.le_trans (by unfold nx0 top; decide) hk)
theorem walkL (W : World) (hL : laidMetH Tryz.prog Rows.auditCountedRow.laid W) {x1 y1 z1 : Int} {e1 : Value} {l1 : List EvS} (i1 : InSl W 7 encS e1 l1) :
    Calls Tryz.prog 3 #[.agg #[.int .i64 x1, .int .i64 y1, .int .i64 z1, e1]] W fun e w' => e = .returned (.bool true) ∧ Below W.heap.size W w' := by
  obtain ⟨ρ, S⟩ := starts W hL
  have hno : ∀ n o, n < top → heap0.get n = some o → o.isRo = true := fun n o hn ho => (S.is n o hn ho).1
  obtain ⟨F1, ρ1, m1, ev, r1, le1, lo1, up1, b1, t1, sl1, v1⟩ := Rel.addIn (F := fun _ => none) (m := top) S.rel (Nat.le_refl _) (fun k hk => ⟨rfl, lowFree W ρ S k hk⟩) hno evVal.len i1
  have hfin : FinF F1 := ⟨m1, t1, fun k hk => (b1 k hk).1⟩
  have okM1 : SpOk Tryz.prog ⟨fun k => W.heap.size ≤ k, F1⟩ spM := okWorks F1 _ rfl
  have okZ1 : SpOk Tryz.prog ⟨fun k => W.heap.size ≤ k, F1⟩ (spZ F1) := okTries hfin _ rfl
  have hc := arunI_sim (B := ⟨fun k => W.heap.size ≤ k, F1⟩) progOk okM1 rfl 6
  have hl := local_arunI Tryz.prog okM1 F1 6
  have hcZ := arunI_sim (B := ⟨fun k => W.heap.size ≤ k, F1⟩) progOk okZ1 rfl 6
  have hlZ := local_arunI Tryz.prog okZ1 F1 6
  have H : Sim Tryz.prog ⟨fun k => W.heap.size ≤ k, F1⟩ 270 (Fin Tryz.prog Tryz.f3.results.toList fun y _ => y = .bool true) ⟨3, fillArgs [.agg [.int .i64 x1, .int .i64 y1, .int .i64 z1, ev]], 119, [.code (cAt Tryz.prog 3 [])], [], none⟩ (stOf kn1 270) := by
    obtain ⟨q0, ⟨rfl, _⟩ | ⟨nm, o, row, rfl, q2, q3, q4, q5⟩⟩ := sl1
    · exact law_nil hc hl hcZ hlZ
    · obtain ⟨i, rfl⟩ : ∃ i, nm = top + i := ⟨nm - top, by omega⟩
      rw [List.length_map] at q4 q5 ⊢
      refine law_row (evs := l1.map fun e : EvS => e.1) hc hl hcZ hlZ (by rw [List.length_map]) q2 (fun j e he => ?_) (.inr ⟨.row i o l1.length, rfl, .inr (by show F1 (top + i) ≠ none; rw [q3]; simp)⟩)
      rw [List.getElem?_map] at he
      cases ha : l1[j]? with
      | none => rw [ha] at he; cases he
      | some a =>
        rw [ha] at he
        injection he with he
        subst he
        refine ⟨a.2, ?_⟩
        have hj : j < l1.length := (List.getElem?_eq_some_iff.1 ha).1
        have hle : o + j * 7 + 7 ≤ row.length := by omega
        have h1 := flatten_at (l := l1.map encS) (K := 7) (i := j) (c := encS a) q0 (by rw [List.getElem?_map, ha]; rfl)
        rw [← q5, List.drop_take, List.take_take, List.drop_drop, Nat.min_eq_left (by omega)] at h1
        have hz : frzAt F1 (top + i) (o + j * 7) 7 = some (evCells a.1) := by
          unfold frzAt
          rw [q3]
          simp only [(ble_true.2 hle : Nat.ble (o + j * 7 + 7) row.length = true)]
          exact congrArg some h1
        exact hz
  rw [← lawFr] at H
  have hg : RenG ρ1 := fun g hg => by
    obtain ⟨N, e⟩ := S.g g hg
    exact ⟨N, le1 _ _ e⟩
  have hf : ∀ k, 270 ≤ k → k < top → ρ1 k = none := fun k h1 h2 => by
    rw [lo1 k h2]
    exact S.free k h1
  have hv : VRs ρ1 [.agg [.int .i64 x1, .int .i64 y1, .int .i64 z1, ev]] (#[.agg #[.int .i64 x1, .int .i64 y1, .int .i64 z1, e1]] : Array Value).toList := by
    simp only [VRs, VR]
    exact ⟨_, _, rfl, ⟨_, rfl, _, _, rfl, rfl, _, _, rfl, rfl, _, _, rfl, rfl, _, _, rfl, v1, rfl⟩, rfl⟩
  have r2' : Rel ⟨fun k => W.heap.size ≤ k, F1⟩ ρ1 (stOf kn1 270).h W := by
    show Rel _ ρ1 (hpOf kn1) W
    rw [kn1_heap]
    exact r1
  have hcall := Sim.calls (args := [.agg [.int .i64 x1, .int .i64 y1, .int .i64 z1, ev]]) progOk Tryz.func3 (cAt_body Tryz.func3 (by kernel_rfl)) (ble_true.1 (by kernel_rfl)) H (fine_of (by kernel_rfl)) r2' hg hf hv
  refine hcall.mono fun e w' => ?_
  rintro ⟨v, x, s3, rfl, rfl, _, _, σ, _, q2, _, q4⟩
  simp only [VR] at q2
  exact ⟨by rw [q2], q4.os, q4.tape, q4.output, q4.size, fun k hk => q4.block k hk (by show ¬ (W.heap.size ≤ k); omega)⟩
theorem laidOut : laidOutB Tryz.prog = true := by kernel_rfl
theorem rd24 : Tryz.prog.readableRec 24 = true := by kernel_rfl
theorem at24 : 24 < Tryz.prog.types.size := of_decide_eq_true (by kernel_rfl)
def zeroTrace : Value := .agg #[.int .i64 0, .int .i64 0, .int .i64 0, .slice none 0 0]

theorem lifted (os : Os) (started : os.Started) (H : Type) (enc : TypeId × Value → H) :
    ReturnsInHanded {} Tryz.checked os 3 .any (fun w args => (Rows.auditCountedSpec.pre enc Tryz.prog Tryz.f3 [] false w args ∧ laidMetH Tryz.prog Rows.auditCountedRow.laid w) ∧ sizedMet enc Tryz.prog Tryz.f3 (OpenSpec.ofChange Rows.auditCountedSpec) false w args)
      (Rows.auditCountedSpec.post enc Tryz.prog Tryz.f3 false true false false) := by
  refine returnsInHanded_of_change_and (C := Tryz.checked) (X := fun w _ => laidMetH Tryz.prog Rows.auditCountedRow.laid w) (fun _ _ _ hh h => h.of_heap hh) own started (by as_aux_lemma => kernel_rfl) Tryz.func3
    (ChangeSpec.witness_shaped (enc := enc) (C := Tryz.checked) (os := os) (X := fun w _ => laidMetH Tryz.prog Rows.auditCountedRow.laid w) false (World.doorLaid Tryz.prog 48 os) #[zeroTrace] 8 rfl (World.shaped_of_RefB (by as_aux_lemma => kernel_rfl) (by as_aux_lemma => kernel_rfl)) (by as_aux_lemma => kernel_rfl) (by as_aux_lemma => kernel_rfl) (by as_aux_lemma => kernel_rfl) (door_met os _)) ?_
  intro W base args ds gs before hval0 hW _ _ hL _
  have hval : ∀ (j : Nat) t v, Tryz.f3.params[j]? = some t → args[j]? = some v → Value.okWide Tryz.prog W .any base t v := hval0
  have hW' := hW
  have hlt := hW.lt
  obtain ⟨p, q, hA0, hV, rfl, hfz, hnd⟩ := hW
  have hA : DataW.TrodAll enc Tryz.prog W 0 (fun _ => true) true Tryz.f3.params.toList args.toList ds p := hA0
  rw [Tryz.params3] at hA hval
  obtain ⟨va, da, rfl, rfl, h1⟩ := trodAll_one hA
  obtain ⟨rfl, rfl⟩ := trodVars_none hV
  obtain ⟨x1, y1, z1, e1, l1, rfl, i1⟩ := trace_in (hval 0 24 va rfl rfl) h1
  clear hA0 hval0
  simp only [List.append_nil] at hW' hlt
  refine (walkL W hL i1).mono fun e W' ⟨he, hg⟩ => ?_
  subst he
  refine ⟨_, rfl, _, _, _, [], p, [], hW', ?_, ?_, ?_, hg.frame _, fun h => by cases h⟩
  · exact trodAll_mk1 (shut_bool Tryz.underlying4 true)
  · exact trodAll_mk1 (Below.trod laidOut rd24 at24 h1 hg (fun x hx => hlt x (by simpa using hx)))
  · rfl
end Go.Proofs.YtbnjeblcleihkaaGreatDoor.auditCounted
