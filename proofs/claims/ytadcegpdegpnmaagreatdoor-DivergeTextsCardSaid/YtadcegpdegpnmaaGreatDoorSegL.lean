/-
  Proved here: the row of the statement DivergeTexts: for every input.
  Conditions: those that the given statement names, and no others.
-/
import Derived.Test.YtadcegpdegpnmaaGreatDoorDtL
import Derived.Test.YtadcegpdegpnmaaGreatDoorSegD
import Derived.ChangeSame
import Derived.ChangeVars
import Derived.ChangeOld
import Derived.Carry
import Derived.JoinedOf
import Derived.RowKit
import Derived.RowKitTokens
import Derived.LaidLaws
import Derived.LaidHandle
import Derived.LaidMore
import Derived.WalkKit
import Derived.ProofKit
import Derived.OpenShut
import Derived.Stop.Joined
namespace Go.Proofs.YtadcegpdegpnmaaGreatDoor.divergeTexts
open Go.ChangeShapes Go.WideShapes Go.ChangeAt Go.RowKit Go.Rn
open DtP DtS DtC
set_option maxRecDepth 100000

section
variable {H : Type} {enc : TypeId × Value → H} {w : World} {base : Nat} {sp : Nat → Bool} {held : Bool}
theorem wf_i64 {n : Int} (h : (Lit.int .i64 n).wf = true) : i64In n := by
  obtain ⟨h1, h2⟩ := and_true.1 (show (decide (IntKind.i64.min ≤ n) && decide (n ≤ IntKind.i64.max)) = true from h)
  exact ⟨of_decide_eq_true h1, of_decide_eq_true h2⟩
theorem wf_u8 {n : Int} (h : (Lit.int .u8 n).wf = true) : 0 ≤ n ∧ n ≤ 255 := by
  obtain ⟨h1, h2⟩ := and_true.1 (show (decide (IntKind.u8.min ≤ n) && decide (n ≤ IntKind.u8.max)) = true from h)
  exact ⟨of_decide_eq_true h1, of_decide_eq_true h2⟩
def valsE (e : Ev) : List Value := [.int .u8 e.kind, .int .i64 e.thread, .int .i64 e.tx, .int .i64 e.at_, .int .i64 e.v, .int .i64 e.x, .int .u8 e.why]
theorem sz23 : Tryz.prog.cellsOf 23 = 7 := by kernel_rfl
theorem sz25 : Tryz.prog.cellsOf 25 = 17 := by kernel_rfl
theorem sz2 : Tryz.prog.cellsOf 2 = 1 := by kernel_rfl
theorem sz3 : Tryz.prog.cellsOf 3 = 1 := by kernel_rfl
theorem sz4 : Tryz.prog.cellsOf 4 = 1 := by kernel_rfl
theorem sz5 : Tryz.prog.cellsOf 5 = 1 := by kernel_rfl
/-- An event of the input. -/
theorem event_in {fuel : Nat} {cs : List Value} {x : DataW H × List MemPlace} (h : DataW.trod enc Tryz.prog w base sp held fuel 23 cs = some x) : ∃ e : Ev, EvOk e ∧ cs = valsE e := by
  obtain ⟨xs, n, _, _, hlen, hxs, hf⟩ := DataW.trod_struct Tryz.underlying23 h
  rw [sz23] at hlen
  have hxs7 : xs.length = 7 := hxs
  match cs, hlen, xs, hxs7, hf with
  | [c0, c1, c2, c3, c4, c5, c6], _, [x0, x1, x2, x3, x4, x5, x6], _, hf =>
    have f0 : DataW.trod enc Tryz.prog w base sp held n 5 (([c0, c1, c2, c3, c4, c5, c6].drop 0).take (Tryz.prog.cellsOf 5)) = some x0 := hf 0 _ rfl
    have f1 : DataW.trod enc Tryz.prog w base sp held n 3 (([c0, c1, c2, c3, c4, c5, c6].drop 1).take (Tryz.prog.cellsOf 3)) = some x1 := hf 1 _ rfl
    have f2 : DataW.trod enc Tryz.prog w base sp held n 3 (([c0, c1, c2, c3, c4, c5, c6].drop 2).take (Tryz.prog.cellsOf 3)) = some x2 := hf 2 _ rfl
    have f3 : DataW.trod enc Tryz.prog w base sp held n 3 (([c0, c1, c2, c3, c4, c5, c6].drop 3).take (Tryz.prog.cellsOf 3)) = some x3 := hf 3 _ rfl
    have f4 : DataW.trod enc Tryz.prog w base sp held n 3 (([c0, c1, c2, c3, c4, c5, c6].drop 4).take (Tryz.prog.cellsOf 3)) = some x4 := hf 4 _ rfl
    have f5 : DataW.trod enc Tryz.prog w base sp held n 2 (([c0, c1, c2, c3, c4, c5, c6].drop 5).take (Tryz.prog.cellsOf 2)) = some x5 := hf 5 _ rfl
    have f6 : DataW.trod enc Tryz.prog w base sp held n 5 (([c0, c1, c2, c3, c4, c5, c6].drop 6).take (Tryz.prog.cellsOf 5)) = some x6 := hf 6 _ rfl
    rw [sz5] at f0 f6
    rw [sz3] at f1 f2 f3 f4
    rw [sz2] at f5
    obtain ⟨a0, e0, _, w0⟩ := DataW.trod_int Tryz.underlying5 f0
    obtain ⟨a1, e1, _, w1⟩ := DataW.trod_int Tryz.underlying3 f1
    obtain ⟨a2, e2, _, w2⟩ := DataW.trod_int Tryz.underlying3 f2
    obtain ⟨a3, e3, _, w3⟩ := DataW.trod_int Tryz.underlying3 f3
    obtain ⟨a4, e4, _, w4⟩ := DataW.trod_int Tryz.underlying3 f4
    obtain ⟨a5, e5, _, w5⟩ := DataW.trod_int Tryz.underlying2 f5
    obtain ⟨a6, e6, _, w6⟩ := DataW.trod_int Tryz.underlying5 f6
    have g0 : [c0] = [.int .u8 a0] := e0
    have g1 : [c1] = [.int .i64 a1] := e1
    have g2 : [c2] = [.int .i64 a2] := e2
    have g3 : [c3] = [.int .i64 a3] := e3
    have g4 : [c4] = [.int .i64 a4] := e4
    have g5 : [c5] = [.int .i64 a5] := e5
    have g6 : [c6] = [.int .u8 a6] := e6
    injection g0 with g0 _
    injection g1 with g1 _
    injection g2 with g2 _
    injection g3 with g3 _
    injection g4 with g4 _
    injection g5 with g5 _
    injection g6 with g6 _
    subst g0; subst g1; subst g2; subst g3; subst g4; subst g5; subst g6
    exact ⟨⟨a0, a1, a2, a3, a4, a5, a6⟩, ⟨wf_u8 w0, wf_i64 w1, wf_i64 w2, wf_i64 w3, wf_i64 w4, wf_i64 w5, wf_u8 w6⟩, rfl⟩
def valR (o : Bool) (p : Int) (want got : Ev) (h : Bool) : Value := .agg #[.bool o, .int .i64 p, .int .u8 want.kind, .int .i64 want.thread, .int .i64 want.tx, .int .i64 want.at_, .int .i64 want.v, .int .i64 want.x, .int .u8 want.why, .int .u8 got.kind, .int .i64 got.thread, .int .i64 got.tx, .int .i64 got.at_, .int .i64 got.v, .int .i64 got.x, .int .u8 got.why, .bool h]
/-- A report of the input. -/
theorem report_in {b0 : Nat} {v : Value} {d : DataW H} {p : List MemPlace} (hok : Value.okWide Tryz.prog w .any b0 25 v) (h : DataW.Trod enc Tryz.prog w base sp held 25 v d p) :
    ∃ (o : Bool) (p : Int) (want got : Ev) (hs : Bool), v = valR o p want got hs ∧ i64In p ∧ EvOk want ∧ EvOk got := by
  unfold Value.okWide at hok
  rw [Tryz.underlying25] at hok
  obtain ⟨cs, rfl, hsz, _⟩ := hok
  obtain ⟨fuel, h⟩ := h
  have h' : DataW.trod enc Tryz.prog w base sp held fuel 25 cs.toList = some (d, p) := h
  obtain ⟨xs, n, _, _, hlen, hxs, hf⟩ := DataW.trod_struct Tryz.underlying25 h'
  rw [sz25] at hlen
  have hxs5 : xs.length = 5 := hxs
  obtain ⟨l⟩ := cs
  match l, hlen, xs, hxs5, hf with
  | [c0, c1, d0, d1, d2, d3, d4, d5, d6, e0, e1, e2, e3, e4, e5, e6, c4], _, [x0, x1, x2, x3, x4], _, hf =>
    have f0 : DataW.trod enc Tryz.prog w base sp held n 4 (([c0, c1, d0, d1, d2, d3, d4, d5, d6, e0, e1, e2, e3, e4, e5, e6, c4].drop 0).take (Tryz.prog.cellsOf 4)) = some x0 := hf 0 _ rfl
    have f1 : DataW.trod enc Tryz.prog w base sp held n 3 (([c0, c1, d0, d1, d2, d3, d4, d5, d6, e0, e1, e2, e3, e4, e5, e6, c4].drop 1).take (Tryz.prog.cellsOf 3)) = some x1 := hf 1 _ rfl
    have f2 : DataW.trod enc Tryz.prog w base sp held n 23 (([c0, c1, d0, d1, d2, d3, d4, d5, d6, e0, e1, e2, e3, e4, e5, e6, c4].drop 2).take (Tryz.prog.cellsOf 23)) = some x2 := hf 2 _ rfl
    have f3 : DataW.trod enc Tryz.prog w base sp held n 23 (([c0, c1, d0, d1, d2, d3, d4, d5, d6, e0, e1, e2, e3, e4, e5, e6, c4].drop 9).take (Tryz.prog.cellsOf 23)) = some x3 := hf 3 _ rfl
    have f4 : DataW.trod enc Tryz.prog w base sp held n 4 (([c0, c1, d0, d1, d2, d3, d4, d5, d6, e0, e1, e2, e3, e4, e5, e6, c4].drop 16).take (Tryz.prog.cellsOf 4)) = some x4 := hf 4 _ rfl
    rw [sz4] at f0 f4
    rw [sz3] at f1
    rw [sz23] at f2 f3
    obtain ⟨o, g0, _⟩ := DataW.trod_bool Tryz.underlying4 f0
    obtain ⟨q, g1, _, w1⟩ := DataW.trod_int Tryz.underlying3 f1
    obtain ⟨want, hw, g2⟩ := event_in f2
    obtain ⟨got, hg, g3⟩ := event_in f3
    obtain ⟨hs, g4, _⟩ := DataW.trod_bool Tryz.underlying4 f4
    have g0' : [c0] = [.bool o] := g0
    have g1' : [c1] = [.int .i64 q] := g1
    have g2' : [d0, d1, d2, d3, d4, d5, d6] = valsE want := g2
    have g3' : [e0, e1, e2, e3, e4, e5, e6] = valsE got := g3
    have g4' : [c4] = [.bool hs] := g4
    refine ⟨o, q, want, got, hs, ?_, wf_i64 w1, hw, hg⟩
    have e : [c0, c1, d0, d1, d2, d3, d4, d5, d6, e0, e1, e2, e3, e4, e5, e6, c4] = [Value.bool o] ++ ([.int .i64 q] ++ (valsE want ++ (valsE got ++ [.bool hs]))) := by
      rw [← g0', ← g1', ← g2', ← g3', ← g4']; rfl
    show Value.agg ([c0, c1, d0, d1, d2, d3, d4, d5, d6, e0, e1, e2, e3, e4, e5, e6, c4].toArray) = _
    rw [e]; rfl
end
theorem lawFr {o h : Bool} {p : Int} {want got : Ev} : (⟨3, fillArgs [.agg [.bool o, .int .i64 p, .int .u8 want.kind, .int .i64 want.thread, .int .i64 want.tx, .int .i64 want.at_, .int .i64 want.v, .int .i64 want.x, .int .u8 want.why, .int .u8 got.kind, .int .i64 got.thread, .int .i64 got.tx, .int .i64 got.at_, .int .i64 got.v, .int .i64 got.x, .int .u8 got.why, .bool h]], max Tryz.f3.ntmps 1, [.code (cAt Tryz.prog 3 [])], [], none⟩ : AF) = ⟨3, (trOf [(0, (.agg [.bool o, .int .i64 p, .int .u8 want.kind, .int .i64 want.thread, .int .i64 want.tx, .int .i64 want.at_, .int .i64 want.v, .int .i64 want.x, .int .u8 want.why, .int .u8 got.kind, .int .i64 got.thread, .int .i64 got.tx, .int .i64 got.at_, .int .i64 got.v, .int .i64 got.x, .int .u8 got.why, .bool h]))]), 20, [.code (cAt Tryz.prog 3 [])], [], none⟩ := by kernel_rfl
theorem walkL (W : World) (hL : laidMetH Tryz.prog Rows.divergeTextsRow.laid W) {o h : Bool} {p : Int} {want got : Ev} (ho : i64In p ∧ EvOk want ∧ EvOk got) :
    Calls Tryz.prog 3 #[valR o p want got h] W fun e w' => e = .returned (.bool true) ∧ Below W.heap.size W w' := by
  obtain ⟨ρ, S⟩ := starts1 W hL
  have hc := arunI_sim progOk (okL (baseOf W) rfl) rfl 6
  have hl := local_arunI Tryz.prog (okL (baseOf W) rfl) F0 6
  have H := DtL.law (o := o) (h := h) (p := p) (want := want) (got := got) hc hl ho
  rw [kn1_st, ← lawFr] at H
  have hv : VRs ρ [.agg [.bool o, .int .i64 p, .int .u8 want.kind, .int .i64 want.thread, .int .i64 want.tx, .int .i64 want.at_, .int .i64 want.v, .int .i64 want.x, .int .u8 want.why, .int .u8 got.kind, .int .i64 got.thread, .int .i64 got.tx, .int .i64 got.at_, .int .i64 got.v, .int .i64 got.x, .int .u8 got.why, .bool h]] (#[valR o p want got h] : Array Value).toList := by
    simp only [valR, VRs, VR]
    exact ⟨_, _, rfl, ⟨_, rfl, by simp [VRs, VR]⟩, rfl⟩
  have fi : Fine (⟨heap1, nx0, 0, [], []⟩ : AS) := ⟨Nat.zero_le _, by unfold nx0 top; decide⟩
  have hcall := Sim.calls (s := ⟨heap1, nx0, 0, [], []⟩) (vs := #[valR o p want got h]) progOk Tryz.func3 (cAt_body Tryz.func3 (by kernel_rfl)) (ble_true.1 (by kernel_rfl)) H fi S.rel S.g (fun k h1 _ => S.free k h1) hv
  refine hcall.mono fun e w' => ?_
  rintro ⟨v, x, s3, rfl, rfl, _, _, σ, _, q2, _, q4⟩
  simp only [VR] at q2
  exact ⟨by rw [q2], q4.below⟩
theorem laidOut : laidOutB Tryz.prog = true := by kernel_rfl
theorem rd25 : Tryz.prog.readableRec 25 = true := by kernel_rfl
theorem at25 : 25 < Tryz.prog.types.size := of_decide_eq_true (by kernel_rfl)
def zeroReport : Value := valR false 0 ⟨0, 0, 0, 0, 0, 0, 0⟩ ⟨0, 0, 0, 0, 0, 0, 0⟩ false

theorem lifted (os : Os) (started : os.Started) (H : Type) (enc : TypeId × Value → H) :
    ReturnsInHanded {} Tryz.checked os 3 .any (fun w args => (Rows.divergeTextsSpec.pre enc Tryz.prog Tryz.f3 [] false w args ∧ laidMetH Tryz.prog Rows.divergeTextsRow.laid w) ∧ sizedMet enc Tryz.prog Tryz.f3 (OpenSpec.ofChange Rows.divergeTextsSpec) false w args)
      (Rows.divergeTextsSpec.post enc Tryz.prog Tryz.f3 false true false false) := by
  refine returnsInHanded_of_change_and (C := Tryz.checked) (X := fun w _ => laidMetH Tryz.prog Rows.divergeTextsRow.laid w) (fun _ _ _ hh h => h.of_heap hh) own started (by as_aux_lemma => kernel_rfl) Tryz.func3
    (ChangeSpec.witness_shaped (enc := enc) (C := Tryz.checked) (os := os) (X := fun w _ => laidMetH Tryz.prog Rows.divergeTextsRow.laid w) false (World.doorLaid Tryz.prog 63 os) #[zeroReport] 8 rfl (World.shaped_of_RefB (by as_aux_lemma => kernel_rfl) (by as_aux_lemma => kernel_rfl)) (by as_aux_lemma => kernel_rfl) (by as_aux_lemma => kernel_rfl) (by as_aux_lemma => kernel_rfl) (door_met os _)) ?_
  intro W base args ds gs before hval0 hW _ _ hL _
  have hval : ∀ (j : Nat) t v, Tryz.f3.params[j]? = some t → args[j]? = some v → Value.okWide Tryz.prog W .any base t v := hval0
  have hW' := hW
  have hlt := hW.lt
  obtain ⟨p, q, hA0, hV, rfl, hfz, hnd⟩ := hW
  have hA : DataW.TrodAll enc Tryz.prog W 0 (fun _ => true) true Tryz.f3.params.toList args.toList ds p := hA0
  rw [Tryz.params3] at hA hval
  obtain ⟨va, da, rfl, rfl, h1⟩ := trodAll_one hA
  obtain ⟨rfl, rfl⟩ := trodVars_none hV
  obtain ⟨o, z, want, got, hs, rfl, ho⟩ := report_in (hval 0 25 va rfl rfl) h1
  clear hA0 hval0
  simp only [List.append_nil] at hW' hlt
  refine (walkL W hL ho).mono fun e W' ⟨he, hg⟩ => ?_
  subst he
  refine ⟨_, rfl, _, _, _, [], p, [], hW', ?_, ?_, ?_, hg.frame _, fun h => by cases h⟩
  · exact trodAll_mk1 (shut_bool Tryz.underlying4 true)
  · exact trodAll_mk1 (Below.trod laidOut rd25 at25 h1 hg (fun x hx => hlt x (by simpa using hx)))
  · rfl
end Go.Proofs.YtadcegpdegpnmaaGreatDoor.divergeTexts
