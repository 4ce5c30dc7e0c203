/-
  Proved here: the row of the statement AuditBegun: for every input.
  Conditions: those that the given statement names, and no others.
-/
import Derived.Test.YteiaibkhlejkbaaGreatDoorLawU
import Derived.Test.YteiaibkhlejkbaaGreatDoorSegD
import Derived.ChangeSame
import Derived.ChangeVars
import Derived.ChangeOld
import Derived.Carry
import Derived.JoinedOf
import Derived.RowKit
import Derived.RowKitTokens
import Derived.LaidLaws
import Derived.LaidHandle
import Derived.LaidMore
import Derived.WalkKit
import Derived.ProofKit
import Derived.OpenShut
import Derived.Stop.Joined
namespace Go.Proofs.YteiaibkhlejkbaaGreatDoor.auditBegun
open Go.ChangeShapes Go.WideShapes Go.ChangeAt Go.RowKit Go.Rn
open ComT SpL LawU
set_option maxRecDepth 100000

def valsEv (e : Ev) : List Value := [.int .u8 e.kind, .int .i64 e.thread, .int .i64 e.tx, .int .i64 e.at_, .int .i64 e.v, .int .i64 e.x, .int .u8 e.why]
theorem evVal : EncVal 7 encEv valsEv := ⟨fun _ => rfl, fun _ => rfl, fun a j x h => by
  rcases j with _ | _ | _ | _ | _ | _ | _ | j
  all_goals first
    | (have h' : some _ = some x := h
       injection h' with h'
       subst h'
       exact ⟨_, rfl, fun ρ => by simp only [VR], rfl⟩)
    | (exfalso
       have : (encEv a)[j + 7]? = none := List.getElem?_eq_none (by show 7 ≤ j + 7; omega)
       rw [this] at h; cases h)⟩
section
variable {H : Type} {enc : TypeId × Value → H} {w : World} {base : Nat} {sp : Nat → Bool} {held : Bool}
theorem evInts : intsOf Tryz.prog 47 [.u8, .i64, .i64, .i64, .i64, .i64, .u8] = true := by kernel_rfl
theorem ev_row (row : List Value) (h : row.length = 7) (h2 : ∃ n y, DataW.trod enc Tryz.prog w base sp held n 47 row = some y) : ∃ a, row = valsEv a := by
  obtain ⟨n, y, h2⟩ := h2
  obtain ⟨zs, l1, l2, l3⟩ := struct_ints evInts h2
  match zs, l1, l3 with
  | [a, b, c, d, e, f, g], _, l3 =>
    refine ⟨⟨a, b, c, d, e, f, g⟩, ?_⟩
    apply List.ext_getElem?
    intro i
    rcases i with _ | _ | _ | _ | _ | _ | _ | i
    · exact l3 0 _ _ rfl rfl
    · exact l3 1 _ _ rfl rfl
    · exact l3 2 _ _ rfl rfl
    · exact l3 3 _ _ rfl rfl
    · exact l3 4 _ _ rfl rfl
    · exact l3 5 _ _ rfl rfl
    · exact l3 6 _ _ rfl rfl
    · rw [List.getElem?_eq_none (by rw [h]; omega), List.getElem?_eq_none (by show 7 ≤ i + 7; omega)]
theorem sz24 : Tryz.prog.cellsOf 24 = 4 := by kernel_rfl
theorem sz3 : Tryz.prog.cellsOf 3 = 1 := by kernel_rfl
theorem sz22 : Tryz.prog.cellsOf 22 = 1 := by kernel_rfl
theorem sz47 : Tryz.prog.cellsOf 47 = 7 := by kernel_rfl
theorem ct24 : Tryz.prog.cellTypes Tryz.prog.depth 24 = some [3, 3, 3, 22] := by kernel_rfl
/-- A trace of the input. -/
theorem trace_in {b0 : Nat} {v : Value} {d : DataW H} {p : List MemPlace} (hok : Value.okWide Tryz.prog w .any b0 24 v) (h : DataW.Trod enc Tryz.prog w base sp held 24 v d p) :
    ∃ (x y z : Int) (e : Value) (l : List Ev), v = .agg #[.int .i64 x, .int .i64 y, .int .i64 z, e] ∧ InSl w 7 encEv e l := by
  unfold Value.okWide at hok
  rw [Tryz.underlying24] at hok
  obtain ⟨cs, rfl, hsz, ts, hts, _, hcell⟩ := hok
  obtain ⟨fuel, h⟩ := h
  have h' : DataW.trod enc Tryz.prog w base sp held fuel 24 cs.toList = some (d, p) := h
  obtain ⟨xs, n, _, _, hlen, hxs, hf⟩ := DataW.trod_struct Tryz.underlying24 h'
  rw [sz24] at hlen
  have hxs4 : xs.length = 4 := hxs
  rw [ct24] at hts
  injection hts with hts
  subst hts
  obtain ⟨l⟩ := cs
  match l, hlen, xs, hxs4, hf, hcell with
  | [c0, c1, c2, c3], _, [x0, x1, x2, x3], _, hf, hcell =>
    have f0 : DataW.trod enc Tryz.prog w base sp held n 3 (([c0, c1, c2, c3].drop 0).take (Tryz.prog.cellsOf 3)) = some x0 := hf 0 _ rfl
    have f1 : DataW.trod enc Tryz.prog w base sp held n 3 (([c0, c1, c2, c3].drop 1).take (Tryz.prog.cellsOf 3)) = some x1 := hf 1 _ rfl
    have f2 : DataW.trod enc Tryz.prog w base sp held n 3 (([c0, c1, c2, c3].drop 2).take (Tryz.prog.cellsOf 3)) = some x2 := hf 2 _ rfl
    have f3 : DataW.trod enc Tryz.prog w base sp held n 22 (([c0, c1, c2, c3].drop 3).take (Tryz.prog.cellsOf 22)) = some x3 := hf 3 _ rfl
    rw [sz3] at f0 f1 f2
    rw [sz22] at f3
    obtain ⟨a, e0, _, _⟩ := DataW.trod_int Tryz.underlying3 f0
    obtain ⟨b, e1, _, _⟩ := DataW.trod_int Tryz.underlying3 f1
    obtain ⟨c, e2, _, _⟩ := DataW.trod_int Tryz.underlying3 f2
    have e0' : [c0] = [.int .i64 a] := e0
    have e1' : [c1] = [.int .i64 b] := e1
    have e2' : [c2] = [.int .i64 c] := e2
    have f3' : DataW.trod enc Tryz.prog w base sp held n 22 [c3] = some x3 := f3
    injection e0' with e0' _
    injection e1' with e1' _
    injection e2' with e2' _
    subst e0'; subst e1'; subst e2'
    obtain ⟨u, hu, hc⟩ := hcell 3 c3 rfl
    have hu' : (some 22 : Option TypeId) = some u := hu
    injection hu' with hu'
    subst hu'
    obtain ⟨l, hl⟩ := input_slice evVal Tryz.underlying22 sz47 ev_row hc f3'
    exact ⟨a, b, c, c3, l, rfl, hl⟩
end
theorem lawRs : Tryz.f3.results.toList = rsL := by kernel_rfl
theorem lawFr {a b : AV} {n : Int} : (⟨3, fillArgs [a, b, .int .i64 n], max Tryz.f3.ntmps 3, [.code (Tryz.f3.body.getD .skip)], [], none⟩ : AF) = ⟨3, (trOf [(0, a), (1, b), (2, (.int .i64 (n)))]), 85, [.code (cAt Tryz.prog 3 [])], [], none⟩ := by kernel_rfl
theorem lawBody : Tryz.f3.body = some (Tryz.f3.body.getD .skip) := by kernel_rfl
theorem lowFree : ∀ (W : World) (ρ : Ren), Rn.Start nx0 heap0 ρ W → ∀ k, top ≤ k → ρ k = none := fun W ρ S k hk => S.free k (Nat.le_trans (by unfold nx0 top; decide) hk)
theorem walkL (W : World) (hL : laidMetH Tryz.prog Rows.auditBegunRow.laid W) {x1 y1 z1 x2 y2 z2 n : Int} {e1 e2 : Value} {l1 l2 : List Ev} (i1 : InSl W 7 encEv e1 l1) (i2 : InSl W 7 encEv e2 l2) :
    Calls Tryz.prog 3 #[.agg #[.int .i64 x1, .int .i64 y1, .int .i64 z1, e1], .agg #[.int .i64 x2, .int .i64 y2, .int .i64 z2, e2], .int .i64 n] W fun e w' => e = .returned (.bool true) ∧ Below W.heap.size W w' := by
  obtain ⟨ρ, S⟩ := starts W hL
  have hno : ∀ n o, n < top → heap0.get n = some o → o.isRo = true := fun n o hn ho => (S.is n o hn ho).1
  obtain ⟨F1, ρ1, m1, ev, r1, le1, lo1, up1, b1, t1, sl1, v1⟩ := Rel.addIn (F := fun _ => none) (m := top) S.rel (Nat.le_refl _) (fun k hk => ⟨rfl, lowFree W ρ S k hk⟩) hno okE.len i1
  obtain ⟨F2, ρ2, m2, fv, r2, le2, lo2, up2, b2, t2, sl2, v2⟩ := Rel.addIn r1 t1 b1 hno okE.len i2
  have hfin : FinF F2 := ⟨m2, t2, fun k hk => (b2 k hk).1⟩
  have hok : SpOk Tryz.prog ⟨fun k => W.heap.size ≤ k, F2⟩ (spL F2) := okL (B := ⟨fun k => W.heap.size ≤ k, F2⟩) progOk hfin
  have hc := arunI_sim (B := ⟨fun k => W.heap.size ≤ k, F2⟩) progOk hok rfl 2
  have hl := local_arunI Tryz.prog hok F2 2
  have H := law_sim (B := ⟨fun k => W.heap.size ≤ k, F2⟩) (a1 := x1) (a2 := y1) (a3 := z1) (b1 := x2) (b2 := y2) (b3 := z2) (n := n) hc hl (sl1.mono up2) sl2
  have hg : RenG ρ2 := fun g hg => by
    obtain ⟨N, e⟩ := S.g g hg
    exact ⟨N, le2 _ _ (le1 _ _ e)⟩
  have hf : ∀ k, 270 ≤ k → k < top → ρ2 k = none := fun k h1 h2 => by
    rw [lo2 k h2, lo1 k h2]
    exact S.free k h1
  have hv : VRs ρ2 [.agg [.int .i64 x1, .int .i64 y1, .int .i64 z1, ev], .agg [.int .i64 x2, .int .i64 y2, .int .i64 z2, fv], .int .i64 n] (#[.agg #[.int .i64 x1, .int .i64 y1, .int .i64 z1, e1], .agg #[.int .i64 x2, .int .i64 y2, .int .i64 z2, e2], .int .i64 n] : Array Value).toList := by
    simp only [VRs, VR]
    exact ⟨_, _, rfl, ⟨_, rfl, _, _, rfl, rfl, _, _, rfl, rfl, _, _, rfl, rfl, _, _, rfl, VR.mono le2 _ _ v1, rfl⟩, _, _, rfl, ⟨_, rfl, _, _, rfl, rfl, _, _, rfl, rfl, _, _, rfl, rfl, _, _, rfl, v2, rfl⟩, _, _, rfl, rfl, rfl⟩
  have r2' : Rel ⟨fun k => W.heap.size ≤ k, F2⟩ ρ2 (stOf kn0 270).h W := by
    show Rel _ ρ2 (hpOf kn0) W
    rw [kn0_heap]
    exact r2
  rw [← lawRs] at H
  have H' : Sim Tryz.prog ⟨fun k => W.heap.size ≤ k, F2⟩ (stOf kn0 270).nx (Fin Tryz.prog Tryz.f3.results.toList fun x _ => x = .bool true) ⟨3, fillArgs [.agg [.int .i64 x1, .int .i64 y1, .int .i64 z1, ev], .agg [.int .i64 x2, .int .i64 y2, .int .i64 z2, fv], .int .i64 n], max Tryz.f3.ntmps 3, [.code (Tryz.f3.body.getD .skip)], [], none⟩ (stOf kn0 270) := by
    rw [lawFr]; exact H
  have hcall := Sim.calls (args := [.agg [.int .i64 x1, .int .i64 y1, .int .i64 z1, ev], .agg [.int .i64 x2, .int .i64 y2, .int .i64 z2, fv], .int .i64 n]) progOk Tryz.func3 lawBody (ble_true.1 (by kernel_rfl)) H' (fine_of (by kernel_rfl)) r2' hg hf hv
  refine hcall.mono fun e w' => ?_
  rintro ⟨v, x, s3, rfl, rfl, _, _, σ, _, q2, _, q4⟩
  simp only [VR] at q2
  exact ⟨by rw [q2], q4.os, q4.tape, q4.output, q4.size, fun k hk => q4.block k hk (by show ¬ (W.heap.size ≤ k); omega)⟩
theorem laidOut : laidOutB Tryz.prog = true := by kernel_rfl
theorem rd24 : Tryz.prog.readableRec 24 = true := by kernel_rfl
theorem rd3 : Tryz.prog.readableRec 3 = true := by kernel_rfl
theorem at24 : 24 < Tryz.prog.types.size := of_decide_eq_true (by kernel_rfl)
theorem at3 : 3 < Tryz.prog.types.size := of_decide_eq_true (by kernel_rfl)
def zeroTrace : Value := .agg #[.int .i64 0, .int .i64 0, .int .i64 0, .slice none 0 0]

theorem lifted (os : Os) (started : os.Started) (H : Type) (enc : TypeId × Value → H) :
    ReturnsInHanded {} Tryz.checked os 3 .any (fun w args => (Rows.auditBegunSpec.pre enc Tryz.prog Tryz.f3 [] false w args ∧ laidMetH Tryz.prog Rows.auditBegunRow.laid w) ∧ sizedMet enc Tryz.prog Tryz.f3 (OpenSpec.ofChange Rows.auditBegunSpec) false w args)
      (Rows.auditBegunSpec.post enc Tryz.prog Tryz.f3 false true false false) := by
  refine returnsInHanded_of_change_and (C := Tryz.checked) (X := fun w _ => laidMetH Tryz.prog Rows.auditBegunRow.laid w) (fun _ _ _ hh h => h.of_heap hh) own started (by as_aux_lemma => kernel_rfl) Tryz.func3
    (ChangeSpec.witness_shaped (enc := enc) (C := Tryz.checked) (os := os) (X := fun w _ => laidMetH Tryz.prog Rows.auditBegunRow.laid w) false (World.doorLaid Tryz.prog 48 os) #[zeroTrace, zeroTrace, .int .i64 0] 8 rfl (World.shaped_of_RefB (by as_aux_lemma => kernel_rfl) (by as_aux_lemma => kernel_rfl)) (by as_aux_lemma => kernel_rfl) (by as_aux_lemma => kernel_rfl) (by as_aux_lemma => kernel_rfl) (door_met os _)) ?_
  intro W base args ds gs before hval0 hW _ _ hL _
  have hval : ∀ (j : Nat) t v, Tryz.f3.params[j]? = some t → args[j]? = some v → Value.okWide Tryz.prog W .any base t v := hval0
  have hW' := hW
  have hlt := hW.lt
  obtain ⟨p, q, hA0, hV, rfl, hfz, hnd⟩ := hW
  have hA : DataW.TrodAll enc Tryz.prog W 0 (fun _ => true) true Tryz.f3.params.toList args.toList ds p := hA0
  rw [Tryz.params3] at hA hval
  obtain ⟨va, vb, vc, da, db, dc, pa, pb, pc, rfl, rfl, rfl, h1, h2, h3⟩ := trodAll_three hA
  obtain ⟨rfl, rfl⟩ := trodVars_none hV
  obtain ⟨x1, y1, z1, e1, l1, rfl, i1⟩ := trace_in (hval 0 24 va rfl rfl) h1
  obtain ⟨x2, y2, z2, e2, l2, rfl, i2⟩ := trace_in (hval 1 24 vb rfl rfl) h2
  obtain ⟨n, rfl, _, _, _⟩ := open_int Tryz.underlying3 (hval 2 3 vc rfl rfl) h3
  clear hA0 hval0
  simp only [List.append_nil] at hW' hlt
  refine (walkL W hL i1 i2).mono fun e W' ⟨he, hg⟩ => ?_
  subst he
  refine ⟨_, rfl, _, _, _, [], pa ++ (pb ++ pc), [], hW', ?_, ?_, ?_, hg.frame _, fun h => by cases h⟩
  · exact trodAll_mk1 (shut_bool Tryz.underlying4 true)
  · exact trodAll_mk3 (Below.trod laidOut rd24 at24 h1 hg (fun x hx => hlt x (by simp [hx]))) (Below.trod laidOut rd24 at24 h2 hg (fun x hx => hlt x (by simp [hx]))) (Below.trod laidOut rd3 at3 h3 hg (fun x hx => hlt x (by simp [hx])))
  · rfl
end Go.Proofs.YteiaibkhlejkbaaGreatDoor.auditBegun
