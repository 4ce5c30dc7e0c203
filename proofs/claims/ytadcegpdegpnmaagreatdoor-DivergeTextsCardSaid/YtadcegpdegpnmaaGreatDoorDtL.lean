import Derived.Test.YtadcegpdegpnmaaGreatDoorDtC
open Go Go.Rn Go.RowKit Go.Proofs
set_option maxRecDepth 100000
namespace DtL
open DtP DtS DtC Go.Proofs.YtadcegpdegpnmaaGreatDoor.divergeTexts
theorem repL_ok {o h : Bool} {p : Int} {want got : Ev} (ho : i64In p ∧ EvOk want ∧ EvOk got) : repL [.agg [.bool o, .int .i64 p, .int .u8 want.kind, .int .i64 want.thread, .int .i64 want.tx, .int .i64 want.at_, .int .i64 want.v, .int .i64 want.x, .int .u8 want.why, .int .u8 got.kind, .int .i64 got.thread, .int .i64 got.tx, .int .i64 got.at_, .int .i64 got.v, .int .i64 got.x, .int .u8 got.why, .bool h]] = some (.str (repT o p want got h)) := if_pos ho
theorem aw_says {F : Nat → Option (List AV)} {n : Nat} {s : AS} (h : spL 4 = some (closedM nx0 known0 heap0)) (hk : chkB nx0 heap0 known0 s = true) : arunI Tryz.prog spL F (n + 1) (.fn 4) [] s = .ok (.bool true) (chkS nx0 heap0 known0 s) := by
  show fnI Tryz.prog spL 4 (arunI Tryz.prog spL F n) [] s = _
  rw [fnI_sp h]
  show (withB true <| (checkAll nx0 heap0 known0).bind fun _ => M.pure (AV.bool true)) s = _
  rw [withB_true, M.bind_ok (chk_ok hk)]
  rfl
set_option maxHeartbeats 8000000 in
theorem law {B : Base} {F : Nat → Option (List AV)} (hc : CallSim Tryz.prog B (arunI Tryz.prog spL F 6)) (hl : ∀ t a, Local (arunI Tryz.prog spL F 6 t a)) {o h : Bool} {p : Int} {want got : Ev} (ho : i64In p ∧ EvOk want ∧ EvOk got) :
    Sim Tryz.prog B 270 (Fin Tryz.prog Tryz.f3.results.toList fun y _ => y = .bool true) ⟨3, (trOf [(0, (.agg [(.bool (o)), (.int .i64 (p)), (.int .u8 (want.kind)), (.int .i64 (want.thread)), (.int .i64 (want.tx)), (.int .i64 (want.at_)), (.int .i64 (want.v)), (.int .i64 (want.x)), (.int .u8 (want.why)), (.int .u8 (got.kind)), (.int .i64 (got.thread)), (.int .i64 (got.tx)), (.int .i64 (got.at_)), (.int .i64 (got.v)), (.int .i64 (got.x)), (.int .u8 (got.why)), (.bool (h))]))]), 20, [.code (cAt Tryz.prog 3 [])], [], none⟩ (stOf (kn1) 270) := by
  have hp' := ho.1; simp only [i64In] at hp'
  refine GSim.start (by as_aux_lemma => kernel_rfl) ?_
  refine Chunk.jump (Chunk.sim hmix hc hl) (K1 := [.code (cAt Tryz.prog 3 [1, 0, 0]), .code (cAt Tryz.prog 3 [1, 0, 1]), .code (cAt Tryz.prog 3 [1, 1])]) 4 [(1, (.ptr (some (270, 0)))), (2, (.bool false))] [(270, some (.cells 17 (Tr.fill [(.bool (o)), (.int .i64 (p)), (.int .u8 (want.kind)), (.int .i64 (want.thread)), (.int .i64 (want.tx)), (.int .i64 (want.at_)), (.int .i64 (want.v)), (.int .i64 (want.x)), (.int .u8 (want.why)), (.int .u8 (got.kind)), (.int .i64 (got.thread)), (.int .i64 (got.tx)), (.int .i64 (got.at_)), (.int .i64 (got.v)), (.int .i64 (got.x)), (.int .u8 (got.why)), (.bool (h))] 0 .nil) []))] 271 ?_
  refine Chunk.reg' (Chunk.sim hmix hc hl) 1 ?_
  refine RegG.go 2 [(3, (.ptr (some (270, 1)))), (4, (.int .i64 (p)))] ?_
  refine RegG.cmp (op := .lss) (ty := 3) (yt := 3) (x := (.tmp 4)) (y := (.const (.int .i64 (-1099511627776)))) (d := 5) (k := .i64) (g := none) (c_lss p (-1099511627776)) (by as_aux_lemma => kernel_rfl) (fun h1 => ?_) (fun h1 => ?_)
  · refine RegG.go 5 [(6, (.bool true)), (7, (.tuple [])), (8, (.tuple [])), (9, (.tuple [])), (10, (.bool true))] ?_
    refine RegG.end_ ?_
    refine Chunk.jump (Chunk.sim hmix hc hl) (K1 := [.code (cAt Tryz.prog 3 [1, 0, 1, 0, 0]), .code (cAt Tryz.prog 3 [1, 0, 1, 0, 1]), .code (cAt Tryz.prog 3 [1, 1])]) 2 [] [] 271 ?_
    refine Chunk.reg' (Chunk.sim hmix hc hl) 2 ?_
    refine RegG.opQ (op := .call ⟨.value (.func 4), #[], #[]⟩) (d := 11) (v := (.bool true)) (g := none) (op_callF (args := []) (by as_aux_lemma => kernel_rfl) (aw_says (by as_aux_lemma => kernel_rfl) (by as_aux_lemma => kernel_rfl))) (by as_aux_lemma => kernel_rfl) ?_
    exact RegG.fin hmix hc hl 1 (v' := (.bool true)) rfl
  · refine RegG.go 3 [(6, (.bool false)), (7, (.ptr (some (270, 1)))), (8, (.int .i64 (p)))] ?_
    refine RegG.cmp (op := .gtr) (ty := 3) (yt := 3) (x := (.tmp 8)) (y := (.const (.int .i64 (1099511627776)))) (d := 9) (k := .i64) (g := some (3, false)) (c_gtr p 1099511627776) (by as_aux_lemma => kernel_rfl) (fun h2 => ?_) (fun h2 => ?_)
    · refine RegG.go 1 [(10, (.bool true))] ?_
      refine RegG.end_ ?_
      refine Chunk.jump (Chunk.sim hmix hc hl) (K1 := [.code (cAt Tryz.prog 3 [1, 0, 1, 0, 0]), .code (cAt Tryz.prog 3 [1, 0, 1, 0, 1]), .code (cAt Tryz.prog 3 [1, 1])]) 2 [] [] 271 ?_
      refine Chunk.reg' (Chunk.sim hmix hc hl) 2 ?_
      refine RegG.opQ (op := .call ⟨.value (.func 4), #[], #[]⟩) (d := 11) (v := (.bool true)) (g := none) (op_callF (args := []) (by as_aux_lemma => kernel_rfl) (aw_says (by as_aux_lemma => kernel_rfl) (by as_aux_lemma => kernel_rfl))) (by as_aux_lemma => kernel_rfl) ?_
      exact RegG.fin hmix hc hl 1 (v' := (.bool true)) rfl
    · refine RegG.go 1 [(10, (.bool false))] ?_
      refine RegG.end_ ?_
      refine Chunk.jump (Chunk.sim hmix hc hl) (K1 := [.code (cAt Tryz.prog 3 [1, 1, 0]), .code (cAt Tryz.prog 3 [1, 1, 1])]) 3 [] [] 271 ?_
      refine Chunk.regD' (Chunk.sim hmix hc hl) 3 ?_
      refine RegD.go 1 [(12, (.agg [(.bool (o)), (.int .i64 (p)), (.int .u8 (want.kind)), (.int .i64 (want.thread)), (.int .i64 (want.tx)), (.int .i64 (want.at_)), (.int .i64 (want.v)), (.int .i64 (want.x)), (.int .u8 (want.why)), (.int .u8 (got.kind)), (.int .i64 (got.thread)), (.int .i64 (got.tx)), (.int .i64 (got.at_)), (.int .i64 (got.v)), (.int .i64 (got.x)), (.int .u8 (got.why)), (.bool (h))]))] [⟨0, [270], [], 271, 271⟩] ?_
      refine RegD.opQ (op := .call ⟨.value (.func 5), #[(.tmp 12)], #[28]⟩) (d := 13) (v := (.str (repT o p want got h))) (g := none) ⟨1, [269, 268, 267, 266, 265, 264, 263, 262, 261, 260, 259, 258, 257, 256, 0, 2, 5, 4, 6, 1], [], 271, 271⟩ (op_callF (args := [(.agg [(.bool (o)), (.int .i64 (p)), (.int .u8 (want.kind)), (.int .i64 (want.thread)), (.int .i64 (want.tx)), (.int .i64 (want.at_)), (.int .i64 (want.v)), (.int .i64 (want.x)), (.int .u8 (want.why)), (.int .u8 (got.kind)), (.int .i64 (got.thread)), (.int .i64 (got.tx)), (.int .i64 (got.at_)), (.int .i64 (got.v)), (.int .i64 (got.x)), (.int .u8 (got.why)), (.bool (h))])]) (by as_aux_lemma => kernel_rfl) (k1_says (by as_aux_lemma => kernel_rfl) (repL_ok ho) (by as_aux_lemma => kernel_rfl))) (by as_aux_lemma => kernel_rfl) ?_
      refine RegD.go 1 [(14, (.agg [(.bool (o)), (.int .i64 (p)), (.int .u8 (want.kind)), (.int .i64 (want.thread)), (.int .i64 (want.tx)), (.int .i64 (want.at_)), (.int .i64 (want.v)), (.int .i64 (want.x)), (.int .u8 (want.why)), (.int .u8 (got.kind)), (.int .i64 (got.thread)), (.int .i64 (got.tx)), (.int .i64 (got.at_)), (.int .i64 (got.v)), (.int .i64 (got.x)), (.int .u8 (got.why)), (.bool (h))]))] [⟨2, [270], [], 271, 271⟩] ?_
      refine RegD.opQ (op := .call ⟨.value (.func 6), #[(.tmp 14)], #[25]⟩) (d := 15) (v := (.str (repT o p want got h))) (g := none) ⟨3, [269, 268, 267, 266, 265, 264, 263, 262, 261, 260, 259, 258, 257, 256, 0, 2, 5, 4, 6, 1], [], 271, 271⟩ (op_callF (args := [(.agg [(.bool (o)), (.int .i64 (p)), (.int .u8 (want.kind)), (.int .i64 (want.thread)), (.int .i64 (want.tx)), (.int .i64 (want.at_)), (.int .i64 (want.v)), (.int .i64 (want.x)), (.int .u8 (want.why)), (.int .u8 (got.kind)), (.int .i64 (got.thread)), (.int .i64 (got.tx)), (.int .i64 (got.at_)), (.int .i64 (got.v)), (.int .i64 (got.x)), (.int .u8 (got.why)), (.bool (h))])]) (by as_aux_lemma => kernel_rfl) (k1_says (by as_aux_lemma => kernel_rfl) (repL_ok ho) (by as_aux_lemma => kernel_rfl))) (by as_aux_lemma => kernel_rfl) ?_
      refine RegD.opQ (op := .binOp .eql 9 (.tmp 13) (.tmp 15) 9) (d := 16) (g := none) ⟨4, [], [], 271, 271⟩ (op_strSame (a := (repT o p want got h)) (b := (repT o p want got h)) (by as_aux_lemma => kernel_rfl) rfl) (by as_aux_lemma => kernel_rfl) ?_
      refine RegD.go 1 [(17, (.bool true))] [⟨5, [], [], 271, 271⟩] ?_
      refine RegD.opQ (op := .call ⟨.value (.func 4), #[], #[]⟩) (d := 18) (v := (.bool true)) (g := some (5, true)) ⟨6, [269, 268, 267, 266, 265, 264, 263, 262, 261, 260, 259, 258, 257, 256, 0, 2, 5, 4, 6], [], 271, 271⟩ (op_callF (args := []) (by as_aux_lemma => kernel_rfl) (aw_says (by as_aux_lemma => kernel_rfl) (by as_aux_lemma => kernel_rfl))) (by as_aux_lemma => kernel_rfl) ?_
      exact RegD.fin hmix hc hl 1 (v' := (.bool true)) rfl
end DtL
