import Derived.Test.YtadcegpdegpnmaaGreatDoorDtS
open Go Go.Rn Go.RowKit Go.Proofs
set_option maxRecDepth 100000
namespace DtW
open DtP DtS Go.Proofs.YtadcegpdegpnmaaGreatDoor.divergeTexts
set_option maxHeartbeats 8000000 in
theorem iitoa {B : Base} {F : Nat → Option (List AV)} (hc : CallSim Tryz.prog B (arunI Tryz.prog sp0 F 6)) (hl : ∀ t a, Local (arunI Tryz.prog sp0 F 6 t a)) {n : Int} (ho : i64In n) :
    Sim Tryz.prog B 270 (Fin Tryz.prog Tryz.f21.results.toList fun y _ => y = .str (itoaB n)) ⟨21, (trOf [(0, (.int .i64 (n)))]), 5, [.code (cAt Tryz.prog 21 [])], [], none⟩ (stOf (kn1) 270) := by
  have ho' := ho; simp only [i64In] at ho'
  refine GSim.start (by as_aux_lemma => kernel_rfl) ?_
  refine Chunk.jump (Chunk.sim hmix hc hl) (K1 := [.code (cAt Tryz.prog 21 [1, 0]), .code (cAt Tryz.prog 21 [1, 1])]) 3 [(2, (.str ⟨#[]⟩))] [] 270 ?_
  refine Chunk.reg' (Chunk.sim hmix hc hl) 1 ?_
  refine RegG.go 1 [(3, (.int .i64 (n)))] ?_
  have hin1 : i64In n := by unfold i64In; omega
  refine RegG.opQ (op := .call ⟨.value (.func 36), #[(.tmp 3), (.const (.int .i64 (10)))], #[2, 3]⟩) (d := 4) (v := (.str (itoaB n))) (g := none) (op_callF (args := [(.int .i64 (n)), (.int .i64 (.ofNat 10))]) (by as_aux_lemma => kernel_rfl) (k1_says (by as_aux_lemma => kernel_rfl) (fmtL_ok rfl hin1) (by as_aux_lemma => kernel_rfl))) (by as_aux_lemma => kernel_rfl) ?_
  exact RegG.fin hmix hc hl 1 (v' := (.str (itoaB n))) rfl
set_option maxHeartbeats 8000000 in
theorem itoa {B : Base} {F : Nat → Option (List AV)} (hc : CallSim Tryz.prog B (arunI Tryz.prog (updS sp0 21 (K1 itoaL)) F 6)) (hl : ∀ t a, Local (arunI Tryz.prog (updS sp0 21 (K1 itoaL)) F 6 t a)) {n : Int} (ho : i64In n) :
    Sim Tryz.prog B 270 (Fin Tryz.prog Tryz.f9.results.toList fun y _ => y = .str (itoaB n)) ⟨9, (trOf [(0, (.int .i64 (n)))]), 5, [.code (cAt Tryz.prog 9 [])], [], none⟩ (stOf (kn1) 270) := by
  have ho' := ho; simp only [i64In] at ho'
  refine GSim.start (by as_aux_lemma => kernel_rfl) ?_
  refine Chunk.jump (Chunk.sim hmix hc hl) (K1 := [.code (cAt Tryz.prog 9 [1, 0]), .code (cAt Tryz.prog 9 [1, 1])]) 3 [(2, (.str ⟨#[]⟩))] [] 270 ?_
  refine Chunk.reg' (Chunk.sim hmix hc hl) 1 ?_
  refine RegG.go 1 [(3, (.int .i64 (n)))] ?_
  have hin1 : i64In n := by unfold i64In; omega
  refine RegG.opQ (op := .call ⟨.value (.func 21), #[(.tmp 3)], #[3]⟩) (d := 4) (v := (.str (itoaB n))) (g := none) (op_callF (args := [(.int .i64 (n))]) (by as_aux_lemma => kernel_rfl) (k1_says (by as_aux_lemma => kernel_rfl) (itoaL_ok hin1) (by as_aux_lemma => kernel_rfl))) (by as_aux_lemma => kernel_rfl) ?_
  exact RegG.fin hmix hc hl 1 (v' := (.str (itoaB n))) rfl
set_option maxHeartbeats 8000000 in
theorem fmt {B : Base} {F : Nat → Option (List AV)} (hc : CallSim Tryz.prog B (arunI Tryz.prog (updS (updS sp0 21 (K1 itoaL)) 9 (K1 itoaL)) F 6)) (hl : ∀ t a, Local (arunI Tryz.prog (updS (updS sp0 21 (K1 itoaL)) 9 (K1 itoaL)) F 6 t a)) {n : Int} (ho : i64In n) :
    Sim Tryz.prog B 270 (Fin Tryz.prog Tryz.f23.results.toList fun y _ => y = .str (itoaB n)) ⟨23, (trOf [(0, (.int .i64 (n))), (1, (.int .i64 (.ofNat 10)))]), 8, [.code (cAt Tryz.prog 23 [])], [], none⟩ (stOf (kn1) 270) := by
  have ho' := ho; simp only [i64In] at ho'
  refine GSim.start (by as_aux_lemma => kernel_rfl) ?_
  refine Chunk.jump (Chunk.sim hmix hc hl) (K1 := [.code (cAt Tryz.prog 23 [1, 0]), .code (cAt Tryz.prog 23 [1, 1])]) 3 [(4, (.str ⟨#[]⟩))] [] 270 ?_
  refine Chunk.reg' (Chunk.sim hmix hc hl) 1 ?_
  refine RegG.go 2 [(5, (.int .i64 (n))), (6, (.int .i64 (.ofNat 10)))] ?_
  have hin1 : i64In n := by unfold i64In; omega
  refine RegG.opQ (op := .call ⟨.value (.func 36), #[(.tmp 5), (.tmp 6)], #[2, 3]⟩) (d := 7) (v := (.str (itoaB n))) (g := none) (op_callF (args := [(.int .i64 (n)), (.int .i64 (.ofNat 10))]) (by as_aux_lemma => kernel_rfl) (k1_says (by as_aux_lemma => kernel_rfl) (fmtL_ok rfl hin1) (by as_aux_lemma => kernel_rfl))) (by as_aux_lemma => kernel_rfl) ?_
  exact RegG.fin hmix hc hl 1 (v' := (.str (itoaB n))) rfl
set_option maxHeartbeats 8000000 in
theorem within {B : Base} {F : Nat → Option (List AV)} (hc : CallSim Tryz.prog B (arunI Tryz.prog sp0 F 6)) (hl : ∀ t a, Local (arunI Tryz.prog sp0 F 6 t a)) {n a b : Int} :
    Sim Tryz.prog B 270 (Fin Tryz.prog Tryz.f37.results.toList fun y _ => y = .bool (decide (a ≤ n ∧ n ≤ b))) ⟨37, (trOf [(0, (.int .i64 (n))), (1, (.int .i64 (a))), (2, (.int .i64 (b)))]), 15, [.code (cAt Tryz.prog 37 [])], [], none⟩ (stOf (kn1) 270) := by
  refine GSim.start (by as_aux_lemma => kernel_rfl) ?_
  refine Chunk.jump (Chunk.sim hmix hc hl) (K1 := [.code (cAt Tryz.prog 37 [1, 0]), .code (cAt Tryz.prog 37 [1, 1])]) 3 [(6, (.bool false))] [] 270 ?_
  refine Chunk.reg' (Chunk.sim hmix hc hl) 1 ?_
  refine RegG.go 2 [(7, (.int .i64 (n))), (8, (.int .i64 (a)))] ?_
  refine RegG.cmp (op := .geq) (ty := 3) (yt := 3) (x := (.tmp 7)) (y := (.tmp 8)) (d := 9) (k := .i64) (g := none) (c_geq n a) (by as_aux_lemma => kernel_rfl) (fun h1 => ?_) (fun h1 => ?_)
  · refine RegG.go 3 [(10, (.bool true)), (11, (.int .i64 (n))), (12, (.int .i64 (b)))] ?_
    refine RegG.cmp (op := .leq) (ty := 3) (yt := 3) (x := (.tmp 11)) (y := (.tmp 12)) (d := 13) (k := .i64) (g := some (3, true)) (c_leq n b) (by as_aux_lemma => kernel_rfl) (fun h2 => ?_) (fun h2 => ?_)
    · exact RegG.fin hmix hc hl 1 (v' := (.bool true)) (congrArg AV.bool (decide_eq_true (by omega)).symm)
    · exact RegG.fin hmix hc hl 1 (v' := (.bool false)) (congrArg AV.bool (decide_eq_false (by omega)).symm)
  · exact RegG.fin hmix hc hl 1 (v' := (.bool false)) (congrArg AV.bool (decide_eq_false (by omega)).symm)
set_option maxHeartbeats 8000000 in
theorem known {B : Base} {F : Nat → Option (List AV)} (hc : CallSim Tryz.prog B (arunI Tryz.prog sp0 F 6)) (hl : ∀ t a, Local (arunI Tryz.prog sp0 F 6 t a)) {k : Int} :
    Sim Tryz.prog B 270 (Fin Tryz.prog Tryz.f38.results.toList fun y _ => y = .bool (decide (1 ≤ k ∧ k ≤ 13))) ⟨38, (trOf [(0, (.int .u8 (k)))]), 9, [.code (cAt Tryz.prog 38 [])], [], none⟩ (stOf (kn1) 270) := by
  refine GSim.start (by as_aux_lemma => kernel_rfl) ?_
  refine Chunk.jump (Chunk.sim hmix hc hl) (K1 := [.code (cAt Tryz.prog 38 [1, 0]), .code (cAt Tryz.prog 38 [1, 1])]) 3 [(2, (.bool false))] [] 270 ?_
  refine Chunk.reg' (Chunk.sim hmix hc hl) 1 ?_
  refine RegG.go 1 [(3, (.int .u8 (k)))] ?_
  refine RegG.cmp (op := .geq) (ty := 5) (yt := 5) (x := (.tmp 3)) (y := (.const (.int .u8 (1)))) (d := 4) (k := .u8) (g := none) (c_geq k 1) (by as_aux_lemma => kernel_rfl) (fun h1 => ?_) (fun h1 => ?_)
  · refine RegG.go 2 [(5, (.bool true)), (6, (.int .u8 (k)))] ?_
    refine RegG.cmp (op := .leq) (ty := 5) (yt := 5) (x := (.tmp 6)) (y := (.const (.int .u8 (13)))) (d := 7) (k := .u8) (g := some (2, true)) (c_leq k 13) (by as_aux_lemma => kernel_rfl) (fun h2 => ?_) (fun h2 => ?_)
    · exact RegG.fin hmix hc hl 1 (v' := (.bool true)) (congrArg AV.bool (decide_eq_true (by omega)).symm)
    · exact RegG.fin hmix hc hl 1 (v' := (.bool false)) (congrArg AV.bool (decide_eq_false (by omega)).symm)
  · exact RegG.fin hmix hc hl 1 (v' := (.bool false)) (congrArg AV.bool (decide_eq_false (by omega)).symm)
set_option maxHeartbeats 8000000 in
theorem name {B : Base} {F : Nat → Option (List AV)} (hc : CallSim Tryz.prog B (arunI Tryz.prog sp0 F 6)) (hl : ∀ t a, Local (arunI Tryz.prog sp0 F 6 t a)) {k : Int} (hk : 13 < k) :
    Sim Tryz.prog B 270 (Fin Tryz.prog Tryz.f27.results.toList fun y _ => y = .str ⟨#[]⟩) ⟨27, (trOf [(0, (.int .u8 (k)))]), 8, [.code (cAt Tryz.prog 27 [])], [], none⟩ (stOf (kn1) 270) := by
  refine GSim.start (by as_aux_lemma => kernel_rfl) ?_
  refine Chunk.jump (Chunk.sim hmix hc hl) (K1 := [.code (cAt Tryz.prog 27 [1, 0, 0]), .code (cAt Tryz.prog 27 [1, 0, 1]), .code (cAt Tryz.prog 27 [1, 1])]) 4 [(2, (.str ⟨#[]⟩))] [] 270 ?_
  refine Chunk.reg' (Chunk.sim hmix hc hl) 1 ?_
  refine RegG.go 1 [(3, (.int .u8 (k)))] ?_
  refine RegG.cmp (op := .gtr) (ty := 5) (yt := 5) (x := (.tmp 3)) (y := (.const (.int .u8 (13)))) (d := 4) (k := .u8) (g := none) (c_gtr k 13) (by as_aux_lemma => kernel_rfl) (fun h1 => ?_) (fun h1 => ?_)
  · exact RegG.fin hmix hc hl 4 (v' := (.str ⟨#[]⟩)) rfl
  · exact (show False by omega).elim
end DtW
