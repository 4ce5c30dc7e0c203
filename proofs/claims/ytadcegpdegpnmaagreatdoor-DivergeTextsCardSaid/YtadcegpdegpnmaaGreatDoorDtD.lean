import Derived.Test.YtadcegpdegpnmaaGreatDoorDtS
open Go Go.Rn Go.RowKit Go.Proofs
set_option maxRecDepth 100000
namespace DtD
open DtP DtS Go.Proofs.YtadcegpdegpnmaaGreatDoor.divergeTexts
set_option maxHeartbeats 8000000 in
theorem dig {sp : Sp} {B : Base} {F : Nat → Option (List AV)} (hc : CallSim Tryz.prog B (arunI Tryz.prog sp F 6)) (hl : ∀ t a, Local (arunI Tryz.prog sp F 6 t a)) {n : Int} (ho : i64In n) {val : List AV → Option AV} (hsp : sp 26 = some (K1 val)) {Dm : Int → Prop} (hV : ∀ m, Dm m → val [.int .i64 m] = some (.str (itoaB m))) (hq : 10 ≤ n → Dm (Int.tdiv n 10)) (hn : n < 0 → n ≠ -9223372036854775808 → Dm (0 - n)) :
    Sim Tryz.prog B 270 (Fin Tryz.prog Tryz.f26.results.toList fun y _ => y = .str (itoaB n)) ⟨26, (trOf [(0, (.int .i64 (n)))]), 28, [.code (cAt Tryz.prog 26 [])], [], none⟩ (stOf (kn1) 270) := by
  have ho' := ho; simp only [i64In] at ho'
  have hd := dm10 n
  refine GSim.start (by as_aux_lemma => kernel_rfl) ?_
  refine Chunk.jump (Chunk.sim hmix hc hl) (K1 := [.code (cAt Tryz.prog 26 [1, 0, 0]), .code (cAt Tryz.prog 26 [1, 0, 1]), .code (cAt Tryz.prog 26 [1, 1])]) 4 [(2, (.str ⟨#[]⟩))] [] 270 ?_
  refine Chunk.reg' (Chunk.sim hmix hc hl) 1 ?_
  refine RegG.go 1 [(3, (.int .i64 (n)))] ?_
  refine RegG.cmp (op := .eql) (ty := 2) (yt := 2) (x := (.tmp 3)) (y := (.const (.int .i64 (-9223372036854775808)))) (d := 4) (k := .i64) (g := none) (c_eql n (-9223372036854775808)) (by as_aux_lemma => kernel_rfl) (fun h1 => ?_) (fun h1 => ?_)
  · have e1 : (⟨#[45, 57, 50, 50, 51, 51, 55, 50, 48, 51, 54, 56, 53, 52, 55, 55, 53, 56, 48, 56]⟩ : ByteArray) = itoaB n := by rw [show n = -9223372036854775808 by omega]; exact itoaB_min.symm
    exact RegG.fin hmix hc hl 4 (v' := (.str ⟨#[45, 57, 50, 50, 51, 51, 55, 50, 48, 51, 54, 56, 53, 52, 55, 55, 53, 56, 48, 56]⟩)) (congrArg AV.str e1)
  · refine RegG.end_ ?_
    refine Chunk.jump (Chunk.sim hmix hc hl) (K1 := [.code (cAt Tryz.prog 26 [1, 1, 0, 0]), .code (cAt Tryz.prog 26 [1, 1, 0, 1]), .code (cAt Tryz.prog 26 [1, 1, 1])]) 4 [] [] 270 ?_
    refine Chunk.reg' (Chunk.sim hmix hc hl) 3 ?_
    refine RegG.go 1 [(5, (.int .i64 (n)))] ?_
    refine RegG.cmp (op := .lss) (ty := 2) (yt := 2) (x := (.tmp 5)) (y := (.const (.int .i64 (0)))) (d := 6) (k := .i64) (g := none) (c_lss n 0) (by as_aux_lemma => kernel_rfl) (fun h2 => ?_) (fun h2 => ?_)
    · refine RegG.end_ ?_
      refine Chunk.jump (Chunk.sim hmix hc hl) (K1 := [.code (cAt Tryz.prog 26 [1, 1, 0, 1, 0, 0]), .code (cAt Tryz.prog 26 [1, 1, 0, 1, 0, 1]), .code (cAt Tryz.prog 26 [1, 1, 1])]) 2 [] [] 270 ?_
      refine Chunk.reg' (Chunk.sim hmix hc hl) 4 ?_
      refine RegG.go 1 [(7, (.int .i64 (n)))] ?_
      have hw3 : IntKind.wrap .i64 (0 - n) = (0 - n) := wrap_i64_in (by omega)
      refine RegG.opQ (op := .unOp .neg 2 (.tmp 7)) (d := 8) (g := none) (op_neg (k := .i64) (a := n) (by as_aux_lemma => kernel_rfl) hw3) (by as_aux_lemma => kernel_rfl) ?_
      have hin5 : i64In (0 - n) := by unfold i64In; omega
      have hD4 : Dm (0 - n) := hn (by omega) (by omega)
      refine RegG.opQ (op := .call ⟨.value (.func 26), #[(.tmp 8)], #[2]⟩) (d := 9) (v := (.str (itoaB (0 - n)))) (g := none) (op_callF (args := [(.int .i64 ((0 - n)))]) (by as_aux_lemma => kernel_rfl) (k1_says hsp (hV _ hD4) (by as_aux_lemma => kernel_rfl))) (by as_aux_lemma => kernel_rfl) ?_
      refine RegG.opQ (op := .binOp .add 9 (.const (.string ⟨#[45]⟩)) (.tmp 9) 9) (d := 10) (g := none) (op_strAdd (a := (⟨#[45]⟩ : ByteArray)) (b := (itoaB (0 - n))) (n := 1) (m := 20) (by as_aux_lemma => kernel_rfl) (show ByteArray.size ⟨#[45]⟩ ≤ 1 from Nat.le_refl _) (itoaB_size hin5) (by as_aux_lemma => kernel_rfl)) (by as_aux_lemma => kernel_rfl) ?_
      have e1 : (((⟨#[45]⟩ : ByteArray) ++ (itoaB (0 - n))) : ByteArray) = itoaB n := itoaB_neg (by omega)
      exact RegG.fin hmix hc hl 1 (v' := (.str ((⟨#[45]⟩ : ByteArray) ++ (itoaB (0 - n))))) (congrArg AV.str e1)
    · refine RegG.end_ ?_
      refine Chunk.jump (Chunk.sim hmix hc hl) (K1 := [.code (cAt Tryz.prog 26 [1, 1, 1, 0, 0]), .code (cAt Tryz.prog 26 [1, 1, 1, 0, 1]), .code (cAt Tryz.prog 26 [1, 1, 1, 1])]) 4 [] [] 270 ?_
      refine Chunk.reg' (Chunk.sim hmix hc hl) 5 ?_
      refine RegG.go 1 [(11, (.int .i64 (n)))] ?_
      refine RegG.cmp (op := .lss) (ty := 2) (yt := 2) (x := (.tmp 11)) (y := (.const (.int .i64 (10)))) (d := 12) (k := .i64) (g := none) (c_lss n 10) (by as_aux_lemma => kernel_rfl) (fun h6 => ?_) (fun h6 => ?_)
      · refine RegG.end_ ?_
        refine Chunk.jump (Chunk.sim hmix hc hl) (K1 := [.code (cAt Tryz.prog 26 [1, 1, 1, 0, 1, 0, 0]), .code (cAt Tryz.prog 26 [1, 1, 1, 0, 1, 0, 1]), .code (cAt Tryz.prog 26 [1, 1, 1, 1])]) 2 [] [] 270 ?_
        refine Chunk.reg' (Chunk.sim hmix hc hl) 6 ?_
        refine RegG.go 1 [(13, (.int .i64 (n)))] ?_
        have hw7 : IntKind.wrap .i64 ((48 : Int) + n) = ((48 : Int) + n) := wrap_i64_in (by omega)
        refine RegG.opQ (op := .binOp .add 2 (.const (.int .i64 (48))) (.tmp 13) 2) (d := 14) (g := none) (op_add (k := .i64) (a := 48) (b := n) (by as_aux_lemma => kernel_rfl) (by as_aux_lemma => kernel_rfl) hw7) (by as_aux_lemma => kernel_rfl) ?_
        have hw8 : IntKind.wrap .u8 ((48 : Int) + n) = ((48 : Int) + n) := wrap_u8_in (by omega)
        refine RegG.opQ (op := .convert 2 5 (.tmp 14)) (d := 15) (g := none) (op_convInt (k := .i64) (k' := .u8) (n := ((48 : Int) + n)) (m := ((48 : Int) + n)) (by as_aux_lemma => kernel_rfl) (by as_aux_lemma => kernel_rfl) (by as_aux_lemma => kernel_rfl) hw8) (by as_aux_lemma => kernel_rfl) ?_
        have e1 : (⟨#[UInt8.ofNat (Int.toNat ((48 : Int) + n))]⟩ : ByteArray) = itoaB n := (itoaB_small (by omega) (by omega)).symm
        exact RegG.fin hmix hc hl 1 (v' := (.str (⟨#[UInt8.ofNat (Int.toNat ((48 : Int) + n))]⟩))) (congrArg AV.str e1)
      · refine RegG.end_ ?_
        refine Chunk.jump (Chunk.sim hmix hc hl) (K1 := [.code (cAt Tryz.prog 26 [1, 1, 1, 1, 0]), .code (cAt Tryz.prog 26 [1, 1, 1, 1, 1])]) 3 [] [] 270 ?_
        refine Chunk.regD' (Chunk.sim hmix hc hl) 7 ?_
        refine RegD.go 1 [(18, (.int .i64 (n)))] [⟨0, [], [], 270, 270⟩] ?_
        have hw9 : IntKind.wrap .i64 (Int.tdiv n 10) = (Int.tdiv n 10) := wrap_i64_in (by omega)
        refine RegD.opQ (op := .binOp .quo 2 (.tmp 18) (.const (.int .i64 (10))) 2) (d := 19) (g := none) ⟨1, [], [], 270, 270⟩ (op_quo (k := .i64) (a := n) (b := 10) (by as_aux_lemma => kernel_rfl) (by as_aux_lemma => kernel_rfl) (by decide) hw9) (by as_aux_lemma => kernel_rfl) ?_
        have hin11 : i64In (Int.tdiv n 10) := by unfold i64In; omega
        have hD10 : Dm (Int.tdiv n 10) := hq (by omega)
        refine RegD.opQ (op := .call ⟨.value (.func 26), #[(.tmp 19)], #[2]⟩) (d := 20) (v := (.str (itoaB (Int.tdiv n 10)))) (g := none) ⟨2, [269, 268, 267, 266, 265, 264, 263, 262, 261, 260, 259, 258, 257, 256, 0, 2, 5, 4, 6, 1], [], 270, 270⟩ (op_callF (args := [(.int .i64 ((Int.tdiv n 10)))]) (by as_aux_lemma => kernel_rfl) (k1_says hsp (hV _ hD10) (by as_aux_lemma => kernel_rfl))) (by as_aux_lemma => kernel_rfl) ?_
        refine RegD.go 1 [(21, (.int .i64 (n)))] [⟨3, [], [], 270, 270⟩] ?_
        refine RegD.opQ (op := .binOp .rem 2 (.tmp 21) (.const (.int .i64 (10))) 2) (d := 22) (g := none) ⟨4, [], [], 270, 270⟩ (op_rem (k := .i64) (a := n) (b := 10) (c := (Int.tmod n 10)) (by as_aux_lemma => kernel_rfl) (by as_aux_lemma => kernel_rfl) (by decide) rfl) (by as_aux_lemma => kernel_rfl) ?_
        have hw12 : IntKind.wrap .i64 ((48 : Int) + (Int.tmod n 10)) = ((48 : Int) + (Int.tmod n 10)) := wrap_i64_in (by omega)
        refine RegD.opQ (op := .binOp .add 2 (.const (.int .i64 (48))) (.tmp 22) 2) (d := 23) (g := none) ⟨5, [], [], 270, 270⟩ (op_add (k := .i64) (a := 48) (b := (Int.tmod n 10)) (by as_aux_lemma => kernel_rfl) (by as_aux_lemma => kernel_rfl) hw12) (by as_aux_lemma => kernel_rfl) ?_
        have hw13 : IntKind.wrap .u8 ((48 : Int) + (Int.tmod n 10)) = ((48 : Int) + (Int.tmod n 10)) := wrap_u8_in (by omega)
        refine RegD.opQ (op := .convert 2 5 (.tmp 23)) (d := 24) (g := none) ⟨6, [], [], 270, 270⟩ (op_convInt (k := .i64) (k' := .u8) (n := ((48 : Int) + (Int.tmod n 10))) (m := ((48 : Int) + (Int.tmod n 10))) (by as_aux_lemma => kernel_rfl) (by as_aux_lemma => kernel_rfl) (by as_aux_lemma => kernel_rfl) hw13) (by as_aux_lemma => kernel_rfl) ?_
        refine RegD.goP 2 [(25, (.slice (some (270, 0)) (1) (.known 1))), (26, (.str (⟨#[UInt8.ofNat (Int.toNat ((48 : Int) + (Int.tmod n 10)))]⟩)))] [(270, some (.cells 1 (Tr.fill [(.int .u8 (((48 : Int) + (Int.tmod n 10))))] 0 .nil) []))] 271 [] [] [⟨7, [], [], 270, 271⟩, ⟨8, [270], [], 271, 271⟩] ?_
        refine RegD.opQ (op := .binOp .add 9 (.tmp 20) (.tmp 26) 9) (d := 27) (g := none) ⟨9, [], [], 271, 271⟩ (op_strAdd (a := (itoaB (Int.tdiv n 10))) (b := ⟨#[UInt8.ofNat (Int.toNat ((48 : Int) + (Int.tmod n 10)))]⟩) (n := 20) (m := 1) (by as_aux_lemma => kernel_rfl) (itoaB_size hin11) (show ByteArray.size ⟨#[_]⟩ ≤ 1 from Nat.le_refl _) (by as_aux_lemma => kernel_rfl)) (by as_aux_lemma => kernel_rfl) ?_
        have e1 : (((itoaB (Int.tdiv n 10)) ++ (⟨#[UInt8.ofNat (Int.toNat ((48 : Int) + (Int.tmod n 10)))]⟩)) : ByteArray) = itoaB n := itoaB_both (by omega) (by omega)
        exact RegD.fin hmix hc hl 1 (v' := (.str ((itoaB (Int.tdiv n 10)) ++ (⟨#[UInt8.ofNat (Int.toNat ((48 : Int) + (Int.tmod n 10)))]⟩)))) (congrArg AV.str e1)
end DtD
