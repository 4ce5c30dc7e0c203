import Derived.Test.YtadcegpdegpnmaaGreatDoorDtS
open Go Go.Rn Go.RowKit Go.Proofs
set_option maxRecDepth 100000
namespace DtE
open DtP DtS Go.Proofs.YtadcegpdegpnmaaGreatDoor.divergeTexts
set_option maxHeartbeats 8000000 in
theorem dig {sp : Sp} {B : Base} {F : Nat → Option (List AV)} (hc : CallSim Tryz.prog B (arunI Tryz.prog sp F 6)) (hl : ∀ t a, Local (arunI Tryz.prog sp F 6 t a)) {n : Int} (ho : i64In n) {val : List AV → Option AV} (hsp : sp 11 = some (K1 val)) {Dm : Int → Prop} (hV : ∀ m, Dm m → val [.int .i64 m] = some (.str (itoaB m))) (hq : Int.tdiv n 10 ≠ 0 → Dm (Int.tdiv n 10)) :
    Sim Tryz.prog B 270 (Fin Tryz.prog Tryz.f11.results.toList fun y _ => y = .str (itoaB n)) ⟨11, (trOf [(0, (.int .i64 (n)))]), 29, [.code (cAt Tryz.prog 11 [])], [], none⟩ (stOf (kn1) 270) := by
  have ho' := ho; simp only [i64In] at ho'
  have hd := dm10 n
  refine GSim.start (by as_aux_lemma => kernel_rfl) ?_
  refine Chunk.jump (Chunk.sim hmix hc hl) (K1 := [.code (cAt Tryz.prog 11 [1, 0]), .code (cAt Tryz.prog 11 [1, 1])]) 3 [(2, (.str ⟨#[]⟩))] [] 270 ?_
  refine Chunk.reg' (Chunk.sim hmix hc hl) 1 ?_
  refine RegG.go 1 [(5, (.int .i64 (n)))] ?_
  refine RegG.opQ (op := .binOp .rem 3 (.tmp 5) (.const (.int .i64 (10))) 3) (d := 6) (g := none) (op_rem (k := .i64) (a := n) (b := 10) (c := (Int.tmod n 10)) (by as_aux_lemma => kernel_rfl) (by as_aux_lemma => kernel_rfl) (by decide) rfl) (by as_aux_lemma => kernel_rfl) ?_
  refine RegG.go 1 [(3, (.int .i64 ((Int.tmod n 10))))] ?_
  refine RegG.end_ ?_
  refine Chunk.jump (Chunk.sim hmix hc hl) (K1 := [.code (cAt Tryz.prog 11 [1, 1, 0, 0]), .code (cAt Tryz.prog 11 [1, 1, 0, 1]), .code (cAt Tryz.prog 11 [1, 1, 1])]) 2 [] [] 270 ?_
  refine Chunk.reg' (Chunk.sim hmix hc hl) 2 ?_
  refine RegG.go 1 [(7, (.int .i64 ((Int.tmod n 10))))] ?_
  refine RegG.cmp (op := .lss) (ty := 3) (yt := 3) (x := (.tmp 7)) (y := (.const (.int .i64 (0)))) (d := 8) (k := .i64) (g := none) (c_lss (Int.tmod n 10) 0) (by as_aux_lemma => kernel_rfl) (fun h1 => ?_) (fun h1 => ?_)
  · refine RegG.end_ ?_
    refine Chunk.jump (Chunk.sim hmix hc hl) (K1 := [.code (cAt Tryz.prog 11 [1, 1, 0, 1, 0]), .code (cAt Tryz.prog 11 [1, 1, 1])]) 1 [] [] 270 ?_
    refine Chunk.reg' (Chunk.sim hmix hc hl) 3 ?_
    refine RegG.go 1 [(9, (.int .i64 ((Int.tmod n 10))))] ?_
    have hw2 : IntKind.wrap .i64 (0 - (Int.tmod n 10)) = (0 - (Int.tmod n 10)) := wrap_i64_in (by omega)
    refine RegG.opQ (op := .unOp .neg 3 (.tmp 9)) (d := 10) (g := none) (op_neg (k := .i64) (a := (Int.tmod n 10)) (by as_aux_lemma => kernel_rfl) hw2) (by as_aux_lemma => kernel_rfl) ?_
    refine RegG.go 1 [(3, (.int .i64 ((0 - (Int.tmod n 10)))))] ?_
    refine RegG.end_ ?_
    refine Chunk.jump (Chunk.sim hmix hc hl) (K1 := [.code (cAt Tryz.prog 11 [1, 1, 1, 0]), .code (cAt Tryz.prog 11 [1, 1, 1, 1])]) 1 [] [] 270 ?_
    refine Chunk.reg' (Chunk.sim hmix hc hl) 4 ?_
    refine RegG.go 1 [(11, (.int .i64 ((0 - (Int.tmod n 10)))))] ?_
    have hw3 : IntKind.wrap .i64 ((48 : Int) + (0 - (Int.tmod n 10))) = ((48 : Int) + (0 - (Int.tmod n 10))) := wrap_i64_in (by omega)
    refine RegG.opQ (op := .binOp .add 3 (.const (.int .i64 (48))) (.tmp 11) 3) (d := 12) (g := none) (op_add (k := .i64) (a := 48) (b := (0 - (Int.tmod n 10))) (by as_aux_lemma => kernel_rfl) (by as_aux_lemma => kernel_rfl) hw3) (by as_aux_lemma => kernel_rfl) ?_
    have hw4 : IntKind.wrap .u8 ((48 : Int) + (0 - (Int.tmod n 10))) = ((48 : Int) + (0 - (Int.tmod n 10))) := wrap_u8_in (by omega)
    refine RegG.opQ (op := .convert 3 5 (.tmp 12)) (d := 13) (g := none) (op_convInt (k := .i64) (k' := .u8) (n := ((48 : Int) + (0 - (Int.tmod n 10)))) (m := ((48 : Int) + (0 - (Int.tmod n 10)))) (by as_aux_lemma => kernel_rfl) (by as_aux_lemma => kernel_rfl) (by as_aux_lemma => kernel_rfl) hw4) (by as_aux_lemma => kernel_rfl) ?_
    refine RegG.goP 3 [(14, (.slice (some (270, 0)) (1) (.known 1))), (15, (.str (⟨#[UInt8.ofNat (Int.toNat ((48 : Int) + (0 - (Int.tmod n 10))))]⟩))), (4, (.str (⟨#[UInt8.ofNat (Int.toNat ((48 : Int) + (0 - (Int.tmod n 10))))]⟩)))] [(270, some (.cells 1 (Tr.fill [(.int .u8 (((48 : Int) + (0 - (Int.tmod n 10)))))] 0 .nil) []))] 271 [] [] ?_
    refine RegG.end_ ?_
    refine Chunk.jump (Chunk.sim hmix hc hl) (K1 := [.code (cAt Tryz.prog 11 [1, 1, 1, 1, 0, 0]), .code (cAt Tryz.prog 11 [1, 1, 1, 1, 0, 1]), .code (cAt Tryz.prog 11 [1, 1, 1, 1, 1])]) 2 [] [] 271 ?_
    refine Chunk.reg' (Chunk.sim hmix hc hl) 5 ?_
    refine RegG.go 1 [(16, (.int .i64 (n)))] ?_
    have hw5 : IntKind.wrap .i64 (Int.tdiv n 10) = (Int.tdiv n 10) := wrap_i64_in (by omega)
    refine RegG.opQ (op := .binOp .quo 3 (.tmp 16) (.const (.int .i64 (10))) 3) (d := 17) (g := none) (op_quo (k := .i64) (a := n) (b := 10) (by as_aux_lemma => kernel_rfl) (by as_aux_lemma => kernel_rfl) (by decide) hw5) (by as_aux_lemma => kernel_rfl) ?_
    refine RegG.cmp (op := .neq) (ty := 3) (yt := 3) (x := (.tmp 17)) (y := (.const (.int .i64 (0)))) (d := 18) (k := .i64) (g := none) (c_neq (Int.tdiv n 10) 0) (by as_aux_lemma => kernel_rfl) (fun h6 => ?_) (fun h6 => ?_)
    · refine RegG.end_ ?_
      refine Chunk.jump (Chunk.sim hmix hc hl) (K1 := [.code (cAt Tryz.prog 11 [1, 1, 1, 1, 0, 1, 0, 0]), .code (cAt Tryz.prog 11 [1, 1, 1, 1, 0, 1, 0, 1]), .code (cAt Tryz.prog 11 [1, 1, 1, 1, 1])]) 2 [] [] 271 ?_
      refine Chunk.reg' (Chunk.sim hmix hc hl) 6 ?_
      refine RegG.go 1 [(19, (.int .i64 (n)))] ?_
      have hw7 : IntKind.wrap .i64 (Int.tdiv n 10) = (Int.tdiv n 10) := wrap_i64_in (by omega)
      refine RegG.opQ (op := .binOp .quo 3 (.tmp 19) (.const (.int .i64 (10))) 3) (d := 20) (g := none) (op_quo (k := .i64) (a := n) (b := 10) (by as_aux_lemma => kernel_rfl) (by as_aux_lemma => kernel_rfl) (by decide) hw7) (by as_aux_lemma => kernel_rfl) ?_
      have hin9 : i64In (Int.tdiv n 10) := by unfold i64In; omega
      have hD8 : Dm (Int.tdiv n 10) := hq (by omega)
      refine RegG.opQ (op := .call ⟨.value (.func 11), #[(.tmp 20)], #[3]⟩) (d := 21) (v := (.str (itoaB (Int.tdiv n 10)))) (g := none) (op_callF (args := [(.int .i64 ((Int.tdiv n 10)))]) (by as_aux_lemma => kernel_rfl) (k1_says hsp (hV _ hD8) (by as_aux_lemma => kernel_rfl))) (by as_aux_lemma => kernel_rfl) ?_
      refine RegG.go 1 [(22, (.str (⟨#[UInt8.ofNat (Int.toNat ((48 : Int) + (0 - (Int.tmod n 10))))]⟩)))] ?_
      refine RegG.opQ (op := .binOp .add 9 (.tmp 21) (.tmp 22) 9) (d := 23) (g := none) (op_strAdd (a := (itoaB (Int.tdiv n 10))) (b := ⟨#[UInt8.ofNat (Int.toNat ((48 : Int) + (0 - (Int.tmod n 10))))]⟩) (n := 20) (m := 1) (by as_aux_lemma => kernel_rfl) (itoaB_size hin9) (show ByteArray.size ⟨#[_]⟩ ≤ 1 from Nat.le_refl _) (by as_aux_lemma => kernel_rfl)) (by as_aux_lemma => kernel_rfl) ?_
      have e1 : (((itoaB (Int.tdiv n 10)) ++ (⟨#[UInt8.ofNat (Int.toNat ((48 : Int) + (0 - (Int.tmod n 10))))]⟩)) : ByteArray) = itoaB n := itoaB_nstep (by omega)
      exact RegG.fin hmix hc hl 1 (v' := (.str ((itoaB (Int.tdiv n 10)) ++ (⟨#[UInt8.ofNat (Int.toNat ((48 : Int) + (0 - (Int.tmod n 10))))]⟩)))) (congrArg AV.str e1)
    · refine RegG.end_ ?_
      refine Chunk.jump (Chunk.sim hmix hc hl) (K1 := [.code (cAt Tryz.prog 11 [1, 1, 1, 1, 1, 0, 0]), .code (cAt Tryz.prog 11 [1, 1, 1, 1, 1, 0, 1]), .code (cAt Tryz.prog 11 [1, 1, 1, 1, 1, 1])]) 4 [] [] 271 ?_
      refine Chunk.reg' (Chunk.sim hmix hc hl) 7 ?_
      refine RegG.go 1 [(24, (.int .i64 (n)))] ?_
      refine RegG.cmp (op := .lss) (ty := 3) (yt := 3) (x := (.tmp 24)) (y := (.const (.int .i64 (0)))) (d := 25) (k := .i64) (g := none) (c_lss n 0) (by as_aux_lemma => kernel_rfl) (fun h10 => ?_) (fun h10 => ?_)
      · refine RegG.end_ ?_
        refine Chunk.jump (Chunk.sim hmix hc hl) (K1 := [.code (cAt Tryz.prog 11 [1, 1, 1, 1, 1, 0, 1, 0, 0]), .code (cAt Tryz.prog 11 [1, 1, 1, 1, 1, 0, 1, 0, 1]), .code (cAt Tryz.prog 11 [1, 1, 1, 1, 1, 1])]) 2 [] [] 271 ?_
        refine Chunk.reg' (Chunk.sim hmix hc hl) 8 ?_
        refine RegG.go 1 [(26, (.str (⟨#[UInt8.ofNat (Int.toNat ((48 : Int) + (0 - (Int.tmod n 10))))]⟩)))] ?_
        refine RegG.opQ (op := .binOp .add 9 (.const (.string ⟨#[45]⟩)) (.tmp 26) 9) (d := 27) (g := none) (op_strAdd (a := (⟨#[45]⟩ : ByteArray)) (b := ⟨#[UInt8.ofNat (Int.toNat ((48 : Int) + (0 - (Int.tmod n 10))))]⟩) (n := 1) (m := 1) (by as_aux_lemma => kernel_rfl) (show ByteArray.size ⟨#[45]⟩ ≤ 1 from Nat.le_refl _) (show ByteArray.size ⟨#[_]⟩ ≤ 1 from Nat.le_refl _) (by as_aux_lemma => kernel_rfl)) (by as_aux_lemma => kernel_rfl) ?_
        have e1 : (((⟨#[45]⟩ : ByteArray) ++ (⟨#[UInt8.ofNat (Int.toNat ((48 : Int) + (0 - (Int.tmod n 10))))]⟩)) : ByteArray) = itoaB n := by first | exact absurd (show False by omega) id | (rw [show Int.tmod n 10 = n by omega]; exact itoaB_nsmall (by omega) (by omega))
        exact RegG.fin hmix hc hl 1 (v' := (.str ((⟨#[45]⟩ : ByteArray) ++ (⟨#[UInt8.ofNat (Int.toNat ((48 : Int) + (0 - (Int.tmod n 10))))]⟩)))) (congrArg AV.str e1)
      · have e1 : (⟨#[UInt8.ofNat (Int.toNat ((48 : Int) + (0 - (Int.tmod n 10))))]⟩ : ByteArray) = itoaB n := by first | exact absurd (show False by omega) id | (rw [show Int.tmod n 10 = n by omega]; exact (itoaB_small (by omega) (by omega)).symm)
        exact RegG.fin hmix hc hl 5 (v' := (.str (⟨#[UInt8.ofNat (Int.toNat ((48 : Int) + (0 - (Int.tmod n 10))))]⟩))) (congrArg AV.str e1)
  · refine RegG.end_ ?_
    refine Chunk.jump (Chunk.sim hmix hc hl) (K1 := [.code (cAt Tryz.prog 11 [1, 1, 1, 0]), .code (cAt Tryz.prog 11 [1, 1, 1, 1])]) 3 [] [] 270 ?_
    refine Chunk.reg' (Chunk.sim hmix hc hl) 4 ?_
    refine RegG.go 1 [(11, (.int .i64 ((Int.tmod n 10))))] ?_
    have hw11 : IntKind.wrap .i64 ((48 : Int) + (Int.tmod n 10)) = ((48 : Int) + (Int.tmod n 10)) := wrap_i64_in (by omega)
    refine RegG.opQ (op := .binOp .add 3 (.const (.int .i64 (48))) (.tmp 11) 3) (d := 12) (g := none) (op_add (k := .i64) (a := 48) (b := (Int.tmod n 10)) (by as_aux_lemma => kernel_rfl) (by as_aux_lemma => kernel_rfl) hw11) (by as_aux_lemma => kernel_rfl) ?_
    have hw12 : IntKind.wrap .u8 ((48 : Int) + (Int.tmod n 10)) = ((48 : Int) + (Int.tmod n 10)) := wrap_u8_in (by omega)
    refine RegG.opQ (op := .convert 3 5 (.tmp 12)) (d := 13) (g := none) (op_convInt (k := .i64) (k' := .u8) (n := ((48 : Int) + (Int.tmod n 10))) (m := ((48 : Int) + (Int.tmod n 10))) (by as_aux_lemma => kernel_rfl) (by as_aux_lemma => kernel_rfl) (by as_aux_lemma => kernel_rfl) hw12) (by as_aux_lemma => kernel_rfl) ?_
    refine RegG.goP 3 [(14, (.slice (some (270, 0)) (1) (.known 1))), (15, (.str (⟨#[UInt8.ofNat (Int.toNat ((48 : Int) + (Int.tmod n 10)))]⟩))), (4, (.str (⟨#[UInt8.ofNat (Int.toNat ((48 : Int) + (Int.tmod n 10)))]⟩)))] [(270, some (.cells 1 (Tr.fill [(.int .u8 (((48 : Int) + (Int.tmod n 10))))] 0 .nil) []))] 271 [] [] ?_
    refine RegG.end_ ?_
    refine Chunk.jump (Chunk.sim hmix hc hl) (K1 := [.code (cAt Tryz.prog 11 [1, 1, 1, 1, 0, 0]), .code (cAt Tryz.prog 11 [1, 1, 1, 1, 0, 1]), .code (cAt Tryz.prog 11 [1, 1, 1, 1, 1])]) 2 [] [] 271 ?_
    refine Chunk.reg' (Chunk.sim hmix hc hl) 5 ?_
    refine RegG.go 1 [(16, (.int .i64 (n)))] ?_
    have hw13 : IntKind.wrap .i64 (Int.tdiv n 10) = (Int.tdiv n 10) := wrap_i64_in (by omega)
    refine RegG.opQ (op := .binOp .quo 3 (.tmp 16) (.const (.int .i64 (10))) 3) (d := 17) (g := none) (op_quo (k := .i64) (a := n) (b := 10) (by as_aux_lemma => kernel_rfl) (by as_aux_lemma => kernel_rfl) (by decide) hw13) (by as_aux_lemma => kernel_rfl) ?_
    refine RegG.cmp (op := .neq) (ty := 3) (yt := 3) (x := (.tmp 17)) (y := (.const (.int .i64 (0)))) (d := 18) (k := .i64) (g := none) (c_neq (Int.tdiv n 10) 0) (by as_aux_lemma => kernel_rfl) (fun h14 => ?_) (fun h14 => ?_)
    · refine RegG.end_ ?_
      refine Chunk.jump (Chunk.sim hmix hc hl) (K1 := [.code (cAt Tryz.prog 11 [1, 1, 1, 1, 0, 1, 0, 0]), .code (cAt Tryz.prog 11 [1, 1, 1, 1, 0, 1, 0, 1]), .code (cAt Tryz.prog 11 [1, 1, 1, 1, 1])]) 2 [] [] 271 ?_
      refine Chunk.reg' (Chunk.sim hmix hc hl) 6 ?_
      refine RegG.go 1 [(19, (.int .i64 (n)))] ?_
      have hw15 : IntKind.wrap .i64 (Int.tdiv n 10) = (Int.tdiv n 10) := wrap_i64_in (by omega)
      refine RegG.opQ (op := .binOp .quo 3 (.tmp 19) (.const (.int .i64 (10))) 3) (d := 20) (g := none) (op_quo (k := .i64) (a := n) (b := 10) (by as_aux_lemma => kernel_rfl) (by as_aux_lemma => kernel_rfl) (by decide) hw15) (by as_aux_lemma => kernel_rfl) ?_
      have hin17 : i64In (Int.tdiv n 10) := by unfold i64In; omega
      have hD16 : Dm (Int.tdiv n 10) := hq (by omega)
      refine RegG.opQ (op := .call ⟨.value (.func 11), #[(.tmp 20)], #[3]⟩) (d := 21) (v := (.str (itoaB (Int.tdiv n 10)))) (g := none) (op_callF (args := [(.int .i64 ((Int.tdiv n 10)))]) (by as_aux_lemma => kernel_rfl) (k1_says hsp (hV _ hD16) (by as_aux_lemma => kernel_rfl))) (by as_aux_lemma => kernel_rfl) ?_
      refine RegG.go 1 [(22, (.str (⟨#[UInt8.ofNat (Int.toNat ((48 : Int) + (Int.tmod n 10)))]⟩)))] ?_
      refine RegG.opQ (op := .binOp .add 9 (.tmp 21) (.tmp 22) 9) (d := 23) (g := none) (op_strAdd (a := (itoaB (Int.tdiv n 10))) (b := ⟨#[UInt8.ofNat (Int.toNat ((48 : Int) + (Int.tmod n 10)))]⟩) (n := 20) (m := 1) (by as_aux_lemma => kernel_rfl) (itoaB_size hin17) (show ByteArray.size ⟨#[_]⟩ ≤ 1 from Nat.le_refl _) (by as_aux_lemma => kernel_rfl)) (by as_aux_lemma => kernel_rfl) ?_
      have e1 : (((itoaB (Int.tdiv n 10)) ++ (⟨#[UInt8.ofNat (Int.toNat ((48 : Int) + (Int.tmod n 10)))]⟩)) : ByteArray) = itoaB n := itoaB_both (by omega) (by omega)
      exact RegG.fin hmix hc hl 1 (v' := (.str ((itoaB (Int.tdiv n 10)) ++ (⟨#[UInt8.ofNat (Int.toNat ((48 : Int) + (Int.tmod n 10)))]⟩)))) (congrArg AV.str e1)
    · refine RegG.end_ ?_
      refine Chunk.jump (Chunk.sim hmix hc hl) (K1 := [.code (cAt Tryz.prog 11 [1, 1, 1, 1, 1, 0, 0]), .code (cAt Tryz.prog 11 [1, 1, 1, 1, 1, 0, 1]), .code (cAt Tryz.prog 11 [1, 1, 1, 1, 1, 1])]) 4 [] [] 271 ?_
      refine Chunk.reg' (Chunk.sim hmix hc hl) 7 ?_
      refine RegG.go 1 [(24, (.int .i64 (n)))] ?_
      refine RegG.cmp (op := .lss) (ty := 3) (yt := 3) (x := (.tmp 24)) (y := (.const (.int .i64 (0)))) (d := 25) (k := .i64) (g := none) (c_lss n 0) (by as_aux_lemma => kernel_rfl) (fun h18 => ?_) (fun h18 => ?_)
      · refine RegG.end_ ?_
        refine Chunk.jump (Chunk.sim hmix hc hl) (K1 := [.code (cAt Tryz.prog 11 [1, 1, 1, 1, 1, 0, 1, 0, 0]), .code (cAt Tryz.prog 11 [1, 1, 1, 1, 1, 0, 1, 0, 1]), .code (cAt Tryz.prog 11 [1, 1, 1, 1, 1, 1])]) 2 [] [] 271 ?_
        refine Chunk.reg' (Chunk.sim hmix hc hl) 8 ?_
        refine RegG.go 1 [(26, (.str (⟨#[UInt8.ofNat (Int.toNat ((48 : Int) + (Int.tmod n 10)))]⟩)))] ?_
        refine RegG.opQ (op := .binOp .add 9 (.const (.string ⟨#[45]⟩)) (.tmp 26) 9) (d := 27) (g := none) (op_strAdd (a := (⟨#[45]⟩ : ByteArray)) (b := ⟨#[UInt8.ofNat (Int.toNat ((48 : Int) + (Int.tmod n 10)))]⟩) (n := 1) (m := 1) (by as_aux_lemma => kernel_rfl) (show ByteArray.size ⟨#[45]⟩ ≤ 1 from Nat.le_refl _) (show ByteArray.size ⟨#[_]⟩ ≤ 1 from Nat.le_refl _) (by as_aux_lemma => kernel_rfl)) (by as_aux_lemma => kernel_rfl) ?_
        have e1 : (((⟨#[45]⟩ : ByteArray) ++ (⟨#[UInt8.ofNat (Int.toNat ((48 : Int) + (Int.tmod n 10)))]⟩)) : ByteArray) = itoaB n := by first | exact absurd (show False by omega) id | (rw [show Int.tmod n 10 = n by omega]; exact itoaB_nsmall (by omega) (by omega))
        exact RegG.fin hmix hc hl 1 (v' := (.str ((⟨#[45]⟩ : ByteArray) ++ (⟨#[UInt8.ofNat (Int.toNat ((48 : Int) + (Int.tmod n 10)))]⟩)))) (congrArg AV.str e1)
      · have e1 : (⟨#[UInt8.ofNat (Int.toNat ((48 : Int) + (Int.tmod n 10)))]⟩ : ByteArray) = itoaB n := by first | exact absurd (show False by omega) id | (rw [show Int.tmod n 10 = n by omega]; exact (itoaB_small (by omega) (by omega)).symm)
        exact RegG.fin hmix hc hl 5 (v' := (.str (⟨#[UInt8.ofNat (Int.toNat ((48 : Int) + (Int.tmod n 10)))]⟩))) (congrArg AV.str e1)
end DtE
