/- What is known of the functions is so. -/
import Derived.Test.YtadcegpdegpnmaaGreatDoorSegW
import Derived.Test.YtadcegpdegpnmaaGreatDoorDtB
import Derived.Test.YtadcegpdegpnmaaGreatDoorDtW
import Derived.Test.YtadcegpdegpnmaaGreatDoorDtM
import Derived.Test.YtadcegpdegpnmaaGreatDoorDtN
import Derived.Test.YtadcegpdegpnmaaGreatDoorDtH
import Derived.Test.YtadcegpdegpnmaaGreatDoorDtI
import Derived.Test.YtadcegpdegpnmaaGreatDoorDtD
import Derived.Test.YtadcegpdegpnmaaGreatDoorDtE
import Derived.Test.YtadcegpdegpnmaaGreatDoorDtR
import Derived.Test.YtadcegpdegpnmaaGreatDoorDtQ
open Go Go.Rn Go.RowKit Go.Proofs
set_option maxRecDepth 100000
namespace DtC
open DtP DtS Go.Proofs.YtadcegpdegpnmaaGreatDoor.divergeTexts
def F0 : Nat → Option (List AV) := fun _ => none
theorem kn1_st : stOf kn1 270 = ⟨heap1, nx0, 0, [], []⟩ := by
  show (⟨hpOf kn1, 270, 0, [], []⟩ : AS) = _
  rw [kn1_heap]; rfl
/-- A function that is told by Sim from the known rows on. -/
theorem add {sp : Sp} {f : FuncId} {val : List AV → Option AV} {fn : Func} {body : Code} (h : SpAll Tryz.prog F0 sp) (hfn : Tryz.prog.funcs[f]? = some fn) (hbody : fn.body = some body) (hname : (fn.name == "runtime.NumGoroutine") = false)
    (hval : ∀ args v, val args = some v → (∀ (ρ σ : Ren) vs, VRs ρ args vs → VRs σ args vs) ∧ (∀ (ρ σ : Ren) x, VR ρ v x → VR σ v x) ∧ max fn.ntmps args.length ≤ top ∧
      ∃ sp' : Sp, SpAll Tryz.prog F0 sp' ∧ ∀ B : Base, CallSim Tryz.prog B (arunI Tryz.prog sp' F0 6) → (∀ t a, Local (arunI Tryz.prog sp' F0 6 t a)) → Sim Tryz.prog B 270 (Fin Tryz.prog fn.results.toList fun y _ => y = v) ⟨f, fillArgs args, max fn.ntmps args.length, [.code body], [], none⟩ (stOf kn1 270)) : SpAll Tryz.prog F0 (updS sp f (K1 val)) := by
  refine h.upd (fun call _ args => Local.knownM _ _ _ _ call args) fun B hB call hc hl args x s s1 ρ w vs fi r hg hf hm hv => ?_
  refine tabM_sim progOk hfn hbody hname (by unfold globs nx0; decide) (by unfold nx0 top; decide) hall1 hns1 (fun args v e => ?_) r hg hm hv
  obtain ⟨q1, q2, q3, sp', h', q4⟩ := hval args v e
  refine ⟨q1, q2, q3, ?_⟩
  have H := q4 (baseOf w) (arunI_sim progOk (h' (baseOf w) rfl) rfl 6) (local_arunI Tryz.prog (h' (baseOf w) rfl) F0 6)
  rw [kn1_st] at H
  exact H
theorem vr_int {k : IntKind} {n : Int} (ρ σ : Ren) (x : Value) (h : VR ρ (.int k n) x) : VR σ (.int k n) x := by simpa only [VR] using h
theorem vr_bool {b : Bool} (ρ σ : Ren) (x : Value) (h : VR ρ (.bool b) x) : VR σ (.bool b) x := by simpa only [VR] using h
theorem vr_str {b : ByteArray} (ρ σ : Ren) (x : Value) (h : VR ρ (.str b) x) : VR σ (.str b) x := by simpa only [VR] using h
theorem ev_plain {k a b c d x y : Int} (ρ σ : Ren) (v : Value) (h : VR ρ (.agg [.int .u8 k, .int .i64 a, .int .i64 b, .int .i64 c, .int .i64 d, .int .i64 x, .int .u8 y]) v) : VR σ (.agg [.int .u8 k, .int .i64 a, .int .i64 b, .int .i64 c, .int .i64 d, .int .i64 x, .int .u8 y]) v := by simpa only [VR, VRs] using h
theorem ev_plains {k a b c d x y : Int} (ρ σ : Ren) (vs : List Value) (h : VRs ρ [.agg [.int .u8 k, .int .i64 a, .int .i64 b, .int .i64 c, .int .i64 d, .int .i64 x, .int .u8 y]] vs) : VRs σ [.agg [.int .u8 k, .int .i64 a, .int .i64 b, .int .i64 c, .int .i64 d, .int .i64 x, .int .u8 y]] vs := by simpa only [VR, VRs] using h
theorem str_int {b : ByteArray} {k : IntKind} {n : Int} (ρ σ : Ren) (v : Value) (h : VR ρ (.tuple [.str b, .int k n]) v) : VR σ (.tuple [.str b, .int k n]) v := by simpa only [VR, VRs] using h
theorem okN : SpAll Tryz.prog F0 (fun _ => none) := SpAll.nothing
theorem ok36 : SpAll Tryz.prog F0 (updS (fun _ => none) 36 (K1 fmtL)) := by
  refine okN.upd (fun call _ args => Local.knownM _ _ _ _ call args) fun B hB call hc hl args x s s1 ρ w vs fi r hg hf hm hv => ?_
  exact fmt_sim (g := 2) (by kernel_rfl) (fun n h0 h1 w ht => Tryz.internal_strconv_FormatInt_10 n h0 h1 w ht) Tryz.func36 (cAt_body Tryz.func36 (by kernel_rfl)) (by kernel_rfl) (by unfold globs; decide) (by unfold known1; decide) (by kernel_rfl) r hg hm hv
theorem ok24 : SpAll Tryz.prog F0 (updS (updS (fun _ => none) 36 (K1 fmtL)) 24 (fun _ args => joinStrs args)) :=
  ok36.upd (fun call _ args => Local.joinStrs args) fun B hB call hc hl args x s s1 ρ w vs fi r hg hf hm hv => join_back join_is fi r hv hm
theorem ok0 : SpAll Tryz.prog F0 sp0 := by
  refine ok24.upd (fun call _ args => Local.knownM _ _ _ _ call args) fun B hB call hc hl args x s s1 ρ w vs fi r hg hf hm hv => ?_
  exact knownM_sim progOk Tryz.func39 (cAt_body Tryz.func39 (by kernel_rfl)) (by kernel_rfl) (by unfold globs nx0; decide) (by unfold nx0 top; decide) hall1 hns1 DtB.bare_val r hg hm hv
theorem fr2121 {n : Int} : (⟨21, fillArgs [.int .i64 n], max Tryz.f21.ntmps 1, [.code (cAt Tryz.prog 21 [])], [], none⟩ : AF) = ⟨21, (trOf [(0, .int .i64 n)]), 5, [.code (cAt Tryz.prog 21 [])], [], none⟩ := by kernel_rfl
theorem ok21 : SpAll Tryz.prog F0 (updS sp0 21 (K1 itoaL)) := by
  refine add ok0 Tryz.func21 (cAt_body Tryz.func21 (by kernel_rfl)) (by kernel_rfl) fun args v e => ?_
  unfold itoaL at e
  split at e
  · rename_i n
    by_cases ho : i64In n
    · rw [if_pos ho] at e; injection e with e; subst e
      refine ⟨fun ρ σ vs h => by simpa only [VR, VRs] using h, vr_str, ble_true.1 (by kernel_rfl), ?_⟩
      refine ⟨_, ok0, fun B hc hl => ?_⟩
      refine cast (congrArg (fun f => Sim Tryz.prog B 270 _ f (stOf kn1 270)) fr2121.symm) ?_
      exact DtW.iitoa hc hl ho
    · rw [if_neg ho] at e; cases e
  · cases e
theorem fr99 {n : Int} : (⟨9, fillArgs [.int .i64 n], max Tryz.f9.ntmps 1, [.code (cAt Tryz.prog 9 [])], [], none⟩ : AF) = ⟨9, (trOf [(0, .int .i64 n)]), 5, [.code (cAt Tryz.prog 9 [])], [], none⟩ := by kernel_rfl
theorem ok9 : SpAll Tryz.prog F0 (updS (updS sp0 21 (K1 itoaL)) 9 (K1 itoaL)) := by
  refine add ok21 Tryz.func9 (cAt_body Tryz.func9 (by kernel_rfl)) (by kernel_rfl) fun args v e => ?_
  unfold itoaL at e
  split at e
  · rename_i n
    by_cases ho : i64In n
    · rw [if_pos ho] at e; injection e with e; subst e
      refine ⟨fun ρ σ vs h => by simpa only [VR, VRs] using h, vr_str, ble_true.1 (by kernel_rfl), ?_⟩
      refine ⟨_, ok21, fun B hc hl => ?_⟩
      refine cast (congrArg (fun f => Sim Tryz.prog B 270 _ f (stOf kn1 270)) fr99.symm) ?_
      exact DtW.itoa hc hl ho
    · rw [if_neg ho] at e; cases e
  · cases e
theorem fr2323 {n : Int} : (⟨23, fillArgs [.int .i64 n, .int .i64 (.ofNat 10)], max Tryz.f23.ntmps 2, [.code (cAt Tryz.prog 23 [])], [], none⟩ : AF) = ⟨23, (trOf [(0, .int .i64 n), (1, .int .i64 (.ofNat 10))]), 8, [.code (cAt Tryz.prog 23 [])], [], none⟩ := by kernel_rfl
theorem ok23 : SpAll Tryz.prog F0 (updS (updS (updS sp0 21 (K1 itoaL)) 9 (K1 itoaL)) 23 (K1 fmtL)) := by
  refine add ok9 Tryz.func23 (cAt_body Tryz.func23 (by kernel_rfl)) (by kernel_rfl) fun args v e => ?_
  unfold fmtL at e
  split at e
  · rename_i n
    by_cases ho : i64In n
    · rw [if_pos ho] at e; injection e with e; subst e
      refine ⟨fun ρ σ vs h => by simpa only [VR, VRs] using h, vr_str, ble_true.1 (by kernel_rfl), ?_⟩
      refine ⟨_, ok9, fun B hc hl => ?_⟩
      refine cast (congrArg (fun f => Sim Tryz.prog B 270 _ f (stOf kn1 270)) fr2323.symm) ?_
      exact DtW.fmt hc hl ho
    · rw [if_neg ho] at e; cases e
  · cases e
theorem fr37I {n a b : Int} : (⟨37, fillArgs [.int .i64 n, .int .i64 a, .int .i64 b], max Tryz.f37.ntmps 3, [.code (cAt Tryz.prog 37 [])], [], none⟩ : AF) = ⟨37, (trOf [(0, .int .i64 n), (1, .int .i64 a), (2, .int .i64 b)]), 15, [.code (cAt Tryz.prog 37 [])], [], none⟩ := by kernel_rfl
theorem okI : SpAll Tryz.prog F0 spI := by
  refine add ok23 Tryz.func37 (cAt_body Tryz.func37 (by kernel_rfl)) (by kernel_rfl) fun args v e => ?_
  unfold withinL at e
  split at e
  · rename_i n a b
    injection e with e; subst e
    refine ⟨fun ρ σ vs h => by simpa only [VR, VRs] using h, vr_bool, ble_true.1 (by kernel_rfl), ?_⟩
    refine ⟨_, ok0, fun B hc hl => ?_⟩
    refine cast (congrArg (fun f => Sim Tryz.prog B 270 _ f (stOf kn1 270)) fr37I.symm) ?_
    exact DtW.within hc hl
  · cases e
theorem fr38I2 {k : Int} : (⟨38, fillArgs [.int .u8 k], max Tryz.f38.ntmps 1, [.code (cAt Tryz.prog 38 [])], [], none⟩ : AF) = ⟨38, (trOf [(0, .int .u8 k)]), 9, [.code (cAt Tryz.prog 38 [])], [], none⟩ := by kernel_rfl
theorem okI2 : SpAll Tryz.prog F0 spI2 := by
  refine add okI Tryz.func38 (cAt_body Tryz.func38 (by kernel_rfl)) (by kernel_rfl) fun args v e => ?_
  unfold knL at e
  split at e
  · rename_i k
    injection e with e; subst e
    refine ⟨fun ρ σ vs h => by simpa only [VR, VRs] using h, vr_bool, ble_true.1 (by kernel_rfl), ?_⟩
    refine ⟨_, ok0, fun B hc hl => ?_⟩
    refine cast (congrArg (fun f => Sim Tryz.prog B 270 _ f (stOf kn1 270)) fr38I2.symm) ?_
    exact DtW.known hc hl
  · cases e
set_option maxHeartbeats 4000000 in
theorem fr22A {k a b c d x y : Int} : (⟨22, fillArgs [.agg [.int .u8 k, .int .i64 a, .int .i64 b, .int .i64 c, .int .i64 d, .int .i64 x, .int .u8 y], .int .i64 (.ofNat 6), .int .i64 (.ofNat 32), .int .i64 (.ofNat 32)], max Tryz.f22.ntmps 4, [.code (cAt Tryz.prog 22 [])], [], none⟩ : AF) = ⟨22, (trOf [(0, .agg [.int .u8 k, .int .i64 a, .int .i64 b, .int .i64 c, .int .i64 d, .int .i64 x, .int .u8 y]), (1, .int .i64 (.ofNat 6)), (2, .int .i64 (.ofNat 32)), (3, .int .i64 (.ofNat 32))]), 90, [.code (cAt Tryz.prog 22 [])], [], none⟩ := by kernel_rfl
theorem okA : SpAll Tryz.prog F0 spA := by
  refine add okI Tryz.func22 (cAt_body Tryz.func22 (by kernel_rfl)) (by kernel_rfl) fun args v e => ?_
  unfold mayL at e
  split at e
  · rename_i k a b c d x y
    by_cases ho : EvOk ⟨k, a, b, c, d, x, y⟩
    · rw [if_pos ho] at e; injection e with e; subst e
      refine ⟨fun ρ σ vs h => by simpa only [VR, VRs] using h, vr_bool, ble_true.1 (by kernel_rfl), ?_⟩
      have hk : k = 0 ∨ k = 1 ∨ k = 2 ∨ k = 3 ∨ k = 4 ∨ k = 5 ∨ k = 6 ∨ k = 7 ∨ k = 8 ∨ k = 9 ∨ k = 10 ∨ k = 11 ∨ k = 12 ∨ k = 13 ∨ 13 < k := by have := ho.1.1; simp only at this; omega
      rcases hk with rfl | rfl | rfl | rfl | rfl | rfl | rfl | rfl | rfl | rfl | rfl | rfl | rfl | rfl | hk
      · exact ⟨spI, okI, fun B hc hl => cast (congrArg (fun f => Sim Tryz.prog B 270 _ f (stOf kn1 270)) fr22A.symm) (DtM.may_0 hc hl ho)⟩
      · exact ⟨spI, okI, fun B hc hl => cast (congrArg (fun f => Sim Tryz.prog B 270 _ f (stOf kn1 270)) fr22A.symm) (DtM.may_1 hc hl ho)⟩
      · exact ⟨spI, okI, fun B hc hl => cast (congrArg (fun f => Sim Tryz.prog B 270 _ f (stOf kn1 270)) fr22A.symm) (DtM.may_2 hc hl ho)⟩
      · exact ⟨spI, okI, fun B hc hl => cast (congrArg (fun f => Sim Tryz.prog B 270 _ f (stOf kn1 270)) fr22A.symm) (DtM.may_3 hc hl ho)⟩
      · exact ⟨spI, okI, fun B hc hl => cast (congrArg (fun f => Sim Tryz.prog B 270 _ f (stOf kn1 270)) fr22A.symm) (DtM.may_4 hc hl ho)⟩
      · exact ⟨spI, okI, fun B hc hl => cast (congrArg (fun f => Sim Tryz.prog B 270 _ f (stOf kn1 270)) fr22A.symm) (DtM.may_5 hc hl ho)⟩
      · exact ⟨spI, okI, fun B hc hl => cast (congrArg (fun f => Sim Tryz.prog B 270 _ f (stOf kn1 270)) fr22A.symm) (DtM.may_6 hc hl ho)⟩
      · exact ⟨spI, okI, fun B hc hl => cast (congrArg (fun f => Sim Tryz.prog B 270 _ f (stOf kn1 270)) fr22A.symm) (DtM.may_7 hc hl ho)⟩
      · exact ⟨spI, okI, fun B hc hl => cast (congrArg (fun f => Sim Tryz.prog B 270 _ f (stOf kn1 270)) fr22A.symm) (DtM.may_8 hc hl ho)⟩
      · exact ⟨spI, okI, fun B hc hl => cast (congrArg (fun f => Sim Tryz.prog B 270 _ f (stOf kn1 270)) fr22A.symm) (DtM.may_9 hc hl ho)⟩
      · exact ⟨spI, okI, fun B hc hl => cast (congrArg (fun f => Sim Tryz.prog B 270 _ f (stOf kn1 270)) fr22A.symm) (DtM.may_10 hc hl ho)⟩
      · exact ⟨spI, okI, fun B hc hl => cast (congrArg (fun f => Sim Tryz.prog B 270 _ f (stOf kn1 270)) fr22A.symm) (DtM.may_11 hc hl ho)⟩
      · exact ⟨spI, okI, fun B hc hl => cast (congrArg (fun f => Sim Tryz.prog B 270 _ f (stOf kn1 270)) fr22A.symm) (DtM.may_12 hc hl ho)⟩
      · exact ⟨spI, okI, fun B hc hl => cast (congrArg (fun f => Sim Tryz.prog B 270 _ f (stOf kn1 270)) fr22A.symm) (DtM.may_13 hc hl ho)⟩
      · exact ⟨spI2, okI2, fun B hc hl => cast (congrArg (fun f => Sim Tryz.prog B 270 _ f (stOf kn1 270)) fr22A.symm) (DtM.may_k hc hl hk ho)⟩
    · rw [if_neg ho] at e; cases e
  · cases e
set_option maxHeartbeats 4000000 in
theorem fr10B {k a b c d x y : Int} : (⟨10, fillArgs [.agg [.int .u8 k, .int .i64 a, .int .i64 b, .int .i64 c, .int .i64 d, .int .i64 x, .int .u8 y]], max Tryz.f10.ntmps 1, [.code (cAt Tryz.prog 10 [])], [], none⟩ : AF) = ⟨10, (trOf [(0, .agg [.int .u8 k, .int .i64 a, .int .i64 b, .int .i64 c, .int .i64 d, .int .i64 x, .int .u8 y])]), 41, [.code (cAt Tryz.prog 10 [])], [], none⟩ := by kernel_rfl
theorem okB : SpAll Tryz.prog F0 spB := by
  refine add okA Tryz.func10 (cAt_body Tryz.func10 (by kernel_rfl)) (by kernel_rfl) fun args v e => ?_
  unfold showL at e
  split at e
  · rename_i k a b c d x y
    by_cases ho : EvOk ⟨k, a, b, c, d, x, y⟩
    · rw [if_pos ho] at e; injection e with e; subst e
      refine ⟨ev_plains, str_int, ble_true.1 (by kernel_rfl), ?_⟩
      by_cases hM : MayE ⟨k, a, b, c, d, x, y⟩
      · have hk : k = 1 ∨ k = 2 ∨ k = 3 ∨ k = 4 ∨ k = 5 ∨ k = 6 ∨ k = 7 ∨ k = 8 ∨ k = 9 ∨ k = 10 ∨ k = 11 ∨ k = 12 ∨ k = 13 := by have h1 := hM.1; have h2 := hM.2.1; simp only at h1 h2; omega
        rcases hk with rfl | rfl | rfl | rfl | rfl | rfl | rfl | rfl | rfl | rfl | rfl | rfl | rfl
        · exact ⟨spA, okA, fun B hc hl => cast (congrArg (fun f => Sim Tryz.prog B 270 _ f (stOf kn1 270)) fr10B.symm) (DtH.show_1 hc hl ho hM)⟩
        · exact ⟨spA, okA, fun B hc hl => cast (congrArg (fun f => Sim Tryz.prog B 270 _ f (stOf kn1 270)) fr10B.symm) (DtH.show_2 hc hl ho hM)⟩
        · exact ⟨spA, okA, fun B hc hl => cast (congrArg (fun f => Sim Tryz.prog B 270 _ f (stOf kn1 270)) fr10B.symm) (DtH.show_3 hc hl ho hM)⟩
        · exact ⟨spA, okA, fun B hc hl => cast (congrArg (fun f => Sim Tryz.prog B 270 _ f (stOf kn1 270)) fr10B.symm) (DtH.show_4 hc hl ho hM)⟩
        · exact ⟨spA, okA, fun B hc hl => cast (congrArg (fun f => Sim Tryz.prog B 270 _ f (stOf kn1 270)) fr10B.symm) (DtH.show_5 hc hl ho hM)⟩
        · exact ⟨spA, okA, fun B hc hl => cast (congrArg (fun f => Sim Tryz.prog B 270 _ f (stOf kn1 270)) fr10B.symm) (DtH.show_6 hc hl ho hM)⟩
        · exact ⟨spA, okA, fun B hc hl => cast (congrArg (fun f => Sim Tryz.prog B 270 _ f (stOf kn1 270)) fr10B.symm) (DtH.show_7 hc hl ho hM)⟩
        · exact ⟨spA, okA, fun B hc hl => cast (congrArg (fun f => Sim Tryz.prog B 270 _ f (stOf kn1 270)) fr10B.symm) (DtH.show_8 hc hl ho hM)⟩
        · exact ⟨spA, okA, fun B hc hl => cast (congrArg (fun f => Sim Tryz.prog B 270 _ f (stOf kn1 270)) fr10B.symm) (DtH.show_9 hc hl ho hM)⟩
        · exact ⟨spA, okA, fun B hc hl => cast (congrArg (fun f => Sim Tryz.prog B 270 _ f (stOf kn1 270)) fr10B.symm) (DtH.show_10 hc hl ho hM)⟩
        · exact ⟨spA, okA, fun B hc hl => cast (congrArg (fun f => Sim Tryz.prog B 270 _ f (stOf kn1 270)) fr10B.symm) (DtH.show_11 hc hl ho hM)⟩
        · exact ⟨spA, okA, fun B hc hl => cast (congrArg (fun f => Sim Tryz.prog B 270 _ f (stOf kn1 270)) fr10B.symm) (DtH.show_12 hc hl ho hM)⟩
        · exact ⟨spA, okA, fun B hc hl => cast (congrArg (fun f => Sim Tryz.prog B 270 _ f (stOf kn1 270)) fr10B.symm) (DtH.show_13 hc hl ho hM)⟩
      · exact ⟨spA, okA, fun B hc hl => cast (congrArg (fun f => Sim Tryz.prog B 270 _ f (stOf kn1 270)) fr10B.symm) (DtH.show_k hc hl ho hM)⟩
    · rw [if_neg ho] at e; cases e
  · cases e
theorem fr27B2 {k : Int} : (⟨27, fillArgs [.int .u8 k], max Tryz.f27.ntmps 1, [.code (cAt Tryz.prog 27 [])], [], none⟩ : AF) = ⟨27, (trOf [(0, .int .u8 k)]), 8, [.code (cAt Tryz.prog 27 [])], [], none⟩ := by kernel_rfl
theorem okB2 : SpAll Tryz.prog F0 spB2 := by
  refine add okB Tryz.func27 (cAt_body Tryz.func27 (by kernel_rfl)) (by kernel_rfl) fun args v e => ?_
  unfold nameL at e
  split at e
  · rename_i k
    by_cases ho : 13 < k
    · rw [if_pos ho] at e; injection e with e; subst e
      refine ⟨fun ρ σ vs h => by simpa only [VR, VRs] using h, vr_str, ble_true.1 (by kernel_rfl), ?_⟩
      refine ⟨_, ok0, fun B hc hl => ?_⟩
      refine cast (congrArg (fun f => Sim Tryz.prog B 270 _ f (stOf kn1 270)) fr27B2.symm) ?_
      exact DtW.name hc hl ho
    · rw [if_neg ho] at e; cases e
  · cases e
set_option maxHeartbeats 4000000 in
theorem fr25C {k a b c d x y : Int} : (⟨25, fillArgs [.agg [.int .u8 k, .int .i64 a, .int .i64 b, .int .i64 c, .int .i64 d, .int .i64 x, .int .u8 y], .int .i64 (.ofNat 6), .int .i64 (.ofNat 32), .int .i64 (.ofNat 32)], max Tryz.f25.ntmps 4, [.code (cAt Tryz.prog 25 [])], [], none⟩ : AF) = ⟨25, (trOf [(0, .agg [.int .u8 k, .int .i64 a, .int .i64 b, .int .i64 c, .int .i64 d, .int .i64 x, .int .u8 y]), (1, .int .i64 (.ofNat 6)), (2, .int .i64 (.ofNat 32)), (3, .int .i64 (.ofNat 32))]), 122, [.code (cAt Tryz.prog 25 [])], [], none⟩ := by kernel_rfl
theorem okC : SpAll Tryz.prog F0 spC := by
  refine add okB Tryz.func25 (cAt_body Tryz.func25 (by kernel_rfl)) (by kernel_rfl) fun args v e => ?_
  unfold mayL at e
  split at e
  · rename_i k a b c d x y
    by_cases ho : EvOk ⟨k, a, b, c, d, x, y⟩
    · rw [if_pos ho] at e; injection e with e; subst e
      refine ⟨fun ρ σ vs h => by simpa only [VR, VRs] using h, vr_bool, ble_true.1 (by kernel_rfl), ?_⟩
      have hk : k = 0 ∨ k = 1 ∨ k = 2 ∨ k = 3 ∨ k = 4 ∨ k = 5 ∨ k = 6 ∨ k = 7 ∨ k = 8 ∨ k = 9 ∨ k = 10 ∨ k = 11 ∨ k = 12 ∨ k = 13 ∨ 13 < k := by have := ho.1.1; simp only at this; omega
      rcases hk with rfl | rfl | rfl | rfl | rfl | rfl | rfl | rfl | rfl | rfl | rfl | rfl | rfl | rfl | hk
      · exact ⟨spB, okB, fun B hc hl => cast (congrArg (fun f => Sim Tryz.prog B 270 _ f (stOf kn1 270)) fr25C.symm) (DtN.may_0 hc hl ho)⟩
      · exact ⟨spB, okB, fun B hc hl => cast (congrArg (fun f => Sim Tryz.prog B 270 _ f (stOf kn1 270)) fr25C.symm) (DtN.may_1 hc hl ho)⟩
      · exact ⟨spB, okB, fun B hc hl => cast (congrArg (fun f => Sim Tryz.prog B 270 _ f (stOf kn1 270)) fr25C.symm) (DtN.may_2 hc hl ho)⟩
      · exact ⟨spB, okB, fun B hc hl => cast (congrArg (fun f => Sim Tryz.prog B 270 _ f (stOf kn1 270)) fr25C.symm) (DtN.may_3 hc hl ho)⟩
      · exact ⟨spB, okB, fun B hc hl => cast (congrArg (fun f => Sim Tryz.prog B 270 _ f (stOf kn1 270)) fr25C.symm) (DtN.may_4 hc hl ho)⟩
      · exact ⟨spB, okB, fun B hc hl => cast (congrArg (fun f => Sim Tryz.prog B 270 _ f (stOf kn1 270)) fr25C.symm) (DtN.may_5 hc hl ho)⟩
      · exact ⟨spB, okB, fun B hc hl => cast (congrArg (fun f => Sim Tryz.prog B 270 _ f (stOf kn1 270)) fr25C.symm) (DtN.may_6 hc hl ho)⟩
      · exact ⟨spB, okB, fun B hc hl => cast (congrArg (fun f => Sim Tryz.prog B 270 _ f (stOf kn1 270)) fr25C.symm) (DtN.may_7 hc hl ho)⟩
      · exact ⟨spB, okB, fun B hc hl => cast (congrArg (fun f => Sim Tryz.prog B 270 _ f (stOf kn1 270)) fr25C.symm) (DtN.may_8 hc hl ho)⟩
      · exact ⟨spB, okB, fun B hc hl => cast (congrArg (fun f => Sim Tryz.prog B 270 _ f (stOf kn1 270)) fr25C.symm) (DtN.may_9 hc hl ho)⟩
      · exact ⟨spB, okB, fun B hc hl => cast (congrArg (fun f => Sim Tryz.prog B 270 _ f (stOf kn1 270)) fr25C.symm) (DtN.may_10 hc hl ho)⟩
      · exact ⟨spB, okB, fun B hc hl => cast (congrArg (fun f => Sim Tryz.prog B 270 _ f (stOf kn1 270)) fr25C.symm) (DtN.may_11 hc hl ho)⟩
      · exact ⟨spB, okB, fun B hc hl => cast (congrArg (fun f => Sim Tryz.prog B 270 _ f (stOf kn1 270)) fr25C.symm) (DtN.may_12 hc hl ho)⟩
      · exact ⟨spB, okB, fun B hc hl => cast (congrArg (fun f => Sim Tryz.prog B 270 _ f (stOf kn1 270)) fr25C.symm) (DtN.may_13 hc hl ho)⟩
      · exact ⟨spB2, okB2, fun B hc hl => cast (congrArg (fun f => Sim Tryz.prog B 270 _ f (stOf kn1 270)) fr25C.symm) (DtN.may_k hc hl hk ho)⟩
    · rw [if_neg ho] at e; cases e
  · cases e
theorem fr26 {n : Int} : (⟨26, fillArgs [.int .i64 n], max Tryz.f26.ntmps 1, [.code (cAt Tryz.prog 26 [])], [], none⟩ : AF) = ⟨26, (trOf [(0, .int .i64 n)]), 28, [.code (cAt Tryz.prog 26 [])], [], none⟩ := by kernel_rfl
theorem pow_19 : (10 : Int) ^ 19 = 10000000000000000000 := by decide
theorem okCk : ∀ p : Nat, SpAll Tryz.prog F0 (spCk p)
  | 0 => by
    refine add okC Tryz.func26 (cAt_body Tryz.func26 (by kernel_rfl)) (by kernel_rfl) fun args v e => ?_
    unfold digL at e
    split at e
    · rename_i n
      rw [if_neg (fun h => absurd h.2.2.2 (by decide))] at e; cases e
    · cases e
  | p + 1 => by
    have ih := okCk p
    refine add okC Tryz.func26 (cAt_body Tryz.func26 (by kernel_rfl)) (by kernel_rfl) fun args v e => ?_
    unfold digL at e
    split at e
    · rename_i n
      by_cases ho : i64In n ∧ 0 ≤ n ∧ n < 10 ^ (p + 1) ∧ 1 ≤ p + 1
      · rw [if_pos ho] at e; injection e with e; subst e
        refine ⟨fun ρ σ vs h => by simpa only [VR, VRs] using h, vr_str, ble_true.1 (by kernel_rfl), spCk p, ih, fun B hc hl => ?_⟩
        refine cast (congrArg (fun f => Sim Tryz.prog B 270 _ f (stOf kn1 270)) fr26.symm) ?_
        refine DtD.dig (val := digL p) hc hl ho.1 rfl (Dm := fun m => i64In m ∧ 0 ≤ m ∧ m < 10 ^ p ∧ 1 ≤ p) (fun m h => if_pos h) (fun h10 => ?_) (fun h _ => absurd ho.2.1 (by omega))
        have hd := dm10 n
        obtain ⟨h1, h2, h3, _⟩ := ho
        have hp : (10 : Int) ^ (p + 1) = 10 * 10 ^ p := by rw [Int.pow_succ, Int.mul_comm]
        refine ⟨by unfold i64In at *; omega, by omega, by omega, ?_⟩
        cases p with
        | zero => exfalso; simp at h3; omega
        | succ p => omega
      · rw [if_neg ho] at e; cases e
    · cases e
theorem okD : SpAll Tryz.prog F0 spD := by
  refine add okC Tryz.func26 (cAt_body Tryz.func26 (by kernel_rfl)) (by kernel_rfl) fun args v e => ?_
  unfold itoaL at e
  split at e
  · rename_i n
    by_cases ho : i64In n
    · rw [if_pos ho] at e; injection e with e; subst e
      refine ⟨fun ρ σ vs h => by simpa only [VR, VRs] using h, vr_str, ble_true.1 (by kernel_rfl), ?_⟩
      refine ⟨spCk 19, okCk 19, fun B hc hl => ?_⟩
      refine cast (congrArg (fun f => Sim Tryz.prog B 270 _ f (stOf kn1 270)) fr26.symm) ?_
      have hd := dm10 n
      have h19 := pow_19
      refine DtD.dig (val := digL 19) hc hl ho rfl (Dm := fun m => i64In m ∧ 0 ≤ m ∧ m < 10 ^ 19 ∧ 1 ≤ 19) (fun m h => if_pos h) (fun h10 => ?_) (fun h h' => ?_)
      · unfold i64In at *; refine ⟨by omega, by omega, by omega, by decide⟩
      · unfold i64In at *; refine ⟨by omega, by omega, by omega, by decide⟩
    · rw [if_neg ho] at e; cases e
  · cases e
set_option maxHeartbeats 4000000 in
theorem fr12E {k a b c d x y : Int} : (⟨12, fillArgs [.agg [.int .u8 k, .int .i64 a, .int .i64 b, .int .i64 c, .int .i64 d, .int .i64 x, .int .u8 y]], max Tryz.f12.ntmps 1, [.code (cAt Tryz.prog 12 [])], [], none⟩ : AF) = ⟨12, (trOf [(0, .agg [.int .u8 k, .int .i64 a, .int .i64 b, .int .i64 c, .int .i64 d, .int .i64 x, .int .u8 y])]), 79, [.code (cAt Tryz.prog 12 [])], [], none⟩ := by kernel_rfl
theorem okE : SpAll Tryz.prog F0 spE := by
  refine add okD Tryz.func12 (cAt_body Tryz.func12 (by kernel_rfl)) (by kernel_rfl) fun args v e => ?_
  unfold showL at e
  split at e
  · rename_i k a b c d x y
    by_cases ho : EvOk ⟨k, a, b, c, d, x, y⟩
    · rw [if_pos ho] at e; injection e with e; subst e
      refine ⟨ev_plains, str_int, ble_true.1 (by kernel_rfl), ?_⟩
      by_cases hM : MayE ⟨k, a, b, c, d, x, y⟩
      · have hk : k = 1 ∨ k = 2 ∨ k = 3 ∨ k = 4 ∨ k = 5 ∨ k = 6 ∨ k = 7 ∨ k = 8 ∨ k = 9 ∨ k = 10 ∨ k = 11 ∨ k = 12 ∨ k = 13 := by have h1 := hM.1; have h2 := hM.2.1; simp only at h1 h2; omega
        rcases hk with rfl | rfl | rfl | rfl | rfl | rfl | rfl | rfl | rfl | rfl | rfl | rfl | rfl
        · exact ⟨spD, okD, fun B hc hl => cast (congrArg (fun f => Sim Tryz.prog B 270 _ f (stOf kn1 270)) fr12E.symm) (DtI.show_1 hc hl ho hM)⟩
        · exact ⟨spD, okD, fun B hc hl => cast (congrArg (fun f => Sim Tryz.prog B 270 _ f (stOf kn1 270)) fr12E.symm) (DtI.show_2 hc hl ho hM)⟩
        · exact ⟨spD, okD, fun B hc hl => cast (congrArg (fun f => Sim Tryz.prog B 270 _ f (stOf kn1 270)) fr12E.symm) (DtI.show_3 hc hl ho hM)⟩
        · exact ⟨spD, okD, fun B hc hl => cast (congrArg (fun f => Sim Tryz.prog B 270 _ f (stOf kn1 270)) fr12E.symm) (DtI.show_4 hc hl ho hM)⟩
        · exact ⟨spD, okD, fun B hc hl => cast (congrArg (fun f => Sim Tryz.prog B 270 _ f (stOf kn1 270)) fr12E.symm) (DtI.show_5 hc hl ho hM)⟩
        · exact ⟨spD, okD, fun B hc hl => cast (congrArg (fun f => Sim Tryz.prog B 270 _ f (stOf kn1 270)) fr12E.symm) (DtI.show_6 hc hl ho hM)⟩
        · exact ⟨spD, okD, fun B hc hl => cast (congrArg (fun f => Sim Tryz.prog B 270 _ f (stOf kn1 270)) fr12E.symm) (DtI.show_7 hc hl ho hM)⟩
        · exact ⟨spD, okD, fun B hc hl => cast (congrArg (fun f => Sim Tryz.prog B 270 _ f (stOf kn1 270)) fr12E.symm) (DtI.show_8 hc hl ho hM)⟩
        · exact ⟨spD, okD, fun B hc hl => cast (congrArg (fun f => Sim Tryz.prog B 270 _ f (stOf kn1 270)) fr12E.symm) (DtI.show_9 hc hl ho hM)⟩
        · exact ⟨spD, okD, fun B hc hl => cast (congrArg (fun f => Sim Tryz.prog B 270 _ f (stOf kn1 270)) fr12E.symm) (DtI.show_10 hc hl ho hM)⟩
        · exact ⟨spD, okD, fun B hc hl => cast (congrArg (fun f => Sim Tryz.prog B 270 _ f (stOf kn1 270)) fr12E.symm) (DtI.show_11 hc hl ho hM)⟩
        · exact ⟨spD, okD, fun B hc hl => cast (congrArg (fun f => Sim Tryz.prog B 270 _ f (stOf kn1 270)) fr12E.symm) (DtI.show_12 hc hl ho hM)⟩
        · exact ⟨spD, okD, fun B hc hl => cast (congrArg (fun f => Sim Tryz.prog B 270 _ f (stOf kn1 270)) fr12E.symm) (DtI.show_13 hc hl ho hM)⟩
      · exact ⟨spD, okD, fun B hc hl => cast (congrArg (fun f => Sim Tryz.prog B 270 _ f (stOf kn1 270)) fr12E.symm) (DtI.show_k hc hl ho hM)⟩
    · rw [if_neg ho] at e; cases e
  · cases e
theorem fr11 {n : Int} : (⟨11, fillArgs [.int .i64 n], max Tryz.f11.ntmps 1, [.code (cAt Tryz.prog 11 [])], [], none⟩ : AF) = ⟨11, (trOf [(0, .int .i64 n)]), 29, [.code (cAt Tryz.prog 11 [])], [], none⟩ := by kernel_rfl
theorem okEk : ∀ p : Nat, SpAll Tryz.prog F0 (spEk p)
  | 0 => by
    refine add okE Tryz.func11 (cAt_body Tryz.func11 (by kernel_rfl)) (by kernel_rfl) fun args v e => ?_
    unfold ndigL at e
    split at e
    · rename_i n
      rw [if_neg (fun h => absurd h.2.2.2 (by decide))] at e; cases e
    · cases e
  | p + 1 => by
    have ih := okEk p
    refine add okE Tryz.func11 (cAt_body Tryz.func11 (by kernel_rfl)) (by kernel_rfl) fun args v e => ?_
    unfold ndigL at e
    split at e
    · rename_i n
      by_cases ho : i64In n ∧ -(10 ^ (p + 1)) < n ∧ n < 10 ^ (p + 1) ∧ 1 ≤ p + 1
      · rw [if_pos ho] at e; injection e with e; subst e
        refine ⟨fun ρ σ vs h => by simpa only [VR, VRs] using h, vr_str, ble_true.1 (by kernel_rfl), spEk p, ih, fun B hc hl => ?_⟩
        refine cast (congrArg (fun f => Sim Tryz.prog B 270 _ f (stOf kn1 270)) fr11.symm) ?_
        refine DtE.dig (val := ndigL p) hc hl ho.1 rfl (Dm := fun m => i64In m ∧ -(10 ^ p) < m ∧ m < 10 ^ p ∧ 1 ≤ p) (fun m h => if_pos h) (fun h10 => ?_)
        have hd := dm10 n
        obtain ⟨h1, h2, h3, _⟩ := ho
        have hp : (10 : Int) ^ (p + 1) = 10 * 10 ^ p := by rw [Int.pow_succ, Int.mul_comm]
        refine ⟨by unfold i64In at *; omega, by omega, by omega, ?_⟩
        cases p with
        | zero => exfalso; simp at h3 h2; omega
        | succ p => omega
      · rw [if_neg ho] at e; cases e
    · cases e
theorem okF : SpAll Tryz.prog F0 spF := by
  refine add okE Tryz.func11 (cAt_body Tryz.func11 (by kernel_rfl)) (by kernel_rfl) fun args v e => ?_
  unfold itoaL at e
  split at e
  · rename_i n
    by_cases ho : i64In n
    · rw [if_pos ho] at e; injection e with e; subst e
      refine ⟨fun ρ σ vs h => by simpa only [VR, VRs] using h, vr_str, ble_true.1 (by kernel_rfl), ?_⟩
      refine ⟨spEk 20, okEk 20, fun B hc hl => ?_⟩
      refine cast (congrArg (fun f => Sim Tryz.prog B 270 _ f (stOf kn1 270)) fr11.symm) ?_
      have hd := dm10 n
      have h19 : (10 : Int) ^ 20 = 100000000000000000000 := by decide
      refine DtE.dig (val := ndigL 20) hc hl ho rfl (Dm := fun m => i64In m ∧ -(10 ^ 20) < m ∧ m < 10 ^ 20 ∧ 1 ≤ 20) (fun m h => if_pos h) (fun h10 => ?_)
      unfold i64In at *; refine ⟨by omega, by omega, by omega, by decide⟩
    · rw [if_neg ho] at e; cases e
  · cases e
theorem fr5G {o h : Bool} {p k a b c d x y k2 a2 b2 c2 d2 x2 y2 : Int} : (⟨5, fillArgs [.agg [.bool o, .int .i64 p, .int .u8 k, .int .i64 a, .int .i64 b, .int .i64 c, .int .i64 d, .int .i64 x, .int .u8 y, .int .u8 k2, .int .i64 a2, .int .i64 b2, .int .i64 c2, .int .i64 d2, .int .i64 x2, .int .u8 y2, .bool h]], max Tryz.f5.ntmps 1, [.code (cAt Tryz.prog 5 [])], [], none⟩ : AF) = ⟨5, (trOf [(0, .agg [.bool o, .int .i64 p, .int .u8 k, .int .i64 a, .int .i64 b, .int .i64 c, .int .i64 d, .int .i64 x, .int .u8 y, .int .u8 k2, .int .i64 a2, .int .i64 b2, .int .i64 c2, .int .i64 d2, .int .i64 x2, .int .u8 y2, .bool h])]), 36, [.code (cAt Tryz.prog 5 [])], [], none⟩ := by kernel_rfl
theorem okG : SpAll Tryz.prog F0 spG := by
  refine add okF Tryz.func5 (cAt_body Tryz.func5 (by kernel_rfl)) (by kernel_rfl) fun args v e => ?_
  unfold repL at e
  split at e
  · rename_i o p k a b c d x y k2 a2 b2 c2 d2 x2 y2 h
    by_cases ho : i64In p ∧ EvOk ⟨k, a, b, c, d, x, y⟩ ∧ EvOk ⟨k2, a2, b2, c2, d2, x2, y2⟩
    · rw [if_pos ho] at e; injection e with e; subst e
      refine ⟨fun ρ σ vs h => by simpa only [VR, VRs] using h, vr_str, ble_true.1 (by kernel_rfl), ?_⟩
      refine ⟨spF, okF, fun B hc hl => ?_⟩
      refine cast (congrArg (fun f => Sim Tryz.prog B 270 _ f (stOf kn1 270)) fr5G.symm) ?_
      cases o with
      | true => exact DtR.rep_true_hs (want := ⟨k, a, b, c, d, x, y⟩) (got := ⟨k2, a2, b2, c2, d2, x2, y2⟩) hc hl ho.1 ho.2.1 ho.2.2
      | false =>
        cases h with
        | true => exact DtR.rep_false_true (want := ⟨k, a, b, c, d, x, y⟩) (got := ⟨k2, a2, b2, c2, d2, x2, y2⟩) hc hl ho.1 ho.2.1 ho.2.2
        | false => exact DtR.rep_false_false (want := ⟨k, a, b, c, d, x, y⟩) (got := ⟨k2, a2, b2, c2, d2, x2, y2⟩) hc hl ho.1 ho.2.1 ho.2.2
    · rw [if_neg ho] at e; cases e
  · cases e
theorem fr6H {o h : Bool} {p k a b c d x y k2 a2 b2 c2 d2 x2 y2 : Int} : (⟨6, fillArgs [.agg [.bool o, .int .i64 p, .int .u8 k, .int .i64 a, .int .i64 b, .int .i64 c, .int .i64 d, .int .i64 x, .int .u8 y, .int .u8 k2, .int .i64 a2, .int .i64 b2, .int .i64 c2, .int .i64 d2, .int .i64 x2, .int .u8 y2, .bool h]], max Tryz.f6.ntmps 1, [.code (cAt Tryz.prog 6 [])], [], none⟩ : AF) = ⟨6, (trOf [(0, .agg [.bool o, .int .i64 p, .int .u8 k, .int .i64 a, .int .i64 b, .int .i64 c, .int .i64 d, .int .i64 x, .int .u8 y, .int .u8 k2, .int .i64 a2, .int .i64 b2, .int .i64 c2, .int .i64 d2, .int .i64 x2, .int .u8 y2, .bool h])]), 36, [.code (cAt Tryz.prog 6 [])], [], none⟩ := by kernel_rfl
theorem okH : SpAll Tryz.prog F0 spH := by
  refine add okG Tryz.func6 (cAt_body Tryz.func6 (by kernel_rfl)) (by kernel_rfl) fun args v e => ?_
  unfold repL at e
  split at e
  · rename_i o p k a b c d x y k2 a2 b2 c2 d2 x2 y2 h
    by_cases ho : i64In p ∧ EvOk ⟨k, a, b, c, d, x, y⟩ ∧ EvOk ⟨k2, a2, b2, c2, d2, x2, y2⟩
    · rw [if_pos ho] at e; injection e with e; subst e
      refine ⟨fun ρ σ vs h => by simpa only [VR, VRs] using h, vr_str, ble_true.1 (by kernel_rfl), ?_⟩
      refine ⟨spF, okF, fun B hc hl => ?_⟩
      refine cast (congrArg (fun f => Sim Tryz.prog B 270 _ f (stOf kn1 270)) fr6H.symm) ?_
      cases o with
      | true => exact DtQ.rep_true_hs (want := ⟨k, a, b, c, d, x, y⟩) (got := ⟨k2, a2, b2, c2, d2, x2, y2⟩) hc hl ho.1 ho.2.1 ho.2.2
      | false =>
        cases h with
        | true => exact DtQ.rep_false_true (want := ⟨k, a, b, c, d, x, y⟩) (got := ⟨k2, a2, b2, c2, d2, x2, y2⟩) hc hl ho.1 ho.2.1 ho.2.2
        | false => exact DtQ.rep_false_false (want := ⟨k, a, b, c, d, x, y⟩) (got := ⟨k2, a2, b2, c2, d2, x2, y2⟩) hc hl ho.1 ho.2.1 ho.2.2
    · rw [if_neg ho] at e; cases e
  · cases e
theorem hall0 (n : Nat) (o : AObj) (hn : n < top) (h : heap0.get n = some o) : n ∈ known0 := by
  have e : hpOf (known0.map fun n => (n, heap0.get n)) = heap0 := by kernel_rfl
  rw [← e] at h
  have hm := hpOf_mem (l := known0.map fun n => (n, heap0.get n)) (fun p hp => by
    obtain ⟨k, hk, rfl⟩ := List.mem_map.1 hp
    exact lowAll_mem (m := top) (l := known0) (by kernel_rfl) k hk) h
  obtain ⟨k, hk, e⟩ := List.mem_map.1 hm
  injection e with e1 _
  rw [← e1]; exact hk
theorem okL : SpAll Tryz.prog F0 spL := by
  refine okH.upd (fun call _ args => Local.closedM _ _ _ call args) fun B hB call hc hl args x s s1 ρ w vs fi r hg hf hm hv => ?_
  exact closedM_sim (body := bodyF4) Tryz.func4 bodyF4_is (by kernel_rfl) (by unfold globs nx0; decide) hall0 (fun n hn => lowAll_mem (m := nx0) (l := known0) (by kernel_rfl) n hn) (fun ρ w S => walkW w S) r hg hm hv
end DtC
