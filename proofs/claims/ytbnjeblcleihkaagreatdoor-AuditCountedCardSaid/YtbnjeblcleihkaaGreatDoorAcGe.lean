/-
  Proved here: what is known of the functions is so.
  Conditions: none.
-/
import Derived.Test.YtbnjeblcleihkaaGreatDoorAcGa
import Derived.Test.YtbnjeblcleihkaaGreatDoorAcGc
import Derived.Test.YtbnjeblcleihkaaGreatDoorRnOpenD
import Derived.Test.YtbnjeblcleihkaaGreatDoorRnTz
open Go Go.Rn Go.RowKit Go.Proofs
set_option maxRecDepth 100000
namespace AcC
open AcS AcG Go.Proofs.YtbnjeblcleihkaaGreatDoor.auditCounted
abbrev F0 : Nat → Option (List AV) := fun _ => none
theorem wT {n a b : Int} (h : a ≤ n ∧ n ≤ b) : AV.bool true = .bool (decide (a ≤ n ∧ n ≤ b)) := by rw [decide_eq_true h]
theorem wF {n a b : Int} (h : ¬ (a ≤ n ∧ n ≤ b)) : AV.bool false = .bool (decide (a ≤ n ∧ n ≤ b)) := by rw [decide_eq_false h]
theorem kT {k : Int} (h : 1 ≤ k ∧ k ≤ 13) : AV.bool true = .bool (decide (1 ≤ k ∧ k ≤ 13)) := by rw [decide_eq_true h]
theorem kF {k : Int} (h : ¬ (1 ≤ k ∧ k ≤ 13)) : AV.bool false = .bool (decide (1 ≤ k ∧ k ≤ 13)) := by rw [decide_eq_false h]
set_option maxHeartbeats 8000000 in
theorem within {B : Base} {F : Nat → Option (List AV)} (hc : CallSim Tryz.prog B (arunI Tryz.prog (fun _ => none) F 6)) (hl : ∀ t a, Local (arunI Tryz.prog (fun _ => none) F 6 t a)) {n a b : Int} :
  Sim Tryz.prog B 270 (Fin Tryz.prog Tryz.f37.results.toList fun y _ => y = .bool (decide (a ≤ n ∧ n ≤ b))) ⟨37, fillArgs [(.int .i64 (n)), (.int .i64 (a)), (.int .i64 (b))], max Tryz.f37.ntmps 3, [.code (cAt Tryz.prog 37 [])], [], none⟩ (stOf kn1 270) := by
 exact wp_sim (env_ok TabOk.nil) rfl hmix hc hl 900 (.st 3 (.rg (.go 2 (.fk (.go 3 (.fk (.go 2 (.en (.rt 1 .no))) (.go 2 (.en (.rt 1 .no))))) (.go 6 (.en (.rt 1 .no)))))))
  (tfk (n ≥ a) (fun h1 => (tfk (n ≤ b) (fun h2 => (wT (n := n) (a := a) (b := b) (by omega)))
  (fun h2 => (wF (n := n) (a := a) (b := b) (by omega)))))
  (fun h1 => (wF (n := n) (a := a) (b := b) (by omega))))
set_option maxHeartbeats 8000000 in
theorem known {B : Base} {F : Nat → Option (List AV)} (hc : CallSim Tryz.prog B (arunI Tryz.prog (fun _ => none) F 6)) (hl : ∀ t a, Local (arunI Tryz.prog (fun _ => none) F 6 t a)) {k : Int} :
  Sim Tryz.prog B 270 (Fin Tryz.prog Tryz.f38.results.toList fun y _ => y = .bool (decide (1 ≤ k ∧ k ≤ 13))) ⟨38, fillArgs [(.int .u8 (k))], max Tryz.f38.ntmps 1, [.code (cAt Tryz.prog 38 [])], [], none⟩ (stOf kn1 270) := by
 exact wp_sim (env_ok TabOk.nil) rfl hmix hc hl 900 (.st 3 (.rg (.go 1 (.fk (.go 2 (.fk (.go 2 (.en (.rt 1 .no))) (.go 2 (.en (.rt 1 .no))))) (.go 5 (.en (.rt 1 .no)))))))
  (tfk (k ≥ 1) (fun h1 => (tfk (k ≤ 13) (fun h2 => (kT (k := k) (by omega)))
  (fun h2 => (kF (k := k) (by omega)))))
  (fun h1 => (kF (k := k) (by omega))))
/-- math/bits.TrailingZeros32, where more is held to be laid. -/
theorem tzK_sim {P : Program} {B : Base} {f nx0 g : Nat} {ns : List Nat} {h0 : Tr AObj} {fn : Func} {body : Code} {ρ : Rn.Ren} {w : World} {s s1 : AS} {ρL : Go.Shelf.Ren} (L : Go.Proofs.Lays7.n28 P ρL) (hLf : ρL.f 28 = f) (hLg : ρL.g 0 = g)
    (hfn : P.funcs[f]? = some fn) (hbody : fn.body = some body) (hname : (fn.name == "runtime.NumGoroutine") = false) (hgg : g < globs) (h0g : h0.get g = some (.ro 32 Rn.tabT)) (hgn : g ∈ ns)
    {call : Caller} {args : List AV} {x : AV} {vs : Array Value} (r : Rel B ρ s.h w) (hg : RenG ρ) (h : knownM nx0 ns h0 tzL call args s = .ok x s1) (hv : VRs ρ args vs.toList) : Back P ((callFunc f vs).run P w) (Came B ρ s s1 w x) := by
  obtain ⟨u, s2, h2, h3⟩ := M.bind_inv (show ((checkAll nx0 h0 ns).bind fun _ => withO (tzL args) fun v => M.pure v) s = .ok x s1 from h)
  obtain ⟨v, h4, h5⟩ := withO_inv h3
  obtain ⟨rfl, rfl⟩ := pure_inv h5
  obtain ⟨a1, a2, a3⟩ := checkAll_inv h2
  unfold tzL at h4
  split at h4
  · rename_i z
    by_cases hz : 0 ≤ z ∧ z < 4294967296
    · rw [if_pos hz] at h4
      injection h4 with h4
      subst h4
      obtain ⟨vs⟩ := vs
      have hvs : vs = [.int .u32 z] := by
        match vs, hv with
        | [v], hv =>
          simp only [VRs, VR] at hv
          obtain ⟨v', l', e1, e2, e3⟩ := hv
          simp_all
        | [], hv => simp [VRs, VR] at hv
        | _ :: _ :: _, hv =>
          simp only [VRs, VR] at hv
          obtain ⟨v', l', e1, e2, e3⟩ := hv
          simp_all
      subst hvs
      rw [callFunc_run hfn hbody hname]
      obtain ⟨hs, o, p, c2, c3, c4⟩ := a3 g hgn
      rw [h0g] at c3; cases c3
      obtain ⟨b, N, o', i1, i2, i3, _⟩ := r.is g o (Nat.lt_trans hgg (by unfold globs top; decide)) c2
      obtain ⟨N', hN⟩ := hg g hgg
      rw [hN] at i1
      injection i1 with i1
      injection i1 with i1 i1'
      subst i1
      obtain ⟨_, c, e, fr, rfl, hsz, hle, hrow⟩ := roSame_sim c4 i3
      have hT : Go.Proofs.TabAt g Go.Lib.deBruijn32tab w := by
        intro j hj
        obtain ⟨y, v, g1, _, g3, g4⟩ := hrow j hj
        unfold Rn.tabT at g1
        rw [fill_get _ (by rw [List.length_map]; exact Nat.le_trans (show 32 ≤ top by unfold top; decide) (Nat.le_refl _)) j (by rw [List.length_map]; exact hj), List.getElem?_map] at g1
        have hjj : Go.Lib.deBruijn32tab[j]? = some (Go.Lib.deBruijn32tab[j]'hj) := List.getElem?_eq_getElem hj
        rw [hjj] at g1
        injection g1 with g1
        subst g1
        have g5 : v = .int .u8 ((Go.Lib.deBruijn32tab[j]'hj : Nat) : Int) := by simpa only [VR] using g4
        unfold World.cell?
        simp only [i2]
        rw [List.getD_eq_getElem?_getD, hjj]
        simp only [Option.isSome_none, Option.getD_some]
        rw [g3, g5]
        rfl
      have hx : ((z.toNat : Nat) : Int) = z := Int.toNat_of_nonneg hz.1
      have hcall := Go.Proofs.Any7.bits_TrailingZeros32 L z.toNat (by omega) w (fun _ => by rw [hLg]; exact hT)
      rw [hLf, hx] at hcall
      refine Calls.mono hcall fun e w' => ?_
      rintro ⟨rfl, rfl⟩
      exact ⟨_, rfl, ρ, by rw [a2]; exact Ext.refl _ _ _, by simp only [VR]; rfl, by rw [a1]; exact r, Bel.refl _ _⟩
    · rw [if_neg hz] at h4; cases h4
  · cases h4
/-- A function that is told by Sim from the known rows on. -/
theorem add (hP : ProgOk Tryz.prog) {sp : Sp} {f : FuncId} {val : List AV → Option AV} {fn : Func} {body : Code} (h : ∀ F, SpAll Tryz.prog F sp) (hfn : Tryz.prog.funcs[f]? = some fn) (hbody : fn.body = some body) (hname : (fn.name == "runtime.NumGoroutine") = false)
    (hval : ∀ args v, val args = some v → (∀ (ρ σ : Rn.Ren) vs, VRs ρ args vs → VRs σ args vs) ∧ (∀ (ρ σ : Rn.Ren) x, VR ρ v x → VR σ v x) ∧ max fn.ntmps args.length ≤ top ∧
      ∃ sp' : Sp, SpAll Tryz.prog F0 sp' ∧ ∀ B : Base, CallSim Tryz.prog B (arunI Tryz.prog sp' F0 6) → (∀ t a, Local (arunI Tryz.prog sp' F0 6 t a)) → Sim Tryz.prog B 270 (Fin Tryz.prog fn.results.toList fun y _ => y = v) ⟨f, fillArgs args, max fn.ntmps args.length, [.code body], [], none⟩ (stOf kn1 270)) : ∀ F, SpAll Tryz.prog F (updS sp f (K1 val)) := by
  intro F
  refine (h F).upd (fun call _ args => Local.knownM _ _ _ _ call args) fun B hB call hc hl args x s s1 ρ w vs fi r hg hf hm hv => ?_
  refine tabM_sim hP hfn hbody hname (by unfold globs nx0; decide) (by unfold nx0 top; decide) hall1 hns1 (fun args v e => ?_) r hg hm hv
  obtain ⟨q1, q2, q3, sp', h', q4⟩ := hval args v e
  refine ⟨q1, q2, q3, ?_⟩
  have H := q4 (baseOf w) (arunI_sim hP (h' (baseOf w) rfl) rfl 6) (local_arunI Tryz.prog (h' (baseOf w) rfl) F0 6)
  rw [kn1_st] at H
  exact H
theorem vr_bool {b : Bool} (ρ σ : Rn.Ren) (x : Value) (h : VR ρ (.bool b) x) : VR σ (.bool b) x := by simpa only [VR] using h
theorem tz_all {ρL : Go.Shelf.Ren} (L : Go.Proofs.Lays7.n28 Tryz.prog ρL) (hLf : ρL.f 28 = 78) (hLg : ρL.g 0 = 1) : ∀ F, SpAll Tryz.prog F spT := fun F =>
  SpAll.nothing.upd (fun call _ args => Local.knownM _ _ _ _ call args) fun B hB call hc hl args x s s1 ρ w vs fi r hg hf hm hv =>
    tzK_sim L hLf hLg Tryz.func78 (cAt_body Tryz.func78 (by kernel_rfl)) (by kernel_rfl) (by unfold globs; decide) (by kernel_rfl) (by unfold known0; decide) r hg hm hv
theorem bare_all (hP : ProgOk Tryz.prog) (h : ∀ F, SpAll Tryz.prog F spT) : ∀ F, SpAll Tryz.prog F spB := fun F =>
  (h F).upd (fun call _ args => Local.knownM _ _ _ _ call args) fun B hB call hc hl args x s s1 ρ w vs fi r hg hf hm hv =>
    knownM_sim hP Tryz.func39 (cAt_body Tryz.func39 (by kernel_rfl)) (by kernel_rfl) (by unfold globs nx0; decide) (by unfold nx0 top; decide) hall1 hns1 AcB.bare_val r hg hm hv
theorem within_all (hP : ProgOk Tryz.prog) (h : ∀ F, SpAll Tryz.prog F spB) : ∀ F, SpAll Tryz.prog F spI := by
  refine add hP h Tryz.func37 (cAt_body Tryz.func37 (by kernel_rfl)) (by kernel_rfl) fun args v e => ?_
  unfold withinL at e
  split at e
  · injection e with e; subst e
    exact ⟨fun ρ σ vs h => by simpa only [VR, VRs] using h, vr_bool, ble_true.1 (by kernel_rfl), _, SpAll.nothing, fun B hc hl => within hc hl⟩
  · cases e
theorem known_all (hP : ProgOk Tryz.prog) (h : ∀ F, SpAll Tryz.prog F spI) : ∀ F, SpAll Tryz.prog F spI2 := by
  refine add hP h Tryz.func38 (cAt_body Tryz.func38 (by kernel_rfl)) (by kernel_rfl) fun args v e => ?_
  unfold knL at e
  split at e
  · injection e with e; subst e
    exact ⟨fun ρ σ vs h => by simpa only [VR, VRs] using h, vr_bool, ble_true.1 (by kernel_rfl), _, SpAll.nothing, fun B hc hl => known hc hl⟩
  · cases e
theorem frM {k a b c d x y T V S : Int} : (⟨13, fillArgs [.agg [.int .u8 k, .int .i64 a, .int .i64 b, .int .i64 c, .int .i64 d, .int .i64 x, .int .u8 y], .int .i64 T, .int .i64 V, .int .i64 S], max Tryz.f13.ntmps 4, [.code (cAt Tryz.prog 13 [])], [], none⟩ : AF) = ⟨13, (trOf [(0, .agg [.int .u8 k, .int .i64 a, .int .i64 b, .int .i64 c, .int .i64 d, .int .i64 x, .int .u8 y]), (1, .int .i64 T), (2, .int .i64 V), (3, .int .i64 S)]), 90, [.code (cAt Tryz.prog 13 [])], [], none⟩ := by kernel_rfl
set_option maxHeartbeats 4000000 in
theorem may_all (hP : ProgOk Tryz.prog) (h : ∀ F, SpAll Tryz.prog F spI) (h2 : ∀ F, SpAll Tryz.prog F spI2) : ∀ F, SpAll Tryz.prog F spM0 := by
  refine add hP h Tryz.func13 (cAt_body Tryz.func13 (by kernel_rfl)) (by kernel_rfl) fun args v e => ?_
  unfold mayL at e
  split at e
  · rename_i k a b c d x y T V S
    by_cases ho : EvOk ⟨k, a, b, c, d, x, y⟩ ∧ i64In T ∧ i64In V ∧ i64In S
    · rw [if_pos ho] at e; injection e with e; subst e
      refine ⟨fun ρ σ vs h => by simpa only [VR, VRs] using h, vr_bool, ble_true.1 (by kernel_rfl), ?_⟩
      have hk : k = 0 ∨ k = 1 ∨ k = 2 ∨ k = 3 ∨ k = 4 ∨ k = 5 ∨ k = 6 ∨ k = 7 ∨ k = 8 ∨ k = 9 ∨ k = 10 ∨ k = 11 ∨ k = 12 ∨ k = 13 ∨ 13 < k := by have := ho.1.1; simp only at this; omega
      rcases hk with rfl | rfl | rfl | rfl | rfl | rfl | rfl | rfl | rfl | rfl | rfl | rfl | rfl | rfl | hk
      · exact ⟨spI, h F0, fun B hc hl => cast (congrArg (fun f => Sim Tryz.prog B 270 _ f (stOf kn1 270)) frM.symm) (AcM.may_0 hc hl ho)⟩
      · exact ⟨spI, h F0, fun B hc hl => cast (congrArg (fun f => Sim Tryz.prog B 270 _ f (stOf kn1 270)) frM.symm) (AcM.may_1 hc hl ho)⟩
      · exact ⟨spI, h F0, fun B hc hl => cast (congrArg (fun f => Sim Tryz.prog B 270 _ f (stOf kn1 270)) frM.symm) (AcM.may_2 hc hl ho)⟩
      · exact ⟨spI, h F0, fun B hc hl => cast (congrArg (fun f => Sim Tryz.prog B 270 _ f (stOf kn1 270)) frM.symm) (AcM.may_3 hc hl ho)⟩
      · exact ⟨spI, h F0, fun B hc hl => cast (congrArg (fun f => Sim Tryz.prog B 270 _ f (stOf kn1 270)) frM.symm) (AcM.may_4 hc hl ho)⟩
      · exact ⟨spI, h F0, fun B hc hl => cast (congrArg (fun f => Sim Tryz.prog B 270 _ f (stOf kn1 270)) frM.symm) (AcM.may_5 hc hl ho)⟩
      · exact ⟨spI, h F0, fun B hc hl => cast (congrArg (fun f => Sim Tryz.prog B 270 _ f (stOf kn1 270)) frM.symm) (AcM.may_6 hc hl ho)⟩
      · exact ⟨spI, h F0, fun B hc hl => cast (congrArg (fun f => Sim Tryz.prog B 270 _ f (stOf kn1 270)) frM.symm) (AcM.may_7 hc hl ho)⟩
      · exact ⟨spI, h F0, fun B hc hl => cast (congrArg (fun f => Sim Tryz.prog B 270 _ f (stOf kn1 270)) frM.symm) (AcM.may_8 hc hl ho)⟩
      · exact ⟨spI, h F0, fun B hc hl => cast (congrArg (fun f => Sim Tryz.prog B 270 _ f (stOf kn1 270)) frM.symm) (AcM.may_9 hc hl ho)⟩
      · exact ⟨spI, h F0, fun B hc hl => cast (congrArg (fun f => Sim Tryz.prog B 270 _ f (stOf kn1 270)) frM.symm) (AcM.may_10 hc hl ho)⟩
      · exact ⟨spI, h F0, fun B hc hl => cast (congrArg (fun f => Sim Tryz.prog B 270 _ f (stOf kn1 270)) frM.symm) (AcM.may_11 hc hl ho)⟩
      · exact ⟨spI, h F0, fun B hc hl => cast (congrArg (fun f => Sim Tryz.prog B 270 _ f (stOf kn1 270)) frM.symm) (AcM.may_12 hc hl ho)⟩
      · exact ⟨spI, h F0, fun B hc hl => cast (congrArg (fun f => Sim Tryz.prog B 270 _ f (stOf kn1 270)) frM.symm) (AcM.may_13 hc hl ho)⟩
      · exact ⟨spI2, h2 F0, fun B hc hl => cast (congrArg (fun f => Sim Tryz.prog B 270 _ f (stOf kn1 270)) frM.symm) (AcM.may_k hc hl hk ho)⟩
    · rw [if_neg ho] at e; cases e
  · cases e
theorem works_closed {call : Caller} {args : List AV} {s s1 : AS} {x : AV} (h : knownM nx0 known0 heap0 worksL call args s = .ok x s1) : closedM nx0 known0 heap0 call args s = .ok x s1 := by
  obtain ⟨u, s2, h2, h3⟩ := M.bind_inv (show ((checkAll nx0 heap0 known0).bind fun _ => withO (worksL args) fun v => M.pure v) s = .ok x s1 from h)
  obtain ⟨v, h4, h5⟩ := withO_inv h3
  obtain ⟨rfl, rfl⟩ := pure_inv h5
  cases args with
  | nil =>
    have h5 : some (AV.bool true) = some x := h4
    cases h5
    exact M.bind_ok h2
  | cons a l => cases h4
end AcC
