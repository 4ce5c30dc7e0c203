/- The law's function says yes. -/
import Derived.Test.YteiaibkhlejkbaaGreatDoorLawT
open Go Go.Rn Go.RowKit Go.Proofs
set_option maxRecDepth 100000
namespace LawU
open ComT SpL LawT Go.Proofs.YteiaibkhlejkbaaGreatDoor.auditBegun
theorem step_grows (st : List (Int × Int) × List Cm) (e : Ev) : st.2 <+: (cstep st e).2 := by
  unfold cstep
  split
  · exact List.prefix_refl _
  · split
    · exact List.prefix_append _ _
    · exact List.prefix_refl _
theorem from_grows : ∀ (l : List Ev) (st : List (Int × Int) × List Cm), st.2 <+: (l.foldl cstep st).2
  | [], _ => List.prefix_refl _
  | e :: l, st => (step_grows st e).trans (from_grows l (cstep st e))
theorem commits_take (evs : List Ev) (k : Nat) : commits (evs.take k) <+: commits evs := by
  unfold commits cFrom
  conv => rhs; rw [← List.take_append_drop k evs, List.foldl_append]
  exact from_grows _ _
theorem both {a b : List Cm} (h : a <+: b) (k : b <+: a) : a = b := h.eq_of_length (Nat.le_antisymm h.length_le k.length_le)
theorem commits_len (l : List Ev) : (commits l).length ≤ l.length := cfrom_len l
theorem fl_ok {l : List Ev} (h : l.length ≤ 2000) : ((commits l).map encCm).flatten.length ≤ top := by
  have := commits_len l
  have htp : top = 549755813888 := rfl
  rw [encCm_len]; omega
noncomputable def rsL : List ResultVar := [.tmp 6]
noncomputable def kBody : List Item := [.code (cAt Tryz.prog 3 [1, 1, 1, 1, 1, 1, 1, 1, 0, 1, 0, 0]), .inLoop (cAt Tryz.prog 3 [1, 1, 1, 1, 1, 1, 1, 1, 0, 1, 0, 0]), .inBlock 0, .code (cAt Tryz.prog 3 [1, 1, 1, 1, 1, 1, 1, 1, 1])]
section
variable {B : Base} {F : Nat → Option (List AV)} {ev fv : AV} {evs fvs : List Ev} {a1 a2 a3 b1 b2 b3 n : Int}
theorem loopL (hc : CallSim Tryz.prog B (arunI Tryz.prog (spL F) F 2)) (hl : ∀ t a, Local (arunI Tryz.prog (spL F) F 2 t a)) (hev : SlT F ev 7 encEv evs) (hfv : SlT F fv 7 encEv fvs) (h1 : evs.length ≤ 2000) (h2 : fvs.length ≤ 2000) (hab : commits evs = commits fvs) (m : Nat) :
    ∀ i : Nat, (commits evs).length - i = m → i ≤ (commits evs).length →
    Sim Tryz.prog B 270 (Fin Tryz.prog rsL fun x _ => x = .bool true) ⟨3, (trOf [(7, (ownV 3 272 (commits evs))), (8, (ownV 3 273 (commits fvs))), (10, (.int .i64 ((i : Int))))]), 85, kBody, [], none⟩ (stOf ((272, (ownO encCm (commits evs))) :: (273, (ownO encCm (commits fvs))) :: []) 276) := by
  induction m using Nat.strongRecOn with
  | _ m ih =>
    intro i hm hi
    have hcl := commits_len evs
    by_cases hlt : i < (commits evs).length
    · have hx : (commits evs)[((i : Int)).toNat]? = some ((commits evs)[i]'hlt) := by simp [hlt]
      have hy : (commits fvs)[((i : Int)).toNat]? = some ((commits evs)[i]'hlt) := by rw [← hab]; exact hx
      have hw : IntKind.wrap .i64 ((i : Int) + 1) = ((i : Int) + 1) := wrap_i64 (by omega) (by omega)
      have e1 : (i : Int) < (((commits evs).length : Nat) : Int) := by omega
      have e2 : 0 ≤ (i : Int) := by omega
      have f1 := fl_ok h1
      have f2 := fl_ok h2
      apply r1 (a1 := 0) (a2 := 0) (a3 := 0) (b1 := 0) (b2 := 0) (b3 := 0) (n := 0) hc hl hev hfv e1 e2 hx f1 hy f2 rfl hw
      refine Sim.moves hmix hc hl (K1 := kBody) 1 (by as_aux_lemma => kernel_rfl) (ble_true.1 (by as_aux_lemma => kernel_rfl)) ?_
      rw [show ((i : Int) + 1) = ((i + 1 : Nat) : Int) from by omega]
      exact ih ((commits evs).length - (i + 1)) (by omega) (i + 1) rfl (by omega)
    · have e1 : ¬ ((i : Int) < (((commits evs).length : Nat) : Int)) := by omega
      exact r2 (a1 := 0) (a2 := 0) (a3 := 0) (b1 := 0) (b2 := 0) (b3 := 0) (n := 0) hc hl hev hfv e1 ⟨.bool true, stOf [] 276, by as_aux_lemma => kernel_rfl, rfl⟩
theorem law_sim (hc : CallSim Tryz.prog B (arunI Tryz.prog (spL F) F 2)) (hl : ∀ t a, Local (arunI Tryz.prog (spL F) F 2 t a)) (hev : SlT F ev 7 encEv evs) (hfv : SlT F fv 7 encEv fvs) :
    Sim Tryz.prog B 270 (Fin Tryz.prog rsL fun x _ => x = .bool true) ⟨3, (trOf [(0, (.agg [(.int .i64 (a1)), (.int .i64 (a2)), (.int .i64 (a3)), ev])), (1, (.agg [(.int .i64 (b1)), (.int .i64 (b2)), (.int .i64 (b3)), fv])), (2, (.int .i64 (n)))]), 85, [.code (cAt Tryz.prog 3 [])], [], none⟩ (stOf kn0 270) := by
  by_cases g1 : ((evs.length : Nat) : Int) > 2000
  · exact p0 hc hl hev hfv g1 ⟨.bool true, stOf [] 272, by as_aux_lemma => kernel_rfl, rfl⟩
  by_cases g2 : ((fvs.length : Nat) : Int) > 2000
  · exact p1 hc hl hev hfv g1 g2 ⟨.bool true, stOf [] 272, by as_aux_lemma => kernel_rfl, rfl⟩
  have l1 : evs.length ≤ 2000 := by omega
  have l2 : fvs.length ≤ 2000 := by omega
  have f1 := fl_ok l1
  have f2 := fl_ok l2
  have w1 : IntKind.wrap .i64 (((evs.length : Nat) : Int) + 1) = (((evs.length : Nat) : Int) + 1) := wrap_i64 (by omega) (by omega)
  have w2 : IntKind.wrap .u64 (((evs.length : Nat) : Int) + 1) = (((evs.length : Nat) : Int) + 1) := IntWalk.u64_in _ ⟨by omega, by omega⟩
  have n1 : (IntKind.wrap .u64 (((evs.length : Nat) : Int) + 1)) ≠ 0 := by rw [w2]; omega
  have u1 : 0 ≤ IntKind.wrap .u64 n := by
    have e : IntKind.wrap .u64 n = n % 18446744073709551616 := by
      unfold IntKind.wrap
      rfl
    rw [e]; omega
  have t1 : 0 ≤ Int.tmod (IntKind.wrap .u64 n) (IntKind.wrap .u64 (((evs.length : Nat) : Int) + 1)) ∧ Int.tmod (IntKind.wrap .u64 n) (IntKind.wrap .u64 (((evs.length : Nat) : Int) + 1)) ≤ evs.length := by
    rw [w2, IntWalk.rem_in _ _ u1]
    have q1 := Int.emod_nonneg (IntKind.wrap .u64 n) (b := (((evs.length : Nat) : Int) + 1)) (by omega)
    have q2 := Int.emod_lt_of_pos (IntKind.wrap .u64 n) (b := (((evs.length : Nat) : Int) + 1)) (by omega)
    omega
  generalize ht : Int.tmod (IntKind.wrap .u64 n) (IntKind.wrap .u64 (((evs.length : Nat) : Int) + 1)) = r at t1
  obtain ⟨k, rfl⟩ := Int.eq_ofNat_of_zero_le t1.1
  have hk : (IntKind.wrap .i64 (Int.tmod (IntKind.wrap .u64 n) (IntKind.wrap .u64 (((evs.length : Nat) : Int) + 1)))) = ((k : Nat) : Int) := by rw [ht]; exact wrap_i64 (by omega) (by omega)
  have hkl : k ≤ evs.length := by omega
  have l3 : (evs.take k).length ≤ 2000 := by rw [List.length_take]; omega
  have f3 := fl_ok l3
  have c1 := commits_len evs
  have c2 := commits_len fvs
  have c3 := commits_len (evs.take k)
  have p1 := commits_take evs k
  have p2' : commits evs <+: commits evs := List.prefix_refl _
  have m1 : (commits (evs.take k)).length ≤ 140737488355328 := by omega
  have m2 : (commits evs).length ≤ 140737488355328 := by omega
  have m3 : (commits fvs).length ≤ 140737488355328 := by omega
  apply p2 hc hl hev hfv g1 g2 l1 f1 l2 f2 w1 n1 hk hkl l3 f3 p1 m1 p2' m2
  by_cases q1 : commits evs <+: commits fvs
  · by_cases q2 : commits fvs <+: commits evs
    · have hab := both q1 q2
      have hlen : ¬ ((((commits evs).length : Nat) : Int) ≠ (((commits fvs).length : Nat) : Int)) := by rw [hab]; simp
      apply s1 (a1 := 0) (a2 := 0) (a3 := 0) (b1 := 0) (b2 := 0) (b3 := 0) (n := 0) hc hl hev hfv q1 f1 f2 m2 q2 m3 hlen
      refine Sim.moves hmix hc hl (K1 := kBody) 1 (by as_aux_lemma => kernel_rfl) (ble_true.1 (by as_aux_lemma => kernel_rfl)) ?_
      exact loopL hc hl hev hfv l1 l2 hab _ 0 rfl (Nat.zero_le _)
    · exact s2 (a1 := 0) (a2 := 0) (a3 := 0) (b1 := 0) (b2 := 0) (b3 := 0) (n := 0) hc hl hev hfv q1 f1 f2 m2 q2 m3 ⟨.bool true, stOf [] 276, by as_aux_lemma => kernel_rfl, rfl⟩
  · exact s3 (a1 := 0) (a2 := 0) (a3 := 0) (b1 := 0) (b2 := 0) (b3 := 0) (n := 0) hc hl hev hfv q1 f1 f2 m2 ⟨.bool true, stOf [] 276, by as_aux_lemma => kernel_rfl, rfl⟩
end
end LawU
