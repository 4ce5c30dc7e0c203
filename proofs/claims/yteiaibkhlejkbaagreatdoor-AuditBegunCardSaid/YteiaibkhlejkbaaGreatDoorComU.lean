import Derived.Test.YteiaibkhlejkbaaGreatDoorComT
import Derived.IntWalk
open Go Go.Rn Go.RowKit Go.Proofs
set_option maxRecDepth 100000
namespace ComT
theorem wrap_i64 {x : Int} (h0 : -9223372036854775808 ≤ x) (h1 : x ≤ 9223372036854775807) : IntKind.wrap .i64 x = x := IntWalk.i64_in x ⟨h0, h1⟩
noncomputable section
noncomputable def rsC : List ResultVar := [.tmp 2]
/-- One event: which transaction a thread is at; the commits up to now. -/
noncomputable def cstep (st : List (Int × Int) × List Cm) (e : Ev) : List (Int × Int) × List Cm :=
  if e.kind = 1 then (setM st.1 e.thread e.tx, st.2) else if e.kind = 7 then (st.1, st.2 ++ [⟨e.thread, getM st.1 e.thread, e.v⟩]) else st
noncomputable def cFrom (l : List Ev) : List (Int × Int) × List Cm := l.foldl cstep ([], [])
noncomputable def commits (l : List Ev) : List Cm := (cFrom l).2
/-- How commits stand in a slot, and in memory. -/
noncomputable def oV (n : Nat) : List Cm → AV
  | [] => .slice none 0 (.known 0)
  | c :: l => .slice (some (n, 0)) (c :: l).length (.atLeast (c :: l).length 3)
noncomputable def oS (m : List (Int × Int)) : List Cm → AS
  | [] => stOf [(256, some (mapT m))] 257
  | c :: l => stOf [(256, some (mapT m)), (257, some (rowT encCm (c :: l)))] 258
noncomputable def oR : List Cm → AS
  | [] => stOf [] 256
  | c :: l => stOf [(256, some (rowT encCm (c :: l)))] 257
noncomputable def AtC (B : Base) (Q : Tr AV → List Nat → Option Code → AS → Prop) (ev : AV) (n : Nat) (i : Int) (m : List (Int × Int)) (l : List Cm) (K : List Item) : Prop :=
  Sim Tryz.prog B 256 Q ⟨5, (trOf [(3, oV 257 l), (4, (.map (some 256))), (9, ev), (10, (.int .i64 ((n : Int)))), (11, (.int .i64 i))]), 40, K, [], none⟩ (oS m l)
noncomputable def kIn : List Item := [.code (cAt Tryz.prog 5 [1, 1, 1, 0, 1, 0, 0]), .inLoop (cAt Tryz.prog 5 [1, 1, 1, 0, 1, 0, 0]), .inBlock 0, .code (cAt Tryz.prog 5 [1, 1, 1, 1])]
noncomputable def kBack : List Item := [.inLoop (cAt Tryz.prog 5 [1, 1, 1, 0, 1, 0, 0]), .inBlock 0, .code (cAt Tryz.prog 5 [1, 1, 1, 1])]
end
theorem encCm_len : ∀ l : List Cm, (l.map encCm).flatten.length = l.length * 3
  | [] => rfl
  | c :: l => by
    have := encCm_len l
    simp only [List.map_cons, List.flatten_cons, List.length_append, List.length_cons, this]
    show 3 + l.length * 3 = _
    omega
theorem cfrom_len : ∀ (l : List Ev), (cFrom l).2.length ≤ l.length := by
  have h : ∀ (l : List Ev) (st : List (Int × Int) × List Cm), (l.foldl cstep st).2.length ≤ st.2.length + l.length := by
    intro l
    induction l with
    | nil => intro st; simp
    | cons e l ih =>
      intro st
      have := ih (cstep st e)
      have h2 : (cstep st e).2.length ≤ st.2.length + 1 := by
        unfold cstep
        split
        · simp
        · split
          · simp
          · simp
      simp only [List.foldl_cons, List.length_cons]
      omega
  intro l
  have := h l ([], [])
  unfold cFrom
  simpa using this
section
variable {B : Base} {sp : Sp} {F : Nat → Option (List AV)} {dn : Nat} {Q : Tr AV → List Nat → Option Code → AS → Prop} {ev : AV} {evs : List Ev}
theorem nil_one {m : List (Int × Int)} {c : Cm} : stOf [(256, some (mapT m)), (257, some (.cells 3 (Tr.fill [(.int .i64 c.thread), (.int .i64 c.tx), (.int .i64 c.wv)] 0 .nil) []))] 258 = oS m [c] := rfl
theorem stepC (hc : CallSim Tryz.prog B (arunI Tryz.prog sp F dn)) (hl : ∀ t a, Local (arunI Tryz.prog sp F dn t a)) (hev : SlT F ev 7 encEv evs) (hmx : evs.length ≤ 2000) {i : Nat} {m : List (Int × Int)} {l : List Cm} {e : Ev} (he : evs[i]? = some e) (hlen : l.length ≤ i)
    (H : AtC B Q ev evs.length ((i : Int) + 1) (cstep (m, l) e).1 (cstep (m, l) e).2 kBack) : AtC B Q ev evs.length i m l kIn := by
  have hi := (List.getElem?_eq_some_iff.1 he).1
  have h1 : (i : Int) < ((evs.length : Nat) : Int) := by omega
  have hw : IntKind.wrap .i64 ((i : Int) + 1) = ((i : Int) + 1) := wrap_i64 (by omega) (by omega)
  have hz : 0 ≤ (i : Int) := by omega
  have he' : evs[((i : Int)).toNat]? = some e := by simpa using he
  have hr : room = 140737488355328 := rfl
  have htp : top = 549755813888 := rfl
  by_cases k1 : e.kind = 1
  · have hs : cstep (m, l) e = (setM m e.thread e.tx, l) := by simp [cstep, k1]
    rw [hs] at H
    cases l with
    | nil => exact n0 (th := 0) (va := 0) (sr := 0) hc hl hev h1 hz he' k1 hw H
    | cons c l => exact o0 (th := 0) (va := 0) (sr := 0) (l := c :: l) hc hl hev h1 hz he' k1 hw (by rw [encCm_len, htp]; omega) H
  · by_cases k7 : e.kind = 7
    · have hs : cstep (m, l) e = (m, l ++ [⟨e.thread, getM m e.thread, e.v⟩]) := by simp [cstep, k7]
      rw [hs] at H
      cases l with
      | nil => exact n1 (th := 0) (va := 0) (sr := 0) hc hl hev h1 hz he' k1 k7 hw H
      | cons c l => exact o1 (th := 0) (va := 0) (sr := 0) (l := c :: l) hc hl hev h1 hz he' k1 k7 (by rw [hr]; omega) (by rw [htp]; omega) hw (by rw [encCm_len, htp]; simp only [List.length_append, List.length_cons, List.length_nil] at *; omega) H
    · have hs : cstep (m, l) e = (m, l) := by simp [cstep, k1, k7]
      rw [hs] at H
      cases l with
      | nil => exact n2 (th := 0) (va := 0) (sr := 0) hc hl hev h1 hz he' k1 k7 hw H
      | cons c l => exact o2 (th := 0) (va := 0) (sr := 0) (l := c :: l) hc hl hev h1 hz he' k1 k7 hw (by rw [encCm_len, htp]; omega) H
theorem backC (hc : CallSim Tryz.prog B (arunI Tryz.prog sp F dn)) (hl : ∀ t a, Local (arunI Tryz.prog sp F dn t a)) {n : Nat} {i : Int} {m : List (Int × Int)} {l : List Cm} (H : AtC B Q ev n i m l kIn) : AtC B Q ev n i m l kBack := by
  cases l with
  | nil => exact Sim.moves hmix hc hl (K1 := kIn) 1 rfl (ble_true.1 (by as_aux_lemma => kernel_rfl)) H
  | cons c l => exact Sim.moves hmix hc hl (K1 := kIn) 1 rfl (ble_true.1 (by as_aux_lemma => kernel_rfl)) H
theorem loopC (hc : CallSim Tryz.prog B (arunI Tryz.prog sp F dn)) (hl : ∀ t a, Local (arunI Tryz.prog sp F dn t a)) (hev : SlT F ev 7 encEv evs) (hmx : evs.length ≤ 2000) (n : Nat) :
    ∀ (i : Nat), evs.length - i = n → i ≤ evs.length → AtC B (Fin Tryz.prog rsC fun x s => x = oV 256 (commits evs) ∧ s = oR (commits evs)) ev evs.length i (cFrom (evs.take i)).1 (cFrom (evs.take i)).2 kIn := by
  induction n using Nat.strongRecOn with
  | _ n ih =>
    intro i hn hi
    have htp : top = 549755813888 := rfl
    by_cases hlt : i < evs.length
    · have he : evs[i]? = some (evs[i]'hlt) := by simp [hlt]
      refine stepC hc hl hev hmx he (Nat.le_trans (cfrom_len _) (by rw [List.length_take]; omega)) (backC hc hl ?_)
      have hs : cstep ((cFrom (evs.take i)).1, (cFrom (evs.take i)).2) (evs[i]'hlt) = cFrom (evs.take (i + 1)) := by
        rw [List.take_succ_eq_append_getElem hlt]
        unfold cFrom
        rw [List.foldl_append]; rfl
      rw [hs, show ((i : Int) + 1) = ((i + 1 : Nat) : Int) from by omega]
      exact ih (evs.length - (i + 1)) (by omega) (i + 1) rfl (by omega)
    · have hi' : i = evs.length := by omega
      subst hi'
      rw [List.take_length]
      have hcl : (commits evs).length ≤ 2000 := Nat.le_trans (cfrom_len evs) hmx
      unfold commits at hcl ⊢
      generalize hg : cFrom evs = st
      rw [hg] at hcl
      obtain ⟨m, l⟩ := st
      cases l with
      | nil => exact n3 (th := 0) (va := 0) (sr := 0) hc hl hev (by omega) ⟨_, _, by as_aux_lemma => kernel_rfl, rfl, rfl⟩
      | cons c l => exact o3 (th := 0) (va := 0) (sr := 0) (l := c :: l) hc hl hev (by omega) (by rw [encCm_len, htp]; simp only at hcl; omega) ⟨_, _, by as_aux_lemma => kernel_rfl, rfl, rfl⟩
theorem commits_sim (hc : CallSim Tryz.prog B (arunI Tryz.prog sp F dn)) (hl : ∀ t a, Local (arunI Tryz.prog sp F dn t a)) (hev : SlT F ev 7 encEv evs) (hmx : evs.length ≤ 2000) {th va sr : Int} :
    Sim Tryz.prog B 256 (Fin Tryz.prog rsC fun x s => x = oV 256 (commits evs) ∧ s = oR (commits evs)) ⟨5, (trOf [(0, (.agg [(.int .i64 (th)), (.int .i64 (va)), (.int .i64 (sr)), ev]))]), 40, [.code (cAt Tryz.prog 5 [])], [], none⟩ (stOf [] 256) := by
  refine s0 hc hl hev ?_
  refine Sim.moves hmix hc hl (K1 := kIn) 1 rfl (ble_true.1 (by as_aux_lemma => kernel_rfl)) ?_
  have := loopC hc hl hev hmx _ 0 rfl (Nat.zero_le _)
  rw [List.take_zero] at this
  exact this
end
end ComT
