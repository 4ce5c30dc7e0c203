/- All rows come to the same: what is done in place of them is what comes of each. -/
import Derived.Test.YtcjmdcndalcomaaGreatDoorRnWay1b
namespace Go.Rn
open Go.RowKit

theorem sameKey_eq {a b : AV} (h : sameKey a b = some true) : a = b := by
  unfold sameKey at h
  split at h <;> first | (cases h; done) | skip
  · rename_i k x k' y
    cases hk : decide (k = k') with
    | false => rw [hk] at h; cases h
    | true =>
      rw [hk] at h; injection h with h
      have e1 := of_decide_eq_true hk
      have e2 : x = y := by simpa using h
      rw [e1, e2]
  · rename_i x y
    injection h with h
    obtain ⟨x⟩ := x
    obtain ⟨y⟩ := y
    have e : x = y := by
      have h' : (x == y) = true := h
      exact eq_of_beq h'
    rw [e]
  · rename_i x y
    injection h with h
    have e : x = y := by simpa using h
    rw [e]
theorem sameAll_eq : ∀ {a b : List AV}, sameAll a b = true → a = b
  | [], [], _ => rfl
  | [], _ :: _, h => by simp [sameAll] at h
  | _ :: _, [], h => by simp [sameAll] at h
  | x :: xs, y :: ys, h => by
    unfold sameAll at h
    split at h
    · rename_i e
      rw [sameKey_eq e, sameAll_eq h]
    · cases h
theorem sameBits_eq {a b : AV} (h : sameBits a b = true) : a = b := by
  unfold sameBits at h
  split at h
  · rw [sameAll_eq h]
  · split at h
    · rename_i e; exact sameKey_eq e
    · cases h
theorem sameEs_eq : ∀ {a b : List (AV × AV)}, sameEs a b = true → a = b
  | [], [], _ => rfl
  | [], _ :: _, h => by simp [sameEs] at h
  | _ :: _, [], h => by simp [sameEs] at h
  | x :: xs, y :: ys, h => by
    unfold sameEs at h
    cases q : (sameBits x.1 y.1 && sameBits x.2 y.2) with
    | false => rw [q] at h; cases h
    | true =>
      rw [q] at h
      obtain ⟨q1, q2⟩ := and_true.1 q
      rw [sameEs_eq h, Prod.ext (sameBits_eq q1) (sameBits_eq q2)]

theorem sortIn_perm (x : AV × AV) : ∀ l : List (AV × AV), (x :: l).Perm (sortIn x l)
  | [] => List.Perm.refl _
  | y :: l => by
    unfold sortIn
    split
    · exact (List.Perm.swap y x l).trans (List.Perm.cons y (sortIn_perm x l))
    · exact List.Perm.refl _
theorem sortEs_perm : ∀ l : List (AV × AV), l.Perm (sortEs l)
  | [] => List.Perm.refl _
  | x :: l => (List.Perm.cons x (sortEs_perm l)).trans (sortIn_perm x _)

theorem EQs.perm {ρ : Ren} {es fs : List (AV × AV)} (p : es.Perm fs) : ∀ {l : List MapEntry}, EQs ρ es l → ∃ l', l.Perm l' ∧ EQs ρ fs l' := by
  induction p with
  | nil => intro l h; exact ⟨l, List.Perm.refl _, h⟩
  | cons x p ih =>
    intro l h
    simp only [EQs] at h
    obtain ⟨e, es', rfl, h1, h2, h3⟩ := h
    obtain ⟨l', q1, q2⟩ := ih h3
    exact ⟨e :: l', q1.cons e, by simp only [EQs]; exact ⟨e, l', rfl, h1, h2, q2⟩⟩
  | swap x y l0 =>
    intro l h
    simp only [EQs] at h
    obtain ⟨e, es', rfl, h1, h2, e2, es2, rfl, h3, h4, h5⟩ := h
    exact ⟨e2 :: e :: es2, List.Perm.swap e2 e es2, by simp only [EQs]; exact ⟨e2, _, rfl, h3, h4, e, es2, rfl, h1, h2, h5⟩⟩
  | trans _ _ ih1 ih2 =>
    intro l h
    obtain ⟨l1, q1, q2⟩ := ih1 h
    obtain ⟨l2, q3, q4⟩ := ih2 q2
    exact ⟨l2, q1.trans q3, q4⟩

theorem keyIn_apart {k : AV} : ∀ {l : List (AV × AV)}, keyIn k l = false → ∀ p ∈ l, sameKey k p.1 = some false
  | [], _, p, hp => by cases hp
  | (x, y) :: l, h, p, hp => by
    unfold keyIn at h
    split at h
    · rename_i e
      rcases List.mem_cons.1 hp with rfl | hp
      · exact e
      · exact keyIn_apart h p hp
    · cases h
theorem keysOk_apart : ∀ {l : List (AV × AV)}, keysOk l = true → KeysApart l
  | [], _ => List.Pairwise.nil
  | (x, y) :: l, h => by
    unfold keysOk at h
    split at h
    · cases h
    · rename_i e
      refine List.Pairwise.cons (fun p hp => ?_) (keysOk_apart h)
      have := keyIn_apart e p hp
      exact ⟨this, by rw [sameKey_comm]; exact this⟩

theorem allKeysOk_mem : ∀ {es : List (Nat × List (AV × AV))}, allKeysOk es = true → ∀ p ∈ es, keysOk p.2 = true
  | [], _, p, hp => by cases hp
  | (n, e) :: l, h, p, hp => by
    unfold allKeysOk at h
    split at h
    · rename_i q
      rcases List.mem_cons.1 hp with rfl | hp
      · exact q
      · exact allKeysOk_mem h p hp
    · cases h
theorem hasEs_mem {s : AS} : ∀ {es : List (Nat × List (AV × AV))}, hasEs s es = true → ∀ p ∈ es, ∃ fs, esOf s p.1 = some fs ∧ sortEs fs = p.2
  | [], _, p, hp => by cases hp
  | (n, e) :: l, h, p, hp => by
    unfold hasEs at h
    split at h
    · cases h
    · rename_i fs q
      split at h
      · rename_i q2
        rcases List.mem_cons.1 hp with rfl | hp
        · exact ⟨fs, q, sameEs_eq q2⟩
        · exact hasEs_mem h p hp
      · cases h
theorem fits_mem {lo : Nat} {ns : List Nat} {es : List (Nat × List (AV × AV))} {r : Ret} : ∀ {outs : List (AV × AS)}, fits lo ns es r outs = true → ∀ x ∈ outs,
    (∀ k ∈ x.2.wr, k < lo → k ∈ ns) ∧ hasEs x.2 es = true ∧ ∃ q, retOf lo x.2 x.1 = some q ∧ sameRet q r = true
  | [], _, x, hx => by cases hx
  | (v, s) :: l, h, x, hx => by
    unfold fits at h
    split at h
    · cases h
    · rename_i q1
      obtain ⟨a1, a2⟩ := and_true.1 q1
      split at h
      · cases h
      · rename_i q q2
        split at h
        · rename_i q3
          rcases List.mem_cons.1 hx with rfl | hx
          · refine ⟨fun k hk hlt => ?_, a2, q, q2, q3⟩
            exact memN_iff.1 (List.all_eq_true.1 a1 k (mem_below.2 ⟨hk, hlt⟩))
          · exact fits_mem h x hx
        · cases h
theorem nxOf_le : ∀ {outs : List (AV × AS)}, ∀ x ∈ outs, x.2.nx ≤ nxOf outs
  | [], x, hx => by cases hx
  | (v, s) :: l, x, hx => by
    unfold nxOf
    rcases List.mem_cons.1 hx with rfl | hx
    · exact Nat.le_max_left _ _
    · exact Nat.le_trans (nxOf_le x hx) (Nat.le_max_right _ _)

/-- What is known of a plan. -/
theorem planOf_inv {lo : Nat} {outs : List (AV × AS)} {p : Plan} (h : planOf lo outs = some p) : ∃ ns, p.es.map (·.1) = ns ∧ p.lo = lo ∧ p.skip = nxOf outs - lo ∧ allKeysOk p.es = true ∧ fits lo ns p.es p.ret outs = true := by
  unfold planOf at h
  split at h
  · cases h
  · rename_i v s1 l
    split at h
    · rename_i es r e1 e2
      split at h
      · cases h
      · rename_i q
        injection h with h
        subst h
        obtain ⟨q1, q2⟩ := and_true.1 q
        exact ⟨_, entriesOf_names e1, rfl, rfl, q2, q1⟩
    · cases h

section
variable {P : Program} {B : Nat} {ρ σ : Ren} {w w2 : World} {s s1 s2 : AS}

theorem noteAll_same : ∀ {l : List Nat} {s s1 : AS} {u : Unit}, noteAll l s = .ok u s1 → s1.h = s.h ∧ s1.nx = s.nx
  | [], s, s1, u, h => by
    obtain ⟨_, rfl⟩ := pure_inv (show M.pure () s = .ok u s1 from h)
    exact ⟨rfl, rfl⟩
  | n :: l, s, s1, u, h => by
    obtain ⟨o, s2, h1, h2⟩ := M.bind_inv (show (rdN n).bind (fun _ => noteAll l) s = .ok u s1 from h)
    obtain ⟨_, _, e1, e2⟩ := rdN_same h1
    obtain ⟨e3, e4⟩ := noteAll_same h2
    exact ⟨e3.trans e1, e4.trans e2⟩

theorem mapObj_same {n : Nat} {es : List (AV × AV)} (h : mapObj n s = .ok es s1) : n < s.nx ∧ (∃ o, s.h.get n = some o ∧ o.plain = true ∧ o ≠ .lent) ∧ s1.h = s.h ∧ s1.nx = s.nx := by
  unfold mapObj at h
  obtain ⟨o, s2, h1, h2⟩ := M.bind_inv h
  obtain ⟨hx, hg, e1, e2⟩ := rdN_same h1
  cases o with
  | map es clock => obtain ⟨_, rfl⟩ := pure_inv h2; exact ⟨hx, ⟨_, hg, rfl, by simp⟩, e1, e2⟩
  | mapAny es => obtain ⟨_, rfl⟩ := pure_inv h2; exact ⟨hx, ⟨_, hg, rfl, by simp⟩, e1, e2⟩
  | _ => cases h2

theorem putEs_same : ∀ {es : List (Nat × List (AV × AV))} {s s1 : AS} {u : Unit}, putEs es s = .ok u s1 → s1.nx = s.nx ∧ (∀ p ∈ es, p.1 < s.nx ∧ s.h.get p.1 ≠ some .lent) ∧
    ∀ k, k < top → (k ∉ es.map (·.1) ∧ s1.h.get k = s.h.get k) ∨ ∃ e, (k, e) ∈ es ∧ s1.h.get k = some (.mapAny e)
  | [], s, s1, u, h => by
    obtain ⟨_, rfl⟩ := pure_inv (show M.pure () s = .ok u s1 from h)
    exact ⟨rfl, (fun p hp => by cases hp), fun k _ => .inl ⟨by simp, rfl⟩⟩
  | (n, e) :: l, s, s1, u, h => by
    obtain ⟨_, sa, h1, h2⟩ := M.bind_inv (show (mapObj n).bind (fun _ => (wrN n (some (.mapAny e))).bind fun _ => putEs l) s = .ok u s1 from h)
    obtain ⟨_, sb, h3, h4⟩ := M.bind_inv h2
    obtain ⟨a1, ⟨o, a2, a3, a4⟩, a5, a6⟩ := mapObj_same h1
    obtain ⟨_, b1, _, b2, b3⟩ := wrN_same h3
    obtain ⟨c1, c2, c3⟩ := putEs_same h4
    have g : ∀ k, k < top → sb.h.get k = if k = n then some (.mapAny e) else s.h.get k := fun k hk => by rw [b2, a5]; exact Tr.get_put _ _ _ _ b1 hk
    refine ⟨by rw [c1, b3, a6], fun p hp => ?_, fun k hk => ?_⟩
    · rcases List.mem_cons.1 hp with rfl | hp
      · exact ⟨a1, by rw [a2]; intro q; injection q with q; exact a4 q⟩
      · obtain ⟨d1, d2⟩ := c2 p hp
        refine ⟨by rw [b3, a6] at d1; exact d1, ?_⟩
        by_cases q : p.1 = n
        · rw [q, a2]; intro q; injection q with q; exact a4 q
        · by_cases q2 : p.1 < top
          · rw [g _ q2, if_neg q] at d2; exact d2
          · rw [b2, a5] at d2
            intro q3
            have := Tr.get_put' s.h n p.1 (some (.mapAny e)) b1
            rw [this, if_neg q] at d2; exact d2 q3
    · rcases c3 k hk with ⟨d1, d2⟩ | ⟨e', d1, d2⟩
      · by_cases q : k = n
        · subst q; refine .inr ⟨e, by simp, ?_⟩; rw [d2, g _ hk, if_pos rfl]
        · refine .inl ⟨?_, by rw [d2, g _ hk, if_neg q]⟩
          simp only [List.map_cons, List.mem_cons, not_or]; exact ⟨q, d1⟩
      · exact .inr ⟨e', List.mem_cons_of_mem _ d1, d2⟩

theorem skipN_same : ∀ {k : Nat} {s s1 : AS} {u : Unit}, skipN k s = .ok u s1 → s1.nx = s.nx + k ∧ ∀ j, j < top → (s.nx ≤ j ∧ j < s1.nx ∧ s1.h.get j = none) ∨ (¬ (s.nx ≤ j ∧ j < s1.nx) ∧ s1.h.get j = s.h.get j)
  | 0, s, s1, u, h => by
    obtain ⟨_, rfl⟩ := pure_inv (show M.pure () s = .ok u s1 from h)
    exact ⟨rfl, fun j _ => .inr ⟨by omega, rfl⟩⟩
  | k + 1, s, s1, u, h => by
    obtain ⟨n, sa, h1, h2⟩ := M.bind_inv (show (newN .defs).bind (fun n => (wrN n none).bind fun _ => skipN k) s = .ok u s1 from h)
    obtain ⟨_, sb, h3, h4⟩ := M.bind_inv h2
    obtain ⟨a1, rfl, rfl⟩ := newN_inv h1
    obtain ⟨_, b1, _, b2, b3⟩ := wrN_same h3
    obtain ⟨c1, c2⟩ := skipN_same h4
    have b3' : sb.nx = s.nx + 1 := b3
    have g : ∀ j, j < top → sb.h.get j = if j = s.nx then none else s.h.get j := fun j hj => by
      rw [b2, Tr.get_put _ _ _ _ b1 hj]
      by_cases q : j = s.nx
      · rw [if_pos q, if_pos q]
      · rw [if_neg q, if_neg q]; show (s.h.put s.nx (some .defs)).get j = _; rw [Tr.get_put _ _ _ _ b1 hj, if_neg q]
    refine ⟨by omega, fun j hj => ?_⟩
    rcases c2 j hj with ⟨d1, d2, d3⟩ | ⟨d1, d2⟩
    · exact .inl ⟨by omega, d2, d3⟩
    · by_cases q : j = s.nx
      · refine .inl ⟨by omega, by omega, ?_⟩; rw [d2, g j hj, if_pos q]
      · refine .inr ⟨by omega, ?_⟩; rw [d2, g j hj, if_neg q]

theorem retM_same {lo : Nat} {r : Ret} {x : AV} (h : retM lo r s = .ok x s1) : (s1 = s ∧ ((r = .none ∧ x = .tuple []) ∨ (r = .nil ∧ x = .slice none 0 (.known 0)))) ∨
    ∃ n c len e, r = .row n c len e ∧ x = .slice (some (n, 0)) len (.atLeast len e) ∧ s.nx ≤ n ∧ n < top ∧ s1.nx = n + 1 ∧ c.length ≤ top ∧ s1.h.get n = some (.cells c.length (Tr.fill c 0 .nil) []) ∧ (∀ y ∈ c, y.oneCell = true) ∧
      ∀ j, j < top → j ≠ n → (s.nx ≤ j ∧ j < s1.nx ∧ s1.h.get j = none) ∨ (¬ (s.nx ≤ j ∧ j < s1.nx) ∧ s1.h.get j = s.h.get j) := by
  cases r with
  | none => obtain ⟨rfl, rfl⟩ := pure_inv (show M.pure (.tuple []) s = .ok x s1 from h); exact .inl ⟨rfl, .inl ⟨rfl, rfl⟩⟩
  | nil => obtain ⟨rfl, rfl⟩ := pure_inv (show M.pure (.slice none 0 (.known 0)) s = .ok x s1 from h); exact .inl ⟨rfl, .inr ⟨rfl, rfl⟩⟩
  | row n c len e =>
    obtain ⟨_, sa, h1, h2⟩ := M.bind_inv (show ((skipN (n - lo)).bind fun _ => (newRow c).bind fun m => withB (Nat.beq m n) <| M.pure (.slice (some (n, 0)) len (.atLeast len e))) s = .ok x s1 from h)
    obtain ⟨m, sb, h3, h4⟩ := M.bind_inv h2
    obtain ⟨q, h5⟩ := withB_inv h4
    obtain ⟨rfl, rfl⟩ := pure_inv h5
    unfold newRow at h3
    obtain ⟨q1, h6⟩ := withB_inv h3
    obtain ⟨q2, q3⟩ := and_true.1 q1
    obtain ⟨a1, rfl, rfl⟩ := newN_inv h6
    have q' : sa.nx = n := beqN_true.1 q
    obtain ⟨b1, b2⟩ := skipN_same h1
    refine .inr ⟨n, c, len, e, rfl, rfl, by omega, by omega, by show sa.nx + 1 = _; omega, ble_true.1 q2, ?_, fun y hy => List.all_eq_true.1 q3 y hy, fun j hj hne => ?_⟩
    · show (sa.h.put sa.nx _).get n = _
      rw [q', Tr.get_put _ _ _ _ (by omega) (by omega), if_pos rfl]
    · have e1 : (sa.h.put sa.nx (some (.cells c.length (Tr.fill c 0 .nil) []))).get j = sa.h.get j := by rw [Tr.get_put _ _ _ _ a1 hj, if_neg (by omega)]
      show (_ ∧ j < sa.nx + 1 ∧ (sa.h.put sa.nx (some (.cells c.length (Tr.fill c 0 .nil) []))).get j = none) ∨ (¬ (_ ∧ j < sa.nx + 1) ∧ (sa.h.put sa.nx (some (.cells c.length (Tr.fill c 0 .nil) []))).get j = s.h.get j)
      rw [e1]
      rcases b2 j hj with ⟨d1, d2, d3⟩ | ⟨d1, d2⟩
      · exact .inl ⟨d1, by omega, d3⟩
      · exact .inr ⟨by omega, d2⟩

theorem esOf_inv {n : Nat} {fs : List (AV × AV)} (h : esOf s n = some fs) : ∃ o, s.h.get n = some o ∧ o.isRo = false ∧ ((∃ c, o = .map fs c) ∨ o = .mapAny fs) := by
  unfold esOf at h
  split at h
  · rename_i es c e; injection h with h; subst h; exact ⟨_, e, rfl, .inl ⟨c, rfl⟩⟩
  · rename_i es e; injection h with h; subst h; exact ⟨_, e, rfl, .inr rfl⟩
  · cases h

theorem mapAny_of {N : Nat} {o : AObj} {fs : List (AV × AV)} {o' : Obj} (h : (∃ c, o = .map fs c) ∨ o = .mapAny fs) (hO : OR σ N o o') (hk : keysOk (sortEs fs) = true) : OR σ N (.mapAny (sortEs fs)) o' := by
  have key : ∀ (l : Array MapEntry) (clock : Nat), BornOk l.toList clock → EPs σ fs l.toList → OR σ N (.mapAny (sortEs fs)) (.map l clock) := by
    intro l clock hb hp
    obtain ⟨l', p1, p2⟩ := hp
    obtain ⟨l'', p3, p4⟩ := p2.perm (sortEs_perm fs)
    exact ⟨l, clock, rfl, keysOk_apart hk, hb, l'', p1.trans p3, p4⟩
  rcases h with ⟨c, rfl⟩ | rfl
  · obtain ⟨l, rfl, hc, he⟩ := hO
    exact key l c (by rw [hc]; exact he.bornOk) ⟨_, List.Perm.refl _, he.eqs⟩
  · obtain ⟨l, clock, rfl, _, hb, he⟩ := hO
    exact key l clock hb he

theorem join_sim {outs : List (AV × AS)} {p : Plan} {v x : AV} {u : Value} {dr dw : List Nat} (r : Rel B ρ s.h w) (hf : Free s.nx s2.nx ρ) (hp : planOf s.nx outs = some p) (hin : (v, s1) ∈ outs)
    (hdid : Did ⟨s.h, s.nx, s.nx, [], []⟩ s1 dr dw) (hd : doPlan p s = .ok x s2) (e : Ext s.nx s1.nx ρ σ) (hv : VR σ v u) (rl : Rel B σ s1.h w2) (hb : Below B w w2) : Came B ρ s s2 w x u w2 := by
  obtain ⟨ns, hns, hlo, hskip, hkeys, hfits⟩ := planOf_inv hp
  obtain ⟨f1, f2, q, f3, f4⟩ := fits_mem hfits _ hin
  obtain ⟨_, n1, d1, d2⟩ := M.bind_inv (show ((noteAll p.note).bind fun _ => (putEs p.es).bind fun _ => (retM p.lo p.ret).bind fun v => (skipN p.skip).bind fun _ => M.pure v) s = .ok x s2 from hd)
  obtain ⟨_, n2, d3, d4⟩ := M.bind_inv d2
  obtain ⟨y, n3, d5, d6⟩ := M.bind_inv d4
  obtain ⟨_, n4, d7, d8⟩ := M.bind_inv d6
  obtain ⟨rfl, rfl⟩ := pure_inv d8
  obtain ⟨a1, a2⟩ := noteAll_same d1
  obtain ⟨b1, b2, b3⟩ := putEs_same d3
  obtain ⟨c1, c2⟩ := skipN_same d7
  have hwr : ∀ k ∈ dw, k < s.nx → k ∈ ns := by
    intro k hk hlt
    refine f1 k ?_ hlt
    have := hdid.wr; simp only [List.append_nil] at this; rw [this]; exact hk
  have hle1 : s.nx ≤ n3.nx ∧ s1.nx ≤ s2.nx := by
    have hx : s1.nx ≤ nxOf outs := nxOf_le _ hin
    rcases retM_same d5 with ⟨rfl, _⟩ | ⟨n, c, len, ee, _, _, g1, _, g2, _⟩
    · omega
    · omega
  have hle2 : n3.nx ≤ s2.nx := by omega
  -- what is at each name at last
  have heap : ∀ k, k < top → (s2.h.get k = none ∧ s.nx ≤ k ∧ k < s2.nx) ∨ (∃ es, (k, es) ∈ p.es ∧ s2.h.get k = some (.mapAny es)) ∨ (k ∉ ns ∧ ¬(s.nx ≤ k ∧ k < s2.nx) ∧ s2.h.get k = s.h.get k) ∨
      (∃ c len ee, p.ret = .row k c len ee ∧ s.nx ≤ k ∧ c.length ≤ top ∧ (∀ y ∈ c, y.oneCell = true) ∧ s2.h.get k = some (.cells c.length (Tr.fill c 0 .nil) [])) := by
    intro k hk
    have base : n2.nx = s.nx := by omega
    have put : (k ∉ ns ∧ n2.h.get k = s.h.get k) ∨ ∃ es, (k, es) ∈ p.es ∧ n2.h.get k = some (.mapAny es) := by
      rcases b3 k hk with ⟨g1, g2⟩ | ⟨es, g1, g2⟩
      · exact .inl ⟨by rw [← hns]; exact g1, by rw [g2, a1]⟩
      · exact .inr ⟨es, g1, g2⟩
    have low : ∀ es, (k, es) ∈ p.es → k < s.nx := fun es h => by have := (b2 _ h).1; omega
    have last : ∀ (hr : n3.h.get k = n2.h.get k) (hn : ¬ (s.nx ≤ k ∧ k < n3.nx)), (s2.h.get k = none ∧ s.nx ≤ k ∧ k < s2.nx) ∨ (∃ es, (k, es) ∈ p.es ∧ s2.h.get k = some (.mapAny es)) ∨ (k ∉ ns ∧ ¬(s.nx ≤ k ∧ k < s2.nx) ∧ s2.h.get k = s.h.get k) := by
      intro hr hn
      rcases c2 k hk with ⟨g1, g2, g3⟩ | ⟨g1, g2⟩
      · exact .inl ⟨g3, by omega, g2⟩
      · rcases put with ⟨p1, p2⟩ | ⟨es, p1, p2⟩
        · exact .inr (.inr ⟨p1, by omega, by rw [g2, hr, p2]⟩)
        · exact .inr (.inl ⟨es, p1, by rw [g2, hr, p2]⟩)
    rcases retM_same d5 with ⟨rfl, _⟩ | ⟨n, c, len, ee, h1, _, h3, h4, h5, h6, h7, h8, h9⟩
    · rcases last rfl (by omega) with h | h | h
      · exact .inl h
      · exact .inr (.inl h)
      · exact .inr (.inr (.inl h))
    · by_cases hkn : k = n
      · subst hkn
        rcases c2 k hk with ⟨g1, g2, g3⟩ | ⟨g1, g2⟩
        · omega
        · exact .inr (.inr (.inr ⟨c, len, ee, h1, by omega, h6, h8, by rw [g2, h7]⟩))
      · rcases h9 k hk hkn with ⟨g1, g2, g3⟩ | ⟨g1, g2⟩
        · rcases c2 k hk with ⟨i1, i2, i3⟩ | ⟨i1, i2⟩
          · omega
          · exact .inl ⟨by rw [i2, g3], by omega, by omega⟩
        · rcases last g2 (by omega) with h | h | h
          · exact .inl h
          · exact .inr (.inl h)
          · exact .inr (.inr (.inl h))
  -- what is kept is what it was at the end
  have kept : ∀ k, k < top → k ∉ ns → ¬(s.nx ≤ k ∧ k < s2.nx) → s1.h.get k = s.h.get k := by
    intro k hk h1 h2
    by_cases h3 : k < s.nx
    · exact hdid.same k h3 fun h4 => h1 (hwr k h4 h3)
    · exact hdid.far k (by omega) hk
  -- the row
  have row : ∀ k c len ee, p.ret = .row k c len ee → ∃ c', len ≤ c' ∧ v = .slice (some (k, 0)) len (.atLeast c' ee) ∧ k < s1.nx ∧ ∃ t z, s1.h.get k = some (.cells c.length t z) ∧ ∀ i, i < c.length → cellAt t z i = c[i]? := by
    intro k c len ee hr
    rw [hr] at f4
    unfold retOf at f3
    split at f3
    · injection f3 with f3; subst f3; simp [sameRet] at f4
    · injection f3 with f3; subst f3; simp [sameRet] at f4
    · rename_i n len' c' e' hveq
      split at f3
      · rename_i k' t z hg
        split at f3
        · rename_i l hl
          split at f3
          · rename_i hq
            injection f3 with f3; subst f3
            simp only [sameRet] at f4
            obtain ⟨g1, g2⟩ := and_true.1 f4
            obtain ⟨g3, g4⟩ := and_true.1 g2
            obtain ⟨g5, g6⟩ := and_true.1 g4
            obtain ⟨q1, q2⟩ := and_true.1 hq
            obtain ⟨q3, q4⟩ := and_true.1 q1
            obtain ⟨q5, q6⟩ := and_true.1 q2
            obtain ⟨q7, q8⟩ := and_true.1 q6
            have e1 : n = k := beqN_true.1 g1
            have e2 : l = c := sameAll_eq g3
            have e3 : len' = len := beqN_true.1 g5
            have e4 : e' = ee := beqN_true.1 g6
            subst e1; subst e2; subst e3; subst e4
            obtain ⟨i1, i2⟩ := gather_some hl
            subst i1
            have hn : n < s1.nx := by rw [← blt_eq]; exact q4
            exact ⟨c', ble_true.1 q7, hveq, hn, t, z, hg, fun i hi => by have := i2 i hi; rw [Nat.zero_add] at this; exact this⟩
          · cases f3
        · cases f3
      · cases f3
    · cases f3
  have inEs : ∀ k es, (k, es) ∈ p.es → ∃ fs o, s1.h.get k = some o ∧ o.isRo = false ∧ ((∃ c, o = .map fs c) ∨ o = .mapAny fs) ∧ sortEs fs = es ∧ keysOk es = true := by
    intro k es h
    obtain ⟨fs, h1, h2⟩ := hasEs_mem f2 _ h
    obtain ⟨o, h3, h4, h5⟩ := esOf_inv h1
    exact ⟨fs, o, h3, h4, h5, h2, allKeysOk_mem hkeys _ h⟩
  have live : ∀ k, k < top → ∀ o, s2.h.get k = some o → ∃ o', s1.h.get k = some o' := by
    intro k hk o ho
    rcases heap k hk with ⟨h1, _⟩ | ⟨es, h1, h2⟩ | ⟨h1, h2, h3⟩ | ⟨c, len, ee, h1, _⟩
    · rw [h1] at ho; cases ho
    · obtain ⟨fs, o', h3, _⟩ := inEs k es h1; exact ⟨o', h3⟩
    · rw [h3] at ho; exact ⟨o, by rw [kept k hk h1 h2]; exact ho⟩
    · obtain ⟨_, _, _, _, t, z, h3, _⟩ := row k c len ee h1; exact ⟨_, h3⟩
  have isIter : ∀ i, i < top → ∀ m es ex left cur, s2.h.get i = some (.iter m es ex left cur) → i ∉ ns ∧ ¬(s.nx ≤ i ∧ i < s2.nx) ∧ s.h.get i = some (.iter m es ex left cur) ∧ s1.h.get i = some (.iter m es ex left cur) := by
    intro i hi m es ex left cur hq
    rcases heap i hi with ⟨h1, _⟩ | ⟨es, h1, h2⟩ | ⟨h1, h2, h3⟩ | ⟨c, len, ee, h1, _, _, _, h2⟩
    · rw [h1] at hq; cases hq
    · rw [h2] at hq; cases hq
    · rw [h3] at hq; exact ⟨h1, h2, hq, by rw [kept i hi h1 h2]; exact hq⟩
    · rw [h2] at hq; cases hq
  refine ⟨σ, ⟨e.le, fun k hk => e.out k (by omega)⟩, ?_, ⟨?_, ?_, ?_, rl.size, ?_⟩, hb⟩
  · rcases retM_same d5 with ⟨_, ⟨hr, rfl⟩ | ⟨hr, rfl⟩⟩ | ⟨n, c, len, ee, hr, rfl, _⟩
    · rw [hr] at f4
      unfold retOf at f3
      split at f3
      · rename_i hveq; have hveq' : v = .tuple [] := hveq; rw [← hveq']; exact hv
      · injection f3 with f3; subst f3; simp [sameRet] at f4
      · split at f3
        · split at f3
          · split at f3
            · injection f3 with f3; subst f3; simp [sameRet] at f4
            · cases f3
          · cases f3
        · cases f3
      · cases f3
    · rw [hr] at f4
      unfold retOf at f3
      split at f3
      · injection f3 with f3; subst f3; simp [sameRet] at f4
      · rename_i hveq; have hveq' : v = .slice none 0 (.known 0) := hveq; rw [← hveq']; exact hv
      · split at f3
        · split at f3
          · split at f3
            · injection f3 with f3; subst f3; simp [sameRet] at f4
            · cases f3
          · cases f3
        · cases f3
      · cases f3
    · obtain ⟨c', h1, rfl, _⟩ := row n c len ee hr
      simp only [VR] at hv ⊢
      obtain ⟨b, N, cc, g1, g2, g3, g4, g5⟩ := hv
      exact ⟨b, N, cc, g1, g2, g4, g4, g5⟩
  · intro k o hk ho
    rcases heap k hk with ⟨h1, _⟩ | ⟨es, h1, h2⟩ | ⟨h1, h2, h3⟩ | ⟨c, len, ee, h1, h2, h3, h4, h5⟩
    · rw [h1] at ho; cases ho
    · rw [h2] at ho; injection ho with ho; subst ho
      obtain ⟨fs, o, g1, g2, g3, rfl, g5⟩ := inEs k es h1
      obtain ⟨b, N, o', i1, i2, i3, i4⟩ := rl.is k o hk g1
      exact ⟨b, N, o', i1, i2, mapAny_of g3 i3 g5, fun _ => i4 g2⟩
    · rw [h3] at ho
      exact rl.is k o hk (by rw [kept k hk h1 h2]; exact ho)
    · rw [h5] at ho; injection ho with ho; subst ho
      obtain ⟨c', _, _, _, t, z, g1, g2⟩ := row k c len ee h1
      obtain ⟨b, N, o', i1, i2, i3, i4⟩ := rl.is k _ hk g1
      obtain ⟨cc, et, rfl, j1, j2, j3⟩ := i3
      refine ⟨b, N, _, i1, i2, ⟨cc, et, rfl, j1, j2, fun i hi => ?_⟩, fun _ => i4 rfl⟩
      obtain ⟨y, yv, y1, y2, y3, y4⟩ := j3 i hi
      exact ⟨y, yv, by rw [cellAt_fill h3 hi, ← g2 i hi]; exact y1, y2, y3, y4⟩
  · intro k j o o' b N M hk hj ho ho' h1 h2
    obtain ⟨y, hy⟩ := live k hk o ho
    obtain ⟨z, hz⟩ := live j hj o' ho'
    exact rl.one k j y z b N M hk hj hy hz h1 h2
  · intro i m es ex left cur hi hq
    obtain ⟨g1, g2, g3, g4⟩ := isIter i hi m es ex left cur hq
    obtain ⟨h1, h2, h3⟩ := rl.iter i m es ex left cur hi g4
    obtain ⟨_, i2, _⟩ := r.iter i m es ex left cur hi g3
    refine ⟨h1, ?_, h3⟩
    rcases heap m h1 with ⟨k1, k2, k3⟩ | ⟨es', k1, k2⟩ | ⟨k1, k2, k3⟩ | ⟨c, len, ee, k1, k2, _⟩
    · obtain ⟨bb, N, _, j1, _⟩ := r.is m _ h1 i2
      rw [hf m k2 k3] at j1; cases j1
    · have := (b2 _ k1).2; rw [a1] at this; exact absurd i2 this
    · rw [k3]; exact i2
    · obtain ⟨bb, N, _, j1, _⟩ := r.is m _ h1 i2
      obtain ⟨_, _, _, l1, _⟩ := row m c len ee k1
      rw [hf m k2 (by omega)] at j1; cases j1
  · intro i j m es ex left cur es' ex' left' cur' hi hj h1 h2
    exact rl.lone i j m _ _ _ _ _ _ _ _ hi hj (isIter i hi _ _ _ _ _ h1).2.2.2 (isIter j hj _ _ _ _ _ h2).2.2.2
end
end Go.Rn
