/- More operations: numbers, texts, truths; addresses; parts; slices; what is made. -/
import Derived.Test.YtcjmdcndalcomaaGreatDoorRnSim3
namespace Go.Rn
open Go.RowKit

section
variable {P : Program} {B : Nat} {ρ : Ren} {w : World} {s s1 : AS} {x : AV} {call : Caller} {t : Tr AV} {ev : Operand → Value} {o : Oper}

theorem shiftOp_sim {op : BinOp} {k k' : IntKind} {a b : Int} {ty : TypeId} (hs : isShift op = true) (h : shiftOp op k a b = some x) : ∃ v, (binOp op ty (.int k a) (.int k' b)).run P w = .ok v w ∧ VR ρ x v := by
  unfold shiftOp at h
  cases hd : decide (b < 0) with
  | true => rw [hd] at h; cases h
  | false =>
    rw [hd] at h
    have hn := of_decide_eq_false hd
    cases op <;> simp only [isShift] at hs <;> first | (cases hs; done) | skip
    · injection h with h; subst h; exact ⟨_, by simp [binOp, Op.shift, hn]; first | rfl | done, by simp [VR]⟩
    · injection h with h; subst h; exact ⟨_, by simp [binOp, Op.shift, hn]; first | rfl | done, by simp [VR]⟩

theorem strOp_sim {op : BinOp} {a b : ByteArray} {ty : TypeId} (h : strOp op a b = some x) : ∃ v, (binOp op ty (.string a) (.string b)).run P w = .ok v w ∧ VR ρ x v := by
  cases op <;> simp only [strOp] at h <;> first
    | (cases h; done)
    | (injection h with h; subst h; exact ⟨_, by simp [binOp, Op.stringOp]; first | rfl | done, by simp [VR]⟩)
    | skip
  cases hd : Nat.ble (a.size + b.size) room with
  | false => rw [hd] at h; cases h
  | true =>
    rw [hd] at h; injection h with h; subst h
    have hl := ble_true.1 hd
    unfold room at hl
    refine ⟨.string (a ++ b), ?_, by simp [VR]⟩
    have : ¬ (((a.size + b.size : Nat) : Int) > IntKind.i64.max) := by
      have : IntKind.i64.max = 9223372036854775807 := by decide
      rw [this]; omega
    simp only [binOp, Op.stringOp, if_neg this]
    rfl

theorem slice_some {n i len : Nat} {c : Cap} {v : Value} (h : VR ρ (.slice (some (n, i)) len c) v) : ∃ b N q k, ρ n = some (b, N) ∧ v = .slice (some ⟨b, q, none⟩) len k := by
  cases c <;> simp only [VR] at h
  · obtain ⟨b, N, e, rfl⟩ := h; exact ⟨b, N, _, _, e, rfl⟩
  · obtain ⟨b, N, _, e, rfl, _⟩ := h; exact ⟨b, N, _, _, e, rfl⟩
  · obtain ⟨rfl, b, N, _, _, e, rfl⟩ := h; exact ⟨b, N, _, _, e, rfl⟩
theorem slice_none {len : Nat} {c : Cap} {v : Value} (h : VR ρ (.slice none len c) v) : len = 0 ∧ c = .known 0 ∧ v = .slice none 0 0 := by
  cases c <;> simp only [VR] at h
  obtain ⟨rfl, rfl, rfl⟩ := h; exact ⟨rfl, rfl, rfl⟩

/-- Where '==' is asked of two values that are neither numbers nor texts, the model asks for the same. -/
theorem eql_eq {d : Nat} {ty : TypeId} {a b : AV} {c : Bool} {v u : Value} (h : eqT P (d + 1) ty a b = some c) (ha : VR ρ a v) (hb : VR ρ b u)
    (n1 : ∀ k p k' q, a = .int k p → b = .int k' q → False) (n2 : ∀ p q, a = .str p → b = .str q → False) :
    binOp .eql ty v u = (do pure (.bool (← Op.equal ty v u))) ∧ binOp .neq ty v u = (do pure (.bool (!(← Op.equal ty v u)))) := by
  simp only [eqT] at h
  split at h <;> first | (cases h; done) | skip
  · simp only [VR] at ha hb; subst ha; subst hb; exact ⟨rfl, rfl⟩
  · exact (n1 _ _ _ _ rfl rfl).elim
  · exact (n2 _ _ rfl rfl).elim
  · rename_i e q eu
    simp only [VR] at ha; subst ha
    cases q with
    | none => simp only [VR] at hb; subst hb; exact ⟨rfl, rfl⟩
    | some q => obtain ⟨n, i⟩ := q; simp only [VR] at hb; obtain ⟨_, _, _, rfl⟩ := hb; exact ⟨rfl, rfl⟩
  · rename_i e q eu
    simp only [VR] at hb; subst hb
    obtain ⟨n, i⟩ := q; simp only [VR] at ha; obtain ⟨_, _, _, rfl⟩ := ha; exact ⟨rfl, rfl⟩
  · simp only [VR] at ha hb; subst ha; subst hb; exact ⟨rfl, rfl⟩
  · simp only [VR] at ha hb; subst ha; obtain ⟨_, rfl, _⟩ := hb; exact ⟨rfl, rfl⟩
  · simp only [VR] at ha hb; subst hb; obtain ⟨_, rfl, _⟩ := ha; exact ⟨rfl, rfl⟩
  · simp only [VR] at ha hb; obtain ⟨_, rfl, _⟩ := ha; obtain ⟨_, rfl, _⟩ := hb; exact ⟨rfl, rfl⟩
  · simp only [VR] at ha hb; obtain ⟨_, rfl, _⟩ := ha; obtain ⟨_, rfl, _⟩ := hb; exact ⟨rfl, rfl⟩
  · rename_i e l1 c1 q l2 c2 eu
    obtain ⟨_, _, rfl⟩ := slice_none ha
    cases q with
    | none => obtain ⟨_, _, rfl⟩ := slice_none hb; exact ⟨rfl, rfl⟩
    | some q => obtain ⟨n, i⟩ := q; obtain ⟨_, _, _, _, _, rfl⟩ := slice_some hb; exact ⟨rfl, rfl⟩
  · rename_i e q l1 c1 l2 c2 eu
    obtain ⟨_, _, rfl⟩ := slice_none hb
    obtain ⟨n, i⟩ := q; obtain ⟨_, _, _, _, _, rfl⟩ := slice_some ha; exact ⟨rfl, rfl⟩
  · rename_i k0 e0 q eu
    simp only [VR] at ha; subst ha
    cases q with
    | none => simp only [VR] at hb; subst hb; exact ⟨rfl, rfl⟩
    | some q => simp only [VR] at hb; obtain ⟨_, _, _, rfl⟩ := hb; exact ⟨rfl, rfl⟩
  · simp only [VR] at ha hb; subst hb; obtain ⟨_, _, _, rfl⟩ := ha; exact ⟨rfl, rfl⟩
  · simp only [VR] at ha hb; subst ha; subst hb; exact ⟨rfl, rfl⟩
  · simp only [VR] at ha hb; subst ha; obtain ⟨_, _, _, rfl, _⟩ := hb; exact ⟨rfl, rfl⟩
  · simp only [VR] at ha hb; subst hb; obtain ⟨_, _, _, rfl, _⟩ := ha; exact ⟨rfl, rfl⟩

theorem binOpT_sim {op : BinOp} {ty : TypeId} {a b : AV} {v u : Value} (h : binOpT P op ty a b = some x) (ha : VR ρ a v) (hb : VR ρ b u) : ∃ r, (binOp op ty v u).run P w = .ok r w ∧ VR ρ x r := by
  unfold binOpT at h
  split at h
  · rename_i k p k' q
    simp only [VR] at ha hb; subst ha; subst hb
    cases hs : isShift op with
    | true => rw [hs] at h; exact shiftOp_sim hs h
    | false =>
      rw [hs] at h
      cases hk : decide (k = k') with
      | false => rw [hk] at h; cases h
      | true =>
        rw [hk] at h
        have := of_decide_eq_true hk; subst this
        obtain ⟨r, h1, h2, h3⟩ := intOp_sim (P := P) (w := w) (ρ := ρ) hs h
        exact ⟨r, by rw [h3]; exact h1, h2⟩
  · simp only [VR] at ha hb; subst ha; subst hb; exact strOp_sim h
  · rename_i n1 n2
    split at h <;> first | (cases h; done) | skip
    · cases e : eqT P Op.maxDepth ty a b with
      | none => rw [e] at h; cases h
      | some c =>
        rw [e] at h; injection h with h; subst h
        have e' : eqT P (9999 + 1) ty a b = some c := e
        have := (eql_eq (P := P) e' ha hb n1 n2).1
        have h2 : (Op.equal ty v u).run P w = .ok c w := eqT_sim e ha hb
        exact ⟨.bool c, by rw [this]; simp [h2], by simp [VR]⟩
    · cases e : eqT P Op.maxDepth ty a b with
      | none => rw [e] at h; cases h
      | some c =>
        rw [e] at h; injection h with h; subst h
        have e' : eqT P (9999 + 1) ty a b = some c := e
        have := (eql_eq (P := P) e' ha hb n1 n2).2
        have h2 : (Op.equal ty v u).run P w = .ok c w := eqT_sim e ha hb
        exact ⟨.bool !c, by rw [this]; simp [h2], by simp [VR]⟩

theorem nil_of {a : AV} (ha : VR ρ a .nilIface) : a = .nilIface := by
  cases a <;> (try simp only [VR] at ha) <;> first | rfl | (cases ha; done) | skip
  · rename_i q; cases q <;> simp only [VR] at ha <;> first | (cases ha; done) | (obtain ⟨_, _, _, e⟩ := ha; cases e)
  · rename_i q l c; cases q with
    | none => obtain ⟨_, _, e⟩ := slice_none ha; cases e
    | some q => obtain ⟨n, i⟩ := q; obtain ⟨_, _, _, _, _, e⟩ := slice_some ha; cases e
  · rename_i q; cases q <;> simp only [VR] at ha <;> first | (cases ha; done) | (obtain ⟨_, _, _, e⟩ := ha; cases e)
  · obtain ⟨_, _, _, e, _⟩ := ha; cases e
  · obtain ⟨_, _, _, e⟩ := ha; cases e
  · obtain ⟨_, e, _⟩ := ha; cases e
  · obtain ⟨_, e, _⟩ := ha; cases e
  · obtain ⟨_, e, _⟩ := ha; cases e
theorem agg_of {a : AV} {cs : Array Value} (ha : VR ρ a (.agg cs)) : ∃ l, a = .agg l := by
  cases a <;> (try simp only [VR] at ha) <;> first | exact ⟨_, rfl⟩ | (cases ha; done) | skip
  · rename_i q; cases q <;> simp only [VR] at ha <;> first | (cases ha; done) | (obtain ⟨_, _, _, e⟩ := ha; cases e)
  · rename_i q l c; cases q with
    | none => obtain ⟨_, _, e⟩ := slice_none ha; cases e
    | some q => obtain ⟨n, i⟩ := q; obtain ⟨_, _, _, _, _, e⟩ := slice_some ha; cases e
  · rename_i q; cases q <;> simp only [VR] at ha <;> first | (cases ha; done) | (obtain ⟨_, _, _, e⟩ := ha; cases e)
  · obtain ⟨_, _, _, e, _⟩ := ha; cases e
  · obtain ⟨_, _, _, e⟩ := ha; cases e
  · obtain ⟨_, e, _⟩ := ha; cases e
  · obtain ⟨_, e, _⟩ := ha; cases e

theorem guard_sim {op : BinOp} {ty : TypeId} {y z : Operand} {a b : AV} {v u : Value} (h : guardOk P op ty y z a b = true) (ha : VR ρ a v) (hb : VR ρ b u) : (eqGuard op ty y z v u).run P w = .ok () w := by
  have key : (op = .eql ∨ op = .neq) → eqGuardOk P ty y z a b = true := by
    rintro (rfl | rfl) <;> exact h
  by_cases hop : op = .eql ∨ op = .neq
  · have hk := key hop
    by_cases h1 : v = .nilIface ∧ u = .nilIface
    · obtain ⟨rfl, rfl⟩ := h1
      have := nil_of ha; subst this
      have := nil_of hb; subst this
      have hc : (isConst y || isConst z) = true := hk
      rcases hop with rfl | rfl <;> (cases y <;> cases z <;> first | (simp [isConst] at hc; done) | rfl)
    · by_cases h2 : (∃ cs, v = .agg cs) ∧ (∃ ds, u = .agg ds)
      · obtain ⟨⟨cs, rfl⟩, ⟨ds, rfl⟩⟩ := h2
        obtain ⟨l, rfl⟩ := agg_of ha
        obtain ⟨m, rfl⟩ := agg_of hb
        have hq : P.eqGuardType P.depth ty = false := by simpa [eqGuardOk] using hk
        exact run_eqGuard_agg w op ty y z cs ds hq
      · rcases hop with rfl | rfl <;> (cases v <;> cases u <;> first | rfl | (exact absurd ⟨rfl, rfl⟩ h1) | (exact absurd ⟨⟨_, rfl⟩, ⟨_, rfl⟩⟩ h2))
  · cases op <;> first | rfl | (exact absurd (.inl rfl) hop) | (exact absurd (.inr rfl) hop)

theorem sim_kBin {op : BinOp} {ty yt : TypeId} {y z : Operand} (he : ∀ x v, opd t x = some v → VR ρ v (ev x)) (r : Rel B ρ s.h w) (h : kBin P op ty y z call t s = .ok x s1) (ho : o.op = .binOp op ty y z yt) : SimOp P B ρ s s1 w x (execOp ev o) := by
  unfold kBin at h
  obtain ⟨a, h1, h2⟩ := withO_inv h
  obtain ⟨b, h3, h4⟩ := withO_inv h2
  obtain ⟨h5, h6⟩ := withB_inv h4
  obtain ⟨h7, rfl⟩ := lift_inv h6
  obtain ⟨q, g1, g2⟩ := binOpT_sim (P := P) (w := w) h7 (he y a h1) (he z b h3)
  have g3 := guard_sim (P := P) (w := w) h5 (he y a h1) (he z b h3)
  refine ⟨ρ, w, .value q, Ext.refl _ _ _, ?_, g2, r, Below.refl _ _⟩
  simp [execOp, ho, g3, g1]

theorem sim_kUn {op : UnOp} {ty : TypeId} {y : Operand} (he : ∀ x v, opd t x = some v → VR ρ v (ev x)) (r : Rel B ρ s.h w) (h : kUn op y call t s = .ok x s1) (ho : o.op = .unOp op ty y) : SimOp P B ρ s s1 w x (execOp ev o) := by
  unfold kUn at h
  obtain ⟨a, h1, h2⟩ := withO_inv h
  obtain ⟨h3, rfl⟩ := lift_inv h2
  have ha := he y a h1
  have : ∃ q, (Op.unary op (ev y)).run P w = .ok q w ∧ VR ρ x q := by
    unfold unOpT at h3
    split at h3 <;> first | (cases h3; done) | skip
    · rename_i k n
      simp only [VR] at ha; rw [ha]
      injection h3 with h3; subst h3
      exact ⟨_, rfl, by simp [VR]⟩
    · rename_i k n
      simp only [VR] at ha; rw [ha]
      injection h3 with h3; subst h3
      refine ⟨_, rfl, ?_⟩
      cases k <;> simp [VR, IntKind.signed]
    · rename_i c
      simp only [VR] at ha; rw [ha]
      injection h3 with h3; subst h3
      exact ⟨_, rfl, by simp [VR]⟩
  obtain ⟨q, g1, g2⟩ := this
  refine ⟨ρ, w, .value q, Ext.refl _ _ _, ?_, g2, r, Below.refl _ _⟩
  simp [execOp, ho, g1]
end
end Go.Rn
