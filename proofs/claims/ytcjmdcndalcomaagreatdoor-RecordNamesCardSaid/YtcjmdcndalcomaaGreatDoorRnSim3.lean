/- More operations: numbers, texts, truths; parts; what is the same. -/
import Derived.Test.YtcjmdcndalcomaaGreatDoorRnSim2
import Derived.Laws.StructEq
namespace Go.Rn
open Go.RowKit

section
variable {P : Program} {B : Nat} {ρ : Ren} {w : World} {s s1 : AS} {x : AV} {call : Caller} {t : Tr AV} {ev : Operand → Value} {o : Oper}

theorem partT_sim {ty : TypeId} {cs : List AV} {ds : Array Value} {off : Nat} (hc : VRs ρ cs ds.toList) (h : partT P ty cs off = some x) : ∃ v, (part ty ds off).run P w = .ok v w ∧ VR ρ x v := by
  unfold partT at h
  cases ea : aggT P ty with
  | none => simp only [ea] at h; cases h
  | some b =>
    simp only [ea] at h
    cases b with
    | true =>
      cases ek : sizeT P ty with
      | none => simp only [ek] at h; cases h
      | some k =>
        simp only [ek] at h; injection h with h; subst h
        refine ⟨.agg (ds.extract off (off + k)), ?_, ?_⟩
        · simp [part, run_isAgg_of ea, run_size_of ek]
        · simp only [VR]
          refine ⟨_, rfl, ?_⟩
          have : (ds.extract off (off + k)).toList = (ds.toList.drop off).take k := by simp [List.extract]
          rw [this]; exact (hc.drop off).take k
    | false =>
      obtain ⟨v, hv, hr⟩ := hc.get off x h
      refine ⟨v, ?_, hr⟩
      have hv' : ds[off]? = some v := by simpa using hv
      simp [part, run_isAgg_of ea, hv']

theorem bytes_beq (a b : ByteArray) : (a == b) = (a.toList == b.toList) := beq_toListBytes a b

theorem eqFields_sim {d : Nat} {eq : TypeId → AV → AV → Option Bool} (he : ∀ ty a b c v u, eq ty a b = some c → VR ρ a v → VR ρ b u → (Op.equalIn d ty v u).run P w = .ok c w)
    {xs ys : List AV} {cs ds : Array Value} (hx : VRs ρ xs cs.toList) (hy : VRs ρ ys ds.toList) : ∀ {fs : List Field} {b : Bool}, eqFields P eq xs ys fs = some b → (Op.eqFields d cs ds fs).run P w = .ok b w
  | [], b, h => by simp only [eqFields] at h; injection h with h; subst h; rfl
  | f :: fs, b, h => by
    simp only [eqFields] at h
    cases en : (f.name == "_") with
    | true =>
      simp only [en] at h
      have : ¬ (f.name ≠ "_") := by simpa using en
      rw [Op.eqFields, if_neg this]
      exact eqFields_sim he hx hy h
    | false =>
      simp only [en] at h
      have hne : f.name ≠ "_" := by intro e; rw [e] at en; simp at en
      rw [Op.eqFields, if_pos hne]
      cases e1 : partT P f.type xs f.offset with
      | none => simp only [e1] at h; cases h
      | some a =>
        cases e2 : partT P f.type ys f.offset with
        | none => simp only [e1, e2] at h; cases h
        | some c =>
          simp only [e1, e2] at h
          obtain ⟨v, g1, g2⟩ := partT_sim (w := w) hx e1
          obtain ⟨u, g3, g4⟩ := partT_sim (w := w) hy e2
          cases e3 : eq f.type a c with
          | none => simp only [e3] at h; cases h
          | some q =>
            simp only [e3] at h
            have g5 := he _ _ _ _ _ _ e3 g2 g4
            cases q with
            | false => injection h with h; subst h; simp [g1, g3, g5]
            | true => simp only [] at h; simp [g1, g3, g5, eqFields_sim he hx hy h]

theorem eqCells_sim {d : Nat} {eq : TypeId → AV → AV → Option Bool} (he : ∀ ty a b c v u, eq ty a b = some c → VR ρ a v → VR ρ b u → (Op.equalIn d ty v u).run P w = .ok c w)
    {ty : TypeId} {k : Nat} {xs ys : List AV} {cs ds : Array Value} (hx : VRs ρ xs cs.toList) (hy : VRs ρ ys ds.toList) : ∀ {n i : Nat} {b : Bool}, eqCells P eq ty k xs ys n i = some b →
    ((forIn (List.range' i n 1) (none, PUnit.unit) (fun j (_ : Option Bool × PUnit) => do
        let a ← part ty cs (j * k)
        let c ← part ty ds (j * k)
        let r ← Op.equalIn d ty a c
        if (!r) = true then pure (ForInStep.done (some false, PUnit.unit)) else pure (ForInStep.yield (none, PUnit.unit)))) : Sem (Option Bool × PUnit)).run P w = .ok (if b then none else some false, PUnit.unit) w
  | 0, i, b, h => by simp only [eqCells] at h; injection h with h; subst h; rfl
  | n + 1, i, b, h => by
    simp only [eqCells] at h
    cases e1 : partT P ty xs (i * k) with
    | none => simp only [e1] at h; cases h
    | some a =>
      cases e2 : partT P ty ys (i * k) with
      | none => simp only [e1, e2] at h; cases h
      | some c =>
        simp only [e1, e2] at h
        obtain ⟨v, g1, g2⟩ := partT_sim (w := w) hx e1
        obtain ⟨u, g3, g4⟩ := partT_sim (w := w) hy e2
        cases e3 : eq ty a c with
        | none => simp only [e3] at h; cases h
        | some q =>
          simp only [e3] at h
          have g5 := he _ _ _ _ _ _ e3 g2 g4
          rw [List.range'_succ, List.forIn_cons]
          cases q with
          | false => injection h with h; subst h; simp [g1, g3, g5]
          | true =>
            have ih := eqCells_sim he hx hy (n := n) (i := i + 1) h
            simp only [Sem.run_bind, g1, Result.andThen_ok, g3, g5, Bool.not_true, Bool.false_eq_true, if_false, Sem.run_pure]
            exact ih

theorem eqT_sim : ∀ {d : Nat} {ty : TypeId} {a b : AV} {c : Bool} {v u : Value}, eqT P d ty a b = some c → VR ρ a v → VR ρ b u → (Op.equalIn d ty v u).run P w = .ok c w
  | 0, _, _, _, _, _, _, h, _, _ => by simp only [eqT] at h; cases h
  | d + 1, ty, a, b, c, v, u, h, ha, hb => by
    simp only [eqT] at h
    split at h <;> first | (cases h; done) | skip
    · rename_i p q eu
      injection h with h; subst h; simp only [VR] at ha hb; subst ha; subst hb
      simp [Op.equalIn, run_underlying_of eu]
    · rename_i k0 k p k' q eu
      simp only [VR] at ha hb; subst ha; subst hb
      cases hk : decide (k = k') with
      | false => rw [hk] at h; cases h
      | true => rw [hk] at h; injection h with h; subst h; simp [Op.equalIn, run_underlying_of eu, of_decide_eq_true hk]
    · rename_i p q eu
      injection h with h; subst h; simp only [VR] at ha hb; subst ha; subst hb
      simp [Op.equalIn, run_underlying_of eu]
    · rename_i e q eu
      injection h with h; subst h; simp only [VR] at ha; subst ha
      cases q with
      | none => simp only [VR] at hb; subst hb; simp [Op.equalIn, run_underlying_of eu]
      | some q => obtain ⟨n, i⟩ := q; simp only [VR] at hb; obtain ⟨_, _, _, rfl⟩ := hb; simp [Op.equalIn, run_underlying_of eu]
    · rename_i e q eu
      injection h with h; subst h; simp only [VR] at hb; subst hb
      obtain ⟨n, i⟩ := q; simp only [VR] at ha; obtain ⟨_, _, _, rfl⟩ := ha; simp [Op.equalIn, run_underlying_of eu]
    · rename_i ms eu
      injection h with h; subst h; simp only [VR] at ha hb; subst ha; subst hb; simp [Op.equalIn, run_underlying_of eu]
    · rename_i ms t1 v1 eu
      injection h with h; subst h; simp only [VR] at ha hb; subst ha; obtain ⟨_, rfl, _⟩ := hb; simp [Op.equalIn, run_underlying_of eu]
    · rename_i ms t1 v1 eu
      injection h with h; subst h; simp only [VR] at ha hb; subst hb; obtain ⟨_, rfl, _⟩ := ha; simp [Op.equalIn, run_underlying_of eu]
    · rename_i fs xs ys eu
      cases hs : P.stoodInHeld ty with
      | true => rw [hs] at h; cases h
      | false =>
        rw [hs] at h
        simp only [VR] at ha hb
        obtain ⟨cs, rfl, hx⟩ := ha
        obtain ⟨ds, rfl, hy⟩ := hb
        have hf : P.fieldsOf ty = fs := by simp [Program.fieldsOf, eu]
        rw [run_equalIn_struct w d ty cs ds (by rw [hf]; exact eu) hs, hf]
        exact eqFields_sim (fun ty a b c v u e p q => eqT_sim e p q) hx hy h
    · rename_i n e xs ys eu
      cases ek : sizeT P e with
      | none => simp only [ek] at h; cases h
      | some k =>
        simp only [ek] at h
        simp only [VR] at ha hb
        obtain ⟨cs, rfl, hx⟩ := ha
        obtain ⟨ds, rfl, hy⟩ := hb
        have := eqCells_sim (P := P) (w := w) (d := d) (fun ty a b c v u e p q => eqT_sim e p q) (ty := e) (k := k) hx hy (n := n) (i := 0) h
        simp only [Op.equalIn, Sem.run_bind, run_underlying_of eu, Result.andThen_ok, run_size_of ek]
        rw [Std.Legacy.Range.forIn_eq_forIn_range']
        simp only [Std.Legacy.Range.size, Nat.sub_zero, Nat.add_sub_cancel, Nat.div_one]
        rw [this]
        cases c <;> rfl
    · rename_i e l1 c1 q l2 c2 eu
      injection h with h; subst h
      have : ∃ k l, v = .slice none k l := by cases c1 <;> simp only [VR] at ha; exact ⟨_, _, ha.1⟩
      obtain ⟨_, _, rfl⟩ := this
      cases q with
      | none =>
        have : ∃ k l, u = .slice none k l := by cases c2 <;> simp only [VR] at hb; exact ⟨_, _, hb.1⟩
        obtain ⟨_, _, rfl⟩ := this
        simp [Op.equalIn, run_underlying_of eu]
      | some q =>
        obtain ⟨n, i⟩ := q
        have : ∃ p k l, u = .slice (some p) k l := by
          cases c2 <;> simp only [VR] at hb
          · obtain ⟨_, _, _, rfl⟩ := hb; exact ⟨_, _, _, rfl⟩
          · obtain ⟨_, _, _, _, rfl, _⟩ := hb; exact ⟨_, _, _, rfl⟩
          · obtain ⟨_, _, _, _, _, _, rfl⟩ := hb; exact ⟨_, _, _, rfl⟩
        obtain ⟨_, _, _, rfl⟩ := this
        simp [Op.equalIn, run_underlying_of eu]
    · rename_i e q l1 c1 l2 c2 eu
      injection h with h; subst h
      have : ∃ k l, u = .slice none k l := by cases c2 <;> simp only [VR] at hb; exact ⟨_, _, hb.1⟩
      obtain ⟨_, _, rfl⟩ := this
      obtain ⟨n, i⟩ := q
      have : ∃ p k l, v = .slice (some p) k l := by
        cases c1 <;> simp only [VR] at ha
        · obtain ⟨_, _, _, rfl⟩ := ha; exact ⟨_, _, _, rfl⟩
        · obtain ⟨_, _, _, _, rfl, _⟩ := ha; exact ⟨_, _, _, rfl⟩
        · obtain ⟨_, _, _, _, _, _, rfl⟩ := ha; exact ⟨_, _, _, rfl⟩
      obtain ⟨_, _, _, rfl⟩ := this
      simp [Op.equalIn, run_underlying_of eu]
    · rename_i k0 e0 q eu
      injection h with h; subst h; simp only [VR] at ha; subst ha
      cases q with
      | none => simp only [VR] at hb; subst hb; simp [Op.equalIn, run_underlying_of eu]
      | some q => simp only [VR] at hb; obtain ⟨_, _, _, rfl⟩ := hb; simp [Op.equalIn, run_underlying_of eu]
    · rename_i k0 e0 q eu
      injection h with h; subst h; simp only [VR] at ha hb; subst hb; obtain ⟨_, _, _, rfl⟩ := ha; simp [Op.equalIn, run_underlying_of eu]
    · rename_i p0 r0 v0 eu
      injection h with h; subst h; simp only [VR] at ha hb; subst ha; subst hb; simp [Op.equalIn, run_underlying_of eu]
    · rename_i p0 r0 v0 f1 c1 c2 eu
      injection h with h; subst h; simp only [VR] at ha hb; subst ha; obtain ⟨_, _, _, rfl, _⟩ := hb; simp [Op.equalIn, run_underlying_of eu]
    · rename_i p0 r0 v0 f1 c1 c2 eu
      injection h with h; subst h; simp only [VR] at ha hb; subst hb; obtain ⟨_, _, _, rfl, _⟩ := ha; simp [Op.equalIn, run_underlying_of eu]

theorem intOp_sim {op : BinOp} {k : IntKind} {a b : Int} (hs : isShift op = false) (h : intOp op k a b = some x) : ∃ v, (binOp op 0 (.int k a) (.int k b)).run P w = .ok v w ∧ VR ρ x v ∧ ∀ ty, binOp op ty (.int k a) (.int k b) = binOp op 0 (.int k a) (.int k b) := by
  cases op <;> simp only [intOp] at h <;> first
    | (cases h; done)
    | (simp [isShift] at hs; done)
    | (injection h with h; subst h; exact ⟨_, by simp [binOp, Op.intArith, Op.intBits, Op.intCmp]; first | rfl | done, by simp [VR], fun _ => rfl⟩)
    | (cases hd : decide (b = 0) with
       | true => rw [hd] at h; cases h
       | false =>
         rw [hd] at h
         injection h with h; subst h
         exact ⟨_, by simp [binOp, Op.intDiv, of_decide_eq_false hd]; first | rfl | done, by simp [VR], fun _ => rfl⟩)
end
end Go.Rn
