/- Maps: what is asked, what is put. -/
import Derived.Test.YtcjmdcndalcomaaGreatDoorRnSim10
namespace Go.Rn
open Go.RowKit

section
variable {P : Program} {B : Nat} {ρ : Ren} {w : World} {s s1 : AS} {x : AV} {call : Caller} {t : Tr AV} {ev : Operand → Value} {o : Oper}

theorem keyFields_sim {em : Bool} {d : Nat} {chk : TypeId → AV → Bool} (hc : ∀ ty a v, chk ty a = true → VR ρ a v → (Instr.checkKey em d ty v).run P w = .ok () w)
    {cs : List AV} {ds : Array Value} (hx : VRs ρ cs ds.toList) : ∀ {fs : List Field}, keyFields P chk cs fs = true →
    (forIn fs PUnit.unit fun f _ => do
      if f.name ≠ "_" then do
        Instr.checkKey em d f.type (← part f.type ds f.offset)
        pure (ForInStep.yield PUnit.unit)
      else pure (ForInStep.yield PUnit.unit) : Sem PUnit).run P w = .ok PUnit.unit w
  | [], _ => rfl
  | f :: fs, h => by
    simp only [keyFields] at h
    rw [List.forIn_cons]
    cases en : (f.name == "_") with
    | true =>
      simp only [en] at h
      have : ¬ (f.name ≠ "_") := by simpa using en
      rw [if_neg this]
      simp only [Sem.run_bind, Sem.run_pure, Result.andThen_ok]
      exact keyFields_sim hc hx h
    | false =>
      simp only [en] at h
      have hne : f.name ≠ "_" := by intro e; rw [e] at en; simp at en
      rw [if_pos hne]
      cases e1 : partT P f.type cs f.offset with
      | none => simp only [e1] at h; cases h
      | some a =>
        simp only [e1] at h
        obtain ⟨v, g1, g2⟩ := partT_sim (w := w) hx e1
        cases e2 : chk f.type a with
        | false => simp only [e2] at h; cases h
        | true =>
          simp only [e2] at h
          simp only [Sem.run_bind, Sem.run_pure, Result.andThen_ok, g1, hc _ _ _ e2 g2]
          exact keyFields_sim hc hx h

theorem keyOk_sim {em : Bool} : ∀ {d : Nat} {ty : TypeId} {a : AV} {v : Value}, keyOk P d ty a = true → VR ρ a v → (Instr.checkKey em d ty v).run P w = .ok () w
  | 0, _, _, _, h, _ => by simp only [keyOk] at h; cases h
  | d + 1, ty, a, v, h, ha => by
    simp only [keyOk] at h
    rw [Instr.checkKey]
    split at h <;> first | (cases h; done) | skip
    · rename_i e; simp [run_underlying_of e]
    · rename_i e; simp [run_underlying_of e]
    · rename_i e; simp [run_underlying_of e]
    · rename_i fs cs e
      simp only [VR] at ha
      obtain ⟨ds, rfl, hl⟩ := ha
      simp only [Sem.run_bind, run_underlying_of e, Result.andThen_ok]
      have := keyFields_sim (P := P) (w := w) (em := em) (d := d) (fun ty a v h1 h2 => keyOk_sim h1 h2) hl h
      rw [← Array.forIn_toList]
      simp only [this, Result.andThen_ok, Sem.run_pure]

theorem sameKey_sim {a b : AV} {c : Bool} {v u : Value} {kd : TypeDesc} {k : TypeId} (hk : P.underlying k = some kd) (hp : plainKey P k a = true) (h : sameKey a b = some c) (ha : VR ρ a v) (hb : VR ρ b u) : Instr.sameNow kd v u = some c := by
  unfold plainKey at hp
  rw [hk] at hp
  unfold sameKey at h
  split at h <;> first | (cases h; done) | skip
  · rename_i k1 x1 k2 x2
    simp only [VR] at ha hb; subst ha; subst hb
    cases hkk : decide (k1 = k2) with
    | false => rw [hkk] at h; cases h
    | true =>
      rw [hkk] at h; injection h with h; subst h
      have := of_decide_eq_true hkk
      cases kd <;> first | (cases hp; done) | simp [Instr.sameNow, this]
  · injection h with h; subst h
    simp only [VR] at ha hb; subst ha; subst hb
    cases kd <;> first | (cases hp; done) | simp [Instr.sameNow]
  · injection h with h; subst h
    simp only [VR] at ha hb; subst ha; subst hb
    cases kd <;> first | (cases hp; done) | simp [Instr.sameNow]

/-- A find under names is a find. -/
def FindR (ρ : Ren) (es : List (AV × AV)) (l : List MapEntry) (i : Nat) : Option (Nat × AV) → Option (Nat × Value) → Prop
  | none, r => r = none
  | some (j, x), r => ∃ y q e, r = some (j, y) ∧ VR ρ x y ∧ i ≤ j ∧ es[j - i]? = some q ∧ l[j - i]? = some e ∧ VR ρ q.1 e.key ∧ q.2 = x ∧ e.val = y

theorem FindR.next {es : List (AV × AV)} {l : List MapEntry} {i : Nat} {p : AV × AV} {e : MapEntry} {r : Option (Nat × AV)} {r' : Option (Nat × Value)} (h : FindR ρ es l (i + 1) r r') : FindR ρ (p :: es) (e :: l) i r r' := by
  cases r with
  | none => exact h
  | some q =>
    obtain ⟨j, x⟩ := q
    obtain ⟨y, q, e2, h1, h2, h3, h4, h5, h6⟩ := h
    refine ⟨y, q, e2, h1, h2, by omega, ?_, ?_, h6⟩
    · rw [show j - i = (j - (i + 1)) + 1 from by omega]; simpa using h4
    · rw [show j - i = (j - (i + 1)) + 1 from by omega]; simpa using h5

theorem findPlain_sim {k : TypeId} {kd : TypeDesc} {key : AV} {v : Value} (hk : P.underlying k = some kd) (hp : plainKey P k key = true) (hv : VR ρ key v) : ∀ {es : List (AV × AV)} {l : List MapEntry} {i : Nat} {r : Option (Nat × AV)},
    EQs ρ es l → findPlain key es i = some r → ∃ r', Instr.findNow kd v l i = some r' ∧ FindR ρ es l i r r'
  | [], l, i, r, he, h => by
    have he' : l = [] := he
    subst he'
    simp only [findPlain] at h; injection h with h; subst h
    exact ⟨none, rfl, rfl⟩
  | (a, b) :: es, l, i, r, he, h => by
    obtain ⟨e, l', rfl, h1, h2, h3⟩ := he
    simp only [findPlain] at h
    cases q : sameKey key a with
    | none => rw [q] at h; cases h
    | some c =>
      have := sameKey_sim hk hp q hv h1
      cases c with
      | true =>
        simp only [q] at h; injection h with h; subst h
        exact ⟨some (i, e.val), by simp only [Instr.findNow, this], e.val, (a, b), e, rfl, h2, Nat.le_refl _, by simp, by simp, h1, rfl, rfl⟩
      | false =>
        simp only [q] at h
        obtain ⟨r', g1, g2⟩ := findPlain_sim hk hp hv h3 h
        exact ⟨r', by simp only [Instr.findNow, this]; exact g1, g2.next⟩

theorem findSlow_sim {k : TypeId} {key : AV} {v : Value} (hv : VR ρ key v) : ∀ {es : List (AV × AV)} {l : List MapEntry} {i : Nat} {r : Option (Nat × AV)},
    EQs ρ es l → findSlow P k key es i = some r → ∃ r', (Instr.findAsking k v l i).run P w = .ok r' w ∧ FindR ρ es l i r r'
  | [], l, i, r, he, h => by
    have he' : l = [] := he
    subst he'
    simp only [findSlow] at h; injection h with h; subst h
    exact ⟨none, rfl, rfl⟩
  | (a, b) :: es, l, i, r, he, h => by
    obtain ⟨e, l', rfl, h1, h2, h3⟩ := he
    simp only [findSlow] at h
    cases q : eqT P Op.maxDepth k key a with
    | none => rw [q] at h; cases h
    | some c =>
      have hq : (Op.equal k v e.key).run P w = .ok c w := eqT_sim q hv h1
      cases c with
      | true =>
        simp only [q] at h; injection h with h; subst h
        exact ⟨some (i, e.val), by simp [Instr.findAsking, hq], e.val, (a, b), e, rfl, h2, Nat.le_refl _, by simp, by simp, h1, rfl, rfl⟩
      | false =>
        simp only [q] at h
        obtain ⟨r', g1, g2⟩ := findSlow_sim hv h3 h
        exact ⟨r', by simp [Instr.findAsking, hq, g1], g2.next⟩

theorem int_of {a : AV} {k : IntKind} {n : Int} (ha : VR ρ a (.int k n)) : a = .int k n := by
  cases a <;> (try simp only [VR] at ha) <;> first | (cases ha; rfl) | (cases ha; done) | skip
  · rename_i q; cases q <;> simp only [VR] at ha <;> first | (cases ha; done) | (obtain ⟨_, _, _, e⟩ := ha; cases e)
  · rename_i q l c; cases q with
    | none => obtain ⟨_, _, e⟩ := slice_none ha; cases e
    | some q => obtain ⟨n, i⟩ := q; obtain ⟨_, _, _, _, _, e⟩ := slice_some ha; cases e
  · rename_i q; cases q <;> simp only [VR] at ha <;> first | (cases ha; done) | (obtain ⟨_, _, _, e⟩ := ha; cases e)
  · obtain ⟨_, _, _, e, _⟩ := ha; cases e
  · obtain ⟨_, _, _, e⟩ := ha; cases e
  · obtain ⟨_, e, _⟩ := ha; cases e
  · obtain ⟨_, e, _⟩ := ha; cases e
  · obtain ⟨_, e, _⟩ := ha; cases e
theorem str_of {a : AV} {q : ByteArray} (ha : VR ρ a (.string q)) : a = .str q := by
  cases a <;> (try simp only [VR] at ha) <;> first | (cases ha; rfl) | (cases ha; done) | skip
  · rename_i q; cases q <;> simp only [VR] at ha <;> first | (cases ha; done) | (obtain ⟨_, _, _, e⟩ := ha; cases e)
  · rename_i q l c; cases q with
    | none => obtain ⟨_, _, e⟩ := slice_none ha; cases e
    | some q => obtain ⟨n, i⟩ := q; obtain ⟨_, _, _, _, _, e⟩ := slice_some ha; cases e
  · rename_i q; cases q <;> simp only [VR] at ha <;> first | (cases ha; done) | (obtain ⟨_, _, _, e⟩ := ha; cases e)
  · obtain ⟨_, _, _, e, _⟩ := ha; cases e
  · obtain ⟨_, _, _, e⟩ := ha; cases e
  · obtain ⟨_, e, _⟩ := ha; cases e
  · obtain ⟨_, e, _⟩ := ha; cases e
  · obtain ⟨_, e, _⟩ := ha; cases e
theorem bool_of {a : AV} {b : Bool} (ha : VR ρ a (.bool b)) : a = .bool b := by
  cases a <;> (try simp only [VR] at ha) <;> first | (cases ha; rfl) | (cases ha; done) | skip
  · rename_i q; cases q <;> simp only [VR] at ha <;> first | (cases ha; done) | (obtain ⟨_, _, _, e⟩ := ha; cases e)
  · rename_i q l c; cases q with
    | none => obtain ⟨_, _, e⟩ := slice_none ha; cases e
    | some q => obtain ⟨n, i⟩ := q; obtain ⟨_, _, _, _, _, e⟩ := slice_some ha; cases e
  · rename_i q; cases q <;> simp only [VR] at ha <;> first | (cases ha; done) | (obtain ⟨_, _, _, e⟩ := ha; cases e)
  · obtain ⟨_, _, _, e, _⟩ := ha; cases e
  · obtain ⟨_, _, _, e⟩ := ha; cases e
  · obtain ⟨_, e, _⟩ := ha; cases e
  · obtain ⟨_, e, _⟩ := ha; cases e
  · obtain ⟨_, e, _⟩ := ha; cases e

theorem notPlain {k : TypeId} {kd : TypeDesc} {key : AV} {v : Value} (hk : P.underlying k = some kd) (hp : plainKey P k key = false) (hv : VR ρ key v) (u : Value) : Instr.sameNow kd v u = none := by
  cases e : Instr.sameNow kd v u with
  | none => rfl
  | some c =>
    exfalso
    unfold Instr.sameNow at e
    unfold plainKey at hp
    rw [hk] at hp
    split at e <;> first | (cases e; done) | skip
    · rw [int_of hv] at hp; cases hp
    · rw [str_of hv] at hp; cases hp
    · rw [bool_of hv] at hp; cases hp

theorem findKey_sim {k : TypeId} {kd : TypeDesc} {key : AV} {v : Value} {es : List (AV × AV)} {l : List MapEntry} {r : Option (Nat × AV)} (hk : P.underlying k = some kd) (hv : VR ρ key v) (he : EQs ρ es l) (h : findKey P k key es = some r) :
    ∃ r', (Instr.findKey k v l).run P w = .ok r' w ∧ FindR ρ es l 0 r r' := by
  unfold findKey at h
  cases hp : plainKey P k key with
  | true =>
    simp only [hp] at h
    obtain ⟨r', g1, g2⟩ := findPlain_sim hk hp hv he h
    exact ⟨r', MapKept.run_findKey hk g1, g2⟩
  | false =>
    simp only [hp] at h
    obtain ⟨r', g1, g2⟩ := findSlow_sim (P := P) (w := w) hv he h
    refine ⟨r', ?_, g2⟩
    cases l with
    | nil =>
      have g1' : Result.ok none w = Result.ok r' w := g1
      injection g1' with g1'; subst g1'
      exact MapKept.run_findKey hk rfl
    | cons e l =>
      have : Instr.findNow kd v (e :: l) 0 = none := by simp only [Instr.findNow, notPlain hk hp hv e.key]
      simp only [Instr.findKey, Sem.run_bind, run_underlying_of hk, Result.andThen_ok, this]
      exact g1

/-- In a map of which no two keys are one, one that is found is found in any row. -/
theorem findPlain_none {key : AV} : ∀ {es : List (AV × AV)} {i : Nat}, findPlain key es i = some none → ∀ p ∈ es, sameKey key p.1 = some false
  | [], _, _, p, hp => by cases hp
  | (a, b) :: es, i, h, p, hp => by
    simp only [findPlain] at h
    cases q : sameKey key a with
    | none => rw [q] at h; cases h
    | some c =>
      cases c with
      | true => simp only [q] at h; cases h
      | false =>
        simp only [q] at h
        rcases List.mem_cons.1 hp with rfl | hp
        · exact q
        · exact findPlain_none h p hp
theorem findPlain_some {key : AV} : ∀ {es : List (AV × AV)} {i j : Nat} {x : AV}, findPlain key es i = some (some (j, x)) → i ≤ j ∧ ∃ q, es[j - i]? = some q ∧ q.2 = x ∧ sameKey key q.1 = some true
  | [], _, _, _, h => by simp [findPlain] at h
  | (a, b) :: es, i, j, x, h => by
    simp only [findPlain] at h
    cases q : sameKey key a with
    | none => rw [q] at h; cases h
    | some c =>
      cases c with
      | true =>
        simp only [q] at h; injection h with h; injection h with h; injection h with h1 h2; subst h1; subst h2
        exact ⟨Nat.le_refl _, (a, b), by simp, rfl, q⟩
      | false =>
        simp only [q] at h
        obtain ⟨h1, p, h2, h3⟩ := findPlain_some h
        refine ⟨by omega, p, ?_, h3⟩
        rw [show j - i = (j - (i + 1)) + 1 from by omega]; simpa using h2
end
end Go.Rn
