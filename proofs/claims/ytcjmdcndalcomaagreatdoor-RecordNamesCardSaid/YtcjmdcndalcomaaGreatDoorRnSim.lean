/- Each operation: what it does under names is what the model does. -/
import Derived.Test.YtcjmdcndalcomaaGreatDoorRnCells
namespace Go.Rn
open Go.RowKit

theorem ofCell_sim (ρ : Ren) {v : Value} {x : AV} (h : ofCell v = some x) : VR ρ x v := by
  unfold ofCell at h
  split at h <;> first
    | (injection h with h; subst h; simp only [VR]; done)
    | (cases h; done)
    | skip
  rename_i len cap
  cases hb : (Nat.beq len 0 && Nat.beq cap 0) with
  | false => rw [hb] at h; cases h
  | true =>
    rw [hb] at h; injection h with h; subst h
    obtain ⟨a, b⟩ := and_true.1 hb
    have a' := beqN_true.1 a; have b' := beqN_true.1 b
    subst a'; subst b'
    simp [VR]
theorem ofCells_sim (ρ : Ren) : ∀ {l : List Value} {x : List AV}, ofCells l = some x → VRs ρ x l
  | [], x, h => by simp only [ofCells] at h; injection h with h; subst h; simp only [VRs]
  | v :: l, x, h => by
    simp only [ofCells] at h
    cases e : ofCell v with
    | none => rw [e] at h; cases h
    | some y =>
      simp only [e] at h
      cases e2 : ofCells l with
      | none => simp only [e2] at h; cases h
      | some r =>
        simp only [e2] at h; injection h with h; subst h
        simp only [VRs]; exact ⟨v, l, rfl, ofCell_sim ρ e, ofCells_sim ρ e2⟩
theorem ofValue_sim (ρ : Ren) {v : Value} {x : AV} (h : ofValue v = some x) : VR ρ x v := by
  unfold ofValue at h
  split at h
  · rename_i cs
    cases e : ofCells cs.toList with
    | none => rw [e] at h; cases h
    | some l => simp only [e] at h; injection h with h; subst h; simp only [VR]; exact ⟨cs, rfl, ofCells_sim ρ e⟩
  · rename_i cs
    cases e : ofCells cs.toList with
    | none => rw [e] at h; cases h
    | some l => simp only [e] at h; injection h with h; subst h; simp only [VR]; exact ⟨cs, rfl, ofCells_sim ρ e⟩
  · exact ofCell_sim ρ h

/-- The names of package-level variables are their blocks. -/
def RenG (ρ : Ren) : Prop := ∀ g, g < globs → ∃ N, ρ g = some (g, N)
theorem RenG.mono {ρ σ : Ren} (h : RenG ρ) (l : ρ.le σ) : RenG σ := fun g hg => let ⟨N, e⟩ := h g hg; ⟨N, l _ _ e⟩

theorem opd_sim {ρ : Ren} {nt : Nat} {t : Tr AV} {a : Act} (k : TR ρ nt t a.tmps) (hg : RenG ρ) {x : Operand} {v : AV} (h : opd t x = some v) : VR ρ v (a.eval x) := by
  cases x with
  | tmp i =>
    have h' : some (@Option.rec AV (fun _ => AV) aundef (fun v => v) (t.get i)) = some v := h
    injection h' with h'
    have := k.2 i
    rw [show (t.get i).getD aundef = v from by rw [← h']; cases t.get i <;> rfl] at this
    exact this
  | const c => exact ofValue_sim ρ h
  | global g =>
    have h' : @Bool.rec (fun _ => Option AV) none (some (.ptr (some (g, 0)))) (Nat.blt g globs) = some v := h
    rw [rec_blt] at h'
    by_cases e : g < globs
    · rw [if_pos e] at h'; injection h' with h'; subst h'
      obtain ⟨N, hN⟩ := hg g e
      simp only [VR]; exact ⟨g, N, hN, rfl⟩
    · rw [if_neg e] at h'; cases h'
  | func f =>
    have h' : some (AV.func (.func f) [] []) = some v := h
    injection h' with h'; subst h'
    simp only [VR, VRs]; exact ⟨rfl, #[], #[], rfl, rfl, rfl⟩

theorem opds_sim {ρ : Ren} {ev : Operand → Option AV} {ec : Operand → Value} (he : ∀ x v, ev x = some v → VR ρ v (ec x)) : ∀ {l : List Operand} {vs : List AV}, opds ev l = some vs → VRs ρ vs (l.map ec)
  | [], vs, h => by simp only [opds] at h; injection h with h; subst h; simp only [VRs, List.map_nil]
  | x :: l, vs, h => by
    simp only [opds] at h
    cases e : ev x with
    | none => rw [e] at h; cases h
    | some y =>
      simp only [e] at h
      cases e2 : opds ev l with
      | none => simp only [e2] at h; cases h
      | some r =>
        simp only [e2] at h; injection h with h; subst h
        simp only [VRs, List.map_cons]; exact ⟨_, _, rfl, he x y e, opds_sim he e2⟩

section
variable {P : Program} {w : World}
theorem run_underlying_of {t : TypeId} {d : TypeDesc} (h : P.underlying t = some d) : (underlying t).run P w = .ok d w := by
  simp [underlying, h]
theorem run_info_of {t : TypeId} {i : TypeInfo} (h : P.info? t = some i) : (typeInfo t).run P w = .ok i w := by
  simp [typeInfo, h]
theorem run_size_of {t : TypeId} {k : Nat} (h : sizeT P t = some k) : (sizeOf t).run P w = .ok k w := by
  unfold sizeT at h
  cases e : P.info? t with
  | none => rw [e] at h; cases h
  | some i => simp only [e] at h; injection h with h; subst h; simp [sizeOf, run_info_of e]
theorem run_zero_of (ρ : Ren) {t : TypeId} {z : AV} (h : zeroT P t = some z) : ∃ v, (zeroValue t).run P w = .ok v w ∧ VR ρ z v := by
  unfold zeroT at h
  cases e : P.info? t with
  | none => rw [e] at h; cases h
  | some i =>
    simp only [e] at h
    cases e2 : i.zero with
    | none => simp only [e2] at h; cases h
    | some v => simp only [e2] at h; exact ⟨v, by simp [zeroValue, run_info_of e, e2], ofValue_sim ρ h⟩
theorem run_isAgg_of {t : TypeId} {b : Bool} (h : aggT P t = some b) : (isAgg t).run P w = .ok b w := by
  unfold aggT at h
  split at h <;> first | (cases h; done) | skip
  · rename_i fs e; injection h with h; subst h; simp [isAgg, run_underlying_of e]
  · rename_i n m e; injection h with h; subst h; simp [isAgg, run_underlying_of e]
  · rename_i d h1 h2 e; injection h with h; subst h
    simp only [isAgg, Sem.run_bind, run_underlying_of e, Result.andThen_ok]
    cases d <;> first | rfl | (exact absurd e (h1 _)) | (exact absurd e (h2 _ _))
end

theorem Addr.add_flat (b o j : Nat) : (Addr.mk b o none).add j = ⟨b, o + j, none⟩ := by
  unfold Addr.add
  by_cases q : j = 0
  · subst q; simp
  · rw [if_neg q]

/-- What an operation without a call of a function comes to. -/
def SimOp (P : Program) (B : Nat) (ρ : Ren) (s s1 : AS) (w : World) (x : AV) (c : Sem Next) : Prop :=
  ∃ σ w' nv, Ext s.nx s1.nx ρ σ ∧ c.run P w = .ok nv w' ∧ (match nv with | .value v => VR σ x v | .skip => x = aundef | _ => False) ∧ Rel B σ s1.h w' ∧ Below B w w'
/-- The same of a value. -/
def SimV (P : Program) (B : Nat) (ρ : Ren) (s s1 : AS) (w : World) (x : AV) (c : Sem Value) : Prop :=
  ∃ σ w' v, Ext s.nx s1.nx ρ σ ∧ c.run P w = .ok v w' ∧ VR σ x v ∧ Rel B σ s1.h w' ∧ Below B w w'
theorem SimV.op {P : Program} {B : Nat} {ρ : Ren} {s s1 : AS} {w : World} {x : AV} {c : Sem Value} (h : SimV P B ρ s s1 w x c) : SimOp P B ρ s s1 w x (do pure (.value (← c))) := by
  obtain ⟨σ, w', v, a, b, d, e, f⟩ := h
  exact ⟨σ, w', .value v, a, by simp [b], d, e, f⟩
/-- What reads alone. -/
theorem SimV.same {P : Program} {B : Nat} {ρ : Ren} {s s1 : AS} {w : World} {x : AV} {c : Sem Value} {v : Value} (hh : s1.h = s.h) (r : Rel B ρ s.h w) (hc : c.run P w = .ok v w) (hv : VR ρ x v) : SimV P B ρ s s1 w x c :=
  ⟨ρ, w, v, Ext.refl _ _ _, hc, hv, by rw [hh]; exact r, Below.refl _ _⟩

section
variable {P : Program} {B : Nat} {ρ : Ren} {w : World} {s s1 : AS}

theorem loadVar_sim {t : TypeId} {n off : Nat} {x : AV} {b N : Nat} (fi : Fine s) (r : Rel B ρ s.h w) (h : loadVar P t n off s = .ok x s1) (hn : ρ n = some (b, N)) :
    s1.h = s.h ∧ s1.nx = s.nx ∧ ∃ v, (Go.loadVar t ⟨b, off, none⟩).run P w = .ok v w ∧ VR ρ x v := by
  unfold loadVar at h
  obtain ⟨ag, h1, h2⟩ := withO_inv h
  cases ag with
  | true =>
    obtain ⟨k, h3, h4⟩ := withO_inv h2
    obtain ⟨l, s2, h5, h6⟩ := M.bind_inv h4
    obtain ⟨rfl, rfl⟩ := pure_inv h6
    obtain ⟨a1, a2, a3, a4, vs, a5, a6, _⟩ := readCells_sim (P := P) fi r h5 hn
    refine ⟨a1, a2, .agg vs.toArray, ?_, ?_⟩
    · simp [Go.loadVar, run_isAgg_of h1, run_size_of h3, a5]
    · simp only [VR]; exact ⟨_, rfl, by simpa using a6⟩
  | false =>
    obtain ⟨l, s2, h5, h6⟩ := M.bind_inv h2
    obtain ⟨q, rfl⟩ := lift_inv h6
    obtain ⟨a1, a2, a3, a4, vs, a5, a6, a7⟩ := readCells_sim (P := P) fi r h5 hn
    unfold one at q
    split at q
    · rename_i y
      injection q with q; subst q
      simp only [VRs] at a6
      obtain ⟨v, ys, rfl, hv, rfl⟩ := a6
      have hc := a7 0 v rfl
      refine ⟨a1, a2, v, ?_, hv⟩
      simp only [Go.loadVar, Sem.run_bind, run_isAgg_of h1, Result.andThen_ok]
      simp [show w.cell? ⟨b, off, none⟩ = some v from by simpa using hc]
    · cases q

theorem storeVar_sim {t : TypeId} {n off : Nat} {x : AV} {v : Value} {u : Unit} {b N : Nat} (fi : Fine s) (r : Rel B ρ s.h w) (h : storeVar P t n off x s = .ok u s1) (hn : ρ n = some (b, N)) (hv : VR ρ x v) :
    s1.nx = s.nx ∧ ∃ w', (Go.storeVar t ⟨b, off, none⟩ v).run P w = .ok () w' ∧ Rel B ρ s1.h w' ∧ Below B w w' := by
  unfold storeVar at h
  obtain ⟨k, h1, h2⟩ := withO_inv h
  obtain ⟨h3, h4⟩ := withB_inv h2
  obtain ⟨a1, w', a2, a3, a4⟩ := writeCells_sim (P := P) fi r h4 hn hv.cells
  refine ⟨a1, w', ?_, a3, a4⟩
  have hk : v.cells.size = k := by
    have := hv.cells.length
    rw [beqN_true.1 h3] at this; simpa using this.symm
  simp [Go.storeVar, run_size_of h1, hk, a2]

theorem newVar_sim {x : AV} {v : Value} {n : Nat} (e : TypeId) (r : Rel B ρ s.h w) (hf : Free s.nx s1.nx ρ) (h : newRow x.cells s = .ok n s1) (hv : VR ρ x v) :
    ∃ σ w' b N, Ext s.nx s1.nx ρ σ ∧ (Go.newVar e v).run P w = .ok ⟨b, 0, none⟩ w' ∧ σ n = some (b, N) ∧ Rel B σ s1.h w' ∧ Below B w w' := by
  obtain ⟨rfl, h1, σ, h2, h3, h4, h5⟩ := newRow_sim (P := P) e [] r hf h hv.cells
  refine ⟨σ, _, _, _, h2, ?_, h3, h5, (Grew.alloc w _).below r.size⟩
  have : (v.cells.toList ++ []).toArray = v.cells := by simp
  rw [this] at h4 ⊢
  exact h4
end

theorem VR.int_inv {ρ : Ren} {x : AV} {v : Value} {i : Int} (h : VR ρ x v) (hi : intOf x = some i) : ∃ k, x = .int k i ∧ v = .int k i := by
  cases x <;> simp only [intOf] at hi <;> first | (cases hi; done) | skip
  rename_i k n
  injection hi with hi; subst hi
  simp only [VR] at h; exact ⟨k, rfl, h⟩
theorem VR.bool_inv {ρ : Ren} {x : AV} {v : Value} {b : Bool} (h : VR ρ x v) (hi : boolOf x = some b) : v = .bool b := by
  cases x <;> simp only [boolOf] at hi <;> first | (cases hi; done) | skip
  injection hi with hi; subst hi
  simp only [VR] at h; exact h
theorem VR.addr_inv {ρ : Ren} {x : AV} {v : Value} {a : Nat × Nat} (h : VR ρ x v) (hi : addrOf x = some a) : ∃ b N, ρ a.1 = some (b, N) ∧ v = .pointer (some ⟨b, a.2, none⟩) := by
  unfold addrOf at hi
  split at hi
  · injection hi with hi; subst hi
    rename_i a
    obtain ⟨n, o⟩ := a
    simp only [VR] at h; exact h
  · cases hi

section
variable {P : Program} {B : Nat} {ρ : Ren} {w : World} {s s1 : AS} {x : AV} {call : Caller} {t : Tr AV} {ev : Operand → Value} {o : Oper}

theorem sim_kMove {y : Operand} (he : ∀ x v, opd t x = some v → VR ρ v (ev x)) (r : Rel B ρ s.h w) (h : kMove y call t s = .ok x s1) (ho : o.op = .move y ∨ o.op = .assign y) : SimOp P B ρ s s1 w x (execOp ev o) := by
  obtain ⟨h1, rfl⟩ := lift_inv (show lift (opd t y) s = .ok x s1 from h)
  refine ⟨ρ, w, .value (ev y), Ext.refl _ _ _, ?_, he y x h1, r, Below.refl _ _⟩
  rcases ho with ho | ho <;> simp [execOp, ho]

theorem sim_kPick {c a b : Operand} (he : ∀ x v, opd t x = some v → VR ρ v (ev x)) (r : Rel B ρ s.h w) (h : kPick c a b call t s = .ok x s1) (ho : o.op = .pick c a b) : SimOp P B ρ s s1 w x (execOp ev o) := by
  unfold kPick at h
  obtain ⟨v, h1, h2⟩ := withO_inv h
  obtain ⟨q, h3, h4⟩ := withO_inv h2
  obtain ⟨va, h5, h6⟩ := withO_inv h4
  obtain ⟨vb, h7, h8⟩ := withO_inv h6
  have hc := (he c v h1).bool_inv h3
  cases q with
  | true =>
    obtain ⟨rfl, rfl⟩ := pure_inv h8
    exact ⟨ρ, w, .value (ev a), Ext.refl _ _ _, by simp [execOp, ho, hc, asBool], he a _ h5, r, Below.refl _ _⟩
  | false =>
    obtain ⟨rfl, rfl⟩ := pure_inv h8
    exact ⟨ρ, w, .value (ev b), Ext.refl _ _ _, by simp [execOp, ho, hc, asBool], he b _ h7, r, Below.refl _ _⟩

theorem sim_kAlloc {e : TypeId} (r : Rel B ρ s.h w) (hf : Free s.nx s1.nx ρ) (h : kAlloc P e call t s = .ok x s1) (ho : o.op = .alloc e) : SimOp P B ρ s s1 w x (execOp ev o) := by
  unfold kAlloc at h
  obtain ⟨z, h1, h2⟩ := withO_inv h
  obtain ⟨n, s2, h3, h4⟩ := M.bind_inv h2
  obtain ⟨rfl, rfl⟩ := pure_inv h4
  obtain ⟨v, h5, h6⟩ := run_zero_of (P := P) (w := w) ρ h1
  obtain ⟨σ, w', b, N, a1, a2, a3, a4, a5⟩ := newVar_sim (P := P) e r hf h3 h6
  refine ⟨σ, w', .value (.pointer (some ⟨b, 0, none⟩)), a1, ?_, ?_, a4, a5⟩
  · simp [execOp, ho, Instr.alloc, h5, a2]
  · simp only [VR]; exact ⟨b, N, a3, rfl⟩

theorem sim_kBox {e : TypeId} {y : Operand} (he : ∀ x v, opd t x = some v → VR ρ v (ev x)) (r : Rel B ρ s.h w) (hf : Free s.nx s1.nx ρ) (h : kBox y call t s = .ok x s1) (ho : o.op = .box e y) : SimOp P B ρ s s1 w x (execOp ev o) := by
  unfold kBox at h
  obtain ⟨z, h1, h2⟩ := withO_inv h
  obtain ⟨n, s2, h3, h4⟩ := M.bind_inv h2
  obtain ⟨rfl, rfl⟩ := pure_inv h4
  obtain ⟨σ, w', b, N, a1, a2, a3, a4, a5⟩ := newVar_sim (P := P) e r hf h3 (he y z h1)
  refine ⟨σ, w', .value (.pointer (some ⟨b, 0, none⟩)), a1, ?_, ?_, a4, a5⟩
  · simp [execOp, ho, Instr.box, a2]
  · simp only [VR]; exact ⟨b, N, a3, rfl⟩

theorem sim_kLoad {ty : TypeId} {a : Operand} (he : ∀ x v, opd t x = some v → VR ρ v (ev x)) (fi : Fine s) (r : Rel B ρ s.h w) (h : kLoad P ty a call t s = .ok x s1) (ho : o.op = .load ty a) : SimOp P B ρ s s1 w x (execOp ev o) := by
  unfold kLoad at h
  obtain ⟨v, h1, h2⟩ := withO_inv h
  obtain ⟨ad, h3, h4⟩ := withO_inv h2
  obtain ⟨b, N, h5, h6⟩ := (he a v h1).addr_inv h3
  obtain ⟨a1, a2, u, a3, a4⟩ := loadVar_sim (P := P) fi r h4 h5
  refine ⟨ρ, w, .value u, Ext.refl _ _ _, ?_, a4, by rw [a1]; exact r, Below.refl _ _⟩
  simp [execOp, ho, Instr.loadAt, Instr.sureAddr, h6, a3]

theorem sim_kStore {ty : TypeId} {a y : Operand} (he : ∀ x v, opd t x = some v → VR ρ v (ev x)) (fi : Fine s) (r : Rel B ρ s.h w) (h : kStore P ty a y call t s = .ok x s1) (ho : o.op = .store ty a y) : SimOp P B ρ s s1 w x (execOp ev o) := by
  unfold kStore at h
  obtain ⟨v, h1, h2⟩ := withO_inv h
  obtain ⟨ad, h3, h4⟩ := withO_inv h2
  obtain ⟨z, h5, h6⟩ := withO_inv h4
  obtain ⟨u, s2, h7, h8⟩ := M.bind_inv h6
  obtain ⟨rfl, rfl⟩ := pure_inv h8
  obtain ⟨b, N, h9, h10⟩ := (he a v h1).addr_inv h3
  obtain ⟨a1, w', a2, a3, a4⟩ := storeVar_sim (P := P) fi r h7 h9 (he y z h5)
  refine ⟨ρ, w', .skip, Ext.refl _ _ _, ?_, rfl, a3, a4⟩
  simp [execOp, ho, Instr.storeAt, Instr.sureAddr, h10, a2]

theorem sim_kNilCheck {y : Operand} (he : ∀ x v, opd t x = some v → VR ρ v (ev x)) (r : Rel B ρ s.h w) (h : kNilCheck y call t s = .ok x s1) (ho : o.op = .nilCheck y) : SimOp P B ρ s s1 w x (execOp ev o) := by
  unfold kNilCheck at h
  obtain ⟨v, h1, h2⟩ := withO_inv h
  obtain ⟨h3, h4⟩ := withB_inv h2
  obtain ⟨rfl, rfl⟩ := pure_inv h4
  have hv := he y _ h1
  refine ⟨ρ, w, .value (ev y), Ext.refl _ _ _, ?_, hv, r, Below.refl _ _⟩
  simp only [execOp, ho]
  generalize ev y = v at hv
  cases x <;> (try simp only [VR] at hv) <;> (try (subst hv; first | (simp [notNil] at h3; done) | rfl))
  case ptr a =>
    cases a with
    | none => simp [notNil] at h3
    | some a => obtain ⟨n, q⟩ := a; simp only [VR] at hv; obtain ⟨_, _, _, rfl⟩ := hv; rfl
  case slice a len cap =>
    have : ∃ p q r, v = .slice p q r := by
      cases a with
      | none => cases cap <;> simp only [VR] at hv; exact ⟨_, _, _, hv.1⟩
      | some a =>
        obtain ⟨n, q⟩ := a
        cases cap <;> simp only [VR] at hv
        · obtain ⟨_, _, _, rfl⟩ := hv; exact ⟨_, _, _, rfl⟩
        · obtain ⟨_, _, _, _, rfl, _⟩ := hv; exact ⟨_, _, _, rfl⟩
        · obtain ⟨_, _, _, _, _, _, rfl⟩ := hv; exact ⟨_, _, _, rfl⟩
    obtain ⟨_, _, _, rfl⟩ := this; rfl
  case map a =>
    cases a with
    | none => simp only [VR] at hv; subst hv; rfl
    | some a => simp only [VR] at hv; obtain ⟨_, _, _, rfl⟩ := hv; rfl
  case func fn f c =>
    obtain ⟨_, _, _, rfl, _⟩ := hv
    cases fn <;> first | rfl | (simp [notNil] at h3)
  case yield l => obtain ⟨_, _, _, rfl⟩ := hv; rfl
  case iface ty y => obtain ⟨_, rfl, _⟩ := hv; rfl
  case agg l => obtain ⟨_, rfl, _⟩ := hv; rfl
  case tuple l => obtain ⟨_, rfl, _⟩ := hv; rfl
end
end Go.Rn
