/- Each operation: what it does under names is what the model does. -/
import Derived.Test.YtbnjeblcleihkaaGreatDoorRnRelA
import Derived.Laws.Tables
import Derived.Laws.StructEq
namespace Go.Rn
open Go.RowKit
theorem ofCell_sim (ρ : Ren) {v : Value} {x : AV} (h : ofCell v = some x) : VR ρ x v := by
  unfold ofCell at h
  split at h <;> first
    | (injection h with h; subst h; simp only [VR]; done)
    | (cases h; done)
    | skip
  rename_i len cap
  cases hb : (Nat.beq len 0 && Nat.beq cap 0) with
  | false => rw [hb] at h; cases h
  | true =>
    rw [hb] at h; injection h with h; subst h
    obtain ⟨a, b⟩ := and_true.1 hb
    have a' := beqN_true.1 a; have b' := beqN_true.1 b
    subst a'; subst b'
    simp [VR]
theorem ofCells_sim (ρ : Ren) : ∀ {l : List Value} {x : List AV}, ofCells l = some x → VRs ρ x l
  | [], x, h => by simp only [ofCells] at h; injection h with h; subst h; simp only [VRs]
  | v :: l, x, h => by
    simp only [ofCells] at h
    cases e : ofCell v with
    | none => rw [e] at h; cases h
    | some y =>
      simp only [e] at h
      cases e2 : ofCells l with
      | none => simp only [e2] at h; cases h
      | some r =>
        simp only [e2] at h; injection h with h; subst h
        simp only [VRs]; exact ⟨v, l, rfl, ofCell_sim ρ e, ofCells_sim ρ e2⟩
theorem ofValue_sim (ρ : Ren) {v : Value} {x : AV} (h : ofValue v = some x) : VR ρ x v := by
  unfold ofValue at h
  split at h
  · rename_i cs
    cases e : ofCells cs.toList with
    | none => rw [e] at h; cases h
    | some l => simp only [e] at h; injection h with h; subst h; simp only [VR]; exact ⟨cs, rfl, ofCells_sim ρ e⟩
  · rename_i cs
    cases e : ofCells cs.toList with
    | none => rw [e] at h; cases h
    | some l => simp only [e] at h; injection h with h; subst h; simp only [VR]; exact ⟨cs, rfl, ofCells_sim ρ e⟩
  · exact ofCell_sim ρ h
def RenG (ρ : Ren) : Prop := ∀ g, g < globs → ∃ N, ρ g = some (g, N)
theorem RenG.mono {ρ σ : Ren} (h : RenG ρ) (l : ρ.le σ) : RenG σ := fun g hg => let ⟨N, e⟩ := h g hg; ⟨N, l _ _ e⟩
theorem opd_sim {ρ : Ren} {nt : Nat} {t : Tr AV} {a : Act} (k : TR ρ nt t a.tmps) (hg : RenG ρ) {x : Operand} {v : AV} (h : opd t x = some v) : VR ρ v (a.eval x) := by
  cases x with
  | tmp i =>
    exact k.2 i v h
  | const c => exact ofValue_sim ρ h
  | global g =>
    have h' : @Bool.rec (fun _ => Option AV) none (some (.ptr (some (g, 0)))) (Nat.blt g globs) = some v := h
    rw [rec_blt] at h'
    by_cases e : g < globs
    · rw [if_pos e] at h'; injection h' with h'; subst h'
      obtain ⟨N, hN⟩ := hg g e
      simp only [VR]; exact ⟨g, N, hN, rfl⟩
    · rw [if_neg e] at h'; cases h'
  | func f =>
    have h' : some (AV.func (.func f) [] []) = some v := h
    injection h' with h'; subst h'
    simp only [VR, VRs]; exact ⟨rfl, #[], #[], rfl, rfl, rfl⟩
theorem opds_sim {ρ : Ren} {ev : Operand → Option AV} {ec : Operand → Value} (he : ∀ x v, ev x = some v → VR ρ v (ec x)) : ∀ {l : List Operand} {vs : List AV}, opds ev l = some vs → VRs ρ vs (l.map ec)
  | [], vs, h => by simp only [opds] at h; injection h with h; subst h; simp only [VRs, List.map_nil]
  | x :: l, vs, h => by
    simp only [opds] at h
    cases e : ev x with
    | none => rw [e] at h; cases h
    | some y =>
      simp only [e] at h
      cases e2 : opds ev l with
      | none => simp only [e2] at h; cases h
      | some r =>
        simp only [e2] at h; injection h with h; subst h
        simp only [VRs, List.map_cons]; exact ⟨_, _, rfl, he x y e, opds_sim he e2⟩
section
variable {P : Program} {w : World}
theorem run_underlying_of {t : TypeId} {d : TypeDesc} (h : P.underlying t = some d) : (underlying t).run P w = .ok d w := by
  simp [underlying, h]
theorem run_info_of {t : TypeId} {i : TypeInfo} (h : P.info? t = some i) : (typeInfo t).run P w = .ok i w := by
  simp [typeInfo, h]
theorem run_size_of {t : TypeId} {k : Nat} (h : sizeT P t = some k) : (sizeOf t).run P w = .ok k w := by
  unfold sizeT at h
  cases e : P.info? t with
  | none => rw [e] at h; cases h
  | some i => simp only [e] at h; injection h with h; subst h; simp [sizeOf, run_info_of e]
theorem run_zero_of (ρ : Ren) {t : TypeId} {z : AV} (h : zeroT P t = some z) : ∃ v, (zeroValue t).run P w = .ok v w ∧ VR ρ z v := by
  unfold zeroT at h
  cases e : P.info? t with
  | none => rw [e] at h; cases h
  | some i =>
    simp only [e] at h
    cases e2 : i.zero with
    | none => simp only [e2] at h; cases h
    | some v => simp only [e2] at h; exact ⟨v, by simp [zeroValue, run_info_of e, e2], ofValue_sim ρ h⟩
theorem run_isAgg_of {t : TypeId} {b : Bool} (h : aggT P t = some b) : (isAgg t).run P w = .ok b w := by
  unfold aggT at h
  split at h <;> first | (cases h; done) | skip
  · rename_i fs e; injection h with h; subst h; simp [isAgg, run_underlying_of e]
  · rename_i n m e; injection h with h; subst h; simp [isAgg, run_underlying_of e]
  · rename_i d h1 h2 e; injection h with h; subst h
    simp only [isAgg, Sem.run_bind, run_underlying_of e, Result.andThen_ok]
    cases d <;> first | rfl | (exact absurd e (h1 _)) | (exact absurd e (h2 _ _))
end
theorem Addr.add_flat (b o j : Nat) : (Addr.mk b o none).add j = ⟨b, o + j, none⟩ := by
  unfold Addr.add
  by_cases q : j = 0
  · subst q; simp
  · rw [if_neg q]
def SimOp (P : Program) (B : Base) (ρ : Ren) (s s1 : AS) (w : World) (x : AV) (c : Sem Next) : Prop :=
  ∃ σ w' nv, Ext s.nx s1.nx ρ σ ∧ c.run P w = .ok nv w' ∧ (match nv with | .value v => VR σ x v | .skip => x = aundef | _ => False) ∧ Rel B σ s1.h w' ∧ Bel B w w'
def SimV (P : Program) (B : Base) (ρ : Ren) (s s1 : AS) (w : World) (x : AV) (c : Sem Value) : Prop :=
  ∃ σ w' v, Ext s.nx s1.nx ρ σ ∧ c.run P w = .ok v w' ∧ VR σ x v ∧ Rel B σ s1.h w' ∧ Bel B w w'
theorem SimV.op {P : Program} {B : Base} {ρ : Ren} {s s1 : AS} {w : World} {x : AV} {c : Sem Value} (h : SimV P B ρ s s1 w x c) : SimOp P B ρ s s1 w x (do pure (.value (← c))) := by
  obtain ⟨σ, w', v, a, b, d, e, f⟩ := h
  exact ⟨σ, w', .value v, a, by simp [b], d, e, f⟩
section
variable {P : Program} {B : Base} {ρ : Ren} {w : World} {s s1 : AS}
theorem loadVar_sim {t : TypeId} {n off : Nat} {x : AV} {b N : Nat} (fi : Fine s) (r : Rel B ρ s.h w) (h : loadVar P t n off s = .ok x s1) (hn : ρ n = some (b, N)) :
    s1.h = s.h ∧ s1.nx = s.nx ∧ ∃ v, (Go.loadVar t ⟨b, off, none⟩).run P w = .ok v w ∧ VR ρ x v := by
  unfold loadVar at h
  obtain ⟨ag, h1, h2⟩ := withO_inv h
  cases ag with
  | true =>
    obtain ⟨k, h3, h4⟩ := withO_inv h2
    obtain ⟨l, s2, h5, h6⟩ := M.bind_inv h4
    obtain ⟨rfl, rfl⟩ := pure_inv h6
    obtain ⟨a1, a2, a3, a4, vs, a5, a6, _⟩ := readCells_sim (P := P) fi r h5 hn
    refine ⟨a1, a2, .agg vs.toArray, ?_, ?_⟩
    · simp [Go.loadVar, run_isAgg_of h1, run_size_of h3, a5]
    · simp only [VR]; exact ⟨_, rfl, by simpa using a6⟩
  | false =>
    obtain ⟨l, s2, h5, h6⟩ := M.bind_inv h2
    obtain ⟨q, rfl⟩ := lift_inv h6
    obtain ⟨a1, a2, a3, a4, vs, a5, a6, a7⟩ := readCells_sim (P := P) fi r h5 hn
    unfold one at q
    split at q
    · rename_i y
      injection q with q; subst q
      simp only [VRs] at a6
      obtain ⟨v, ys, rfl, hv, rfl⟩ := a6
      have hc := a7 0 v rfl
      refine ⟨a1, a2, v, ?_, hv⟩
      simp only [Go.loadVar, Sem.run_bind, run_isAgg_of h1, Result.andThen_ok]
      simp [show w.cell? ⟨b, off, none⟩ = some v from by simpa using hc]
    · cases q
theorem loadRow_sim {t : TypeId} {n off : Nat} {x : AV} {b sh : Nat} (fi : Fine s) (r : Rel B ρ s.h w) (h : loadRow P t n off s = .ok x s1) (hn : ρ n = some (b, sh)) :
    s1.h = s.h ∧ s1.nx = s.nx ∧ ∃ v, (Go.loadVar t ⟨b, sh + off, none⟩).run P w = .ok v w ∧ VR ρ x v := by
  unfold loadRow at h
  obtain ⟨ag, h1, h2⟩ := withO_inv h
  cases ag with
  | true => cases h2
  | false =>
    obtain ⟨ob, s2, h3, h4⟩ := M.bind_inv h2
    obtain ⟨hx, hg, hh, hnx⟩ := rdN_same h3
    have ht : n < top := Nat.lt_of_lt_of_le hx fi.nx
    obtain ⟨o', hb, hO, _⟩ := r.block ht hg hn
    cases ob with
    | rorow m tr =>
      obtain ⟨q1, q2⟩ := withB_inv h4
      obtain ⟨q3, rfl⟩ := lift_inv q2
      have hlt : off < m := by rw [← blt_eq]; exact q1
      obtain ⟨c, e, fr, rfl, row⟩ := hO
      obtain ⟨y, v, g1, g2, g3, g4⟩ := row off hlt
      rw [q3] at g1; injection g1 with g1; subst g1
      refine ⟨hh, hnx, v, ?_, g4⟩
      have hc : w.cell? ⟨b, sh + off, none⟩ = some v := by simp only [World.cell?, hb]; exact g3
      simp only [Go.loadVar, Sem.run_bind, run_isAgg_of h1, Result.andThen_ok]
      simp [hc]
    | _ => cases h4
def RowSim (B : Base) (call : Caller) : Prop := ∀ (n o k : Nat) (x : AV) (s s1 : AS) (ρ : Ren) (w : World), Fine s → Rel B ρ s.h w → call (.row n o k) [] s = .ok x s1 →
  s1.h = s.h ∧ s1.nx = s.nx ∧ ∃ l b sh vs, x = .agg l ∧ vs.length = k ∧ ρ n = some (b, sh) ∧ VRs ρ l vs ∧ ∃ c e fr, w.heap[b]? = some (.cells c e fr) ∧ ∀ (j : Nat) (v : Value), vs[j]? = some v → c[sh + o + j]? = some v
theorem loadFz_sim {t : TypeId} {n off : Nat} {x : AV} {b sh : Nat} {call : Caller} (hrow : RowSim B call) (fi : Fine s) (r : Rel B ρ s.h w) (h : loadFz P t call n off s = .ok x s1) (hn : ρ n = some (b, sh)) :
    s1.h = s.h ∧ s1.nx = s.nx ∧ ∃ v, (Go.loadVar t ⟨b, sh + off, none⟩).run P w = .ok v w ∧ VR ρ x v := by
  unfold loadFz at h
  obtain ⟨ag, h1, h2⟩ := withO_inv h
  obtain ⟨k, h3, h4⟩ := withO_inv h2
  obtain ⟨y, s2, h5, h6⟩ := M.bind_inv h4
  obtain ⟨a1, a2, l, b', sh', vs, rfl, a3, a4, a5, c, e, fr, a6, a7⟩ := hrow _ _ _ _ _ _ _ _ fi r h5
  rw [hn] at a4; cases a4
  have hcell : ∀ (j : Nat) (v : Value), vs[j]? = some v → w.cell? ⟨b, sh + off + j, none⟩ = some v := fun j v hj => by
    simp only [World.cell?, a6]; exact a7 j v hj
  cases ag with
  | true =>
    obtain ⟨rfl, rfl⟩ := pure_inv h6
    have hload := load_row (P := P) (w := w) a6 a7
    rw [a3] at hload
    refine ⟨a1, a2, .agg vs.toArray, ?_, ?_⟩
    · simp [Go.loadVar, run_isAgg_of h1, run_size_of h3, hload]
    · simp only [VR]; exact ⟨_, rfl, by simpa using a5⟩
  | false =>
    obtain ⟨q, rfl⟩ := lift_inv h6
    unfold one at q
    split at q
    · rename_i y
      injection q with q; subst q
      simp only [VRs] at a5
      obtain ⟨v, ys, rfl, hv, rfl⟩ := a5
      have hc := hcell 0 v rfl
      refine ⟨a1, a2, v, ?_, hv⟩
      simp only [Go.loadVar, Sem.run_bind, run_isAgg_of h1, Result.andThen_ok]
      simp [show w.cell? ⟨b, sh + off, none⟩ = some v from by simpa using hc]
    · cases q
theorem storeVar_sim {t : TypeId} {n off : Nat} {x : AV} {v : Value} {u : Unit} {b N : Nat} (fi : Fine s) (r : Rel B ρ s.h w) (h : storeVar P t n off x s = .ok u s1) (hn : ρ n = some (b, N)) (hv : VR ρ x v) :
    s1.nx = s.nx ∧ ∃ w', (Go.storeVar t ⟨b, off, none⟩ v).run P w = .ok () w' ∧ Rel B ρ s1.h w' ∧ Bel B w w' := by
  unfold storeVar at h
  obtain ⟨k, h1, h2⟩ := withO_inv h
  obtain ⟨h3, h4⟩ := withB_inv h2
  obtain ⟨a1, w', a2, a3, a4⟩ := writeCells_sim (P := P) fi r h4 hn hv.cells
  refine ⟨a1, w', ?_, a3, a4⟩
  have hk : v.cells.size = k := by
    have := hv.cells.length
    rw [beqN_true.1 h3] at this; simpa using this.symm
  simp [Go.storeVar, run_size_of h1, hk, a2]
theorem newVar_sim {x : AV} {v : Value} {n : Nat} (e : TypeId) (r : Rel B ρ s.h w) (hf : Free s.nx s1.nx ρ) (h : newRow x.cells s = .ok n s1) (hv : VR ρ x v) :
    ∃ σ w' b N, Ext s.nx s1.nx ρ σ ∧ (Go.newVar e v).run P w = .ok ⟨b, 0, none⟩ w' ∧ σ n = some (b, N) ∧ Rel B σ s1.h w' ∧ Bel B w w' := by
  obtain ⟨rfl, h1, σ, h2, h3, h4, h5⟩ := newRow_sim (P := P) e [] r hf h hv.cells
  refine ⟨σ, _, _, _, h2, ?_, h3, h5, (Grew.alloc w _).below r.size⟩
  have : (v.cells.toList ++ []).toArray = v.cells := by simp
  rw [this] at h4 ⊢
  exact h4
end
theorem VR.int_inv {ρ : Ren} {x : AV} {v : Value} {i : Int} (h : VR ρ x v) (hi : intOf x = some i) : ∃ k, x = .int k i ∧ v = .int k i := by
  cases x <;> simp only [intOf] at hi <;> first | (cases hi; done) | skip
  rename_i k n
  injection hi with hi; subst hi
  simp only [VR] at h; exact ⟨k, rfl, h⟩
theorem VR.bool_inv {ρ : Ren} {x : AV} {v : Value} {b : Bool} (h : VR ρ x v) (hi : boolOf x = some b) : v = .bool b := by
  cases x <;> simp only [boolOf] at hi <;> first | (cases hi; done) | skip
  injection hi with hi; subst hi
  simp only [VR] at h; exact h
theorem VR.addr_inv {ρ : Ren} {x : AV} {v : Value} {a : Nat × Nat} (h : VR ρ x v) (hi : addrOf x = some a) : ∃ b N, ρ a.1 = some (b, N) ∧ v = .pointer (some ⟨b, a.2, none⟩) := by
  unfold addrOf at hi
  split at hi
  · injection hi with hi; subst hi
    rename_i a
    obtain ⟨n, o⟩ := a
    simp only [VR] at h; exact h
  · cases hi
section
variable {P : Program} {B : Base} {ρ : Ren} {w : World} {s s1 : AS} {x : AV} {call : Caller} {t : Tr AV} {ev : Operand → Value} {o : Oper}
theorem sim_kMove {y : Operand} (he : ∀ x v, opd t x = some v → VR ρ v (ev x)) (r : Rel B ρ s.h w) (h : kMove y call t s = .ok x s1) (ho : o.op = .move y ∨ o.op = .assign y) : SimOp P B ρ s s1 w x (execOp ev o) := by
  obtain ⟨h1, rfl⟩ := lift_inv (show lift (opd t y) s = .ok x s1 from h)
  refine ⟨ρ, w, .value (ev y), Ext.refl _ _ _, ?_, he y x h1, r, Bel.refl _ _⟩
  rcases ho with ho | ho <;> simp [execOp, ho]
theorem sim_kPick {c a b : Operand} (he : ∀ x v, opd t x = some v → VR ρ v (ev x)) (r : Rel B ρ s.h w) (h : kPick c a b call t s = .ok x s1) (ho : o.op = .pick c a b) : SimOp P B ρ s s1 w x (execOp ev o) := by
  unfold kPick at h
  obtain ⟨v, h1, h2⟩ := withO_inv h
  obtain ⟨q, h3, h4⟩ := withO_inv h2
  obtain ⟨va, h5, h6⟩ := withO_inv h4
  obtain ⟨vb, h7, h8⟩ := withO_inv h6
  have hc := (he c v h1).bool_inv h3
  cases q with
  | true =>
    obtain ⟨rfl, rfl⟩ := pure_inv h8
    exact ⟨ρ, w, .value (ev a), Ext.refl _ _ _, by simp [execOp, ho, hc, asBool], he a _ h5, r, Bel.refl _ _⟩
  | false =>
    obtain ⟨rfl, rfl⟩ := pure_inv h8
    exact ⟨ρ, w, .value (ev b), Ext.refl _ _ _, by simp [execOp, ho, hc, asBool], he b _ h7, r, Bel.refl _ _⟩
theorem sim_kAlloc {e : TypeId} (r : Rel B ρ s.h w) (hf : Free s.nx s1.nx ρ) (h : kAlloc P e call t s = .ok x s1) (ho : o.op = .alloc e) : SimOp P B ρ s s1 w x (execOp ev o) := by
  unfold kAlloc at h
  obtain ⟨z, h1, h2⟩ := withO_inv h
  obtain ⟨n, s2, h3, h4⟩ := M.bind_inv h2
  obtain ⟨rfl, rfl⟩ := pure_inv h4
  obtain ⟨v, h5, h6⟩ := run_zero_of (P := P) (w := w) ρ h1
  obtain ⟨σ, w', b, N, a1, a2, a3, a4, a5⟩ := newVar_sim (P := P) e r hf h3 h6
  refine ⟨σ, w', .value (.pointer (some ⟨b, 0, none⟩)), a1, ?_, ?_, a4, a5⟩
  · simp [execOp, ho, Instr.alloc, h5, a2]
  · simp only [VR]; exact ⟨b, N, a3, rfl⟩
theorem sim_kBox {e : TypeId} {y : Operand} (he : ∀ x v, opd t x = some v → VR ρ v (ev x)) (r : Rel B ρ s.h w) (hf : Free s.nx s1.nx ρ) (h : kBox y call t s = .ok x s1) (ho : o.op = .box e y) : SimOp P B ρ s s1 w x (execOp ev o) := by
  unfold kBox at h
  obtain ⟨z, h1, h2⟩ := withO_inv h
  obtain ⟨n, s2, h3, h4⟩ := M.bind_inv h2
  obtain ⟨rfl, rfl⟩ := pure_inv h4
  obtain ⟨σ, w', b, N, a1, a2, a3, a4, a5⟩ := newVar_sim (P := P) e r hf h3 (he y z h1)
  refine ⟨σ, w', .value (.pointer (some ⟨b, 0, none⟩)), a1, ?_, ?_, a4, a5⟩
  · simp [execOp, ho, Instr.box, a2]
  · simp only [VR]; exact ⟨b, N, a3, rfl⟩
theorem sim_kLoad {ty : TypeId} {a : Operand} (hrow : RowSim B call) (he : ∀ x v, opd t x = some v → VR ρ v (ev x)) (fi : Fine s) (r : Rel B ρ s.h w) (h : kLoad P ty a call t s = .ok x s1) (ho : o.op = .load ty a) : SimOp P B ρ s s1 w x (execOp ev o) := by
  unfold kLoad at h
  obtain ⟨v, h1, h2⟩ := withO_inv h
  unfold loadAt at h2
  split at h2
  · rename_i n q
    have hv := he a _ h1
    simp only [VR] at hv
    obtain ⟨b, sh, h5, h6⟩ := hv
    have main : s1.h = s.h ∧ s1.nx = s.nx ∧ ∃ v, (Go.loadVar ty ⟨b, sh + q, none⟩).run P w = .ok v w ∧ VR ρ x v := by
      cases hb : Nat.ble top n with
      | true => rw [hb] at h2; exact loadFz_sim hrow fi r h2 h5
      | false => rw [hb] at h2; exact loadRow_sim (P := P) fi r h2 h5
    obtain ⟨a1, a2, u, a3, a4⟩ := main
    refine ⟨ρ, w, .value u, Ext.refl _ _ _, ?_, a4, by rw [a1]; exact r, Bel.refl _ _⟩
    simp [execOp, ho, Instr.loadAt, Instr.sureAddr, h6, a3]
  · obtain ⟨ad, h3, h4⟩ := withO_inv h2
    obtain ⟨b, N, h5, h6⟩ := (he a v h1).addr_inv h3
    obtain ⟨a1, a2, u, a3, a4⟩ := loadVar_sim (P := P) fi r h4 h5
    refine ⟨ρ, w, .value u, Ext.refl _ _ _, ?_, a4, by rw [a1]; exact r, Bel.refl _ _⟩
    simp [execOp, ho, Instr.loadAt, Instr.sureAddr, h6, a3]
theorem sim_kStore {ty : TypeId} {a y : Operand} (he : ∀ x v, opd t x = some v → VR ρ v (ev x)) (fi : Fine s) (r : Rel B ρ s.h w) (h : kStore P ty a y call t s = .ok x s1) (ho : o.op = .store ty a y) : SimOp P B ρ s s1 w x (execOp ev o) := by
  unfold kStore at h
  obtain ⟨v, h1, h2⟩ := withO_inv h
  obtain ⟨ad, h3, h4⟩ := withO_inv h2
  obtain ⟨z, h5, h6⟩ := withO_inv h4
  obtain ⟨u, s2, h7, h8⟩ := M.bind_inv h6
  obtain ⟨rfl, rfl⟩ := pure_inv h8
  obtain ⟨b, N, h9, h10⟩ := (he a v h1).addr_inv h3
  obtain ⟨a1, w', a2, a3, a4⟩ := storeVar_sim (P := P) fi r h7 h9 (he y z h5)
  refine ⟨ρ, w', .skip, Ext.refl _ _ _, ?_, rfl, a3, a4⟩
  simp [execOp, ho, Instr.storeAt, Instr.sureAddr, h10, a2]
theorem sim_kNilCheck {y : Operand} (he : ∀ x v, opd t x = some v → VR ρ v (ev x)) (r : Rel B ρ s.h w) (h : kNilCheck y call t s = .ok x s1) (ho : o.op = .nilCheck y) : SimOp P B ρ s s1 w x (execOp ev o) := by
  unfold kNilCheck at h
  obtain ⟨v, h1, h2⟩ := withO_inv h
  obtain ⟨h3, h4⟩ := withB_inv h2
  obtain ⟨rfl, rfl⟩ := pure_inv h4
  have hv := he y _ h1
  refine ⟨ρ, w, .value (ev y), Ext.refl _ _ _, ?_, hv, r, Bel.refl _ _⟩
  simp only [execOp, ho]
  generalize ev y = v at hv
  cases x <;> (try simp only [VR] at hv) <;> (try (subst hv; first | (simp [notNil] at h3; done) | rfl))
  case ptr a =>
    cases a with
    | none => simp [notNil] at h3
    | some a => obtain ⟨n, q⟩ := a; simp only [VR] at hv; obtain ⟨_, _, _, rfl⟩ := hv; rfl
  case rslice n o l => obtain ⟨_, _, _, _, rfl, _⟩ := hv; rfl
  case rptr n o => obtain ⟨_, _, _, rfl⟩ := hv; rfl
  case slice a len cap =>
    have : ∃ p q r, v = .slice p q r := by
      cases a with
      | none => cases cap <;> simp only [VR] at hv; exact ⟨_, _, _, hv.1⟩
      | some a =>
        obtain ⟨n, q⟩ := a
        cases cap <;> simp only [VR] at hv
        · obtain ⟨_, _, _, rfl⟩ := hv; exact ⟨_, _, _, rfl⟩
        · obtain ⟨_, _, _, _, rfl, _⟩ := hv; exact ⟨_, _, _, rfl⟩
        · obtain ⟨_, _, _, _, _, _, rfl⟩ := hv; exact ⟨_, _, _, rfl⟩
    obtain ⟨_, _, _, rfl⟩ := this; rfl
  case map a =>
    cases a with
    | none => simp only [VR] at hv; subst hv; rfl
    | some a => simp only [VR] at hv; obtain ⟨_, _, _, rfl⟩ := hv; rfl
  case func fn f c =>
    obtain ⟨_, _, _, rfl, _⟩ := hv
    cases fn <;> first | rfl | (simp [notNil] at h3)
  case yield l => obtain ⟨_, _, _, rfl⟩ := hv; rfl
  case iface ty y => obtain ⟨_, rfl, _⟩ := hv; rfl
  case agg l => obtain ⟨_, rfl, _⟩ := hv; rfl
  case tuple l => obtain ⟨_, rfl, _⟩ := hv; rfl
end
end Go.Rn

namespace Go.Rn
open Go.RowKit
theorem VRs.set {ρ : Ren} : ∀ {x : List AV} {v : List Value} {i : Nat} {a : AV} {b : Value}, VRs ρ x v → VR ρ a b → VRs ρ (x.set i a) (v.set i b)
  | [], _, _, _, _, h, _ => by simp only [VRs] at h; subst h; simp [VRs]
  | y :: ys, _, 0, _, _, h, k => by
    simp only [VRs] at h; obtain ⟨z, zs, rfl, p, q⟩ := h
    simp only [List.set_cons_zero, VRs]; exact ⟨_, _, rfl, k, q⟩
  | y :: ys, _, i + 1, _, _, h, k => by
    simp only [VRs] at h; obtain ⟨z, zs, rfl, p, q⟩ := h
    simp only [List.set_cons_succ, VRs]; exact ⟨_, _, rfl, p, q.set k⟩
def setV : List Value → List Value → Nat → List Value
  | cs, [], _ => cs
  | cs, c :: l, off => setV (cs.set off c) l (off + 1)
theorem setCells_sim {ρ : Ren} : ∀ {l : List AV} {vs : List Value} {cs : List AV} {ds : List Value} {off : Nat}, VRs ρ l vs → VRs ρ cs ds → VRs ρ (setCells cs l off) (setV ds vs off)
  | [], _, _, _, _, h, k => by simp only [VRs] at h; subst h; exact k
  | x :: l, _, cs, ds, off, h, k => by
    simp only [VRs] at h; obtain ⟨y, ys, rfl, p, q⟩ := h
    show VRs ρ (setCells (cs.set off x) l (off + 1)) (setV (ds.set off y) ys (off + 1))
    exact setCells_sim (l := l) q (k.set p)
theorem foldl_set (off : Nat) : ∀ (l : List Value) (k : Nat) (cs : Array Value),
    ((l.zipIdx k).foldl (fun (cs : Array Value) (x : Value × Nat) => cs.setIfInBounds (off + x.2) x.1) cs).toList = setV cs.toList l (off + k)
  | [], k, cs => rfl
  | c :: l, k, cs => by
    simp only [List.zipIdx_cons, List.foldl_cons, setV]
    rw [foldl_set off l (k + 1) _]
    simp [Nat.add_assoc]
def PRs (ρ : Ren) : List (Nat × AV) → List (Nat × Value) → Prop
  | [], l => l = []
  | x :: xs, l => ∃ y ys, l = y :: ys ∧ x.1 = y.1 ∧ VR ρ x.2 y.2 ∧ PRs ρ xs ys
theorem opdps_sim {ρ : Ren} {ev : Operand → Option AV} {ec : Operand → Value} (he : ∀ x v, ev x = some v → VR ρ v (ec x)) : ∀ {l : List (Nat × Operand)} {vs : List (Nat × AV)}, opdps ev l = some vs → PRs ρ vs (l.map fun (i, x) => (i, ec x))
  | [], vs, h => by simp only [opdps] at h; injection h with h; subst h; simp only [PRs, List.map_nil]
  | (i, x) :: l, vs, h => by
    simp only [opdps] at h
    cases e : ev x with
    | none => rw [e] at h; cases h
    | some y =>
      simp only [e] at h
      cases e2 : opdps ev l with
      | none => simp only [e2] at h; cases h
      | some r =>
        simp only [e2] at h; injection h with h; subst h
        simp only [PRs, List.map_cons]; exact ⟨_, _, rfl, rfl, he x y e, opdps_sim he e2⟩
theorem fill_sim {ρ : Ren} {place : Nat → Option (Nat × Nat)} : ∀ {ps : List (Nat × AV)} {qs : List (Nat × Value)} {cs l : List AV} {ds : Array Value}, PRs ρ ps qs → VRs ρ cs ds.toList → fillIn place cs ps = some l →
    ∃ es, Instr.fill place ds qs = some es ∧ VRs ρ l es.toList
  | [], qs, cs, l, ds, h, k, e => by
    simp only [PRs] at h; subst h
    simp only [fillIn] at e; injection e with e; subst e
    exact ⟨ds, rfl, k⟩
  | (i, v) :: ps, qs, cs, l, ds, h, k, e => by
    simp only [PRs] at h
    obtain ⟨⟨i', v'⟩, ys, rfl, hi, hv, hr⟩ := h
    simp only at hi hv; subst hi
    simp only [fillIn] at e
    cases e1 : place i with
    | none => simp only [e1] at e; cases e
    | some p =>
      obtain ⟨off, size⟩ := p
      simp only [e1] at e
      cases e2 : (Nat.beq v.cells.length size && Nat.ble (off + v.cells.length) cs.length) with
      | false => simp only [e2] at e; cases e
      | true =>
        simp only [e2] at e
        obtain ⟨a, b⟩ := and_true.1 e2
        have a := beqN_true.1 a; have b := ble_true.1 b
        have hc := hv.cells
        have l1 := hc.length
        have l2 := k.length
        simp only [Array.length_toList] at l1 l2
        have hset : VRs ρ (setCells cs v.cells off) (v'.cells.zipIdx.foldl (fun (cs : Array Value) (x : Value × Nat) => cs.setIfInBounds (off + x.2) x.1) ds).toList := by
          rw [← Array.foldl_toList, Array.toList_zipIdx, foldl_set off _ 0 ds]
          exact setCells_sim hc k
        obtain ⟨es, g1, g2⟩ := fill_sim hr hset e
        refine ⟨es, ?_, g2⟩
        simp only [Instr.fill, e1]
        rw [if_neg (by simp; omega)]
        exact g1
theorem placesT_sim {P : Program} : ∀ {fs : List Field} {pl : List (Nat × Nat)}, placesT P fs = some pl → fs.mapM (fun f => (P.info? f.type).map fun i => (f.offset, i.size)) = some pl
  | [], pl, h => by simp only [placesT] at h; injection h with h; subst h; rfl
  | f :: fs, pl, h => by
    simp only [placesT, sizeT] at h
    cases e : P.info? f.type with
    | none => simp only [e] at h; cases h
    | some i =>
      simp only [e] at h
      cases e2 : placesT P fs with
      | none => simp only [e2] at h; cases h
      | some r =>
        simp only [e2] at h; injection h with h; subst h
        simp [List.mapM_cons, e, placesT_sim e2]
theorem zero_cells {P : Program} (ρ : Ren) {t : TypeId} {z : AV} (h : zeroT P t = some z) : ∃ i v, P.info? t = some i ∧ i.zero = some v ∧ VR ρ z v := by
  unfold zeroT at h
  cases e : P.info? t with
  | none => rw [e] at h; cases h
  | some i =>
    simp only [e] at h
    cases e2 : i.zero with
    | none => simp only [e2] at h; cases h
    | some v => simp only [e2] at h; exact ⟨i, v, rfl, e2, ofValue_sim ρ h⟩
section
variable {P : Program} {B : Base} {ρ : Ren} {w : World} {s s1 : AS} {x : AV} {call : Caller} {t : Tr AV} {ev : Operand → Value} {o : Oper}
theorem build_sim {ty : TypeId} {ps : List (Nat × AV)} {qs : List (Nat × Value)} (hp : PRs ρ ps qs) (h : build P ty ps = some x) : ∃ cells, P.built ty qs = some cells ∧ VR ρ x (.agg cells) := by
  unfold build at h
  cases ez : zeroT P ty with
  | none => simp only [ez] at h; cases h
  | some z =>
    obtain ⟨i, v, h1, h2, h3⟩ := zero_cells ρ ez
    simp only [ez] at h
    cases eu : P.underlying ty with
    | none => simp only [eu] at h; cases h
    | some d =>
      cases d <;> simp only [eu] at h <;> first | (cases h; done) | skip
      case array n e =>
        cases ek : sizeT P e with
        | none => simp only [ek] at h; cases h
        | some k =>
          simp only [ek] at h
          cases ef : fillIn (fun i => some (i * k, k)) z.cells ps with
          | none => simp only [ef] at h; cases h
          | some l =>
            simp only [ef] at h; injection h with h; subst h
            obtain ⟨es, g1, g2⟩ := fill_sim hp h3.cells ef
            unfold sizeT at ek
            cases ei : P.info? e with
            | none => rw [ei] at ek; cases ek
            | some ie =>
              simp only [ei] at ek; injection ek with ek; subst ek
              refine ⟨es, ?_, by simp only [VR]; exact ⟨_, rfl, g2⟩⟩
              simp only [Program.built, h1, eu, h2, ei]; exact g1
      case struct fs =>
        cases ek : placesT P fs.toList with
        | none => simp only [ek] at h; cases h
        | some pl =>
          simp only [ek] at h
          cases ef : fillIn (fun i => pl[i]?) z.cells ps with
          | none => simp only [ef] at h; cases h
          | some l =>
            simp only [ef] at h; injection h with h; subst h
            obtain ⟨es, g1, g2⟩ := fill_sim hp h3.cells ef
            refine ⟨es, ?_, by simp only [VR]; exact ⟨_, rfl, g2⟩⟩
            simp only [Program.built, h1, eu, h2, placesT_sim ek]
            simpa using g1
theorem sim_kBuild {ty : TypeId} {parts : Array (Nat × Operand)} (he : ∀ x v, opd t x = some v → VR ρ v (ev x)) (r : Rel B ρ s.h w) (h : kBuild P ty parts.toList call t s = .ok x s1) (ho : o.op = .build ty parts) : SimOp P B ρ s s1 w x (execOp ev o) := by
  unfold kBuild at h
  obtain ⟨ps, h1, h2⟩ := withO_inv h
  obtain ⟨h3, rfl⟩ := lift_inv h2
  have hp := opdps_sim he h1
  obtain ⟨cells, g1, g2⟩ := build_sim (P := P) hp h3
  refine ⟨ρ, w, .value (.agg cells), Ext.refl _ _ _, ?_, g2, r, Bel.refl _ _⟩
  have g1' : P.built ty (parts.map fun (i, x) => (i, ev x)).toList = some cells := by rw [Array.toList_map]; exact g1
  simp only [execOp, ho, Sem.run_bind, run_build w ty _ cells g1', Result.andThen_ok]
  rfl
theorem repeatTo_sim {z : List AV} {vs : List Value} (h : VRs ρ z vs) : ∀ n, VRs ρ (repeatTo n z) (List.replicate n vs).flatten
  | 0 => by simp [repeatTo, VRs]
  | n + 1 => by simp only [repeatTo, List.replicate_succ, List.flatten_cons]; exact h.append (repeatTo_sim h n)
theorem repeat_get {vs : List Value} : ∀ (n i : Nat), i < n * vs.length → (List.replicate n vs).flatten[i]? = vs[i % vs.length]?
  | 0, i, h => by omega
  | n + 1, i, h => by
    rw [List.replicate_succ, List.flatten_cons]
    by_cases q : i < vs.length
    · rw [List.getElem?_append_left q, Nat.mod_eq_of_lt q]
    · have hs : (n + 1) * vs.length = n * vs.length + vs.length := by rw [Nat.succ_mul]
      rw [List.getElem?_append_right (by omega), repeat_get n _ (by omega)]
      rw [← Nat.mod_eq_sub_mod (by omega)]
theorem pattern_eq {zs : Array Value} {n : Nat} : (Array.range (n * zs.size)).map (fun i => zs[i % zs.size]!) = (List.replicate n zs.toList).flatten.toArray := by
  apply Array.ext_getElem?
  intro i
  have hlen : (List.replicate n zs.toList).flatten.length = n * zs.size := by simp
  by_cases q : i < n * zs.size
  · have hz : 0 < zs.size := by
      rcases Nat.eq_zero_or_pos zs.size with h0 | h0
      · rw [h0] at q; omega
      · exact h0
    have hm : i % zs.size < zs.size := Nat.mod_lt _ hz
    have hr : (List.replicate n zs.toList).flatten.toArray[i]? = zs.toList[i % zs.toList.length]? := by
      rw [List.getElem?_toArray]; exact repeat_get n i (by rw [Array.length_toList]; exact q)
    rw [hr]
    simp [q, getElem!_pos zs (i % zs.size) hm, Array.getElem?_eq_getElem hm]
  · have hr : (List.replicate n zs.toList).flatten.toArray[i]? = none := by
      rw [List.getElem?_toArray]; exact List.getElem?_eq_none (by rw [hlen]; omega)
    rw [hr, Array.getElem?_eq_none (by simp; omega)]
theorem buildSlice_sim {ty : TypeId} {len : Nat} {ps : List (Nat × AV)} {qs : Array (Nat × Value)} (hp : PRs ρ ps qs.toList) (r : Rel B ρ s.h w) (hf : Free s.nx s1.nx ρ) (h : buildSlice P ty len ps s = .ok x s1) :
    SimV P B ρ s s1 w x (Instr.buildSlice ty len qs) := by
  unfold buildSlice at h
  cases eu : P.underlying ty with
  | none => simp only [eu] at h; cases h
  | some d =>
    cases d <;> simp only [eu] at h <;> first | (cases h; done) | skip
    rename_i e
    simp only [bind_eq, pure_eq] at h
    obtain ⟨k, s2, h1, h2⟩ := M.bind_inv h
    obtain ⟨h1', rfl⟩ := lift_inv h1
    obtain ⟨z, s3, h3, h4⟩ := M.bind_inv h2
    obtain ⟨h3', rfl⟩ := lift_inv h3
    obtain ⟨u, s4, h5, h6⟩ := M.bind_inv h4
    have h5' : (Nat.ble (len * k) 1048576 && Nat.beq z.cells.length k) = true ∧ s4 = s3 := by
      cases hb : (Nat.ble (len * k) 1048576 && Nat.beq z.cells.length k) with
      | false => rw [hb] at h5; cases h5
      | true => rw [hb] at h5; cases h5; exact ⟨rfl, rfl⟩
    obtain ⟨h5', rfl⟩ := h5'
    obtain ⟨l, s5, h7, h8⟩ := M.bind_inv h6
    obtain ⟨h7', rfl⟩ := lift_inv h7
    obtain ⟨n, s6, h9, h10⟩ := M.bind_inv h8
    obtain ⟨rfl, rfl⟩ := pure_inv h10
    obtain ⟨a, b⟩ := and_true.1 h5'
    have a := ble_true.1 a; have b := beqN_true.1 b
    obtain ⟨vz, g1, g2⟩ := run_zero_of (P := P) (w := w) ρ h3'
    have hlen := g2.cells.length
    simp only [Array.length_toList] at hlen
    have hcells : (Array.range (len * k)).map (fun i => (if len * k = 0 then (#[] : Array Value) else vz.cells)[i % (if len * k = 0 then (#[] : Array Value) else vz.cells).size]!) = (List.replicate len vz.cells.toList).flatten.toArray := by
      by_cases q : len * k = 0
      · rw [q]
        have : (List.replicate len vz.cells.toList).flatten = [] := by
          apply List.length_eq_zero_iff.1
          have e1 : (List.replicate len vz.cells.toList).flatten.length = len * vz.cells.size := by simp
          rw [e1, ← hlen, b]; exact q
        simp [this]
      · simp only [if_neg q]
        have : k = vz.cells.size := by omega
        subst this
        exact pattern_eq
    obtain ⟨es, f1, f2⟩ := fill_sim (ds := (List.replicate len vz.cells.toList).flatten.toArray) hp (by simpa using repeatTo_sim g2.cells len) h7'
    obtain ⟨rfl, n1, σ, e1, e2, e3, e4⟩ := newRow_sim (P := P) e [] r hf h9 f2
    refine ⟨σ, _, .slice (some ⟨w.heap.size, 0, none⟩) len len, e1, ?_, ?_, e4, (Grew.alloc w _).below r.size⟩
    · have hes : (es.toList ++ []).toArray = es := by simp
      rw [hes] at e3 e4 ⊢
      have hgt : ¬ (len * k > 2 ^ 24) := by omega
      simp only [Instr.buildSlice, Sem.run_bind, run_underlying_of eu, Result.andThen_ok, run_size_of h1']
      rw [if_neg hgt]
      by_cases q : len * k = 0
      · rw [if_pos q]
        simp only [if_pos q] at hcells
        simp only [Sem.run_bind, Sem.run_pure, Result.andThen_ok, hcells, f1, e3]
      · rw [if_neg q]
        simp only [if_neg q] at hcells
        simp only [Sem.run_bind, Sem.run_pure, Result.andThen_ok, g1, hcells, f1, e3]
    · simp only [VR]; exact ⟨_, _, e2, rfl⟩
theorem sim_kBuildSlice {ty : TypeId} {len : Nat} {parts : Array (Nat × Operand)} (he : ∀ x v, opd t x = some v → VR ρ v (ev x)) (r : Rel B ρ s.h w) (hf : Free s.nx s1.nx ρ) (h : kBuildSlice P ty len parts.toList call t s = .ok x s1) (ho : o.op = .buildSlice ty len parts) : SimOp P B ρ s s1 w x (execOp ev o) := by
  unfold kBuildSlice at h
  obtain ⟨ps, h1, h2⟩ := withO_inv h
  have hp : PRs ρ ps (parts.map fun (i, x) => (i, ev x)).toList := by rw [Array.toList_map]; exact opdps_sim he h1
  have := (buildSlice_sim (P := P) hp r hf h2).op
  simpa only [execOp, ho] using this
end
end Go.Rn

namespace Go.Rn
open Go.RowKit
section
variable {P : Program} {B : Base} {ρ : Ren} {w : World} {s s1 : AS} {x : AV} {call : Caller} {t : Tr AV} {ev : Operand → Value} {o : Oper}
theorem partT_sim {ty : TypeId} {cs : List AV} {ds : Array Value} {off : Nat} (hc : VRs ρ cs ds.toList) (h : partT P ty cs off = some x) : ∃ v, (part ty ds off).run P w = .ok v w ∧ VR ρ x v := by
  unfold partT at h
  cases ea : aggT P ty with
  | none => simp only [ea] at h; cases h
  | some b =>
    simp only [ea] at h
    cases b with
    | true =>
      cases ek : sizeT P ty with
      | none => simp only [ek] at h; cases h
      | some k =>
        simp only [ek] at h; injection h with h; subst h
        refine ⟨.agg (ds.extract off (off + k)), ?_, ?_⟩
        · simp [part, run_isAgg_of ea, run_size_of ek]
        · simp only [VR]
          refine ⟨_, rfl, ?_⟩
          have : (ds.extract off (off + k)).toList = (ds.toList.drop off).take k := by simp [List.extract]
          rw [this]; exact (hc.drop off).take k
    | false =>
      obtain ⟨v, hv, hr⟩ := hc.get off x h
      refine ⟨v, ?_, hr⟩
      have hv' : ds[off]? = some v := by simpa using hv
      simp [part, run_isAgg_of ea, hv']
theorem bytes_beq (a b : ByteArray) : (a == b) = (a.toList == b.toList) := beq_toListBytes a b
theorem eqFields_sim {d : Nat} {eq : TypeId → AV → AV → Option Bool} (he : ∀ ty a b c v u, eq ty a b = some c → VR ρ a v → VR ρ b u → (Op.equalIn d ty v u).run P w = .ok c w)
    {xs ys : List AV} {cs ds : Array Value} (hx : VRs ρ xs cs.toList) (hy : VRs ρ ys ds.toList) : ∀ {fs : List Field} {b : Bool}, eqFields P eq xs ys fs = some b → (Op.eqFields d cs ds fs).run P w = .ok b w
  | [], b, h => by simp only [eqFields] at h; injection h with h; subst h; rfl
  | f :: fs, b, h => by
    simp only [eqFields] at h
    cases en : (f.name == "_") with
    | true =>
      simp only [en] at h
      have : ¬ (f.name ≠ "_") := by simpa using en
      rw [Op.eqFields, if_neg this]
      exact eqFields_sim he hx hy h
    | false =>
      simp only [en] at h
      have hne : f.name ≠ "_" := by intro e; rw [e] at en; simp at en
      rw [Op.eqFields, if_pos hne]
      cases e1 : partT P f.type xs f.offset with
      | none => simp only [e1] at h; cases h
      | some a =>
        cases e2 : partT P f.type ys f.offset with
        | none => simp only [e1, e2] at h; cases h
        | some c =>
          simp only [e1, e2] at h
          obtain ⟨v, g1, g2⟩ := partT_sim (w := w) hx e1
          obtain ⟨u, g3, g4⟩ := partT_sim (w := w) hy e2
          cases e3 : eq f.type a c with
          | none => simp only [e3] at h; cases h
          | some q =>
            simp only [e3] at h
            have g5 := he _ _ _ _ _ _ e3 g2 g4
            cases q with
            | false => injection h with h; subst h; simp [g1, g3, g5]
            | true => simp only [] at h; simp [g1, g3, g5, eqFields_sim he hx hy h]
theorem eqCells_sim {d : Nat} {eq : TypeId → AV → AV → Option Bool} (he : ∀ ty a b c v u, eq ty a b = some c → VR ρ a v → VR ρ b u → (Op.equalIn d ty v u).run P w = .ok c w)
    {ty : TypeId} {k : Nat} {xs ys : List AV} {cs ds : Array Value} (hx : VRs ρ xs cs.toList) (hy : VRs ρ ys ds.toList) : ∀ {n i : Nat} {b : Bool}, eqCells P eq ty k xs ys n i = some b →
    ((forIn (List.range' i n 1) (none, PUnit.unit) (fun j (_ : Option Bool × PUnit) => do
        let a ← part ty cs (j * k)
        let c ← part ty ds (j * k)
        let r ← Op.equalIn d ty a c
        if (!r) = true then pure (ForInStep.done (some false, PUnit.unit)) else pure (ForInStep.yield (none, PUnit.unit)))) : Sem (Option Bool × PUnit)).run P w = .ok (if b then none else some false, PUnit.unit) w
  | 0, i, b, h => by simp only [eqCells] at h; injection h with h; subst h; rfl
  | n + 1, i, b, h => by
    simp only [eqCells] at h
    cases e1 : partT P ty xs (i * k) with
    | none => simp only [e1] at h; cases h
    | some a =>
      cases e2 : partT P ty ys (i * k) with
      | none => simp only [e1, e2] at h; cases h
      | some c =>
        simp only [e1, e2] at h
        obtain ⟨v, g1, g2⟩ := partT_sim (w := w) hx e1
        obtain ⟨u, g3, g4⟩ := partT_sim (w := w) hy e2
        cases e3 : eq ty a c with
        | none => simp only [e3] at h; cases h
        | some q =>
          simp only [e3] at h
          have g5 := he _ _ _ _ _ _ e3 g2 g4
          rw [List.range'_succ, List.forIn_cons]
          cases q with
          | false => injection h with h; subst h; simp [g1, g3, g5]
          | true =>
            have ih := eqCells_sim he hx hy (n := n) (i := i + 1) h
            simp only [Sem.run_bind, g1, Result.andThen_ok, g3, g5, Bool.not_true, Bool.false_eq_true, if_false, Sem.run_pure]
            exact ih
theorem eqT_sim : ∀ {d : Nat} {ty : TypeId} {a b : AV} {c : Bool} {v u : Value}, eqT P d ty a b = some c → VR ρ a v → VR ρ b u → (Op.equalIn d ty v u).run P w = .ok c w
  | 0, _, _, _, _, _, _, h, _, _ => by simp only [eqT] at h; cases h
  | d + 1, ty, a, b, c, v, u, h, ha, hb => by
    simp only [eqT] at h
    split at h <;> first | (cases h; done) | skip
    · rename_i p q eu
      injection h with h; subst h; simp only [VR] at ha hb; subst ha; subst hb
      simp [Op.equalIn, run_underlying_of eu]
    · rename_i k0 k p k' q eu
      simp only [VR] at ha hb; subst ha; subst hb
      cases hk : decide (k = k') with
      | false => rw [hk] at h; cases h
      | true => rw [hk] at h; injection h with h; subst h; simp [Op.equalIn, run_underlying_of eu, of_decide_eq_true hk]
    · rename_i p q eu
      injection h with h; subst h; simp only [VR] at ha hb; subst ha; subst hb
      simp [Op.equalIn, run_underlying_of eu]
    · rename_i e q eu
      injection h with h; subst h; simp only [VR] at ha; subst ha
      cases q with
      | none => simp only [VR] at hb; subst hb; simp [Op.equalIn, run_underlying_of eu]
      | some q => obtain ⟨n, i⟩ := q; simp only [VR] at hb; obtain ⟨_, _, _, rfl⟩ := hb; simp [Op.equalIn, run_underlying_of eu]
    · rename_i e q eu
      injection h with h; subst h; simp only [VR] at hb; subst hb
      obtain ⟨n, i⟩ := q; simp only [VR] at ha; obtain ⟨_, _, _, rfl⟩ := ha; simp [Op.equalIn, run_underlying_of eu]
    · rename_i ms eu
      injection h with h; subst h; simp only [VR] at ha hb; subst ha; subst hb; simp [Op.equalIn, run_underlying_of eu]
    · rename_i ms t1 v1 eu
      injection h with h; subst h; simp only [VR] at ha hb; subst ha; obtain ⟨_, rfl, _⟩ := hb; simp [Op.equalIn, run_underlying_of eu]
    · rename_i ms t1 v1 eu
      injection h with h; subst h; simp only [VR] at ha hb; subst hb; obtain ⟨_, rfl, _⟩ := ha; simp [Op.equalIn, run_underlying_of eu]
    · rename_i fs xs ys eu
      cases hs : P.stoodInHeld ty with
      | true => rw [hs] at h; cases h
      | false =>
        rw [hs] at h
        simp only [VR] at ha hb
        obtain ⟨cs, rfl, hx⟩ := ha
        obtain ⟨ds, rfl, hy⟩ := hb
        have hf : P.fieldsOf ty = fs := by simp [Program.fieldsOf, eu]
        rw [run_equalIn_struct w d ty cs ds (by rw [hf]; exact eu) hs, hf]
        exact eqFields_sim (fun ty a b c v u e p q => eqT_sim e p q) hx hy h
    · rename_i n e xs ys eu
      cases ek : sizeT P e with
      | none => simp only [ek] at h; cases h
      | some k =>
        simp only [ek] at h
        simp only [VR] at ha hb
        obtain ⟨cs, rfl, hx⟩ := ha
        obtain ⟨ds, rfl, hy⟩ := hb
        have := eqCells_sim (P := P) (w := w) (d := d) (fun ty a b c v u e p q => eqT_sim e p q) (ty := e) (k := k) hx hy (n := n) (i := 0) h
        simp only [Op.equalIn, Sem.run_bind, run_underlying_of eu, Result.andThen_ok, run_size_of ek]
        rw [Std.Legacy.Range.forIn_eq_forIn_range']
        simp only [Std.Legacy.Range.size, Nat.sub_zero, Nat.add_sub_cancel, Nat.div_one]
        rw [this]
        cases c <;> rfl
    · rename_i e l1 c1 q l2 c2 eu
      injection h with h; subst h
      have : ∃ k l, v = .slice none k l := by cases c1 <;> simp only [VR] at ha; exact ⟨_, _, ha.1⟩
      obtain ⟨_, _, rfl⟩ := this
      cases q with
      | none =>
        have : ∃ k l, u = .slice none k l := by cases c2 <;> simp only [VR] at hb; exact ⟨_, _, hb.1⟩
        obtain ⟨_, _, rfl⟩ := this
        simp [Op.equalIn, run_underlying_of eu]
      | some q =>
        obtain ⟨n, i⟩ := q
        have : ∃ p k l, u = .slice (some p) k l := by
          cases c2 <;> simp only [VR] at hb
          · obtain ⟨_, _, _, rfl⟩ := hb; exact ⟨_, _, _, rfl⟩
          · obtain ⟨_, _, _, _, rfl, _⟩ := hb; exact ⟨_, _, _, rfl⟩
          · obtain ⟨_, _, _, _, _, _, rfl⟩ := hb; exact ⟨_, _, _, rfl⟩
        obtain ⟨_, _, _, rfl⟩ := this
        simp [Op.equalIn, run_underlying_of eu]
    · rename_i e q l1 c1 l2 c2 eu
      injection h with h; subst h
      have : ∃ k l, u = .slice none k l := by cases c2 <;> simp only [VR] at hb; exact ⟨_, _, hb.1⟩
      obtain ⟨_, _, rfl⟩ := this
      obtain ⟨n, i⟩ := q
      have : ∃ p k l, v = .slice (some p) k l := by
        cases c1 <;> simp only [VR] at ha
        · obtain ⟨_, _, _, rfl⟩ := ha; exact ⟨_, _, _, rfl⟩
        · obtain ⟨_, _, _, _, rfl, _⟩ := ha; exact ⟨_, _, _, rfl⟩
        · obtain ⟨_, _, _, _, _, _, rfl⟩ := ha; exact ⟨_, _, _, rfl⟩
      obtain ⟨_, _, _, rfl⟩ := this
      simp [Op.equalIn, run_underlying_of eu]
    · rename_i k0 e0 q eu
      injection h with h; subst h; simp only [VR] at ha; subst ha
      cases q with
      | none => simp only [VR] at hb; subst hb; simp [Op.equalIn, run_underlying_of eu]
      | some q => simp only [VR] at hb; obtain ⟨_, _, _, rfl⟩ := hb; simp [Op.equalIn, run_underlying_of eu]
    · rename_i k0 e0 q eu
      injection h with h; subst h; simp only [VR] at ha hb; subst hb; obtain ⟨_, _, _, rfl⟩ := ha; simp [Op.equalIn, run_underlying_of eu]
    · rename_i p0 r0 v0 eu
      injection h with h; subst h; simp only [VR] at ha hb; subst ha; subst hb; simp [Op.equalIn, run_underlying_of eu]
    · rename_i p0 r0 v0 f1 c1 c2 eu
      injection h with h; subst h; simp only [VR] at ha hb; subst ha; obtain ⟨_, _, _, rfl, _⟩ := hb; simp [Op.equalIn, run_underlying_of eu]
    · rename_i p0 r0 v0 f1 c1 c2 eu
      injection h with h; subst h; simp only [VR] at ha hb; subst hb; obtain ⟨_, _, _, rfl, _⟩ := ha; simp [Op.equalIn, run_underlying_of eu]
theorem intOp_sim {op : BinOp} {k : IntKind} {a b : Int} (hs : isShift op = false) (h : intOp op k a b = some x) : ∃ v, (binOp op 0 (.int k a) (.int k b)).run P w = .ok v w ∧ VR ρ x v ∧ ∀ ty, binOp op ty (.int k a) (.int k b) = binOp op 0 (.int k a) (.int k b) := by
  cases op <;> simp only [intOp] at h <;> first
    | (cases h; done)
    | (simp [isShift] at hs; done)
    | (injection h with h; subst h; exact ⟨_, by simp [binOp, Op.intArith, Op.intBits, Op.intCmp]; first | rfl | done, by simp [VR], fun _ => rfl⟩)
    | (cases hd : decide (b = 0) with
       | true => rw [hd] at h; cases h
       | false =>
         rw [hd] at h
         injection h with h; subst h
         exact ⟨_, by simp [binOp, Op.intDiv, of_decide_eq_false hd]; first | rfl | done, by simp [VR], fun _ => rfl⟩)
end
end Go.Rn

namespace Go.Rn
open Go.RowKit
section
variable {P : Program} {B : Base} {ρ : Ren} {w : World} {s s1 : AS} {x : AV} {call : Caller} {t : Tr AV} {ev : Operand → Value} {o : Oper}
theorem shiftOp_sim {op : BinOp} {k k' : IntKind} {a b : Int} {ty : TypeId} (hs : isShift op = true) (h : shiftOp op k a b = some x) : ∃ v, (binOp op ty (.int k a) (.int k' b)).run P w = .ok v w ∧ VR ρ x v := by
  unfold shiftOp at h
  cases hd : decide (b < 0) with
  | true => rw [hd] at h; cases h
  | false =>
    rw [hd] at h
    have hn := of_decide_eq_false hd
    cases op <;> simp only [isShift] at hs <;> first | (cases hs; done) | skip
    · injection h with h; subst h; exact ⟨_, by simp [binOp, Op.shift, hn]; first | rfl | done, by simp [VR]⟩
    · injection h with h; subst h; exact ⟨_, by simp [binOp, Op.shift, hn]; first | rfl | done, by simp [VR]⟩
theorem strOp_sim {op : BinOp} {a b : ByteArray} {ty : TypeId} (h : strOp op a b = some x) : ∃ v, (binOp op ty (.string a) (.string b)).run P w = .ok v w ∧ VR ρ x v := by
  cases op <;> simp only [strOp] at h <;> first
    | (cases h; done)
    | (injection h with h; subst h; exact ⟨_, by simp [binOp, Op.stringOp]; first | rfl | done, by simp [VR]⟩)
    | skip
  cases hd : Nat.ble (a.size + b.size) room with
  | false => rw [hd] at h; cases h
  | true =>
    rw [hd] at h; injection h with h; subst h
    have hl := ble_true.1 hd
    unfold room at hl
    refine ⟨.string (a ++ b), ?_, by simp [VR]⟩
    have : ¬ (((a.size + b.size : Nat) : Int) > IntKind.i64.max) := by
      have : IntKind.i64.max = 9223372036854775807 := by decide
      rw [this]; omega
    simp only [binOp, Op.stringOp, if_neg this]
    rfl
theorem slice_some {n i len : Nat} {c : Cap} {v : Value} (h : VR ρ (.slice (some (n, i)) len c) v) : ∃ b N q k, ρ n = some (b, N) ∧ v = .slice (some ⟨b, q, none⟩) len k := by
  cases c <;> simp only [VR] at h
  · obtain ⟨b, N, e, rfl⟩ := h; exact ⟨b, N, _, _, e, rfl⟩
  · obtain ⟨b, N, _, e, rfl, _⟩ := h; exact ⟨b, N, _, _, e, rfl⟩
  · obtain ⟨rfl, b, N, _, _, e, rfl⟩ := h; exact ⟨b, N, _, _, e, rfl⟩
theorem slice_none {len : Nat} {c : Cap} {v : Value} (h : VR ρ (.slice none len c) v) : len = 0 ∧ c = .known 0 ∧ v = .slice none 0 0 := by
  cases c <;> simp only [VR] at h
  obtain ⟨rfl, rfl, rfl⟩ := h; exact ⟨rfl, rfl, rfl⟩
theorem eql_eq {d : Nat} {ty : TypeId} {a b : AV} {c : Bool} {v u : Value} (h : eqT P (d + 1) ty a b = some c) (ha : VR ρ a v) (hb : VR ρ b u)
    (n1 : ∀ k p k' q, a = .int k p → b = .int k' q → False) (n2 : ∀ p q, a = .str p → b = .str q → False) :
    binOp .eql ty v u = (do pure (.bool (← Op.equal ty v u))) ∧ binOp .neq ty v u = (do pure (.bool (!(← Op.equal ty v u)))) := by
  simp only [eqT] at h
  split at h <;> first | (cases h; done) | skip
  · simp only [VR] at ha hb; subst ha; subst hb; exact ⟨rfl, rfl⟩
  · exact (n1 _ _ _ _ rfl rfl).elim
  · exact (n2 _ _ rfl rfl).elim
  · rename_i e q eu
    simp only [VR] at ha; subst ha
    cases q with
    | none => simp only [VR] at hb; subst hb; exact ⟨rfl, rfl⟩
    | some q => obtain ⟨n, i⟩ := q; simp only [VR] at hb; obtain ⟨_, _, _, rfl⟩ := hb; exact ⟨rfl, rfl⟩
  · rename_i e q eu
    simp only [VR] at hb; subst hb
    obtain ⟨n, i⟩ := q; simp only [VR] at ha; obtain ⟨_, _, _, rfl⟩ := ha; exact ⟨rfl, rfl⟩
  · simp only [VR] at ha hb; subst ha; subst hb; exact ⟨rfl, rfl⟩
  · simp only [VR] at ha hb; subst ha; obtain ⟨_, rfl, _⟩ := hb; exact ⟨rfl, rfl⟩
  · simp only [VR] at ha hb; subst hb; obtain ⟨_, rfl, _⟩ := ha; exact ⟨rfl, rfl⟩
  · simp only [VR] at ha hb; obtain ⟨_, rfl, _⟩ := ha; obtain ⟨_, rfl, _⟩ := hb; exact ⟨rfl, rfl⟩
  · simp only [VR] at ha hb; obtain ⟨_, rfl, _⟩ := ha; obtain ⟨_, rfl, _⟩ := hb; exact ⟨rfl, rfl⟩
  · rename_i e l1 c1 q l2 c2 eu
    obtain ⟨_, _, rfl⟩ := slice_none ha
    cases q with
    | none => obtain ⟨_, _, rfl⟩ := slice_none hb; exact ⟨rfl, rfl⟩
    | some q => obtain ⟨n, i⟩ := q; obtain ⟨_, _, _, _, _, rfl⟩ := slice_some hb; exact ⟨rfl, rfl⟩
  · rename_i e q l1 c1 l2 c2 eu
    obtain ⟨_, _, rfl⟩ := slice_none hb
    obtain ⟨n, i⟩ := q; obtain ⟨_, _, _, _, _, rfl⟩ := slice_some ha; exact ⟨rfl, rfl⟩
  · rename_i k0 e0 q eu
    simp only [VR] at ha; subst ha
    cases q with
    | none => simp only [VR] at hb; subst hb; exact ⟨rfl, rfl⟩
    | some q => simp only [VR] at hb; obtain ⟨_, _, _, rfl⟩ := hb; exact ⟨rfl, rfl⟩
  · simp only [VR] at ha hb; subst hb; obtain ⟨_, _, _, rfl⟩ := ha; exact ⟨rfl, rfl⟩
  · simp only [VR] at ha hb; subst ha; subst hb; exact ⟨rfl, rfl⟩
  · simp only [VR] at ha hb; subst ha; obtain ⟨_, _, _, rfl, _⟩ := hb; exact ⟨rfl, rfl⟩
  · simp only [VR] at ha hb; subst hb; obtain ⟨_, _, _, rfl, _⟩ := ha; exact ⟨rfl, rfl⟩
theorem binOpT_sim {op : BinOp} {ty : TypeId} {a b : AV} {v u : Value} (h : binOpT P op ty a b = some x) (ha : VR ρ a v) (hb : VR ρ b u) : ∃ r, (binOp op ty v u).run P w = .ok r w ∧ VR ρ x r := by
  unfold binOpT at h
  split at h
  · rename_i k p k' q
    simp only [VR] at ha hb; subst ha; subst hb
    cases hs : isShift op with
    | true => rw [hs] at h; exact shiftOp_sim hs h
    | false =>
      rw [hs] at h
      cases hk : decide (k = k') with
      | false => rw [hk] at h; cases h
      | true =>
        rw [hk] at h
        have := of_decide_eq_true hk; subst this
        obtain ⟨r, h1, h2, h3⟩ := intOp_sim (P := P) (w := w) (ρ := ρ) hs h
        exact ⟨r, by rw [h3]; exact h1, h2⟩
  · simp only [VR] at ha hb; subst ha; subst hb; exact strOp_sim h
  · rename_i n1 n2
    split at h <;> first | (cases h; done) | skip
    · cases e : eqT P Op.maxDepth ty a b with
      | none => rw [e] at h; cases h
      | some c =>
        rw [e] at h; injection h with h; subst h
        have e' : eqT P (9999 + 1) ty a b = some c := e
        have := (eql_eq (P := P) e' ha hb n1 n2).1
        have h2 : (Op.equal ty v u).run P w = .ok c w := eqT_sim e ha hb
        exact ⟨.bool c, by rw [this]; simp [h2], by simp [VR]⟩
    · cases e : eqT P Op.maxDepth ty a b with
      | none => rw [e] at h; cases h
      | some c =>
        rw [e] at h; injection h with h; subst h
        have e' : eqT P (9999 + 1) ty a b = some c := e
        have := (eql_eq (P := P) e' ha hb n1 n2).2
        have h2 : (Op.equal ty v u).run P w = .ok c w := eqT_sim e ha hb
        exact ⟨.bool !c, by rw [this]; simp [h2], by simp [VR]⟩
theorem nil_of {a : AV} (ha : VR ρ a .nilIface) : a = .nilIface := by
  cases a <;> (try simp only [VR] at ha) <;> first | rfl | (cases ha; done) | skip
  · rename_i q; cases q <;> simp only [VR] at ha <;> first | (cases ha; done) | (obtain ⟨_, _, _, e⟩ := ha; cases e)
  · rename_i q l c; cases q with
    | none => obtain ⟨_, _, e⟩ := slice_none ha; cases e
    | some q => obtain ⟨n, i⟩ := q; obtain ⟨_, _, _, _, _, e⟩ := slice_some ha; cases e
  · obtain ⟨_, _, _, _, e, _⟩ := ha; cases e
  · obtain ⟨_, _, _, e⟩ := ha; cases e
  · rename_i q; cases q <;> simp only [VR] at ha <;> first | (cases ha; done) | (obtain ⟨_, _, _, e⟩ := ha; cases e)
  · obtain ⟨_, _, _, e, _⟩ := ha; cases e
  · obtain ⟨_, _, _, e⟩ := ha; cases e
  · obtain ⟨_, e, _⟩ := ha; cases e
  · obtain ⟨_, e, _⟩ := ha; cases e
  · obtain ⟨_, e, _⟩ := ha; cases e
theorem agg_of {a : AV} {cs : Array Value} (ha : VR ρ a (.agg cs)) : ∃ l, a = .agg l := by
  cases a <;> (try simp only [VR] at ha) <;> first | exact ⟨_, rfl⟩ | (cases ha; done) | skip
  · rename_i q; cases q <;> simp only [VR] at ha <;> first | (cases ha; done) | (obtain ⟨_, _, _, e⟩ := ha; cases e)
  · rename_i q l c; cases q with
    | none => obtain ⟨_, _, e⟩ := slice_none ha; cases e
    | some q => obtain ⟨n, i⟩ := q; obtain ⟨_, _, _, _, _, e⟩ := slice_some ha; cases e
  · obtain ⟨_, _, _, _, e, _⟩ := ha; cases e
  · obtain ⟨_, _, _, e⟩ := ha; cases e
  · rename_i q; cases q <;> simp only [VR] at ha <;> first | (cases ha; done) | (obtain ⟨_, _, _, e⟩ := ha; cases e)
  · obtain ⟨_, _, _, e, _⟩ := ha; cases e
  · obtain ⟨_, _, _, e⟩ := ha; cases e
  · obtain ⟨_, e, _⟩ := ha; cases e
  · obtain ⟨_, e, _⟩ := ha; cases e
theorem guard_sim {op : BinOp} {ty : TypeId} {y z : Operand} {a b : AV} {v u : Value} (h : guardOk P op ty y z a b = true) (ha : VR ρ a v) (hb : VR ρ b u) : (eqGuard op ty y z v u).run P w = .ok () w := by
  have key : (op = .eql ∨ op = .neq) → eqGuardOk P ty y z a b = true := by
    rintro (rfl | rfl) <;> exact h
  by_cases hop : op = .eql ∨ op = .neq
  · have hk := key hop
    by_cases h1 : v = .nilIface ∧ u = .nilIface
    · obtain ⟨rfl, rfl⟩ := h1
      have := nil_of ha; subst this
      have := nil_of hb; subst this
      have hc : (isConst y || isConst z) = true := hk
      rcases hop with rfl | rfl <;> (cases y <;> cases z <;> first | (simp [isConst] at hc; done) | rfl)
    · by_cases h2 : (∃ cs, v = .agg cs) ∧ (∃ ds, u = .agg ds)
      · obtain ⟨⟨cs, rfl⟩, ⟨ds, rfl⟩⟩ := h2
        obtain ⟨l, rfl⟩ := agg_of ha
        obtain ⟨m, rfl⟩ := agg_of hb
        have hq : P.eqGuardType P.depth ty = false := by simpa [eqGuardOk] using hk
        exact run_eqGuard_agg w op ty y z cs ds hq
      · rcases hop with rfl | rfl <;> (cases v <;> cases u <;> first | rfl | (exact absurd ⟨rfl, rfl⟩ h1) | (exact absurd ⟨⟨_, rfl⟩, ⟨_, rfl⟩⟩ h2))
  · cases op <;> first | rfl | (exact absurd (.inl rfl) hop) | (exact absurd (.inr rfl) hop)
theorem sim_kBin {op : BinOp} {ty yt : TypeId} {y z : Operand} (he : ∀ x v, opd t x = some v → VR ρ v (ev x)) (r : Rel B ρ s.h w) (h : kBin P op ty y z call t s = .ok x s1) (ho : o.op = .binOp op ty y z yt) : SimOp P B ρ s s1 w x (execOp ev o) := by
  unfold kBin at h
  obtain ⟨a, h1, h2⟩ := withO_inv h
  obtain ⟨b, h3, h4⟩ := withO_inv h2
  obtain ⟨h5, h6⟩ := withB_inv h4
  obtain ⟨h7, rfl⟩ := lift_inv h6
  obtain ⟨q, g1, g2⟩ := binOpT_sim (P := P) (w := w) h7 (he y a h1) (he z b h3)
  have g3 := guard_sim (P := P) (w := w) h5 (he y a h1) (he z b h3)
  refine ⟨ρ, w, .value q, Ext.refl _ _ _, ?_, g2, r, Bel.refl _ _⟩
  simp [execOp, ho, g3, g1]
theorem sim_kUn {op : UnOp} {ty : TypeId} {y : Operand} (he : ∀ x v, opd t x = some v → VR ρ v (ev x)) (r : Rel B ρ s.h w) (h : kUn op y call t s = .ok x s1) (ho : o.op = .unOp op ty y) : SimOp P B ρ s s1 w x (execOp ev o) := by
  unfold kUn at h
  obtain ⟨a, h1, h2⟩ := withO_inv h
  obtain ⟨h3, rfl⟩ := lift_inv h2
  have ha := he y a h1
  have : ∃ q, (Op.unary op (ev y)).run P w = .ok q w ∧ VR ρ x q := by
    unfold unOpT at h3
    split at h3 <;> first | (cases h3; done) | skip
    · rename_i k n
      simp only [VR] at ha; rw [ha]
      injection h3 with h3; subst h3
      exact ⟨_, rfl, by simp [VR]⟩
    · rename_i k n
      simp only [VR] at ha; rw [ha]
      injection h3 with h3; subst h3
      refine ⟨_, rfl, ?_⟩
      cases k <;> simp [VR, IntKind.signed]
    · rename_i c
      simp only [VR] at ha; rw [ha]
      injection h3 with h3; subst h3
      exact ⟨_, rfl, by simp [VR]⟩
  obtain ⟨q, g1, g2⟩ := this
  refine ⟨ρ, w, .value q, Ext.refl _ _ _, ?_, g2, r, Bel.refl _ _⟩
  simp [execOp, ho, g1]
end
end Go.Rn
