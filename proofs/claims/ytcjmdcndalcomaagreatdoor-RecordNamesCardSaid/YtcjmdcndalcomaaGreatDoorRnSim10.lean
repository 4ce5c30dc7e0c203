/- Copies, what is cleared, lengths, the least and the greatest. -/
import Derived.Test.YtcjmdcndalcomaaGreatDoorRnSim9
import Derived.MapKept
namespace Go.Rn
open Go.RowKit

section
variable {P : Program} {B : Nat} {ρ : Ren} {w : World} {s s1 : AS} {x : AV} {call : Caller} {t : Tr AV} {ev : Operand → Value} {o : Oper}

theorem copyTo_sim {ts : Array TypeId} {a b : AV} {va vb : Value} (ha : VR ρ a va) (hb : VR ρ b vb) (fi : Fine s) (r : Rel B ρ s.h w) (h : copyTo P ts a b s = .ok x s1) :
    SimV P B ρ s s1 w x (Builtin.copy_ ts 0 #[va, vb]) := by
  unfold copyTo at h
  obtain ⟨sT, h1, h⟩ := withO_inv h
  cases e1 : P.underlying sT with
  | none => simp only [e1] at h; cases h
  | some d =>
    cases d <;> simp only [e1] at h <;> first | (cases h; done) | skip
    rename_i elem
    cases a <;> simp only at h <;> first | (cases h; done) | skip
    rename_i base len cap _
    obtain ⟨k, h2, h⟩ := withO_inv h
    obtain ⟨n, h3, h⟩ := withO_inv h
    obtain ⟨h4, h⟩ := withB_inv h
    obtain ⟨cells, s2, h5, h⟩ := M.bind_inv h
    obtain ⟨u, s3, h6, h7⟩ := M.bind_inv h
    obtain ⟨rfl, rfl⟩ := pure_inv h7
    have hn := lenOf_sim (P := P) (w := w) hb h3
    obtain ⟨k1, k2, vn, k3, k4⟩ := firstCells_sim (P := P) hb fi r h5
    have fi2 : Fine s2 := (Local.firstCells _ _ _).fine fi h5
    have r2 : Rel B ρ s2.h w := by rw [k1]; exact r
    cases base with
    | none =>
      obtain ⟨_, rfl⟩ := pure_inv h6
      obtain ⟨rfl, hc, rfl⟩ := slice_none ha
      refine ⟨ρ, w, .int .i64 (Nat.min n 0 : Nat), by rw [k2]; exact Ext.refl _ _ _, ?_, by simp only [VR], r2, Below.refl _ _⟩
      simp only [Builtin.copy_, h1, show (#[Value.slice none 0 0, vb] : Array Value)[0]? = some (.slice none 0 0) from rfl, show (#[Value.slice none 0 0, vb] : Array Value)[1]? = some vb from rfl,
        Sem.run_bind, run_underlying_of e1, Result.andThen_ok, hn, run_size_of h2, k3, Sem.run_pure, goInt]
    | some p =>
      obtain ⟨m, i⟩ := p
      have hq : ∃ bb N c, ρ m = some (bb, N) ∧ va = .slice (some ⟨bb, i, none⟩) len c := by
        cases cap with
        | known c => simp only [VR] at ha; obtain ⟨bb, N, e, rfl⟩ := ha; exact ⟨bb, N, c, e, rfl⟩
        | atLeast lo e0 => simp only [VR] at ha; obtain ⟨bb, N, c, e, rfl, _⟩ := ha; exact ⟨bb, N, c, e, rfl⟩
        | lost => cases h4
      obtain ⟨bb, N, c, hm, rfl⟩ := hq
      obtain ⟨g1, w', g2, g3, g4⟩ := writeCells_sim (P := P) fi2 r2 h6 hm k4
      refine ⟨ρ, w', .int .i64 (Nat.min n len : Nat), by rw [g1, k2]; exact Ext.refl _ _ _, ?_, by simp only [VR], g3, g4⟩
      simp only [Builtin.copy_, h1, show (#[Value.slice (some ⟨bb, i, none⟩) len c, vb] : Array Value)[0]? = some (.slice (some ⟨bb, i, none⟩) len c) from rfl, show (#[Value.slice (some ⟨bb, i, none⟩) len c, vb] : Array Value)[1]? = some vb from rfl,
        Sem.run_bind, run_underlying_of e1, Result.andThen_ok, hn, run_size_of h2, k3, Sem.run_pure, goInt, g2]

theorem clearT_sim {ts : Array TypeId} {a : AV} {va : Value} (ha : VR ρ a va) (fi : Fine s) (r : Rel B ρ s.h w) (h : clearT P ts a s = .ok x s1) :
    SimV P B ρ s s1 w x (Builtin.clear_ ts 0 #[va]) := by
  unfold clearT at h
  have h9 := M.bind_inv h
  clear h
  obtain ⟨sT, s0, h0, h⟩ := h9
  obtain ⟨h1, hs0⟩ := lift_inv h0
  clear h0
  subst hs0
  cases e1 : P.underlying sT with
  | none => simp only [e1] at h; cases h
  | some d =>
    cases d <;> simp only [e1] at h <;> first | (cases h; done) | skip
    rename_i elem
    cases a <;> first | (cases h; done) | skip
    rename_i base len cap
    cases base with
    | none =>
      obtain ⟨rfl, rfl⟩ := pure_inv h
      obtain ⟨rfl, hc, rfl⟩ := slice_none ha
      refine ⟨ρ, w, undef, Ext.refl _ _ _, ?_, VR.undef _, r, Below.refl _ _⟩
      simp only [Builtin.clear_, h1, show (#[Value.slice none 0 0] : Array Value)[0]? = some (.slice none 0 0) from rfl, Sem.run_bind, run_underlying_of e1, Result.andThen_ok, Sem.run_pure]
      rfl
    | some p =>
      obtain ⟨m, i⟩ := p
      obtain ⟨_, s2, h2, ha2⟩ := M.bind_inv h
      obtain ⟨z, s3, h3, ha3⟩ := M.bind_inv ha2
      obtain ⟨h4, hs3⟩ := lift_inv h3
      obtain ⟨u, s4, h5, h6⟩ := M.bind_inv ha3
      obtain ⟨rfl, rfl⟩ := pure_inv h6
      have hs : s3 = s0 := by
        rw [hs3]
        cases cap <;> first | (cases h2; done) | (obtain ⟨_, e⟩ := pure_inv (show M.pure () s0 = .ok _ s2 from h2); exact e)
      rw [hs] at h5
      have hq : ∃ bb N c, ρ m = some (bb, N) ∧ va = .slice (some ⟨bb, i, none⟩) len c := by
        cases cap with
        | known c => simp only [VR] at ha; obtain ⟨bb, N, e, rfl⟩ := ha; exact ⟨bb, N, c, e, rfl⟩
        | atLeast lo e0 => simp only [VR] at ha; obtain ⟨bb, N, c, e, rfl, _⟩ := ha; exact ⟨bb, N, c, e, rfl⟩
        | lost => cases h2
      obtain ⟨bb, N, c, hm, rfl⟩ := hq
      obtain ⟨vz, g1, g2⟩ := run_zero_of (P := P) (w := w) ρ h4
      have hrep := repeatTo_sim (ρ := ρ) g2.cells len
      obtain ⟨k1, w', k2, k3, k4⟩ := writeCells_sim (P := P) fi r h5 hm hrep
      refine ⟨ρ, w', undef, by rw [k1]; exact Ext.refl _ _ _, ?_, VR.undef _, k3, k4⟩
      have hpat : (Builtin.zeroCells vz.cells len).toList = (List.replicate len vz.cells.toList).flatten := by
        unfold Builtin.zeroCells; rw [pattern_eq]
      cases len with
      | zero =>
        simp only [List.replicate, List.flatten_nil] at k2
        have k2' : Result.ok () w = Result.ok () w' := k2
        injection k2' with _ k2'
        simp only [Builtin.clear_, h1, show (#[Value.slice (some ⟨bb, i, none⟩) 0 c] : Array Value)[0]? = some (.slice (some ⟨bb, i, none⟩) 0 c) from rfl, Sem.run_bind, run_underlying_of e1, Result.andThen_ok, Sem.run_pure, k2']
        rfl
      | succ len =>
        simp only [Builtin.clear_, h1, show (#[Value.slice (some ⟨bb, i, none⟩) (len + 1) c] : Array Value)[0]? = some (.slice (some ⟨bb, i, none⟩) (len + 1) c) from rfl, Sem.run_bind, run_underlying_of e1, Result.andThen_ok, Sem.run_pure, g1, hpat, k2]
        rfl

/-- The entries of a map. -/
theorem mapObj_sim {m : Nat} {es : List (AV × AV)} {b N : Nat} (fi : Fine s) (r : Rel B ρ s.h w) (h : mapObj m s = .ok es s1) (hm : ρ m = some (b, N)) :
    s1.h = s.h ∧ s1.nx = s.nx ∧ ∃ l clock, w.heap[b]? = some (.map l clock) ∧ EPs ρ es l.toList ∧ (KeysApart es ∨ EQs ρ es l.toList) := by
  unfold mapObj at h
  obtain ⟨ob, s2, h1, h2⟩ := M.bind_inv h
  obtain ⟨hx, hg, hh, hnx⟩ := rdN_same h1
  have ht : m < top := Nat.lt_of_lt_of_le hx fi.nx
  obtain ⟨o', hb, hO, _⟩ := r.block ht hg hm
  cases ob with
  | map es' clock =>
    obtain ⟨rfl, rfl⟩ := pure_inv h2
    obtain ⟨l, rfl, _, k⟩ := hO
    exact ⟨hh, hnx, l, clock, hb, ⟨_, List.Perm.refl _, k.eqs⟩, .inr k.eqs⟩
  | mapAny es' =>
    obtain ⟨rfl, rfl⟩ := pure_inv h2
    obtain ⟨l, clock, rfl, ka, _, k⟩ := hO
    exact ⟨hh, hnx, l, clock, hb, k, .inl ka⟩
  | _ => cases h2

theorem EQs.length : ∀ {x : List (AV × AV)} {l : List MapEntry}, EQs ρ x l → x.length = l.length
  | [], l, k => by have k' : l = [] := k; subst k'; rfl
  | _ :: _, _, k => by obtain ⟨e, es, rfl, _, _, d⟩ := k; simp [EQs.length d]

theorem lenT_sim {ts : Array TypeId} {a : AV} {va : Value} (ha : VR ρ a va) (fi : Fine s) (r : Rel B ρ s.h w) (h : lenT P ts a s = .ok x s1) :
    SimV P B ρ s s1 w x (Builtin.len_ ts 0 #[va]) := by
  unfold lenT at h
  have h9 := M.bind_inv h
  clear h
  obtain ⟨sT, s0, h0, h⟩ := h9
  obtain ⟨h1, hs0⟩ := lift_inv h0
  clear h0
  subst hs0
  have h0' : (#[va] : Array Value)[0]? = some va := rfl
  cases e1 : P.underlying sT with
  | none => simp only [e1] at h; cases h
  | some d =>
    have fin : ∀ n : Nat, (Builtin.len_ ts 0 #[va]).run P w = .ok (goInt n) w → x = .int .i64 n → s1.h = s0.h → s1.nx = s0.nx → SimV P B ρ s0 s1 w x (Builtin.len_ ts 0 #[va]) := by
      intro n hr hx hh hnx
      subst hx
      exact ⟨ρ, w, _, by rw [hnx]; exact Ext.refl _ _ _, hr, by simp only [VR, goInt], by rw [hh]; exact r, Below.refl _ _⟩
    cases d <;> simp only [e1] at h <;> first | (cases h; done) | skip
    case string =>
      cases a <;> first | (cases h; done) | skip
      obtain ⟨rfl, rfl⟩ := pure_inv h
      simp only [VR] at ha; subst ha
      refine fin _ ?_ rfl rfl rfl
      simp only [Builtin.len_, h1, h0', Sem.run_bind, run_underlying_of e1, Result.andThen_ok, Sem.run_pure]
    case array n e =>
      obtain ⟨rfl, rfl⟩ := pure_inv h
      refine fin _ ?_ rfl rfl rfl
      simp only [Builtin.len_, h1, h0', Sem.run_bind, run_underlying_of e1, Result.andThen_ok, Sem.run_pure]
    case pointer pt =>
      cases e2 : P.underlying pt with
      | none => simp only [e2] at h; cases h
      | some d =>
        cases d <;> simp only [e2] at h <;> first | (cases h; done) | skip
        obtain ⟨rfl, rfl⟩ := pure_inv h
        refine fin _ ?_ rfl rfl rfl
        simp only [Builtin.len_, h1, h0', Sem.run_bind, run_underlying_of e1, run_underlying_of e2, Result.andThen_ok, Sem.run_pure]
    case slice e =>
      cases a <;> first | (cases h; done) | skip
      rename_i base len cap
      obtain ⟨rfl, rfl⟩ := pure_inv h
      have : ∃ p c, va = .slice p len c := by
        cases base with
        | none => obtain ⟨rfl, _, rfl⟩ := slice_none ha; exact ⟨_, _, rfl⟩
        | some p => obtain ⟨m, j⟩ := p; obtain ⟨_, _, _, _, _, rfl⟩ := slice_some ha; exact ⟨_, _, rfl⟩
      obtain ⟨p, c, rfl⟩ := this
      refine fin _ ?_ rfl rfl rfl
      simp only [Builtin.len_, h1, h0', Sem.run_bind, run_underlying_of e1, Result.andThen_ok, Sem.run_pure]
    case map kt et =>
      cases a <;> first | (cases h; done) | skip
      rename_i m
      cases m with
      | none =>
        obtain ⟨rfl, rfl⟩ := pure_inv h
        simp only [VR] at ha; subst ha
        refine fin 0 ?_ rfl rfl rfl
        simp only [Builtin.len_, h1, h0', Sem.run_bind, run_underlying_of e1, Result.andThen_ok, Sem.run_pure]
        rfl
      | some m =>
        obtain ⟨es, s2, h2, h3⟩ := M.bind_inv h
        obtain ⟨rfl, rfl⟩ := pure_inv h3
        simp only [VR] at ha
        obtain ⟨b, N, hm, rfl⟩ := ha
        obtain ⟨g1, g2, l, clock, g3, ⟨l', g4, g5⟩, _⟩ := mapObj_sim fi r h2 hm
        refine fin _ ?_ rfl g1 g2
        have hl : l.size = es.length := by rw [g5.length, ← g4.length_eq]; simp
        simp only [Builtin.len_, h1, h0', Sem.run_bind, run_underlying_of e1, Result.andThen_ok, Sem.run_pure, MapKept.run_getObj_map g3, hl]

theorem fold_sim {f : AV → AV → Option AV} {g : Value → Value → Sem Value} (hf : ∀ a b c va vb, f a b = some c → VR ρ a va → VR ρ b vb → ∃ vc, (g va vb).run P w = .ok vc w ∧ VR ρ c vc) :
    ∀ {l : List AV} {vs : List Value} {a c : AV} {va : Value}, foldAV f l a = some c → VRs ρ l vs → VR ρ a va → ∃ vc, (vs.foldlM g va).run P w = .ok vc w ∧ VR ρ c vc
  | [], vs, a, c, va, h, hl, ha => by
    simp only [VRs] at hl; subst hl
    simp only [foldAV] at h; injection h with h; subst h
    exact ⟨va, rfl, ha⟩
  | y :: l, vs, a, c, va, h, hl, ha => by
    simp only [VRs] at hl; obtain ⟨v, ys, rfl, hv, hl⟩ := hl
    simp only [foldAV] at h
    cases e : f a y with
    | none => rw [e] at h; cases h
    | some z =>
      simp only [e] at h
      obtain ⟨vz, g1, g2⟩ := hf a y z va v e ha hv
      obtain ⟨vc, g3, g4⟩ := fold_sim hf h hl g2
      exact ⟨vc, by simp only [List.foldlM_cons, Sem.run_bind, g1, Result.andThen_ok, g3], g4⟩

theorem min2_sim (a b c : AV) (va vb : Value) (h : min2 a b = some c) (ha : VR ρ a va) (hb : VR ρ b vb) : ∃ vc, (Builtin.min2 va vb).run P w = .ok vc w ∧ VR ρ c vc := by
  unfold min2 at h
  split at h
  · rename_i k x k2 y
    injection h with h; subst h
    simp only [VR] at ha hb; subst ha; subst hb
    refine ⟨_, rfl, ?_⟩
    simp only [VR]
    by_cases q : y < x <;> simp [q]
  · cases h
theorem max2_sim (a b c : AV) (va vb : Value) (h : max2 a b = some c) (ha : VR ρ a va) (hb : VR ρ b vb) : ∃ vc, (Builtin.max2 va vb).run P w = .ok vc w ∧ VR ρ c vc := by
  unfold max2 at h
  split at h
  · rename_i k x k2 y
    injection h with h; subst h
    simp only [VR] at ha hb; subst ha; subst hb
    refine ⟨_, rfl, ?_⟩
    simp only [VR]
    by_cases q : y > x <;> simp [q]
  · cases h

theorem builtinT_sim {b : Builtin} {ts : Array TypeId} {ty : TypeId} {consts : Array Bool} {l : List AV} {vs : Array Value} (hl : VRs ρ l vs.toList) (fi : Fine s) (r : Rel B ρ s.h w) (hf : Free s.nx s1.nx ρ)
    (h : builtinT P b ts l s = .ok x s1) : SimOp P B ρ s s1 w x (Go.builtin b ts ty consts vs) := by
  obtain ⟨vs⟩ := vs
  unfold builtinT at h
  split at h
  · rename_i y
    simp only [VRs] at hl; obtain ⟨v, ys, rfl, hv, rfl⟩ := hl
    exact (lenT_sim hv fi r h).op
  · rename_i y z
    simp only [VRs] at hl; obtain ⟨v, ys, rfl, hv, v2, ys2, rfl, hv2, rfl⟩ := hl
    exact (appendTo_sim hv hv2 fi r hf h).op
  · rename_i y z
    simp only [VRs] at hl; obtain ⟨v, ys, rfl, hv, v2, ys2, rfl, hv2, rfl⟩ := hl
    exact (copyTo_sim hv hv2 fi r h).op
  · rename_i y
    simp only [VRs] at hl; obtain ⟨v, ys, rfl, hv, rfl⟩ := hl
    exact (clearT_sim hv fi r h).op
  · rename_i y z
    simp only [VRs] at hl; obtain ⟨v, ys, rfl, hv, hl⟩ := hl
    obtain ⟨h1, rfl⟩ := lift_inv h
    obtain ⟨vc, g1, g2⟩ := fold_sim (P := P) (w := w) min2_sim h1 hl hv
    exact SimV.op (c := Builtin.min_ ts ty ⟨v :: ys⟩) ⟨ρ, w, vc, Ext.refl _ _ _, g1, g2, r, Below.refl _ _⟩
  · rename_i y z
    simp only [VRs] at hl; obtain ⟨v, ys, rfl, hv, hl⟩ := hl
    obtain ⟨h1, rfl⟩ := lift_inv h
    obtain ⟨vc, g1, g2⟩ := fold_sim (P := P) (w := w) max2_sim h1 hl hv
    exact SimV.op (c := Builtin.max_ ts ty ⟨v :: ys⟩) ⟨ρ, w, vc, Ext.refl _ _ _, g1, g2, r, Below.refl _ _⟩
  · cases h

theorem sim_kBuiltin {b : Builtin} {ts : Array TypeId} {args : Array Operand} (he : ∀ x v, opd t x = some v → VR ρ v (ev x)) (fi : Fine s) (r : Rel B ρ s.h w) (hf : Free s.nx s1.nx ρ)
    (h : kBuiltin P b ts args.toList call t s = .ok x s1) (ho : o.op = .call ⟨.builtin b, args, ts⟩) : SimOp P B ρ s s1 w x (execOp ev o) := by
  unfold kBuiltin at h
  obtain ⟨vs, h1, h2⟩ := withO_inv h
  have hl := opds_sim he h1
  have := builtinT_sim (ty := o.type) (consts := args.map fun | .const _ => true | _ => false) (vs := args.map ev) (by simpa using hl) fi r hf h2
  obtain ⟨σ, w', nv, a1, a2, a3⟩ := this
  refine ⟨σ, w', nv, a1, ?_, a3⟩
  simp only [execOp, ho, resolve, Sem.run_bind, Sem.run_pure, Result.andThen_ok, invoke]
  exact a2
end
end Go.Rn
