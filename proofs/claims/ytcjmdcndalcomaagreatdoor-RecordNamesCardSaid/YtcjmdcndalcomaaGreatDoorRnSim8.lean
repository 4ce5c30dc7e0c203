/- Appends, copies. -/
import Derived.Test.YtcjmdcndalcomaaGreatDoorRnSim7
namespace Go.Rn
open Go.RowKit

section
variable {P : Program} {B : Nat} {ρ : Ren} {w : World} {s s1 : AS} {x : AV} {call : Caller} {t : Tr AV} {ev : Operand → Value} {o : Oper}

/-- What an append comes to that fits. -/
theorem fit_run {elem : TypeId} {size : Nat} {xv : Value} {base : Option Addr} {len c n : Nat} {xt : Option TypeId} {args : Array TypeId} {sT : TypeId} {new : Array Value} {w' : World}
    (hu : P.underlying sT = some (.slice elem)) (ha0 : args[0]? = some sT) (ha1 : args[1]? = xt) (hx : notInt P xt = true) (hi : sizeT P elem = some size)
    (hn : (Builtin.lenOf xv).run P w = .ok n w) (hle : len + n ≤ c) (hw : (Builtin.firstCells size n xv).run P w = .ok new w)
    (hst : (match base with | some a => storeCells (a.add (len * size)) new.toList | none => pure ()).run P w = .ok () w') :
    (Builtin.append_ args 0 #[.slice base len c, xv]).run P w = .ok (.slice base (len + n) c) w' := by
  have hnone : base = none → w' = w := by
    intro e; subst e
    have hst' : Result.ok () w = .ok () w' := hst
    injection hst' with _ e; exact e.symm
  unfold notInt at hx
  cases xt with
  | none =>
    simp only [Builtin.append_, ha0, ha1]
    simp only [show (#[Value.slice base len c, xv] : Array Value)[0]? = some (.slice base len c) from rfl, show (#[Value.slice base len c, xv] : Array Value)[1]? = some xv from rfl]
    simp only [Sem.run_bind, run_underlying_of hu, Result.andThen_ok, run_size_of hi, Sem.run_pure, Bool.false_eq_true, if_false, hn, if_pos hle, Bool.not_false, if_true, hw]
    cases base with
    | none => simp only [Sem.run_pure, hnone rfl]
    | some a => simp only [Sem.run_bind, show (storeCells (a.add (len * size)) new.toList).run P w = .ok () w' from hst, Result.andThen_ok, Sem.run_pure]
  | some q =>
    simp only at hx
    cases e : P.underlying q with
    | none => rw [e] at hx; cases hx
    | some d =>
      rw [e] at hx
      cases d <;> first
        | (cases hx; done)
        | (simp only [Builtin.append_, ha0, ha1]
           simp only [show (#[Value.slice base len c, xv] : Array Value)[0]? = some (.slice base len c) from rfl, show (#[Value.slice base len c, xv] : Array Value)[1]? = some xv from rfl]
           simp only [Sem.run_bind, run_underlying_of hu, Result.andThen_ok, run_size_of hi, Sem.run_pure, run_underlying_of e, Bool.false_eq_true, if_false, hn, if_pos hle, Bool.not_false, if_true, hw]
           cases base with
           | none => simp only [Sem.run_pure, hnone rfl]
           | some a => simp only [Sem.run_bind, show (storeCells (a.add (len * size)) new.toList).run P w = .ok () w' from hst, Result.andThen_ok, Sem.run_pure])

theorem zeroFits_some {i : TypeInfo} {elem : TypeId} (hi : P.info? elem = some i) (h : zeroFits i = true) : ∃ zv, (∀ w' : World, (zeroValue elem).run P w' = .ok zv w') ∧ zv.cells.size = i.size := by
  unfold zeroFits at h
  cases e : i.zero with
  | none => rw [e] at h; cases h
  | some v => rw [e] at h; exact ⟨v, fun w' => by simp [zeroValue, run_info_of hi, e], beqN_true.1 h⟩

theorem writeMore_sim {n off : Nat} {l : List AV} {vs : List Value} {u : Unit} {b N : Nat} (fi : Fine s) (r : Rel B ρ s.h w) (hN : off + l.length ≤ N)
    (h : writeMore n off l s = .ok u s1) (hn : ρ n = some (b, N)) (hl : VRs ρ l vs) :
    s1.nx = s.nx ∧ ∃ w', (storeCells ⟨b, off, none⟩ vs).run P w = .ok () w' ∧ Rel B ρ s1.h w' ∧ Below B w w' := by
  cases l with
  | nil =>
    simp only [VRs] at hl; subst hl
    have h' : M.pure () s = .ok u s1 := h
    obtain ⟨_, rfl⟩ := pure_inv h'
    exact ⟨rfl, w, rfl, r, Below.refl _ _⟩
  | cons x l =>
    unfold writeMore at h
    obtain ⟨o, s2, h1, h2⟩ := M.bind_inv h
    obtain ⟨hx, hg, hh, hnx⟩ := rdN_same h1
    have ht : n < top := Nat.lt_of_lt_of_le hx fi.nx
    obtain ⟨o', hb, hO, hB⟩ := r.block ht hg hn
    cases o with
    | cells m t z =>
      obtain ⟨q1, q2⟩ := withB_inv h2
      obtain ⟨q3, q4⟩ := and_true.1 q1
      obtain ⟨q5, q6⟩ := and_true.1 q4
      obtain ⟨_, _, _, e1, e2⟩ := wrN_same q2
      obtain ⟨c, e, rfl, hc, hm, row⟩ := hO
      have hlen : (x :: l).length = vs.length := hl.length
      have h3 : off ≤ m := ble_true.1 q3
      have h4 : max m (off + (x :: l).length) ≤ top := ble_true.1 q5
      have h5 : ∀ y ∈ x :: l, y.oneCell = true := fun y hy => List.all_eq_true.1 q6 y hy
      have hst := store_row (P := P) (off := off) (vs := vs) hb (by omega) (oneCells'_of hl h5)
      obtain ⟨g1, g2⟩ := setRow_only (cs := (c.toList.take off ++ vs ++ c.toList.drop (off + vs.length)).toArray) hb
      refine ⟨by rw [e2, hnx], _, hst, ?_, g1.below (hB rfl)⟩
      rw [e1, hh]
      refine r.put ht hg rfl rfl hn rfl g1 g2 ?_
      refine ⟨_, e, rfl, (size_set (by omega)).trans hc, ?_, ?_⟩
      · show max m (off + (x :: l).length) ≤ N
        omega
      · have h6 : max m (off + (x :: l).length) ≤ c.size := by omega
        exact Row.set (ρ := ρ) (c := c) (n := m) row hl h5 h3 rfl h6 h4
    | _ => cases h2

/-- A row that is grown, where it surely is another one. -/
theorem grown_sim {elem sT : TypeId} {i : TypeInfo} {sv xv : Value} {base : Option Addr} {len c n : Nat} {xt : Option TypeId} {args : Array TypeId} {old new : List AV} {vo vn : Array Value}
    (hs : sv = .slice base len c) (hu : P.underlying sT = some (.slice elem)) (ha0 : args[0]? = some sT) (ha1 : args[1]? = xt) (hx : notInt P xt = true) (hi : P.info? elem = some i) (hz : zeroFits i = true)
    (hn : (Builtin.lenOf xv).run P w = .ok n w) (hlt : c < len + n) (r : Rel B ρ s.h w) (hf : Free s.nx s1.nx ρ) (hlo : old.length = len * i.size) (hln : new.length = n * i.size)
    (ho : (Builtin.firstCells i.size len sv).run P { w with drawn := w.drawn + 1 } = .ok vo { w with drawn := w.drawn + 1 }) (hw : (Builtin.firstCells i.size n xv).run P { w with drawn := w.drawn + 1 } = .ok vn { w with drawn := w.drawn + 1 })
    (hvo : VRs ρ old vo.toList) (hvn : VRs ρ new vn.toList) (h : grown i.size i.bytes (len + n) old new s = .ok x s1) : SimV P B ρ s s1 w x (Builtin.append_ args 0 #[sv, xv]) := by
  unfold grown at h
  obtain ⟨h1, h2⟩ := withB_inv h
  obtain ⟨m, s2, h3, h4⟩ := M.bind_inv h2
  obtain ⟨rfl, rfl⟩ := pure_inv h4
  obtain ⟨h5, h6⟩ := and_true.1 h1
  have hroom := ble_true.1 h5
  have hb : i.bytes ≠ 0 := by intro e; rw [e] at h6; simp at h6
  obtain ⟨zv, hz1, hz2⟩ := zeroFits_some (P := P) hi hz
  obtain ⟨rest, nc, g1, g2, g3⟩ := grow_run (P := P) (w := w) hs hu ha0 ha1 hx hi hn hlt hroom hb ho hw hz1
  have r1 : Rel B ρ s.h { w with drawn := w.drawn + 1 } := r.grew (Grew.drew w)
  obtain ⟨rfl, k1, σ, k2, k3, k4, k5⟩ := newRow_sim (P := P) elem rest r1 hf h3 (hvo.append hvn)
  have e : vo.toList ++ vn.toList ++ rest = (vo ++ vn).toList ++ rest := by simp
  refine ⟨σ, _, _, k2, g3, ?_, ?_, (Grew.trans (Grew.drew w) (Grew.alloc _ _)).below r.size⟩
  · simp only [VR]
    refine ⟨_, _, nc, k3, rfl, g1, g1, ?_⟩
    have e1 := hvo.length; have e2 := hvn.length
    simp only [List.length_append]
    rw [← e1, ← e2, hlo, hln, g2, hz2, Nat.zero_add, ← Nat.add_mul, ← Nat.add_mul]
    exact Nat.le_of_eq (by congr 1; omega)
  · rw [e] at k5; exact k5

theorem firstCells_length {size len : Nat} {base : Option (Nat × Nat)} {cap : Cap} {l : List AV} {v : Value} (fi : Fine s) (r : Rel B ρ s.h w) (ha : VR ρ (.slice base len cap) v) (hc : cap ≠ .lost)
    (h : firstCells size len (.slice base len cap) s = .ok l s1) : l.length = len * size := by
  cases base with
  | none =>
    obtain ⟨rfl, rfl, rfl⟩ := slice_none ha
    obtain ⟨rfl, rfl⟩ := pure_inv (show (M.pure [] : M (List AV)) s = .ok l s1 from h)
    simp
  | some p =>
    obtain ⟨m, i⟩ := p
    rw [firstCells_some hc] at h
    obtain ⟨b, N, q, k, hn, rfl⟩ := slice_some ha
    exact (readCells_sim (P := (default : Program)) fi r h hn).2.2.1
end
end Go.Rn
