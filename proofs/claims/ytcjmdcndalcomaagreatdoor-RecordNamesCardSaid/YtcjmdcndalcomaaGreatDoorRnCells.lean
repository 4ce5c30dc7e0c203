/- Cells that are read, written, and made: names and blocks do the same. -/
import Derived.Test.YtcjmdcndalcomaaGreatDoorRnRel
namespace Go.Rn
open Go.RowKit

theorem rdN_same {n : Nat} {o : AObj} {s s1 : AS} (h : rdN n s = .ok o s1) : n < s.nx ∧ s.h.get n = some o ∧ s1.h = s.h ∧ s1.nx = s.nx := by
  obtain ⟨h1, h2, rfl⟩ := rdN_inv h
  by_cases e : n < s.mark
  · rw [if_pos e]; exact ⟨h1, h2, rfl, rfl⟩
  · rw [if_neg e]; exact ⟨h1, h2, rfl, rfl⟩
theorem wrN_same {n : Nat} {o : Option AObj} {u : Unit} {s s1 : AS} (h : wrN n o s = .ok u s1) :
    n < s.nx ∧ n < top ∧ (∃ p, s.h.get n = some p ∧ p.isRo = false) ∧ s1.h = s.h.put n o ∧ s1.nx = s.nx := by
  obtain ⟨h1, h2, h3, rfl⟩ := wrN_inv h
  by_cases e : n < s.mark
  · rw [if_pos e]; exact ⟨h1, h2, h3, rfl, rfl⟩
  · rw [if_neg e]; exact ⟨h1, h2, h3, rfl, rfl⟩

theorem ble_true {n m : Nat} : Nat.ble n m = true ↔ n ≤ m := by rw [Nat.ble_eq]
theorem beqN_true {n m : Nat} : Nat.beq n m = true ↔ n = m := by rw [Nat.beq_eq]
theorem and_true {a b : Bool} : and a b = true ↔ a = true ∧ b = true := Bool.and_eq_true_iff

theorem gather_some {t : Tr AV} {z : List AV} : ∀ {k off : Nat} {l : List AV}, gather t z k off = some l → l.length = k ∧ ∀ i, i < k → cellAt t z (off + i) = l[i]?
  | 0, off, l, h => by
    simp only [gather] at h; injection h with h; subst h
    exact ⟨rfl, fun i hi => by omega⟩
  | k + 1, off, l, h => by
    simp only [gather] at h
    cases e : cellAt t z off with
    | none => rw [e] at h; cases h
    | some v =>
      simp only [e] at h
      cases e2 : gather t z k (off + 1) with
      | none => simp only [e2] at h; cases h
      | some r =>
        simp only [e2] at h; injection h with h; subst h
        obtain ⟨a, b⟩ := gather_some e2
        refine ⟨by simp [a], fun i hi => ?_⟩
        cases i with
        | zero => simpa using e
        | succ i =>
          have := b i (by omega)
          rw [show off + 1 + i = off + (i + 1) from by omega] at this
          simpa using this

/-- What lies in a row. -/
def Row (ρ : Ren) (c : Array Value) (n : Nat) (at_ : Nat → Option AV) : Prop :=
  ∀ i, i < n → ∃ x v, at_ i = some x ∧ x.oneCell = true ∧ c[i]? = some v ∧ VR ρ x v

theorem Row.get {ρ : Ren} {c : Array Value} {n : Nat} {at_ : Nat → Option AV} (r : Row ρ c n at_) {off k : Nat} {l : List AV} (hk : off + k ≤ n) (hl : l.length = k)
    (h : ∀ i, i < k → at_ (off + i) = l[i]?) :
    ∃ vs : List Value, vs.length = k ∧ VRs ρ l vs ∧ (∀ j v, vs[j]? = some v → c[off + j]? = some v) ∧ ∀ x ∈ l, x.oneCell = true := by
  have cell : ∀ i, i < k → ∃ x v, l[i]? = some x ∧ x.oneCell = true ∧ c[off + i]? = some v ∧ VR ρ x v := by
    intro i hi
    obtain ⟨x, v, h1, h2, h3, h4⟩ := r (off + i) (by omega)
    exact ⟨x, v, by rw [← h i hi]; exact h1, h2, h3, h4⟩
  refine ⟨(List.range k).map (fun i => c.getD (off + i) undef), by simp, ?_, ?_, ?_⟩
  · refine VRs.of_get _ _ (by simp [hl]) (fun i a b ha hb => ?_)
    have hi : i < k := by
      have := List.getElem?_eq_some_iff.1 ha
      obtain ⟨h1, _⟩ := this; omega
    obtain ⟨x, v, h1, h2, h3, h4⟩ := cell i hi
    rw [h1] at ha; cases ha
    have hb' : b = v := by
      rw [List.getElem?_map, List.getElem?_range hi] at hb
      simp only [Option.map_some, Option.some.injEq] at hb
      rw [← hb, Array.getD_eq_getD_getElem?, h3]; rfl
    rw [hb']; exact h4
  · intro j v hv
    have hj : j < k := by
      have := List.getElem?_eq_some_iff.1 hv
      obtain ⟨h1, _⟩ := this; simpa using h1
    obtain ⟨x, u, h1, h2, h3, h4⟩ := cell j hj
    rw [List.getElem?_map, List.getElem?_range hj] at hv
    simp only [Option.map_some, Option.some.injEq] at hv
    rw [← hv, Array.getD_eq_getD_getElem?, h3]; rfl
  · intro x hx
    obtain ⟨i, hi, rfl⟩ := List.getElem_of_mem hx
    obtain ⟨y, v, h1, h2, h3, h4⟩ := cell i (by omega)
    rw [List.getElem?_eq_getElem hi] at h1; cases h1; exact h2

theorem load_row {P : Program} {w : World} {b off : Nat} {c : Array Value} {e : TypeId} {fr : Nat × Nat} {vs : List Value} (hb : w.heap[b]? = some (.cells c e fr))
    (h : ∀ j v, vs[j]? = some v → c[off + j]? = some v) : (loadCells ⟨b, off, none⟩ vs.length).run P w = .ok vs.toArray w := by
  refine run_loadCells_list w ⟨b, off, none⟩ vs (fun j v hv => ?_)
  have hadd : (Addr.mk b off none).add j = ⟨b, off + j, none⟩ := by
    unfold Addr.add
    by_cases q : j = 0
    · subst q; simp
    · rw [if_neg q]
  rw [hadd]
  simp only [World.cell?, hb]
  exact h j v hv

theorem readCells_sim {P : Program} {B : Nat} {ρ : Ren} {w : World} {n off k : Nat} {l : List AV} {s s1 : AS} {b N : Nat} (fi : Fine s) (r : Rel B ρ s.h w)
    (h : readCells n off k s = .ok l s1) (hn : ρ n = some (b, N)) :
    s1.h = s.h ∧ s1.nx = s.nx ∧ l.length = k ∧ (∀ x ∈ l, x.oneCell = true) ∧ ∃ vs : List Value, (loadCells ⟨b, off, none⟩ k).run P w = .ok vs.toArray w ∧ VRs ρ l vs ∧
      ∀ j v, vs[j]? = some v → w.cell? ⟨b, off + j, none⟩ = some v := by
  cases k with
  | zero =>
    have h' : M.pure [] s = .ok l s1 := h
    obtain ⟨rfl, rfl⟩ := pure_inv h'
    exact ⟨rfl, rfl, rfl, fun x hx => (by cases hx), [], rfl, by simp [VRs], fun j v h => (by simp at h)⟩
  | succ k =>
    unfold readCells at h
    obtain ⟨o, s2, h1, h2⟩ := M.bind_inv h
    obtain ⟨hx, hg, hh, hnx⟩ := rdN_same h1
    have ht : n < top := Nat.lt_of_lt_of_le hx fi.nx
    obtain ⟨o', hb, hO, _⟩ := r.block ht hg hn
    cases o with
    | cells m t z =>
      obtain ⟨q1, q2⟩ := withB_inv h2
      obtain ⟨q3, rfl⟩ := lift_inv q2
      obtain ⟨c, e, rfl, hc, hm, row⟩ := hO
      obtain ⟨g1, g2⟩ := gather_some q3
      obtain ⟨vs, v1, v2, v3, v4⟩ := Row.get (ρ := ρ) (c := c) (n := m) (at_ := cellAt t z) row (ble_true.1 q1) g1 g2
      refine ⟨hh, hnx, g1, v4, vs, ?_, v2, fun j v hv => by simp only [World.cell?, hb]; exact v3 j v hv⟩
      have := load_row (P := P) hb v3
      rw [v1] at this; exact this
    | ro m t =>
      obtain ⟨q1, q2⟩ := withB_inv h2
      obtain ⟨q3, rfl⟩ := lift_inv q2
      obtain ⟨c, e, fr, rfl, hc, hm, row⟩ := hO
      obtain ⟨g1, g2⟩ := gather_some q3
      have row' : Row ρ c m (cellAt t []) := by
        intro i hi
        obtain ⟨x, v, a1, a2, a3, a4⟩ := row i hi
        exact ⟨x, v, by unfold cellAt; rw [a1], a2, a3, a4⟩
      obtain ⟨vs, v1, v2, v3, v4⟩ := row'.get (ble_true.1 q1) g1 g2
      refine ⟨hh, hnx, g1, v4, vs, ?_, v2, fun j v hv => by simp only [World.cell?, hb]; exact v3 j v hv⟩
      have := load_row (P := P) hb v3
      rw [v1] at this; exact this
    | _ => cases h2

theorem setRow_only {w : World} {b : Nat} {cs c : Array Value} {e : TypeId} {fr : Nat × Nat} (hb : w.heap[b]? = some (.cells c e fr)) :
    OnlyAt b w (w.setRow b cs) ∧ (w.setRow b cs).heap[b]? = some (.cells cs e fr) := by
  refine ⟨⟨rfl, rfl, rfl, by simp [World.setRow], fun k hk => ?_⟩, setRow_heap w b c cs e fr hb⟩
  simp only [World.setRow, Array.getElem?_modify]
  rw [if_neg (by omega)]

theorem oneCell'_of {ρ : Ren} {x : AV} {v : Value} (h : VR ρ x v) (hx : x.oneCell = true) : v.oneCell' = true := by
  cases v with
  | agg cs => exact absurd rfl (VR.oneCell h hx cs).1
  | tuple cs => exact absurd rfl (VR.oneCell h hx cs).2
  | _ => rfl
theorem oneCells'_of {ρ : Ren} : ∀ {l : List AV} {vs : List Value}, VRs ρ l vs → (∀ x ∈ l, x.oneCell = true) → ∀ v ∈ vs, v.oneCell' = true
  | [], vs, h, _, v, hv => by simp only [VRs] at h; subst h; cases hv
  | x :: l, vs, h, hx, v, hv => by
    simp only [VRs] at h
    obtain ⟨y, ys, rfl, a, b⟩ := h
    rcases List.mem_cons.1 hv with rfl | hv
    · exact oneCell'_of a (hx x List.mem_cons_self)
    · exact oneCells'_of b (fun z hz => hx z (List.mem_cons_of_mem _ hz)) v hv

theorem Row.set {ρ : Ren} {c : Array Value} {n : Nat} {t : Tr AV} {z : List AV} (r : Row ρ c n (cellAt t z)) {off m : Nat} {l : List AV} {vs : List Value} (hl : VRs ρ l vs) (h1 : ∀ x ∈ l, x.oneCell = true)
    (hoff : off ≤ n) (hm : m = max n (off + l.length)) (hc : m ≤ c.size) (ht : m ≤ top) :
    Row ρ ((c.toList.take off ++ vs ++ c.toList.drop (off + vs.length)).toArray) m (cellAt (Tr.fill l off t) z) := by
  have hlen : l.length = vs.length := hl.length
  intro i hi
  have hcat : cellAt (Tr.fill l off t) z i = match (Tr.fill l off t).get i with | some v => some v | none => z[i % z.length]? := rfl
  rw [hcat, Tr.get_fill _ _ _ _ (by omega) (by omega)]
  by_cases q : off ≤ i ∧ i < off + l.length
  · rw [if_pos q]
    obtain ⟨x, hx⟩ : ∃ x, l[i - off]? = some x := ⟨l[i - off]'(by omega), List.getElem?_eq_getElem (by omega)⟩
    obtain ⟨v, hv, hr⟩ := hl.get (i - off) x hx
    refine ⟨x, v, by rw [hx], h1 x (List.mem_of_getElem? hx), ?_, hr⟩
    simp only [List.getElem?_toArray]
    rw [List.append_assoc, List.getElem?_append_right (by simp; omega)]
    simp only [List.length_take, Array.length_toList]
    rw [Nat.min_eq_left (by omega), List.getElem?_append_left (by omega)]
    exact hv
  · rw [if_neg q]
    have hin : i < n := by omega
    obtain ⟨x, v, a1, a2, a3, a4⟩ := r i hin
    refine ⟨x, v, a1, a2, ?_, a4⟩
    simp only [List.getElem?_toArray]
    by_cases q2 : i < off
    · rw [List.append_assoc, List.getElem?_append_left (by simp; omega), List.getElem?_take_of_lt q2]
      simpa using a3
    · rw [List.getElem?_append_right (by simp; omega)]
      simp only [List.length_append, List.length_take, Array.length_toList, List.getElem?_drop]
      rw [Nat.min_eq_left (by omega)]
      rw [show off + vs.length + (i - (off + vs.length)) = i from by omega]
      simpa using a3

theorem size_set {c : Array Value} {vs : List Value} {off : Nat} (h : off + vs.length ≤ c.size) : ((c.toList.take off ++ vs ++ c.toList.drop (off + vs.length)).toArray).size = c.size := by
  simp; omega

theorem store_row {P : Program} {w : World} {b off : Nat} {c : Array Value} {e : TypeId} {vs : List Value} (hb : w.heap[b]? = some (.cells c e (0, 0))) (h : off + vs.length ≤ c.size) (h1 : ∀ v ∈ vs, v.oneCell' = true) :
    (storeCells ⟨b, off, none⟩ vs).run P w = .ok () (w.setRow b (c.toList.take off ++ vs ++ c.toList.drop (off + vs.length)).toArray) := by
  have := run_storeCells_at P b off e vs 0 c w hb (by simpa using h) h1
  simpa using this

theorem writeCells_sim {P : Program} {B : Nat} {ρ : Ren} {w : World} {n off : Nat} {l : List AV} {vs : List Value} {u : Unit} {s s1 : AS} {b N : Nat} (fi : Fine s) (r : Rel B ρ s.h w)
    (h : writeCells n off l s = .ok u s1) (hn : ρ n = some (b, N)) (hl : VRs ρ l vs) :
    s1.nx = s.nx ∧ ∃ w', (storeCells ⟨b, off, none⟩ vs).run P w = .ok () w' ∧ Rel B ρ s1.h w' ∧ Below B w w' := by
  cases l with
  | nil =>
    simp only [VRs] at hl; subst hl
    have h' : M.pure () s = .ok u s1 := h
    obtain ⟨_, rfl⟩ := pure_inv h'
    exact ⟨rfl, w, rfl, r, Below.refl _ _⟩
  | cons x l =>
    unfold writeCells at h
    obtain ⟨o, s2, h1, h2⟩ := M.bind_inv h
    obtain ⟨hx, hg, hh, hnx⟩ := rdN_same h1
    have ht : n < top := Nat.lt_of_lt_of_le hx fi.nx
    obtain ⟨o', hb, hO, hB⟩ := r.block ht hg hn
    cases o with
    | cells m t z =>
      obtain ⟨q1, q2⟩ := withB_inv h2
      obtain ⟨q3, q4⟩ := and_true.1 q1
      obtain ⟨q5, q6⟩ := and_true.1 q4
      obtain ⟨_, _, _, e1, e2⟩ := wrN_same q2
      obtain ⟨c, e, rfl, hc, hm, row⟩ := hO
      have hlen : (x :: l).length = vs.length := hl.length
      have h3 : off + (x :: l).length ≤ m := ble_true.1 q3
      have h4 : m ≤ top := ble_true.1 q5
      have h5 : ∀ y ∈ x :: l, y.oneCell = true := fun y hy => List.all_eq_true.1 q6 y hy
      have hst := store_row (P := P) (off := off) (vs := vs) hb (by omega) (oneCells'_of hl h5)
      obtain ⟨g1, g2⟩ := setRow_only (cs := (c.toList.take off ++ vs ++ c.toList.drop (off + vs.length)).toArray) hb
      refine ⟨by rw [e2, hnx], _, hst, ?_, g1.below (hB rfl)⟩
      rw [e1, hh]
      refine r.put ht hg rfl rfl hn rfl g1 g2 ?_
      refine ⟨_, e, rfl, (size_set (by omega)).trans hc, hm, ?_⟩
      exact Row.set (ρ := ρ) (c := c) (n := m) row hl h5 (by omega) (by omega) (by omega) h4
    | _ => cases h2

theorem cellAt_fill {l : List AV} {i : Nat} (hl : l.length ≤ top) (hi : i < l.length) : cellAt (Tr.fill l 0 .nil) [] i = l[i]? := by
  unfold cellAt
  rw [Tr.get_fill _ _ _ _ (by omega) (by omega), if_pos (by omega)]
  rw [Nat.sub_zero, List.getElem?_eq_getElem hi]

theorem newRow_sim {P : Program} {B : Nat} {ρ : Ren} {w : World} {l : List AV} {vs : List Value} {n : Nat} {s s1 : AS} (e : TypeId) (rest : List Value) (r : Rel B ρ s.h w) (hf : Free s.nx s1.nx ρ)
    (h : newRow l s = .ok n s1) (hl : VRs ρ l vs) :
    n = s.nx ∧ s1.nx = s.nx + 1 ∧ ∃ σ, Ext s.nx s1.nx ρ σ ∧ σ n = some (w.heap.size, vs.length + rest.length) ∧
      (Go.newRow e (vs ++ rest).toArray).run P w = .ok ⟨w.heap.size, 0, none⟩ { w with heap := w.heap.push (.cells (vs ++ rest).toArray e) } ∧
      Rel B σ s1.h { w with heap := w.heap.push (.cells (vs ++ rest).toArray e) } := by
  unfold newRow at h
  obtain ⟨q1, q2⟩ := withB_inv h
  obtain ⟨q3, q4⟩ := and_true.1 q1
  obtain ⟨ht, rfl, rfl⟩ := newN_inv q2
  have h1 : ∀ y ∈ l, y.oneCell = true := fun y hy => List.all_eq_true.1 q4 y hy
  have h2 : l.length ≤ top := ble_true.1 q3
  have hlen := hl.length
  have hnone : ρ s.nx = none := hf s.nx (Nat.le_refl _) (Nat.lt_succ_self _)
  refine ⟨rfl, rfl, updR ρ s.nx (w.heap.size, vs.length + rest.length), Ext.upd hnone, updR_self _ _ _, rfl, ?_⟩
  refine r.new ht hnone rfl ?_
  refine ⟨_, e, rfl, by simp, by omega, fun i hi => ?_⟩
  obtain ⟨x, hx⟩ : ∃ x, l[i]? = some x := ⟨l[i]'hi, List.getElem?_eq_getElem hi⟩
  obtain ⟨v, hv, hr⟩ := hl.get i x hx
  refine ⟨x, v, by rw [cellAt_fill h2 hi]; exact hx, h1 x (List.mem_of_getElem? hx), ?_, hr.mono (updR_le hnone)⟩
  simp only [List.getElem?_toArray]
  rw [List.getElem?_append_left (by omega)]; exact hv
end Go.Rn
