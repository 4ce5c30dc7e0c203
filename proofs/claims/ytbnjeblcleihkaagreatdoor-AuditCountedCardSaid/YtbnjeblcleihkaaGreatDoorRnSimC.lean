/- Appends, copies, and what is cleared. -/
import Derived.Test.YtbnjeblcleihkaaGreatDoorRnSimB
import Derived.MapKept
namespace Go.Rn
open Go.RowKit
theorem Local.fine {α : Type} {m : M α} (hm : Local m) {s s1 : AS} {v : α} (fi : Fine s) (h : m s = .ok v s1) : Fine s1 := by
  obtain ⟨dr, dw, d, _⟩ := hm s v s1 fi h; exact d.fine fi
theorem Local.le {α : Type} {m : M α} (hm : Local m) {s s1 : AS} {v : α} (fi : Fine s) (h : m s = .ok v s1) : s.nx ≤ s1.nx := by
  obtain ⟨dr, dw, d, _⟩ := hm s v s1 fi h; exact d.nx
section
variable {P : Program} {B : Base} {ρ : Ren} {w : World} {s s1 : AS} {x : AV} {call : Caller} {t : Tr AV} {ev : Operand → Value} {o : Oper}
theorem SimV.nx {s2 : AS} {c : Sem Value} (h : SimV P B ρ s2 s1 w x c) (e : s2.nx = s.nx) : SimV P B ρ s s1 w x c := by
  unfold SimV at h ⊢
  rw [e] at h; exact h
theorem inplace_sim {elem sT : TypeId} {size len c n m b N : Nat} {xv : Value} {xt : Option TypeId} {args : Array TypeId} {old new : List AV} {vn : Array Value} {s2 : AS} {p : AObj} {bytes : Nat} {vo : List Value}
    (hu : P.underlying sT = some (.slice elem)) (ha0 : args[0]? = some sT) (ha1 : args[1]? = xt) (hx : notInt P xt = true) (hi : sizeT P elem = some size)
    (hn : (Builtin.lenOf xv).run P w = .ok n w) (hle : len + n ≤ c) (r : Rel B ρ s.h w) (ht : m < top) (hg : s.h.get m = some p) (hp : p.isCells = true) (hm : ρ m = some (b, N)) (hc : c * size ≤ N)
    (hf : Free s.nx s1.nx ρ) (hlo : old.length = len * size) (hln : new.length = n * size) (hs2 : s2.h = s.h.put m none) (hs3 : s2.nx = s.nx)
    (hw : (Builtin.firstCells size n xv).run P w = .ok vn w) (hold : ∀ j v, vo[j]? = some v → w.cell? ⟨b, 0 + j, none⟩ = some v) (ho : VRs ρ old vo)
    (hvn : VRs ρ new vn.toList) (h : grown size bytes (len + n) old new s2 = .ok x s1) : SimV P B ρ s s1 w x (Builtin.append_ args 0 #[.slice (some ⟨b, 0, none⟩) len c, xv]) := by
  obtain ⟨o', hb, hO, hB⟩ := r.block ht hg hm
  cases p with
  | cells k tr z =>
    obtain ⟨c0, e0, rfl, hc0, hk, row⟩ := hO
    unfold grown at h
    obtain ⟨_, h2⟩ := withB_inv h
    obtain ⟨q, s3, h3, h4⟩ := M.bind_inv h2
    obtain ⟨rfl, rfl⟩ := pure_inv h4
    unfold newRow at h3
    obtain ⟨q1, q2⟩ := withB_inv h3
    obtain ⟨q3, q4⟩ := and_true.1 q1
    obtain ⟨ht2, rfl, rfl⟩ := newN_inv q2
    have hone : ∀ y ∈ old ++ new, y.oneCell = true := fun y hy => List.all_eq_true.1 q4 y hy
    have hlen : (old ++ new).length ≤ top := ble_true.1 q3
    have hvl := hvn.length
    have hol := ho.length
    have hmul : len * size + n * size ≤ c * size := by rw [← Nat.add_mul]; exact Nat.mul_le_mul_right _ hle
    have hfit : len * size + vn.toList.length ≤ c0.size := by omega
    have hst := store_row (P := P) (off := len * size) (vs := vn.toList) hb hfit (oneCells'_of hvn (fun y hy => hone y (List.mem_append_right _ hy)))
    obtain ⟨g1, g2⟩ := setRow_only (cs := (c0.toList.take (len * size) ++ vn.toList ++ c0.toList.drop (len * size + vn.toList.length)).toArray) hb
    have hrun := fit_run (P := P) (w := w) (base := some ⟨b, 0, none⟩) hu ha0 ha1 hx hi hn hle hw (by
      show (storeCells ((Addr.mk b 0 none).add (len * size)) vn.toList).run P w = _
      rw [Addr.add_flat, Nat.zero_add]; exact hst)
    obtain ⟨d1, d2⟩ := r.dropAt ht hg rfl rfl hm g1
    have hnone : ρ s2.nx = none := hf s2.nx (by omega) (Nat.lt_succ_self _)
    refine ⟨updR ρ s2.nx (b, N), _, _, ?_, hrun, ?_, ?_, g1.below (hB rfl)⟩
    · rw [← hs3]; exact Ext.upd hnone
    · simp only [VR]
      exact ⟨b, N, c, updR_self _ _ _, rfl, hle, hle, by omega⟩
    · show Rel B _ (s2.h.put s2.nx (some (.cells (old ++ new).length (Tr.fill (old ++ new) 0 .nil) []))) _
      rw [hs2]
      refine d1.name ht2 hnone rfl g2 (fun _ => hB rfl) (fun k' l' e sh e2 => by
        obtain ⟨_, b1, sh1, c', e', fr, q1, q2, q3, _⟩ := r.fz k' l' e
        rw [e2] at q1; cases q1
        exact q3 m _ N ht hg rfl hm) d2 ?_
      refine ⟨_, e0, rfl, ?_, ?_, fun i hi => ?_⟩
      · exact (size_set hfit).trans hc0
      · simp only [List.length_append]; omega
      · simp only [List.length_append] at hi
        obtain ⟨a, ha⟩ : ∃ a, (old ++ new)[i]? = some a := ⟨(old ++ new)[i]'(by simp; exact hi), List.getElem?_eq_getElem _⟩
        have hcell := cellAt_fill (l := old ++ new) (i := i) hlen (by simp; exact hi)
        obtain ⟨v, hv, hr⟩ := (ho.append hvn).get i a ha
        refine ⟨a, v, by rw [hcell]; exact ha, hone a (List.mem_of_getElem? ha), ?_, hr.mono (updR_le hnone)⟩
        simp only [List.getElem?_toArray]
        by_cases q : i < len * size
        · rw [List.getElem?_append_left (by omega)] at hv
          have := hold i v hv
          simp only [World.cell?, hb, Nat.zero_add] at this
          rw [List.append_assoc, List.getElem?_append_left (by simp; omega), List.getElem?_take_of_lt q]
          simpa using this
        · rw [List.getElem?_append_right (by omega)] at hv
          have hvi : i - vo.length < vn.toList.length := (List.getElem?_eq_some_iff.1 hv).1
          rw [List.append_assoc, List.getElem?_append_right (by simp; omega)]
          simp only [List.length_take, Array.length_toList]
          rw [Nat.min_eq_left (by omega), List.getElem?_append_left (by omega)]
          rw [show i - len * size = i - vo.length from by omega]
          exact hv
  | _ => cases hp
theorem appendTo_sim {ts : Array TypeId} {a b : AV} {va vb : Value} (ha : VR ρ a va) (hb : VR ρ b vb) (fi : Fine s) (r : Rel B ρ s.h w) (hf : Free s.nx s1.nx ρ) (h : appendTo P ts a b s = .ok x s1) :
    SimV P B ρ s s1 w x (Builtin.append_ ts 0 #[va, vb]) := by
  unfold appendTo at h
  obtain ⟨sT, h1, h⟩ := withO_inv h
  cases e1 : P.underlying sT with
  | none => simp only [e1] at h; cases h
  | some d =>
    cases d <;> simp only [e1] at h <;> first | (cases h; done) | skip
    rename_i elem
    cases a <;> simp only at h <;> first | (cases h; done) | skip
    rename_i base len cap _
    obtain ⟨i, h2, h⟩ := withO_inv h
    obtain ⟨h3, h⟩ := withB_inv h
    obtain ⟨hz, hx⟩ := and_true.1 h3
    obtain ⟨n, h4, h⟩ := withO_inv h
    obtain ⟨new, s2, h5, h⟩ := M.bind_inv h
    obtain ⟨h6, h⟩ := withB_inv h
    have hln := beqN_true.1 h6
    have hi : sizeT P elem = some i.size := by simp [sizeT, h2]
    obtain ⟨k1, k2, vn, k3, k4⟩ := firstCells_sim (P := P) hb fi r h5
    have rd : Rel B ρ s.h { w with drawn := w.drawn + 1 } := r.grew (Grew.drew w)
    obtain ⟨_, _, vn', k3', k4'⟩ := firstCells_sim (P := P) hb fi rd h5
    have hn := lenOf_sim (P := P) (w := w) hb h4
    have fi2 : Fine s2 := (Local.firstCells _ _ _).fine fi h5
    have r2 : Rel B ρ s2.h w := by rw [k1]; exact r
    have rd2 : Rel B ρ s2.h { w with drawn := w.drawn + 1 } := by rw [k1]; exact rd
    unfold appendRow at h
    cases cap with
    | lost => cases h
    | known c =>
      simp only at h
      cases q : Nat.ble (len + n) c with
      | true =>
        simp only [q] at h
        have hle := ble_true.1 q
        obtain ⟨u, s3, h7, h8⟩ := M.bind_inv h
        obtain ⟨rfl, rfl⟩ := pure_inv h8
        cases base with
        | none =>
          obtain ⟨rfl, rfl⟩ := pure_inv h7
          obtain ⟨rfl, hc, rfl⟩ := slice_none ha
          cases hc
          have hn0 : n = 0 := by omega
          subst hn0
          refine ⟨ρ, w, _, by rw [k2]; exact Ext.refl _ _ _, fit_run (P := P) (w := w) (base := none) e1 h1 rfl hx hi hn hle k3 rfl, ?_, r2, Bel.refl _ _⟩
          simp [VR]
        | some p =>
          obtain ⟨m, j⟩ := p
          have ha' := ha
          simp only [VR] at ha'
          obtain ⟨bb, N, hm, rfl⟩ := ha'
          obtain ⟨g1, w', g2, g3, g4⟩ := writeCells_sim (P := P) fi2 r2 h7 hm k4
          refine ⟨ρ, w', _, by rw [g1, k2]; exact Ext.refl _ _ _, fit_run (P := P) (w := w) (base := some ⟨bb, j, none⟩) e1 h1 rfl hx hi hn hle k3 (by
            show (storeCells ((Addr.mk bb j none).add (len * i.size)) vn.toList).run P w = _
            rw [Addr.add_flat]; exact g2), ?_, g3, g4⟩
          simp only [VR]; exact ⟨bb, N, hm, rfl⟩
      | false =>
        simp only [q] at h
        have hlt : c < len + n := by
          rcases Nat.lt_or_ge c (len + n) with e | e
          · exact e
          · rw [ble_true.2 e] at q; cases q
        obtain ⟨old, s3, h7, h8⟩ := M.bind_inv h
        obtain ⟨j1, j2, vo, j3, j4⟩ := firstCells_sim (P := P) ha fi2 rd2 h7
        have hol := firstCells_length fi2 r2 ha (by intro e; cases e) h7
        have : ∃ base' : Option Addr, va = .slice base' len c := by
          cases base with
          | none => obtain ⟨rfl, hc, rfl⟩ := slice_none ha; cases hc; exact ⟨_, rfl⟩
          | some p => obtain ⟨m, j⟩ := p; simp only [VR] at ha; obtain ⟨_, _, _, rfl⟩ := ha; exact ⟨_, rfl⟩
        obtain ⟨base', hva⟩ := this
        refine SimV.nx (s2 := s3) (grown_sim (P := P) hva e1 h1 rfl hx h2 hz hn hlt (by rw [j1]; exact r2) (by rw [j2, k2]; exact hf) hol hln j3 k3' j4 k4' h8) (by rw [j2, k2])
    | atLeast lo sz =>
      obtain ⟨h7, h⟩ := withB_inv h
      have := beqN_true.1 h7
      subst this
      cases q : Nat.ble (len + n) lo with
      | true =>
        simp only [q] at h
        have hle := ble_true.1 q
        cases base with
        | none => cases h
        | some p =>
          obtain ⟨m, j⟩ := p
          simp only at h
          obtain ⟨u, s3, h8, h9⟩ := M.bind_inv h
          obtain ⟨rfl, rfl⟩ := pure_inv h9
          have ha' := ha
          simp only [VR] at ha'
          obtain ⟨bb, N, c, hm, rfl, hlo, hlc, hN⟩ := ha'
          have hfit : j + len * i.size + new.length ≤ N := by
            have : (len + n) * i.size ≤ c * i.size := Nat.mul_le_mul_right _ (by omega)
            rw [Nat.add_mul] at this
            omega
          obtain ⟨g1, w', g2, g3, g4⟩ := writeMore_sim (P := P) fi2 r2 hfit h8 hm k4
          refine ⟨ρ, w', _, by rw [g1, k2]; exact Ext.refl _ _ _, fit_run (P := P) (w := w) (base := some ⟨bb, j, none⟩) e1 h1 rfl hx hi hn (by omega) k3 (by
            show (storeCells ((Addr.mk bb j none).add (len * i.size)) vn.toList).run P w = _
            rw [Addr.add_flat]; exact g2), ?_, g3, g4⟩
          simp only [VR]; exact ⟨bb, N, c, hm, rfl, hlo, by omega, hN⟩
      | false =>
        simp only [q] at h
        cases base with
        | none => cases h
        | some p =>
          obtain ⟨m, j⟩ := p
          cases j with
          | succ j => cases h
          | zero =>
            simp only at h
            obtain ⟨old, s3, h8, h⟩ := M.bind_inv h
            obtain ⟨ob, s4, h9, h⟩ := M.bind_inv h
            obtain ⟨h10, h⟩ := withB_inv h
            obtain ⟨u, s5, h11, h12⟩ := M.bind_inv h
            have ha' := ha
            simp only [VR] at ha'
            obtain ⟨bb, N, c, hm, rfl, hlo, hlc, hN⟩ := ha'
            obtain ⟨j1, j2, j3, j4, vo, j5, j6, j7⟩ := readCells_sim (P := P) fi2 r2 h8 hm
            obtain ⟨_, _, _, _, vo', j5', j6', _⟩ := readCells_sim (P := P) fi2 rd2 h8 hm
            obtain ⟨i1, i2, i3, i4⟩ := rdN_same h9
            obtain ⟨i5, i6, i7, i8, i9⟩ := wrN_same h11
            have hh : s4.h = s2.h := i3.trans j1
            have hnx : s4.nx = s.nx := (i4.trans j2).trans k2
            by_cases hq : len + n ≤ c
            · refine SimV.nx (s2 := s2) ?_ k2
              refine inplace_sim (P := P) (s := s2) (s2 := s5) (p := ob) (vo := vo) e1 h1 rfl hx hi hn hq r2 i6 (by rw [← j1]; exact i2) h10 hm (by omega) (by rw [k2]; exact hf) j3 hln (by rw [i8, hh]) (by rw [i9, hnx, k2]) k3 j7 j6 k4 h12
            · have hnl : s4.h.get m ≠ some .lent := by
                intro e
                rw [i3, i2] at e
                injection e with e; subst e; cases h10
              refine SimV.nx (s2 := s5) (grown_sim (P := P) rfl e1 h1 rfl hx h2 hz hn (by omega) (by rw [i8]; exact Rel.drop (by rw [hh]; exact r2) i6 hnl) (by rw [i9, hnx]; exact hf) j3 hln (by simpa [Builtin.firstCells] using j5') k3' (by simpa using j6') k4' h12) (by rw [i9, hnx])
end
end Go.Rn

namespace Go.Rn
open Go.RowKit
section
variable {P : Program} {B : Base} {ρ : Ren} {w : World} {s s1 : AS} {x : AV} {call : Caller} {t : Tr AV} {ev : Operand → Value} {o : Oper}
theorem copyTo_sim {ts : Array TypeId} {a b : AV} {va vb : Value} (ha : VR ρ a va) (hb : VR ρ b vb) (fi : Fine s) (r : Rel B ρ s.h w) (h : copyTo P ts a b s = .ok x s1) :
    SimV P B ρ s s1 w x (Builtin.copy_ ts 0 #[va, vb]) := by
  unfold copyTo at h
  obtain ⟨sT, h1, h⟩ := withO_inv h
  cases e1 : P.underlying sT with
  | none => simp only [e1] at h; cases h
  | some d =>
    cases d <;> simp only [e1] at h <;> first | (cases h; done) | skip
    rename_i elem
    cases a <;> simp only at h <;> first | (cases h; done) | skip
    rename_i base len cap _
    obtain ⟨k, h2, h⟩ := withO_inv h
    obtain ⟨n, h3, h⟩ := withO_inv h
    obtain ⟨h4, h⟩ := withB_inv h
    obtain ⟨cells, s2, h5, h⟩ := M.bind_inv h
    obtain ⟨u, s3, h6, h7⟩ := M.bind_inv h
    obtain ⟨rfl, rfl⟩ := pure_inv h7
    have hn := lenOf_sim (P := P) (w := w) hb h3
    obtain ⟨k1, k2, vn, k3, k4⟩ := firstCells_sim (P := P) hb fi r h5
    have fi2 : Fine s2 := (Local.firstCells _ _ _).fine fi h5
    have r2 : Rel B ρ s2.h w := by rw [k1]; exact r
    cases base with
    | none =>
      obtain ⟨_, rfl⟩ := pure_inv h6
      obtain ⟨rfl, hc, rfl⟩ := slice_none ha
      refine ⟨ρ, w, .int .i64 (Nat.min n 0 : Nat), by rw [k2]; exact Ext.refl _ _ _, ?_, by simp only [VR], r2, Bel.refl _ _⟩
      simp only [Builtin.copy_, h1, show (#[Value.slice none 0 0, vb] : Array Value)[0]? = some (.slice none 0 0) from rfl, show (#[Value.slice none 0 0, vb] : Array Value)[1]? = some vb from rfl,
        Sem.run_bind, run_underlying_of e1, Result.andThen_ok, hn, run_size_of h2, k3, Sem.run_pure, goInt]
    | some p =>
      obtain ⟨m, i⟩ := p
      have hq : ∃ bb N c, ρ m = some (bb, N) ∧ va = .slice (some ⟨bb, i, none⟩) len c := by
        cases cap with
        | known c => simp only [VR] at ha; obtain ⟨bb, N, e, rfl⟩ := ha; exact ⟨bb, N, c, e, rfl⟩
        | atLeast lo e0 => simp only [VR] at ha; obtain ⟨bb, N, c, e, rfl, _⟩ := ha; exact ⟨bb, N, c, e, rfl⟩
        | lost => cases h4
      obtain ⟨bb, N, c, hm, rfl⟩ := hq
      obtain ⟨g1, w', g2, g3, g4⟩ := writeCells_sim (P := P) fi2 r2 h6 hm k4
      refine ⟨ρ, w', .int .i64 (Nat.min n len : Nat), by rw [g1, k2]; exact Ext.refl _ _ _, ?_, by simp only [VR], g3, g4⟩
      simp only [Builtin.copy_, h1, show (#[Value.slice (some ⟨bb, i, none⟩) len c, vb] : Array Value)[0]? = some (.slice (some ⟨bb, i, none⟩) len c) from rfl, show (#[Value.slice (some ⟨bb, i, none⟩) len c, vb] : Array Value)[1]? = some vb from rfl,
        Sem.run_bind, run_underlying_of e1, Result.andThen_ok, hn, run_size_of h2, k3, Sem.run_pure, goInt, g2]
theorem clearT_sim {ts : Array TypeId} {a : AV} {va : Value} (ha : VR ρ a va) (fi : Fine s) (r : Rel B ρ s.h w) (h : clearT P ts a s = .ok x s1) :
    SimV P B ρ s s1 w x (Builtin.clear_ ts 0 #[va]) := by
  unfold clearT at h
  have h9 := M.bind_inv h
  clear h
  obtain ⟨sT, s0, h0, h⟩ := h9
  obtain ⟨h1, hs0⟩ := lift_inv h0
  clear h0
  subst hs0
  cases e1 : P.underlying sT with
  | none => simp only [e1] at h; cases h
  | some d =>
    cases d <;> simp only [e1] at h <;> first | (cases h; done) | skip
    rename_i elem
    cases a <;> first | (cases h; done) | skip
    rename_i base len cap
    cases base with
    | none =>
      obtain ⟨rfl, rfl⟩ := pure_inv h
      obtain ⟨rfl, hc, rfl⟩ := slice_none ha
      refine ⟨ρ, w, undef, Ext.refl _ _ _, ?_, VR.undef _, r, Bel.refl _ _⟩
      simp only [Builtin.clear_, h1, show (#[Value.slice none 0 0] : Array Value)[0]? = some (.slice none 0 0) from rfl, Sem.run_bind, run_underlying_of e1, Result.andThen_ok, Sem.run_pure]
      rfl
    | some p =>
      obtain ⟨m, i⟩ := p
      obtain ⟨_, s2, h2, ha2⟩ := M.bind_inv h
      obtain ⟨z, s3, h3, ha3⟩ := M.bind_inv ha2
      obtain ⟨h4, hs3⟩ := lift_inv h3
      obtain ⟨u, s4, h5, h6⟩ := M.bind_inv ha3
      obtain ⟨rfl, rfl⟩ := pure_inv h6
      have hs : s3 = s0 := by
        rw [hs3]
        cases cap <;> first | (cases h2; done) | (obtain ⟨_, e⟩ := pure_inv (show M.pure () s0 = .ok _ s2 from h2); exact e)
      rw [hs] at h5
      have hq : ∃ bb N c, ρ m = some (bb, N) ∧ va = .slice (some ⟨bb, i, none⟩) len c := by
        cases cap with
        | known c => simp only [VR] at ha; obtain ⟨bb, N, e, rfl⟩ := ha; exact ⟨bb, N, c, e, rfl⟩
        | atLeast lo e0 => simp only [VR] at ha; obtain ⟨bb, N, c, e, rfl, _⟩ := ha; exact ⟨bb, N, c, e, rfl⟩
        | lost => cases h2
      obtain ⟨bb, N, c, hm, rfl⟩ := hq
      obtain ⟨vz, g1, g2⟩ := run_zero_of (P := P) (w := w) ρ h4
      have hrep := repeatTo_sim (ρ := ρ) g2.cells len
      obtain ⟨k1, w', k2, k3, k4⟩ := writeCells_sim (P := P) fi r h5 hm hrep
      refine ⟨ρ, w', undef, by rw [k1]; exact Ext.refl _ _ _, ?_, VR.undef _, k3, k4⟩
      have hpat : (Builtin.zeroCells vz.cells len).toList = (List.replicate len vz.cells.toList).flatten := by
        unfold Builtin.zeroCells; rw [pattern_eq]
      cases len with
      | zero =>
        simp only [List.replicate, List.flatten_nil] at k2
        have k2' : Result.ok () w = Result.ok () w' := k2
        injection k2' with _ k2'
        simp only [Builtin.clear_, h1, show (#[Value.slice (some ⟨bb, i, none⟩) 0 c] : Array Value)[0]? = some (.slice (some ⟨bb, i, none⟩) 0 c) from rfl, Sem.run_bind, run_underlying_of e1, Result.andThen_ok, Sem.run_pure, k2']
        rfl
      | succ len =>
        simp only [Builtin.clear_, h1, show (#[Value.slice (some ⟨bb, i, none⟩) (len + 1) c] : Array Value)[0]? = some (.slice (some ⟨bb, i, none⟩) (len + 1) c) from rfl, Sem.run_bind, run_underlying_of e1, Result.andThen_ok, Sem.run_pure, g1, hpat, k2]
        rfl
theorem mapObj_sim {m : Nat} {es : List (AV × AV)} {b N : Nat} (fi : Fine s) (r : Rel B ρ s.h w) (h : mapObj m s = .ok es s1) (hm : ρ m = some (b, N)) :
    s1.h = s.h ∧ s1.nx = s.nx ∧ ∃ l clock, w.heap[b]? = some (.map l clock) ∧ EPs ρ es l.toList ∧ (KeysApart es ∨ EQs ρ es l.toList) := by
  unfold mapObj at h
  obtain ⟨ob, s2, h1, h2⟩ := M.bind_inv h
  obtain ⟨hx, hg, hh, hnx⟩ := rdN_same h1
  have ht : m < top := Nat.lt_of_lt_of_le hx fi.nx
  obtain ⟨o', hb, hO, _⟩ := r.block ht hg hm
  cases ob with
  | map es' clock =>
    obtain ⟨rfl, rfl⟩ := pure_inv h2
    obtain ⟨l, rfl, _, k⟩ := hO
    exact ⟨hh, hnx, l, clock, hb, ⟨_, List.Perm.refl _, k.eqs⟩, .inr k.eqs⟩
  | mapAny es' =>
    obtain ⟨rfl, rfl⟩ := pure_inv h2
    obtain ⟨l, clock, rfl, ka, _, k⟩ := hO
    exact ⟨hh, hnx, l, clock, hb, k, .inl ka⟩
  | _ => cases h2
theorem EQs.length : ∀ {x : List (AV × AV)} {l : List MapEntry}, EQs ρ x l → x.length = l.length
  | [], l, k => by have k' : l = [] := k; subst k'; rfl
  | _ :: _, _, k => by obtain ⟨e, es, rfl, _, _, d⟩ := k; simp [EQs.length d]
theorem lenT_sim {ts : Array TypeId} {a : AV} {va : Value} (ha : VR ρ a va) (fi : Fine s) (r : Rel B ρ s.h w) (h : lenT P ts a s = .ok x s1) :
    SimV P B ρ s s1 w x (Builtin.len_ ts 0 #[va]) := by
  unfold lenT at h
  have h9 := M.bind_inv h
  clear h
  obtain ⟨sT, s0, h0, h⟩ := h9
  obtain ⟨h1, hs0⟩ := lift_inv h0
  clear h0
  subst hs0
  have h0' : (#[va] : Array Value)[0]? = some va := rfl
  cases e1 : P.underlying sT with
  | none => simp only [e1] at h; cases h
  | some d =>
    have fin : ∀ n : Nat, (Builtin.len_ ts 0 #[va]).run P w = .ok (goInt n) w → x = .int .i64 n → s1.h = s0.h → s1.nx = s0.nx → SimV P B ρ s0 s1 w x (Builtin.len_ ts 0 #[va]) := by
      intro n hr hx hh hnx
      subst hx
      exact ⟨ρ, w, _, by rw [hnx]; exact Ext.refl _ _ _, hr, by simp only [VR, goInt], by rw [hh]; exact r, Bel.refl _ _⟩
    cases d <;> simp only [e1] at h <;> first | (cases h; done) | skip
    case string =>
      cases a <;> first | (cases h; done) | skip
      case str q =>
        obtain ⟨rfl, rfl⟩ := pure_inv h
        simp only [VR] at ha; subst ha
        refine fin _ ?_ rfl rfl rfl
        simp only [Builtin.len_, h1, h0', Sem.run_bind, run_underlying_of e1, Result.andThen_ok, Sem.run_pure]
      case zstr q =>
        obtain ⟨rfl, rfl⟩ := pure_inv h
        simp only [VR] at ha; subst ha
        have hsz : (⟨(List.replicate q (0 : UInt8)).toArray⟩ : ByteArray).size = q := by simp [ByteArray.size]
        refine fin _ ?_ rfl rfl rfl
        simp only [Builtin.len_, h1, h0', Sem.run_bind, run_underlying_of e1, Result.andThen_ok, Sem.run_pure, hsz]
    case array n e =>
      obtain ⟨rfl, rfl⟩ := pure_inv h
      refine fin _ ?_ rfl rfl rfl
      simp only [Builtin.len_, h1, h0', Sem.run_bind, run_underlying_of e1, Result.andThen_ok, Sem.run_pure]
    case pointer pt =>
      cases e2 : P.underlying pt with
      | none => simp only [e2] at h; cases h
      | some d =>
        cases d <;> simp only [e2] at h <;> first | (cases h; done) | skip
        obtain ⟨rfl, rfl⟩ := pure_inv h
        refine fin _ ?_ rfl rfl rfl
        simp only [Builtin.len_, h1, h0', Sem.run_bind, run_underlying_of e1, run_underlying_of e2, Result.andThen_ok, Sem.run_pure]
    case slice e =>
      cases a <;> first | (cases h; done) | skip
      case slice base len cap =>
        obtain ⟨rfl, rfl⟩ := pure_inv h
        have : ∃ p c, va = .slice p len c := by
          cases base with
          | none => obtain ⟨rfl, _, rfl⟩ := slice_none ha; exact ⟨_, _, rfl⟩
          | some p => obtain ⟨m, j⟩ := p; obtain ⟨_, _, _, _, _, rfl⟩ := slice_some ha; exact ⟨_, _, rfl⟩
        obtain ⟨p, c, rfl⟩ := this
        refine fin _ ?_ rfl rfl rfl
        simp only [Builtin.len_, h1, h0', Sem.run_bind, run_underlying_of e1, Result.andThen_ok, Sem.run_pure]
      case rslice n o len =>
        obtain ⟨rfl, rfl⟩ := pure_inv h
        simp only [VR] at ha
        obtain ⟨b, sh, c, _, rfl, _⟩ := ha
        refine fin _ ?_ rfl rfl rfl
        simp only [Builtin.len_, h1, h0', Sem.run_bind, run_underlying_of e1, Result.andThen_ok, Sem.run_pure]
    case map kt et =>
      cases a <;> first | (cases h; done) | skip
      rename_i m
      cases m with
      | none =>
        obtain ⟨rfl, rfl⟩ := pure_inv h
        simp only [VR] at ha; subst ha
        refine fin 0 ?_ rfl rfl rfl
        simp only [Builtin.len_, h1, h0', Sem.run_bind, run_underlying_of e1, Result.andThen_ok, Sem.run_pure]
        rfl
      | some m =>
        obtain ⟨es, s2, h2, h3⟩ := M.bind_inv h
        obtain ⟨rfl, rfl⟩ := pure_inv h3
        simp only [VR] at ha
        obtain ⟨b, N, hm, rfl⟩ := ha
        obtain ⟨g1, g2, l, clock, g3, ⟨l', g4, g5⟩, _⟩ := mapObj_sim fi r h2 hm
        refine fin _ ?_ rfl g1 g2
        have hl : l.size = es.length := by rw [g5.length, ← g4.length_eq]; simp
        simp only [Builtin.len_, h1, h0', Sem.run_bind, run_underlying_of e1, Result.andThen_ok, Sem.run_pure, MapKept.run_getObj_map g3, hl]
theorem fold_sim {f : AV → AV → Option AV} {g : Value → Value → Sem Value} (hf : ∀ a b c va vb, f a b = some c → VR ρ a va → VR ρ b vb → ∃ vc, (g va vb).run P w = .ok vc w ∧ VR ρ c vc) :
    ∀ {l : List AV} {vs : List Value} {a c : AV} {va : Value}, foldAV f l a = some c → VRs ρ l vs → VR ρ a va → ∃ vc, (vs.foldlM g va).run P w = .ok vc w ∧ VR ρ c vc
  | [], vs, a, c, va, h, hl, ha => by
    simp only [VRs] at hl; subst hl
    simp only [foldAV] at h; injection h with h; subst h
    exact ⟨va, rfl, ha⟩
  | y :: l, vs, a, c, va, h, hl, ha => by
    simp only [VRs] at hl; obtain ⟨v, ys, rfl, hv, hl⟩ := hl
    simp only [foldAV] at h
    cases e : f a y with
    | none => rw [e] at h; cases h
    | some z =>
      simp only [e] at h
      obtain ⟨vz, g1, g2⟩ := hf a y z va v e ha hv
      obtain ⟨vc, g3, g4⟩ := fold_sim hf h hl g2
      exact ⟨vc, by simp only [List.foldlM_cons, Sem.run_bind, g1, Result.andThen_ok, g3], g4⟩
theorem min2_sim (a b c : AV) (va vb : Value) (h : min2 a b = some c) (ha : VR ρ a va) (hb : VR ρ b vb) : ∃ vc, (Builtin.min2 va vb).run P w = .ok vc w ∧ VR ρ c vc := by
  unfold min2 at h
  split at h
  · rename_i k x k2 y
    injection h with h; subst h
    simp only [VR] at ha hb; subst ha; subst hb
    refine ⟨_, rfl, ?_⟩
    simp only [VR]
    by_cases q : y < x <;> simp [q]
  · cases h
theorem max2_sim (a b c : AV) (va vb : Value) (h : max2 a b = some c) (ha : VR ρ a va) (hb : VR ρ b vb) : ∃ vc, (Builtin.max2 va vb).run P w = .ok vc w ∧ VR ρ c vc := by
  unfold max2 at h
  split at h
  · rename_i k x k2 y
    injection h with h; subst h
    simp only [VR] at ha hb; subst ha; subst hb
    refine ⟨_, rfl, ?_⟩
    simp only [VR]
    by_cases q : y > x <;> simp [q]
  · cases h
theorem builtinT_sim {b : Builtin} {ts : Array TypeId} {ty : TypeId} {consts : Array Bool} {l : List AV} {vs : Array Value} (hl : VRs ρ l vs.toList) (fi : Fine s) (r : Rel B ρ s.h w) (hf : Free s.nx s1.nx ρ)
    (h : builtinT P b ts l s = .ok x s1) : SimOp P B ρ s s1 w x (Go.builtin b ts ty consts vs) := by
  obtain ⟨vs⟩ := vs
  unfold builtinT at h
  split at h
  · rename_i y
    simp only [VRs] at hl; obtain ⟨v, ys, rfl, hv, rfl⟩ := hl
    exact (lenT_sim hv fi r h).op
  · rename_i y z
    simp only [VRs] at hl; obtain ⟨v, ys, rfl, hv, v2, ys2, rfl, hv2, rfl⟩ := hl
    exact (appendTo_sim hv hv2 fi r hf h).op
  · rename_i y z
    simp only [VRs] at hl; obtain ⟨v, ys, rfl, hv, v2, ys2, rfl, hv2, rfl⟩ := hl
    exact (copyTo_sim hv hv2 fi r h).op
  · rename_i y
    simp only [VRs] at hl; obtain ⟨v, ys, rfl, hv, rfl⟩ := hl
    exact (clearT_sim hv fi r h).op
  · rename_i y z
    simp only [VRs] at hl; obtain ⟨v, ys, rfl, hv, hl⟩ := hl
    obtain ⟨h1, rfl⟩ := lift_inv h
    obtain ⟨vc, g1, g2⟩ := fold_sim (P := P) (w := w) min2_sim h1 hl hv
    exact SimV.op (c := Builtin.min_ ts ty ⟨v :: ys⟩) ⟨ρ, w, vc, Ext.refl _ _ _, g1, g2, r, Bel.refl _ _⟩
  · rename_i y z
    simp only [VRs] at hl; obtain ⟨v, ys, rfl, hv, hl⟩ := hl
    obtain ⟨h1, rfl⟩ := lift_inv h
    obtain ⟨vc, g1, g2⟩ := fold_sim (P := P) (w := w) max2_sim h1 hl hv
    exact SimV.op (c := Builtin.max_ ts ty ⟨v :: ys⟩) ⟨ρ, w, vc, Ext.refl _ _ _, g1, g2, r, Bel.refl _ _⟩
  · cases h
theorem sim_kBuiltin {b : Builtin} {ts : Array TypeId} {args : Array Operand} (he : ∀ x v, opd t x = some v → VR ρ v (ev x)) (fi : Fine s) (r : Rel B ρ s.h w) (hf : Free s.nx s1.nx ρ)
    (h : kBuiltin P b ts args.toList call t s = .ok x s1) (ho : o.op = .call ⟨.builtin b, args, ts⟩) : SimOp P B ρ s s1 w x (execOp ev o) := by
  unfold kBuiltin at h
  obtain ⟨vs, h1, h2⟩ := withO_inv h
  have hl := opds_sim he h1
  have := builtinT_sim (ty := o.type) (consts := args.map fun | .const _ => true | _ => false) (vs := args.map ev) (by simpa using hl) fi r hf h2
  obtain ⟨σ, w', nv, a1, a2, a3⟩ := this
  refine ⟨σ, w', nv, a1, ?_, a3⟩
  simp only [execOp, ho, resolve, Sem.run_bind, Sem.run_pure, Result.andThen_ok, invoke]
  exact a2
end
end Go.Rn

namespace Go.Rn
open Go.RowKit
section
variable {P : Program} {B : Base} {ρ : Ren} {w : World} {s s1 : AS} {x : AV} {call : Caller} {t : Tr AV} {ev : Operand → Value} {o : Oper}
theorem keyFields_sim {em : Bool} {d : Nat} {chk : TypeId → AV → Bool} (hc : ∀ ty a v, chk ty a = true → VR ρ a v → (Instr.checkKey em d ty v).run P w = .ok () w)
    {cs : List AV} {ds : Array Value} (hx : VRs ρ cs ds.toList) : ∀ {fs : List Field}, keyFields P chk cs fs = true →
    (forIn fs PUnit.unit fun f _ => do
      if f.name ≠ "_" then do
        Instr.checkKey em d f.type (← part f.type ds f.offset)
        pure (ForInStep.yield PUnit.unit)
      else pure (ForInStep.yield PUnit.unit) : Sem PUnit).run P w = .ok PUnit.unit w
  | [], _ => rfl
  | f :: fs, h => by
    simp only [keyFields] at h
    rw [List.forIn_cons]
    cases en : (f.name == "_") with
    | true =>
      simp only [en] at h
      have : ¬ (f.name ≠ "_") := by simpa using en
      rw [if_neg this]
      simp only [Sem.run_bind, Sem.run_pure, Result.andThen_ok]
      exact keyFields_sim hc hx h
    | false =>
      simp only [en] at h
      have hne : f.name ≠ "_" := by intro e; rw [e] at en; simp at en
      rw [if_pos hne]
      cases e1 : partT P f.type cs f.offset with
      | none => simp only [e1] at h; cases h
      | some a =>
        simp only [e1] at h
        obtain ⟨v, g1, g2⟩ := partT_sim (w := w) hx e1
        cases e2 : chk f.type a with
        | false => simp only [e2] at h; cases h
        | true =>
          simp only [e2] at h
          simp only [Sem.run_bind, Sem.run_pure, Result.andThen_ok, g1, hc _ _ _ e2 g2]
          exact keyFields_sim hc hx h
theorem keyOk_sim {em : Bool} : ∀ {d : Nat} {ty : TypeId} {a : AV} {v : Value}, keyOk P d ty a = true → VR ρ a v → (Instr.checkKey em d ty v).run P w = .ok () w
  | 0, _, _, _, h, _ => by simp only [keyOk] at h; cases h
  | d + 1, ty, a, v, h, ha => by
    simp only [keyOk] at h
    rw [Instr.checkKey]
    split at h <;> first | (cases h; done) | skip
    · rename_i e; simp [run_underlying_of e]
    · rename_i e; simp [run_underlying_of e]
    · rename_i e; simp [run_underlying_of e]
    · rename_i fs cs e
      simp only [VR] at ha
      obtain ⟨ds, rfl, hl⟩ := ha
      simp only [Sem.run_bind, run_underlying_of e, Result.andThen_ok]
      have := keyFields_sim (P := P) (w := w) (em := em) (d := d) (fun ty a v h1 h2 => keyOk_sim h1 h2) hl h
      rw [← Array.forIn_toList]
      simp only [this, Result.andThen_ok, Sem.run_pure]
theorem sameKey_sim {a b : AV} {c : Bool} {v u : Value} {kd : TypeDesc} {k : TypeId} (hk : P.underlying k = some kd) (hp : plainKey P k a = true) (h : sameKey a b = some c) (ha : VR ρ a v) (hb : VR ρ b u) : Instr.sameNow kd v u = some c := by
  unfold plainKey at hp
  rw [hk] at hp
  unfold sameKey at h
  split at h <;> first | (cases h; done) | skip
  · rename_i k1 x1 k2 x2
    simp only [VR] at ha hb; subst ha; subst hb
    cases hkk : decide (k1 = k2) with
    | false => rw [hkk] at h; cases h
    | true =>
      rw [hkk] at h; injection h with h; subst h
      have := of_decide_eq_true hkk
      cases kd <;> first | (cases hp; done) | simp [Instr.sameNow, this]
  · injection h with h; subst h
    simp only [VR] at ha hb; subst ha; subst hb
    cases kd <;> first | (cases hp; done) | simp [Instr.sameNow]
  · injection h with h; subst h
    simp only [VR] at ha hb; subst ha; subst hb
    cases kd <;> first | (cases hp; done) | simp [Instr.sameNow]
def FindR (ρ : Ren) (es : List (AV × AV)) (l : List MapEntry) (i : Nat) : Option (Nat × AV) → Option (Nat × Value) → Prop
  | none, r => r = none
  | some (j, x), r => ∃ y q e, r = some (j, y) ∧ VR ρ x y ∧ i ≤ j ∧ es[j - i]? = some q ∧ l[j - i]? = some e ∧ VR ρ q.1 e.key ∧ q.2 = x ∧ e.val = y
theorem FindR.next {es : List (AV × AV)} {l : List MapEntry} {i : Nat} {p : AV × AV} {e : MapEntry} {r : Option (Nat × AV)} {r' : Option (Nat × Value)} (h : FindR ρ es l (i + 1) r r') : FindR ρ (p :: es) (e :: l) i r r' := by
  cases r with
  | none => exact h
  | some q =>
    obtain ⟨j, x⟩ := q
    obtain ⟨y, q, e2, h1, h2, h3, h4, h5, h6⟩ := h
    refine ⟨y, q, e2, h1, h2, by omega, ?_, ?_, h6⟩
    · rw [show j - i = (j - (i + 1)) + 1 from by omega]; simpa using h4
    · rw [show j - i = (j - (i + 1)) + 1 from by omega]; simpa using h5
theorem findPlain_sim {k : TypeId} {kd : TypeDesc} {key : AV} {v : Value} (hk : P.underlying k = some kd) (hp : plainKey P k key = true) (hv : VR ρ key v) : ∀ {es : List (AV × AV)} {l : List MapEntry} {i : Nat} {r : Option (Nat × AV)},
    EQs ρ es l → findPlain key es i = some r → ∃ r', Instr.findNow kd v l i = some r' ∧ FindR ρ es l i r r'
  | [], l, i, r, he, h => by
    have he' : l = [] := he
    subst he'
    simp only [findPlain] at h; injection h with h; subst h
    exact ⟨none, rfl, rfl⟩
  | (a, b) :: es, l, i, r, he, h => by
    obtain ⟨e, l', rfl, h1, h2, h3⟩ := he
    simp only [findPlain] at h
    cases q : sameKey key a with
    | none => rw [q] at h; cases h
    | some c =>
      have := sameKey_sim hk hp q hv h1
      cases c with
      | true =>
        simp only [q] at h; injection h with h; subst h
        exact ⟨some (i, e.val), by simp only [Instr.findNow, this], e.val, (a, b), e, rfl, h2, Nat.le_refl _, by simp, by simp, h1, rfl, rfl⟩
      | false =>
        simp only [q] at h
        obtain ⟨r', g1, g2⟩ := findPlain_sim hk hp hv h3 h
        exact ⟨r', by simp only [Instr.findNow, this]; exact g1, g2.next⟩
theorem findSlow_sim {k : TypeId} {key : AV} {v : Value} (hv : VR ρ key v) : ∀ {es : List (AV × AV)} {l : List MapEntry} {i : Nat} {r : Option (Nat × AV)},
    EQs ρ es l → findSlow P k key es i = some r → ∃ r', (Instr.findAsking k v l i).run P w = .ok r' w ∧ FindR ρ es l i r r'
  | [], l, i, r, he, h => by
    have he' : l = [] := he
    subst he'
    simp only [findSlow] at h; injection h with h; subst h
    exact ⟨none, rfl, rfl⟩
  | (a, b) :: es, l, i, r, he, h => by
    obtain ⟨e, l', rfl, h1, h2, h3⟩ := he
    simp only [findSlow] at h
    cases q : eqT P Op.maxDepth k key a with
    | none => rw [q] at h; cases h
    | some c =>
      have hq : (Op.equal k v e.key).run P w = .ok c w := eqT_sim q hv h1
      cases c with
      | true =>
        simp only [q] at h; injection h with h; subst h
        exact ⟨some (i, e.val), by simp [Instr.findAsking, hq], e.val, (a, b), e, rfl, h2, Nat.le_refl _, by simp, by simp, h1, rfl, rfl⟩
      | false =>
        simp only [q] at h
        obtain ⟨r', g1, g2⟩ := findSlow_sim hv h3 h
        exact ⟨r', by simp [Instr.findAsking, hq, g1], g2.next⟩
theorem int_of {a : AV} {k : IntKind} {n : Int} (ha : VR ρ a (.int k n)) : a = .int k n := by
  cases a <;> (try simp only [VR] at ha) <;> first | (cases ha; rfl) | (cases ha; done) | skip
  · rename_i q; cases q <;> simp only [VR] at ha <;> first | (cases ha; done) | (obtain ⟨_, _, _, e⟩ := ha; cases e)
  · rename_i q l c; cases q with
    | none => obtain ⟨_, _, e⟩ := slice_none ha; cases e
    | some q => obtain ⟨n, i⟩ := q; obtain ⟨_, _, _, _, _, e⟩ := slice_some ha; cases e
  · obtain ⟨_, _, _, _, e, _⟩ := ha; cases e
  · obtain ⟨_, _, _, e⟩ := ha; cases e
  · rename_i q; cases q <;> simp only [VR] at ha <;> first | (cases ha; done) | (obtain ⟨_, _, _, e⟩ := ha; cases e)
  · obtain ⟨_, _, _, e, _⟩ := ha; cases e
  · obtain ⟨_, _, _, e⟩ := ha; cases e
  · obtain ⟨_, e, _⟩ := ha; cases e
  · obtain ⟨_, e, _⟩ := ha; cases e
  · obtain ⟨_, e, _⟩ := ha; cases e
theorem str_of {a : AV} {q : ByteArray} (hz : noZ a = true) (ha : VR ρ a (.string q)) : a = .str q := by
  cases a <;> (try cases hz; done) <;> (try simp only [VR] at ha) <;> first | (cases ha; rfl) | (cases ha; done) | skip
  · rename_i q; cases q <;> simp only [VR] at ha <;> first | (cases ha; done) | (obtain ⟨_, _, _, e⟩ := ha; cases e)
  · rename_i q l c; cases q with
    | none => obtain ⟨_, _, e⟩ := slice_none ha; cases e
    | some q => obtain ⟨n, i⟩ := q; obtain ⟨_, _, _, _, _, e⟩ := slice_some ha; cases e
  · obtain ⟨_, _, _, _, e, _⟩ := ha; cases e
  · obtain ⟨_, _, _, e⟩ := ha; cases e
  · rename_i q; cases q <;> simp only [VR] at ha <;> first | (cases ha; done) | (obtain ⟨_, _, _, e⟩ := ha; cases e)
  · obtain ⟨_, _, _, e, _⟩ := ha; cases e
  · obtain ⟨_, _, _, e⟩ := ha; cases e
  · obtain ⟨_, e, _⟩ := ha; cases e
  · obtain ⟨_, e, _⟩ := ha; cases e
  · obtain ⟨_, e, _⟩ := ha; cases e
theorem bool_of {a : AV} {b : Bool} (ha : VR ρ a (.bool b)) : a = .bool b := by
  cases a <;> (try simp only [VR] at ha) <;> first | (cases ha; rfl) | (cases ha; done) | skip
  · rename_i q; cases q <;> simp only [VR] at ha <;> first | (cases ha; done) | (obtain ⟨_, _, _, e⟩ := ha; cases e)
  · rename_i q l c; cases q with
    | none => obtain ⟨_, _, e⟩ := slice_none ha; cases e
    | some q => obtain ⟨n, i⟩ := q; obtain ⟨_, _, _, _, _, e⟩ := slice_some ha; cases e
  · obtain ⟨_, _, _, _, e, _⟩ := ha; cases e
  · obtain ⟨_, _, _, e⟩ := ha; cases e
  · rename_i q; cases q <;> simp only [VR] at ha <;> first | (cases ha; done) | (obtain ⟨_, _, _, e⟩ := ha; cases e)
  · obtain ⟨_, _, _, e, _⟩ := ha; cases e
  · obtain ⟨_, _, _, e⟩ := ha; cases e
  · obtain ⟨_, e, _⟩ := ha; cases e
  · obtain ⟨_, e, _⟩ := ha; cases e
  · obtain ⟨_, e, _⟩ := ha; cases e
theorem notPlain {k : TypeId} {kd : TypeDesc} {key : AV} {v : Value} (hk : P.underlying k = some kd) (hz : noZ key = true) (hp : plainKey P k key = false) (hv : VR ρ key v) (u : Value) : Instr.sameNow kd v u = none := by
  cases e : Instr.sameNow kd v u with
  | none => rfl
  | some c =>
    exfalso
    unfold Instr.sameNow at e
    unfold plainKey at hp
    rw [hk] at hp
    split at e <;> first | (cases e; done) | skip
    · rw [int_of hv] at hp; cases hp
    · rw [str_of hz hv] at hp; cases hp
    · rw [bool_of hv] at hp; cases hp
theorem noZ_of {key : AV} {o : Option (Option (Nat × AV))} {r : Option (Nat × AV)} (h : (match noZ key with | false => none | true => o) = some r) : noZ key = true := by
  cases hz : noZ key with
  | false => rw [hz] at h; cases h
  | true => rfl
theorem findKey_sim {k : TypeId} {kd : TypeDesc} {key : AV} {v : Value} {es : List (AV × AV)} {l : List MapEntry} {r : Option (Nat × AV)} (hk : P.underlying k = some kd) (hv : VR ρ key v) (he : EQs ρ es l) (h : findKey P k key es = some r) :
    ∃ r', (Instr.findKey k v l).run P w = .ok r' w ∧ FindR ρ es l 0 r r' := by
  unfold findKey at h
  cases hz : noZ key with
  | false => rw [hz] at h; cases h
  | true =>
  simp only [hz] at h
  cases hp : plainKey P k key with
  | true =>
    simp only [hp] at h
    obtain ⟨r', g1, g2⟩ := findPlain_sim hk hp hv he h
    exact ⟨r', MapKept.run_findKey hk g1, g2⟩
  | false =>
    simp only [hp] at h
    obtain ⟨r', g1, g2⟩ := findSlow_sim (P := P) (w := w) hv he h
    refine ⟨r', ?_, g2⟩
    cases l with
    | nil =>
      have g1' : Result.ok none w = Result.ok r' w := g1
      injection g1' with g1'; subst g1'
      exact MapKept.run_findKey hk rfl
    | cons e l =>
      have : Instr.findNow kd v (e :: l) 0 = none := by simp only [Instr.findNow, notPlain hk hz hp hv e.key]
      simp only [Instr.findKey, Sem.run_bind, run_underlying_of hk, Result.andThen_ok, this]
      exact g1
theorem findPlain_none {key : AV} : ∀ {es : List (AV × AV)} {i : Nat}, findPlain key es i = some none → ∀ p ∈ es, sameKey key p.1 = some false
  | [], _, _, p, hp => by cases hp
  | (a, b) :: es, i, h, p, hp => by
    simp only [findPlain] at h
    cases q : sameKey key a with
    | none => rw [q] at h; cases h
    | some c =>
      cases c with
      | true => simp only [q] at h; cases h
      | false =>
        simp only [q] at h
        rcases List.mem_cons.1 hp with rfl | hp
        · exact q
        · exact findPlain_none h p hp
theorem findPlain_some {key : AV} : ∀ {es : List (AV × AV)} {i j : Nat} {x : AV}, findPlain key es i = some (some (j, x)) → i ≤ j ∧ ∃ q, es[j - i]? = some q ∧ q.2 = x ∧ sameKey key q.1 = some true
  | [], _, _, _, h => by simp [findPlain] at h
  | (a, b) :: es, i, j, x, h => by
    simp only [findPlain] at h
    cases q : sameKey key a with
    | none => rw [q] at h; cases h
    | some c =>
      cases c with
      | true =>
        simp only [q] at h; injection h with h; injection h with h; injection h with h1 h2; subst h1; subst h2
        exact ⟨Nat.le_refl _, (a, b), by simp, rfl, q⟩
      | false =>
        simp only [q] at h
        obtain ⟨h1, p, h2, h3⟩ := findPlain_some h
        refine ⟨by omega, p, ?_, h3⟩
        rw [show j - i = (j - (i + 1)) + 1 from by omega]; simpa using h2
end
end Go.Rn
