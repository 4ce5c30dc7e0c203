/- Appends, copies, and what is cleared. -/
import Derived.Test.YtcjmdcndalcomaaGreatDoorRnSim8
namespace Go.Rn
open Go.RowKit

theorem Local.fine {α : Type} {m : M α} (hm : Local m) {s s1 : AS} {v : α} (fi : Fine s) (h : m s = .ok v s1) : Fine s1 := by
  obtain ⟨dr, dw, d, _⟩ := hm s v s1 fi h; exact d.fine fi
theorem Local.le {α : Type} {m : M α} (hm : Local m) {s s1 : AS} {v : α} (fi : Fine s) (h : m s = .ok v s1) : s.nx ≤ s1.nx := by
  obtain ⟨dr, dw, d, _⟩ := hm s v s1 fi h; exact d.nx

section
variable {P : Program} {B : Nat} {ρ : Ren} {w : World} {s s1 : AS} {x : AV} {call : Caller} {t : Tr AV} {ev : Operand → Value} {o : Oper}

theorem SimV.nx {s2 : AS} {c : Sem Value} (h : SimV P B ρ s2 s1 w x c) (e : s2.nx = s.nx) : SimV P B ρ s s1 w x c := by
  unfold SimV at h ⊢
  rw [e] at h; exact h

/-- A row that is grown, where it is the same row, longer. -/
theorem inplace_sim {elem sT : TypeId} {size len c n m b N : Nat} {xv : Value} {xt : Option TypeId} {args : Array TypeId} {old new : List AV} {vn : Array Value} {s2 : AS} {p : AObj} {bytes : Nat} {vo : List Value}
    (hu : P.underlying sT = some (.slice elem)) (ha0 : args[0]? = some sT) (ha1 : args[1]? = xt) (hx : notInt P xt = true) (hi : sizeT P elem = some size)
    (hn : (Builtin.lenOf xv).run P w = .ok n w) (hle : len + n ≤ c) (r : Rel B ρ s.h w) (ht : m < top) (hg : s.h.get m = some p) (hp : p.isCells = true) (hm : ρ m = some (b, N)) (hc : c * size ≤ N)
    (hf : Free s.nx s1.nx ρ) (hlo : old.length = len * size) (hln : new.length = n * size) (hs2 : s2.h = s.h.put m none) (hs3 : s2.nx = s.nx)
    (hw : (Builtin.firstCells size n xv).run P w = .ok vn w) (hold : ∀ j v, vo[j]? = some v → w.cell? ⟨b, 0 + j, none⟩ = some v) (ho : VRs ρ old vo)
    (hvn : VRs ρ new vn.toList) (h : grown size bytes (len + n) old new s2 = .ok x s1) : SimV P B ρ s s1 w x (Builtin.append_ args 0 #[.slice (some ⟨b, 0, none⟩) len c, xv]) := by
  obtain ⟨o', hb, hO, hB⟩ := r.block ht hg hm
  cases p with
  | cells k tr z =>
    obtain ⟨c0, e0, rfl, hc0, hk, row⟩ := hO
    unfold grown at h
    obtain ⟨_, h2⟩ := withB_inv h
    obtain ⟨q, s3, h3, h4⟩ := M.bind_inv h2
    obtain ⟨rfl, rfl⟩ := pure_inv h4
    unfold newRow at h3
    obtain ⟨q1, q2⟩ := withB_inv h3
    obtain ⟨q3, q4⟩ := and_true.1 q1
    obtain ⟨ht2, rfl, rfl⟩ := newN_inv q2
    have hone : ∀ y ∈ old ++ new, y.oneCell = true := fun y hy => List.all_eq_true.1 q4 y hy
    have hlen : (old ++ new).length ≤ top := ble_true.1 q3
    have hvl := hvn.length
    have hol := ho.length
    have hmul : len * size + n * size ≤ c * size := by rw [← Nat.add_mul]; exact Nat.mul_le_mul_right _ hle
    have hfit : len * size + vn.toList.length ≤ c0.size := by omega
    have hst := store_row (P := P) (off := len * size) (vs := vn.toList) hb hfit (oneCells'_of hvn (fun y hy => hone y (List.mem_append_right _ hy)))
    obtain ⟨g1, g2⟩ := setRow_only (cs := (c0.toList.take (len * size) ++ vn.toList ++ c0.toList.drop (len * size + vn.toList.length)).toArray) hb
    have hrun := fit_run (P := P) (w := w) (base := some ⟨b, 0, none⟩) hu ha0 ha1 hx hi hn hle hw (by
      show (storeCells ((Addr.mk b 0 none).add (len * size)) vn.toList).run P w = _
      rw [Addr.add_flat, Nat.zero_add]; exact hst)
    obtain ⟨d1, d2⟩ := r.dropAt ht hg rfl hm g1
    have hnone : ρ s2.nx = none := hf s2.nx (by omega) (Nat.lt_succ_self _)
    refine ⟨updR ρ s2.nx (b, N), _, _, ?_, hrun, ?_, ?_, g1.below (hB rfl)⟩
    · rw [← hs3]; exact Ext.upd hnone
    · simp only [VR]
      exact ⟨b, N, c, updR_self _ _ _, rfl, hle, hle, by omega⟩
    · show Rel B _ (s2.h.put s2.nx (some (.cells (old ++ new).length (Tr.fill (old ++ new) 0 .nil) []))) _
      rw [hs2]
      refine d1.name ht2 hnone rfl g2 (fun _ => hB rfl) d2 ?_
      refine ⟨_, e0, rfl, ?_, ?_, fun i hi => ?_⟩
      · exact (size_set hfit).trans hc0
      · simp only [List.length_append]; omega
      · simp only [List.length_append] at hi
        obtain ⟨a, ha⟩ : ∃ a, (old ++ new)[i]? = some a := ⟨(old ++ new)[i]'(by simp; exact hi), List.getElem?_eq_getElem _⟩
        have hcell := cellAt_fill (l := old ++ new) (i := i) hlen (by simp; exact hi)
        obtain ⟨v, hv, hr⟩ := (ho.append hvn).get i a ha
        refine ⟨a, v, by rw [hcell]; exact ha, hone a (List.mem_of_getElem? ha), ?_, hr.mono (updR_le hnone)⟩
        simp only [List.getElem?_toArray]
        by_cases q : i < len * size
        · rw [List.getElem?_append_left (by omega)] at hv
          have := hold i v hv
          simp only [World.cell?, hb, Nat.zero_add] at this
          rw [List.append_assoc, List.getElem?_append_left (by simp; omega), List.getElem?_take_of_lt q]
          simpa using this
        · rw [List.getElem?_append_right (by omega)] at hv
          have hvi : i - vo.length < vn.toList.length := (List.getElem?_eq_some_iff.1 hv).1
          rw [List.append_assoc, List.getElem?_append_right (by simp; omega)]
          simp only [List.length_take, Array.length_toList]
          rw [Nat.min_eq_left (by omega), List.getElem?_append_left (by omega)]
          rw [show i - len * size = i - vo.length from by omega]
          exact hv
  | _ => cases hp

theorem appendTo_sim {ts : Array TypeId} {a b : AV} {va vb : Value} (ha : VR ρ a va) (hb : VR ρ b vb) (fi : Fine s) (r : Rel B ρ s.h w) (hf : Free s.nx s1.nx ρ) (h : appendTo P ts a b s = .ok x s1) :
    SimV P B ρ s s1 w x (Builtin.append_ ts 0 #[va, vb]) := by
  unfold appendTo at h
  obtain ⟨sT, h1, h⟩ := withO_inv h
  cases e1 : P.underlying sT with
  | none => simp only [e1] at h; cases h
  | some d =>
    cases d <;> simp only [e1] at h <;> first | (cases h; done) | skip
    rename_i elem
    cases a <;> simp only at h <;> first | (cases h; done) | skip
    rename_i base len cap _
    obtain ⟨i, h2, h⟩ := withO_inv h
    obtain ⟨h3, h⟩ := withB_inv h
    obtain ⟨hz, hx⟩ := and_true.1 h3
    obtain ⟨n, h4, h⟩ := withO_inv h
    obtain ⟨new, s2, h5, h⟩ := M.bind_inv h
    obtain ⟨h6, h⟩ := withB_inv h
    have hln := beqN_true.1 h6
    have hi : sizeT P elem = some i.size := by simp [sizeT, h2]
    obtain ⟨k1, k2, vn, k3, k4⟩ := firstCells_sim (P := P) hb fi r h5
    have rd : Rel B ρ s.h { w with drawn := w.drawn + 1 } := r.grew (Grew.drew w)
    obtain ⟨_, _, vn', k3', k4'⟩ := firstCells_sim (P := P) hb fi rd h5
    have hn := lenOf_sim (P := P) (w := w) hb h4
    have fi2 : Fine s2 := (Local.firstCells _ _ _).fine fi h5
    have r2 : Rel B ρ s2.h w := by rw [k1]; exact r
    have rd2 : Rel B ρ s2.h { w with drawn := w.drawn + 1 } := by rw [k1]; exact rd
    unfold appendRow at h
    cases cap with
    | lost => cases h
    | known c =>
      simp only at h
      cases q : Nat.ble (len + n) c with
      | true =>
        simp only [q] at h
        have hle := ble_true.1 q
        obtain ⟨u, s3, h7, h8⟩ := M.bind_inv h
        obtain ⟨rfl, rfl⟩ := pure_inv h8
        cases base with
        | none =>
          obtain ⟨rfl, rfl⟩ := pure_inv h7
          obtain ⟨rfl, hc, rfl⟩ := slice_none ha
          cases hc
          have hn0 : n = 0 := by omega
          subst hn0
          refine ⟨ρ, w, _, by rw [k2]; exact Ext.refl _ _ _, fit_run (P := P) (w := w) (base := none) e1 h1 rfl hx hi hn hle k3 rfl, ?_, r2, Below.refl _ _⟩
          simp [VR]
        | some p =>
          obtain ⟨m, j⟩ := p
          have ha' := ha
          simp only [VR] at ha'
          obtain ⟨bb, N, hm, rfl⟩ := ha'
          obtain ⟨g1, w', g2, g3, g4⟩ := writeCells_sim (P := P) fi2 r2 h7 hm k4
          refine ⟨ρ, w', _, by rw [g1, k2]; exact Ext.refl _ _ _, fit_run (P := P) (w := w) (base := some ⟨bb, j, none⟩) e1 h1 rfl hx hi hn hle k3 (by
            show (storeCells ((Addr.mk bb j none).add (len * i.size)) vn.toList).run P w = _
            rw [Addr.add_flat]; exact g2), ?_, g3, g4⟩
          simp only [VR]; exact ⟨bb, N, hm, rfl⟩
      | false =>
        simp only [q] at h
        have hlt : c < len + n := by
          rcases Nat.lt_or_ge c (len + n) with e | e
          · exact e
          · rw [ble_true.2 e] at q; cases q
        obtain ⟨old, s3, h7, h8⟩ := M.bind_inv h
        obtain ⟨j1, j2, vo, j3, j4⟩ := firstCells_sim (P := P) ha fi2 rd2 h7
        have hol := firstCells_length fi2 r2 ha (by intro e; cases e) h7
        have : ∃ base' : Option Addr, va = .slice base' len c := by
          cases base with
          | none => obtain ⟨rfl, hc, rfl⟩ := slice_none ha; cases hc; exact ⟨_, rfl⟩
          | some p => obtain ⟨m, j⟩ := p; simp only [VR] at ha; obtain ⟨_, _, _, rfl⟩ := ha; exact ⟨_, rfl⟩
        obtain ⟨base', hva⟩ := this
        refine SimV.nx (s2 := s3) (grown_sim (P := P) hva e1 h1 rfl hx h2 hz hn hlt (by rw [j1]; exact r2) (by rw [j2, k2]; exact hf) hol hln j3 k3' j4 k4' h8) (by rw [j2, k2])
    | atLeast lo sz =>
      obtain ⟨h7, h⟩ := withB_inv h
      have := beqN_true.1 h7
      subst this
      cases q : Nat.ble (len + n) lo with
      | true =>
        simp only [q] at h
        have hle := ble_true.1 q
        cases base with
        | none => cases h
        | some p =>
          obtain ⟨m, j⟩ := p
          simp only at h
          obtain ⟨u, s3, h8, h9⟩ := M.bind_inv h
          obtain ⟨rfl, rfl⟩ := pure_inv h9
          have ha' := ha
          simp only [VR] at ha'
          obtain ⟨bb, N, c, hm, rfl, hlo, hlc, hN⟩ := ha'
          have hfit : j + len * i.size + new.length ≤ N := by
            have : (len + n) * i.size ≤ c * i.size := Nat.mul_le_mul_right _ (by omega)
            rw [Nat.add_mul] at this
            omega
          obtain ⟨g1, w', g2, g3, g4⟩ := writeMore_sim (P := P) fi2 r2 hfit h8 hm k4
          refine ⟨ρ, w', _, by rw [g1, k2]; exact Ext.refl _ _ _, fit_run (P := P) (w := w) (base := some ⟨bb, j, none⟩) e1 h1 rfl hx hi hn (by omega) k3 (by
            show (storeCells ((Addr.mk bb j none).add (len * i.size)) vn.toList).run P w = _
            rw [Addr.add_flat]; exact g2), ?_, g3, g4⟩
          simp only [VR]; exact ⟨bb, N, c, hm, rfl, hlo, by omega, hN⟩
      | false =>
        simp only [q] at h
        cases base with
        | none => cases h
        | some p =>
          obtain ⟨m, j⟩ := p
          cases j with
          | succ j => cases h
          | zero =>
            simp only at h
            obtain ⟨old, s3, h8, h⟩ := M.bind_inv h
            obtain ⟨ob, s4, h9, h⟩ := M.bind_inv h
            obtain ⟨h10, h⟩ := withB_inv h
            obtain ⟨u, s5, h11, h12⟩ := M.bind_inv h
            have ha' := ha
            simp only [VR] at ha'
            obtain ⟨bb, N, c, hm, rfl, hlo, hlc, hN⟩ := ha'
            obtain ⟨j1, j2, j3, j4, vo, j5, j6, j7⟩ := readCells_sim (P := P) fi2 r2 h8 hm
            obtain ⟨_, _, _, _, vo', j5', j6', _⟩ := readCells_sim (P := P) fi2 rd2 h8 hm
            obtain ⟨i1, i2, i3, i4⟩ := rdN_same h9
            obtain ⟨i5, i6, i7, i8, i9⟩ := wrN_same h11
            have hh : s4.h = s2.h := i3.trans j1
            have hnx : s4.nx = s.nx := (i4.trans j2).trans k2
            by_cases hq : len + n ≤ c
            · refine SimV.nx (s2 := s2) ?_ k2
              refine inplace_sim (P := P) (s := s2) (s2 := s5) (p := ob) (vo := vo) e1 h1 rfl hx hi hn hq r2 i6 (by rw [← j1]; exact i2) h10 hm (by omega) (by rw [k2]; exact hf) j3 hln (by rw [i8, hh]) (by rw [i9, hnx, k2]) k3 j7 j6 k4 h12
            · have hnl : s4.h.get m ≠ some .lent := by
                intro e
                rw [i3, i2] at e
                injection e with e; subst e; cases h10
              refine SimV.nx (s2 := s5) (grown_sim (P := P) rfl e1 h1 rfl hx h2 hz hn (by omega) (by rw [i8]; exact Rel.drop (by rw [hh]; exact r2) i6 hnl) (by rw [i9, hnx]; exact hf) j3 hln (by simpa [Builtin.firstCells] using j5') k3' (by simpa using j6') k4' h12) (by rw [i9, hnx])
end
end Go.Rn
