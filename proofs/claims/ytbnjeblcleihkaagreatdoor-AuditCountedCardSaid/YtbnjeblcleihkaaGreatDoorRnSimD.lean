/- Maps: what is asked, what is put, under names. -/
import Derived.Test.YtbnjeblcleihkaaGreatDoorRnSimC
namespace Go.Rn
open Go.RowKit
theorem sameKey_left {a b : AV} (h : sameKey a b = some true) (c : AV) : sameKey a c = sameKey b c := by
  unfold sameKey at h
  split at h <;> first | (cases h; done) | skip
  · rename_i k x k' y
    cases hk : decide (k = k') with
    | false => rw [hk] at h; cases h
    | true =>
      rw [hk] at h; injection h with h
      have e1 := of_decide_eq_true hk
      have e2 : x = y := by simpa using h
      rw [e1, e2]
  · rename_i x y
    injection h with h
    rw [bytes_beq] at h
    have e : x.toList = y.toList := by simpa using h
    cases c <;> first | rfl | simp only [sameKey, bytes_beq, e]
  · rename_i x y
    injection h with h
    have e : x = y := by simpa using h
    rw [e]
theorem sameKey_comm (a b : AV) : sameKey a b = sameKey b a := by
  cases a <;> cases b <;> first | rfl | skip
  · rename_i x y; cases x <;> cases y <;> rfl
  · rename_i k x k' y
    by_cases e : k = k'
    · subst e
      show (match decide (k = k) with | true => some (x == y) | false => none) = (match decide (k = k) with | true => some (y == x) | false => none)
      rw [decide_eq_true (rfl : k = k)]
      show some (x == y) = some (y == x)
      rw [BEq.comm]
    · show (match decide (k = k') with | true => some (x == y) | false => none) = (match decide (k' = k) with | true => some (y == x) | false => none)
      rw [decide_eq_false e, decide_eq_false (Ne.symm e)]
  · rename_i x y
    show some (x == y) = some (y == x)
    rw [bytes_beq, bytes_beq, BEq.comm]
theorem KeysApart.at {es : List (AV × AV)} (h : KeysApart es) {i j : Nat} {p q : AV × AV} (hi : es[i]? = some p) (hj : es[j]? = some q) (hne : i ≠ j) : sameKey p.1 q.1 = some false := by
  unfold KeysApart at h
  rw [List.pairwise_iff_getElem] at h
  obtain ⟨li, ei⟩ := List.getElem?_eq_some_iff.1 hi
  obtain ⟨lj, ej⟩ := List.getElem?_eq_some_iff.1 hj
  rcases Nat.lt_or_ge i j with q' | q'
  · have := (h i j li lj q').1; rw [ei, ej] at this; exact this
  · have := (h j i lj li (by omega)).2; rw [ei, ej] at this; exact this
theorem sameScalar {ρ : Ren} {a b : AV} {v u : Value} (h : sameKey a b = some true) (ha : VR ρ a v) (hb : VR ρ b u) (m : Nat) : Instr.sameBits m v u = true := by
  unfold sameKey at h
  split at h <;> first | (cases h; done) | skip
  · rename_i k x k' y
    cases hk : decide (k = k') with
    | false => rw [hk] at h; cases h
    | true =>
      rw [hk] at h; injection h with h
      simp only [VR] at ha hb; subst ha; subst hb
      have e1 := of_decide_eq_true hk
      subst e1
      cases m <;> simpa [Instr.sameBits] using h
  · injection h with h
    simp only [VR] at ha hb; subst ha; subst hb
    cases m <;> simpa [Instr.sameBits] using h
  · injection h with h
    simp only [VR] at ha hb; subst ha; subst hb
    cases m <;> simpa [Instr.sameBits] using h
theorem sameAll_sim {ρ : Ren} (m : Nat) : ∀ {xs ys : List AV} {vs us : List Value}, sameAll xs ys = true → VRs ρ xs vs → VRs ρ ys us → vs.length = us.length ∧ ((vs.zip us).all fun (x, y) => Instr.sameBits m x y) = true
  | [], [], vs, us, _, h1, h2 => by simp only [VRs] at h1 h2; subst h1; subst h2; simp
  | [], _ :: _, _, _, h, _, _ => by simp [sameAll] at h
  | _ :: _, [], _, _, h, _, _ => by simp [sameAll] at h
  | x :: xs, y :: ys, vs, us, h, h1, h2 => by
    simp only [VRs] at h1 h2
    obtain ⟨v, vs, rfl, a1, b1⟩ := h1
    obtain ⟨u, us, rfl, a2, b2⟩ := h2
    simp only [sameAll] at h
    cases e : sameKey x y with
    | none => rw [e] at h; cases h
    | some c =>
      cases c with
      | false => rw [e] at h; cases h
      | true =>
        rw [e] at h
        obtain ⟨p, q⟩ := sameAll_sim m h b1 b2
        exact ⟨by simp [p], by simp only [List.zip_cons_cons, List.all_cons, sameScalar e a1 a2 m, Bool.true_and]; exact q⟩
theorem sameBits_sim {ρ : Ren} {a b : AV} {v u : Value} (h : sameBits a b = true) (ha : VR ρ a v) (hb : VR ρ b u) (m : Nat) : Instr.sameBits (m + 1) v u = true := by
  unfold sameBits at h
  split at h
  · rename_i xs ys
    simp only [VR] at ha hb
    obtain ⟨vs, rfl, h1⟩ := ha
    obtain ⟨us, rfl, h2⟩ := hb
    obtain ⟨p, q⟩ := sameAll_sim m h h1 h2
    simp only [Instr.sameBits, Bool.and_eq_true, beq_iff_eq]
    exact ⟨by simpa using p, q⟩
  · split at h
    · rename_i e; exact sameScalar e ha hb _
    · cases h
theorem run_stays {P : Program} {w : World} {v u : Value} (h : Instr.sameBits 10000 v u = true) : (Instr.keyThatStays v u).run P w = .ok u w := by
  simp [Instr.keyThatStays, h]
theorem findNow_none {kd : TypeDesc} {v : Value} : ∀ {l : List MapEntry} {i : Nat}, (∀ e ∈ l, Instr.sameNow kd v e.key = some false) → Instr.findNow kd v l i = some none
  | [], _, _ => rfl
  | e :: l, i, h => by
    simp only [Instr.findNow, h e List.mem_cons_self]
    exact findNow_none fun e he => h e (List.mem_cons_of_mem _ he)
theorem findNow_some {kd : TypeDesc} {v : Value} : ∀ {l : List MapEntry} {i : Nat}, (∀ e ∈ l, ∃ c, Instr.sameNow kd v e.key = some c) → (∃ e ∈ l, Instr.sameNow kd v e.key = some true) →
    ∃ j e, l[j]? = some e ∧ Instr.sameNow kd v e.key = some true ∧ Instr.findNow kd v l i = some (some (i + j, e.val))
  | [], _, _, h => by obtain ⟨_, h, _⟩ := h; cases h
  | e :: l, i, h, k => by
    obtain ⟨c, hc⟩ := h e List.mem_cons_self
    cases c with
    | true => exact ⟨0, e, rfl, hc, by simp only [Instr.findNow, hc, Nat.add_zero]⟩
    | false =>
      obtain ⟨e2, h2, h3⟩ := k
      have h2' : e2 ∈ l := by
        rcases List.mem_cons.1 h2 with rfl | h2
        · rw [hc] at h3; cases h3
        · exact h2
      obtain ⟨j, e3, g1, g2, g3⟩ := findNow_some (i := i + 1) (fun e he => h e (List.mem_cons_of_mem _ he)) ⟨e2, h2', h3⟩
      exact ⟨j + 1, e3, by simpa using g1, g2, by simp only [Instr.findNow, hc]; rw [g3]; congr 3; omega⟩
section
variable {P : Program} {B : Base} {ρ : Ren} {w : World} {s s1 : AS} {x : AV} {call : Caller} {t : Tr AV} {ev : Operand → Value} {o : Oper}
theorem EQs.get : ∀ {es : List (AV × AV)} {l : List MapEntry} {i : Nat} {e : MapEntry}, EQs ρ es l → l[i]? = some e → ∃ p, es[i]? = some p ∧ VR ρ p.1 e.key ∧ VR ρ p.2 e.val
  | [], l, i, e, h, k => by have h' : l = [] := h; subst h'; simp at k
  | p :: es, l, i, e, h, k => by
    obtain ⟨e2, l2, rfl, h1, h2, h3⟩ := h
    cases i with
    | zero => simp at k; subst k; exact ⟨p, rfl, h1, h2⟩
    | succ i => simp at k; obtain ⟨q, g1, g2⟩ := h3.get k; exact ⟨q, by simpa using g1, g2⟩
theorem EQs.get' {es : List (AV × AV)} {l : List MapEntry} {i : Nat} {p : AV × AV} (h : EQs ρ es l) (k : es[i]? = some p) : ∃ e, l[i]? = some e ∧ VR ρ p.1 e.key ∧ VR ρ p.2 e.val := by
  obtain ⟨li, ei⟩ := List.getElem?_eq_some_iff.1 k
  have hl := h.length
  have hi : l[i]? = some (l[i]'(by omega)) := List.getElem?_eq_getElem _
  obtain ⟨q, g1, g2⟩ := h.get hi
  rw [k] at g1; cases g1
  exact ⟨_, hi, g2⟩
theorem findAny_sim {k : TypeId} {kd : TypeDesc} {key : AV} {v : Value} {es : List (AV × AV)} {l l' : List MapEntry} {r : Option (Nat × AV)} (hk : P.underlying k = some kd) (hp : plainKey P k key = true) (hv : VR ρ key v)
    (ka : KeysApart es) (he : EQs ρ es l') (hl : l.Perm l') (h : findPlain key es 0 = some r) :
    (r = none → Instr.findNow kd v l 0 = some none) ∧ (∀ j y, r = some (j, y) → ∃ j' e, Instr.findNow kd v l 0 = some (some (j', e.val)) ∧ l[j']? = some e ∧ l'[j]? = some e ∧ VR ρ y e.val ∧ ∃ p, es[j]? = some p ∧ sameKey key p.1 = some true) := by
  have at_ : ∀ e ∈ l, ∃ (j : Nat) (p : AV × AV), l'[j]? = some e ∧ es[j]? = some p ∧ VR ρ p.1 e.key ∧ VR ρ p.2 e.val := by
    intro e hm
    obtain ⟨j, hj, e1⟩ := List.getElem_of_mem (hl.mem_iff.1 hm)
    have hj' : l'[j]? = some e := by rw [List.getElem?_eq_getElem hj, e1]
    obtain ⟨p, g1, g2, g3⟩ := he.get hj'
    exact ⟨j, p, hj', g1, g2, g3⟩
  constructor
  · intro hr; subst hr
    refine findNow_none fun e hm => ?_
    obtain ⟨j, p, g1, g2, g3, g4⟩ := at_ e hm
    exact sameKey_sim hk hp (findPlain_none h p (List.mem_of_getElem? g2)) hv g3
  · intro j y hr; subst hr
    obtain ⟨_, q, h1, h2, h3⟩ := findPlain_some h
    rw [Nat.sub_zero] at h1
    have all : ∀ e ∈ l, ∃ (j2 : Nat) (p : AV × AV), l'[j2]? = some e ∧ es[j2]? = some p ∧ VR ρ p.2 e.val ∧ Instr.sameNow kd v e.key = some (decide (j2 = j)) := by
      intro e hm
      obtain ⟨j2, p, g1, g2, g3, g4⟩ := at_ e hm
      refine ⟨j2, p, g1, g2, g4, ?_⟩
      by_cases e2 : j2 = j
      · subst e2
        rw [h1] at g2; cases g2
        simp only [decide_true]
        exact sameKey_sim hk hp h3 hv g3
      · rw [decide_eq_false e2]
        refine sameKey_sim hk hp ?_ hv g3
        rw [sameKey_left h3]
        exact ka.at h1 g2 (Ne.symm e2)
    obtain ⟨e0, g1, g2, g3⟩ := he.get' h1
    have hm0 : e0 ∈ l := hl.mem_iff.2 (List.mem_of_getElem? g1)
    obtain ⟨j', e, f1, f2, f3⟩ := findNow_some (kd := kd) (v := v) (l := l) (i := 0) (fun e hm => let ⟨_, _, _, _, _, h⟩ := all e hm; ⟨_, h⟩) ⟨e0, hm0, sameKey_sim hk hp h3 hv g2⟩
    rw [Nat.zero_add] at f3
    obtain ⟨j2, p, a1, a2, a3, a4⟩ := all e (List.mem_of_getElem? f1)
    rw [f2] at a4; injection a4 with a4
    have e2 : j2 = j := by simpa using a4.symm
    subst e2
    rw [h1] at a2; cases a2
    exact ⟨j', e, f3, f1, a1, by rw [← h2]; exact a3, q, h1, h3⟩
theorem short_perm {es : List (AV × AV)} {l l' : List MapEntry} (h : short es = true) (he : EQs ρ es l') (hl : l.Perm l') : EQs ρ es l := by
  have hlen := he.length
  unfold short at h
  split at h <;> first | (cases h; done) | skip
  · have : l' = [] := by cases l' <;> first | rfl | simp at hlen
    subst this
    rw [List.perm_nil.1 hl]; exact he
  · match l', hlen, hl, he with
    | [e], _, hl, he => rw [List.perm_singleton.1 hl]; exact he
theorem VR.okV {ok b : Bool} {y : AV} {v : Value} (h : VR ρ y v) : VR ρ (okV ok y b) (if ok = true then .tuple #[v, .bool b] else v) := by
  cases ok with
  | false => exact h
  | true => simp only [Rn.okV, if_true, VR, VRs]; exact ⟨_, rfl, v, _, rfl, h, .bool b, _, rfl, rfl, rfl⟩
theorem keyOk_kind : ∀ {d : Nat} {k : TypeId} {key : AV}, keyOk P d k key = true → ∃ kd, P.underlying k = some kd
  | 0, _, _, h => by simp only [keyOk] at h; cases h
  | d + 1, k, key, h => by
    simp only [keyOk] at h
    cases q : P.underlying k with
    | none => rw [q] at h; cases h
    | some kd => exact ⟨kd, rfl⟩
theorem lookupT_sim {ty : TypeId} {a key : AV} {ok : Bool} {va vk : Value} (ha : VR ρ a va) (hkey : VR ρ key vk) (fi : Fine s) (r : Rel B ρ s.h w) (h : lookupT P ty a key ok s = .ok x s1) :
    SimV P B ρ s s1 w x (Instr.lookup ty va vk ok) := by
  unfold lookupT at h
  cases e1 : P.underlying ty with
  | none => simp only [e1] at h; cases h
  | some d =>
    cases d <;> simp only [e1] at h <;> first | (cases h; done) | skip
    rename_i k e
    obtain ⟨es, s2, h1, h2⟩ := M.bind_inv h
    obtain ⟨h3, h4⟩ := withB_inv h2
    obtain ⟨f, h5, h6⟩ := withO_inv h4
    have hkd : ∃ kd, P.underlying k = some kd := by
      exact keyOk_kind h3
    obtain ⟨kd, hkd⟩ := hkd
    have hck : ∀ em, (Instr.checkKey em 10000 k vk).run P w = .ok () w := fun em => keyOk_sim h3 hkey
    have main : ∃ l : Array MapEntry, ((va = .map none ∧ l = #[]) ∨ ∃ b clock, va = .map (some b) ∧ w.heap[b]? = some (.map l clock)) ∧ s2.h = s.h ∧ s2.nx = s.nx ∧
        ∃ r', (Instr.findKey k vk l.toList).run P w = .ok r' w ∧ (f = none → r' = none) ∧ (∀ j y, f = some (j, y) → ∃ j' z, r' = some (j', z) ∧ VR ρ y z) := by
      have exact : ∀ l : Array MapEntry, EQs ρ es l.toList → ∃ r', (Instr.findKey k vk l.toList).run P w = .ok r' w ∧ (f = none → r' = none) ∧ (∀ j y, f = some (j, y) → ∃ j' z, r' = some (j', z) ∧ VR ρ y z) := by
        intro l he
        obtain ⟨r', g1, g2⟩ := findKey_sim (P := P) (w := w) hkd hkey he h5
        refine ⟨r', g1, fun q => by subst q; exact g2, fun j y q => ?_⟩
        subst q
        obtain ⟨z, _, _, q1, q2, _⟩ := g2
        exact ⟨j, z, q1, q2⟩
      unfold mapFor at h1
      split at h1
      · obtain ⟨rfl, rfl⟩ := pure_inv h1
        simp only [VR] at ha; subst ha
        exact ⟨#[], .inl ⟨rfl, rfl⟩, rfl, rfl, exact #[] rfl⟩
      · rename_i m
        obtain ⟨ob, s3, h7, h8⟩ := M.bind_inv h1
        obtain ⟨hx, hg, hh, hnx⟩ := rdN_same h7
        have ht : m < top := Nat.lt_of_lt_of_le hx fi.nx
        simp only [VR] at ha
        obtain ⟨b, N, hm, rfl⟩ := ha
        obtain ⟨o', hb, hO, _⟩ := r.block ht hg hm
        cases ob with
        | map es' clock =>
          obtain ⟨rfl, rfl⟩ := pure_inv h8
          obtain ⟨l, rfl, _, q⟩ := hO
          exact ⟨l, .inr ⟨b, clock, rfl, hb⟩, hh, hnx, exact l q.eqs⟩
        | mapAny es' =>
          obtain ⟨h9, h10⟩ := withB_inv h8
          obtain ⟨rfl, rfl⟩ := pure_inv h10
          obtain ⟨l, clock, rfl, ka, _, l', hp, he⟩ := hO
          refine ⟨l, .inr ⟨b, clock, rfl, hb⟩, hh, hnx, ?_⟩
          cases q : plainKey P k key with
          | false =>
            rw [q] at h9
            exact exact l (short_perm h9 he hp)
          | true =>
            unfold findKey at h5
            have hz : noZ _ = true := noZ_of h5
            simp only [hz] at h5
            simp only [q] at h5
            obtain ⟨g1, g2⟩ := findAny_sim hkd q hkey ka he hp h5
            cases f with
            | none => exact ⟨none, MapKept.run_findKey hkd (g1 rfl), (fun _ => rfl), (fun j y e => by cases e)⟩
            | some p =>
              obtain ⟨j, y⟩ := p
              obtain ⟨j', e, f1, _, _, f2, _⟩ := g2 j y rfl
              exact ⟨some (j', e.val), MapKept.run_findKey hkd f1, (fun e => by cases e), (fun j y e2 => by cases e2; exact ⟨j', _, rfl, f2⟩)⟩
        | _ => cases h8
      · cases h1
    obtain ⟨l, m1, m2, m3, r', m4, m5, m6⟩ := main
    cases f with
    | some p =>
      obtain ⟨j, y⟩ := p
      obtain ⟨rfl, rfl⟩ := pure_inv h6
      obtain ⟨j', z, rfl, hz⟩ := m6 j y rfl
      refine ⟨ρ, w, _, by rw [m3]; exact Ext.refl _ _ _, ?_, hz.okV, by rw [m2]; exact r, Bel.refl _ _⟩
      rcases m1 with ⟨rfl, rfl⟩ | ⟨b, clock, rfl, hb⟩
      · simp only [Instr.lookup, Sem.run_bind, run_underlying_of e1, Result.andThen_ok, hck, m4, Sem.run_pure]
      · simp only [Instr.lookup, Sem.run_bind, run_underlying_of e1, Result.andThen_ok, MapKept.run_getObj_map hb, hck, m4, Sem.run_pure]
    | none =>
      obtain ⟨z, h7, h8⟩ := withO_inv h6
      obtain ⟨rfl, rfl⟩ := pure_inv h8
      have := m5 rfl
      subst this
      obtain ⟨vz, g1, g2⟩ := run_zero_of (P := P) (w := w) ρ h7
      refine ⟨ρ, w, _, by rw [m3]; exact Ext.refl _ _ _, ?_, g2.okV, by rw [m2]; exact r, Bel.refl _ _⟩
      rcases m1 with ⟨rfl, rfl⟩ | ⟨b, clock, rfl, hb⟩
      · simp only [Instr.lookup, Sem.run_bind, run_underlying_of e1, Result.andThen_ok, hck, m4, Sem.run_pure, g1]
      · simp only [Instr.lookup, Sem.run_bind, run_underlying_of e1, Result.andThen_ok, MapKept.run_getObj_map hb, hck, m4, Sem.run_pure, g1]
theorem sim_kLookup {ty : TypeId} {y z : Operand} {ok : Bool} (he : ∀ x v, opd t x = some v → VR ρ v (ev x)) (fi : Fine s) (r : Rel B ρ s.h w) (h : kLookup P ty y z ok call t s = .ok x s1) (ho : o.op = .lookup ty y z ok) : SimOp P B ρ s s1 w x (execOp ev o) := by
  unfold kLookup at h
  obtain ⟨a, h1, h2⟩ := withO_inv h
  obtain ⟨b, h3, h4⟩ := withO_inv h2
  have := (lookupT_sim (P := P) (he y a h1) (he z b h3) fi r h4).op
  simpa only [execOp, ho] using this
end
end Go.Rn

namespace Go.Rn
open Go.RowKit
theorem putAt_get : ∀ (es : List (AV × AV)) (i j : Nat) (k v : AV), (putAt es i k v)[j]? = if j = i then (es[j]?).map (fun _ => (k, v)) else es[j]?
  | [], i, j, k, v => by simp [putAt]
  | p :: es, 0, j, k, v => by cases j <;> simp [putAt]
  | p :: es, i + 1, j, k, v => by
    cases j with
    | zero => simp [putAt]
    | succ j => simp [putAt, putAt_get es i j k v]
theorem putAt_length : ∀ (es : List (AV × AV)) (i : Nat) (k v : AV), (putAt es i k v).length = es.length
  | [], _, _, _ => rfl
  | _ :: _, 0, _, _ => rfl
  | _ :: es, i + 1, k, v => by simp [putAt, putAt_length es i k v]
def setEntry (k v : Value) (e : MapEntry) : MapEntry := { e with key := k, val := v }
theorem ERs.put {ρ : Ren} {key val : AV} {vk vv : Value} (hk : VR ρ key vk) (hv : VR ρ val vv) : ∀ {es : List (AV × AV)} {l : List MapEntry} {n i : Nat}, ERs ρ es l n → ERs ρ (putAt es i key val) (l.modify i (setEntry vk vv)) n
  | [], l, n, i, h => by have h' : l = [] := h; subst h'; cases i <;> rfl
  | p :: es, l, n, 0, h => by
    obtain ⟨e, l', rfl, a, b, c, d⟩ := h
    exact ⟨setEntry vk vv e, l', rfl, hk, hv, c, d⟩
  | p :: es, l, n, i + 1, h => by
    obtain ⟨e, l', rfl, a, b, c, d⟩ := h
    exact ⟨e, l'.modify i (setEntry vk vv), rfl, a, b, c, d.put hk hv⟩
theorem EQs.put {ρ : Ren} {key val : AV} {vk vv : Value} (hk : VR ρ key vk) (hv : VR ρ val vv) : ∀ {es : List (AV × AV)} {l : List MapEntry} {i : Nat}, EQs ρ es l → EQs ρ (putAt es i key val) (l.modify i (setEntry vk vv))
  | [], l, i, h => by have h' : l = [] := h; subst h'; cases i <;> rfl
  | p :: es, l, 0, h => by
    obtain ⟨e, l', rfl, a, b, d⟩ := h
    exact ⟨setEntry vk vv e, l', rfl, hk, hv, d⟩
  | p :: es, l, i + 1, h => by
    obtain ⟨e, l', rfl, a, b, d⟩ := h
    exact ⟨e, l'.modify i (setEntry vk vv), rfl, a, b, d.put hk hv⟩
theorem ERs.push {ρ : Ren} {key val : AV} {e : MapEntry} (hk : VR ρ key e.key) (hv : VR ρ val e.val) : ∀ {es : List (AV × AV)} {l : List MapEntry} {n : Nat}, ERs ρ es l n → e.born = n + es.length → ERs ρ (es ++ [(key, val)]) (l ++ [e]) n
  | [], l, n, h, hb => by have h' : l = [] := h; subst h'; exact ⟨e, [], rfl, hk, hv, hb, rfl⟩
  | p :: es, l, n, h, hb => by
    obtain ⟨e2, l', rfl, a, b, c, d⟩ := h
    exact ⟨e2, l' ++ [e], rfl, a, b, c, d.push hk hv (by simp at hb; omega)⟩
theorem EQs.push {ρ : Ren} {key val : AV} {e : MapEntry} (hk : VR ρ key e.key) (hv : VR ρ val e.val) : ∀ {es : List (AV × AV)} {l : List MapEntry}, EQs ρ es l → EQs ρ (es ++ [(key, val)]) (l ++ [e])
  | [], l, h => by have h' : l = [] := h; subst h'; exact ⟨e, [], rfl, hk, hv, rfl⟩
  | p :: es, l, h => by
    obtain ⟨e2, l', rfl, a, b, d⟩ := h
    exact ⟨e2, l' ++ [e], rfl, a, b, d.push hk hv⟩
theorem KeysApart.of {es : List (AV × AV)} (h : ∀ (i j : Nat) (p q : AV × AV), i ≠ j → es[i]? = some p → es[j]? = some q → sameKey p.1 q.1 = some false) : KeysApart es := by
  unfold KeysApart
  rw [List.pairwise_iff_getElem]
  intro i j hi hj hij
  exact ⟨h i j _ _ (by omega) (List.getElem?_eq_getElem hi) (List.getElem?_eq_getElem hj), h j i _ _ (by omega) (List.getElem?_eq_getElem hj) (List.getElem?_eq_getElem hi)⟩
theorem KeysApart.put {es : List (AV × AV)} (h : KeysApart es) {i : Nat} {p : AV × AV} {key val : AV} (hi : es[i]? = some p) (hk : sameKey key p.1 = some true) : KeysApart (putAt es i key val) := by
  refine KeysApart.of fun j k a b hjk ha hb => ?_
  rw [putAt_get] at ha hb
  by_cases e1 : j = i
  · have e2 : k ≠ i := by omega
    rw [if_pos e1, e1, hi] at ha
    rw [if_neg e2] at hb
    simp only [Option.map_some, Option.some.injEq] at ha
    rw [← ha]
    show sameKey key b.1 = some false
    rw [sameKey_left hk]; exact h.at hi hb (Ne.symm e2)
  · rw [if_neg e1] at ha
    by_cases e2 : k = i
    · rw [if_pos e2, e2, hi] at hb
      simp only [Option.map_some, Option.some.injEq] at hb
      rw [← hb]
      show sameKey a.1 key = some false
      rw [sameKey_comm, sameKey_left hk]; exact h.at hi ha (Ne.symm e1)
    · rw [if_neg e2] at hb; exact h.at ha hb hjk
theorem KeysApart.push {es : List (AV × AV)} (h : KeysApart es) {key val : AV} (hk : ∀ p ∈ es, sameKey key p.1 = some false) : KeysApart (es ++ [(key, val)]) := by
  unfold KeysApart at h ⊢
  rw [List.pairwise_append]
  refine ⟨h, by simp, fun a ha b hb => ?_⟩
  simp only [List.mem_singleton] at hb
  subst hb
  exact ⟨by rw [sameKey_comm]; exact hk a ha, hk a ha⟩
theorem mod_perm {α : Type} (f : α → α) : ∀ {l : List α} {j : Nat} {e : α}, l[j]? = some e → l.Perm (e :: l.eraseIdx j) ∧ (l.modify j f).Perm (f e :: l.eraseIdx j)
  | [], j, e, h => by simp at h
  | a :: l, 0, e, h => by simp at h; subst h; exact ⟨List.Perm.refl _, List.Perm.refl _⟩
  | a :: l, j + 1, e, h => by
    simp at h
    obtain ⟨p, q⟩ := mod_perm f h
    refine ⟨?_, ?_⟩
    · exact (p.cons a).trans (List.Perm.swap _ _ _)
    · rw [List.modify_succ_cons]
      exact (q.cons a).trans (List.Perm.swap _ _ _)
theorem mod_perms {α : Type} (f : α → α) {l l' : List α} {i j : Nat} {e : α} (hl : l.Perm l') (hi : l[i]? = some e) (hj : l'[j]? = some e) : (l.modify i f).Perm (l'.modify j f) := by
  obtain ⟨p, q⟩ := mod_perm f hi
  obtain ⟨p', q'⟩ := mod_perm f hj
  have := ((p.symm.trans hl).trans p').cons_inv
  exact (q.trans (this.cons _)).trans q'.symm
theorem born_modify (k v : Value) : ∀ (l : List MapEntry) (i : Nat), (l.modify i (setEntry k v)).map (·.born) = l.map (·.born)
  | [], i => by cases i <;> rfl
  | e :: l, 0 => rfl
  | e :: l, i + 1 => by rw [List.modify_succ_cons]; simp [born_modify k v l i]
theorem BornOk.modify {l : List MapEntry} {clock : Nat} (h : BornOk l clock) (k v : Value) (i : Nat) : BornOk (l.modify i (setEntry k v)) clock := by
  refine ⟨by rw [born_modify]; exact h.1, fun e he => ?_⟩
  have : e.born ∈ (l.modify i (setEntry k v)).map (·.born) := List.mem_map_of_mem he
  rw [born_modify] at this
  obtain ⟨e2, h2, h3⟩ := List.mem_map.1 this
  rw [← h3]; exact h.2 e2 h2
theorem BornOk.push {l : List MapEntry} {clock : Nat} (h : BornOk l clock) {e : MapEntry} (he : e.born = clock) : BornOk (l ++ [e]) (clock + 1) := by
  refine ⟨?_, fun e2 h2 => ?_⟩
  · rw [List.map_append, List.nodup_append]
    refine ⟨h.1, by simp, fun a ha b hb => ?_⟩
    simp only [List.map_cons, List.map_nil, List.mem_singleton] at hb
    obtain ⟨e2, h2, h3⟩ := List.mem_map.1 ha
    have := h.2 e2 h2
    omega
  · rcases List.mem_append.1 h2 with h2 | h2
    · have := h.2 e2 h2; omega
    · simp only [List.mem_singleton] at h2; subst h2; omega
section
variable {P : Program} {B : Base} {ρ : Ren} {w : World} {s s1 : AS} {x : AV} {call : Caller} {t : Tr AV} {ev : Operand → Value} {o : Oper}
theorem setObj_only {w : World} {b : Nat} {o o' : Obj} (hb : w.heap[b]? = some o) :
    OnlyAt b w { w with heap := w.heap.setIfInBounds b o' } ∧ ({ w with heap := w.heap.setIfInBounds b o' } : World).heap[b]? = some o' := by
  refine ⟨⟨rfl, rfl, rfl, by simp, fun k hk => ?_⟩, ?_⟩
  · show (w.heap.setIfInBounds b o')[k]? = w.heap[k]?
    rw [Array.getElem?_setIfInBounds_ne (by omega)]
  · show (w.heap.setIfInBounds b o')[b]? = some o'
    exact Array.getElem?_setIfInBounds_self_of_lt (heap_lt hb)
theorem mapPut_sim {ty : TypeId} {m key val : AV} {vm vk vv : Value} {u : Unit} (hm : VR ρ m vm) (hkey : VR ρ key vk) (hval : VR ρ val vv) (fi : Fine s) (r : Rel B ρ s.h w) (h : mapPut P ty m key val s = .ok u s1) :
    s1.nx = s.nx ∧ ∃ w', (Instr.mapUpdate ty vm vk vv).run P w = .ok () w' ∧ Rel B ρ s1.h w' ∧ Bel B w w' := by
  unfold mapPut at h
  cases e1 : P.underlying ty with
  | none => simp only [e1] at h; cases h
  | some d =>
    cases d <;> simp only [e1] at h <;> first | (cases h; done) | skip
    rename_i k e
    cases m <;> first | (cases h; done) | skip
    rename_i q
    cases q with
    | none => cases h
    | some n =>
      simp only [VR] at hm
      obtain ⟨b, N, hn, rfl⟩ := hm
      obtain ⟨ob, s2, h1, h2⟩ := M.bind_inv h
      obtain ⟨hx, hg, hh, hnx⟩ := rdN_same h1
      have ht : n < top := Nat.lt_of_lt_of_le hx fi.nx
      obtain ⟨o', hb, hO, hB⟩ := r.block ht hg hn
      cases ob with
      | map es clock =>
        obtain ⟨h3, h4⟩ := withB_inv h2
        obtain ⟨f, h5, h6⟩ := withO_inv h4
        obtain ⟨l, rfl, hclock, he⟩ := hO
        obtain ⟨kd, hkd⟩ := keyOk_kind h3
        have hck : ∀ em, (Instr.checkKey em 10000 k vk).run P w = .ok () w := fun em => keyOk_sim h3 hkey
        obtain ⟨r', g1, g2⟩ := findKey_sim (P := P) (w := w) hkd hkey he.eqs h5
        cases f with
        | some p =>
          obtain ⟨j, y⟩ := p
          obtain ⟨z, q, e0, rfl, _, _, q1, q2, q3, _, _⟩ := g2
          rw [Nat.sub_zero] at q1 q2
          obtain ⟨old, h7, h8⟩ := withO_inv (show (withO es[j]? fun old => withB (sameBits old.1 key) <| wrN n (some (.map (putAt es j key val) clock))) s2 = .ok u s1 from h6)
          obtain ⟨h9, h10⟩ := withB_inv h8
          rw [q1] at h7; cases h7
          have hstay := sameBits_sim h9 q3 hkey 9999
          obtain ⟨_, _, _, i1, i2⟩ := wrN_same h10
          obtain ⟨g3, g4⟩ := setObj_only (o' := .map (l.modify j (setEntry vk vv)) clock) hb
          refine ⟨by rw [i2, hnx], _, ?_, ?_, g3.below (hB rfl)⟩
          · have hl : l[j]? = some e0 := by simpa using q2
            simp only [Instr.mapUpdate, Sem.run_bind, run_underlying_of e1, Result.andThen_ok, MapKept.run_getObj_map hb, hck, g1, hl, Option.map_some, Option.getD_some, run_stays hstay, MapKept.run_setObj_map _ hb]
            rfl
          · rw [i1, hh]
            refine r.put ht hg rfl rfl hn rfl g3 g4 ⟨_, rfl, by rw [putAt_length]; exact hclock, ?_⟩
            rw [Array.toList_modify]; exact he.put hkey hval
        | none =>
          have g2' : r' = none := g2
          subst g2'
          obtain ⟨_, _, _, i1, i2⟩ := wrN_same (show wrN n (some (.map (es ++ [(key, val)]) (clock + 1))) s2 = .ok u s1 from h6)
          obtain ⟨g3, g4⟩ := setObj_only (o' := .map (l.push { key := vk, val := vv, born := clock }) (clock + 1)) hb
          refine ⟨by rw [i2, hnx], _, ?_, ?_, g3.below (hB rfl)⟩
          · simp only [Instr.mapUpdate, Sem.run_bind, run_underlying_of e1, Result.andThen_ok, MapKept.run_getObj_map hb, hck, g1, MapKept.run_setObj_map _ hb]
          · rw [i1, hh]
            refine r.put ht hg rfl rfl hn rfl g3 g4 ⟨_, rfl, by simp [hclock], ?_⟩
            rw [Array.toList_push]
            exact he.push hkey hval (by simp [hclock])
      | mapAny es =>
        obtain ⟨h3, h4⟩ := withB_inv h2
        obtain ⟨f, h5, h6⟩ := withO_inv h4
        obtain ⟨hp, hko⟩ := and_true.1 h3
        obtain ⟨l, clock, rfl, ka, hbo, l', hl, he⟩ := hO
        obtain ⟨kd, hkd⟩ := keyOk_kind hko
        have hck : ∀ em, (Instr.checkKey em 10000 k vk).run P w = .ok () w := fun em => keyOk_sim hko hkey
        unfold findKey at h5
        have hz : noZ _ = true := noZ_of h5
        simp only [hz] at h5
        simp only [hp] at h5
        obtain ⟨f1, f2⟩ := findAny_sim hkd hp hkey ka he hl h5
        cases f with
        | some p =>
          obtain ⟨j, y⟩ := p
          obtain ⟨j', e0, a1, a2, a3, a4, q, a5, a6⟩ := f2 j y rfl
          obtain ⟨_, _, _, i1, i2⟩ := wrN_same (show wrN n (some (.mapAny (putAt es j key val))) s2 = .ok u s1 from h6)
          obtain ⟨g3, g4⟩ := setObj_only (o' := .map (l.modify j' (setEntry vk vv)) clock) hb
          have hq : VR ρ q.1 e0.key := by
            obtain ⟨q', b1, b2, _⟩ := he.get a3
            rw [a5] at b1; cases b1; exact b2
          have hstay : Instr.sameBits 10000 e0.key vk = true := sameScalar (by rw [sameKey_comm]; exact a6) hq hkey 10000
          refine ⟨by rw [i2, hnx], _, ?_, ?_, g3.below (hB rfl)⟩
          · have hl2 : l[j']? = some e0 := by simpa using a2
            simp only [Instr.mapUpdate, Sem.run_bind, run_underlying_of e1, Result.andThen_ok, MapKept.run_getObj_map hb, hck, MapKept.run_findKey hkd a1, hl2, Option.map_some, Option.getD_some, run_stays hstay, MapKept.run_setObj_map _ hb]
            rfl
          · rw [i1, hh]
            refine r.put ht hg rfl rfl hn rfl g3 g4 ⟨_, _, rfl, ka.put a5 a6, ?_, l'.modify j (setEntry vk vv), ?_, he.put hkey hval⟩
            · rw [Array.toList_modify]; exact hbo.modify _ _ _
            · rw [Array.toList_modify]; exact mod_perms _ hl a2 a3
        | none =>
          obtain ⟨_, _, _, i1, i2⟩ := wrN_same (show wrN n (some (.mapAny (es ++ [(key, val)]))) s2 = .ok u s1 from h6)
          obtain ⟨g3, g4⟩ := setObj_only (o' := .map (l.push { key := vk, val := vv, born := clock }) (clock + 1)) hb
          refine ⟨by rw [i2, hnx], _, ?_, ?_, g3.below (hB rfl)⟩
          · simp only [Instr.mapUpdate, Sem.run_bind, run_underlying_of e1, Result.andThen_ok, MapKept.run_getObj_map hb, hck, MapKept.run_findKey hkd (f1 rfl), MapKept.run_setObj_map _ hb]
          · rw [i1, hh]
            refine r.put ht hg rfl rfl hn rfl g3 g4 ⟨_, _, rfl, ka.push (findPlain_none h5), ?_, l' ++ [{ key := vk, val := vv, born := clock }], ?_, EQs.push (e := { key := vk, val := vv, born := clock }) hkey hval he⟩
            · rw [Array.toList_push]; exact hbo.push rfl
            · rw [Array.toList_push]; exact hl.append_right _
      | _ => cases h2
theorem sim_kMapPut {ty : TypeId} {a b c : Operand} (he : ∀ x v, opd t x = some v → VR ρ v (ev x)) (fi : Fine s) (r : Rel B ρ s.h w) (h : kMapPut P ty a b c call t s = .ok x s1) (ho : o.op = .mapUpdate ty a b c ∨ o.op = .insert ty a b c) : SimOp P B ρ s s1 w x (execOp ev o) := by
  unfold kMapPut at h
  obtain ⟨m, h1, h2⟩ := withO_inv h
  obtain ⟨k, h3, h4⟩ := withO_inv h2
  obtain ⟨v, h5, h6⟩ := withO_inv h4
  obtain ⟨u, s2, h7, h8⟩ := M.bind_inv h6
  obtain ⟨rfl, rfl⟩ := pure_inv h8
  obtain ⟨a1, w', a2, a3, a4⟩ := mapPut_sim (P := P) (he a m h1) (he b k h3) (he c v h5) fi r h7
  refine ⟨ρ, w', .skip, by rw [a1]; exact Ext.refl _ _ _, ?_, rfl, a3, a4⟩
  rcases ho with ho | ho <;> simp [execOp, ho, a2]
end
end Go.Rn

namespace Go.Rn
open Go.RowKit
section
variable {P : Program} {B : Base} {ρ : Ren} {w : World} {s s1 : AS} {x : AV} {call : Caller} {t : Tr AV} {ev : Operand → Value} {o : Oper}
theorem ERs.born : ∀ {es : List (AV × AV)} {l : List MapEntry} {n : Nat}, ERs ρ es l n → l.map (·.born) = List.range' n es.length
  | [], l, n, h => by have h' : l = [] := h; subst h'; rfl
  | p :: es, l, n, h => by
    obtain ⟨e, l', rfl, a, b, c, d⟩ := h
    rw [List.map_cons, c, d.born, List.length_cons, List.range'_succ]
theorem ERs.bornOk {es : List (AV × AV)} {l : List MapEntry} (h : ERs ρ es l 0) : BornOk l es.length := by
  have hb := h.born
  refine ⟨by rw [hb]; exact List.nodup_range', fun e he => ?_⟩
  have : e.born ∈ l.map (·.born) := List.mem_map_of_mem he
  rw [hb, List.mem_range'_1] at this
  omega
theorem Rel.lend {h : Tr AObj} (r : Rel B ρ h w) {n m : Nat} {p : AObj} {b N : Nat} {es : List (AV × AV)} {ex : Bool} {l : Array MapEntry} {clock : Nat} (htn : n < top) (hnn : ρ n = none) (htm : m < top) (hg : h.get m = some p) (hp : p.plain = true) (hro : p.isRo = false)
    (hm : ρ m = some (b, N)) (hb : w.heap[b]? = some (.map l clock)) (hbo : BornOk l.toList clock) (h1 : ex = true → clock = es.length ∧ ERs ρ es l.toList 0) (h2 : ex = false → KeysApart es ∧ EPs ρ es l.toList) (h3 : EPs ρ es l.toList) :
    Rel B (updR ρ n (w.heap.size, 1)) ((h.put m (some .lent)).put n (some (.iter m es ex es none))) { w with heap := w.heap.push (.mapIter (some b) clock #[] clock) } := by
  have hl : ρ.le (updR ρ n (w.heap.size, 1)) := updR_le hnn
  have hmn : m ≠ n := by intro e; subst e; rw [hm] at hnn; cases hnn
  have hno : h.get n = none := by
    cases e : h.get n with
    | none => rfl
    | some p => obtain ⟨_, _, _, h1, _⟩ := r.is n p htn e; rw [hnn] at h1; cases h1
  have g : ∀ k, k < top → ((h.put m (some .lent)).put n (some (.iter m es ex es none))).get k = if k = n then some (.iter m es ex es none) else if k = m then some .lent else h.get k := by
    intro k hk
    rw [Tr.get_put _ _ _ _ htn hk, Tr.get_put _ _ _ _ htm hk]
  have hw : ∀ k, k < w.heap.size → (w.heap.push (.mapIter (some b) clock #[] clock))[k]? = w.heap[k]? := (Grew.alloc w _).block
  obtain ⟨_, _, _, hB⟩ := r.block htm hg hm
  have size : ∀ k q, k < top → h.get k = some q → ∀ b1 N1, ρ k = some (b1, N1) → b1 < w.heap.size := by
    intro k q hk hq b1 N1 e
    obtain ⟨b2, N2, o2, e1, e2, _⟩ := r.is k q hk hq
    rw [e] at e1; cases e1; exact heap_lt e2
  have old : ∀ k q, k < top → (if k = m then some AObj.lent else h.get k) = some q → ∃ q', h.get k = some q' ∧ (q.isRo = false → q'.isRo = false) := by
    intro k q hk hq
    by_cases e : k = m
    · subst e; exact ⟨p, hg, fun _ => hro⟩
    · rw [if_neg e] at hq; exact ⟨q, hq, id⟩
  refine ⟨?_, ?_, ?_, fun k hk => r.size k (Nat.le_trans (by simp) hk), ?_, r.fz.of hl (fun b1 hb1 _ => hw b1 hb1) (fun b1 hb1 hn j q M hj hq hqr e => by
    rw [g j hj] at hq
    by_cases a : j = n
    · subst a; rw [updR_self] at e; cases e; exact absurd hb1 (Nat.lt_irrefl _)
    · rw [if_neg a] at hq
      rw [updR_ne ρ _ a] at e
      obtain ⟨q', e1, e2⟩ := old j q hj hq
      exact hn j q' M hj e1 (e2 hqr) e)⟩
  · intro k q hk hq
    rw [g k hk] at hq
    by_cases e : k = n
    · subst e; rw [if_pos rfl] at hq; cases hq
      refine ⟨w.heap.size, 1, .mapIter (some b) clock #[] clock, updR_self _ _ _, by simp, ?_, fun _ => r.size _ (Nat.le_refl _)⟩
      exact ⟨b, N, clock, #[], hl _ _ hm, rfl⟩
    · rw [if_neg e] at hq
      by_cases e2 : k = m
      · subst e2; rw [if_pos rfl] at hq; cases hq
        exact ⟨b, N, _, hl _ _ hm, (hw b (heap_lt hb)).trans hb, ⟨l, clock, rfl⟩, fun _ => hB hro⟩
      · rw [if_neg e2] at hq
        obtain ⟨b1, N1, o1, c1, c2, c3, c4⟩ := r.is k q hk hq
        exact ⟨b1, N1, o1, hl _ _ c1, (hw b1 (heap_lt c2)).trans c2, c3.mono hl, c4⟩
  · intro k j q q' b1 N1 M1 hk hj hq hq' hor e1 e2
    rw [g k hk] at hq; rw [g j hj] at hq'
    by_cases a1 : k = n
    · by_cases a2 : j = n
      · omega
      · rw [if_neg a2] at hq'
        subst a1; rw [updR_self] at e1; cases e1
        rw [updR_ne ρ _ a2] at e2
        obtain ⟨q2, hq2, hr2⟩ := old j q' hj hq'
        exact absurd (size j q2 hj hq2 _ _ e2) (Nat.lt_irrefl _)
    · rw [if_neg a1] at hq
      rw [updR_ne ρ _ a1] at e1
      obtain ⟨q1, hq1, hr1⟩ := old k q hk hq
      by_cases a2 : j = n
      · subst a2; rw [updR_self] at e2; cases e2
        exact absurd (size k q1 hk hq1 _ _ e1) (Nat.lt_irrefl _)
      · rw [if_neg a2] at hq'
        rw [updR_ne ρ _ a2] at e2
        obtain ⟨q2, hq2, hr2⟩ := old j q' hj hq'
        exact r.one k j q1 q2 b1 N1 M1 hk hj hq1 hq2 (hor.imp hr1 hr2) e1 e2
  · intro i m' es' ex' left cur hi hq
    rw [g i hi] at hq
    by_cases e : i = n
    · subst e; rw [if_pos rfl] at hq; cases hq
      refine ⟨htm, by rw [g m htm, if_neg hmn, if_pos rfl], ?_⟩
      refine ⟨w.heap.size, 1, b, N, l, clock, #[], updR_self _ _ _, hl _ _ hm, by simp, (hw b (heap_lt hb)).trans hb, hbo, fun e => ⟨(h1 e).1, (h1 e).2.mono hl⟩, fun e => ⟨(h2 e).1, (h2 e).2.mono hl⟩, ?_, rfl⟩
      have : (l.toList.filter fun e => !(#[] : Array Nat).contains e.born) = l.toList := List.filter_eq_self.2 (by simp)
      rw [this]; exact h3.mono hl
    · rw [if_neg e] at hq
      by_cases e2 : i = m
      · subst e2; rw [if_pos rfl] at hq; cases hq
      · rw [if_neg e2] at hq
        obtain ⟨hm', hlent, b1, N1, bm, M, l1, clock1, seen, c1, c2, c3, c4, c5⟩ := r.iter i m' es' ex' left cur hi hq
        have d1 : m' ≠ n := by intro e3; subst e3; rw [hno] at hlent; cases hlent
        refine ⟨hm', ?_, Under.mono hl ⟨b1, N1, bm, M, l1, clock1, seen, c1, c2, (hw b1 (heap_lt c3)).trans c3, (hw bm (heap_lt c4)).trans c4, c5⟩⟩
        rw [g m' hm', if_neg d1]
        by_cases d2 : m' = m
        · rw [if_pos d2]
        · rw [if_neg d2]; exact hlent
  · have new : ∀ i, i < top → ∀ es1 ex1 left1 cur1, (if i = m then some AObj.lent else h.get i) ≠ some (.iter m es1 ex1 left1 cur1) := by
      intro i hi es1 ex1 left1 cur1 hq
      by_cases e : i = m
      · rw [if_pos e] at hq; cases hq
      · rw [if_neg e] at hq
        obtain ⟨_, hlent, _⟩ := r.iter i m _ _ _ _ hi hq
        rw [hg] at hlent; cases hlent; simp [AObj.plain] at hp
    intro i j m' es1 ex1 left1 cur1 es2 ex2 left2 cur2 hi hj q1 q2
    rw [g i hi] at q1; rw [g j hj] at q2
    by_cases e : i = n
    · by_cases e2 : j = n
      · omega
      · rw [if_pos e] at q1; rw [if_neg e2] at q2; cases q1
        exact absurd q2 (new j hj _ _ _ _)
    · rw [if_neg e] at q1
      by_cases e2 : j = n
      · rw [if_pos e2] at q2; cases q2
        exact absurd q1 (new i hi _ _ _ _)
      · rw [if_neg e2] at q2
        by_cases e3 : i = m
        · rw [if_pos e3] at q1; cases q1
        · rw [if_neg e3] at q1
          by_cases e4 : j = m
          · rw [if_pos e4] at q2; cases q2
          · rw [if_neg e4] at q2; exact r.lone i j m' _ _ _ _ _ _ _ _ hi hj q1 q2
theorem run_getIter {b : Nat} {m : Option Nat} {c c' : Nat} {seen : Array Nat} (hb : w.heap[b]? = some (.mapIter m c seen c')) : (getObj b).run P w = .ok (.mapIter m c seen c') w := by
  simp [getObj, Sem.run, hb]
theorem rangeOf_sim {ty : TypeId} {a : AV} {va : Value} (ha : VR ρ a va) (fi : Fine s) (r : Rel B ρ s.h w) (hf : Free s.nx s1.nx ρ) (h : rangeOf P ty a s = .ok x s1) : SimV P B ρ s s1 w x (Instr.range ty va) := by
  unfold rangeOf at h
  cases e1 : P.underlying ty with
  | none => simp only [e1] at h; cases h
  | some d =>
    cases d <;> simp only [e1] at h <;> first | (cases h; done) | skip
    case string =>
      cases a <;> first | (cases h; done) | skip
      rename_i bs
      simp only [VR] at ha
      subst ha
      obtain ⟨n, s2, h1, h2⟩ := M.bind_inv h
      obtain ⟨rfl, rfl⟩ := pure_inv h2
      obtain ⟨ht, rfl, rfl⟩ := newN_inv h1
      have hnone : ρ s.nx = none := hf s.nx (Nat.le_refl _) (Nat.lt_succ_self _)
      refine ⟨updR ρ s.nx (w.heap.size, 0), _, .pointer (some ⟨w.heap.size, 0, none⟩), Ext.upd hnone, ?_, ?_, r.new ht hnone rfl (o' := .stringIter bs 0) rfl, (Grew.alloc w (.stringIter bs 0)).below r.size⟩
      · simp only [Instr.range, Sem.run_bind, run_underlying_of e1, Result.andThen_ok, Sem.run_pure, newObj, Sem.run]
      · simp only [VR]; exact ⟨_, _, updR_self _ _ _, rfl⟩
    cases a <;> first | (cases h; done) | skip
    rename_i q
    cases q with
    | none => cases h
    | some m =>
      simp only [VR] at ha
      obtain ⟨b, N, hm, rfl⟩ := ha
      obtain ⟨ob, s2, h1, h2⟩ := M.bind_inv h
      obtain ⟨hx, hg, hh, hnx⟩ := rdN_same h1
      have htm : m < top := Nat.lt_of_lt_of_le hx fi.nx
      obtain ⟨o', hb, hO, hB⟩ := r.block htm hg hm
      have fin : ∀ (es : List (AV × AV)) (ex : Bool) (l : Array MapEntry) (clock : Nat), ob.plain = true → ob.isRo = false → w.heap[b]? = some (.map l clock) → BornOk l.toList clock → (ex = true → clock = es.length ∧ ERs ρ es l.toList 0) → (ex = false → KeysApart es ∧ EPs ρ es l.toList) → EPs ρ es l.toList →
          ((wrN m (some .lent)).bind fun _ => (newN (.iter m es ex es none)).bind fun n => M.pure (.ptr (some (n, 0)))) s2 = .ok x s1 → SimV P B ρ s s1 w x (Instr.range ty (.map (some b))) := by
        intro es ex l clock hp hro hb' hbo p1 p2 p3 h3
        obtain ⟨u, s3, h4, h5⟩ := M.bind_inv h3
        obtain ⟨n, s4, h6, h7⟩ := M.bind_inv h5
        obtain ⟨rfl, rfl⟩ := pure_inv h7
        obtain ⟨_, _, _, i1, i2⟩ := wrN_same h4
        obtain ⟨ht, rfl, rfl⟩ := newN_inv h6
        have e : s3.nx = s.nx := i2.trans hnx
        have hnone : ρ s3.nx = none := hf s3.nx (by omega) (Nat.lt_succ_self _)
        refine ⟨updR ρ s3.nx (w.heap.size, 1), _, .pointer (some ⟨w.heap.size, 0, none⟩), ?_, ?_, ?_, ?_, (Grew.alloc w (.mapIter (some b) clock #[] clock)).below r.size⟩
        · rw [← e]; exact Ext.upd hnone
        · simp only [Instr.range, Sem.run_bind, run_underlying_of e1, Result.andThen_ok, MapKept.run_getObj_map hb', Sem.run_pure, newObj, Sem.run]
        · simp only [VR]; exact ⟨_, _, updR_self _ _ _, rfl⟩
        · show Rel B _ (s3.h.put s3.nx (some (.iter m es ex es none))) _
          rw [i1, hh]
          exact r.lend ht hnone htm hg hp hro hm hb' hbo p1 p2 p3
      cases ob with
      | map es clock =>
        obtain ⟨l, rfl, hclock, he⟩ := hO
        exact fin es true l clock rfl rfl hb (by rw [hclock]; exact he.bornOk) (fun _ => ⟨hclock, he⟩) (fun e => by cases e) ⟨_, List.Perm.refl _, he.eqs⟩ h2
      | mapAny es =>
        obtain ⟨l, clock, rfl, ka, hbo, he⟩ := hO
        exact fin es false l clock rfl rfl hb hbo (fun e => by cases e) (fun _ => ⟨ka, he⟩) he h2
      | _ => cases h2
theorem sim_kRange {ty : TypeId} {y : Operand} (he : ∀ x v, opd t x = some v → VR ρ v (ev x)) (fi : Fine s) (r : Rel B ρ s.h w) (hf : Free s.nx s1.nx ρ) (h : kRange P ty y call t s = .ok x s1) (ho : o.op = .range ty y) : SimOp P B ρ s s1 w x (execOp ev o) := by
  unfold kRange at h
  obtain ⟨a, h1, h2⟩ := withO_inv h
  have := (rangeOf_sim (P := P) (he y a h1) fi r hf h2).op
  simpa only [execOp, ho] using this
theorem find_born {e : MapEntry} : ∀ {l : List MapEntry}, (l.map (·.born)).Nodup → e ∈ l → l.find? (·.born == e.born) = some e
  | [], _, h => by cases h
  | a :: l, hn, h => by
    rw [List.map_cons, List.nodup_cons] at hn
    rcases List.mem_cons.1 h with rfl | h
    · simp
    · have : (a.born == e.born) = false := by
        rw [beq_eq_false_iff_ne]
        intro q; exact hn.1 (by rw [q]; exact List.mem_map_of_mem h)
      rw [List.find?_cons, this]
      exact find_born hn.2 h
theorem sim_kEntry {y : Operand} (he : ∀ x v, opd t x = some v → VR ρ v (ev x)) (fi : Fine s) (r : Rel B ρ s.h w) (h : kEntry y call t s = .ok x s1) (ho : o.op = .entry y) : SimOp P B ρ s s1 w x (execOp ev o) := by
  unfold kEntry at h
  obtain ⟨a, h1, h2⟩ := withO_inv h
  have ha := he y a h1
  unfold entryOf at h2
  split at h2
  · rename_i n
    obtain ⟨ob, s2, h3, h4⟩ := M.bind_inv h2
    obtain ⟨hx, hg, hh, hnx⟩ := rdN_same h3
    have ht : n < top := Nat.lt_of_lt_of_le hx fi.nx
    split at h4
    · rename_i m es ex left k v
      obtain ⟨rfl, rfl⟩ := pure_inv h4
      obtain ⟨_, _, b, N, bm, M, l, clock, seen, c1, c2, c3, c4, c5, _, _, _, c9⟩ := r.iter n m es ex left _ ht hg
      obtain ⟨e, d1, d2, d3, d4⟩ := c9
      simp only [VR] at ha
      obtain ⟨b', N', q1, q2⟩ := ha
      rw [c1] at q1; cases q1
      refine ⟨ρ, w, .value (.tuple #[e.key, e.val]), by rw [hnx]; exact Ext.refl _ _ _, ?_, ?_, by rw [hh]; exact r, Bel.refl _ _⟩
      · have hf : l.find? (·.born == e.born) = some e := by rw [← Array.find?_toList]; exact find_born c5.1 d1
        simp only [execOp, ho, q2, Instr.entry, Sem.run_bind, run_getIter c3, Result.andThen_ok, d2, MapKept.run_getObj_map c4, bne_self_eq_false, Bool.false_eq_true, if_false, hf, Sem.run_pure]
      · simp only [VR, VRs]; exact ⟨_, rfl, _, _, rfl, d3, _, _, rfl, d4, rfl⟩
    · cases h4
  · cases h2
theorem sim_kNextStr {y : Operand} (he : ∀ x v, opd t x = some v → VR ρ v (ev x)) (fi : Fine s) (r : Rel B ρ s.h w) (h : kNextStr y call t s = .ok x s1) (ho : o.op = .next y true) : SimOp P B ρ s s1 w x (execOp ev o) := by
  unfold kNextStr at h
  obtain ⟨a, h1, h2⟩ := withO_inv h
  have ha := he y a h1
  unfold nextStr at h2
  split at h2
  · rename_i n
    obtain ⟨ob, s2, h3, h4⟩ := M.bind_inv h2
    obtain ⟨hx, hg, hh, hnx⟩ := rdN_same h3
    have ht : n < top := Nat.lt_of_lt_of_le hx fi.nx
    split at h4
    · rename_i bs pos
      simp only [VR] at ha
      obtain ⟨b, N, hρ, hv⟩ := ha
      obtain ⟨o', hb, hO, hB⟩ := r.block ht hg hρ
      have hO' : o' = .stringIter bs pos := hO
      subst hO'
      have h4' : (match Nat.blt pos bs.size with | true => (wrN n (some (.striter bs (pos + (Utf8.decode bs pos).2)))).bind fun _ => M.pure (.tuple [.bool true, .int .i64 pos, .int .i32 (Utf8.decode bs pos).1]) | false => M.pure (.tuple [.bool false]) : M AV) s2 = .ok x s1 := h4
      cases hlt : Nat.blt pos bs.size with
      | true =>
        rw [hlt] at h4'
        have h4 := h4'
        have hlt' : pos < bs.size := (blt_eq _ _).mp hlt
        obtain ⟨u, s3, h5, h6⟩ := M.bind_inv h4
        obtain ⟨rfl, rfl⟩ := pure_inv h6
        obtain ⟨_, _, _, i1, i2⟩ := wrN_same h5
        obtain ⟨g3, g4⟩ := setObj_only (o' := .stringIter bs (pos + (Utf8.decode bs pos).2)) hb
        refine ⟨ρ, { w with heap := w.heap.setIfInBounds b (.stringIter bs (pos + (Utf8.decode bs pos).2)) }, .value (.tuple #[.bool true, goInt pos, .int .i32 (Utf8.decode bs pos).1]), by rw [i2, hnx]; exact Ext.refl _ _ _, ?_, ?_, ?_, g3.below (hB rfl)⟩
        · have hset : (setObj b (.stringIter bs (pos + (Utf8.decode bs pos).2))).run P w = .ok () { w with heap := w.heap.setIfInBounds b (.stringIter bs (pos + (Utf8.decode bs pos).2)) } := by
            simp [setObj, Sem.run, hb]
          have hget : (getObj b).run P w = .ok (.stringIter bs pos) w := by simp [getObj, Sem.run, hb]
          simp only [execOp, ho, hv, Instr.next, Sem.run_bind, hget, Result.andThen_ok, hlt', if_true, hset, Sem.run_pure]
        · simp only [VR, VRs, goInt]; exact ⟨_, rfl, _, _, rfl, rfl, _, _, rfl, rfl, _, _, rfl, rfl, rfl⟩
        · rw [i1, hh]
          exact r.put ht hg rfl rfl hρ rfl g3 g4 rfl
      | false =>
        rw [hlt] at h4'
        have h4 := h4'
        have hlt' : ¬ pos < bs.size := by intro q; rw [(blt_eq _ _).mpr q] at hlt; cases hlt
        obtain ⟨rfl, rfl⟩ := pure_inv h4
        have hget : (getObj b).run P w = .ok (.stringIter bs pos) w := by simp [getObj, Sem.run, hb]
        refine ⟨ρ, w, .value (.tuple #[.bool false]), by rw [hnx]; exact Ext.refl _ _ _, ?_, ?_, by rw [hh]; exact r, Bel.refl _ _⟩
        · simp only [execOp, ho, hv, Instr.next, Sem.run_bind, hget, Result.andThen_ok, hlt', if_false, Sem.run_pure]
        · simp only [VR, VRs]; exact ⟨_, rfl, _, _, rfl, rfl, rfl⟩
    · cases h4
  · cases h2
end
end Go.Rn
