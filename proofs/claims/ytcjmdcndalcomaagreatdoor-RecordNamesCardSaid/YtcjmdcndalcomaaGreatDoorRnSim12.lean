/- Maps: what is asked, what is put, under names. -/
import Derived.Test.YtcjmdcndalcomaaGreatDoorRnSim11
namespace Go.Rn
open Go.RowKit

theorem sameKey_left {a b : AV} (h : sameKey a b = some true) (c : AV) : sameKey a c = sameKey b c := by
  unfold sameKey at h
  split at h <;> first | (cases h; done) | skip
  · rename_i k x k' y
    cases hk : decide (k = k') with
    | false => rw [hk] at h; cases h
    | true =>
      rw [hk] at h; injection h with h
      have e1 := of_decide_eq_true hk
      have e2 : x = y := by simpa using h
      rw [e1, e2]
  · rename_i x y
    injection h with h
    rw [bytes_beq] at h
    have e : x.toList = y.toList := by simpa using h
    cases c <;> first | rfl | simp only [sameKey, bytes_beq, e]
  · rename_i x y
    injection h with h
    have e : x = y := by simpa using h
    rw [e]
theorem sameKey_comm (a b : AV) : sameKey a b = sameKey b a := by
  cases a <;> cases b <;> first | rfl | skip
  · rename_i x y; cases x <;> cases y <;> rfl
  · rename_i k x k' y
    by_cases e : k = k'
    · subst e
      show (match decide (k = k) with | true => some (x == y) | false => none) = (match decide (k = k) with | true => some (y == x) | false => none)
      rw [decide_eq_true (rfl : k = k)]
      show some (x == y) = some (y == x)
      rw [BEq.comm]
    · show (match decide (k = k') with | true => some (x == y) | false => none) = (match decide (k' = k) with | true => some (y == x) | false => none)
      rw [decide_eq_false e, decide_eq_false (Ne.symm e)]
  · rename_i x y
    show some (x == y) = some (y == x)
    rw [bytes_beq, bytes_beq, BEq.comm]
theorem KeysApart.at {es : List (AV × AV)} (h : KeysApart es) {i j : Nat} {p q : AV × AV} (hi : es[i]? = some p) (hj : es[j]? = some q) (hne : i ≠ j) : sameKey p.1 q.1 = some false := by
  unfold KeysApart at h
  rw [List.pairwise_iff_getElem] at h
  obtain ⟨li, ei⟩ := List.getElem?_eq_some_iff.1 hi
  obtain ⟨lj, ej⟩ := List.getElem?_eq_some_iff.1 hj
  rcases Nat.lt_or_ge i j with q' | q'
  · have := (h i j li lj q').1; rw [ei, ej] at this; exact this
  · have := (h j i lj li (by omega)).2; rw [ei, ej] at this; exact this

theorem sameScalar {ρ : Ren} {a b : AV} {v u : Value} (h : sameKey a b = some true) (ha : VR ρ a v) (hb : VR ρ b u) (m : Nat) : Instr.sameBits m v u = true := by
  unfold sameKey at h
  split at h <;> first | (cases h; done) | skip
  · rename_i k x k' y
    cases hk : decide (k = k') with
    | false => rw [hk] at h; cases h
    | true =>
      rw [hk] at h; injection h with h
      simp only [VR] at ha hb; subst ha; subst hb
      have e1 := of_decide_eq_true hk
      subst e1
      cases m <;> simpa [Instr.sameBits] using h
  · injection h with h
    simp only [VR] at ha hb; subst ha; subst hb
    cases m <;> simpa [Instr.sameBits] using h
  · injection h with h
    simp only [VR] at ha hb; subst ha; subst hb
    cases m <;> simpa [Instr.sameBits] using h
theorem sameAll_sim {ρ : Ren} (m : Nat) : ∀ {xs ys : List AV} {vs us : List Value}, sameAll xs ys = true → VRs ρ xs vs → VRs ρ ys us → vs.length = us.length ∧ ((vs.zip us).all fun (x, y) => Instr.sameBits m x y) = true
  | [], [], vs, us, _, h1, h2 => by simp only [VRs] at h1 h2; subst h1; subst h2; simp
  | [], _ :: _, _, _, h, _, _ => by simp [sameAll] at h
  | _ :: _, [], _, _, h, _, _ => by simp [sameAll] at h
  | x :: xs, y :: ys, vs, us, h, h1, h2 => by
    simp only [VRs] at h1 h2
    obtain ⟨v, vs, rfl, a1, b1⟩ := h1
    obtain ⟨u, us, rfl, a2, b2⟩ := h2
    simp only [sameAll] at h
    cases e : sameKey x y with
    | none => rw [e] at h; cases h
    | some c =>
      cases c with
      | false => rw [e] at h; cases h
      | true =>
        rw [e] at h
        obtain ⟨p, q⟩ := sameAll_sim m h b1 b2
        exact ⟨by simp [p], by simp only [List.zip_cons_cons, List.all_cons, sameScalar e a1 a2 m, Bool.true_and]; exact q⟩
theorem sameBits_sim {ρ : Ren} {a b : AV} {v u : Value} (h : sameBits a b = true) (ha : VR ρ a v) (hb : VR ρ b u) (m : Nat) : Instr.sameBits (m + 1) v u = true := by
  unfold sameBits at h
  split at h
  · rename_i xs ys
    simp only [VR] at ha hb
    obtain ⟨vs, rfl, h1⟩ := ha
    obtain ⟨us, rfl, h2⟩ := hb
    obtain ⟨p, q⟩ := sameAll_sim m h h1 h2
    simp only [Instr.sameBits, Bool.and_eq_true, beq_iff_eq]
    exact ⟨by simpa using p, q⟩
  · split at h
    · rename_i e; exact sameScalar e ha hb _
    · cases h

theorem run_stays {P : Program} {w : World} {v u : Value} (h : Instr.sameBits 10000 v u = true) : (Instr.keyThatStays v u).run P w = .ok u w := by
  simp [Instr.keyThatStays, h]

theorem findNow_none {kd : TypeDesc} {v : Value} : ∀ {l : List MapEntry} {i : Nat}, (∀ e ∈ l, Instr.sameNow kd v e.key = some false) → Instr.findNow kd v l i = some none
  | [], _, _ => rfl
  | e :: l, i, h => by
    simp only [Instr.findNow, h e List.mem_cons_self]
    exact findNow_none fun e he => h e (List.mem_cons_of_mem _ he)
theorem findNow_some {kd : TypeDesc} {v : Value} : ∀ {l : List MapEntry} {i : Nat}, (∀ e ∈ l, ∃ c, Instr.sameNow kd v e.key = some c) → (∃ e ∈ l, Instr.sameNow kd v e.key = some true) →
    ∃ j e, l[j]? = some e ∧ Instr.sameNow kd v e.key = some true ∧ Instr.findNow kd v l i = some (some (i + j, e.val))
  | [], _, _, h => by obtain ⟨_, h, _⟩ := h; cases h
  | e :: l, i, h, k => by
    obtain ⟨c, hc⟩ := h e List.mem_cons_self
    cases c with
    | true => exact ⟨0, e, rfl, hc, by simp only [Instr.findNow, hc, Nat.add_zero]⟩
    | false =>
      obtain ⟨e2, h2, h3⟩ := k
      have h2' : e2 ∈ l := by
        rcases List.mem_cons.1 h2 with rfl | h2
        · rw [hc] at h3; cases h3
        · exact h2
      obtain ⟨j, e3, g1, g2, g3⟩ := findNow_some (i := i + 1) (fun e he => h e (List.mem_cons_of_mem _ he)) ⟨e2, h2', h3⟩
      exact ⟨j + 1, e3, by simpa using g1, g2, by simp only [Instr.findNow, hc]; rw [g3]; congr 3; omega⟩

section
variable {P : Program} {B : Nat} {ρ : Ren} {w : World} {s s1 : AS} {x : AV} {call : Caller} {t : Tr AV} {ev : Operand → Value} {o : Oper}

theorem EQs.get : ∀ {es : List (AV × AV)} {l : List MapEntry} {i : Nat} {e : MapEntry}, EQs ρ es l → l[i]? = some e → ∃ p, es[i]? = some p ∧ VR ρ p.1 e.key ∧ VR ρ p.2 e.val
  | [], l, i, e, h, k => by have h' : l = [] := h; subst h'; simp at k
  | p :: es, l, i, e, h, k => by
    obtain ⟨e2, l2, rfl, h1, h2, h3⟩ := h
    cases i with
    | zero => simp at k; subst k; exact ⟨p, rfl, h1, h2⟩
    | succ i => simp at k; obtain ⟨q, g1, g2⟩ := h3.get k; exact ⟨q, by simpa using g1, g2⟩
theorem EQs.get' {es : List (AV × AV)} {l : List MapEntry} {i : Nat} {p : AV × AV} (h : EQs ρ es l) (k : es[i]? = some p) : ∃ e, l[i]? = some e ∧ VR ρ p.1 e.key ∧ VR ρ p.2 e.val := by
  obtain ⟨li, ei⟩ := List.getElem?_eq_some_iff.1 k
  have hl := h.length
  have hi : l[i]? = some (l[i]'(by omega)) := List.getElem?_eq_getElem _
  obtain ⟨q, g1, g2⟩ := h.get hi
  rw [k] at g1; cases g1
  exact ⟨_, hi, g2⟩

theorem findAny_sim {k : TypeId} {kd : TypeDesc} {key : AV} {v : Value} {es : List (AV × AV)} {l l' : List MapEntry} {r : Option (Nat × AV)} (hk : P.underlying k = some kd) (hp : plainKey P k key = true) (hv : VR ρ key v)
    (ka : KeysApart es) (he : EQs ρ es l') (hl : l.Perm l') (h : findPlain key es 0 = some r) :
    (r = none → Instr.findNow kd v l 0 = some none) ∧ (∀ j y, r = some (j, y) → ∃ j' e, Instr.findNow kd v l 0 = some (some (j', e.val)) ∧ l[j']? = some e ∧ l'[j]? = some e ∧ VR ρ y e.val ∧ ∃ p, es[j]? = some p ∧ sameKey key p.1 = some true) := by
  have at_ : ∀ e ∈ l, ∃ (j : Nat) (p : AV × AV), l'[j]? = some e ∧ es[j]? = some p ∧ VR ρ p.1 e.key ∧ VR ρ p.2 e.val := by
    intro e hm
    obtain ⟨j, hj, e1⟩ := List.getElem_of_mem (hl.mem_iff.1 hm)
    have hj' : l'[j]? = some e := by rw [List.getElem?_eq_getElem hj, e1]
    obtain ⟨p, g1, g2, g3⟩ := he.get hj'
    exact ⟨j, p, hj', g1, g2, g3⟩
  constructor
  · intro hr; subst hr
    refine findNow_none fun e hm => ?_
    obtain ⟨j, p, g1, g2, g3, g4⟩ := at_ e hm
    exact sameKey_sim hk hp (findPlain_none h p (List.mem_of_getElem? g2)) hv g3
  · intro j y hr; subst hr
    obtain ⟨_, q, h1, h2, h3⟩ := findPlain_some h
    rw [Nat.sub_zero] at h1
    have all : ∀ e ∈ l, ∃ (j2 : Nat) (p : AV × AV), l'[j2]? = some e ∧ es[j2]? = some p ∧ VR ρ p.2 e.val ∧ Instr.sameNow kd v e.key = some (decide (j2 = j)) := by
      intro e hm
      obtain ⟨j2, p, g1, g2, g3, g4⟩ := at_ e hm
      refine ⟨j2, p, g1, g2, g4, ?_⟩
      by_cases e2 : j2 = j
      · subst e2
        rw [h1] at g2; cases g2
        simp only [decide_true]
        exact sameKey_sim hk hp h3 hv g3
      · rw [decide_eq_false e2]
        refine sameKey_sim hk hp ?_ hv g3
        rw [sameKey_left h3]
        exact ka.at h1 g2 (Ne.symm e2)
    obtain ⟨e0, g1, g2, g3⟩ := he.get' h1
    have hm0 : e0 ∈ l := hl.mem_iff.2 (List.mem_of_getElem? g1)
    obtain ⟨j', e, f1, f2, f3⟩ := findNow_some (kd := kd) (v := v) (l := l) (i := 0) (fun e hm => let ⟨_, _, _, _, _, h⟩ := all e hm; ⟨_, h⟩) ⟨e0, hm0, sameKey_sim hk hp h3 hv g2⟩
    rw [Nat.zero_add] at f3
    obtain ⟨j2, p, a1, a2, a3, a4⟩ := all e (List.mem_of_getElem? f1)
    rw [f2] at a4; injection a4 with a4
    have e2 : j2 = j := by simpa using a4.symm
    subst e2
    rw [h1] at a2; cases a2
    exact ⟨j', e, f3, f1, a1, by rw [← h2]; exact a3, q, h1, h3⟩

theorem short_perm {es : List (AV × AV)} {l l' : List MapEntry} (h : short es = true) (he : EQs ρ es l') (hl : l.Perm l') : EQs ρ es l := by
  have hlen := he.length
  unfold short at h
  split at h <;> first | (cases h; done) | skip
  · have : l' = [] := by cases l' <;> first | rfl | simp at hlen
    subst this
    rw [List.perm_nil.1 hl]; exact he
  · match l', hlen, hl, he with
    | [e], _, hl, he => rw [List.perm_singleton.1 hl]; exact he

theorem VR.okV {ok b : Bool} {y : AV} {v : Value} (h : VR ρ y v) : VR ρ (okV ok y b) (if ok = true then .tuple #[v, .bool b] else v) := by
  cases ok with
  | false => exact h
  | true => simp only [Rn.okV, if_true, VR, VRs]; exact ⟨_, rfl, v, _, rfl, h, .bool b, _, rfl, rfl, rfl⟩

theorem keyOk_kind : ∀ {d : Nat} {k : TypeId} {key : AV}, keyOk P d k key = true → ∃ kd, P.underlying k = some kd
  | 0, _, _, h => by simp only [keyOk] at h; cases h
  | d + 1, k, key, h => by
    simp only [keyOk] at h
    cases q : P.underlying k with
    | none => rw [q] at h; cases h
    | some kd => exact ⟨kd, rfl⟩

theorem lookupT_sim {ty : TypeId} {a key : AV} {ok : Bool} {va vk : Value} (ha : VR ρ a va) (hkey : VR ρ key vk) (fi : Fine s) (r : Rel B ρ s.h w) (h : lookupT P ty a key ok s = .ok x s1) :
    SimV P B ρ s s1 w x (Instr.lookup ty va vk ok) := by
  unfold lookupT at h
  cases e1 : P.underlying ty with
  | none => simp only [e1] at h; cases h
  | some d =>
    cases d <;> simp only [e1] at h <;> first | (cases h; done) | skip
    rename_i k e
    obtain ⟨es, s2, h1, h2⟩ := M.bind_inv h
    obtain ⟨h3, h4⟩ := withB_inv h2
    obtain ⟨f, h5, h6⟩ := withO_inv h4
    -- the key's type
    have hkd : ∃ kd, P.underlying k = some kd := by
      exact keyOk_kind h3
    obtain ⟨kd, hkd⟩ := hkd
    have hck : ∀ em, (Instr.checkKey em 10000 k vk).run P w = .ok () w := fun em => keyOk_sim h3 hkey
    -- the entries
    have main : ∃ l : Array MapEntry, ((va = .map none ∧ l = #[]) ∨ ∃ b clock, va = .map (some b) ∧ w.heap[b]? = some (.map l clock)) ∧ s2.h = s.h ∧ s2.nx = s.nx ∧
        ∃ r', (Instr.findKey k vk l.toList).run P w = .ok r' w ∧ (f = none → r' = none) ∧ (∀ j y, f = some (j, y) → ∃ j' z, r' = some (j', z) ∧ VR ρ y z) := by
      have exact : ∀ l : Array MapEntry, EQs ρ es l.toList → ∃ r', (Instr.findKey k vk l.toList).run P w = .ok r' w ∧ (f = none → r' = none) ∧ (∀ j y, f = some (j, y) → ∃ j' z, r' = some (j', z) ∧ VR ρ y z) := by
        intro l he
        obtain ⟨r', g1, g2⟩ := findKey_sim (P := P) (w := w) hkd hkey he h5
        refine ⟨r', g1, fun q => by subst q; exact g2, fun j y q => ?_⟩
        subst q
        obtain ⟨z, _, _, q1, q2, _⟩ := g2
        exact ⟨j, z, q1, q2⟩
      unfold mapFor at h1
      split at h1
      · obtain ⟨rfl, rfl⟩ := pure_inv h1
        simp only [VR] at ha; subst ha
        exact ⟨#[], .inl ⟨rfl, rfl⟩, rfl, rfl, exact #[] rfl⟩
      · rename_i m
        obtain ⟨ob, s3, h7, h8⟩ := M.bind_inv h1
        obtain ⟨hx, hg, hh, hnx⟩ := rdN_same h7
        have ht : m < top := Nat.lt_of_lt_of_le hx fi.nx
        simp only [VR] at ha
        obtain ⟨b, N, hm, rfl⟩ := ha
        obtain ⟨o', hb, hO, _⟩ := r.block ht hg hm
        cases ob with
        | map es' clock =>
          obtain ⟨rfl, rfl⟩ := pure_inv h8
          obtain ⟨l, rfl, _, q⟩ := hO
          exact ⟨l, .inr ⟨b, clock, rfl, hb⟩, hh, hnx, exact l q.eqs⟩
        | mapAny es' =>
          obtain ⟨h9, h10⟩ := withB_inv h8
          obtain ⟨rfl, rfl⟩ := pure_inv h10
          obtain ⟨l, clock, rfl, ka, _, l', hp, he⟩ := hO
          refine ⟨l, .inr ⟨b, clock, rfl, hb⟩, hh, hnx, ?_⟩
          cases q : plainKey P k key with
          | false =>
            rw [q] at h9
            exact exact l (short_perm h9 he hp)
          | true =>
            unfold findKey at h5
            simp only [q] at h5
            obtain ⟨g1, g2⟩ := findAny_sim hkd q hkey ka he hp h5
            cases f with
            | none => exact ⟨none, MapKept.run_findKey hkd (g1 rfl), (fun _ => rfl), (fun j y e => by cases e)⟩
            | some p =>
              obtain ⟨j, y⟩ := p
              obtain ⟨j', e, f1, _, _, f2, _⟩ := g2 j y rfl
              exact ⟨some (j', e.val), MapKept.run_findKey hkd f1, (fun e => by cases e), (fun j y e2 => by cases e2; exact ⟨j', _, rfl, f2⟩)⟩
        | _ => cases h8
      · cases h1
    obtain ⟨l, m1, m2, m3, r', m4, m5, m6⟩ := main
    cases f with
    | some p =>
      obtain ⟨j, y⟩ := p
      obtain ⟨rfl, rfl⟩ := pure_inv h6
      obtain ⟨j', z, rfl, hz⟩ := m6 j y rfl
      refine ⟨ρ, w, _, by rw [m3]; exact Ext.refl _ _ _, ?_, hz.okV, by rw [m2]; exact r, Below.refl _ _⟩
      rcases m1 with ⟨rfl, rfl⟩ | ⟨b, clock, rfl, hb⟩
      · simp only [Instr.lookup, Sem.run_bind, run_underlying_of e1, Result.andThen_ok, hck, m4, Sem.run_pure]
      · simp only [Instr.lookup, Sem.run_bind, run_underlying_of e1, Result.andThen_ok, MapKept.run_getObj_map hb, hck, m4, Sem.run_pure]
    | none =>
      obtain ⟨z, h7, h8⟩ := withO_inv h6
      obtain ⟨rfl, rfl⟩ := pure_inv h8
      have := m5 rfl
      subst this
      obtain ⟨vz, g1, g2⟩ := run_zero_of (P := P) (w := w) ρ h7
      refine ⟨ρ, w, _, by rw [m3]; exact Ext.refl _ _ _, ?_, g2.okV, by rw [m2]; exact r, Below.refl _ _⟩
      rcases m1 with ⟨rfl, rfl⟩ | ⟨b, clock, rfl, hb⟩
      · simp only [Instr.lookup, Sem.run_bind, run_underlying_of e1, Result.andThen_ok, hck, m4, Sem.run_pure, g1]
      · simp only [Instr.lookup, Sem.run_bind, run_underlying_of e1, Result.andThen_ok, MapKept.run_getObj_map hb, hck, m4, Sem.run_pure, g1]

theorem sim_kLookup {ty : TypeId} {y z : Operand} {ok : Bool} (he : ∀ x v, opd t x = some v → VR ρ v (ev x)) (fi : Fine s) (r : Rel B ρ s.h w) (h : kLookup P ty y z ok call t s = .ok x s1) (ho : o.op = .lookup ty y z ok) : SimOp P B ρ s s1 w x (execOp ev o) := by
  unfold kLookup at h
  obtain ⟨a, h1, h2⟩ := withO_inv h
  obtain ⟨b, h3, h4⟩ := withO_inv h2
  have := (lookupT_sim (P := P) (he y a h1) (he z b h3) fi r h4).op
  simpa only [execOp, ho] using this
end
end Go.Rn
