/- Maps that are gone through: the begin, and the entry. -/
import Derived.Test.YtcjmdcndalcomaaGreatDoorRnSim13
namespace Go.Rn
open Go.RowKit

section
variable {P : Program} {B : Nat} {ρ : Ren} {w : World} {s s1 : AS} {x : AV} {call : Caller} {t : Tr AV} {ev : Operand → Value} {o : Oper}

theorem ERs.born : ∀ {es : List (AV × AV)} {l : List MapEntry} {n : Nat}, ERs ρ es l n → l.map (·.born) = List.range' n es.length
  | [], l, n, h => by have h' : l = [] := h; subst h'; rfl
  | p :: es, l, n, h => by
    obtain ⟨e, l', rfl, a, b, c, d⟩ := h
    rw [List.map_cons, c, d.born, List.length_cons, List.range'_succ]
theorem ERs.bornOk {es : List (AV × AV)} {l : List MapEntry} (h : ERs ρ es l 0) : BornOk l es.length := by
  have hb := h.born
  refine ⟨by rw [hb]; exact List.nodup_range', fun e he => ?_⟩
  have : e.born ∈ l.map (·.born) := List.mem_map_of_mem he
  rw [hb, List.mem_range'_1] at this
  omega

/-- A map is lent to one that goes through it. -/
theorem Rel.lend {h : Tr AObj} (r : Rel B ρ h w) {n m : Nat} {p : AObj} {b N : Nat} {es : List (AV × AV)} {ex : Bool} {l : Array MapEntry} {clock : Nat} (htn : n < top) (hnn : ρ n = none) (htm : m < top) (hg : h.get m = some p) (hp : p.plain = true) (hro : p.isRo = false)
    (hm : ρ m = some (b, N)) (hb : w.heap[b]? = some (.map l clock)) (hbo : BornOk l.toList clock) (h1 : ex = true → clock = es.length ∧ ERs ρ es l.toList 0) (h2 : ex = false → KeysApart es ∧ EPs ρ es l.toList) (h3 : EPs ρ es l.toList) :
    Rel B (updR ρ n (w.heap.size, 1)) ((h.put m (some .lent)).put n (some (.iter m es ex es none))) { w with heap := w.heap.push (.mapIter (some b) clock #[] clock) } := by
  have hl : ρ.le (updR ρ n (w.heap.size, 1)) := updR_le hnn
  have hmn : m ≠ n := by intro e; subst e; rw [hm] at hnn; cases hnn
  have hno : h.get n = none := by
    cases e : h.get n with
    | none => rfl
    | some p => obtain ⟨_, _, _, h1, _⟩ := r.is n p htn e; rw [hnn] at h1; cases h1
  have g : ∀ k, k < top → ((h.put m (some .lent)).put n (some (.iter m es ex es none))).get k = if k = n then some (.iter m es ex es none) else if k = m then some .lent else h.get k := by
    intro k hk
    rw [Tr.get_put _ _ _ _ htn hk, Tr.get_put _ _ _ _ htm hk]
  have hw : ∀ k, k < w.heap.size → (w.heap.push (.mapIter (some b) clock #[] clock))[k]? = w.heap[k]? := (Grew.alloc w _).block
  obtain ⟨_, _, _, hB⟩ := r.block htm hg hm
  have size : ∀ k q, k < top → h.get k = some q → ∀ b1 N1, ρ k = some (b1, N1) → b1 < w.heap.size := by
    intro k q hk hq b1 N1 e
    obtain ⟨b2, N2, o2, e1, e2, _⟩ := r.is k q hk hq
    rw [e] at e1; cases e1; exact heap_lt e2
  have old : ∀ k q, k < top → (if k = m then some AObj.lent else h.get k) = some q → ∃ q', h.get k = some q' := by
    intro k q hk hq
    by_cases e : k = m
    · subst e; exact ⟨p, hg⟩
    · rw [if_neg e] at hq; exact ⟨q, hq⟩
  refine ⟨?_, ?_, ?_, Nat.le_trans r.size (by simp), ?_⟩
  · intro k q hk hq
    rw [g k hk] at hq
    by_cases e : k = n
    · subst e; rw [if_pos rfl] at hq; cases hq
      refine ⟨w.heap.size, 1, .mapIter (some b) clock #[] clock, updR_self _ _ _, by simp, ?_, fun _ => r.size⟩
      exact ⟨b, N, clock, #[], hl _ _ hm, rfl⟩
    · rw [if_neg e] at hq
      by_cases e2 : k = m
      · subst e2; rw [if_pos rfl] at hq; cases hq
        exact ⟨b, N, _, hl _ _ hm, (hw b (heap_lt hb)).trans hb, ⟨l, clock, rfl⟩, fun _ => hB hro⟩
      · rw [if_neg e2] at hq
        obtain ⟨b1, N1, o1, c1, c2, c3, c4⟩ := r.is k q hk hq
        exact ⟨b1, N1, o1, hl _ _ c1, (hw b1 (heap_lt c2)).trans c2, c3.mono hl, c4⟩
  · intro k j q q' b1 N1 M1 hk hj hq hq' e1 e2
    rw [g k hk] at hq; rw [g j hj] at hq'
    by_cases a1 : k = n
    · by_cases a2 : j = n
      · omega
      · rw [if_neg a2] at hq'
        subst a1; rw [updR_self] at e1; cases e1
        rw [updR_ne ρ _ a2] at e2
        obtain ⟨q2, hq2⟩ := old j q' hj hq'
        exact absurd (size j q2 hj hq2 _ _ e2) (Nat.lt_irrefl _)
    · rw [if_neg a1] at hq
      rw [updR_ne ρ _ a1] at e1
      obtain ⟨q1, hq1⟩ := old k q hk hq
      by_cases a2 : j = n
      · subst a2; rw [updR_self] at e2; cases e2
        exact absurd (size k q1 hk hq1 _ _ e1) (Nat.lt_irrefl _)
      · rw [if_neg a2] at hq'
        rw [updR_ne ρ _ a2] at e2
        obtain ⟨q2, hq2⟩ := old j q' hj hq'
        exact r.one k j q1 q2 b1 N1 M1 hk hj hq1 hq2 e1 e2
  · intro i m' es' ex' left cur hi hq
    rw [g i hi] at hq
    by_cases e : i = n
    · subst e; rw [if_pos rfl] at hq; cases hq
      refine ⟨htm, by rw [g m htm, if_neg hmn, if_pos rfl], ?_⟩
      refine ⟨w.heap.size, 1, b, N, l, clock, #[], updR_self _ _ _, hl _ _ hm, by simp, (hw b (heap_lt hb)).trans hb, hbo, fun e => ⟨(h1 e).1, (h1 e).2.mono hl⟩, fun e => ⟨(h2 e).1, (h2 e).2.mono hl⟩, ?_, rfl⟩
      have : (l.toList.filter fun e => !(#[] : Array Nat).contains e.born) = l.toList := List.filter_eq_self.2 (by simp)
      rw [this]; exact h3.mono hl
    · rw [if_neg e] at hq
      by_cases e2 : i = m
      · subst e2; rw [if_pos rfl] at hq; cases hq
      · rw [if_neg e2] at hq
        obtain ⟨hm', hlent, b1, N1, bm, M, l1, clock1, seen, c1, c2, c3, c4, c5⟩ := r.iter i m' es' ex' left cur hi hq
        have d1 : m' ≠ n := by intro e3; subst e3; rw [hno] at hlent; cases hlent
        refine ⟨hm', ?_, Under.mono hl ⟨b1, N1, bm, M, l1, clock1, seen, c1, c2, (hw b1 (heap_lt c3)).trans c3, (hw bm (heap_lt c4)).trans c4, c5⟩⟩
        rw [g m' hm', if_neg d1]
        by_cases d2 : m' = m
        · rw [if_pos d2]
        · rw [if_neg d2]; exact hlent
  · have new : ∀ i, i < top → ∀ es1 ex1 left1 cur1, (if i = m then some AObj.lent else h.get i) ≠ some (.iter m es1 ex1 left1 cur1) := by
      intro i hi es1 ex1 left1 cur1 hq
      by_cases e : i = m
      · rw [if_pos e] at hq; cases hq
      · rw [if_neg e] at hq
        obtain ⟨_, hlent, _⟩ := r.iter i m _ _ _ _ hi hq
        rw [hg] at hlent; cases hlent; simp [AObj.plain] at hp
    intro i j m' es1 ex1 left1 cur1 es2 ex2 left2 cur2 hi hj q1 q2
    rw [g i hi] at q1; rw [g j hj] at q2
    by_cases e : i = n
    · by_cases e2 : j = n
      · omega
      · rw [if_pos e] at q1; rw [if_neg e2] at q2; cases q1
        exact absurd q2 (new j hj _ _ _ _)
    · rw [if_neg e] at q1
      by_cases e2 : j = n
      · rw [if_pos e2] at q2; cases q2
        exact absurd q1 (new i hi _ _ _ _)
      · rw [if_neg e2] at q2
        by_cases e3 : i = m
        · rw [if_pos e3] at q1; cases q1
        · rw [if_neg e3] at q1
          by_cases e4 : j = m
          · rw [if_pos e4] at q2; cases q2
          · rw [if_neg e4] at q2; exact r.lone i j m' _ _ _ _ _ _ _ _ hi hj q1 q2

theorem run_getIter {b : Nat} {m : Option Nat} {c c' : Nat} {seen : Array Nat} (hb : w.heap[b]? = some (.mapIter m c seen c')) : (getObj b).run P w = .ok (.mapIter m c seen c') w := by
  simp [getObj, Sem.run, hb]

theorem rangeOf_sim {ty : TypeId} {a : AV} {va : Value} (ha : VR ρ a va) (fi : Fine s) (r : Rel B ρ s.h w) (hf : Free s.nx s1.nx ρ) (h : rangeOf P ty a s = .ok x s1) : SimV P B ρ s s1 w x (Instr.range ty va) := by
  unfold rangeOf at h
  cases e1 : P.underlying ty with
  | none => simp only [e1] at h; cases h
  | some d =>
    cases d <;> simp only [e1] at h <;> first | (cases h; done) | skip
    cases a <;> first | (cases h; done) | skip
    rename_i q
    cases q with
    | none => cases h
    | some m =>
      simp only [VR] at ha
      obtain ⟨b, N, hm, rfl⟩ := ha
      obtain ⟨ob, s2, h1, h2⟩ := M.bind_inv h
      obtain ⟨hx, hg, hh, hnx⟩ := rdN_same h1
      have htm : m < top := Nat.lt_of_lt_of_le hx fi.nx
      obtain ⟨o', hb, hO, hB⟩ := r.block htm hg hm
      have fin : ∀ (es : List (AV × AV)) (ex : Bool) (l : Array MapEntry) (clock : Nat), ob.plain = true → ob.isRo = false → w.heap[b]? = some (.map l clock) → BornOk l.toList clock → (ex = true → clock = es.length ∧ ERs ρ es l.toList 0) → (ex = false → KeysApart es ∧ EPs ρ es l.toList) → EPs ρ es l.toList →
          ((wrN m (some .lent)).bind fun _ => (newN (.iter m es ex es none)).bind fun n => M.pure (.ptr (some (n, 0)))) s2 = .ok x s1 → SimV P B ρ s s1 w x (Instr.range ty (.map (some b))) := by
        intro es ex l clock hp hro hb' hbo p1 p2 p3 h3
        obtain ⟨u, s3, h4, h5⟩ := M.bind_inv h3
        obtain ⟨n, s4, h6, h7⟩ := M.bind_inv h5
        obtain ⟨rfl, rfl⟩ := pure_inv h7
        obtain ⟨_, _, _, i1, i2⟩ := wrN_same h4
        obtain ⟨ht, rfl, rfl⟩ := newN_inv h6
        have e : s3.nx = s.nx := i2.trans hnx
        have hnone : ρ s3.nx = none := hf s3.nx (by omega) (Nat.lt_succ_self _)
        refine ⟨updR ρ s3.nx (w.heap.size, 1), _, .pointer (some ⟨w.heap.size, 0, none⟩), ?_, ?_, ?_, ?_, (Grew.alloc w (.mapIter (some b) clock #[] clock)).below r.size⟩
        · rw [← e]; exact Ext.upd hnone
        · simp only [Instr.range, Sem.run_bind, run_underlying_of e1, Result.andThen_ok, MapKept.run_getObj_map hb', Sem.run_pure, newObj, Sem.run]
        · simp only [VR]; exact ⟨_, _, updR_self _ _ _, rfl⟩
        · show Rel B _ (s3.h.put s3.nx (some (.iter m es ex es none))) _
          rw [i1, hh]
          exact r.lend ht hnone htm hg hp hro hm hb' hbo p1 p2 p3
      cases ob with
      | map es clock =>
        obtain ⟨l, rfl, hclock, he⟩ := hO
        exact fin es true l clock rfl rfl hb (by rw [hclock]; exact he.bornOk) (fun _ => ⟨hclock, he⟩) (fun e => by cases e) ⟨_, List.Perm.refl _, he.eqs⟩ h2
      | mapAny es =>
        obtain ⟨l, clock, rfl, ka, hbo, he⟩ := hO
        exact fin es false l clock rfl rfl hb hbo (fun e => by cases e) (fun _ => ⟨ka, he⟩) he h2
      | _ => cases h2

theorem sim_kRange {ty : TypeId} {y : Operand} (he : ∀ x v, opd t x = some v → VR ρ v (ev x)) (fi : Fine s) (r : Rel B ρ s.h w) (hf : Free s.nx s1.nx ρ) (h : kRange P ty y call t s = .ok x s1) (ho : o.op = .range ty y) : SimOp P B ρ s s1 w x (execOp ev o) := by
  unfold kRange at h
  obtain ⟨a, h1, h2⟩ := withO_inv h
  have := (rangeOf_sim (P := P) (he y a h1) fi r hf h2).op
  simpa only [execOp, ho] using this

theorem find_born {e : MapEntry} : ∀ {l : List MapEntry}, (l.map (·.born)).Nodup → e ∈ l → l.find? (·.born == e.born) = some e
  | [], _, h => by cases h
  | a :: l, hn, h => by
    rw [List.map_cons, List.nodup_cons] at hn
    rcases List.mem_cons.1 h with rfl | h
    · simp
    · have : (a.born == e.born) = false := by
        rw [beq_eq_false_iff_ne]
        intro q; exact hn.1 (by rw [q]; exact List.mem_map_of_mem h)
      rw [List.find?_cons, this]
      exact find_born hn.2 h

theorem sim_kEntry {y : Operand} (he : ∀ x v, opd t x = some v → VR ρ v (ev x)) (fi : Fine s) (r : Rel B ρ s.h w) (h : kEntry y call t s = .ok x s1) (ho : o.op = .entry y) : SimOp P B ρ s s1 w x (execOp ev o) := by
  unfold kEntry at h
  obtain ⟨a, h1, h2⟩ := withO_inv h
  have ha := he y a h1
  unfold entryOf at h2
  split at h2
  · rename_i n
    obtain ⟨ob, s2, h3, h4⟩ := M.bind_inv h2
    obtain ⟨hx, hg, hh, hnx⟩ := rdN_same h3
    have ht : n < top := Nat.lt_of_lt_of_le hx fi.nx
    split at h4
    · rename_i m es ex left k v
      obtain ⟨rfl, rfl⟩ := pure_inv h4
      obtain ⟨_, _, b, N, bm, M, l, clock, seen, c1, c2, c3, c4, c5, _, _, _, c9⟩ := r.iter n m es ex left _ ht hg
      obtain ⟨e, d1, d2, d3, d4⟩ := c9
      simp only [VR] at ha
      obtain ⟨b', N', q1, q2⟩ := ha
      rw [c1] at q1; cases q1
      refine ⟨ρ, w, .value (.tuple #[e.key, e.val]), by rw [hnx]; exact Ext.refl _ _ _, ?_, ?_, by rw [hh]; exact r, Below.refl _ _⟩
      · have hf : l.find? (·.born == e.born) = some e := by rw [← Array.find?_toList]; exact find_born c5.1 d1
        simp only [execOp, ho, q2, Instr.entry, Sem.run_bind, run_getIter c3, Result.andThen_ok, d2, MapKept.run_getObj_map c4, bne_self_eq_false, Bool.false_eq_true, if_false, hf, Sem.run_pure]
      · simp only [VR, VRs]; exact ⟨_, rfl, _, _, rfl, d3, _, _, rfl, d4, rfl⟩
    · cases h4
  · cases h2
end
end Go.Rn
