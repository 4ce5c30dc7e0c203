/- The next entry of a map that is gone through: one of those that are left. -/
import Derived.Test.YtcjmdcndalcomaaGreatDoorRnClosed
import Derived.Maps.RangeRun
namespace Go.Rn
open Go.RowKit

theorem picks_sim {ρ : Ren} {e : MapEntry} : ∀ {left : List (AV × AV)} {l : List MapEntry}, EQs ρ left l → e ∈ l →
    ∃ x r l', (x, r) ∈ picks left ∧ VR ρ x.1 e.key ∧ VR ρ x.2 e.val ∧ EQs ρ r l' ∧ l.Perm (e :: l')
  | [], l, h, he => by
    simp only [EQs] at h; subst h; cases he
  | y :: ys, l, h, he => by
    simp only [EQs] at h
    obtain ⟨e0, es, rfl, h1, h2, h3⟩ := h
    rcases List.mem_cons.1 he with rfl | he
    · exact ⟨y, ys, es, by simp [picks], h1, h2, h3, List.Perm.refl _⟩
    · obtain ⟨x, r, l', k1, k2, k3, k4, k5⟩ := picks_sim h3 he
      refine ⟨x, y :: r, e0 :: l', ?_, k2, k3, ?_, ?_⟩
      · simp only [picks, List.mem_cons, List.mem_map]; exact .inr ⟨(x, r), k1, rfl⟩
      · simp only [EQs]; exact ⟨e0, l', rfl, h1, h2, k4⟩
      · exact (List.Perm.cons e0 k5).trans (List.Perm.swap e e0 l')

theorem EQs.nil_inv {ρ : Ren} {left : List (AV × AV)} (h : EQs ρ left []) : left = [] := by
  cases left with
  | nil => rfl
  | cons x xs => simp only [EQs] at h; obtain ⟨e, es, h, _⟩ := h; cases h

section
variable {P : Program} {B : Nat} {ρ : Ren} {w w' : World} {h : Tr AObj} {n m : Nat} {es left left' : List (AV × AV)} {ex : Bool} {cur cur' : Option (AV × AV)} {b N : Nat}

theorem onlyAt_set {w1 : World} {o : Obj} (hw : w1 = w ∨ w1 = w.drew) : OnlyAt b w (ChangeMaps.setBlock w1 b o) := by
  have h1 : (ChangeMaps.setBlock w1 b o).heap = w.heap.setIfInBounds b o := by rcases hw with rfl | rfl <;> rfl
  refine ⟨?_, ?_, ?_, by rw [h1]; simp, fun k hk => ?_⟩
  · rcases hw with rfl | rfl <;> rfl
  · rcases hw with rfl | rfl <;> rfl
  · rcases hw with rfl | rfl <;> rfl
  · rw [h1, Array.getElem?_setIfInBounds_ne (by omega)]

theorem Under.next (ty : TypeId) (u : Under ρ w n m es ex left cur) : ∃ b N, ρ n = some (b, N) ∧
    ((left = [] ∧ (Instr.next (.pointer (some ⟨b, 0, none⟩)) false ty).run P w = .ok (.tuple #[.bool false]) w) ∨
    ∃ x r v1 v2 w', (x, r) ∈ picks left ∧ VR ρ x.1 v1 ∧ VR ρ x.2 v2 ∧ (Instr.next (.pointer (some ⟨b, 0, none⟩)) false ty).run P w = .ok (.tuple #[.bool true, v1, v2]) w' ∧ OnlyAt b w w' ∧
      (∃ bm M c sn, ρ m = some (bm, M) ∧ w'.heap[b]? = some (.mapIter (some bm) c sn c)) ∧ Under ρ w' n m es ex r (some x)) := by
  obtain ⟨b, N, bm, M, l, clock, seen, h1, h2, h3, h4, h5, h6, h7, h8, h9⟩ := u
  refine ⟨b, N, h1, ?_⟩
  have hfl : (leftOf l seen).toList = l.toList.filter fun e => !seen.contains e.born := by simp [leftOf]
  obtain ⟨l', hp, hq⟩ := h8
  rcases run_next_at (P := P) w ty b bm clock clock seen l clock h3 h4 h5.2 (Nat.le_refl _) with ⟨k1, k2⟩ | ⟨e, he, w1, hw1, k2⟩
  · refine .inl ⟨?_, k2⟩
    have : (leftOf l seen).toList = [] := by
      apply List.eq_nil_of_length_eq_zero; simpa using k1
    rw [hfl] at this
    rw [this] at hp
    have hl' := hp.symm.eq_nil
    subst hl'
    exact hq.nil_inv
  · refine .inr ?_
    rw [hfl] at he
    have he' : e ∈ l' := hp.mem_iff.1 he
    obtain ⟨x, r, l'', p1, p2, p3, p4, p5⟩ := picks_sim hq he'
    have hne : bm ≠ b := by intro q; subst q; rw [h3] at h4; cases h4
    have hb' : (ChangeMaps.setBlock w1 b (.mapIter (some bm) clock (seen.push e.born) clock)).heap[b]? = some (.mapIter (some bm) clock (seen.push e.born) clock) := by
      have hlt : b < w.heap.size := heap_lt h3
      have : (ChangeMaps.setBlock w1 b (.mapIter (some bm) clock (seen.push e.born) clock)).heap = w.heap.setIfInBounds b (.mapIter (some bm) clock (seen.push e.born) clock) := by rcases hw1 with rfl | rfl <;> rfl
      rw [this, Array.getElem?_setIfInBounds_self_of_lt hlt]
    refine ⟨x, r, e.key, e.val, _, p1, p2, p3, k2, onlyAt_set hw1, ⟨bm, M, clock, seen.push e.born, h2, hb'⟩, ?_⟩
    have hmem : e ∈ l.toList := (List.mem_filter.1 he).1
    have hnd : ((e :: l'').map (·.born)).Nodup := by
      have a : ((l.toList.filter fun e => !seen.contains e.born).map (·.born)).Nodup := (List.filter_sublist.map _).nodup h5.1
      exact ((hp.trans p5).map _).nodup_iff.1 a
    rw [List.map_cons, List.nodup_cons] at hnd
    refine ⟨b, N, bm, M, l, clock, seen.push e.born, h1, h2, hb', ((onlyAt_set hw1).block bm hne).trans h4, h5, h6, h7, ⟨l'', ?_, p4⟩, ⟨e, hmem, by simp, p2, p3⟩⟩
    have e1 : (l.toList.filter fun x => !(seen.push e.born).contains x.born) = (l.toList.filter fun x => !seen.contains x.born).filter fun x => !(x.born == e.born) := by
      rw [List.filter_filter]
      congr 1
      funext x
      simp only [Array.contains_push]
      rw [Bool.not_or, Bool.and_comm]
    have e2 : (e :: l'').filter (fun x => !(x.born == e.born)) = l'' := by
      rw [List.filter_cons]
      simp only [beq_self_eq_true, Bool.not_true, Bool.false_eq_true, if_false]
      refine List.filter_eq_self.2 fun x hx => ?_
      have : ¬ x.born = e.born := by intro q; exact hnd.1 (by rw [← q]; exact List.mem_map_of_mem hx)
      simp [this]
    rw [e1]
    have := (hp.trans p5).filter fun x => !(x.born == e.born)
    rw [e2] at this
    exact this

/-- An entry has been handed out. -/
theorem Rel.nextAt (r : Rel B ρ h w) (ht : n < top) (hg : h.get n = some (.iter m es ex left cur)) (hr : ρ n = some (b, N)) (hw : OnlyAt b w w')
    (hb : ∃ bm M c sn, ρ m = some (bm, M) ∧ w'.heap[b]? = some (.mapIter (some bm) c sn c)) (u : Under ρ w' n m es ex left' cur') : Rel B ρ (h.put n (some (.iter m es ex left' cur'))) w' := by
  obtain ⟨_, _, _, hB⟩ := r.block ht hg hr
  obtain ⟨htm, hlent, _⟩ := r.iter n m es ex left cur ht hg
  have hmn : m ≠ n := by intro e; subst e; rw [hg] at hlent; cases hlent
  have g : ∀ k, k < top → (h.put n (some (.iter m es ex left' cur'))).get k = if k = n then some (.iter m es ex left' cur') else h.get k := fun k hk => Tr.get_put _ _ _ _ ht hk
  have live : ∀ j, j < top → ∀ x, (if j = n then some (AObj.iter m es ex left' cur') else h.get j) = some x → ∃ y, h.get j = some y := by
    intro j _ x hx
    by_cases e : j = n
    · subst e; exact ⟨_, hg⟩
    · rw [if_neg e] at hx; exact ⟨x, hx⟩
  refine ⟨?_, ?_, ?_, by rw [hw.size]; exact r.size, ?_⟩
  · intro k q hk hq
    rw [g k hk] at hq
    by_cases e : k = n
    · subst e; rw [if_pos rfl] at hq; cases hq
      obtain ⟨bm, M, c, sn, q1, q2⟩ := hb
      exact ⟨b, N, _, hr, q2, ⟨bm, M, c, sn, q1, rfl⟩, fun _ => hB rfl⟩
    · rw [if_neg e] at hq
      obtain ⟨b1, N1, o1, h1, h2, h3, h4⟩ := r.is k q hk hq
      refine ⟨b1, N1, o1, h1, (hw.block b1 fun e2 => ?_).trans h2, h3, h4⟩
      subst e2
      exact e (r.one k n q _ b1 N1 N hk ht hq hg h1 hr)
  · intro k j q q' b1 N1 M1 hk hj hq hq' h1 h2
    rw [g k hk] at hq; rw [g j hj] at hq'
    obtain ⟨y, hy⟩ := live k hk q hq
    obtain ⟨z, hz⟩ := live j hj q' hq'
    exact r.one k j y z b1 N1 M1 hk hj hy hz h1 h2
  · intro i m' es' ex' l' c' hi hq
    rw [g i hi] at hq
    by_cases e : i = n
    · subst e; rw [if_pos rfl] at hq; cases hq
      exact ⟨htm, by rw [g m htm, if_neg hmn]; exact hlent, u⟩
    · rw [if_neg e] at hq
      obtain ⟨hm', hl, u'⟩ := r.iter i m' es' ex' l' c' hi hq
      have hmn' : m' ≠ n := by intro e2; subst e2; rw [hg] at hl; cases hl
      refine ⟨hm', by rw [g m' hm', if_neg hmn']; exact hl, u'.keep hw.block (fun M e2 => e ?_) (fun M e2 => hmn' ?_)⟩
      · exact r.one i n _ _ b M N hi ht hq hg e2 hr
      · exact r.one m' n _ _ b M N hm' ht hl hg e2 hr
  · intro i j m' es1 ex1 left1 cur1 es2 ex2 left2 cur2 hi hj q1 q2
    rw [g i hi] at q1; rw [g j hj] at q2
    have was : ∀ k, k < top → ∀ es1 ex1 left1 cur1, (if k = n then some (AObj.iter m es ex left' cur') else h.get k) = some (.iter m' es1 ex1 left1 cur1) → ∃ es2 ex2 left2 cur2, h.get k = some (.iter m' es2 ex2 left2 cur2) := by
      intro k _ es1 ex1 left1 cur1 q
      by_cases e : k = n
      · subst e; rw [if_pos rfl] at q; cases q; exact ⟨_, _, _, _, hg⟩
      · rw [if_neg e] at q; exact ⟨_, _, _, _, q⟩
    obtain ⟨_, _, _, _, a1⟩ := was i hi _ _ _ _ q1
    obtain ⟨_, _, _, _, a2⟩ := was j hj _ _ _ _ q2
    exact r.lone i j m' _ _ _ _ _ _ _ _ hi hj a1 a2

/-- A map that was lent is there again. -/
theorem Rel.giveBack {o : AObj} {o' : Obj} (r : Rel B ρ h w) (ht : m < top) (hg : h.get m = some .lent) (hr : ρ m = some (b, N)) (hb : w.heap[b]? = some o') (hO : OR ρ N o o') (ho : o.plain = true)
    (hfree : ∀ i es ex left cur, i < top → h.get i ≠ some (.iter m es ex left cur)) : Rel B ρ (h.put m (some o)) w := by
  obtain ⟨_, _, _, hB⟩ := r.block ht hg hr
  have g : ∀ k, k < top → (h.put m (some o)).get k = if k = m then some o else h.get k := fun k hk => Tr.get_put _ _ _ _ ht hk
  have live : ∀ j, j < top → ∀ x, (if j = m then some o else h.get j) = some x → ∃ y, h.get j = some y := by
    intro j _ x hx
    by_cases e : j = m
    · subst e; exact ⟨_, hg⟩
    · rw [if_neg e] at hx; exact ⟨x, hx⟩
  refine ⟨?_, ?_, ?_, r.size, ?_⟩
  · intro k q hk hq
    rw [g k hk] at hq
    by_cases e : k = m
    · subst e; rw [if_pos rfl] at hq; cases hq
      exact ⟨b, N, _, hr, hb, hO, fun _ => hB rfl⟩
    · rw [if_neg e] at hq; exact r.is k q hk hq
  · intro k j q q' b1 N1 M1 hk hj hq hq' h1 h2
    rw [g k hk] at hq; rw [g j hj] at hq'
    obtain ⟨y, hy⟩ := live k hk q hq
    obtain ⟨z, hz⟩ := live j hj q' hq'
    exact r.one k j y z b1 N1 M1 hk hj hy hz h1 h2
  · intro i m' es' ex' l' c' hi hq
    rw [g i hi] at hq
    by_cases e : i = m
    · subst e; rw [if_pos rfl] at hq; cases hq; simp [AObj.plain] at ho
    · rw [if_neg e] at hq
      obtain ⟨hm', hl, u'⟩ := r.iter i m' es' ex' l' c' hi hq
      have hmn' : m' ≠ m := by intro e2; subst e2; exact hfree i _ _ _ _ hi hq
      exact ⟨hm', by rw [g m' hm', if_neg hmn']; exact hl, u'⟩
  · intro i j m' es1 ex1 left1 cur1 es2 ex2 left2 cur2 hi hj q1 q2
    rw [g i hi] at q1; rw [g j hj] at q2
    by_cases e : i = m
    · rw [if_pos e] at q1; cases q1; simp [AObj.plain] at ho
    · rw [if_neg e] at q1
      by_cases e2 : j = m
      · rw [if_pos e2] at q2; cases q2; simp [AObj.plain] at ho
      · rw [if_neg e2] at q2; exact r.lone i j m' _ _ _ _ _ _ _ _ hi hj q1 q2

/-- A map has been gone through. -/
theorem Rel.over (r : Rel B ρ h w) (ht : n < top) (hg : h.get n = some (.iter m es ex left cur)) : Rel B ρ ((h.put n none).put m (some (mapOf ex es))) w := by
  obtain ⟨htm, hlent, b, N, bm, M, l, clock, seen, h1, h2, h3, h4, h5, h6, h7, h8, h9⟩ := r.iter n m es ex left cur ht hg
  have hmn : m ≠ n := by intro e; subst e; rw [hg] at hlent; cases hlent
  have g : ∀ k, k < top → (h.put n none).get k = if k = n then none else h.get k := fun k hk => Tr.get_put _ _ _ _ ht hk
  refine (r.drop ht (by rw [hg]; simp)).giveBack htm (by rw [g m htm, if_neg hmn]; exact hlent) h2 h4 ?_ (by cases ex <;> rfl) ?_
  · cases ex with
    | true => obtain ⟨q1, q2⟩ := h6 rfl; subst q1; exact ⟨l, rfl, rfl, q2⟩
    | false => obtain ⟨q1, q2⟩ := h7 rfl; exact ⟨l, clock, rfl, q1, h5, q2⟩
  · intro i es' ex' left' cur' hi hq
    rw [g i hi] at hq
    by_cases e : i = n
    · rw [if_pos e] at hq; cases hq
    · rw [if_neg e] at hq; exact e (r.lone i n m _ _ _ _ _ _ _ _ hi ht hq hg)
end
end Go.Rn
