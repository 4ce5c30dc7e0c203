/- maps.clone, as it is done under names. -/
import Derived.Test.YtbnjeblcleihkaaGreatDoorRnMachB
import GoSem.Extern.MapsClone
import Derived.Maps.RangeRun
namespace Go.Rn
open Go.RowKit
theorem clone_sim {P : Program} {B : Base} {ρ : Ren} {w : World} {s s1 : AS} {args : List AV} {vs : Array Value} {x : AV} (fi : Fine s) (r : Rel B ρ s.h w) (hf : Free s.nx s1.nx ρ) (hv : VRs ρ args vs.toList) (h : cloneMap args s = .ok x s1) :
    SimV P B ρ s s1 w x (Extern.MapsClone.clone vs) := by
  unfold cloneMap at h
  split at h
  · rename_i t m
    obtain ⟨vs⟩ := vs
    simp only [VRs, VR] at hv
    obtain ⟨v, l, rfl, ⟨y, rfl, b, N, hm, rfl⟩, rfl⟩ := hv
    obtain ⟨ob, s2, h1, h2⟩ := M.bind_inv h
    obtain ⟨hx, hg, hh, hnx⟩ := rdN_same h1
    have ht : m < top := Nat.lt_of_lt_of_le hx fi.nx
    obtain ⟨o', hb, hO, hB⟩ := r.block ht hg hm
    have fin : ∀ (ob' : AObj) (l : Array MapEntry) (clock : Nat), ob'.plain = true → w.heap[b]? = some (.map l clock) → (∀ σ N', ρ.le σ → OR σ N' ob' (.map l clock)) →
        ((newN ob').bind fun n => M.pure (.iface t (.map (some n)))) s2 = .ok x s1 → SimV P B ρ s s1 w x (Extern.MapsClone.clone ⟨[.iface t (.map (some b))]⟩) := by
      intro ob' l clock hp hb' hO' h3
      obtain ⟨n, s3, h4, h5⟩ := M.bind_inv h3
      obtain ⟨rfl, rfl⟩ := pure_inv h5
      obtain ⟨ht2, rfl, rfl⟩ := newN_inv h4
      have hnone : ρ s2.nx = none := hf s2.nx (by omega) (Nat.lt_succ_self _)
      refine ⟨updR ρ s2.nx (w.heap.size, 1), { w with heap := w.heap.push (.map l clock) }, .iface t (.map (some w.heap.size)), ?_, ?_, ?_, ?_, (Grew.alloc w _).below r.size⟩
      · rw [← hnx]; exact Ext.upd hnone
      · have e : Extern.MapsClone.clone ⟨[.iface t (.map (some b))]⟩ = (getObj b >>= fun o => match o with
            | .map entries clock => (newObj (.map entries clock) >>= fun n => pure (.iface t (.map (some n))))
            | _ => stuck "maps.clone: a map expected") := rfl
        rw [e]
        simp [MapKept.run_getObj_map hb', newObj, Sem.run]
      · simp only [VR]; exact ⟨_, rfl, _, _, updR_self _ _ _, rfl⟩
      · show Rel B _ (s2.h.put s2.nx (some ob')) _
        rw [hh]
        exact r.new ht2 hnone hp (hO' _ _ (updR_le hnone))
    cases ob with
    | map es clock =>
      obtain ⟨l, rfl, hc, he⟩ := hO
      exact fin (.map es clock) l clock rfl hb (fun σ N' hle => ⟨l, rfl, hc, he.mono hle⟩) h2
    | mapAny es =>
      obtain ⟨l, clock, rfl, ka, hbo, he⟩ := hO
      exact fin (.mapAny es) l clock rfl hb (fun σ N' hle => ⟨l, clock, rfl, ka, hbo, he.mono hle⟩) h2
    | _ => cases h2
  · cases h
end Go.Rn

namespace Go.Rn
open Go.RowKit
def startRen (W : World) : Ren := fun k => if k < globs then some (k, match W.heap[k]? with | some (.cells c _ _) => c.size | _ => 0) else none
theorem startRen_g (W : World) : RenG (startRen W) := fun g hg => ⟨_, by unfold startRen; rw [if_pos hg]⟩
theorem startRen_none (W : World) {k : Nat} (h : globs ≤ k) : startRen W k = none := by unfold startRen; rw [if_neg (by omega)]
def Known (W : World) (h : Tr AObj) : Prop :=
  ∀ n o, n < top → h.get n = some o → n < globs ∧ ∃ m t c e fr, o = .ro m t ∧ W.heap[n]? = some (.cells c e fr) ∧ m = c.size ∧ ∀ i, i < m → ∃ x v, t.get i = some x ∧ x.oneCell = true ∧ c[i]? = some v ∧ VR (startRen W) x v
theorem start_rel {W : World} {h : Tr AObj} (hk : Known W h) : Rel (baseOf W) (startRen W) h W := by
  refine ⟨?_, ?_, ?_, fun _ hk => hk, ?_, fun n l e => by cases e⟩
  · intro n o hn hg
    obtain ⟨h1, m, t, c, e, fr, rfl, h2, h3, h4⟩ := hk n o hn hg
    refine ⟨n, c.size, _, by unfold startRen; rw [if_pos h1, h2], h2, ⟨c, e, fr, rfl, rfl, h3, h4⟩, fun q => by cases q⟩
  · intro n m o p b N M hn hm h1 h2 hor e1 e2
    obtain ⟨_, _, _, _, _, _, e3, _⟩ := hk n o hn h1
    obtain ⟨_, _, _, _, _, _, e4, _⟩ := hk m p hm h2
    rw [e3, e4] at hor
    rcases hor with q | q <;> cases q
  · intro n m es ex left cur hn hg
    obtain ⟨_, m', t, c, e, fr, e1, _⟩ := hk n _ hn hg
    cases e1
  · intro i j m es ex left cur es' ex' left' cur' hi _ h1 _
    obtain ⟨_, m', t, c, e, fr, e1, _⟩ := hk i _ hi h1
    cases e1
end Go.Rn

namespace Go.Rn
open Go.RowKit
theorem picks_sim {ρ : Ren} {e : MapEntry} : ∀ {left : List (AV × AV)} {l : List MapEntry}, EQs ρ left l → e ∈ l →
    ∃ x r l', (x, r) ∈ picks left ∧ VR ρ x.1 e.key ∧ VR ρ x.2 e.val ∧ EQs ρ r l' ∧ l.Perm (e :: l')
  | [], l, h, he => by
    simp only [EQs] at h; subst h; cases he
  | y :: ys, l, h, he => by
    simp only [EQs] at h
    obtain ⟨e0, es, rfl, h1, h2, h3⟩ := h
    rcases List.mem_cons.1 he with rfl | he
    · exact ⟨y, ys, es, by simp [picks], h1, h2, h3, List.Perm.refl _⟩
    · obtain ⟨x, r, l', k1, k2, k3, k4, k5⟩ := picks_sim h3 he
      refine ⟨x, y :: r, e0 :: l', ?_, k2, k3, ?_, ?_⟩
      · simp only [picks, List.mem_cons, List.mem_map]; exact .inr ⟨(x, r), k1, rfl⟩
      · simp only [EQs]; exact ⟨e0, l', rfl, h1, h2, k4⟩
      · exact (List.Perm.cons e0 k5).trans (List.Perm.swap e e0 l')
theorem EQs.nil_inv {ρ : Ren} {left : List (AV × AV)} (h : EQs ρ left []) : left = [] := by
  cases left with
  | nil => rfl
  | cons x xs => simp only [EQs] at h; obtain ⟨e, es, h, _⟩ := h; cases h
section
variable {P : Program} {B : Base} {ρ : Ren} {w w' : World} {h : Tr AObj} {n m : Nat} {es left left' : List (AV × AV)} {ex : Bool} {cur cur' : Option (AV × AV)} {b N : Nat}
theorem onlyAt_set {w1 : World} {o : Obj} (hw : w1 = w ∨ w1 = w.drew) : OnlyAt b w (ChangeMaps.setBlock w1 b o) := by
  have h1 : (ChangeMaps.setBlock w1 b o).heap = w.heap.setIfInBounds b o := by rcases hw with rfl | rfl <;> rfl
  refine ⟨?_, ?_, ?_, by rw [h1]; simp, fun k hk => ?_⟩
  · rcases hw with rfl | rfl <;> rfl
  · rcases hw with rfl | rfl <;> rfl
  · rcases hw with rfl | rfl <;> rfl
  · rw [h1, Array.getElem?_setIfInBounds_ne (by omega)]
theorem Under.next (ty : TypeId) (u : Under ρ w n m es ex left cur) : ∃ b N, ρ n = some (b, N) ∧
    ((left = [] ∧ (Instr.next (.pointer (some ⟨b, 0, none⟩)) false ty).run P w = .ok (.tuple #[.bool false]) w) ∨
    ∃ x r v1 v2 w', (x, r) ∈ picks left ∧ VR ρ x.1 v1 ∧ VR ρ x.2 v2 ∧ (Instr.next (.pointer (some ⟨b, 0, none⟩)) false ty).run P w = .ok (.tuple #[.bool true, v1, v2]) w' ∧ OnlyAt b w w' ∧
      (∃ bm M c sn, ρ m = some (bm, M) ∧ w'.heap[b]? = some (.mapIter (some bm) c sn c)) ∧ Under ρ w' n m es ex r (some x)) := by
  obtain ⟨b, N, bm, M, l, clock, seen, h1, h2, h3, h4, h5, h6, h7, h8, h9⟩ := u
  refine ⟨b, N, h1, ?_⟩
  have hfl : (leftOf l seen).toList = l.toList.filter fun e => !seen.contains e.born := by simp [leftOf]
  obtain ⟨l', hp, hq⟩ := h8
  rcases run_next_at (P := P) w ty b bm clock clock seen l clock h3 h4 h5.2 (Nat.le_refl _) with ⟨k1, k2⟩ | ⟨e, he, w1, hw1, k2⟩
  · refine .inl ⟨?_, k2⟩
    have : (leftOf l seen).toList = [] := by
      apply List.eq_nil_of_length_eq_zero; simpa using k1
    rw [hfl] at this
    rw [this] at hp
    have hl' := hp.symm.eq_nil
    subst hl'
    exact hq.nil_inv
  · refine .inr ?_
    rw [hfl] at he
    have he' : e ∈ l' := hp.mem_iff.1 he
    obtain ⟨x, r, l'', p1, p2, p3, p4, p5⟩ := picks_sim hq he'
    have hne : bm ≠ b := by intro q; subst q; rw [h3] at h4; cases h4
    have hb' : (ChangeMaps.setBlock w1 b (.mapIter (some bm) clock (seen.push e.born) clock)).heap[b]? = some (.mapIter (some bm) clock (seen.push e.born) clock) := by
      have hlt : b < w.heap.size := heap_lt h3
      have : (ChangeMaps.setBlock w1 b (.mapIter (some bm) clock (seen.push e.born) clock)).heap = w.heap.setIfInBounds b (.mapIter (some bm) clock (seen.push e.born) clock) := by rcases hw1 with rfl | rfl <;> rfl
      rw [this, Array.getElem?_setIfInBounds_self_of_lt hlt]
    refine ⟨x, r, e.key, e.val, _, p1, p2, p3, k2, onlyAt_set hw1, ⟨bm, M, clock, seen.push e.born, h2, hb'⟩, ?_⟩
    have hmem : e ∈ l.toList := (List.mem_filter.1 he).1
    have hnd : ((e :: l'').map (·.born)).Nodup := by
      have a : ((l.toList.filter fun e => !seen.contains e.born).map (·.born)).Nodup := (List.filter_sublist.map _).nodup h5.1
      exact ((hp.trans p5).map _).nodup_iff.1 a
    rw [List.map_cons, List.nodup_cons] at hnd
    refine ⟨b, N, bm, M, l, clock, seen.push e.born, h1, h2, hb', ((onlyAt_set hw1).block bm hne).trans h4, h5, h6, h7, ⟨l'', ?_, p4⟩, ⟨e, hmem, by simp, p2, p3⟩⟩
    have e1 : (l.toList.filter fun x => !(seen.push e.born).contains x.born) = (l.toList.filter fun x => !seen.contains x.born).filter fun x => !(x.born == e.born) := by
      rw [List.filter_filter]
      congr 1
      funext x
      simp only [Array.contains_push]
      rw [Bool.not_or, Bool.and_comm]
    have e2 : (e :: l'').filter (fun x => !(x.born == e.born)) = l'' := by
      rw [List.filter_cons]
      simp only [beq_self_eq_true, Bool.not_true, Bool.false_eq_true, if_false]
      refine List.filter_eq_self.2 fun x hx => ?_
      have : ¬ x.born = e.born := by intro q; exact hnd.1 (by rw [← q]; exact List.mem_map_of_mem hx)
      simp [this]
    rw [e1]
    have := (hp.trans p5).filter fun x => !(x.born == e.born)
    rw [e2] at this
    exact this
theorem Rel.nextAt (r : Rel B ρ h w) (ht : n < top) (hg : h.get n = some (.iter m es ex left cur)) (hr : ρ n = some (b, N)) (hw : OnlyAt b w w')
    (hb : ∃ bm M c sn, ρ m = some (bm, M) ∧ w'.heap[b]? = some (.mapIter (some bm) c sn c)) (u : Under ρ w' n m es ex left' cur') : Rel B ρ (h.put n (some (.iter m es ex left' cur'))) w' := by
  obtain ⟨_, _, _, hB⟩ := r.block ht hg hr
  obtain ⟨htm, hlent, _⟩ := r.iter n m es ex left cur ht hg
  have hmn : m ≠ n := by intro e; subst e; rw [hg] at hlent; cases hlent
  have g : ∀ k, k < top → (h.put n (some (.iter m es ex left' cur'))).get k = if k = n then some (.iter m es ex left' cur') else h.get k := fun k hk => Tr.get_put _ _ _ _ ht hk
  have live : ∀ j, j < top → ∀ x, (if j = n then some (AObj.iter m es ex left' cur') else h.get j) = some x → ∃ y, h.get j = some y ∧ (x.isRo = false → y.isRo = false) := by
    intro j _ x hx
    by_cases e : j = n
    · subst e; exact ⟨_, hg, fun _ => rfl⟩
    · rw [if_neg e] at hx; exact ⟨x, hx, id⟩
  refine ⟨?_, ?_, ?_, by rw [hw.size]; exact r.size, ?_, r.fz.of (Ren.le_refl _) (fun b1 _ hn => hw.block b1 fun e => hn n _ N ht hg rfl (by rw [e]; exact hr)) (fun b1 _ hn => hn.sub fun k q hk hq hqr => by
    rw [g k hk] at hq
    obtain ⟨y, e1, e2⟩ := live k hk q hq
    exact ⟨y, e1, e2 hqr⟩)⟩
  · intro k q hk hq
    rw [g k hk] at hq
    by_cases e : k = n
    · subst e; rw [if_pos rfl] at hq; cases hq
      obtain ⟨bm, M, c, sn, q1, q2⟩ := hb
      exact ⟨b, N, _, hr, q2, ⟨bm, M, c, sn, q1, rfl⟩, fun _ => hB rfl⟩
    · rw [if_neg e] at hq
      obtain ⟨b1, N1, o1, h1, h2, h3, h4⟩ := r.is k q hk hq
      refine ⟨b1, N1, o1, h1, (hw.block b1 fun e2 => ?_).trans h2, h3, h4⟩
      subst e2
      exact e (r.one k n q _ b1 N1 N hk ht hq hg (.inr rfl) h1 hr)
  · intro k j q q' b1 N1 M1 hk hj hq hq' hor h1 h2
    rw [g k hk] at hq; rw [g j hj] at hq'
    obtain ⟨y, hy, hy'⟩ := live k hk q hq
    obtain ⟨z, hz, hz'⟩ := live j hj q' hq'
    exact r.one k j y z b1 N1 M1 hk hj hy hz (hor.imp hy' hz') h1 h2
  · intro i m' es' ex' l' c' hi hq
    rw [g i hi] at hq
    by_cases e : i = n
    · subst e; rw [if_pos rfl] at hq; cases hq
      exact ⟨htm, by rw [g m htm, if_neg hmn]; exact hlent, u⟩
    · rw [if_neg e] at hq
      obtain ⟨hm', hl, u'⟩ := r.iter i m' es' ex' l' c' hi hq
      have hmn' : m' ≠ n := by intro e2; subst e2; rw [hg] at hl; cases hl
      refine ⟨hm', by rw [g m' hm', if_neg hmn']; exact hl, u'.keep hw.block (fun M e2 => e ?_) (fun M e2 => hmn' ?_)⟩
      · exact r.one i n _ _ b M N hi ht hq hg (.inr rfl) e2 hr
      · exact r.one m' n _ _ b M N hm' ht hl hg (.inr rfl) e2 hr
  · intro i j m' es1 ex1 left1 cur1 es2 ex2 left2 cur2 hi hj q1 q2
    rw [g i hi] at q1; rw [g j hj] at q2
    have was : ∀ k, k < top → ∀ es1 ex1 left1 cur1, (if k = n then some (AObj.iter m es ex left' cur') else h.get k) = some (.iter m' es1 ex1 left1 cur1) → ∃ es2 ex2 left2 cur2, h.get k = some (.iter m' es2 ex2 left2 cur2) := by
      intro k _ es1 ex1 left1 cur1 q
      by_cases e : k = n
      · subst e; rw [if_pos rfl] at q; cases q; exact ⟨_, _, _, _, hg⟩
      · rw [if_neg e] at q; exact ⟨_, _, _, _, q⟩
    obtain ⟨_, _, _, _, a1⟩ := was i hi _ _ _ _ q1
    obtain ⟨_, _, _, _, a2⟩ := was j hj _ _ _ _ q2
    exact r.lone i j m' _ _ _ _ _ _ _ _ hi hj a1 a2
theorem Rel.giveBack {o : AObj} {o' : Obj} (r : Rel B ρ h w) (ht : m < top) (hg : h.get m = some .lent) (hr : ρ m = some (b, N)) (hb : w.heap[b]? = some o') (hO : OR ρ N o o') (ho : o.plain = true)
    (hfree : ∀ i es ex left cur, i < top → h.get i ≠ some (.iter m es ex left cur)) : Rel B ρ (h.put m (some o)) w := by
  obtain ⟨_, _, _, hB⟩ := r.block ht hg hr
  have g : ∀ k, k < top → (h.put m (some o)).get k = if k = m then some o else h.get k := fun k hk => Tr.get_put _ _ _ _ ht hk
  have live : ∀ j, j < top → ∀ x, (if j = m then some o else h.get j) = some x → ∃ y, h.get j = some y ∧ (x.isRo = false → y.isRo = false) := by
    intro j _ x hx
    by_cases e : j = m
    · subst e; exact ⟨_, hg, fun _ => rfl⟩
    · rw [if_neg e] at hx; exact ⟨x, hx, id⟩
  refine ⟨?_, ?_, ?_, r.size, ?_, r.fz.of (Ren.le_refl _) (fun _ _ _ => rfl) (fun b1 _ hn => hn.sub fun k q hk hq hqr => by
    rw [g k hk] at hq
    obtain ⟨y, e1, e2⟩ := live k hk q hq
    exact ⟨y, e1, e2 hqr⟩)⟩
  · intro k q hk hq
    rw [g k hk] at hq
    by_cases e : k = m
    · subst e; rw [if_pos rfl] at hq; cases hq
      exact ⟨b, N, _, hr, hb, hO, fun _ => hB rfl⟩
    · rw [if_neg e] at hq; exact r.is k q hk hq
  · intro k j q q' b1 N1 M1 hk hj hq hq' hor h1 h2
    rw [g k hk] at hq; rw [g j hj] at hq'
    obtain ⟨y, hy, hy'⟩ := live k hk q hq
    obtain ⟨z, hz, hz'⟩ := live j hj q' hq'
    exact r.one k j y z b1 N1 M1 hk hj hy hz (hor.imp hy' hz') h1 h2
  · intro i m' es' ex' l' c' hi hq
    rw [g i hi] at hq
    by_cases e : i = m
    · subst e; rw [if_pos rfl] at hq; cases hq; simp [AObj.plain] at ho
    · rw [if_neg e] at hq
      obtain ⟨hm', hl, u'⟩ := r.iter i m' es' ex' l' c' hi hq
      have hmn' : m' ≠ m := by intro e2; subst e2; exact hfree i _ _ _ _ hi hq
      exact ⟨hm', by rw [g m' hm', if_neg hmn']; exact hl, u'⟩
  · intro i j m' es1 ex1 left1 cur1 es2 ex2 left2 cur2 hi hj q1 q2
    rw [g i hi] at q1; rw [g j hj] at q2
    by_cases e : i = m
    · rw [if_pos e] at q1; cases q1; simp [AObj.plain] at ho
    · rw [if_neg e] at q1
      by_cases e2 : j = m
      · rw [if_pos e2] at q2; cases q2; simp [AObj.plain] at ho
      · rw [if_neg e2] at q2; exact r.lone i j m' _ _ _ _ _ _ _ _ hi hj q1 q2
theorem Rel.over (r : Rel B ρ h w) (ht : n < top) (hg : h.get n = some (.iter m es ex left cur)) : Rel B ρ ((h.put n none).put m (some (mapOf ex es))) w := by
  obtain ⟨htm, hlent, b, N, bm, M, l, clock, seen, h1, h2, h3, h4, h5, h6, h7, h8, h9⟩ := r.iter n m es ex left cur ht hg
  have hmn : m ≠ n := by intro e; subst e; rw [hg] at hlent; cases hlent
  have g : ∀ k, k < top → (h.put n none).get k = if k = n then none else h.get k := fun k hk => Tr.get_put _ _ _ _ ht hk
  refine (r.drop ht (by rw [hg]; simp)).giveBack htm (by rw [g m htm, if_neg hmn]; exact hlent) h2 h4 ?_ (by cases ex <;> rfl) ?_
  · cases ex with
    | true => obtain ⟨q1, q2⟩ := h6 rfl; subst q1; exact ⟨l, rfl, rfl, q2⟩
    | false => obtain ⟨q1, q2⟩ := h7 rfl; exact ⟨l, clock, rfl, q1, h5, q2⟩
  · intro i es' ex' left' cur' hi hq
    rw [g i hi] at hq
    by_cases e : i = n
    · rw [if_pos e] at hq; cases hq
    · rw [if_neg e] at hq; exact e (r.lone i n m _ _ _ _ _ _ _ _ hi ht hq hg)
end
end Go.Rn

namespace Go.Rn
open Go.RowKit
section
variable {P : Program} {B : Base} {ρ : Ren} {w w1 : World} {s s1 s2 : AS} {call : Caller} {b : Frame} {a : Act} {cs : List Frame}
theorem put_defers (a : Act) (dst : Option Tmp) (v : Value) : (a.put dst v).defers = a.defers := by cases dst <;> rfl
theorem region_tail {fr : AF} {id : Nat} {ops : Array Oper} {o : Oper} {rest : List Oper} {k : List Item} {t1 t2 : Tr AV} {v : Value} (hc : CallSim P B call) (hl : ∀ t a, Local (call t a)) (hfr : Fr ρ fr b a)
    (htodo : fr.todo = .code (.region id ops false) :: k) (hops : ops.toList = o :: rest) (hgd : o.guard = none) (hd : ∀ c, o.op ≠ .defer c) (hrun : (execOp a.eval o).run P w = .ok (.value v) w1) (hbel : Bel B w w1)
    (hat : At B ρ s1 fr.nt t1 w1 (a.put o.dst v)) (hnx : s1.nx = s.nx) (hf : Free s1.nx s2.nx ρ) (h : aops P call fr.nt ops rest t1 s1 = .ok t2 s2) :
    Went P B ρ s s2 w fr b cs (lone (b.atR a fr.todo) cs w) (.go { fr with tmps := t2, todo := k }) := by
  have hw : Region.wanted o (yielded ops a.tmps) = true := by unfold Region.wanted; rw [hgd]
  have ho : ops[0]? = some o := by rw [← Array.getElem?_toList, hops]; rfl
  have hsz : ops.size = rest.length + 1 := by rw [← Array.length_toList, hops]; rfl
  have hk : ItemsOk k := by have := hfr.ok; rw [htodo] at this; exact this.tail
  obtain ⟨v', w', ⟨rfl, rfl⟩, st⟩ := back_steps (R := fun v' w' => v' = v ∧ w' = w1) ho hw hd (by unfold Back; rw [hrun]; exact ⟨rfl, rfl⟩) b k cs (List.range' 1 rest.length)
  obtain ⟨σ, a', w2, e1, e2, e3, e4, e5⟩ := aops_sim hc hl b k cs rest.length 1 rest rfl (by rw [hops]; rfl) hat hf h
  refine ⟨σ, a', w2, by rw [← hnx]; exact e1, e2, ?_, hbel.trans e4, ⟨rfl, rfl, rfl⟩, hk, trivial, ?_⟩
  · rw [e3, put_defers]; exact hfr.defs.mono e1.le
  · rw [htodo]
    refine .head stepR_region ?_
    rw [List.range_eq_range', hsz, List.range'_succ]
    exact Steps.trans st e5
theorem getIter_inv {fr : AF} {it : Operand} {n : Nat} {ob : AObj} (h : getIter fr it s = .ok (n, ob) s1) : opd fr.tmps it = some (.ptr (some (n, 0))) ∧ rdN n s = .ok ob s1 := by
  unfold getIter at h
  obtain ⟨x, s2, h1, h2⟩ := M.bind_inv h
  obtain ⟨h3, rfl⟩ := lift_inv h1
  split at h2
  · obtain ⟨y, s3, h4, h5⟩ := M.bind_inv h2
    obtain ⟨h6, rfl⟩ := pure_inv h5
    cases h6
    exact ⟨h3, h4⟩
  · cases h2
theorem asksNext_inv {fr : AF} {it : Operand} {o : Oper} {ops : Array Oper} {rest : List Oper} {k : List Item} (h : asksNext fr = some (it, o, ops, rest, k)) :
    ∃ id, fr.todo = .code (.region id ops false) :: k ∧ ops.toList = o :: rest ∧ o.guard = none ∧ o.op = .next it false := by
  unfold asksNext at h
  split at h
  · rename_i id ops' k' htodo
    split at h
    · rename_i o' rest' hops
      split at h
      · rename_i it' hg ho
        cases h
        exact ⟨id, htodo, hops, hg, ho⟩
      · cases h
    · cases h
  · cases h
theorem collect_mem {α β : Type} {f : α → Option (List β)} : ∀ {l : List α} {outs : List β}, collect f l = some outs → ∀ x ∈ l, ∃ a, f x = some a ∧ ∀ y ∈ a, y ∈ outs
  | [], outs, h, x, hx => by cases hx
  | z :: l, outs, h, x, hx => by
    simp only [collect] at h
    cases e : f z with
    | none => rw [e] at h; cases h
    | some a =>
      rw [e] at h
      cases e2 : collect f l with
      | none => simp only [e2] at h; cases h
      | some c =>
        simp only [e2] at h; injection h with h; subst h
        rcases List.mem_cons.1 hx with rfl | hx
        · exact ⟨a, e, fun y hy => List.mem_append.2 (.inl hy)⟩
        · obtain ⟨a', h1, h2⟩ := collect_mem e2 x hx
          exact ⟨a', h1, fun y hy => List.mem_append.2 (.inr (h2 y hy))⟩
def Comes (P : Program) (B : Base) (ρ : Ren) (s : AS) (w : World) (fr : AF) (b : Frame) (cs : List Frame) (m : Machine) (outs : List ((AF × Option Code) × AS)) : Prop :=
  ∃ fr' j s1, ((fr', j), s1) ∈ outs ∧ Went P B ρ s s1 w fr b cs m (.leave fr' j)
theorem nframe_sim (hmix : P.follows .mixedOrders = true) (hc : CallSim P B call) (hl : ∀ t a, Local (call t a)) : ∀ (f : Nat) {ρ : Ren} {w : World} {s : AS} {a : Act} {fr : AF} {outs : List ((AF × Option Code) × AS)},
    Fr ρ fr b a → At B ρ s fr.nt fr.tmps w a → (∀ x ∈ outs, Free s.nx x.2.nx ρ) → nframe P call f fr s = some outs → Comes P B ρ s w fr b cs (lone (b.atR a fr.todo) cs w) outs
  | 0, ρ, w, s, a, fr, outs, _, _, _, h => by cases h
  | f + 1, ρ, w, s, a, fr, outs, hfr, hat, hf, h => by
    have andThen_ : ∀ {s2 : AS} {fr1 : AF} {outs1 : List ((AF × Option Code) × AS)}, (∀ y ∈ outs1, y ∈ outs) → nframe P call f fr1 s2 = some outs1 → Fine s2 → s.nx ≤ s2.nx → Went P B ρ s s2 w fr b cs (lone (b.atR a fr.todo) cs w) (.go fr1) →
        Comes P B ρ s w fr b cs (lone (b.atR a fr.todo) cs w) outs := by
      intro s2 fr1 outs1 hsub h2 fi2 le1 hwent
      obtain ⟨ne, g1, _⟩ := locL_nframe P hl f fr1 s2 outs1 fi2 h2
      have hle : ∀ y ∈ outs1, s2.nx ≤ y.2.nx := fun y hy => by obtain ⟨dr, dw, d⟩ := g1 y hy; exact d.nx
      have key : ∀ σ a' w', Ext s.nx s2.nx ρ σ → Fr σ fr1 b a' → At B σ s2 fr1.nt fr1.tmps w' a' → Comes P B σ s2 w' fr1 b cs (lone (b.atR a' fr1.todo) cs w') outs1 := fun σ a' w' e1 hfr' hat' =>
        nframe_sim hmix hc hl f hfr' hat' (fun x hx => (hf x (hsub x hx)).next le1 e1) h2
      obtain ⟨σ, a', w', e1, e2, e3, e4, ⟨e5, e6, e7⟩, e8, _, e9⟩ := hwent
      have e5' : fr1.fn = fr.fn := e5
      have e6' : fr1.nt = fr.nt := e6
      have e7' : fr1.round = fr.round := e7
      have hfr1 : Fr σ fr1 b a' := ⟨hfr.fn.trans e5'.symm, hfr.kind, by have := hfr.round.mono e1.le; rw [← e7'] at this; exact this, e3, e8⟩
      obtain ⟨fr', j, s1, hin, τ, a'', w'', f1, f2, f3, f4, ⟨f5, f6, f7⟩, f8, f9, f10⟩ := key σ a' w' e1 hfr1 (by rw [e6']; exact e2)
      exact ⟨fr', j, s1, hsub _ hin, τ, a'', w'', e1.trans le1 (hle _ hin) f1, by rw [e6'] at f2; exact f2, f3, e4.trans f4, ⟨f5.trans e5', f6.trans e6', f7.trans e7'⟩, f8, f9, Steps.trans e9 f10⟩
    cases e : asksNext fr with
    | none =>
      rw [nframe_step e] at h
      unfold andAll at h
      cases e1 : astep P call fr s with
      | bad => simp only [e1] at h; cases h
      | ok x s2 =>
        simp only [e1] at h
        have fi2 := (Local.astep P hl fr).fine hat.fine e1
        have le1 := (Local.astep P hl fr).le hat.fine e1
        cases x with
        | go fr1 =>
          have h' : nframe P call f fr1 s2 = some outs := h
          obtain ⟨ne, g1, _⟩ := locL_nframe P hl f fr1 s2 outs fi2 h'
          obtain ⟨y, hy⟩ := List.exists_mem_of_ne_nil _ ne
          obtain ⟨dr, dw, d⟩ := g1 y hy
          exact andThen_ (fun _ hy => hy) h' fi2 le1 (astep_sim hmix hc hl hfr hat ((hf y hy).sub (Nat.le_refl _) d.nx) e1)
        | leave fr1 j =>
          injection (show some [((fr1, j), s2)] = some outs from h) with h; subst h
          exact ⟨fr1, j, s2, by simp, astep_sim hmix hc hl hfr hat (hf ((fr1, j), s2) (by simp)) e1⟩
    | some q =>
      obtain ⟨it, o, ops, rest, k⟩ := q
      obtain ⟨id, htodo, hops, hgd, ho⟩ := asksNext_inv e
      rw [nframe_next e] at h
      unfold andAll at h
      cases e1 : getIter fr it s with
      | bad => simp only [e1] at h; cases h
      | ok x s2 =>
        simp only [e1] at h
        obtain ⟨n, ob⟩ := x
        obtain ⟨h1, h2⟩ := getIter_inv e1
        obtain ⟨hx, hg, hh, hnx⟩ := rdN_same h2
        have fi2 : Fine s2 := (Local.rdN n).fine hat.fine h2
        have ht : n < top := Nat.lt_of_lt_of_le hx hat.fine.nx
        have hd : ∀ c, o.op ≠ .defer c := fun c q => by rw [ho] at q; cases q
        cases ob with
        | iter m es ex left cur =>
          obtain ⟨htm, hlent, u⟩ := hat.rel.iter n m es ex left cur ht hg
          obtain ⟨bn, N, hn, hnext⟩ := u.next (P := P) o.type
          have hiv : VR ρ (.ptr (some (n, 0))) (a.eval it) := opd_sim hat.tr hat.g h1
          have hev : a.eval it = .pointer (some ⟨bn, 0, none⟩) := by
            simp only [VR] at hiv
            obtain ⟨b', N', q1, q2⟩ := hiv
            rw [hn] at q1; cases q1; exact q2
          have hexec : ∀ v w', (Instr.next (.pointer (some ⟨bn, 0, none⟩)) false o.type).run P w = .ok v w' → (execOp a.eval o).run P w = .ok (.value v) w' := by
            intro v w' q
            simp only [execOp, ho, hev, Sem.run_bind, q, Result.andThen_ok, Sem.run_pure]
          obtain ⟨_, _, _, hB⟩ := hat.rel.block ht hg hn
          cases left with
          | nil =>
            have h3 := h
            simp only [nIter, andAll] at h3
            cases e3 : nextOver P call fr n m es ex o ops rest k s2 with
            | bad => simp only [e3] at h3; cases h3
            | ok fr1 s3 =>
              simp only [e3] at h3
              have hrun : (Instr.next (.pointer (some ⟨bn, 0, none⟩)) false o.type).run P w = .ok (.tuple #[.bool false]) w := by
                rcases hnext with ⟨_, q⟩ | ⟨x, r, v1, v2, w', q, _⟩
                · exact q
                · cases q
              have fi3 := (Local.nextOver P hl fr n m es ex o ops rest k).fine fi2 e3
              have le3 := (Local.nextOver P hl fr n m es ex o ops rest k).le fi2 e3
              obtain ⟨ne, g1, _⟩ := locL_nframe P hl f fr1 s3 outs fi3 h3
              obtain ⟨y, hy⟩ := List.exists_mem_of_ne_nil _ ne
              obtain ⟨dr, dw, d⟩ := g1 y hy
              refine andThen_ (fun _ hy => hy) h3 fi3 (by omega) ?_
              unfold nextOver at e3
              obtain ⟨u1, s4, i1, i2⟩ := M.bind_inv e3
              obtain ⟨u2, s5, i3, i4⟩ := M.bind_inv i2
              obtain ⟨t1, s6, i5, i6⟩ := M.bind_inv i4
              obtain ⟨t2, s7, i7, i8⟩ := M.bind_inv i6
              obtain ⟨rfl, rfl⟩ := pure_inv i8
              obtain ⟨i9, rfl⟩ := lift_inv i5
              obtain ⟨_, _, _, j1, j2⟩ := wrN_same i1
              obtain ⟨_, _, _, j3, j4⟩ := wrN_same i3
              have fi6 : Fine s6 := (Local.wrN m _).fine ((Local.wrN n _).fine fi2 i1) i3
              have rel6 : Rel B ρ s6.h w := by rw [j3, j1, hh]; exact hat.rel.over ht hg
              have hvr : VR ρ (.tuple [.bool false]) (.tuple #[.bool false]) := by simp only [VR, VRs]; exact ⟨_, rfl, _, _, rfl, rfl, rfl⟩
              obtain ⟨q1, q2⟩ := aput_sim (a := a) hat.tr hat.nt i9 hvr
              exact region_tail hc hl hfr htodo hops hgd hd (hexec _ _ hrun) (Bel.refl _ _) ⟨q1, rel6, hat.g, hat.nt, fi6⟩ (by rw [j4, j2, hnx]) (by rw [j4, j2, hnx]; exact (hf y hy).sub (Nat.le_refl _) d.nx) i7
          | cons y0 ys =>
            have h3 := h
            simp only [nIter] at h3
            rcases hnext with ⟨q, _⟩ | ⟨x, r, v1, v2, w', hin, hv1, hv2, hrun, hoa, hblk, hun⟩
            · cases q
            · obtain ⟨outs1, h4, hsub⟩ := collect_mem h3 (x, r) hin
              unfold nNext andAll at h4
              cases e3 : nextIs P call fr n (.iter m es ex r (some x)) o ops rest k (.tuple [.bool true, x.1, x.2]) s2 with
              | bad => simp only [e3] at h4; cases h4
              | ok fr1 s3 =>
                simp only [e3] at h4
                have fi3 := (Local.nextIs P hl fr n (.iter m es ex r (some x)) o ops rest k (.tuple [.bool true, x.1, x.2])).fine fi2 e3
                have le3 := (Local.nextIs P hl fr n (.iter m es ex r (some x)) o ops rest k (.tuple [.bool true, x.1, x.2])).le fi2 e3
                obtain ⟨ne, g1, _⟩ := locL_nframe P hl f fr1 s3 outs1 fi3 h4
                obtain ⟨y, hy⟩ := List.exists_mem_of_ne_nil _ ne
                obtain ⟨dr, dw, d⟩ := g1 y hy
                refine andThen_ hsub h4 fi3 (by omega) ?_
                unfold nextIs at e3
                obtain ⟨u1, s4, i1, i2⟩ := M.bind_inv e3
                obtain ⟨t1, s6, i5, i6⟩ := M.bind_inv i2
                obtain ⟨t2, s7, i7, i8⟩ := M.bind_inv i6
                obtain ⟨rfl, rfl⟩ := pure_inv i8
                obtain ⟨i9, rfl⟩ := lift_inv i5
                obtain ⟨_, _, _, j1, j2⟩ := wrN_same i1
                have fi6 : Fine s6 := (Local.wrN n _).fine fi2 i1
                have rel6 : Rel B ρ s6.h w' := by rw [j1, hh]; exact hat.rel.nextAt ht hg hn hoa hblk hun
                have hvr : VR ρ (.tuple [.bool true, x.1, x.2]) (.tuple #[.bool true, v1, v2]) := by
                  simp only [VR, VRs]; exact ⟨_, rfl, _, _, rfl, rfl, _, _, rfl, hv1, _, _, rfl, hv2, rfl⟩
                obtain ⟨q1, q2⟩ := aput_sim (a := a) hat.tr hat.nt i9 hvr
                exact region_tail hc hl hfr htodo hops hgd hd (hexec _ _ hrun) (hoa.below (hB rfl)) ⟨q1, rel6, hat.g, hat.nt, fi6⟩ (by rw [j2, hnx]) (by rw [j2, hnx]; exact (hf y (hsub y hy)).sub (Nat.le_refl _) d.nx) i7
        | _ => cases h
end
end Go.Rn

namespace Go.Rn
open Go.RowKit
theorem sameKey_eq {a b : AV} (h : sameKey a b = some true) : a = b := by
  unfold sameKey at h
  split at h <;> first | (cases h; done) | skip
  · rename_i k x k' y
    cases hk : decide (k = k') with
    | false => rw [hk] at h; cases h
    | true =>
      rw [hk] at h; injection h with h
      have e1 := of_decide_eq_true hk
      have e2 : x = y := by simpa using h
      rw [e1, e2]
  · rename_i x y
    injection h with h
    obtain ⟨x⟩ := x
    obtain ⟨y⟩ := y
    have e : x = y := by
      have h' : (x == y) = true := h
      exact eq_of_beq h'
    rw [e]
  · rename_i x y
    injection h with h
    have e : x = y := by simpa using h
    rw [e]
theorem sameAll_eq : ∀ {a b : List AV}, sameAll a b = true → a = b
  | [], [], _ => rfl
  | [], _ :: _, h => by simp [sameAll] at h
  | _ :: _, [], h => by simp [sameAll] at h
  | x :: xs, y :: ys, h => by
    unfold sameAll at h
    split at h
    · rename_i e
      rw [sameKey_eq e, sameAll_eq h]
    · cases h
theorem sameBits_eq {a b : AV} (h : sameBits a b = true) : a = b := by
  unfold sameBits at h
  split at h
  · rw [sameAll_eq h]
  · split at h
    · rename_i e; exact sameKey_eq e
    · cases h
theorem sameEs_eq : ∀ {a b : List (AV × AV)}, sameEs a b = true → a = b
  | [], [], _ => rfl
  | [], _ :: _, h => by simp [sameEs] at h
  | _ :: _, [], h => by simp [sameEs] at h
  | x :: xs, y :: ys, h => by
    unfold sameEs at h
    cases q : (sameBits x.1 y.1 && sameBits x.2 y.2) with
    | false => rw [q] at h; cases h
    | true =>
      rw [q] at h
      obtain ⟨q1, q2⟩ := and_true.1 q
      rw [sameEs_eq h, Prod.ext (sameBits_eq q1) (sameBits_eq q2)]
theorem sortIn_perm (x : AV × AV) : ∀ l : List (AV × AV), (x :: l).Perm (sortIn x l)
  | [] => List.Perm.refl _
  | y :: l => by
    unfold sortIn
    split
    · exact (List.Perm.swap y x l).trans (List.Perm.cons y (sortIn_perm x l))
    · exact List.Perm.refl _
theorem sortEs_perm : ∀ l : List (AV × AV), l.Perm (sortEs l)
  | [] => List.Perm.refl _
  | x :: l => (List.Perm.cons x (sortEs_perm l)).trans (sortIn_perm x _)
theorem EQs.perm {ρ : Ren} {es fs : List (AV × AV)} (p : es.Perm fs) : ∀ {l : List MapEntry}, EQs ρ es l → ∃ l', l.Perm l' ∧ EQs ρ fs l' := by
  induction p with
  | nil => intro l h; exact ⟨l, List.Perm.refl _, h⟩
  | cons x p ih =>
    intro l h
    simp only [EQs] at h
    obtain ⟨e, es', rfl, h1, h2, h3⟩ := h
    obtain ⟨l', q1, q2⟩ := ih h3
    exact ⟨e :: l', q1.cons e, by simp only [EQs]; exact ⟨e, l', rfl, h1, h2, q2⟩⟩
  | swap x y l0 =>
    intro l h
    simp only [EQs] at h
    obtain ⟨e, es', rfl, h1, h2, e2, es2, rfl, h3, h4, h5⟩ := h
    exact ⟨e2 :: e :: es2, List.Perm.swap e2 e es2, by simp only [EQs]; exact ⟨e2, _, rfl, h3, h4, e, es2, rfl, h1, h2, h5⟩⟩
  | trans _ _ ih1 ih2 =>
    intro l h
    obtain ⟨l1, q1, q2⟩ := ih1 h
    obtain ⟨l2, q3, q4⟩ := ih2 q2
    exact ⟨l2, q1.trans q3, q4⟩
theorem keyIn_apart {k : AV} : ∀ {l : List (AV × AV)}, keyIn k l = false → ∀ p ∈ l, sameKey k p.1 = some false
  | [], _, p, hp => by cases hp
  | (x, y) :: l, h, p, hp => by
    unfold keyIn at h
    split at h
    · rename_i e
      rcases List.mem_cons.1 hp with rfl | hp
      · exact e
      · exact keyIn_apart h p hp
    · cases h
theorem keysOk_apart : ∀ {l : List (AV × AV)}, keysOk l = true → KeysApart l
  | [], _ => List.Pairwise.nil
  | (x, y) :: l, h => by
    unfold keysOk at h
    split at h
    · cases h
    · rename_i e
      refine List.Pairwise.cons (fun p hp => ?_) (keysOk_apart h)
      have := keyIn_apart e p hp
      exact ⟨this, by rw [sameKey_comm]; exact this⟩
theorem allKeysOk_mem : ∀ {es : List (Nat × List (AV × AV))}, allKeysOk es = true → ∀ p ∈ es, keysOk p.2 = true
  | [], _, p, hp => by cases hp
  | (n, e) :: l, h, p, hp => by
    unfold allKeysOk at h
    split at h
    · rename_i q
      rcases List.mem_cons.1 hp with rfl | hp
      · exact q
      · exact allKeysOk_mem h p hp
    · cases h
theorem hasEs_mem {s : AS} : ∀ {es : List (Nat × List (AV × AV))}, hasEs s es = true → ∀ p ∈ es, ∃ fs, esOf s p.1 = some fs ∧ sortEs fs = p.2
  | [], _, p, hp => by cases hp
  | (n, e) :: l, h, p, hp => by
    unfold hasEs at h
    split at h
    · cases h
    · rename_i fs q
      split at h
      · rename_i q2
        rcases List.mem_cons.1 hp with rfl | hp
        · exact ⟨fs, q, sameEs_eq q2⟩
        · exact hasEs_mem h p hp
      · cases h
theorem fits_mem {lo : Nat} {ns : List Nat} {es : List (Nat × List (AV × AV))} {r : Ret} {rest : Option (List AV)} : ∀ {outs : List (AV × AS)}, fits lo ns es r rest outs = true → ∀ x ∈ outs,
    (∀ k ∈ x.2.wr, k < lo → k ∈ ns) ∧ hasEs x.2 es = true ∧ ∃ q, retOf lo x.2 (headOf x.1) = some q ∧ sameRet q r = true ∧ sameRest (restOf x.1) rest = true
  | [], _, x, hx => by cases hx
  | (v, s) :: l, h, x, hx => by
    unfold fits at h
    split at h
    · cases h
    · rename_i q1
      obtain ⟨a1, a2⟩ := and_true.1 q1
      split at h
      · cases h
      · rename_i q q2
        split at h
        · rename_i q3
          rcases List.mem_cons.1 hx with rfl | hx
          · refine ⟨fun k hk hlt => ?_, a2, q, q2, (and_true.1 q3).1, (and_true.1 q3).2⟩
            exact memN_iff.1 (List.all_eq_true.1 a1 k (mem_below.2 ⟨hk, hlt⟩))
          · exact fits_mem h x hx
        · cases h
theorem nxOf_le : ∀ {outs : List (AV × AS)}, ∀ x ∈ outs, x.2.nx ≤ nxOf outs
  | [], x, hx => by cases hx
  | (v, s) :: l, x, hx => by
    unfold nxOf
    rcases List.mem_cons.1 hx with rfl | hx
    · exact Nat.le_max_left _ _
    · exact Nat.le_trans (nxOf_le x hx) (Nat.le_max_right _ _)
theorem planOf_inv {lo : Nat} {outs : List (AV × AS)} {p : Plan} (h : planOf lo outs = some p) : ∃ ns, p.es.map (·.1) = ns ∧ p.lo = lo ∧ p.skip = nxOf outs - lo ∧ allKeysOk p.es = true ∧ fits lo ns p.es p.ret p.rest outs = true := by
  unfold planOf at h
  split at h
  · cases h
  · rename_i v s1 l
    split at h
    · rename_i es r e1 e2
      split at h
      · cases h
      · rename_i q
        injection h with h
        subst h
        obtain ⟨q1, q2⟩ := and_true.1 q
        exact ⟨_, entriesOf_names e1, rfl, rfl, q2, q1⟩
    · cases h
section
variable {P : Program} {B : Base} {ρ σ : Ren} {w w2 : World} {s s1 s2 : AS}
theorem noteAll_same : ∀ {l : List Nat} {s s1 : AS} {u : Unit}, noteAll l s = .ok u s1 → s1.h = s.h ∧ s1.nx = s.nx
  | [], s, s1, u, h => by
    obtain ⟨_, rfl⟩ := pure_inv (show M.pure () s = .ok u s1 from h)
    exact ⟨rfl, rfl⟩
  | n :: l, s, s1, u, h => by
    obtain ⟨o, s2, h1, h2⟩ := M.bind_inv (show (rdN n).bind (fun _ => noteAll l) s = .ok u s1 from h)
    obtain ⟨_, _, e1, e2⟩ := rdN_same h1
    obtain ⟨e3, e4⟩ := noteAll_same h2
    exact ⟨e3.trans e1, e4.trans e2⟩
theorem mapObj_same {n : Nat} {es : List (AV × AV)} (h : mapObj n s = .ok es s1) : n < s.nx ∧ (∃ o, s.h.get n = some o ∧ o.plain = true ∧ o ≠ .lent) ∧ s1.h = s.h ∧ s1.nx = s.nx := by
  unfold mapObj at h
  obtain ⟨o, s2, h1, h2⟩ := M.bind_inv h
  obtain ⟨hx, hg, e1, e2⟩ := rdN_same h1
  cases o with
  | map es clock => obtain ⟨_, rfl⟩ := pure_inv h2; exact ⟨hx, ⟨_, hg, rfl, by simp⟩, e1, e2⟩
  | mapAny es => obtain ⟨_, rfl⟩ := pure_inv h2; exact ⟨hx, ⟨_, hg, rfl, by simp⟩, e1, e2⟩
  | _ => cases h2
theorem putEs_same : ∀ {es : List (Nat × List (AV × AV))} {s s1 : AS} {u : Unit}, putEs es s = .ok u s1 → s1.nx = s.nx ∧ (∀ p ∈ es, p.1 < s.nx ∧ s.h.get p.1 ≠ some .lent) ∧
    ∀ k, k < top → (k ∉ es.map (·.1) ∧ s1.h.get k = s.h.get k) ∨ ∃ e, (k, e) ∈ es ∧ s1.h.get k = some (.mapAny e)
  | [], s, s1, u, h => by
    obtain ⟨_, rfl⟩ := pure_inv (show M.pure () s = .ok u s1 from h)
    exact ⟨rfl, (fun p hp => by cases hp), fun k _ => .inl ⟨by simp, rfl⟩⟩
  | (n, e) :: l, s, s1, u, h => by
    obtain ⟨_, sa, h1, h2⟩ := M.bind_inv (show (mapObj n).bind (fun _ => (wrN n (some (.mapAny e))).bind fun _ => putEs l) s = .ok u s1 from h)
    obtain ⟨_, sb, h3, h4⟩ := M.bind_inv h2
    obtain ⟨a1, ⟨o, a2, a3, a4⟩, a5, a6⟩ := mapObj_same h1
    obtain ⟨_, b1, _, b2, b3⟩ := wrN_same h3
    obtain ⟨c1, c2, c3⟩ := putEs_same h4
    have g : ∀ k, k < top → sb.h.get k = if k = n then some (.mapAny e) else s.h.get k := fun k hk => by rw [b2, a5]; exact Tr.get_put _ _ _ _ b1 hk
    refine ⟨by rw [c1, b3, a6], fun p hp => ?_, fun k hk => ?_⟩
    · rcases List.mem_cons.1 hp with rfl | hp
      · exact ⟨a1, by rw [a2]; intro q; injection q with q; exact a4 q⟩
      · obtain ⟨d1, d2⟩ := c2 p hp
        refine ⟨by rw [b3, a6] at d1; exact d1, ?_⟩
        by_cases q : p.1 = n
        · rw [q, a2]; intro q; injection q with q; exact a4 q
        · by_cases q2 : p.1 < top
          · rw [g _ q2, if_neg q] at d2; exact d2
          · rw [b2, a5] at d2
            intro q3
            have := Tr.get_put' s.h n p.1 (some (.mapAny e)) b1
            rw [this, if_neg q] at d2; exact d2 q3
    · rcases c3 k hk with ⟨d1, d2⟩ | ⟨e', d1, d2⟩
      · by_cases q : k = n
        · subst q; refine .inr ⟨e, by simp, ?_⟩; rw [d2, g _ hk, if_pos rfl]
        · refine .inl ⟨?_, by rw [d2, g _ hk, if_neg q]⟩
          simp only [List.map_cons, List.mem_cons, not_or]; exact ⟨q, d1⟩
      · exact .inr ⟨e', List.mem_cons_of_mem _ d1, d2⟩
theorem skipN_same : ∀ {k : Nat} {s s1 : AS} {u : Unit}, skipN k s = .ok u s1 → s1.nx = s.nx + k ∧ ∀ j, j < top → (s.nx ≤ j ∧ j < s1.nx ∧ s1.h.get j = none) ∨ (¬ (s.nx ≤ j ∧ j < s1.nx) ∧ s1.h.get j = s.h.get j)
  | 0, s, s1, u, h => by
    obtain ⟨_, rfl⟩ := pure_inv (show M.pure () s = .ok u s1 from h)
    exact ⟨rfl, fun j _ => .inr ⟨by omega, rfl⟩⟩
  | k + 1, s, s1, u, h => by
    obtain ⟨n, sa, h1, h2⟩ := M.bind_inv (show (newN .defs).bind (fun n => (wrN n none).bind fun _ => skipN k) s = .ok u s1 from h)
    obtain ⟨_, sb, h3, h4⟩ := M.bind_inv h2
    obtain ⟨a1, rfl, rfl⟩ := newN_inv h1
    obtain ⟨_, b1, _, b2, b3⟩ := wrN_same h3
    obtain ⟨c1, c2⟩ := skipN_same h4
    have b3' : sb.nx = s.nx + 1 := b3
    have g : ∀ j, j < top → sb.h.get j = if j = s.nx then none else s.h.get j := fun j hj => by
      rw [b2, Tr.get_put _ _ _ _ b1 hj]
      by_cases q : j = s.nx
      · rw [if_pos q, if_pos q]
      · rw [if_neg q, if_neg q]; show (s.h.put s.nx (some .defs)).get j = _; rw [Tr.get_put _ _ _ _ b1 hj, if_neg q]
    refine ⟨by omega, fun j hj => ?_⟩
    rcases c2 j hj with ⟨d1, d2, d3⟩ | ⟨d1, d2⟩
    · exact .inl ⟨by omega, d2, d3⟩
    · by_cases q : j = s.nx
      · refine .inl ⟨by omega, by omega, ?_⟩; rw [d2, g j hj, if_pos q]
      · refine .inr ⟨by omega, ?_⟩; rw [d2, g j hj, if_neg q]
theorem retM_same {lo : Nat} {r : Ret} {x : AV} (h : retM lo r s = .ok x s1) : (s1 = s ∧ ((r = .none ∧ x = .tuple []) ∨ (r = .nil ∧ x = .slice none 0 (.known 0)))) ∨
    ∃ n c len e, r = .row n c len e ∧ x = .slice (some (n, 0)) len (.atLeast len e) ∧ s.nx ≤ n ∧ n < top ∧ s1.nx = n + 1 ∧ c.length ≤ top ∧ s1.h.get n = some (.cells c.length (Tr.fill c 0 .nil) []) ∧ (∀ y ∈ c, y.oneCell = true) ∧
      ∀ j, j < top → j ≠ n → (s.nx ≤ j ∧ j < s1.nx ∧ s1.h.get j = none) ∨ (¬ (s.nx ≤ j ∧ j < s1.nx) ∧ s1.h.get j = s.h.get j) := by
  cases r with
  | none => obtain ⟨rfl, rfl⟩ := pure_inv (show M.pure (.tuple []) s = .ok x s1 from h); exact .inl ⟨rfl, .inl ⟨rfl, rfl⟩⟩
  | nil => obtain ⟨rfl, rfl⟩ := pure_inv (show M.pure (.slice none 0 (.known 0)) s = .ok x s1 from h); exact .inl ⟨rfl, .inr ⟨rfl, rfl⟩⟩
  | row n c len e =>
    obtain ⟨_, sa, h1, h2⟩ := M.bind_inv (show ((skipN (n - lo)).bind fun _ => (newRow c).bind fun m => withB (Nat.beq m n) <| M.pure (.slice (some (n, 0)) len (.atLeast len e))) s = .ok x s1 from h)
    obtain ⟨m, sb, h3, h4⟩ := M.bind_inv h2
    obtain ⟨q, h5⟩ := withB_inv h4
    obtain ⟨rfl, rfl⟩ := pure_inv h5
    unfold newRow at h3
    obtain ⟨q1, h6⟩ := withB_inv h3
    obtain ⟨q2, q3⟩ := and_true.1 q1
    obtain ⟨a1, rfl, rfl⟩ := newN_inv h6
    have q' : sa.nx = n := beqN_true.1 q
    obtain ⟨b1, b2⟩ := skipN_same h1
    refine .inr ⟨n, c, len, e, rfl, rfl, by omega, by omega, by show sa.nx + 1 = _; omega, ble_true.1 q2, ?_, fun y hy => List.all_eq_true.1 q3 y hy, fun j hj hne => ?_⟩
    · show (sa.h.put sa.nx _).get n = _
      rw [q', Tr.get_put _ _ _ _ (by omega) (by omega), if_pos rfl]
    · have e1 : (sa.h.put sa.nx (some (.cells c.length (Tr.fill c 0 .nil) []))).get j = sa.h.get j := by rw [Tr.get_put _ _ _ _ a1 hj, if_neg (by omega)]
      show (_ ∧ j < sa.nx + 1 ∧ (sa.h.put sa.nx (some (.cells c.length (Tr.fill c 0 .nil) []))).get j = none) ∨ (¬ (_ ∧ j < sa.nx + 1) ∧ (sa.h.put sa.nx (some (.cells c.length (Tr.fill c 0 .nil) []))).get j = s.h.get j)
      rw [e1]
      rcases b2 j hj with ⟨d1, d2, d3⟩ | ⟨d1, d2⟩
      · exact .inl ⟨d1, by omega, d3⟩
      · exact .inr ⟨by omega, d2⟩
theorem esOf_inv {n : Nat} {fs : List (AV × AV)} (h : esOf s n = some fs) : ∃ o, s.h.get n = some o ∧ o.isRo = false ∧ ((∃ c, o = .map fs c) ∨ o = .mapAny fs) := by
  unfold esOf at h
  split at h
  · rename_i es c e; injection h with h; subst h; exact ⟨_, e, rfl, .inl ⟨c, rfl⟩⟩
  · rename_i es e; injection h with h; subst h; exact ⟨_, e, rfl, .inr rfl⟩
  · cases h
theorem mapAny_of {N : Nat} {o : AObj} {fs : List (AV × AV)} {o' : Obj} (h : (∃ c, o = .map fs c) ∨ o = .mapAny fs) (hO : OR σ N o o') (hk : keysOk (sortEs fs) = true) : OR σ N (.mapAny (sortEs fs)) o' := by
  have key : ∀ (l : Array MapEntry) (clock : Nat), BornOk l.toList clock → EPs σ fs l.toList → OR σ N (.mapAny (sortEs fs)) (.map l clock) := by
    intro l clock hb hp
    obtain ⟨l', p1, p2⟩ := hp
    obtain ⟨l'', p3, p4⟩ := p2.perm (sortEs_perm fs)
    exact ⟨l, clock, rfl, keysOk_apart hk, hb, l'', p1.trans p3, p4⟩
  rcases h with ⟨c, rfl⟩ | rfl
  · obtain ⟨l, rfl, hc, he⟩ := hO
    exact key l c (by rw [hc]; exact he.bornOk) ⟨_, List.Perm.refl _, he.eqs⟩
  · obtain ⟨l, clock, rfl, _, hb, he⟩ := hO
    exact key l clock hb he
theorem join_sim {outs : List (AV × AS)} {p : Plan} {v x : AV} {u : Value} {dr dw : List Nat} (r : Rel B ρ s.h w) (hf : Free s.nx s2.nx ρ) (hp : planOf s.nx outs = some p) (hin : (v, s1) ∈ outs)
    (hdid : Did ⟨s.h, s.nx, s.nx, [], []⟩ s1 dr dw) (hd : doPlan p s = .ok x s2) (e : Ext s.nx s1.nx ρ σ) (hv : VR σ v u) (rl : Rel B σ s1.h w2) (hb : Bel B w w2) : Came B ρ s s2 w x u w2 := by
  obtain ⟨ns, hns, hlo, hskip, hkeys, hfits⟩ := planOf_inv hp
  obtain ⟨f1, f2, q, f3, f4, f5⟩ := fits_mem hfits _ hin
  have f3 : retOf s.nx s1 (headOf v) = some q := f3
  have f5 : sameRest (restOf v) p.rest = true := f5
  obtain ⟨_, n1, d1, d2⟩ := M.bind_inv (show ((noteAll p.note).bind fun _ => (putEs p.es).bind fun _ => (retM p.lo p.ret).bind fun v => (skipN p.skip).bind fun _ => M.pure (joinRest p.rest v)) s = .ok x s2 from hd)
  obtain ⟨_, n2, d3, d4⟩ := M.bind_inv d2
  obtain ⟨y, n3, d5, d6⟩ := M.bind_inv d4
  obtain ⟨_, n4, d7, d8⟩ := M.bind_inv d6
  obtain ⟨rfl, rfl⟩ := pure_inv d8
  obtain ⟨a1, a2⟩ := noteAll_same d1
  obtain ⟨b1, b2, b3⟩ := putEs_same d3
  obtain ⟨c1, c2⟩ := skipN_same d7
  have hwr : ∀ k ∈ dw, k < s.nx → k ∈ ns := by
    intro k hk hlt
    refine f1 k ?_ hlt
    have := hdid.wr; simp only [List.append_nil] at this; rw [this]; exact hk
  have hle1 : s.nx ≤ n3.nx ∧ s1.nx ≤ s2.nx := by
    have hx : s1.nx ≤ nxOf outs := nxOf_le _ hin
    rcases retM_same d5 with ⟨rfl, _⟩ | ⟨n, c, len, ee, _, _, g1, _, g2, _⟩
    · omega
    · omega
  have hle2 : n3.nx ≤ s2.nx := by omega
  have heap : ∀ k, k < top → (s2.h.get k = none ∧ s.nx ≤ k ∧ k < s2.nx) ∨ (∃ es, (k, es) ∈ p.es ∧ s2.h.get k = some (.mapAny es)) ∨ (k ∉ ns ∧ ¬(s.nx ≤ k ∧ k < s2.nx) ∧ s2.h.get k = s.h.get k) ∨
      (∃ c len ee, p.ret = .row k c len ee ∧ s.nx ≤ k ∧ c.length ≤ top ∧ (∀ y ∈ c, y.oneCell = true) ∧ s2.h.get k = some (.cells c.length (Tr.fill c 0 .nil) [])) := by
    intro k hk
    have base : n2.nx = s.nx := by omega
    have put : (k ∉ ns ∧ n2.h.get k = s.h.get k) ∨ ∃ es, (k, es) ∈ p.es ∧ n2.h.get k = some (.mapAny es) := by
      rcases b3 k hk with ⟨g1, g2⟩ | ⟨es, g1, g2⟩
      · exact .inl ⟨by rw [← hns]; exact g1, by rw [g2, a1]⟩
      · exact .inr ⟨es, g1, g2⟩
    have low : ∀ es, (k, es) ∈ p.es → k < s.nx := fun es h => by have := (b2 _ h).1; omega
    have last : ∀ (hr : n3.h.get k = n2.h.get k) (hn : ¬ (s.nx ≤ k ∧ k < n3.nx)), (s2.h.get k = none ∧ s.nx ≤ k ∧ k < s2.nx) ∨ (∃ es, (k, es) ∈ p.es ∧ s2.h.get k = some (.mapAny es)) ∨ (k ∉ ns ∧ ¬(s.nx ≤ k ∧ k < s2.nx) ∧ s2.h.get k = s.h.get k) := by
      intro hr hn
      rcases c2 k hk with ⟨g1, g2, g3⟩ | ⟨g1, g2⟩
      · exact .inl ⟨g3, by omega, g2⟩
      · rcases put with ⟨p1, p2⟩ | ⟨es, p1, p2⟩
        · exact .inr (.inr ⟨p1, by omega, by rw [g2, hr, p2]⟩)
        · exact .inr (.inl ⟨es, p1, by rw [g2, hr, p2]⟩)
    rcases retM_same d5 with ⟨rfl, _⟩ | ⟨n, c, len, ee, h1, _, h3, h4, h5, h6, h7, h8, h9⟩
    · rcases last rfl (by omega) with h | h | h
      · exact .inl h
      · exact .inr (.inl h)
      · exact .inr (.inr (.inl h))
    · by_cases hkn : k = n
      · subst hkn
        rcases c2 k hk with ⟨g1, g2, g3⟩ | ⟨g1, g2⟩
        · omega
        · exact .inr (.inr (.inr ⟨c, len, ee, h1, by omega, h6, h8, by rw [g2, h7]⟩))
      · rcases h9 k hk hkn with ⟨g1, g2, g3⟩ | ⟨g1, g2⟩
        · rcases c2 k hk with ⟨i1, i2, i3⟩ | ⟨i1, i2⟩
          · omega
          · exact .inl ⟨by rw [i2, g3], by omega, by omega⟩
        · rcases last g2 (by omega) with h | h | h
          · exact .inl h
          · exact .inr (.inl h)
          · exact .inr (.inr (.inl h))
  have kept : ∀ k, k < top → k ∉ ns → ¬(s.nx ≤ k ∧ k < s2.nx) → s1.h.get k = s.h.get k := by
    intro k hk h1 h2
    by_cases h3 : k < s.nx
    · exact hdid.same k h3 fun h4 => h1 (hwr k h4 h3)
    · exact hdid.far k (by omega) hk
  have row : ∀ k c len ee, p.ret = .row k c len ee → ∃ c', len ≤ c' ∧ headOf v = .slice (some (k, 0)) len (.atLeast c' ee) ∧ k < s1.nx ∧ ∃ t z, s1.h.get k = some (.cells c.length t z) ∧ ∀ i, i < c.length → cellAt t z i = c[i]? := by
    intro k c len ee hr
    rw [hr] at f4
    unfold retOf at f3
    split at f3
    · injection f3 with f3; subst f3; simp [sameRet] at f4
    · injection f3 with f3; subst f3; simp [sameRet] at f4
    · rename_i n len' c' e' hveq
      split at f3
      · rename_i k' t z hg
        split at f3
        · rename_i l hl
          split at f3
          · rename_i hq
            injection f3 with f3; subst f3
            simp only [sameRet] at f4
            obtain ⟨g1, g2⟩ := and_true.1 f4
            obtain ⟨g3, g4⟩ := and_true.1 g2
            obtain ⟨g5, g6⟩ := and_true.1 g4
            obtain ⟨q1, q2⟩ := and_true.1 hq
            obtain ⟨q3, q4⟩ := and_true.1 q1
            obtain ⟨q5, q6⟩ := and_true.1 q2
            obtain ⟨q7, q8⟩ := and_true.1 q6
            have e1 : n = k := beqN_true.1 g1
            have e2 : l = c := sameAll_eq g3
            have e3 : len' = len := beqN_true.1 g5
            have e4 : e' = ee := beqN_true.1 g6
            subst e1; subst e2; subst e3; subst e4
            obtain ⟨i1, i2⟩ := gather_some hl
            subst i1
            have hn : n < s1.nx := by rw [← blt_eq]; exact q4
            exact ⟨c', ble_true.1 q7, hveq, hn, t, z, hg, fun i hi => by have := i2 i hi; rw [Nat.zero_add] at this; exact this⟩
          · cases f3
        · cases f3
      · cases f3
    · cases f3
  have inEs : ∀ k es, (k, es) ∈ p.es → ∃ fs o, s1.h.get k = some o ∧ o.isRo = false ∧ ((∃ c, o = .map fs c) ∨ o = .mapAny fs) ∧ sortEs fs = es ∧ keysOk es = true := by
    intro k es h
    obtain ⟨fs, h1, h2⟩ := hasEs_mem f2 _ h
    obtain ⟨o, h3, h4, h5⟩ := esOf_inv h1
    exact ⟨fs, o, h3, h4, h5, h2, allKeysOk_mem hkeys _ h⟩
  have live : ∀ k, k < top → ∀ o, s2.h.get k = some o → ∃ o', s1.h.get k = some o' ∧ (o.isRo = false → o'.isRo = false) := by
    intro k hk o ho
    rcases heap k hk with ⟨h1, _⟩ | ⟨es, h1, h2⟩ | ⟨h1, h2, h3⟩ | ⟨c, len, ee, h1, _⟩
    · rw [h1] at ho; cases ho
    · obtain ⟨fs, o', h3, h4, _⟩ := inEs k es h1; exact ⟨o', h3, fun _ => h4⟩
    · rw [h3] at ho; exact ⟨o, by rw [kept k hk h1 h2]; exact ho, id⟩
    · obtain ⟨_, _, _, _, t, z, h3, _⟩ := row k c len ee h1; exact ⟨_, h3, fun _ => rfl⟩
  have isIter : ∀ i, i < top → ∀ m es ex left cur, s2.h.get i = some (.iter m es ex left cur) → i ∉ ns ∧ ¬(s.nx ≤ i ∧ i < s2.nx) ∧ s.h.get i = some (.iter m es ex left cur) ∧ s1.h.get i = some (.iter m es ex left cur) := by
    intro i hi m es ex left cur hq
    rcases heap i hi with ⟨h1, _⟩ | ⟨es, h1, h2⟩ | ⟨h1, h2, h3⟩ | ⟨c, len, ee, h1, _, _, _, h2⟩
    · rw [h1] at hq; cases hq
    · rw [h2] at hq; cases hq
    · rw [h3] at hq; exact ⟨h1, h2, hq, by rw [kept i hi h1 h2]; exact hq⟩
    · rw [h2] at hq; cases hq
  refine ⟨σ, ⟨e.le, fun k hk => e.out k (by omega)⟩, ?_, ⟨?_, ?_, ?_, rl.size, ?_, rl.fz.of (Ren.le_refl _) (fun _ _ _ => rfl) (fun b1 _ hn => hn.sub fun m q hm hq hqr => by
    obtain ⟨y, e1, e2⟩ := live m hm q hq
    exact ⟨y, e1, e2 hqr⟩)⟩, hb⟩
  · have val : ∀ u1, VR σ (headOf v) u1 → VR σ y u1 := by
      intro u1 hv
      · rcases retM_same d5 with ⟨_, ⟨hr, rfl⟩ | ⟨hr, rfl⟩⟩ | ⟨n, c, len, ee, hr, rfl, _⟩
        · rw [hr] at f4
          unfold retOf at f3
          split at f3
          · rename_i hveq; have hveq' : headOf v = .tuple [] := hveq; rw [← hveq']; exact hv
          · injection f3 with f3; subst f3; simp [sameRet] at f4
          · split at f3
            · split at f3
              · split at f3
                · injection f3 with f3; subst f3; simp [sameRet] at f4
                · cases f3
              · cases f3
            · cases f3
          · cases f3
        · rw [hr] at f4
          unfold retOf at f3
          split at f3
          · injection f3 with f3; subst f3; simp [sameRet] at f4
          · rename_i hveq; have hveq' : headOf v = .slice none 0 (.known 0) := hveq; rw [← hveq']; exact hv
          · split at f3
            · split at f3
              · split at f3
                · injection f3 with f3; subst f3; simp [sameRet] at f4
                · cases f3
              · cases f3
            · cases f3
          · cases f3
        · obtain ⟨c', h1, hvh', _⟩ := row n c len ee hr
          rw [hvh'] at hv
          simp only [VR] at hv ⊢
          obtain ⟨b, N, cc, g1, g2, g3, g4, g5⟩ := hv
          exact ⟨b, N, cc, g1, g2, g4, g4, g5⟩
    cases v with
    | tuple vs =>
      cases vs with
      | nil =>
        cases hr : p.rest with
        | some l => rw [hr] at f5; cases f5
        | none => exact val u hv
      | cons v1 l =>
        cases hr : p.rest with
        | none => rw [hr] at f5; cases f5
        | some m =>
          rw [hr] at f5
          have el : l = m := sameAll_eq f5
          subst el
          simp only [VR, VRs] at hv
          obtain ⟨a, rfl, u1, us, e1, g1, g2⟩ := hv
          show VR σ (.tuple (y :: l)) (.tuple a)
          simp only [VR, VRs]
          exact ⟨a, rfl, u1, us, e1, val u1 g1, g2⟩
    | _ =>
      cases hr : p.rest with
      | some l => rw [hr] at f5; cases f5
      | none => exact val u hv
  · intro k o hk ho
    rcases heap k hk with ⟨h1, _⟩ | ⟨es, h1, h2⟩ | ⟨h1, h2, h3⟩ | ⟨c, len, ee, h1, h2, h3, h4, h5⟩
    · rw [h1] at ho; cases ho
    · rw [h2] at ho; injection ho with ho; subst ho
      obtain ⟨fs, o, g1, g2, g3, rfl, g5⟩ := inEs k es h1
      obtain ⟨b, N, o', i1, i2, i3, i4⟩ := rl.is k o hk g1
      exact ⟨b, N, o', i1, i2, mapAny_of g3 i3 g5, fun _ => i4 g2⟩
    · rw [h3] at ho
      exact rl.is k o hk (by rw [kept k hk h1 h2]; exact ho)
    · rw [h5] at ho; injection ho with ho; subst ho
      obtain ⟨c', _, _, _, t, z, g1, g2⟩ := row k c len ee h1
      obtain ⟨b, N, o', i1, i2, i3, i4⟩ := rl.is k _ hk g1
      obtain ⟨cc, et, rfl, j1, j2, j3⟩ := i3
      refine ⟨b, N, _, i1, i2, ⟨cc, et, rfl, j1, j2, fun i hi => ?_⟩, fun _ => i4 rfl⟩
      obtain ⟨y, yv, y1, y2, y3, y4⟩ := j3 i hi
      exact ⟨y, yv, by rw [cellAt_fill h3 hi, ← g2 i hi]; exact y1, y2, y3, y4⟩
  · intro k j o o' b N M hk hj ho ho' hor h1 h2
    obtain ⟨y, hy, hy'⟩ := live k hk o ho
    obtain ⟨z, hz, hz'⟩ := live j hj o' ho'
    exact rl.one k j y z b N M hk hj hy hz (hor.imp hy' hz') h1 h2
  · intro i m es ex left cur hi hq
    obtain ⟨g1, g2, g3, g4⟩ := isIter i hi m es ex left cur hq
    obtain ⟨h1, h2, h3⟩ := rl.iter i m es ex left cur hi g4
    obtain ⟨_, i2, _⟩ := r.iter i m es ex left cur hi g3
    refine ⟨h1, ?_, h3⟩
    rcases heap m h1 with ⟨k1, k2, k3⟩ | ⟨es', k1, k2⟩ | ⟨k1, k2, k3⟩ | ⟨c, len, ee, k1, k2, _⟩
    · obtain ⟨bb, N, _, j1, _⟩ := r.is m _ h1 i2
      rw [hf m k2 k3] at j1; cases j1
    · have := (b2 _ k1).2; rw [a1] at this; exact absurd i2 this
    · rw [k3]; exact i2
    · obtain ⟨bb, N, _, j1, _⟩ := r.is m _ h1 i2
      obtain ⟨_, _, _, l1, _⟩ := row m c len ee k1
      rw [hf m k2 (by omega)] at j1; cases j1
  · intro i j m es ex left cur es' ex' left' cur' hi hj h1 h2
    exact rl.lone i j m _ _ _ _ _ _ _ _ hi hj (isIter i hi _ _ _ _ _ h1).2.2.2 (isIter j hj _ _ _ _ _ h2).2.2.2
end
end Go.Rn

namespace Go.Rn
open Go.RowKit
section
variable {P : Program} {B : Base} {ρ : Ren} {w : World} {s s1 : AS} {call : Caller}
theorem finishAll_mem {rs : List ResultVar} : ∀ {l : List ((AF × Option Code) × AS)} {outs : List (AV × AS)}, finishAll P rs l = some outs → ∀ x ∈ l, ∃ v s1, finish P rs x.1.1 x.1.2 x.2 = .ok v s1 ∧ (v, s1) ∈ outs
  | [], outs, _, x, hx => by cases hx
  | ((fr, j), s) :: l, outs, h, x, hx => by
    simp only [finishAll] at h
    cases e : finish P rs fr j s with
    | bad => rw [e] at h; cases h
    | ok v s1 =>
      rw [e] at h
      cases e2 : finishAll P rs l with
      | none => simp only [e2] at h; cases h
      | some r =>
        simp only [e2] at h; injection h with h; subst h
        rcases List.mem_cons.1 hx with rfl | hx
        · exact ⟨v, s1, e, by simp⟩
        · obtain ⟨v', s', a, b⟩ := finishAll_mem e2 x hx
          exact ⟨v', s', a, List.mem_cons_of_mem _ b⟩
theorem way1_sim (hmix : P.follows .mixedOrders = true) (hc : CallSim P B call) (hl : ∀ t a, Local (call t a)) {f : FuncId} {fn : Func} {body : Code} {args : List AV} {vs : Array Value} {x : AV} (hfn : P.funcs[f]? = some fn) (hbody : fn.body = some body) (hname : (fn.name == "runtime.NumGoroutine") = false) (hok : CodeOk body)
    (fi : Fine s) (r : Rel B ρ s.h w) (hg : RenG ρ) (hf : Free s.nx s1.nx ρ) (h : ajoin P call f fn.ntmps fn.results.toList body args s = .ok x s1) (hv : VRs ρ args vs.toList) : Back P ((callFunc f vs).run P w) (Came B ρ s s1 w x) := by
  have hcall : (callFunc f vs).run P w = .ok (.enter f vs) w := by
    have hprog : (program).run P w = .ok P w := rfl
    have hn : fn.name ≠ "runtime.NumGoroutine" := by simpa using hname
    simp only [callFunc, Sem.run_bind, hprog, Result.andThen_ok, hfn, hname, hbody]
    simp
  rw [hcall]
  intro cs
  unfold ajoin at h
  cases e0 : Nat.ble (max fn.ntmps args.length) top with
  | false => simp only [e0] at h; cases h
  | true =>
    simp only [e0] at h
    have hmax := ble_true.1 e0
    cases e1 : ajoinAll P call f fn.ntmps fn.results.toList body args ⟨s.h, s.nx, s.nx, [], []⟩ with
    | none => simp only [e1] at h; cases h
    | some outs =>
      simp only [e1] at h
      cases e2 : planOf s.nx outs with
      | none => simp only [e2] at h; cases h
      | some p =>
        simp only [e2] at h
        have e1' := e1
        unfold ajoinAll at e1
        cases e3 : nframe P call 100000 ⟨f, fillArgs args, max fn.ntmps args.length, [.code body], [], none⟩ ⟨s.h, s.nx, s.nx, [], []⟩ with
        | none => simp only [e3] at e1; cases e1
        | some l =>
          simp only [e3] at e1
          have fi0 : Fine (⟨s.h, s.nx, s.nx, [], []⟩ : AS) := ⟨Nat.le_refl _, fi.nx⟩
          obtain ⟨_, did, _⟩ := (locL_finishAll P fn.results.toList (locL_nframe P hl _ _)) ⟨s.h, s.nx, s.nx, [], []⟩ outs fi0 e1'
          obtain ⟨_, did1, _⟩ := locL_nframe P hl _ _ ⟨s.h, s.nx, s.nx, [], []⟩ l fi0 e3
          have hnx : ∀ x ∈ outs, x.2.nx ≤ s1.nx := by
            intro y hy
            have q1 := nxOf_le y hy
            obtain ⟨ns, _, _, hskip, _, _⟩ := planOf_inv e2
            obtain ⟨_, n1, d1, d2⟩ := M.bind_inv (show ((noteAll p.note).bind fun _ => (putEs p.es).bind fun _ => (retM p.lo p.ret).bind fun v => (skipN p.skip).bind fun _ => M.pure (joinRest p.rest v)) s = .ok x s1 from h)
            obtain ⟨_, n2, d3, d4⟩ := M.bind_inv d2
            obtain ⟨y', n3, d5, d6⟩ := M.bind_inv d4
            obtain ⟨_, n4, d7, d8⟩ := M.bind_inv d6
            obtain ⟨rfl, rfl⟩ := pure_inv d8
            obtain ⟨a1, a2⟩ := noteAll_same d1
            obtain ⟨b1, _⟩ := putEs_same d3
            obtain ⟨c1, _⟩ := skipN_same d7
            rcases retM_same d5 with ⟨rfl, _⟩ | ⟨n, c, len, ee, _, _, g1, _, g2, _⟩
            · omega
            · omega
          have hnl : ∀ y ∈ l, y.2.nx ≤ s1.nx := by
            intro y hy
            obtain ⟨v, s3, q1, q2⟩ := finishAll_mem e1 y hy
            obtain ⟨dr, dw, d⟩ := did1 y hy
            have := (Local.finish P fn.results.toList y.1.1 y.1.2).le (d.fine fi0) q1
            exact Nat.le_trans this (hnx _ q2)
          let b : Frame := { (default : Frame) with fn := f, kind := .normal, roundOf := none }
          let a : Act := { tmps := vs ++ Array.replicate (fn.ntmps - vs.size) undef, defers := [] }
          have hstart : Frame.enter P f vs .normal = b.atR a [.code body] := by simp [Frame.enter, Frame.atR, hfn, hbody, b, a]
          have hfr : Fr ρ ⟨f, fillArgs args, max fn.ntmps args.length, [.code body], [], none⟩ b a := ⟨rfl, rfl, trivial, rfl, .cons hok .nil⟩
          have hat : At B ρ ⟨s.h, s.nx, s.nx, [], []⟩ (max fn.ntmps args.length) (fillArgs args) w a := ⟨fillArgs_sim hv _ hmax, r, hg, hmax, fi0⟩
          obtain ⟨fr, j, s2, hin, σ, a', w', q1, q2, q3, q4, ⟨q5, q5', q5''⟩, q6, q7, q8⟩ := nframe_sim (b := b) (cs := cs) hmix hc hl 100000 hfr hat (fun y hy => hf.sub (Nat.le_refl _) (hnl y hy)) e3
          obtain ⟨v, s3, hfin, hout⟩ := finishAll_mem e1 _ hin
          obtain ⟨dr, dw, hd⟩ := did _ hout
          obtain ⟨dr1, dw1, hd1⟩ := did1 _ hin
          have fi2 : Fine s2 := hd1.fine fi0
          obtain ⟨hj, u2, s4, rs, h7, h9, hx⟩ := finish_inv hfin
          have q7' : Leaves j fr.todo := q7
          obtain ⟨d1, d2, w2, d3, d4, d5⟩ := dropDefs_sim (P := P) (fr := b) (cs := cs) fi2 q2.rel q3 h7
          have fi4 : Fine s4 := (Local.dropDefs _).fine fi2 h7
          obtain ⟨f1, f2, us, f3, f4⟩ := resultsOf_sim (P := P) (w := w2) q2.tr fi4 d3 h9
          have hdone : Steps P (lone (b.atR a' fr.todo) cs w') (lone { b.atR a' fr.todo with mode := .returning } cs w') := by
            rcases hj with rfl | rfl
            · have e : fr.todo = [] := q7'
              rw [e]; exact .one (stepR_end rfl)
            · obtain ⟨k, e⟩ := q7'
              rw [e]; exact .one (stepR_ret rfl)
          have hdrop := d5 { b.atR a' fr.todo with mode := .returning } cs (by simp) rfl
          have hres : (results fn a'.tmps).run P w2 = .ok (oneOrV us) w2 := by
            unfold results
            rw [Array.mapM_eq_mapM_toList]
            simp only [Sem.run_bind, map_eq_pure_bind, Sem.run_pure]
            refine Eq.trans (congrArg (fun r : Result (List Value) => (r.andThen fun a w' => Result.ok a.toArray w').andThen fun a w' => Result.ok (if h : a.size = 1 then a[0] else Value.tuple a) w') f3) ?_
            have : ∀ l : List Value, (Result.ok (if h : l.toArray.size = 1 then l.toArray[0] else Value.tuple l.toArray) w2 : Result Value) = .ok (oneOrV l) w2 := by
              intro l
              match l with
              | [] => rfl
              | [v] => rfl
              | v :: v2 :: l => simp [oneOrV]
            exact this us
          have came : Came B ρ s s1 w x (oneOrV us) w2 := by
            refine join_sim (σ := σ) r hf e2 hout hd h ?_ ?_ ?_ (q4.trans d4)
            · rw [show s3.nx = s2.nx by rw [f2, d1]]; exact q1
            · rw [hx]; exact oneOr_sim f4
            · rw [f1]; exact d3
          refine ⟨.returned (oneOrV us), w2, { b.atR a' fr.todo with mode := .returning, defers := [] }, ⟨_, rfl, came⟩, ?_, rfl, ?_⟩
          · rw [hstart]
            exact Steps.trans q8 (Steps.trans hdone hdrop)
          · exact ⟨rfl, rfl, rfl, fn, hfn, hres⟩
structure IsClone (P : Program) (f : FuncId) : Prop where
  is : ∃ fn, P.funcs[f]? = some fn ∧ fn.body = none ∧ (fn.name == "runtime.NumGoroutine") = false ∧ (Extern.findNext fn).isNone = true ∧ Extern.find fn = some Extern.MapsClone.clone
theorem clone_back {f : FuncId} (hf : IsClone P f) {vs : Array Value} {R : Value → World → Prop} {v : Value} {w' : World} (h : (Extern.MapsClone.clone vs).run P w = .ok v w') (hR : R v w') : Back P ((callFunc f vs).run P w) R := by
  obtain ⟨fn, h1, h2, h3, h4, h5⟩ := hf.is
  have hprog : (program).run P w = .ok P w := rfl
  have hmark : ∀ m, (mark m).run P w = .ok () w := fun _ => rfl
  have h4' : Extern.findNext fn = none := by simpa using h4
  have : (callFunc f vs).run P w = .ok (.value v) w' := by
    simp only [callFunc, Sem.run_bind, hprog, Result.andThen_ok, h1, h2, h3, h4', h5]
    simp [h, hmark]
  rw [this]
  exact hR
end
end Go.Rn
