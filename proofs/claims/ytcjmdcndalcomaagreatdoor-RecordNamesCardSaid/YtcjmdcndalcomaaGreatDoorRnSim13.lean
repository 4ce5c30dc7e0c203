/- Maps: what is put. -/
import Derived.Test.YtcjmdcndalcomaaGreatDoorRnSim12
namespace Go.Rn
open Go.RowKit

theorem putAt_get : ∀ (es : List (AV × AV)) (i j : Nat) (k v : AV), (putAt es i k v)[j]? = if j = i then (es[j]?).map (fun _ => (k, v)) else es[j]?
  | [], i, j, k, v => by simp [putAt]
  | p :: es, 0, j, k, v => by cases j <;> simp [putAt]
  | p :: es, i + 1, j, k, v => by
    cases j with
    | zero => simp [putAt]
    | succ j => simp [putAt, putAt_get es i j k v]
theorem putAt_length : ∀ (es : List (AV × AV)) (i : Nat) (k v : AV), (putAt es i k v).length = es.length
  | [], _, _, _ => rfl
  | _ :: _, 0, _, _ => rfl
  | _ :: es, i + 1, k, v => by simp [putAt, putAt_length es i k v]

def setEntry (k v : Value) (e : MapEntry) : MapEntry := { e with key := k, val := v }

theorem ERs.put {ρ : Ren} {key val : AV} {vk vv : Value} (hk : VR ρ key vk) (hv : VR ρ val vv) : ∀ {es : List (AV × AV)} {l : List MapEntry} {n i : Nat}, ERs ρ es l n → ERs ρ (putAt es i key val) (l.modify i (setEntry vk vv)) n
  | [], l, n, i, h => by have h' : l = [] := h; subst h'; cases i <;> rfl
  | p :: es, l, n, 0, h => by
    obtain ⟨e, l', rfl, a, b, c, d⟩ := h
    exact ⟨setEntry vk vv e, l', rfl, hk, hv, c, d⟩
  | p :: es, l, n, i + 1, h => by
    obtain ⟨e, l', rfl, a, b, c, d⟩ := h
    exact ⟨e, l'.modify i (setEntry vk vv), rfl, a, b, c, d.put hk hv⟩
theorem EQs.put {ρ : Ren} {key val : AV} {vk vv : Value} (hk : VR ρ key vk) (hv : VR ρ val vv) : ∀ {es : List (AV × AV)} {l : List MapEntry} {i : Nat}, EQs ρ es l → EQs ρ (putAt es i key val) (l.modify i (setEntry vk vv))
  | [], l, i, h => by have h' : l = [] := h; subst h'; cases i <;> rfl
  | p :: es, l, 0, h => by
    obtain ⟨e, l', rfl, a, b, d⟩ := h
    exact ⟨setEntry vk vv e, l', rfl, hk, hv, d⟩
  | p :: es, l, i + 1, h => by
    obtain ⟨e, l', rfl, a, b, d⟩ := h
    exact ⟨e, l'.modify i (setEntry vk vv), rfl, a, b, d.put hk hv⟩
theorem ERs.push {ρ : Ren} {key val : AV} {e : MapEntry} (hk : VR ρ key e.key) (hv : VR ρ val e.val) : ∀ {es : List (AV × AV)} {l : List MapEntry} {n : Nat}, ERs ρ es l n → e.born = n + es.length → ERs ρ (es ++ [(key, val)]) (l ++ [e]) n
  | [], l, n, h, hb => by have h' : l = [] := h; subst h'; exact ⟨e, [], rfl, hk, hv, hb, rfl⟩
  | p :: es, l, n, h, hb => by
    obtain ⟨e2, l', rfl, a, b, c, d⟩ := h
    exact ⟨e2, l' ++ [e], rfl, a, b, c, d.push hk hv (by simp at hb; omega)⟩
theorem EQs.push {ρ : Ren} {key val : AV} {e : MapEntry} (hk : VR ρ key e.key) (hv : VR ρ val e.val) : ∀ {es : List (AV × AV)} {l : List MapEntry}, EQs ρ es l → EQs ρ (es ++ [(key, val)]) (l ++ [e])
  | [], l, h => by have h' : l = [] := h; subst h'; exact ⟨e, [], rfl, hk, hv, rfl⟩
  | p :: es, l, h => by
    obtain ⟨e2, l', rfl, a, b, d⟩ := h
    exact ⟨e2, l' ++ [e], rfl, a, b, d.push hk hv⟩

theorem KeysApart.of {es : List (AV × AV)} (h : ∀ (i j : Nat) (p q : AV × AV), i ≠ j → es[i]? = some p → es[j]? = some q → sameKey p.1 q.1 = some false) : KeysApart es := by
  unfold KeysApart
  rw [List.pairwise_iff_getElem]
  intro i j hi hj hij
  exact ⟨h i j _ _ (by omega) (List.getElem?_eq_getElem hi) (List.getElem?_eq_getElem hj), h j i _ _ (by omega) (List.getElem?_eq_getElem hj) (List.getElem?_eq_getElem hi)⟩
theorem KeysApart.put {es : List (AV × AV)} (h : KeysApart es) {i : Nat} {p : AV × AV} {key val : AV} (hi : es[i]? = some p) (hk : sameKey key p.1 = some true) : KeysApart (putAt es i key val) := by
  refine KeysApart.of fun j k a b hjk ha hb => ?_
  rw [putAt_get] at ha hb
  by_cases e1 : j = i
  · have e2 : k ≠ i := by omega
    rw [if_pos e1, e1, hi] at ha
    rw [if_neg e2] at hb
    simp only [Option.map_some, Option.some.injEq] at ha
    rw [← ha]
    show sameKey key b.1 = some false
    rw [sameKey_left hk]; exact h.at hi hb (Ne.symm e2)
  · rw [if_neg e1] at ha
    by_cases e2 : k = i
    · rw [if_pos e2, e2, hi] at hb
      simp only [Option.map_some, Option.some.injEq] at hb
      rw [← hb]
      show sameKey a.1 key = some false
      rw [sameKey_comm, sameKey_left hk]; exact h.at hi ha (Ne.symm e1)
    · rw [if_neg e2] at hb; exact h.at ha hb hjk
theorem KeysApart.push {es : List (AV × AV)} (h : KeysApart es) {key val : AV} (hk : ∀ p ∈ es, sameKey key p.1 = some false) : KeysApart (es ++ [(key, val)]) := by
  unfold KeysApart at h ⊢
  rw [List.pairwise_append]
  refine ⟨h, by simp, fun a ha b hb => ?_⟩
  simp only [List.mem_singleton] at hb
  subst hb
  exact ⟨by rw [sameKey_comm]; exact hk a ha, hk a ha⟩

theorem mod_perm {α : Type} (f : α → α) : ∀ {l : List α} {j : Nat} {e : α}, l[j]? = some e → l.Perm (e :: l.eraseIdx j) ∧ (l.modify j f).Perm (f e :: l.eraseIdx j)
  | [], j, e, h => by simp at h
  | a :: l, 0, e, h => by simp at h; subst h; exact ⟨List.Perm.refl _, List.Perm.refl _⟩
  | a :: l, j + 1, e, h => by
    simp at h
    obtain ⟨p, q⟩ := mod_perm f h
    refine ⟨?_, ?_⟩
    · exact (p.cons a).trans (List.Perm.swap _ _ _)
    · rw [List.modify_succ_cons]
      exact (q.cons a).trans (List.Perm.swap _ _ _)
theorem mod_perms {α : Type} (f : α → α) {l l' : List α} {i j : Nat} {e : α} (hl : l.Perm l') (hi : l[i]? = some e) (hj : l'[j]? = some e) : (l.modify i f).Perm (l'.modify j f) := by
  obtain ⟨p, q⟩ := mod_perm f hi
  obtain ⟨p', q'⟩ := mod_perm f hj
  have := ((p.symm.trans hl).trans p').cons_inv
  exact (q.trans (this.cons _)).trans q'.symm
theorem born_modify (k v : Value) : ∀ (l : List MapEntry) (i : Nat), (l.modify i (setEntry k v)).map (·.born) = l.map (·.born)
  | [], i => by cases i <;> rfl
  | e :: l, 0 => rfl
  | e :: l, i + 1 => by rw [List.modify_succ_cons]; simp [born_modify k v l i]
theorem BornOk.modify {l : List MapEntry} {clock : Nat} (h : BornOk l clock) (k v : Value) (i : Nat) : BornOk (l.modify i (setEntry k v)) clock := by
  refine ⟨by rw [born_modify]; exact h.1, fun e he => ?_⟩
  have : e.born ∈ (l.modify i (setEntry k v)).map (·.born) := List.mem_map_of_mem he
  rw [born_modify] at this
  obtain ⟨e2, h2, h3⟩ := List.mem_map.1 this
  rw [← h3]; exact h.2 e2 h2
theorem BornOk.push {l : List MapEntry} {clock : Nat} (h : BornOk l clock) {e : MapEntry} (he : e.born = clock) : BornOk (l ++ [e]) (clock + 1) := by
  refine ⟨?_, fun e2 h2 => ?_⟩
  · rw [List.map_append, List.nodup_append]
    refine ⟨h.1, by simp, fun a ha b hb => ?_⟩
    simp only [List.map_cons, List.map_nil, List.mem_singleton] at hb
    obtain ⟨e2, h2, h3⟩ := List.mem_map.1 ha
    have := h.2 e2 h2
    omega
  · rcases List.mem_append.1 h2 with h2 | h2
    · have := h.2 e2 h2; omega
    · simp only [List.mem_singleton] at h2; subst h2; omega

section
variable {P : Program} {B : Nat} {ρ : Ren} {w : World} {s s1 : AS} {x : AV} {call : Caller} {t : Tr AV} {ev : Operand → Value} {o : Oper}

theorem setObj_only {w : World} {b : Nat} {o o' : Obj} (hb : w.heap[b]? = some o) :
    OnlyAt b w { w with heap := w.heap.setIfInBounds b o' } ∧ ({ w with heap := w.heap.setIfInBounds b o' } : World).heap[b]? = some o' := by
  refine ⟨⟨rfl, rfl, rfl, by simp, fun k hk => ?_⟩, ?_⟩
  · show (w.heap.setIfInBounds b o')[k]? = w.heap[k]?
    rw [Array.getElem?_setIfInBounds_ne (by omega)]
  · show (w.heap.setIfInBounds b o')[b]? = some o'
    exact Array.getElem?_setIfInBounds_self_of_lt (heap_lt hb)

theorem mapPut_sim {ty : TypeId} {m key val : AV} {vm vk vv : Value} {u : Unit} (hm : VR ρ m vm) (hkey : VR ρ key vk) (hval : VR ρ val vv) (fi : Fine s) (r : Rel B ρ s.h w) (h : mapPut P ty m key val s = .ok u s1) :
    s1.nx = s.nx ∧ ∃ w', (Instr.mapUpdate ty vm vk vv).run P w = .ok () w' ∧ Rel B ρ s1.h w' ∧ Below B w w' := by
  unfold mapPut at h
  cases e1 : P.underlying ty with
  | none => simp only [e1] at h; cases h
  | some d =>
    cases d <;> simp only [e1] at h <;> first | (cases h; done) | skip
    rename_i k e
    cases m <;> first | (cases h; done) | skip
    rename_i q
    cases q with
    | none => cases h
    | some n =>
      simp only [VR] at hm
      obtain ⟨b, N, hn, rfl⟩ := hm
      obtain ⟨ob, s2, h1, h2⟩ := M.bind_inv h
      obtain ⟨hx, hg, hh, hnx⟩ := rdN_same h1
      have ht : n < top := Nat.lt_of_lt_of_le hx fi.nx
      obtain ⟨o', hb, hO, hB⟩ := r.block ht hg hn
      cases ob with
      | map es clock =>
        obtain ⟨h3, h4⟩ := withB_inv h2
        obtain ⟨f, h5, h6⟩ := withO_inv h4
        obtain ⟨l, rfl, hclock, he⟩ := hO
        obtain ⟨kd, hkd⟩ := keyOk_kind h3
        have hck : ∀ em, (Instr.checkKey em 10000 k vk).run P w = .ok () w := fun em => keyOk_sim h3 hkey
        obtain ⟨r', g1, g2⟩ := findKey_sim (P := P) (w := w) hkd hkey he.eqs h5
        cases f with
        | some p =>
          obtain ⟨j, y⟩ := p
          obtain ⟨z, q, e0, rfl, _, _, q1, q2, q3, _, _⟩ := g2
          rw [Nat.sub_zero] at q1 q2
          obtain ⟨old, h7, h8⟩ := withO_inv (show (withO es[j]? fun old => withB (sameBits old.1 key) <| wrN n (some (.map (putAt es j key val) clock))) s2 = .ok u s1 from h6)
          obtain ⟨h9, h10⟩ := withB_inv h8
          rw [q1] at h7; cases h7
          have hstay := sameBits_sim h9 q3 hkey 9999
          obtain ⟨_, _, _, i1, i2⟩ := wrN_same h10
          obtain ⟨g3, g4⟩ := setObj_only (o' := .map (l.modify j (setEntry vk vv)) clock) hb
          refine ⟨by rw [i2, hnx], _, ?_, ?_, g3.below (hB rfl)⟩
          · have hl : l[j]? = some e0 := by simpa using q2
            simp only [Instr.mapUpdate, Sem.run_bind, run_underlying_of e1, Result.andThen_ok, MapKept.run_getObj_map hb, hck, g1, hl, Option.map_some, Option.getD_some, run_stays hstay, MapKept.run_setObj_map _ hb]
            rfl
          · rw [i1, hh]
            refine r.put ht hg rfl rfl hn rfl g3 g4 ⟨_, rfl, by rw [putAt_length]; exact hclock, ?_⟩
            rw [Array.toList_modify]; exact he.put hkey hval
        | none =>
          have g2' : r' = none := g2
          subst g2'
          obtain ⟨_, _, _, i1, i2⟩ := wrN_same (show wrN n (some (.map (es ++ [(key, val)]) (clock + 1))) s2 = .ok u s1 from h6)
          obtain ⟨g3, g4⟩ := setObj_only (o' := .map (l.push { key := vk, val := vv, born := clock }) (clock + 1)) hb
          refine ⟨by rw [i2, hnx], _, ?_, ?_, g3.below (hB rfl)⟩
          · simp only [Instr.mapUpdate, Sem.run_bind, run_underlying_of e1, Result.andThen_ok, MapKept.run_getObj_map hb, hck, g1, MapKept.run_setObj_map _ hb]
          · rw [i1, hh]
            refine r.put ht hg rfl rfl hn rfl g3 g4 ⟨_, rfl, by simp [hclock], ?_⟩
            rw [Array.toList_push]
            exact he.push hkey hval (by simp [hclock])
      | mapAny es =>
        obtain ⟨h3, h4⟩ := withB_inv h2
        obtain ⟨f, h5, h6⟩ := withO_inv h4
        obtain ⟨hp, hko⟩ := and_true.1 h3
        obtain ⟨l, clock, rfl, ka, hbo, l', hl, he⟩ := hO
        obtain ⟨kd, hkd⟩ := keyOk_kind hko
        have hck : ∀ em, (Instr.checkKey em 10000 k vk).run P w = .ok () w := fun em => keyOk_sim hko hkey
        unfold findKey at h5
        simp only [hp] at h5
        obtain ⟨f1, f2⟩ := findAny_sim hkd hp hkey ka he hl h5
        cases f with
        | some p =>
          obtain ⟨j, y⟩ := p
          obtain ⟨j', e0, a1, a2, a3, a4, q, a5, a6⟩ := f2 j y rfl
          obtain ⟨_, _, _, i1, i2⟩ := wrN_same (show wrN n (some (.mapAny (putAt es j key val))) s2 = .ok u s1 from h6)
          obtain ⟨g3, g4⟩ := setObj_only (o' := .map (l.modify j' (setEntry vk vv)) clock) hb
          have hq : VR ρ q.1 e0.key := by
            obtain ⟨q', b1, b2, _⟩ := he.get a3
            rw [a5] at b1; cases b1; exact b2
          have hstay : Instr.sameBits 10000 e0.key vk = true := sameScalar (by rw [sameKey_comm]; exact a6) hq hkey 10000
          refine ⟨by rw [i2, hnx], _, ?_, ?_, g3.below (hB rfl)⟩
          · have hl2 : l[j']? = some e0 := by simpa using a2
            simp only [Instr.mapUpdate, Sem.run_bind, run_underlying_of e1, Result.andThen_ok, MapKept.run_getObj_map hb, hck, MapKept.run_findKey hkd a1, hl2, Option.map_some, Option.getD_some, run_stays hstay, MapKept.run_setObj_map _ hb]
            rfl
          · rw [i1, hh]
            refine r.put ht hg rfl rfl hn rfl g3 g4 ⟨_, _, rfl, ka.put a5 a6, ?_, l'.modify j (setEntry vk vv), ?_, he.put hkey hval⟩
            · rw [Array.toList_modify]; exact hbo.modify _ _ _
            · rw [Array.toList_modify]; exact mod_perms _ hl a2 a3
        | none =>
          obtain ⟨_, _, _, i1, i2⟩ := wrN_same (show wrN n (some (.mapAny (es ++ [(key, val)]))) s2 = .ok u s1 from h6)
          obtain ⟨g3, g4⟩ := setObj_only (o' := .map (l.push { key := vk, val := vv, born := clock }) (clock + 1)) hb
          refine ⟨by rw [i2, hnx], _, ?_, ?_, g3.below (hB rfl)⟩
          · simp only [Instr.mapUpdate, Sem.run_bind, run_underlying_of e1, Result.andThen_ok, MapKept.run_getObj_map hb, hck, MapKept.run_findKey hkd (f1 rfl), MapKept.run_setObj_map _ hb]
          · rw [i1, hh]
            refine r.put ht hg rfl rfl hn rfl g3 g4 ⟨_, _, rfl, ka.push (findPlain_none h5), ?_, l' ++ [{ key := vk, val := vv, born := clock }], ?_, EQs.push (e := { key := vk, val := vv, born := clock }) hkey hval he⟩
            · rw [Array.toList_push]; exact hbo.push rfl
            · rw [Array.toList_push]; exact hl.append_right _
      | _ => cases h2

theorem sim_kMapPut {ty : TypeId} {a b c : Operand} (he : ∀ x v, opd t x = some v → VR ρ v (ev x)) (fi : Fine s) (r : Rel B ρ s.h w) (h : kMapPut P ty a b c call t s = .ok x s1) (ho : o.op = .mapUpdate ty a b c ∨ o.op = .insert ty a b c) : SimOp P B ρ s s1 w x (execOp ev o) := by
  unfold kMapPut at h
  obtain ⟨m, h1, h2⟩ := withO_inv h
  obtain ⟨k, h3, h4⟩ := withO_inv h2
  obtain ⟨v, h5, h6⟩ := withO_inv h4
  obtain ⟨u, s2, h7, h8⟩ := M.bind_inv h6
  obtain ⟨rfl, rfl⟩ := pure_inv h8
  obtain ⟨a1, w', a2, a3, a4⟩ := mapPut_sim (P := P) (he a m h1) (he b k h3) (he c v h5) fi r h7
  refine ⟨ρ, w', .skip, by rw [a1]; exact Ext.refl _ _ _, ?_, rfl, a3, a4⟩
  rcases ho with ho | ho <;> simp [execOp, ho, a2]
end
end Go.Rn
