/- What the law's function knows of the functions that it calls. -/
import Derived.Test.YteiaibkhlejkbaaGreatDoorBegU
import Derived.Test.YteiaibkhlejkbaaGreatDoorRnOpenB
import Derived.Test.YteiaibkhlejkbaaGreatDoorSegW
open Go Go.Rn Go.RowKit Go.Proofs
set_option maxRecDepth 100000
namespace SpL
open ComT Go.Proofs.YteiaibkhlejkbaaGreatDoor.auditBegun
open Classical in
noncomputable def spE (F : Nat → Option (List AV)) : Sp := fun f => if f = 10 then some (spec2 F 3 encCm 3 encCm 140737488355328 (fun la lb => decide (la = lb))) else none
open Classical in
noncomputable def spL (F : Nat → Option (List AV)) : Sp := fun f => if f = 4 then some (closedM nx0 known0 heap0)
  else if f = 10 then some (spec2 F 3 encCm 3 encCm 140737488355328 (fun la lb => decide (la = lb)))
  else if f = 6 then some (spec2 F 3 encCm 3 encCm 140737488355328 (fun la lb => decide (la <+: lb)))
  else if f = 5 then some (specO F 7 encEv 3 encCm 2000 commits) else none
noncomputable def body10 : Code := Tryz.f10.body.getD .skip
noncomputable def body6 : Code := Tryz.f6.body.getD .skip
noncomputable def body5 : Code := Tryz.f5.body.getD .skip
/-- What is known below the law's own names. -/
noncomputable def kn0 : List (Nat × Option AObj) := known0.map fun n => (n, heap0.get n)
theorem kn0_heap : hpOf kn0 = heap0 := by kernel_rfl
theorem hall (n : Nat) (o : AObj) (hn : n < top) (h : heap0.get n = some o) : n ∈ known0 := by
  rw [← kn0_heap] at h
  have hm := hpOf_mem (l := kn0) (fun p hp => by
    obtain ⟨k, hk, rfl⟩ := List.mem_map.1 hp
    have := lowAll_mem (m := top) (l := known0) (by kernel_rfl) k hk
    exact this) h
  obtain ⟨k, hk, e⟩ := List.mem_map.1 hm
  injection e with e1 _
  rw [← e1]; exact hk
theorem hns : ∀ n ∈ known0, n < nx0 := fun n hn => lowAll_mem (m := nx0) (l := known0) (by kernel_rfl) n hn
theorem okC : EncOk 3 encCm := ⟨fun _ => rfl, fun _ => rfl, fun _ => rfl⟩
theorem okE : EncOk 7 encEv := ⟨fun _ => rfl, fun _ => rfl, fun _ => rfl⟩
theorem injC (x y : Cm) (h : encCm x = encCm y) : x = y := by
  obtain ⟨a, b, c⟩ := x
  obtain ⟨d, e, f⟩ := y
  simp only [encCm] at h
  injection h with h1 h
  injection h with h2 h
  injection h with h3 _
  injection h1 with _ h1
  injection h2 with _ h2
  injection h3 with _ h3
  rw [h1, h2, h3]
theorem injE (x y : Ev) (h : encEv x = encEv y) : x = y := by
  obtain ⟨a, b, c, d, e, f, g⟩ := x
  obtain ⟨a', b', c', d', e', f', g'⟩ := y
  simp only [encEv] at h
  injection h with h1 h
  injection h with h2 h
  injection h with h3 h
  injection h with h4 h
  injection h with h5 h
  injection h with h6 h
  injection h with h7 _
  injection h1 with _ h1
  injection h2 with _ h2
  injection h3 with _ h3
  injection h4 with _ h4
  injection h5 with _ h5
  injection h6 with _ h6
  injection h7 with _ h7
  rw [h1, h2, h3, h4, h5, h6, h7]
theorem none_ok (B : Base) : SpOk Tryz.prog B (fun _ => none) := ⟨fun f m h => (by cases h), fun f m h => (by cases h)⟩
section
variable {B : Base} {a b : AV}
theorem fr10 : (⟨10, fillArgs [a, b], max Tryz.f10.ntmps 2, [.code body10], [], none⟩ : AF) = ⟨10, (trOf [(0, a), (1, b)]), 26, [.code (cAt Tryz.prog 10 [])], [], none⟩ := by kernel_rfl
theorem fr6 : (⟨6, fillArgs [a, b], max Tryz.f6.ntmps 2, [.code body6], [], none⟩ : AF) = ⟨6, (trOf [(0, a), (1, b)]), 18, [.code (cAt Tryz.prog 6 [])], [], none⟩ := by kernel_rfl
theorem fr5 {x y z : Int} : (⟨5, fillArgs [.agg [.int .i64 x, .int .i64 y, .int .i64 z, a]], max Tryz.f5.ntmps 1, [.code body5], [], none⟩ : AF) = ⟨5, (trOf [(0, (.agg [(.int .i64 (x)), (.int .i64 (y)), (.int .i64 (z)), a]))]), 40, [.code (cAt Tryz.prog 5 [])], [], none⟩ := by kernel_rfl
theorem rs10 : Tryz.f10.results.toList = EqT.rsE := by kernel_rfl
theorem rs6 : Tryz.f6.results.toList = BegT.rsB := by kernel_rfl
theorem rs5 : Tryz.f5.results.toList = rsC := by kernel_rfl
open Classical in
theorem sim10 (hP : ProgOk Tryz.prog) (B' : Base) {a b : AV} {la lb : List Cm} (ha : SlT B'.F a 3 encCm la) (hb : SlT B'.F b 3 encCm lb) (hl : la.length ≤ 140737488355328) :
    Sim Tryz.prog B' 256 (Fin Tryz.prog Tryz.f10.results.toList fun x s => x = .bool (decide (la = lb)) ∧ s = stOf [] 256) ⟨10, fillArgs [a, b], max Tryz.f10.ntmps 2, [.code body10], [], none⟩ (stOf [] 256) := by
  rw [fr10, rs10]
  exact EqT.equal_sim (arunI_sim hP (none_ok B') rfl 0) (local_arunI Tryz.prog (none_ok B') B'.F 0) ha hb hl
theorem ok10 (hP : ProgOk Tryz.prog) (hfin : FinF B.F) : SpOk Tryz.prog B (spE B.F) := by
  refine ⟨fun f m h call hl args => ?_, fun f m h call hc hl args x s s1 ρ w vs fi r hg hf hm hv => ?_⟩
  · unfold spE at h
    split at h
    · cases h; exact Local.spec2 _ _ _ _ _ _ _ _ _
    · cases h
  · unfold spE at h
    split at h
    · rename_i e
      subst e
      cases h
      exact spec2_sim hP Tryz.func10 (by kernel_rfl : Tryz.f10.body = some body10) (by kernel_rfl) (ble_true.1 (by kernel_rfl)) okC okC hfin (fun B' _ _ _ _ _ ha hb hl => sim10 hP B' ha hb hl) fi r hg hm hv
    · cases h
theorem says10 {F : Nat → Option (List AV)} {dn : Nat} {x y : AV} {l m : List Cm} (hx : SlT F x 3 encCm l) (hy : SlT F y 3 encCm m) (hl : l.length ≤ 140737488355328) (s : AS) : open Classical in arunI Tryz.prog (spE F) F (dn + 1) (.fn 10) [x, y] s = .ok (.bool (decide (l = m))) s := by
  show fnI Tryz.prog (spE F) 10 (arunI Tryz.prog (spE F) F dn) [x, y] s = _
  rw [fnI_sp (show spE F 10 = some _ from rfl)]
  exact spec2_says (SlT.inj injC) (SlT.inj injC) hx hy hl
open Classical in
theorem sim6 (hP : ProgOk Tryz.prog) (B' : Base) (hfin : FinF B'.F) {a b : AV} {la lb : List Cm} (ha : SlT B'.F a 3 encCm la) (hb : SlT B'.F b 3 encCm lb) (hl : la.length ≤ 140737488355328) :
    Sim Tryz.prog B' 256 (Fin Tryz.prog Tryz.f6.results.toList fun x s => x = .bool (decide (la <+: lb)) ∧ s = stOf [] 256) ⟨6, fillArgs [a, b], max Tryz.f6.ntmps 2, [.code body6], [], none⟩ (stOf [] 256) := by
  rw [fr6, rs6]
  have := BegT.begins_sim (arunI_sim hP (ok10 hP hfin) rfl 1) (local_arunI Tryz.prog (ok10 hP hfin) B'.F 1) (fun hx hy hl s => says10 hx hy hl s) ha hb hl
  simpa using this
theorem sim5 (hP : ProgOk Tryz.prog) (B' : Base) {a : AV} {la : List Ev} (x y z : Int) (ha : SlT B'.F a 7 encEv la) (hl : la.length ≤ 2000) :
    Sim Tryz.prog B' 256 (Fin Tryz.prog Tryz.f5.results.toList fun v s => v = ownV 3 256 (commits la) ∧ s = ownS encCm (commits la)) ⟨5, fillArgs [.agg [.int .i64 x, .int .i64 y, .int .i64 z, a]], max Tryz.f5.ntmps 1, [.code body5], [], none⟩ (stOf [] 256) := by
  rw [fr5, rs5]
  have hV : ∀ l : List Cm, ownV 3 256 l = oV 256 l := fun l => by cases l <;> rfl
  have hS : ∀ l : List Cm, ownS encCm l = oR l := fun l => by cases l <;> rfl
  rw [hV, hS]
  exact commits_sim (arunI_sim hP (none_ok B') rfl 0) (local_arunI Tryz.prog (none_ok B') B'.F 0) ha hl
theorem okL (hP : ProgOk Tryz.prog) (hfin : FinF B.F) : SpOk Tryz.prog B (spL B.F) := by
  refine ⟨fun f m h call hl args => ?_, fun f m h call hc hl args x s s1 ρ w vs fi r hg hf hm hv => ?_⟩
  · unfold spL at h
    split at h
    · cases h; exact Local.closedM _ _ _ _ _
    · split at h
      · cases h; exact Local.spec2 _ _ _ _ _ _ _ _ _
      · split at h
        · cases h; exact Local.spec2 _ _ _ _ _ _ _ _ _
        · split at h
          · cases h; exact Local.specO _ _ _ _ _ _ _ _ _
          · cases h
  · unfold spL at h
    split at h
    · rename_i e
      subst e
      cases h
      exact closedM_sim Tryz.func4 bodyF4_is (by kernel_rfl) (by unfold globs nx0; decide) hall hns (fun ρ W S => walkW W S) r hg hm hv
    · split at h
      · rename_i e
        subst e
        cases h
        exact spec2_sim hP Tryz.func10 (by kernel_rfl : Tryz.f10.body = some body10) (by kernel_rfl) (ble_true.1 (by kernel_rfl)) okC okC hfin (fun B' _ _ _ _ _ ha hb hl => sim10 hP B' ha hb hl) fi r hg hm hv
      · split at h
        · rename_i e
          subst e
          cases h
          exact spec2_sim hP Tryz.func6 (by kernel_rfl : Tryz.f6.body = some body6) (by kernel_rfl) (ble_true.1 (by kernel_rfl)) okC okC hfin (fun B' _ _ _ _ hf' ha hb hl => sim6 hP B' hf' ha hb hl) fi r hg hm hv
        · split at h
          · rename_i e
            subst e
            cases h
            exact specO_sim hP Tryz.func5 (by kernel_rfl : Tryz.f5.body = some body5) (by kernel_rfl) (ble_true.1 (by kernel_rfl)) okE okC hfin (fun B' _ _ x y z _ ha hl => sim5 hP B' x y z ha hl) fi r hg hf hm hv
          · cases h
end
section
variable {F : Nat → Option (List AV)} {n : Nat} {s : AS}
theorem says5 {args : List AV} : arunI Tryz.prog (spL F) F (n + 1) (.fn 5) args s = specO F 7 encEv 3 encCm 2000 commits (arunI Tryz.prog (spL F) F n) args s := by
  show fnI Tryz.prog (spL F) 5 (arunI Tryz.prog (spL F) F n) args s = _
  rw [fnI_sp (show spL F 5 = some _ from rfl)]
theorem says4 {args : List AV} : arunI Tryz.prog (spL F) F (n + 1) (.fn 4) args s = closedM nx0 known0 heap0 (arunI Tryz.prog (spL F) F n) args s := by
  show fnI Tryz.prog (spL F) 4 (arunI Tryz.prog (spL F) F n) args s = _
  rw [fnI_sp (show spL F 4 = some _ from rfl)]
theorem works_says (h : closedM nx0 known0 heap0 (fun _ _ => fail) [] s = .ok (.bool true) s) : arunI Tryz.prog (spL F) F (n + 1) (.fn 4) [] s = .ok (.bool true) s := says4.trans h
theorem says6_t {a b : AV} {la lb : List Cm} (ha : rowOf F 3 encCm a s = .ok la s) (hb : rowOf F 3 encCm b s = .ok lb s) (hl : la.length ≤ 140737488355328) (h : la <+: lb) : arunI Tryz.prog (spL F) F (n + 1) (.fn 6) [a, b] s = .ok (.bool true) s := by
  show fnI Tryz.prog (spL F) 6 (arunI Tryz.prog (spL F) F n) [a, b] s = _
  rw [fnI_sp (show spL F 6 = some _ from rfl), spec2_of ha hb hl]
  simp [h]
theorem says6_f {a b : AV} {la lb : List Cm} (ha : rowOf F 3 encCm a s = .ok la s) (hb : rowOf F 3 encCm b s = .ok lb s) (hl : la.length ≤ 140737488355328) (h : ¬ (la <+: lb)) : arunI Tryz.prog (spL F) F (n + 1) (.fn 6) [a, b] s = .ok (.bool false) s := by
  show fnI Tryz.prog (spL F) 6 (arunI Tryz.prog (spL F) F n) [a, b] s = _
  rw [fnI_sp (show spL F 6 = some _ from rfl), spec2_of ha hb hl]
  simp [h]
end
end SpL
