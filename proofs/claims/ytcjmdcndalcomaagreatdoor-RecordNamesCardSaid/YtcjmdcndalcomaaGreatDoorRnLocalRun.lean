/- Frames and calls are local. -/
import Derived.Test.YtcjmdcndalcomaaGreatDoorRnLocalOps
namespace Go.Rn

theorem mem_below {k m : Nat} {l : List Nat} : k ∈ below m l ↔ k ∈ l ∧ k < m := by
  have h1 : ∀ l : List Nat, k ∈ belowOf m l ↔ k ∈ l ∧ k < m := by
    intro l
    induction l with
    | nil => simp [belowOf]
    | cons x l ih =>
      have e : belowOf m (x :: l) = if m ≤ x then belowOf m l else x :: belowOf m l := by
        show @Bool.rec (fun _ => List Nat) (belowOf m l) (x :: belowOf m l) (not (Nat.ble m x)) = _
        by_cases h : m ≤ x
        · have : Nat.ble m x = true := by rw [Nat.ble_eq]; exact h
          rw [this, if_pos h]; rfl
        · have : Nat.ble m x = false := by
            cases q : Nat.ble m x with
            | false => rfl
            | true => rw [Nat.ble_eq] at q; exact absurd q h
          rw [this, if_neg h]; rfl
      rw [e]
      by_cases h : m ≤ x
      · rw [if_pos h, ih]
        constructor
        · rintro ⟨a, b⟩; exact ⟨List.mem_cons_of_mem _ a, b⟩
        · rintro ⟨a, b⟩
          rcases List.mem_cons.1 a with rfl | a
          · omega
          · exact ⟨a, b⟩
      · rw [if_neg h, List.mem_cons, ih, List.mem_cons]
        constructor
        · rintro (rfl | ⟨a, b⟩)
          · exact ⟨.inl rfl, by omega⟩
          · exact ⟨.inr a, b⟩
        · rintro ⟨rfl | a, b⟩
          · exact .inl rfl
          · exact .inr ⟨a, b⟩
  have e : below m l = if m = 0 then [] else belowOf m l := by
    show @Bool.rec (fun _ => List Nat) (belowOf m l) [] (Nat.beq m 0) = _
    rw [rec_bool]; by_cases h : m = 0
    · rw [if_pos h, if_pos (by rw [beq_eq]; exact h)]
    · rw [if_neg h, if_neg (by rw [beq_eq]; exact h)]
  rw [e]
  by_cases h : m = 0
  · rw [if_pos h]; subst h; simp
  · rw [if_neg h, h1]

theorem alone_inv {α : Type} {i : Nat} {m : M α} {s s2 : AS} {x : α × Met} (h : alone i m s = .ok x s2) :
    ∃ a s1, m ⟨s.h, s.nx, s.nx, [], []⟩ = .ok a s1 ∧ x = (a, ⟨i, below s.nx s1.rd, below s.nx s1.wr, s.nx, s1.nx⟩) ∧
      s2 = ⟨s1.h, s1.nx, s.mark, below s.mark s1.rd ++ s.rd, below s.mark s1.wr ++ s.wr⟩ := by
  obtain ⟨hh, nx, mark, rd, wr⟩ := s
  have e : alone i m ⟨hh, nx, mark, rd, wr⟩ = forced nx fun lo =>
    @R.rec α (fun _ => R (α × Met)) .bad (fun a s1 =>
      @AS.rec (fun _ => R (α × Met)) (fun h1 nx1 _ rd1 wr1 => forced nx1 fun hi =>
        .ok (a, ⟨i, below lo rd1, below lo wr1, lo, hi⟩) ⟨h1, hi, mark, below mark rd1 ++ rd, below mark wr1 ++ wr⟩) s1)
      (m ⟨hh, lo, lo, [], []⟩) := rfl
  rw [e, forced_eq] at h
  cases hm : m ⟨hh, nx, nx, [], []⟩ with
  | bad => rw [hm] at h; cases h
  | ok a s1 =>
    rw [hm] at h
    obtain ⟨h1, nx1, mark1, rd1, wr1⟩ := s1
    have h' : forced nx1 (fun hi => R.ok (a, (⟨i, below nx rd1, below nx wr1, nx, hi⟩ : Met)) (⟨h1, hi, mark, below mark rd1 ++ rd, below mark wr1 ++ wr⟩ : AS)) = .ok x s2 := h
    rw [forced_eq] at h'
    cases h'
    exact ⟨a, ⟨h1, nx1, mark1, rd1, wr1⟩, by first | exact hm | rfl, rfl, rfl⟩
theorem alone_ok {α : Type} {i : Nat} {m : M α} {s s1 : AS} {a : α} (h : m ⟨s.h, s.nx, s.nx, [], []⟩ = .ok a s1) :
    alone i m s = .ok (a, ⟨i, below s.nx s1.rd, below s.nx s1.wr, s.nx, s1.nx⟩) ⟨s1.h, s1.nx, s.mark, below s.mark s1.rd ++ s.rd, below s.mark s1.wr ++ s.wr⟩ := by
  obtain ⟨hh, nx, mark, rd, wr⟩ := s
  have e : alone i m ⟨hh, nx, mark, rd, wr⟩ = forced nx fun lo =>
    @R.rec α (fun _ => R (α × Met)) .bad (fun a s1 =>
      @AS.rec (fun _ => R (α × Met)) (fun h1 nx1 _ rd1 wr1 => forced nx1 fun hi =>
        .ok (a, ⟨i, below lo rd1, below lo wr1, lo, hi⟩) ⟨h1, hi, mark, below mark rd1 ++ rd, below mark wr1 ++ wr⟩) s1)
      (m ⟨hh, lo, lo, [], []⟩) := rfl
  rw [e, forced_eq, h]
  obtain ⟨h1, nx1, mark1, rd1, wr1⟩ := s1
  show forced nx1 (fun hi => R.ok (a, (⟨i, below nx rd1, below nx wr1, nx, hi⟩ : Met)) (⟨h1, hi, mark, below mark rd1 ++ rd, below mark wr1 ++ wr⟩ : AS)) = _
  rw [forced_eq]

theorem Local.alone {α : Type} (i : Nat) {m : M α} (hm : Local m) : Local (alone i m) := by
  intro s v s2 fi h
  obtain ⟨a, s1, h1, rfl, rfl⟩ := alone_inv h
  obtain ⟨dr, dw, d, x⟩ := hm ⟨s.h, s.nx, s.nx, [], []⟩ a s1 ⟨Nat.le_refl _, fi.nx⟩ h1
  have er : s1.rd = dr := by have := d.rd; simpa using this
  have ew : s1.wr = dw := by have := d.wr; simpa using this
  refine ⟨below s.mark dr, below s.mark dw, ⟨by show below s.mark s1.rd ++ s.rd = _; rw [er], by show below s.mark s1.wr ++ s.wr = _; rw [ew], d.nx, d.top, rfl, ?_, ?_, d.far⟩, ?_⟩
  · intro k hk hn
    exact d.same k (Nat.lt_of_lt_of_le hk fi.mark) (fun e => hn (mem_below.2 ⟨e, hk⟩))
  · intro k hk
    obtain ⟨a, b⟩ := mem_below.1 hk
    exact mem_below.2 ⟨d.sub k a, b⟩
  · intro A m0 t ag hA
    obtain ⟨t1, e1, al⟩ := x A m0 ⟨t.h, t.nx, t.nx, [], []⟩ ⟨ag.nx, ag.nx, Nat.le_trans ag.low fi.mark, ag.is⟩
      (fun k hk hlt => hA k (mem_below.2 ⟨hk, Nat.lt_of_lt_of_le hlt ag.low⟩) hlt)
    have er' : t1.rd = dr := by have := al.rd; simpa using this
    have ew' : t1.wr = dw := by have := al.wr; simpa using this
    have hr := alone_ok (i := i) (s := t) e1
    rw [er', ew', ← ag.nx, ← ag.mark, ← al.agree.nx] at hr
    rw [er, ew]
    refine ⟨_, hr, ⟨rfl, rfl, ag.low, al.agree.is⟩, rfl, rfl, fun k hk hn => al.same k hk (fun e => hn (mem_below.2 ⟨e, Nat.lt_of_lt_of_le hk ag.low⟩)), al.far⟩

theorem Local.aone (P : Program) {call : Caller} (hcall : ∀ t a, Local (call t a)) (nt : Nat) (ops : Array Oper) (o : Oper) (t : Tr AV) : Local (aone P call nt ops o t) := by
  have hv : ∀ t op, Local ((opB P op).val call t) := fun t op => Local.aop P hcall t op
  unfold Rn.aone slotB
  split <;> simp only [Box.val]
  · unfold kOp
    refine Local.bind (hv _ _) (fun _ => Local.lift _)
  · unfold kOpIf
    rename_i g _
    cases awanted ops g t
    · exact Local.lift _
    · exact Local.bind (hv _ _) (fun _ => Local.lift _)

theorem Local.aops (P : Program) {call : Caller} (hcall : ∀ t a, Local (call t a)) (nt : Nat) (ops : Array Oper) : ∀ (l : List Oper) (t : Tr AV), Local (aops P call nt ops l t)
  | [], t => Local.pure t
  | o :: l, t => Local.bind (Local.aone P hcall nt ops o t) (fun t => Local.aops P hcall nt ops l t)

theorem Local.aopsD (P : Program) {call : Caller} (hcall : ∀ t a, Local (call t a)) (nt : Nat) (ops : Array Oper) : ∀ (l : List Oper) (i : Nat) (t : Tr AV), Local (aopsD P call nt ops l i t)
  | [], _, _ => Local.pure _
  | o :: l, i, t => Local.bind (Local.alone i (Local.aone P hcall nt ops o t)) (fun x => Local.bind (Local.aopsD P hcall nt ops l (i + 1) x.1) (fun _ => Local.pure _))

theorem Local.aregionD (P : Program) {call : Caller} (hcall : ∀ t a, Local (call t a)) (nt : Nat) (ops : Array Oper) (t : Tr AV) : Local (aregionD P call nt ops t) :=
  Local.bind (Local.aopsD P hcall nt ops _ _ _) (fun _ => Local.withB (fun _ => Local.pure _))

theorem Local.getLoop (l : Nat) : Local (getLoop l) := by
  unfold Rn.getLoop
  repeat' (first
    | exact Local.pure _ | exact Local.fail | exact Local.lift _ | exact Local.need _ | exact Local.rdN _ | exact Local.wrN _ _ | exact Local.newN _
    | refine Local.withO (fun _ _ => ?_) | refine Local.withB (fun _ => ?_) | refine Local.bind ?_ (fun _ => ?_)
    | split)

theorem Local.loopOver (l : Nat) : Local (loopOver l) := by
  unfold Rn.loopOver
  repeat' (first
    | exact Local.pure _ | exact Local.fail | exact Local.lift _ | exact Local.need _ | exact Local.rdN _ | exact Local.wrN _ _ | exact Local.newN _ | exact Local.getLoop _
    | refine Local.withO (fun _ _ => ?_) | refine Local.withB (fun _ => ?_) | refine Local.bind ?_ (fun _ => ?_)
    | split)

theorem Local.stepB (P : Program) {call : Caller} (hcall : ∀ t a, Local (call t a)) (it : Item) (fn : FuncId) (t : Tr AV) (nt : Nat) (d : List Nat) (r : Option Nat) (k : List Item) : Local ((itemB P it).val call fn t nt d r k) := by
  cases it <;> simp only [itemB]  <;> (try simp only [Box.val])
  case code c =>
    unfold codeB
    split <;> simp only <;> (first | (unfold sPop; exact Local.pure _) | (unfold sPush; exact Local.pure _) | (unfold sRet; exact Local.pure _) | (unfold sFail; exact Local.fail) | (unfold sCond; exact Local.withO (fun _ _ => Local.withO (fun _ _ => Local.pure _))) | (unfold sExit; split <;> exact Local.pure _) | (unfold sGoto; split <;> exact Local.pure _) | (unfold sRegion; exact Local.bind (Local.aops P hcall _ _ _ _) (fun _ => Local.pure _)) | (unfold sRegionD; exact Local.bind (Local.aregionD P hcall _ _ _) (fun _ => Local.pure _)) | skip)
    unfold sRange
    repeat' (first
      | exact Local.pure _ | exact Local.fail | exact Local.lift _ | exact Local.need _ | exact Local.rdN _ | exact Local.wrN _ _ | exact Local.newN _
      | exact Local.callV hcall _ _ | exact hcall _ _ | exact Local.getLoop _ | exact Local.loopOver _
      | refine Local.withO (fun _ _ => ?_) | refine Local.withB (fun _ => ?_) | refine Local.bind ?_ (fun _ => ?_)
      | split)
  case beginRound =>
    unfold sBegin
    repeat' (first
      | exact Local.pure _ | exact Local.fail | exact Local.lift _ | exact Local.need _ | exact Local.rdN _ | exact Local.wrN _ _ | exact Local.newN _ | exact Local.getLoop _
      | refine Local.withO (fun _ _ => ?_) | refine Local.withB (fun _ => ?_) | refine Local.bind ?_ (fun _ => ?_)
      | split)
  all_goals (first | exact Local.pure _ | exact Local.fail)

theorem Local.astep (P : Program) {call : Caller} (hcall : ∀ t a, Local (call t a)) (fr : AF) : Local (astep P call fr) := by
  obtain ⟨fn, t, nt, todo, d, r⟩ := fr
  cases todo with
  | nil => exact Local.pure _
  | cons it k => exact Local.stepB P hcall it fn t nt d r k

theorem Local.aloop (P : Program) {call : Caller} (hcall : ∀ t a, Local (call t a)) : ∀ (n : Nat) (fr : AF), Local (aloop P call n fr)
  | 0, fr => Local.astep P hcall fr
  | n + 1, fr => Local.bind (Local.aloop P hcall n fr) (fun x => by
    cases x with
    | go fr => exact Local.aloop P hcall n fr
    | leave fr j => exact Local.pure _)

theorem Local.agrow (P : Program) {call : Caller} (hcall : ∀ t a, Local (call t a)) : ∀ (n k : Nat) (fr : AF), Local (agrow P call n k fr)
  | 0, _, _ => Local.fail
  | n + 1, k, fr => Local.bind (Local.aloop P hcall k fr) (fun x => by
    cases x with
    | go fr => exact Local.agrow P hcall n (k + 1) fr
    | leave fr j => exact Local.pure _)

theorem Local.resultOf (P : Program) (t : Tr AV) (r : ResultVar) : Local (resultOf P t r) := by
  unfold Rn.resultOf
  repeat' (first
    | exact Local.pure _ | exact Local.fail | exact Local.lift _ | exact Local.need _ | exact Local.rdN _ | exact Local.wrN _ _ | exact Local.newN _ | exact Local.loadVar _ _ _ _
    | refine Local.withO (fun _ _ => ?_) | refine Local.withB (fun _ => ?_) | refine Local.bind ?_ (fun _ => ?_)
    | split)

theorem Local.resultsOf (P : Program) (t : Tr AV) : ∀ l : List ResultVar, Local (resultsOf P t l)
  | [] => Local.pure _
  | r :: l => Local.bind (Local.resultOf P t r) (fun _ => Local.bind (Local.resultsOf P t l) (fun _ => Local.pure _))

theorem Local.dropDefs : ∀ l : List Nat, Local (dropDefs l)
  | [] => Local.pure _
  | d :: l => Local.bind (Local.rdN d) (fun o => by
    split
    · exact Local.bind (Local.wrN _ _) (fun _ => Local.dropDefs l)
    · exact Local.fail)

theorem Local.finish (P : Program) (rs : List ResultVar) (fr : AF) (j : Option Code) : Local (finish P rs fr j) := by
  unfold Rn.finish
  repeat' (first
    | exact Local.pure _ | exact Local.fail | exact Local.lift _ | exact Local.need _ | exact Local.rdN _ | exact Local.wrN _ _ | exact Local.newN _ | exact Local.dropDefs _ | exact Local.resultsOf _ _ _
    | refine Local.withO (fun _ _ => ?_) | refine Local.withB (fun _ => ?_) | refine Local.bind ?_ (fun _ => ?_)
    | split)

theorem Local.kBody (P : Program) (f n : Nat) (rs : List ResultVar) (body : Code) {call : Caller} (hcall : ∀ t a, Local (call t a)) (args : List AV) : Local (kBody P f n rs body call args) :=
  Local.withB (fun _ => Local.bind (Local.agrow P hcall _ _ _) (fun x => by
    cases x with
    | go fr => exact Local.fail
    | leave fr j => exact Local.finish P rs fr j))

theorem Local.cloneMap (l : List AV) : Local (cloneMap l) := by
  unfold Rn.cloneMap
  repeat' (first
    | exact Local.pure _ | exact Local.fail | exact Local.lift _ | exact Local.need _ | exact Local.rdN _ | exact Local.wrN _ _ | exact Local.newN _
    | refine Local.withO (fun _ _ => ?_) | refine Local.withB (fun _ => ?_) | refine Local.bind ?_ (fun _ => ?_)
    | split)

theorem Local.joinStrs (l : List AV) : Local (joinStrs l) := by
  unfold Rn.joinStrs
  repeat' (first
    | exact Local.pure _ | exact Local.fail | exact Local.lift _ | exact Local.need _ | exact Local.rdN _ | exact Local.wrN _ _ | exact Local.newN _ | exact Local.firstCells _ _ _
    | refine Local.withO (fun _ _ => ?_) | refine Local.withB (fun _ => ?_) | refine Local.bind ?_ (fun _ => ?_)
    | split)

theorem Local.endRound (l : Nat) (j : Option Code) : Local (endRound l j) := by
  unfold Rn.endRound
  repeat' (first
    | exact Local.pure _ | exact Local.fail | exact Local.lift _ | exact Local.need _ | exact Local.rdN _ | exact Local.wrN _ _ | exact Local.newN _ | exact Local.getLoop _
    | refine Local.withO (fun _ _ => ?_) | refine Local.withB (fun _ => ?_) | refine Local.bind ?_ (fun _ => ?_)
    | split)

theorem Local.runRound (P : Program) {call : Caller} (hcall : ∀ t a, Local (call t a)) (l : Nat) (args : List AV) : Local (runRound P call l args) := by
  unfold Rn.runRound
  refine Local.bind (Local.getLoop _) (fun o => ?_)
  split
  · exact Local.withB (fun _ => Local.bind (Local.agrow P hcall _ _ _) (fun x => by
      cases x with
      | go fr => exact Local.fail
      | leave fr j => exact Local.endRound l j))
  · exact Local.fail

end Go.Rn