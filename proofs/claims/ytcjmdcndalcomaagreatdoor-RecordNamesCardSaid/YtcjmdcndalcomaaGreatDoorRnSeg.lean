/- A closed call in segments: each is reckoned for itself; between two of them what is not asked for any more is left out. -/
import Derived.Test.YtcjmdcndalcomaaGreatDoorRnWay1d
namespace Go.Rn
open Go.RowKit

noncomputable section
/-- So many steps of a frame. -/
def arow (P : Program) (call : Caller) (k : Nat) : AF → M Stp :=
  @Nat.rec (fun _ => AF → M Stp) (fun fr => M.pure (.go fr)) (fun _ ih fr => (astep P call fr).bind fun x => @Stp.rec (fun _ => M Stp) ih (fun fr j => M.pure (.leave fr j)) x) k

/-- A part of code, by the way to it. -/
def subCode : List Nat → Code → Code
  | [], c => c
  | 0 :: l, .seq a _ => subCode l a
  | _ :: l, .seq _ b => subCode l b
  | 0 :: l, .cond _ a _ => subCode l a
  | _ :: l, .cond _ _ b => subCode l b
  | _ :: l, .block _ b => subCode l b
  | _ :: l, .loop b => subCode l b
  | _ :: l, .scope b => subCode l b
  | 0 :: l, .rangeFunc _ _ a _ => subCode l a
  | _ :: l, .rangeFunc _ _ _ b => subCode l b
  | _ :: _, c => c

/-- Memory from names and what they are. -/
def heapOf : List Nat → List (Option AObj) → Tr AObj
  | n :: ns, o :: os => (heapOf ns os).put n o
  | _, _ => .nil
def getAll (h : Tr AObj) : List Nat → List (Option AObj)
  | [] => []
  | n :: ns => h.get n :: getAll h ns
/-- Where a segment ends: the frame, the next name, what some names are. -/
def viewOf (ns : List Nat) (r : R Stp) : Option (AF × Nat × List (Option AObj)) :=
  match r with
  | .ok (.go fr) s => some (fr, s.nx, getAll s.h ns)
  | _ => none
/-- The last one: the call's value. -/
def valueOf (P : Program) (rs : List ResultVar) (r : R Stp) : Option AV :=
  match r with
  | .ok (.leave fr j) s => match finish P rs fr j s with
    | .ok v _ => some v
    | .bad => none
  | _ => none
def plainAll : List (Option AObj) → Bool
  | [] => true
  | none :: l => plainAll l
  | some o :: l => match o.plain with
    | true => plainAll l
    | false => false
def lowAll (m : Nat) : List Nat → Bool
  | [] => true
  | n :: l => match Nat.blt n m with
    | true => lowAll m l
    | false => false
def isTrue : Option AV → Bool
  | some (.bool b) => b
  | _ => false
end

theorem plainAll_mem : ∀ {l : List (Option AObj)}, plainAll l = true → ∀ o, some o ∈ l → o.plain = true
  | [], _, o, h => by cases h
  | none :: l, hp, o, h => by
    rcases List.mem_cons.1 h with h | h
    · cases h
    · exact plainAll_mem (l := l) hp o h
  | some q :: l, hp, o, h => by
    unfold plainAll at hp
    split at hp
    · rename_i e
      rcases List.mem_cons.1 h with h | h
      · injection h with h; subst h; exact e
      · exact plainAll_mem hp o h
    · cases hp
theorem lowAll_mem {m : Nat} : ∀ {l : List Nat}, lowAll m l = true → ∀ n ∈ l, n < m
  | [], _, n, h => by cases h
  | a :: l, hp, n, h => by
    unfold lowAll at hp
    split at hp
    · rename_i e
      rcases List.mem_cons.1 h with rfl | h
      · rw [← blt_eq]; exact e
      · exact lowAll_mem hp n h
    · cases hp
theorem heapOf_get {m : Nat} (hm : m ≤ top) {h : Tr AObj} : ∀ {ns : List Nat}, lowAll m ns = true → ∀ k o, k < top → (heapOf ns (getAll h ns)).get k = some o → h.get k = some o ∧ some o ∈ getAll h ns
  | [], _, k, o, _, e => by
    have : (Tr.nil : Tr AObj).get k = some o := e
    rw [Tr.get_nil] at this; cases this
  | n :: ns, hl, k, o, hk, e => by
    have hn : n < top := Nat.lt_of_lt_of_le (lowAll_mem hl n List.mem_cons_self) hm
    have hl' : lowAll m ns = true := by
      unfold lowAll at hl
      split at hl
      · exact hl
      · cases hl
    have e' : ((heapOf ns (getAll h ns)).put n (h.get n)).get k = some o := e
    rw [Tr.get_put _ _ _ _ hn hk] at e'
    by_cases q : k = n
    · rw [if_pos q] at e'
      exact ⟨by rw [q]; exact e', by simp only [getAll, List.mem_cons]; exact .inl e'.symm⟩
    · rw [if_neg q] at e'
      obtain ⟨a, b⟩ := heapOf_get hm hl' k o hk e'
      exact ⟨a, List.mem_cons_of_mem _ b⟩

/-- Less is known of the same. -/
structure Part (s2 s1 : AS) : Prop where
  nx : s2.nx = s1.nx
  fine : Fine s2
  sub : ∀ k o, k < top → s2.h.get k = some o → s1.h.get k = some o
  plain : ∀ k o, k < top → s2.h.get k = some o → o.plain = true
theorem Rel.part {B : Nat} {ρ : Ren} {s1 s2 : AS} {w : World} (r : Rel B ρ s1.h w) (p : Part s2 s1) : Rel B ρ s2.h w := by
  refine ⟨fun n o hn h => r.is n o hn (p.sub n o hn h), fun n m o q b N M hn hm h1 h2 => r.one n m o q b N M hn hm (p.sub n o hn h1) (p.sub m q hm h2), fun n m es ex left cur hn h => ?_, r.size,
    fun i j m es ex left cur es' ex' left' cur' hi hj h1 h2 => r.lone i j m es ex left cur es' ex' left' cur' hi hj (p.sub i _ hi h1) (p.sub j _ hj h2)⟩
  have := p.plain n _ hn h
  simp [AObj.plain] at this

section
variable {P : Program} {B : Nat} {ρ : Ren} {w : World} {s s1 : AS} {call : Caller} {b : Frame} {a : Act} {cs : List Frame}

theorem Local.arow (P : Program) {call : Caller} (hcall : ∀ t a, Local (call t a)) : ∀ (k : Nat) (fr : AF), Local (arow P call k fr)
  | 0, fr => Local.pure _
  | k + 1, fr => by
    refine Local.bind (Local.astep P hcall fr) (fun x => ?_)
    cases x with
    | go fr => exact Local.arow P hcall k fr
    | leave fr j => exact Local.pure _

theorem arow_sim (hmix : P.follows .mixedOrders = true) (hc : CallSim P B call) (hl : ∀ t a, Local (call t a)) : ∀ (k : Nat) {ρ : Ren} {w : World} {s s1 : AS} {a : Act} {af : AF} {x : Stp}, Fr ρ af b a → At B ρ s af.nt af.tmps w a → Free s.nx s1.nx ρ →
    arow P call k af s = .ok x s1 → Went P B ρ s s1 w af b cs (lone (b.atR a af.todo) cs w) x
  | 0, ρ, w, s, s1, a, af, x, hfr, hat, hf, h => by
    obtain ⟨rfl, rfl⟩ := pure_inv (show M.pure (.go af) s = .ok x s1 from h)
    exact went_calm hfr hat rfl rfl ⟨rfl, rfl, rfl⟩ hfr.ok trivial (Steps.refl _ _)
  | k + 1, ρ, w, s, s1, a, af, x, hfr, hat, hf, h => by
    obtain ⟨y, s2, h1, h2⟩ := M.bind_inv (show ((astep P call af).bind fun x => @Stp.rec (fun _ => M Stp) (arow P call k) (fun fr j => M.pure (.leave fr j)) x) s = .ok x s1 from h)
    have le1 := (Local.astep P hl af).le hat.fine h1
    have fi2 := (Local.astep P hl af).fine hat.fine h1
    cases y with
    | go fr =>
      have h2' : arow P call k fr s2 = .ok x s1 := h2
      have le2 := (Local.arow P hl k fr).le fi2 h2'
      have w1 := astep_sim (b := b) (cs := cs) hmix hc hl hfr hat (hf.sub (Nat.le_refl _) le2) h1
      exact w1.then_ hfr le1 le2 fun σ a' w' e1 hfr' hat' => arow_sim hmix hc hl k hfr' hat' (hf.next le1 e1) h2'
    | leave fr j =>
      obtain ⟨rfl, rfl⟩ := pure_inv (show M.pure (.leave fr j) s2 = .ok x s1 from h2)
      exact astep_sim hmix hc hl hfr hat hf h1

inductive Leads (P : Program) (call : Caller) : AF → AS → Stp → AS → Prop
  | one {k : Nat} {fr : AF} {s : AS} {x : Stp} {s1 : AS} : arow P call k fr s = .ok x s1 → Leads P call fr s x s1
  | cons {k : Nat} {fr : AF} {s : AS} {fr1 : AF} {s1 s2 : AS} {x : Stp} {s3 : AS} : arow P call k fr s = .ok (.go fr1) s1 → Part s2 s1 → Leads P call fr1 s2 x s3 → Leads P call fr s x s3

theorem Leads.le {fr : AF} {s : AS} {x : Stp} {s1 : AS} (hl : ∀ t a, Local (call t a)) (h : Leads P call fr s x s1) : Fine s → s.nx ≤ s1.nx ∧ Fine s1 := by
  induction h with
  | one e => intro fi; exact ⟨(Local.arow P hl _ _).le fi e, (Local.arow P hl _ _).fine fi e⟩
  | cons e p _ ih =>
    intro fi
    have l1 := (Local.arow P hl _ _).le fi e
    obtain ⟨l2, f2⟩ := ih p.fine
    have := p.nx
    exact ⟨by omega, f2⟩

theorem leads_sim (hmix : P.follows .mixedOrders = true) (hc : CallSim P B call) (hl : ∀ t a, Local (call t a)) {af : AF} {s : AS} {x : Stp} {s1 : AS} (h : Leads P call af s x s1) : ∀ {ρ : Ren} {w : World} {a : Act}, Fr ρ af b a → At B ρ s af.nt af.tmps w a → Free s.nx s1.nx ρ →
    Went P B ρ s s1 w af b cs (lone (b.atR a af.todo) cs w) x := by
  induction h with
  | one e => intro ρ w a hfr hat hf; exact arow_sim hmix hc hl _ hfr hat hf e
  | @cons k fr s fr1 s1 s2 x s3 e p hL ih =>
    intro ρ w a hfr hat hf
    have le1 := (Local.arow P hl k fr).le hat.fine e
    have fi1 := (Local.arow P hl k fr).fine hat.fine e
    obtain ⟨le2, _⟩ := hL.le hl p.fine
    have hn := p.nx
    have w1 := arow_sim (b := b) (cs := cs) hmix hc hl k hfr hat (hf.sub (Nat.le_refl _) (by omega)) e
    refine w1.then_ hfr le1 (by omega) fun σ a' w' e1 hfr' hat' => ?_
    have := ih hfr' ⟨hat'.tr, hat'.rel.part p, hat'.g, hat'.nt, p.fine⟩ (by rw [hn]; exact hf.next le1 e1)
    obtain ⟨τ, a'', w'', g1, g2⟩ := this
    exact ⟨τ, a'', w'', by rw [← hn]; exact g1, g2⟩

/-- From where a segment ends the next one begins. -/
theorem Leads.next {k nx : Nat} {fr fr1 : AF} {s : AS} {x : Stp} {s3 : AS} {ns : List Nat} {os : List (Option AObj)} (h : viewOf ns (arow P call k fr s) = some (fr1, nx, os)) (hfi : Fine s) (hl : ∀ t a, Local (call t a)) (hp : plainAll os = true) (hlow : lowAll nx ns = true)
    (hL : Leads P call fr1 ⟨heapOf ns os, nx, 0, [], []⟩ x s3) : Leads P call fr s x s3 := by
  unfold viewOf at h
  split at h
  · rename_i fr' s' e
    injection h with h
    injection h with h1 h
    injection h with h2 h3
    subst h1; subst h2; subst h3
    have fi := (Local.arow P hl k fr).fine hfi e
    refine .cons (s2 := ⟨heapOf ns (getAll s'.h ns), s'.nx, 0, [], []⟩) e ⟨rfl, ⟨Nat.zero_le _, fi.nx⟩, fun k o hk h => (heapOf_get fi.nx hlow k o hk h).1, fun k o hk h => plainAll_mem hp o (heapOf_get fi.nx hlow k o hk h).2⟩ hL
  · cases h

theorem valueOf_inv {rs : List ResultVar} {r : R Stp} {v : AV} (h : valueOf P rs r = some v) : ∃ fr j s s1, r = .ok (.leave fr j) s ∧ finish P rs fr j s = .ok v s1 := by
  unfold valueOf at h
  split at h
  · rename_i fr j s
    split at h
    · rename_i v' s1 e
      injection h with h; subst h
      exact ⟨fr, j, s, s1, rfl, e⟩
    · cases h
  · cases h

theorem isTrue_inv {o : Option AV} (h : isTrue o = true) : o = some (.bool true) := by
  unfold isTrue at h
  split at h
  · rename_i b; subst h; rfl
  · cases h
theorem fine_of {h : Tr AObj} {nx : Nat} (hb : Nat.ble nx top = true) : Fine ⟨h, nx, 0, [], []⟩ := ⟨Nat.zero_le _, ble_true.1 hb⟩
theorem known_none (W : World) : Known W .nil := fun n o _ h => by rw [Tr.get_nil] at h; cases h

/-- A closed call whose segments end so. -/
theorem closed_leads {way : FuncId → Nat} {W : World} {n : Nat} (hP : ProgOk P) (hw : WaysOk P W.heap.size way) {f : FuncId} {fn : Func} {body : Code} (hfn : P.funcs[f]? = some fn) (hbody : fn.body = some body)
    (hmax : Nat.ble (max fn.ntmps 0) top = true) {h : Tr AObj} {x : AV} (hk : Known W h)
    {s2 s3 : AS} {fr : AF} {j : Option Code} (hL : Leads P (arun P way n) ⟨f, fillArgs [], max fn.ntmps 0, [.code body], [], none⟩ ⟨h, globs, 0, [], []⟩ (.leave fr j) s2) (hfin : finish P fn.results.toList fr j s2 = .ok x s3) :
    Calls P f #[] W fun e w' => ∃ v, e = .returned v ∧ (∃ σ, VR σ x v) ∧ Below W.heap.size W w' := by
  intro cs
  have hl : ∀ t a, Local (arun P way n t a) := local_arun P way n
  have fi : Fine (⟨h, globs, 0, [], []⟩ : AS) := ⟨Nat.zero_le _, (by unfold globs top; decide : globs ≤ top)⟩
  have hok : CodeOk body := hP.code f fn body hfn hbody
  have hmax' := ble_true.1 hmax
  let b : Frame := { (default : Frame) with fn := f, kind := .normal, roundOf := none }
  let a : Act := { tmps := #[] ++ Array.replicate (fn.ntmps - (#[] : Array Value).size) undef, defers := [] }
  have hstart : Frame.enter P f #[] .normal = b.atR a [.code body] := by simp [Frame.enter, Frame.atR, hfn, hbody, b, a]
  have hfr : Fr (startRen W) ⟨f, fillArgs [], max fn.ntmps 0, [.code body], [], none⟩ b a := ⟨rfl, rfl, trivial, rfl, .cons hok .nil⟩
  have hat : At W.heap.size (startRen W) ⟨h, globs, 0, [], []⟩ (max fn.ntmps 0) (fillArgs []) W a :=
    ⟨fillArgs_sim (args := []) (vs := #[]) (by simp [VRs]) _ hmax', start_rel hk, startRen_g W, hmax', fi⟩
  obtain ⟨σ, a', w', e1, e2, e3, e4, ⟨e5, e5', e5''⟩, e6, e7, e8⟩ := leads_sim (b := b) (cs := cs) hP.mixed (arun_sim hP hw n) hl hL hfr hat (fun k h1 _ => startRen_none W h1)
  obtain ⟨hj, u2, s4, rs, h7, h9, hx⟩ := finish_inv hfin
  have fi2 : Fine s2 := (hL.le hl fi).2
  have fi4 : Fine s4 := (Local.dropDefs _).fine fi2 h7
  have e7' : Leaves j fr.todo := e7
  obtain ⟨d1, d2, w2, d3, d4, d5⟩ := dropDefs_sim (P := P) (fr := b) (cs := cs) fi2 e2.rel e3 h7
  obtain ⟨f1, f2, us, f3, f4⟩ := resultsOf_sim (P := P) (w := w2) e2.tr fi4 d3 h9
  have hout : Steps P (lone (b.atR a' fr.todo) cs w') (lone { b.atR a' fr.todo with mode := .returning } cs w') := by
    rcases hj with rfl | rfl
    · have e : fr.todo = [] := e7'
      rw [e]; exact .one (stepR_end rfl)
    · obtain ⟨k, e⟩ := e7'
      rw [e]; exact .one (stepR_ret rfl)
  have hdrop := d5 { b.atR a' fr.todo with mode := .returning } cs (by simp) rfl
  have hres : (results fn a'.tmps).run P w2 = .ok (oneOrV us) w2 := by
    unfold results
    rw [Array.mapM_eq_mapM_toList]
    simp only [Sem.run_bind, map_eq_pure_bind, Sem.run_pure]
    refine Eq.trans (congrArg (fun r : Result (List Value) => (r.andThen fun a w' => Result.ok a.toArray w').andThen fun a w' => Result.ok (if h : a.size = 1 then a[0] else Value.tuple a) w') f3) ?_
    have : ∀ l : List Value, (Result.ok (if h : l.toArray.size = 1 then l.toArray[0] else Value.tuple l.toArray) w2 : Result Value) = .ok (oneOrV l) w2 := by
      intro l
      match l with
      | [] => rfl
      | [v] => rfl
      | v :: v2 :: l => simp [oneOrV]
    exact this us
  refine ⟨.returned (oneOrV us), w2, { b.atR a' fr.todo with mode := .returning, defers := [] }, ⟨_, rfl, ⟨σ, ?_⟩, e4.trans d4⟩, ?_, rfl, ?_⟩
  · rw [hx]; exact oneOr_sim f4
  · rw [hstart]
    exact Steps.trans e8 (Steps.trans hout hdrop)
  · exact ⟨rfl, rfl, rfl, fn, hfn, hres⟩
end
end Go.Rn
