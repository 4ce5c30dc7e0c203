/- A closed call in segments: each is reckoned for itself; between two of them what is not asked for any more is left out. -/
import Derived.Test.YtfgamllkaonamaaGreatDoorRnWayA
import Derived.LaidMore
import Derived.LaidHandle
import Derived.CheckFast
namespace Go.Rn
open Go.RowKit

noncomputable section
/-- So many steps of a frame. -/
def arow (P : Program) (call : Caller) (k : Nat) : AF → M Stp :=
  @Nat.rec (fun _ => AF → M Stp) (fun fr => M.pure (.go fr)) (fun _ ih fr => (astep P call fr).bind fun x => @Stp.rec (fun _ => M Stp) ih (fun fr j => M.pure (.leave fr j)) x) k

/-- A part of code, by the way to it. -/
def subCode : List Nat → Code → Code
  | [], c => c
  | 0 :: l, .seq a _ => subCode l a
  | _ :: l, .seq _ b => subCode l b
  | 0 :: l, .cond _ a _ => subCode l a
  | _ :: l, .cond _ _ b => subCode l b
  | _ :: l, .block _ b => subCode l b
  | _ :: l, .loop b => subCode l b
  | _ :: l, .scope b => subCode l b
  | 0 :: l, .rangeFunc _ _ a _ => subCode l a
  | _ :: l, .rangeFunc _ _ _ b => subCode l b
  | _ :: _, c => c

/-- Memory from names and what they are. -/
def heapOf : List Nat → List (Option AObj) → Tr AObj
  | n :: ns, o :: os => (heapOf ns os).put n o
  | _, _ => .nil
def getAll (h : Tr AObj) : List Nat → List (Option AObj)
  | [] => []
  | n :: ns => h.get n :: getAll h ns
/-- Where a segment ends: the frame, the next name, what some names are. -/
def viewOf (ns : List Nat) (r : R Stp) : Option (AF × Nat × List (Option AObj)) :=
  match r with
  | .ok (.go fr) s => some (fr, s.nx, getAll s.h ns)
  | _ => none
/-- The last one: the call's value. -/
def valueOf (P : Program) (rs : List ResultVar) (r : R Stp) : Option AV :=
  match r with
  | .ok (.leave fr j) s => match finish P rs fr j s with
    | .ok v _ => some v
    | .bad => none
  | _ => none
def plainAll : List (Option AObj) → Bool
  | [] => true
  | none :: l => plainAll l
  | some o :: l => match o.plain with
    | true => plainAll l
    | false => false
def lowAll (m : Nat) : List Nat → Bool
  | [] => true
  | n :: l => match Nat.blt n m with
    | true => lowAll m l
    | false => false
def isTrue : Option AV → Bool
  | some (.bool b) => b
  | _ => false
end

theorem plainAll_mem : ∀ {l : List (Option AObj)}, plainAll l = true → ∀ o, some o ∈ l → o.plain = true
  | [], _, o, h => by cases h
  | none :: l, hp, o, h => by
    rcases List.mem_cons.1 h with h | h
    · cases h
    · exact plainAll_mem (l := l) hp o h
  | some q :: l, hp, o, h => by
    unfold plainAll at hp
    split at hp
    · rename_i e
      rcases List.mem_cons.1 h with h | h
      · injection h with h; subst h; exact e
      · exact plainAll_mem hp o h
    · cases hp
theorem lowAll_mem {m : Nat} : ∀ {l : List Nat}, lowAll m l = true → ∀ n ∈ l, n < m
  | [], _, n, h => by cases h
  | a :: l, hp, n, h => by
    unfold lowAll at hp
    split at hp
    · rename_i e
      rcases List.mem_cons.1 h with rfl | h
      · rw [← blt_eq]; exact e
      · exact lowAll_mem hp n h
    · cases hp
theorem heapOf_get {m : Nat} (hm : m ≤ top) {h : Tr AObj} : ∀ {ns : List Nat}, lowAll m ns = true → ∀ k o, k < top → (heapOf ns (getAll h ns)).get k = some o → h.get k = some o ∧ some o ∈ getAll h ns
  | [], _, k, o, _, e => by
    have : (Tr.nil : Tr AObj).get k = some o := e
    rw [Tr.get_nil] at this; cases this
  | n :: ns, hl, k, o, hk, e => by
    have hn : n < top := Nat.lt_of_lt_of_le (lowAll_mem hl n List.mem_cons_self) hm
    have hl' : lowAll m ns = true := by
      unfold lowAll at hl
      split at hl
      · exact hl
      · cases hl
    have e' : ((heapOf ns (getAll h ns)).put n (h.get n)).get k = some o := e
    rw [Tr.get_put _ _ _ _ hn hk] at e'
    by_cases q : k = n
    · rw [if_pos q] at e'
      exact ⟨by rw [q]; exact e', by simp only [getAll, List.mem_cons]; exact .inl e'.symm⟩
    · rw [if_neg q] at e'
      obtain ⟨a, b⟩ := heapOf_get hm hl' k o hk e'
      exact ⟨a, List.mem_cons_of_mem _ b⟩

/-- Less is known of the same. -/
structure Part (s2 s1 : AS) : Prop where
  nx : s2.nx = s1.nx
  fine : Fine s2
  sub : ∀ k o, k < top → s2.h.get k = some o → s1.h.get k = some o
  plain : ∀ k o, k < top → s2.h.get k = some o → o.plain = true
theorem Rel.part {B : Nat} {ρ : Ren} {s1 s2 : AS} {w : World} (r : Rel B ρ s1.h w) (p : Part s2 s1) : Rel B ρ s2.h w := by
  refine ⟨fun n o hn h => r.is n o hn (p.sub n o hn h), fun n m o q b N M hn hm h1 h2 hor => r.one n m o q b N M hn hm (p.sub n o hn h1) (p.sub m q hm h2) hor, fun n m es ex left cur hn h => ?_, r.size,
    fun i j m es ex left cur es' ex' left' cur' hi hj h1 h2 => r.lone i j m es ex left cur es' ex' left' cur' hi hj (p.sub i _ hi h1) (p.sub j _ hj h2)⟩
  have := p.plain n _ hn h
  simp [AObj.plain] at this

section
variable {P : Program} {B : Nat} {ρ : Ren} {w : World} {s s1 : AS} {call : Caller} {b : Frame} {a : Act} {cs : List Frame}

theorem Local.arow (P : Program) {call : Caller} (hcall : ∀ t a, Local (call t a)) : ∀ (k : Nat) (fr : AF), Local (arow P call k fr)
  | 0, fr => Local.pure _
  | k + 1, fr => by
    refine Local.bind (Local.astep P hcall fr) (fun x => ?_)
    cases x with
    | go fr => exact Local.arow P hcall k fr
    | leave fr j => exact Local.pure _

theorem arow_sim (hmix : P.follows .mixedOrders = true) (hc : CallSim P B call) (hl : ∀ t a, Local (call t a)) : ∀ (k : Nat) {ρ : Ren} {w : World} {s s1 : AS} {a : Act} {af : AF} {x : Stp}, Fr ρ af b a → At B ρ s af.nt af.tmps w a → Free s.nx s1.nx ρ →
    arow P call k af s = .ok x s1 → Went P B ρ s s1 w af b cs (lone (b.atR a af.todo) cs w) x
  | 0, ρ, w, s, s1, a, af, x, hfr, hat, hf, h => by
    obtain ⟨rfl, rfl⟩ := pure_inv (show M.pure (.go af) s = .ok x s1 from h)
    exact went_calm hfr hat rfl rfl ⟨rfl, rfl, rfl⟩ hfr.ok trivial (Steps.refl _ _)
  | k + 1, ρ, w, s, s1, a, af, x, hfr, hat, hf, h => by
    obtain ⟨y, s2, h1, h2⟩ := M.bind_inv (show ((astep P call af).bind fun x => @Stp.rec (fun _ => M Stp) (arow P call k) (fun fr j => M.pure (.leave fr j)) x) s = .ok x s1 from h)
    have le1 := (Local.astep P hl af).le hat.fine h1
    have fi2 := (Local.astep P hl af).fine hat.fine h1
    cases y with
    | go fr =>
      have h2' : arow P call k fr s2 = .ok x s1 := h2
      have le2 := (Local.arow P hl k fr).le fi2 h2'
      have w1 := astep_sim (b := b) (cs := cs) hmix hc hl hfr hat (hf.sub (Nat.le_refl _) le2) h1
      exact w1.then_ hfr le1 le2 fun σ a' w' e1 hfr' hat' => arow_sim hmix hc hl k hfr' hat' (hf.next le1 e1) h2'
    | leave fr j =>
      obtain ⟨rfl, rfl⟩ := pure_inv (show M.pure (.leave fr j) s2 = .ok x s1 from h2)
      exact astep_sim hmix hc hl hfr hat hf h1

inductive Leads (P : Program) (call : Caller) : AF → AS → Stp → AS → Prop
  | one {k : Nat} {fr : AF} {s : AS} {x : Stp} {s1 : AS} : arow P call k fr s = .ok x s1 → Leads P call fr s x s1
  | cons {k : Nat} {fr : AF} {s : AS} {fr1 : AF} {s1 s2 : AS} {x : Stp} {s3 : AS} : arow P call k fr s = .ok (.go fr1) s1 → Part s2 s1 → Leads P call fr1 s2 x s3 → Leads P call fr s x s3

theorem Leads.le {fr : AF} {s : AS} {x : Stp} {s1 : AS} (hl : ∀ t a, Local (call t a)) (h : Leads P call fr s x s1) : Fine s → s.nx ≤ s1.nx ∧ Fine s1 := by
  induction h with
  | one e => intro fi; exact ⟨(Local.arow P hl _ _).le fi e, (Local.arow P hl _ _).fine fi e⟩
  | cons e p _ ih =>
    intro fi
    have l1 := (Local.arow P hl _ _).le fi e
    obtain ⟨l2, f2⟩ := ih p.fine
    have := p.nx
    exact ⟨by omega, f2⟩

theorem leads_sim (hmix : P.follows .mixedOrders = true) (hc : CallSim P B call) (hl : ∀ t a, Local (call t a)) {af : AF} {s : AS} {x : Stp} {s1 : AS} (h : Leads P call af s x s1) : ∀ {ρ : Ren} {w : World} {a : Act}, Fr ρ af b a → At B ρ s af.nt af.tmps w a → Free s.nx s1.nx ρ →
    Went P B ρ s s1 w af b cs (lone (b.atR a af.todo) cs w) x := by
  induction h with
  | one e => intro ρ w a hfr hat hf; exact arow_sim hmix hc hl _ hfr hat hf e
  | @cons k fr s fr1 s1 s2 x s3 e p hL ih =>
    intro ρ w a hfr hat hf
    have le1 := (Local.arow P hl k fr).le hat.fine e
    have fi1 := (Local.arow P hl k fr).fine hat.fine e
    obtain ⟨le2, _⟩ := hL.le hl p.fine
    have hn := p.nx
    have w1 := arow_sim (b := b) (cs := cs) hmix hc hl k hfr hat (hf.sub (Nat.le_refl _) (by omega)) e
    refine w1.then_ hfr le1 (by omega) fun σ a' w' e1 hfr' hat' => ?_
    have := ih hfr' ⟨hat'.tr, hat'.rel.part p, hat'.g, hat'.nt, p.fine⟩ (by rw [hn]; exact hf.next le1 e1)
    obtain ⟨τ, a'', w'', g1, g2⟩ := this
    exact ⟨τ, a'', w'', by rw [← hn]; exact g1, g2⟩

/-- From where a segment ends the next one begins. -/
theorem Leads.next {k nx : Nat} {fr fr1 : AF} {s : AS} {x : Stp} {s3 : AS} {ns : List Nat} {os : List (Option AObj)} (h : viewOf ns (arow P call k fr s) = some (fr1, nx, os)) (hfi : Fine s) (hl : ∀ t a, Local (call t a)) (hp : plainAll os = true) (hlow : lowAll nx ns = true)
    (hL : Leads P call fr1 ⟨heapOf ns os, nx, 0, [], []⟩ x s3) : Leads P call fr s x s3 := by
  unfold viewOf at h
  split at h
  · rename_i fr' s' e
    injection h with h
    injection h with h1 h
    injection h with h2 h3
    subst h1; subst h2; subst h3
    have fi := (Local.arow P hl k fr).fine hfi e
    refine .cons (s2 := ⟨heapOf ns (getAll s'.h ns), s'.nx, 0, [], []⟩) e ⟨rfl, ⟨Nat.zero_le _, fi.nx⟩, fun k o hk h => (heapOf_get fi.nx hlow k o hk h).1, fun k o hk h => plainAll_mem hp o (heapOf_get fi.nx hlow k o hk h).2⟩ hL
  · cases h

theorem valueOf_inv {rs : List ResultVar} {r : R Stp} {v : AV} (h : valueOf P rs r = some v) : ∃ fr j s s1, r = .ok (.leave fr j) s ∧ finish P rs fr j s = .ok v s1 := by
  unfold valueOf at h
  split at h
  · rename_i fr j s
    split at h
    · rename_i v' s1 e
      injection h with h; subst h
      exact ⟨fr, j, s, s1, rfl, e⟩
    · cases h
  · cases h

theorem isTrue_inv {o : Option AV} (h : isTrue o = true) : o = some (.bool true) := by
  unfold isTrue at h
  split at h
  · rename_i b; subst h; rfl
  · cases h
theorem fine_of {h : Tr AObj} {nx : Nat} (hb : Nat.ble nx top = true) : Fine ⟨h, nx, 0, [], []⟩ := ⟨Nat.zero_le _, ble_true.1 hb⟩
theorem known_none (W : World) : Known W .nil := fun n o _ h => by rw [Tr.get_nil] at h; cases h

/-- A closed call whose segments end so. -/
theorem closed_leads {way : FuncId → Nat} {W : World} {n : Nat} (hP : ProgOk P) (hw : WaysOk P W.heap.size way) {f : FuncId} {fn : Func} {body : Code} (hfn : P.funcs[f]? = some fn) (hbody : fn.body = some body)
    (hmax : Nat.ble (max fn.ntmps 0) top = true) {h : Tr AObj} {x : AV} (hk : Known W h)
    {s2 s3 : AS} {fr : AF} {j : Option Code} (hL : Leads P (arun P way n) ⟨f, fillArgs [], max fn.ntmps 0, [.code body], [], none⟩ ⟨h, globs, 0, [], []⟩ (.leave fr j) s2) (hfin : finish P fn.results.toList fr j s2 = .ok x s3) :
    Calls P f #[] W fun e w' => ∃ v, e = .returned v ∧ (∃ σ, VR σ x v) ∧ Below W.heap.size W w' := by
  intro cs
  have hl : ∀ t a, Local (arun P way n t a) := local_arun P way n
  have fi : Fine (⟨h, globs, 0, [], []⟩ : AS) := ⟨Nat.zero_le _, (by unfold globs top; decide : globs ≤ top)⟩
  have hok : CodeOk body := hP.code f fn body hfn hbody
  have hmax' := ble_true.1 hmax
  let b : Frame := { (default : Frame) with fn := f, kind := .normal, roundOf := none }
  let a : Act := { tmps := #[] ++ Array.replicate (fn.ntmps - (#[] : Array Value).size) undef, defers := [] }
  have hstart : Frame.enter P f #[] .normal = b.atR a [.code body] := by simp [Frame.enter, Frame.atR, hfn, hbody, b, a]
  have hfr : Fr (startRen W) ⟨f, fillArgs [], max fn.ntmps 0, [.code body], [], none⟩ b a := ⟨rfl, rfl, trivial, rfl, .cons hok .nil⟩
  have hat : At W.heap.size (startRen W) ⟨h, globs, 0, [], []⟩ (max fn.ntmps 0) (fillArgs []) W a :=
    ⟨fillArgs_sim (args := []) (vs := #[]) (by simp [VRs]) _ hmax', start_rel hk, startRen_g W, hmax', fi⟩
  obtain ⟨σ, a', w', e1, e2, e3, e4, ⟨e5, e5', e5''⟩, e6, e7, e8⟩ := leads_sim (b := b) (cs := cs) hP.mixed (arun_sim hP hw n) hl hL hfr hat (fun k h1 _ => startRen_none W h1)
  obtain ⟨hj, u2, s4, rs, h7, h9, hx⟩ := finish_inv hfin
  have fi2 : Fine s2 := (hL.le hl fi).2
  have fi4 : Fine s4 := (Local.dropDefs _).fine fi2 h7
  have e7' : Leaves j fr.todo := e7
  obtain ⟨d1, d2, w2, d3, d4, d5⟩ := dropDefs_sim (P := P) (fr := b) (cs := cs) fi2 e2.rel e3 h7
  obtain ⟨f1, f2, us, f3, f4⟩ := resultsOf_sim (P := P) (w := w2) e2.tr fi4 d3 h9
  have hout : Steps P (lone (b.atR a' fr.todo) cs w') (lone { b.atR a' fr.todo with mode := .returning } cs w') := by
    rcases hj with rfl | rfl
    · have e : fr.todo = [] := e7'
      rw [e]; exact .one (stepR_end rfl)
    · obtain ⟨k, e⟩ := e7'
      rw [e]; exact .one (stepR_ret rfl)
  have hdrop := d5 { b.atR a' fr.todo with mode := .returning } cs (by simp) rfl
  have hres : (results fn a'.tmps).run P w2 = .ok (oneOrV us) w2 := by
    unfold results
    rw [Array.mapM_eq_mapM_toList]
    simp only [Sem.run_bind, map_eq_pure_bind, Sem.run_pure]
    refine Eq.trans (congrArg (fun r : Result (List Value) => (r.andThen fun a w' => Result.ok a.toArray w').andThen fun a w' => Result.ok (if h : a.size = 1 then a[0] else Value.tuple a) w') f3) ?_
    have : ∀ l : List Value, (Result.ok (if h : l.toArray.size = 1 then l.toArray[0] else Value.tuple l.toArray) w2 : Result Value) = .ok (oneOrV l) w2 := by
      intro l
      match l with
      | [] => rfl
      | [v] => rfl
      | v :: v2 :: l => simp [oneOrV]
    exact this us
  refine ⟨.returned (oneOrV us), w2, { b.atR a' fr.todo with mode := .returning, defers := [] }, ⟨_, rfl, ⟨σ, ?_⟩, e4.trans d4⟩, ?_, rfl, ?_⟩
  · rw [hx]; exact oneOr_sim f4
  · rw [hstart]
    exact Steps.trans e8 (Steps.trans hout hdrop)
  · exact ⟨rfl, rfl, rfl, fn, hfn, hres⟩
end
end Go.Rn

/- What is known of package variables that hold functions by name. -/
namespace Go.Rn
open Go.RowKit

/-- A table's entry, as it is read. -/
def entryOk (P : Program) : DataW (List UInt8) → Option FuncId → Bool
  | .nil, none => true
  | .held (b :: r), some f => (List.range P.funcs.size).filter (fun f => (P.funcs[f]?).any (·.name.toUTF8.data.toList == b :: r)) == [f]
  | _, _ => false
def tableOk (P : Program) : List (DataW (List UInt8)) → List (Option FuncId) → Bool
  | [], [] => true
  | d :: ds, f :: fs => entryOk P d f && tableOk P ds fs
  | _, _ => false
def aggOk (P : Program) (d : DataW (List UInt8)) (fs : List (Option FuncId)) : Bool :=
  match d with
  | .agg ds => tableOk P ds fs
  | _ => false
def entryAV : Option FuncId → AV
  | none => .nilFunc
  | some f => .func (.func f) [] []
def entryV : Option FuncId → Value
  | none => .nilFunc
  | some f => .func (.func f) #[] #[]
theorem entry_sim (ρ : Ren) (f : Option FuncId) : VR ρ (entryAV f) (entryV f) := by
  cases f with
  | none => simp only [entryAV, entryV, VR]
  | some f => simp only [entryAV, entryV, VR, VRs]; exact ⟨rfl, _, _, rfl, rfl, rfl⟩
theorem entry_oneCell (f : Option FuncId) : (entryAV f).oneCell = true := by cases f <;> rfl

theorem mapM_get {α β : Type} {f : α → Option β} : ∀ {l : List α} {r : List β}, l.mapM f = some r → l.length = r.length ∧ ∀ (i : Nat) (x : α), l[i]? = some x → ∃ y, r[i]? = some y ∧ f x = some y
  | [], r, h => by
    simp at h; subst h; exact ⟨rfl, fun i x hx => by simp at hx⟩
  | a :: l, r, h => by
    rw [List.mapM_cons] at h
    cases e : f a with
    | none => simp [e] at h
    | some b =>
      cases e2 : l.mapM f with
      | none => simp [e, e2] at h
      | some bs =>
        simp [e, e2] at h; subst h
        obtain ⟨h1, h2⟩ := mapM_get e2
        refine ⟨by simp [h1], fun i x hx => ?_⟩
        cases i with
        | zero => simp at hx; subst hx; exact ⟨b, rfl, e⟩
        | succ i => simp at hx; obtain ⟨y, h3, h4⟩ := h2 i x hx; exact ⟨y, by simpa using h3, h4⟩

theorem entry_of_trod {P : Program} {w : World} {e : TypeId} {ps rs : Array TypeId} {va : Bool} {fuel : Nat} {v : Value} {d : DataW (List UInt8)} {q : List MemPlace} {f : Option FuncId} (he : P.underlying e = some (.func ps rs va))
    (h : DataW.trod (funcToken P) P w 0 (fun _ => true) true fuel e [v] = some (d, q)) (hk : entryOk P d f = true) : v = entryV f := by
  unfold entryOk at hk
  split at hk
  · cases fuel with
    | zero => simp [DataW.trod] at h
    | succ n =>
      cases v <;> simp [DataW.trod, he] at h
      rfl
  · exact func_of_trod he (by simpa using hk) h
  · cases hk

theorem tableOk_get {P : Program} : ∀ {ds : List (DataW (List UInt8))} {fs : List (Option FuncId)}, tableOk P ds fs = true → ds.length = fs.length ∧ ∀ (i : Nat) d f, ds[i]? = some d → fs[i]? = some f → entryOk P d f = true
  | [], [], _ => ⟨rfl, fun i d f h => by simp at h⟩
  | [], _ :: _, h => by simp [tableOk] at h
  | _ :: _, [], h => by simp [tableOk] at h
  | d :: ds, f :: fs, h => by
    simp only [tableOk, Bool.and_eq_true] at h
    obtain ⟨h1, h2⟩ := tableOk_get h.2
    refine ⟨by simp [h1], fun i a b ha hb => ?_⟩
    cases i with
    | zero => simp at ha hb; subst ha; subst hb; exact h.1
    | succ i => simp at ha hb; exact h2 i a b ha hb

/-- A table of functions, one cell each: the cells. -/
theorem table_cells {P : Program} {W : World} {name : String} {d : DataW Unit} {g : Nat} {t e : TypeId} {n : Nat} {ps rs : Array TypeId} {va : Bool} {fs : List (Option FuncId)} (h : funcsAt P W name d) (hg : P.globalNamed name = some g) (hty : (P.globals[g]?).map (·.type) = some t)
    (ht : P.underlying t = some (.array n e)) (he : P.underlying e = some (.func ps rs va)) (hc : P.cellsOf e = 1) (hd : aggOk P d.funcsOut fs = true) :
    ∃ c ty fr, W.heap[g]? = some (.cells c ty fr) ∧ fs.length ≤ c.size ∧ ∀ (i : Nat) f, fs[i]? = some f → c[i]? = some (entryV f) := by
  obtain ⟨g', t', cs, fuel, p, h1, h2, h3, h4⟩ := h
  obtain rfl : g = g' := Option.some.inj (hg.symm.trans h1)
  obtain rfl : t = t' := Option.some.inj (hty.symm.trans h2)
  have hcell : ∃ ty fr, W.heap[g]? = some (.cells cs ty fr) := by
    unfold World.var? at h3
    rw [hg] at h3
    simp only [Option.bind_some] at h3
    split at h3
    · rename_i c ty fr e; injection h3 with h3; subst h3; exact ⟨ty, fr, e⟩
    · cases h3
  obtain ⟨ty, fr, hcell⟩ := hcell
  cases fuel with
  | zero => simp [DataW.trod] at h4
  | succ m =>
    rw [DataW.trod_step] at h4
    unfold DataW.trodStep at h4
    simp only [ht, hc, Nat.mul_one] at h4
    split at h4
    · rename_i hlen
      rw [Option.map_eq_some_iff] at h4
      obtain ⟨xs, h5, h6⟩ := h4
      obtain ⟨h7, h8⟩ := mapM_get h5
      have hagg : d.funcsOut = .agg (xs.map (·.1)) := by injection h6 with h6 _; exact h6.symm
      rw [hagg] at hd
      obtain ⟨h9, h10⟩ := tableOk_get (show tableOk P (xs.map (·.1)) fs = true from hd)
      have hxl : xs.length = fs.length := by simpa using h9
      have get : ∀ (i : Nat) f, fs[i]? = some f → cs[i]? = some (entryV f) := by
        intro i f hf
        have hi : i < fs.length := (List.getElem?_eq_some_iff.1 hf).1
        obtain ⟨y, h11, h12⟩ := h8 i i (by rw [List.getElem?_range (by simp at h7; omega)])
        obtain ⟨v, hv⟩ : ∃ v, (cs.toList.drop i).take 1 = [v] := by
          cases hq : (cs.toList.drop i).take 1 with
          | nil =>
            rw [hq] at h12
            cases m with
            | zero => simp [DataW.trod] at h12
            | succ k => simp [DataW.trod, he] at h12
          | cons v l =>
            have : ((cs.toList.drop i).take 1).length ≤ 1 := List.length_take_le _ _
            rw [hq] at this
            cases l with
            | nil => exact ⟨v, rfl⟩
            | cons => simp at this
        rw [hv] at h12
        have hent := entry_of_trod (f := f) (d := y.1) (q := y.2) he h12 (h10 i y.1 f (by rw [List.getElem?_map, h11]; rfl) hf)
        have : (cs.toList.drop i)[0]? = some v := by
          have : ((cs.toList.drop i).take 1)[0]? = some v := by rw [hv]; rfl
          rw [List.getElem?_take_of_lt (by omega)] at this
          exact this
        rw [List.getElem?_drop, Nat.add_zero, Array.getElem?_toList] at this
        rw [this, hent]
      refine ⟨cs, ty, fr, hcell, ?_, get⟩
      by_cases hz : fs.length = 0
      · omega
      · have hlast : ∃ f, fs[fs.length - 1]? = some f := ⟨fs[fs.length - 1]'(by omega), List.getElem?_eq_getElem (by omega)⟩
        obtain ⟨f, hf⟩ := hlast
        have := (Array.getElem?_eq_some_iff.1 (get _ f hf)).1
        omega
    · cases h4

theorem fill_get (l : List AV) (hl : l.length ≤ top) (i : Nat) (hi : i < l.length) : (Tr.fill l 0 .nil).get i = l[i]? := by
  rw [Tr.get_fill' _ _ _ _ (by omega), if_pos (by omega)]; simp

/-- The start, with one table known. -/
noncomputable def tableHeap (g : Nat) (fs : List (Option FuncId)) : Tr AObj := Tr.nil.put g (some (.ro fs.length (Tr.fill (fs.map entryAV) 0 .nil)))
theorem known_table {W : World} {g : Nat} {fs : List (Option FuncId)} {c : Array Value} {ty : TypeId} {fr : Nat × Nat} (hg : g < globs) (hl : fs.length ≤ top) (h1 : W.heap[g]? = some (.cells c ty fr)) (h2 : fs.length ≤ c.size) (h3 : ∀ (i : Nat) f, fs[i]? = some f → c[i]? = some (entryV f)) : Known W (tableHeap g fs) := by
  intro n o hn h
  have hg' : g < top := Nat.lt_of_lt_of_le hg (by unfold globs top; decide)
  unfold tableHeap at h
  rw [Tr.get_put _ _ _ _ hg' hn] at h
  by_cases q : n = g
  · subst q
    rw [if_pos rfl] at h
    injection h with h; subst h
    refine ⟨hg, _, _, c, ty, fr, rfl, h1, h2, fun i hi => ?_⟩
    obtain ⟨f, hf⟩ : ∃ f, fs[i]? = some f := ⟨fs[i], List.getElem?_eq_getElem hi⟩
    refine ⟨entryAV f, entryV f, ?_, entry_oneCell f, h3 i f hf, entry_sim _ f⟩
    rw [fill_get _ (by simpa using hl) i (by simpa using hi), List.getElem?_map, hf]; rfl
  · rw [if_neg q, Tr.get_nil] at h; cases h
end Go.Rn

/- Is a program's code such that every region whose row is drawn is sound? One closed test. -/
namespace Go.Rn

def edgesB (ops : Array Oper) : Bool := ops.toList.zipIdx.all fun x => x.1.after.toList.all fun e => !Region.binds .any e || decide (e.on < x.2)
def clash (ops : Array Oper) (x y : Oper) : Bool :=
  match x.dst with
  | none => false
  | some d => (y.looksAt ops).contains d || y.dst == some d
def slotsB (ops : Array Oper) (b : Array Nat) : Bool :=
  ops.toList.zipIdx.all fun x => ops.toList.zipIdx.all fun y => !(clash ops x.1 y.1) || (Nat.beq x.2 y.2 || !loose b x.2 y.2)
def regB (ops : Array Oper) : Bool := edgesB ops && slotsB ops (CheckFast.beforeF ops)
def codeOkB : Code → Bool
  | .seq a b => codeOkB a && codeOkB b
  | .cond _ a b => codeOkB a && codeOkB b
  | .block _ b => codeOkB b
  | .loop b => codeOkB b
  | .scope b => codeOkB b
  | .region _ ops draw => !draw || regB ops
  | .rangeFunc _ _ a b => codeOkB a && codeOkB b
  | _ => true
def progB (P : Program) : Bool := P.funcs.toList.all fun fn => match fn.body with
  | none => true
  | some c => codeOkB c

theorem zipIdx_mem {ops : Array Oper} {i : Nat} {o : Oper} (h : ops[i]? = some o) : (o, i) ∈ ops.toList.zipIdx := by
  rw [List.mem_zipIdx_iff_getElem?]; simpa using h
theorem regB_ok {ops : Array Oper} (h : regB ops = true) : RegOk ops := by
  unfold regB at h
  obtain ⟨h1, h2⟩ := Bool.and_eq_true_iff.1 h
  rw [CheckFast.beforeF_eq] at h2
  refine ⟨fun j o e ho hm hb => ?_, fun i j x y d hij hx hy hd hor => ?_⟩
  · have := List.all_eq_true.1 (List.all_eq_true.1 h1 _ (zipIdx_mem ho)) e (Array.mem_toList_iff.2 hm)
    simp only [hb, Bool.not_true, Bool.false_or, decide_eq_true_eq] at this
    exact this
  · have := List.all_eq_true.1 (List.all_eq_true.1 h2 _ (zipIdx_mem hx)) _ (zipIdx_mem hy)
    have hc : clash ops x y = true := by
      unfold clash
      rw [hd]
      simp only [Bool.or_eq_true, beq_iff_eq]
      rcases hor with q | q
      · exact .inl (List.contains_iff_mem.2 q)
      · exact .inr q
    simp only [hc, Bool.not_true, Bool.false_or, Bool.or_eq_true, Bool.not_eq_true'] at this
    rcases this with q | q
    · exact absurd (Nat.beq_eq.mp q) hij
    · exact q
theorem codeOkB_ok : ∀ {c : Code}, codeOkB c = true → CodeOk c := by
  intro c
  induction c with
  | seq a b iha ihb => intro h; obtain ⟨h1, h2⟩ := Bool.and_eq_true_iff.1 h; exact ⟨iha h1, ihb h2⟩
  | cond _ a b iha ihb => intro h; obtain ⟨h1, h2⟩ := Bool.and_eq_true_iff.1 h; exact ⟨iha h1, ihb h2⟩
  | block _ b ih => intro h; exact ih h
  | loop b ih => intro h; exact ih h
  | scope b ih => intro h; exact ih h
  | region id ops draw => intro h hd; subst hd; exact regB_ok h
  | rangeFunc _ _ a b iha ihb => intro h; obtain ⟨h1, h2⟩ := Bool.and_eq_true_iff.1 h; exact ⟨iha h1, ihb h2⟩
  | _ => intro _; trivial
theorem progOk_of {P : Program} (hm : P.follows .mixedOrders = true) (h : progB P = true) : ProgOk P := by
  refine ⟨hm, fun f fn body hf hb => ?_⟩
  have := List.all_eq_true.1 h fn (List.mem_of_getElem? (by simpa using hf))
  rw [hb] at this
  exact codeOkB_ok this
theorem noWays (P : Program) (B : Nat) : WaysOk P B (fun _ => 0) := by
  intro n f h
  rcases h with h | h | h <;> cases h
end Go.Rn
