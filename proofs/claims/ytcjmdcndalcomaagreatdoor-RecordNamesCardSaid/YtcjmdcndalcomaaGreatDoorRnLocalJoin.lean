/- Calls that go through maps in every row are local; so are all calls. -/
import Derived.Test.YtcjmdcndalcomaaGreatDoorRnLocalRun
namespace Go.Rn

theorem Agree.weak {A B : Nat → Prop} {m0 : Nat} {s t : AS} (h : ∀ k, B k → A k) (ag : Agree A m0 s t) : Agree B m0 s t :=
  ⟨ag.nx, ag.mark, ag.low, fun k hk hq => ag.is k hk (hq.imp (h k) id)⟩

/-- What one outcome and its fellow have in common. -/
def Fellow {β : Type} (A : Nat → Prop) (m0 : Nat) (s t : AS) (x y : β × AS) : Prop :=
  x.1 = y.1 ∧ ∃ dr dw, Did s x.2 dr dw ∧ Also A m0 x.2 t y.2 dr dw

def Fellows {β : Type} (A : Nat → Prop) (m0 : Nat) (s t : AS) : List (β × AS) → List (β × AS) → Prop
  | [], l => l = []
  | x :: xs, l => ∃ y ys, l = y :: ys ∧ Fellow A m0 s t x y ∧ Fellows A m0 s t xs ys

theorem Fellows.append {β : Type} {A : Nat → Prop} {m0 : Nat} {s t : AS} : ∀ {a b c d : List (β × AS)}, Fellows A m0 s t a b → Fellows A m0 s t c d → Fellows A m0 s t (a ++ c) (b ++ d)
  | [], _, _, _, h, k => by simp only [Fellows] at h; subst h; simpa using k
  | x :: xs, _, _, _, h, k => by
    obtain ⟨y, ys, rfl, f, r⟩ := h
    exact ⟨y, _, rfl, f, Fellows.append r k⟩

/-- All that a list of outcomes has noted beyond what was noted. -/
def Noted {β : Type} (A : Nat → Prop) (m0 : Nat) (s : AS) (l : List (β × AS)) : Prop :=
  ∀ x ∈ l, ∀ dr dw, Did s x.2 dr dw → ∀ k ∈ dr, k < m0 → A k

def LocalL {β : Type} (m : AS → Option (List (β × AS))) : Prop :=
  ∀ s outs, Fine s → m s = some outs → outs ≠ [] ∧ (∀ x ∈ outs, ∃ dr dw, Did s x.2 dr dw) ∧
    ∀ A m0 t, Agree A m0 s t → Noted A m0 s outs → ∃ outs', m t = some outs' ∧ Fellows A m0 s t outs outs'

theorem Did.trans {s s1 s2 : AS} {dr dw dr' dw' : List Nat} (d : Did s s1 dr dw) (d' : Did s1 s2 dr' dw') : Did s s2 (dr' ++ dr) (dw' ++ dw) := by
  refine ⟨by rw [d'.rd, d.rd, List.append_assoc], by rw [d'.wr, d.wr, List.append_assoc], Nat.le_trans d.nx d'.nx, d'.top, d'.mark.trans d.mark, ?_, ?_, ?_⟩
  · intro k hk hn
    have hn1 : k ∉ dw' := fun e => hn (List.mem_append.2 (.inl e))
    have hn2 : k ∉ dw := fun e => hn (List.mem_append.2 (.inr e))
    exact (d'.same k (by rw [d.mark]; exact hk) hn1).trans (d.same k hk hn2)
  · intro k hk
    rcases List.mem_append.1 hk with e | e
    · exact List.mem_append.2 (.inl (d'.sub k e))
    · exact List.mem_append.2 (.inr (d.sub k e))
  · intro k hk ht
    exact (d'.far k hk ht).trans (d.far k (Nat.le_trans d'.nx hk) ht)
theorem Also.trans {A : Nat → Prop} {m0 : Nat} {s1 s2 t t1 t2 : AS} {dr dw dr' dw' : List Nat} (hx : s1.nx ≤ s2.nx) (al : Also A m0 s1 t t1 dr dw) (al' : Also A m0 s2 t1 t2 dr' dw') : Also A m0 s2 t t2 (dr' ++ dr) (dw' ++ dw) := by
  refine ⟨al'.agree, by rw [al'.rd, al.rd, List.append_assoc], by rw [al'.wr, al.wr, List.append_assoc], ?_, ?_⟩
  · intro k hk hn
    have hn1 : k ∉ dw' := fun e => hn (List.mem_append.2 (.inl e))
    have hn2 : k ∉ dw := fun e => hn (List.mem_append.2 (.inr e))
    exact (al'.same k hk hn1).trans (al.same k hk hn2)
  · intro k hk ht
    exact (al'.far k hk ht).trans (al.far k (Nat.le_trans hx hk) ht)

theorem Fellow.prepend {β : Type} {A : Nat → Prop} {m0 : Nat} {s s1 t t1 : AS} {dr dw : List Nat} {x y : β × AS} (d : Did s s1 dr dw) (al : Also A m0 s1 t t1 dr dw)
    (h : Fellow A m0 s1 t1 x y) : Fellow A m0 s t x y := by
  obtain ⟨e, dr', dw', d', al'⟩ := h
  exact ⟨e, _, _, d.trans d', al.trans d'.nx al'⟩
theorem Fellows.prepend {β : Type} {A : Nat → Prop} {m0 : Nat} {s s1 t t1 : AS} {dr dw : List Nat} (d : Did s s1 dr dw) (al : Also A m0 s1 t t1 dr dw) :
    ∀ {a b : List (β × AS)}, Fellows A m0 s1 t1 a b → Fellows A m0 s t a b
  | [], _, h => h
  | x :: xs, _, h => by
    obtain ⟨y, ys, rfl, f, r⟩ := h
    exact ⟨y, ys, rfl, f.prepend d al, Fellows.prepend d al r⟩

/-- A step, then all that comes of it. -/
def andAll {α β : Type} (m : M α) (F : α → AS → Option (List (β × AS))) : AS → Option (List (β × AS)) := fun s =>
  match m s with
  | .ok a s1 => F a s1
  | .bad => none
theorem locL_step {α β : Type} {m : M α} {F : α → AS → Option (List (β × AS))} (hm : Local m) (hF : ∀ a, LocalL (F a)) :
    LocalL (andAll m F) := by
  intro s outs fi h
  unfold andAll at h ⊢
  cases e : m s with
  | bad => simp only [e] at h; cases h
  | ok a s1 =>
    simp only [e] at h
    obtain ⟨dr, dw, d, x⟩ := hm s a s1 fi e
    obtain ⟨ne, g1, g2⟩ := hF a s1 outs (d.fine fi) h
    refine ⟨ne, fun y hy => ?_, fun A m0 t ag hA => ?_⟩
    · obtain ⟨dr', dw', d'⟩ := g1 y hy
      exact ⟨_, _, d.trans d'⟩
    · cases outs with
      | nil => exact absurd rfl ne
      | cons y ys =>
        obtain ⟨dr1, dw1, d1⟩ := g1 y List.mem_cons_self
        have hA1 : ∀ k ∈ dr, k < m0 → A k := fun k hk hlt => hA y List.mem_cons_self _ _ (d.trans d1) k (List.mem_append.2 (.inr hk)) hlt
        obtain ⟨t1, e1, al⟩ := x A m0 t ag hA1
        obtain ⟨outs', e2, fl⟩ := g2 A m0 t1 al.agree (fun z hz dr' dw' d' k hk hlt => hA z hz _ _ (d.trans d') k (List.mem_append.2 (.inl hk)) hlt)
        exact ⟨outs', by simp only [e1]; exact e2, fl.prepend d al⟩

theorem locL_one {β : Type} (b : β) : LocalL (fun s => some [(b, s)]) := by
  intro s outs fi h
  injection h with h; subst h
  have dd : Did s s [] [] := ⟨rfl, rfl, Nat.le_refl _, fi.nx, rfl, fun _ _ _ => rfl, fun _ h => h, fun _ _ _ => rfl⟩
  refine ⟨by simp, fun x hx => ?_, fun A m0 t ag _ => ⟨[(b, t)], rfl, (b, t), [], rfl, ⟨rfl, [], [], dd, ag, rfl, rfl, fun _ _ _ => rfl, fun _ _ _ => rfl⟩, rfl⟩⟩
  simp only [List.mem_singleton] at hx; subst hx
  exact ⟨[], [], dd⟩
theorem locL_none {β : Type} : LocalL (fun _ => (none : Option (List (β × AS)))) := by
  intro s outs _ h; cases h

theorem locL_collect {α β : Type} {F : α → AS → Option (List (β × AS))} : ∀ (l : List α), l ≠ [] → (∀ a ∈ l, LocalL (F a)) → LocalL (fun s => Rn.collect (fun a => F a s) l)
  | [], h, _ => absurd rfl h
  | x :: l, _, hF => by
    intro s outs fi h
    simp only [Rn.collect] at h
    cases e : F x s with
    | none => rw [e] at h; cases h
    | some a =>
      rw [e] at h
      obtain ⟨ne, g1, g2⟩ := hF x List.mem_cons_self s a fi e
      cases l with
      | nil =>
        simp only [Rn.collect, List.append_nil] at h
        injection h with h; subst h
        refine ⟨ne, g1, fun A m0 t ag hA => ?_⟩
        obtain ⟨o', e', fl⟩ := g2 A m0 t ag hA
        exact ⟨o', by simp only [Rn.collect, e', List.append_nil], fl⟩
      | cons z l =>
        cases e2 : Rn.collect (fun a => F a s) (z :: l) with
        | none => rw [e2] at h; cases h
        | some b =>
          rw [e2] at h
          injection h with h; subst h
          obtain ⟨ne', g1', g2'⟩ := locL_collect (F := F) (z :: l) (by simp) (fun a ha => hF a (List.mem_cons_of_mem _ ha)) s b fi e2
          refine ⟨by simp [ne], fun y hy => ?_, fun A m0 t ag hA => ?_⟩
          · rcases List.mem_append.1 hy with hy | hy
            · exact g1 y hy
            · exact g1' y hy
          · obtain ⟨o1, e1', f1⟩ := g2 A m0 t ag (fun y hy => hA y (List.mem_append.2 (.inl hy)))
            obtain ⟨o2, e2', f2⟩ := g2' A m0 t ag (fun y hy => hA y (List.mem_append.2 (.inr hy)))
            refine ⟨o1 ++ o2, ?_, f1.append f2⟩
            have e2'' : Rn.collect (fun a => F a t) (z :: l) = some o2 := e2'
            show Rn.collect (fun a => F a t) (x :: z :: l) = _
            rw [Rn.collect, e1']
            simp only [e2'']

theorem picks_ne {α : Type} (x : α) (l : List α) : picks (x :: l) ≠ [] := by simp [picks]

theorem Local.getIter (fr : AF) (it : Operand) : Local (getIter fr it) := by
  unfold Rn.getIter
  repeat' (first
    | exact Local.pure _ | exact Local.fail | exact Local.lift _ | exact Local.rdN _
    | refine Local.bind ?_ (fun _ => ?_)
    | split)
theorem Local.nextIs (P : Program) {call : Caller} (hcall : ∀ t a, Local (call t a)) (fr : AF) (n : Nat) (ob : AObj) (o : Oper) (ops : Array Oper) (rest : List Oper) (k : List Item) (v : AV) :
    Local (nextIs P call fr n ob o ops rest k v) := by
  unfold Rn.nextIs
  repeat' (first
    | exact Local.pure _ | exact Local.lift _ | exact Local.wrN _ _ | exact Local.aops P hcall _ _ _ _
    | refine Local.bind ?_ (fun _ => ?_))
theorem Local.nextOver (P : Program) {call : Caller} (hcall : ∀ t a, Local (call t a)) (fr : AF) (n m : Nat) (es : List (AV × AV)) (ex : Bool) (o : Oper) (ops : Array Oper) (rest : List Oper) (k : List Item) :
    Local (nextOver P call fr n m es ex o ops rest k) := by
  unfold Rn.nextOver
  repeat' (first
    | exact Local.pure _ | exact Local.lift _ | exact Local.wrN _ _ | exact Local.aops P hcall _ _ _ _
    | refine Local.bind ?_ (fun _ => ?_))

noncomputable section
def nStp (P : Program) (call : Caller) (f : Nat) (x : Stp) : AS → Option (List ((AF × Option Code) × AS)) :=
  match x with
  | .go fr => nframe P call f fr
  | .leave fr j => fun s => some [((fr, j), s)]
def nNext (P : Program) (call : Caller) (f : Nat) (fr : AF) (n m : Nat) (es : List (AV × AV)) (exact : Bool) (o : Oper) (ops : Array Oper) (rest : List Oper) (k : List Item)
    (x : (AV × AV) × List (AV × AV)) : AS → Option (List ((AF × Option Code) × AS)) :=
  andAll (nextIs P call fr n (.iter m es exact x.2 (some x.1)) o ops rest k (.tuple [.bool true, x.1.1, x.1.2])) (nframe P call f)
def nIter (P : Program) (call : Caller) (f : Nat) (fr : AF) (o : Oper) (ops : Array Oper) (rest : List Oper) (k : List Item) (x : Nat × AObj) : AS → Option (List ((AF × Option Code) × AS)) :=
  match x with
  | (n, .iter m es exact left _) => match left with
    | [] => andAll (nextOver P call fr n m es exact o ops rest k) (nframe P call f)
    | y :: ys => fun s => collect (fun x => nNext P call f fr n m es exact o ops rest k x s) (picks (y :: ys))
  | _ => fun _ => none
end
theorem nframe_step {P : Program} {call : Caller} {f : Nat} {fr : AF} (e : asksNext fr = none) :
    nframe P call (f + 1) fr = andAll (astep P call fr) (nStp P call f) := by
  funext s
  simp only [nframe, e, andAll]
  cases astep P call fr s with
  | bad => rfl
  | ok x s1 => cases x <;> rfl
theorem nframe_next {P : Program} {call : Caller} {f : Nat} {fr : AF} {it : Operand} {o : Oper} {ops : Array Oper} {rest : List Oper} {k : List Item} (e : asksNext fr = some (it, o, ops, rest, k)) :
    nframe P call (f + 1) fr = andAll (getIter fr it) (nIter P call f fr o ops rest k) := by
  funext s
  simp only [nframe, e, andAll]
  cases getIter fr it s with
  | bad => rfl
  | ok x s1 =>
    obtain ⟨n, ob⟩ := x
    cases ob with
    | iter m es ex left cur =>
      cases left with
      | nil =>
        simp only [nIter, andAll]
        cases nextOver P call fr n m es ex o ops rest k s1 <;> rfl
      | cons y ys =>
        simp only [nIter]
        congr 1
        funext x
        simp only [nNext, andAll]
        cases nextIs P call fr n (.iter m es ex x.2 (some x.1)) o ops rest k (.tuple [.bool true, x.1.1, x.1.2]) s1 <;> rfl
    | _ => rfl

theorem locL_nframe (P : Program) {call : Caller} (hcall : ∀ t a, Local (call t a)) : ∀ (f : Nat) (fr : AF), LocalL (nframe P call f fr)
  | 0, fr => locL_none
  | f + 1, fr => by
    cases e : asksNext fr with
    | none =>
      rw [nframe_step e]
      refine locL_step (Local.astep P hcall fr) (fun x => ?_)
      cases x with
      | go fr => exact locL_nframe P hcall f fr
      | leave fr j => exact locL_one (fr, j)
    | some q =>
      obtain ⟨it, o, ops, rest, k⟩ := q
      rw [nframe_next e]
      refine locL_step (Local.getIter fr it) (fun x => ?_)
      obtain ⟨n, ob⟩ := x
      cases ob with
      | iter m es ex left cur =>
        cases left with
        | nil => exact locL_step (Local.nextOver P hcall _ _ _ _ _ _ _ _ _) (fun fr => locL_nframe P hcall f fr)
        | cons y ys =>
          exact locL_collect _ (picks_ne y ys) (fun x _ => locL_step (Local.nextIs P hcall _ _ _ _ _ _ _ _) (fun fr => locL_nframe P hcall f fr))
      | _ => exact locL_none

/-- What is told of outcomes. -/
theorem locL_finishAll (P : Program) (rs : List ResultVar) {m : AS → Option (List ((AF × Option Code) × AS))} (hm : LocalL m) :
    LocalL (fun s => match m s with | some l => finishAll P rs l | none => none) := by
  have key : ∀ (s : AS) (l : List ((AF × Option Code) × AS)) (outs : List (AV × AS)), Fine s → (∀ x ∈ l, ∃ dr dw, Did s x.2 dr dw) → finishAll P rs l = some outs →
      outs.length = l.length ∧ (∀ x ∈ outs, ∃ dr dw, Did s x.2 dr dw) ∧
      (∀ A m0, Noted A m0 s outs → Noted A m0 s l) ∧
      ∀ A m0 t l', Agree A m0 s t → Fellows A m0 s t l l' → Noted A m0 s outs → ∃ outs', finishAll P rs l' = some outs' ∧ Fellows A m0 s t outs outs' := by
    intro s l
    induction l with
    | nil =>
      intro outs fi _ h
      simp only [finishAll] at h; injection h with h; subst h
      refine ⟨rfl, fun x hx => (by cases hx), fun A m0 _ x hx => (by cases hx), fun A m0 t l' _ fl _ => ?_⟩
      simp only [Fellows] at fl; subst fl
      exact ⟨[], rfl, rfl⟩
    | cons x l ih =>
      obtain ⟨⟨fr, j⟩, sx⟩ := x
      intro outs fi hd h
      simp only [finishAll] at h
      obtain ⟨dr, dw, d⟩ := hd _ List.mem_cons_self
      cases e : finish P rs fr j sx with
      | bad => rw [e] at h; cases h
      | ok v s1 =>
        rw [e] at h
        cases e2 : finishAll P rs l with
        | none => simp only [e2] at h; cases h
        | some r =>
          simp only [e2] at h; injection h with h; subst h
          obtain ⟨hl, i1, i2, i3⟩ := ih r fi (fun x hx => hd x (List.mem_cons_of_mem _ hx)) e2
          obtain ⟨dr', dw', d', x'⟩ := Local.finish P rs fr j sx v s1 (d.fine fi) e
          refine ⟨by simp [hl], fun y hy => ?_, fun A m0 hN y hy => ?_, fun A m0 t l' ag fl hN => ?_⟩
          · rcases List.mem_cons.1 hy with rfl | hy
            · exact ⟨_, _, d.trans d'⟩
            · exact i1 y hy
          · rcases List.mem_cons.1 hy with rfl | hy
            · intro dr1 dw1 d1 k hk hlt
              exact hN (v, s1) List.mem_cons_self _ _ (d1.trans d') k (List.mem_append.2 (.inr hk)) hlt
            · exact i2 A m0 (fun z hz => hN z (List.mem_cons_of_mem _ hz)) y hy
          · obtain ⟨y, ys, rfl, ⟨ey, dr1, dw1, d1, al1⟩, fr'⟩ := fl
            obtain ⟨⟨fr2, j2⟩, ty⟩ := y
            simp only at ey; cases ey
            obtain ⟨outs', e3, fl3⟩ := i3 A m0 t ys ag fr' (fun z hz => hN z (List.mem_cons_of_mem _ hz))
            obtain ⟨t1, e4, al4⟩ := x' A m0 ty al1.agree (fun k hk hlt => hN (v, s1) List.mem_cons_self _ _ (d1.trans d') k (List.mem_append.2 (.inl hk)) hlt)
            refine ⟨(v, t1) :: outs', ?_, (v, t1), outs', rfl, ⟨rfl, _, _, d1.trans d', al1.trans d'.nx al4⟩, fl3⟩
            simp only [finishAll]
            have e4' : finish P rs fr j ty = .ok v t1 := e4
            rw [e4', e3]
  intro s outs fi h
  cases e : m s with
  | none => simp only [e] at h; cases h
  | some l =>
    simp only [e] at h
    obtain ⟨ne, g1, g2⟩ := hm s l fi e
    obtain ⟨hl, i1, i2, i3⟩ := key s l outs fi g1 h
    refine ⟨fun h0 => ne (by rw [h0] at hl; exact List.length_eq_zero_iff.1 hl.symm), i1, fun A m0 t ag hN => ?_⟩
    obtain ⟨l', e', fl⟩ := g2 A m0 t ag (i2 A m0 hN)
    obtain ⟨outs', e2, fl2⟩ := i3 A m0 t l' ag fl hN
    exact ⟨outs', by simp only [e']; exact e2, fl2⟩
end Go.Rn
