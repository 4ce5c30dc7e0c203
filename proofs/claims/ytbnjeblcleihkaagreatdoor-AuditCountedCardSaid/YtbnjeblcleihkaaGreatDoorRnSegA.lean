/- strings.Join, as it is done under names. -/
import Derived.Test.YtbnjeblcleihkaaGreatDoorRnWayA
import Derived.Lib.Join
import Derived.LaidMore
import Derived.LaidHandle
import Derived.OpenShut
import Derived.CheckFast
namespace Go.Rn
open Go.RowKit
structure IsJoin (P : Program) (f : FuncId) : Prop where
  is : ∃ fn body, P.funcs[f]? = some fn ∧ fn.body = some body ∧ (fn.name == "runtime.NumGoroutine") = false
  nils : ∀ (a : Option Addr) (c : Nat) (sep : ByteArray) (w : World), Calls P f #[.slice a 0 c, .string sep] w fun e w' => e = .returned (.string ⟨#[]⟩) ∧ w' = w
  rows : ∀ (bk o c : Nat) (xs : List ByteArray) (sep : ByteArray) (w : World), (∀ (j : Nat) x, xs[j]? = some x → w.cell? ⟨bk, o + j, none⟩ = some (.string x)) → bk < w.heap.size → xs.length ≤ 140737488355328 → xs.length ≤ c →
    (Lib.join (xs.map (·.data.toList)) sep.data.toList).length ≤ 140737488355328 →
    Calls P f #[.slice (some ⟨bk, o, none⟩) xs.length c, .string sep] w fun e w' => e = .returned (.string ⟨(Lib.join (xs.map (·.data.toList)) sep.data.toList).toArray⟩) ∧ Below w.heap.size w w'
theorem joinTexts_eq (sep : List UInt8) : ∀ l : List (List UInt8), joinTexts sep l = Lib.join l sep
  | [] => rfl
  | [x] => by simp [joinTexts, Lib.join, List.intercalate]
  | x :: y :: l => by
    have ih := joinTexts_eq sep (y :: l)
    simp only [joinTexts, ih, Lib.join, List.intercalate]
    simp [List.intersperse]
theorem textsOf_sim {ρ : Ren} : ∀ {l : List AV} {ts : List (List UInt8)} {vs : List Value}, textsOf l = some ts → VRs ρ l vs → ∃ xs : List ByteArray, vs = xs.map Value.string ∧ ts = xs.map (·.data.toList)
  | [], ts, vs, h, hv => by
    simp only [textsOf] at h; injection h with h; subst h
    simp only [VRs] at hv; subst hv
    exact ⟨[], rfl, rfl⟩
  | x :: l, ts, vs, h, hv => by
    simp only [VRs] at hv
    obtain ⟨v, us, rfl, h1, h2⟩ := hv
    cases x with
    | str s =>
      simp only [textsOf] at h
      cases e : textsOf l with
      | none => rw [e] at h; cases h
      | some r =>
        rw [e] at h; injection h with h; subst h
        obtain ⟨xs, e1, e2⟩ := textsOf_sim e h2
        simp only [VR] at h1
        exact ⟨s :: xs, by rw [h1, e1]; rfl, by rw [e2]; rfl⟩
    | _ => simp [textsOf] at h
section
variable {P : Program} {B : Base} {ρ : Ren} {w : World} {s s1 : AS}
theorem join_back {f : FuncId} (hj : IsJoin P f) {args : List AV} {vs : Array Value} {x : AV} (fi : Fine s) (r : Rel B ρ s.h w) (hv : VRs ρ args vs.toList) (h : joinStrs args s = .ok x s1) : Back P ((callFunc f vs).run P w) (Came B ρ s s1 w x) := by
  obtain ⟨fn, body, hfn, hbody, hname⟩ := hj.is
  have hcall : (callFunc f vs).run P w = .ok (.enter f vs) w := by
    have hprog : (program).run P w = .ok P w := rfl
    have hn : fn.name ≠ "runtime.NumGoroutine" := by simpa using hname
    simp only [callFunc, Sem.run_bind, hprog, Result.andThen_ok, hfn, hname, hbody]
    simp
  rw [hcall]
  unfold joinStrs at h
  split at h
  · rename_i a n c sep
    obtain ⟨vs⟩ := vs
    simp only [VRs] at hv
    obtain ⟨sv, l1, rfl, hsv, pv, l2, rfl, hpv, rfl⟩ := hv
    simp only [VR] at hpv
    subst hpv
    obtain ⟨_, sa, h1, h2⟩ := M.bind_inv h
    have hsa : s = sa ∧ Nat.ble n (capLow n c) = true := by
      cases q : Nat.ble n (capLow n c) with
      | false => rw [q] at h1; cases h1
      | true => rw [q] at h1; exact ⟨(pure_inv (show M.pure () s = .ok _ sa from h1)).2.symm, rfl⟩
    obtain ⟨hsa, hle⟩ := hsa
    subst hsa
    have hcap := ble_true.1 hle
    obtain ⟨l, sb, h3, h4⟩ := M.bind_inv h2
    obtain ⟨ts, sc, h5, h6⟩ := M.bind_inv h4
    obtain ⟨h7, rfl⟩ := lift_inv h5
    obtain ⟨_, sd, h8, h9⟩ := M.bind_inv h6
    have hsd : sc = sd ∧ Nat.ble ((joinTexts sep.data.toList ts).length + n) 1048576 = true := by
      cases q : Nat.ble ((joinTexts sep.data.toList ts).length + n) 1048576 with
      | false => rw [q] at h8; cases h8
      | true => rw [q] at h8; exact ⟨(pure_inv (show M.pure () sc = .ok _ sd from h8)).2.symm, rfl⟩
    obtain ⟨hsd, hsz⟩ := hsd
    subst hsd
    have hsz' := ble_true.1 hsz
    obtain ⟨rfl, rfl⟩ := pure_inv h9
    have grow : ∀ w', Below w.heap.size w w' → Grew w w' := fun w' hb => ⟨hb.os, hb.tape, hb.output, hb.size, fun k hk => hb.block k hk⟩
    have fin : ∀ (hh : s1.h = s.h) (hnx : s1.nx = s.nx) (z : Value) (w' : World), z = .string ⟨(joinTexts sep.data.toList ts).toArray⟩ → Below w.heap.size w w' → ∃ v, Ending.returned z = .returned v ∧ Came B ρ s s1 w (.str ⟨(joinTexts sep.data.toList ts).toArray⟩) v w' := by
      intro hh hnx z w' hz hb
      subst hz
      exact ⟨_, rfl, ρ, by rw [hnx]; exact Ext.refl _ _ _, by simp only [VR], by rw [hh]; exact r.grew (grow w' hb), (grow w' hb).below r.size⟩
    have zero : ∀ (hh : s1.h = s.h) (hnx : s1.nx = s.nx) (ad : Option Addr) (cc : Nat), sv = .slice ad 0 cc → ts = [] → Calls P f #[sv, .string sep] w fun e w' => ∃ v, e = .returned v ∧ Came B ρ s s1 w (.str ⟨(joinTexts sep.data.toList ts).toArray⟩) v w' := by
      intro hh hnx ad cc e1 e2
      subst e1; subst e2
      refine Calls.mono (hj.nils ad cc sep w) fun e w' => ?_
      rintro ⟨rfl, rfl⟩
      exact fin hh hnx _ _ rfl (Below.refl _ _)
    obtain ⟨f1, f2, arr, f3, f4⟩ := firstCells_sim (P := P) hsv fi r h3
    cases a with
    | none =>
      obtain ⟨rfl, _, rfl⟩ := slice_none hsv
      have hl : l = [] := by
        have h3' : (M.pure [] : M (List AV)) s = .ok l s1 := by
          cases c <;> exact h3
        exact (pure_inv h3').1
      subst hl
      have : ts = [] := by simp only [textsOf] at h7; injection h7 with h7; exact h7.symm
      exact zero f1 f2 _ _ rfl this
    | some a =>
      obtain ⟨m, o⟩ := a
      obtain ⟨b, N, cc, _, hρ, hval⟩ := slice_some hsv
      have hsv' := hsv
      by_cases hlost : c = .lost
      · subst hlost
        simp only [VR] at hsv'
        obtain ⟨rfl, b2, N2, o2, c2, _, rfl⟩ := hsv'
        have h3' : (withB (Nat.beq 0 0) (M.pure [] : M (List AV))) s = .ok l s1 := h3
        obtain ⟨rfl, _⟩ := pure_inv (withB_inv h3').2
        have : ts = [] := by simp only [textsOf] at h7; injection h7 with h7; exact h7.symm
        exact zero f1 f2 _ _ rfl this
      · have hre : readCells m o (n * 1) s = .ok l s1 := by
          rw [firstCells_some hlost] at h3; exact h3
        have hgood : ∃ b N cc, ρ m = some (b, N) ∧ sv = .slice (some ⟨b, o, none⟩) n cc ∧ n ≤ cc := by
          cases c with
          | known k => simp only [VR] at hsv'; obtain ⟨b, N, e1, e2⟩ := hsv'; exact ⟨b, N, k, e1, e2, by simpa [capLow] using hcap⟩
          | atLeast lo e => simp only [VR] at hsv'; obtain ⟨b, N, k, e1, e2, _, e4, _⟩ := hsv'; exact ⟨b, N, k, e1, e2, e4⟩
          | lost => exact absurd rfl hlost
        obtain ⟨b, N, cc, e1, rfl, e3⟩ := hgood
        obtain ⟨g1, g2, g3, g4, us, g5, g6, g7⟩ := readCells_sim (P := P) fi r hre e1
        obtain ⟨xs, q1, q2⟩ := textsOf_sim h7 g6
        subst q1; subst q2
        have hxl : xs.length = n := by have := g6.length; simp at this; omega
        cases n with
        | zero =>
          have : xs = [] := List.eq_nil_of_length_eq_zero hxl
          subst this
          exact zero f1 f2 _ _ rfl rfl
        | succ n =>
          have hbk : b < w.heap.size := by
            have := g7 0 (Value.string (xs[0]'(by omega))) (by rw [List.getElem?_map, List.getElem?_eq_getElem (by omega)]; rfl)
            simp only [World.cell?] at this
            split at this
            · rename_i cs ty fr e; exact heap_lt e
            · cases this
          have hjl : (Lib.join (xs.map (·.data.toList)) sep.data.toList).length ≤ 140737488355328 := by rw [← joinTexts_eq]; omega
          have hcal := hj.rows b o cc xs sep w (fun j x hx => g7 j _ (by rw [List.getElem?_map, hx]; rfl)) hbk (by omega) (by omega) hjl
          rw [hxl] at hcal
          refine Calls.mono hcal fun e w' => ?_
          rintro ⟨rfl, hb⟩
          exact fin f1 f2 _ _ (by rw [joinTexts_eq]) hb
  · cases h
theorem waysOk3 {way : FuncId → Nat} (hP : ProgOk P) (h3 : ∀ f, way f = 3 → IsJoin P f) (h2 : ∀ f, way f = 2 → IsClone P f) : WaysOk P B way := by
  intro n f hw ih args x s s1 ρ w vs fi r hg hf h hv
  by_cases e : way f = 3
  · unfold fnB at h
    rw [e] at h
    exact join_back (h3 f e) fi r hv h
  · -- the others, as by a way that has no 3
    rcases hw with e1 | e1 | e1
    · unfold fnB at h
      rw [e1] at h
      simp only at h
      cases e2 : P.funcs[f]? with
      | none => rw [e2] at h; cases h
      | some fn =>
        rw [e2] at h
        cases e3 : fn.body with
        | none => simp only [e3] at h; cases h
        | some body =>
          simp only [e3] at h
          cases e4 : (fn.name == "runtime.NumGoroutine") with
          | true => simp only [e4] at h; cases h
          | false =>
            simp only [e4] at h
            exact way1_sim hP.mixed ih (local_arun P way n) e2 e3 e4 (hP.code f fn body e2 e3) fi r hg hf h hv
    · unfold fnB at h
      rw [e1] at h
      have h' : cloneMap args s = .ok x s1 := h
      obtain ⟨σ, w', v, a1, a2, a3, a4, a5⟩ := clone_sim (P := P) fi r hf hv h'
      exact clone_back (h2 f e1) a2 ⟨σ, a1, a3, a4, a5⟩
    · exact absurd e1 e
end
end Go.Rn

namespace Go.Rn
open Go.RowKit
noncomputable section
def arow (P : Program) (call : Caller) (k : Nat) : AF → M Stp :=
  @Nat.rec (fun _ => AF → M Stp) (fun fr => M.pure (.go fr)) (fun _ ih fr => (astep P call fr).bind fun x => @Stp.rec (fun _ => M Stp) ih (fun fr j => M.pure (.leave fr j)) x) k
def subCode : List Nat → Code → Code
  | [], c => c
  | 0 :: l, .seq a _ => subCode l a
  | _ :: l, .seq _ b => subCode l b
  | 0 :: l, .cond _ a _ => subCode l a
  | _ :: l, .cond _ _ b => subCode l b
  | _ :: l, .block _ b => subCode l b
  | _ :: l, .loop b => subCode l b
  | _ :: l, .scope b => subCode l b
  | 0 :: l, .rangeFunc _ _ a _ => subCode l a
  | _ :: l, .rangeFunc _ _ _ b => subCode l b
  | _ :: _, c => c
def heapOf : List Nat → List (Option AObj) → Tr AObj
  | n :: ns, o :: os => (heapOf ns os).put n o
  | _, _ => .nil
def getAll (h : Tr AObj) : List Nat → List (Option AObj)
  | [] => []
  | n :: ns => h.get n :: getAll h ns
def viewOf (ns : List Nat) (r : R Stp) : Option (AF × Nat × List (Option AObj)) :=
  match r with
  | .ok (.go fr) s => some (fr, s.nx, getAll s.h ns)
  | _ => none
def valueOf (P : Program) (rs : List ResultVar) (r : R Stp) : Option AV :=
  match r with
  | .ok (.leave fr j) s => match finish P rs fr j s with
    | .ok v _ => some v
    | .bad => none
  | _ => none
def plainAll : List (Option AObj) → Bool
  | [] => true
  | none :: l => plainAll l
  | some o :: l => match o.plain with
    | true => plainAll l
    | false => false
def lowAll (m : Nat) : List Nat → Bool
  | [] => true
  | n :: l => match Nat.blt n m with
    | true => lowAll m l
    | false => false
def isTrue : Option AV → Bool
  | some (.bool b) => b
  | _ => false
end
theorem plainAll_mem : ∀ {l : List (Option AObj)}, plainAll l = true → ∀ o, some o ∈ l → o.plain = true
  | [], _, o, h => by cases h
  | none :: l, hp, o, h => by
    rcases List.mem_cons.1 h with h | h
    · cases h
    · exact plainAll_mem (l := l) hp o h
  | some q :: l, hp, o, h => by
    unfold plainAll at hp
    split at hp
    · rename_i e
      rcases List.mem_cons.1 h with h | h
      · injection h with h; subst h; exact e
      · exact plainAll_mem hp o h
    · cases hp
theorem lowAll_mem {m : Nat} : ∀ {l : List Nat}, lowAll m l = true → ∀ n ∈ l, n < m
  | [], _, n, h => by cases h
  | a :: l, hp, n, h => by
    unfold lowAll at hp
    split at hp
    · rename_i e
      rcases List.mem_cons.1 h with rfl | h
      · rw [← blt_eq]; exact e
      · exact lowAll_mem hp n h
    · cases hp
theorem heapOf_get {m : Nat} (hm : m ≤ top) {h : Tr AObj} : ∀ {ns : List Nat}, lowAll m ns = true → ∀ k o, k < top → (heapOf ns (getAll h ns)).get k = some o → h.get k = some o ∧ some o ∈ getAll h ns
  | [], _, k, o, _, e => by
    have : (Tr.nil : Tr AObj).get k = some o := e
    rw [Tr.get_nil] at this; cases this
  | n :: ns, hl, k, o, hk, e => by
    have hn : n < top := Nat.lt_of_lt_of_le (lowAll_mem hl n List.mem_cons_self) hm
    have hl' : lowAll m ns = true := by
      unfold lowAll at hl
      split at hl
      · exact hl
      · cases hl
    have e' : ((heapOf ns (getAll h ns)).put n (h.get n)).get k = some o := e
    rw [Tr.get_put _ _ _ _ hn hk] at e'
    by_cases q : k = n
    · rw [if_pos q] at e'
      exact ⟨by rw [q]; exact e', by simp only [getAll, List.mem_cons]; exact .inl e'.symm⟩
    · rw [if_neg q] at e'
      obtain ⟨a, b⟩ := heapOf_get hm hl' k o hk e'
      exact ⟨a, List.mem_cons_of_mem _ b⟩
structure Part (s2 s1 : AS) : Prop where
  nx : s2.nx = s1.nx
  fine : Fine s2
  sub : ∀ k o, k < top → s2.h.get k = some o → s1.h.get k = some o
  plain : ∀ k o, k < top → s2.h.get k = some o → o.plain = true
theorem Rel.part {B : Base} {ρ : Ren} {s1 s2 : AS} {w : World} (r : Rel B ρ s1.h w) (p : Part s2 s1) : Rel B ρ s2.h w := by
  refine ⟨fun n o hn h => r.is n o hn (p.sub n o hn h), fun n m o q b N M hn hm h1 h2 hor => r.one n m o q b N M hn hm (p.sub n o hn h1) (p.sub m q hm h2) hor, fun n m es ex left cur hn h => ?_, r.size,
    fun i j m es ex left cur es' ex' left' cur' hi hj h1 h2 => r.lone i j m es ex left cur es' ex' left' cur' hi hj (p.sub i _ hi h1) (p.sub j _ hj h2),
    r.fz.of (Ren.le_refl _) (fun _ _ _ => rfl) (fun b1 _ hn => hn.sub fun m q hm hq hqr => ⟨q, p.sub m q hm hq, hqr⟩)⟩
  have := p.plain n _ hn h
  simp [AObj.plain] at this
section
variable {P : Program} {B : Base} {ρ : Ren} {w : World} {s s1 : AS} {call : Caller} {b : Frame} {a : Act} {cs : List Frame}
theorem Local.arow (P : Program) {call : Caller} (hcall : ∀ t a, Local (call t a)) : ∀ (k : Nat) (fr : AF), Local (arow P call k fr)
  | 0, fr => Local.pure _
  | k + 1, fr => by
    refine Local.bind (Local.astep P hcall fr) (fun x => ?_)
    cases x with
    | go fr => exact Local.arow P hcall k fr
    | leave fr j => exact Local.pure _
theorem arow_sim (hmix : P.follows .mixedOrders = true) (hc : CallSim P B call) (hl : ∀ t a, Local (call t a)) : ∀ (k : Nat) {ρ : Ren} {w : World} {s s1 : AS} {a : Act} {af : AF} {x : Stp}, Fr ρ af b a → At B ρ s af.nt af.tmps w a → Free s.nx s1.nx ρ →
    arow P call k af s = .ok x s1 → Went P B ρ s s1 w af b cs (lone (b.atR a af.todo) cs w) x
  | 0, ρ, w, s, s1, a, af, x, hfr, hat, hf, h => by
    obtain ⟨rfl, rfl⟩ := pure_inv (show M.pure (.go af) s = .ok x s1 from h)
    exact went_calm hfr hat rfl rfl ⟨rfl, rfl, rfl⟩ hfr.ok trivial (Steps.refl _ _)
  | k + 1, ρ, w, s, s1, a, af, x, hfr, hat, hf, h => by
    obtain ⟨y, s2, h1, h2⟩ := M.bind_inv (show ((astep P call af).bind fun x => @Stp.rec (fun _ => M Stp) (arow P call k) (fun fr j => M.pure (.leave fr j)) x) s = .ok x s1 from h)
    have le1 := (Local.astep P hl af).le hat.fine h1
    have fi2 := (Local.astep P hl af).fine hat.fine h1
    cases y with
    | go fr =>
      have h2' : arow P call k fr s2 = .ok x s1 := h2
      have le2 := (Local.arow P hl k fr).le fi2 h2'
      have w1 := astep_sim (b := b) (cs := cs) hmix hc hl hfr hat (hf.sub (Nat.le_refl _) le2) h1
      exact w1.then_ hfr le1 le2 fun σ a' w' e1 hfr' hat' => arow_sim hmix hc hl k hfr' hat' (hf.next le1 e1) h2'
    | leave fr j =>
      obtain ⟨rfl, rfl⟩ := pure_inv (show M.pure (.leave fr j) s2 = .ok x s1 from h2)
      exact astep_sim hmix hc hl hfr hat hf h1
inductive Leads (P : Program) (call : Caller) : AF → AS → Stp → AS → Prop
  | one {k : Nat} {fr : AF} {s : AS} {x : Stp} {s1 : AS} : arow P call k fr s = .ok x s1 → Leads P call fr s x s1
  | cons {k : Nat} {fr : AF} {s : AS} {fr1 : AF} {s1 s2 : AS} {x : Stp} {s3 : AS} : arow P call k fr s = .ok (.go fr1) s1 → Part s2 s1 → Leads P call fr1 s2 x s3 → Leads P call fr s x s3
theorem Leads.le {fr : AF} {s : AS} {x : Stp} {s1 : AS} (hl : ∀ t a, Local (call t a)) (h : Leads P call fr s x s1) : Fine s → s.nx ≤ s1.nx ∧ Fine s1 := by
  induction h with
  | one e => intro fi; exact ⟨(Local.arow P hl _ _).le fi e, (Local.arow P hl _ _).fine fi e⟩
  | cons e p _ ih =>
    intro fi
    have l1 := (Local.arow P hl _ _).le fi e
    obtain ⟨l2, f2⟩ := ih p.fine
    have := p.nx
    exact ⟨by omega, f2⟩
theorem leads_sim (hmix : P.follows .mixedOrders = true) (hc : CallSim P B call) (hl : ∀ t a, Local (call t a)) {af : AF} {s : AS} {x : Stp} {s1 : AS} (h : Leads P call af s x s1) : ∀ {ρ : Ren} {w : World} {a : Act}, Fr ρ af b a → At B ρ s af.nt af.tmps w a → Free s.nx s1.nx ρ →
    Went P B ρ s s1 w af b cs (lone (b.atR a af.todo) cs w) x := by
  induction h with
  | one e => intro ρ w a hfr hat hf; exact arow_sim hmix hc hl _ hfr hat hf e
  | @cons k fr s fr1 s1 s2 x s3 e p hL ih =>
    intro ρ w a hfr hat hf
    have le1 := (Local.arow P hl k fr).le hat.fine e
    have fi1 := (Local.arow P hl k fr).fine hat.fine e
    obtain ⟨le2, _⟩ := hL.le hl p.fine
    have hn := p.nx
    have w1 := arow_sim (b := b) (cs := cs) hmix hc hl k hfr hat (hf.sub (Nat.le_refl _) (by omega)) e
    refine w1.then_ hfr le1 (by omega) fun σ a' w' e1 hfr' hat' => ?_
    have := ih hfr' ⟨hat'.tr, hat'.rel.part p, hat'.g, hat'.nt, p.fine⟩ (by rw [hn]; exact hf.next le1 e1)
    obtain ⟨τ, a'', w'', g1, g2⟩ := this
    exact ⟨τ, a'', w'', by rw [← hn]; exact g1, g2⟩
theorem fine_of {h : Tr AObj} {nx : Nat} (hb : Nat.ble nx top = true) : Fine ⟨h, nx, 0, [], []⟩ := ⟨Nat.zero_le _, ble_true.1 hb⟩
theorem closed_leads {way : FuncId → Nat} {W : World} {n : Nat} (hP : ProgOk P) (hw : WaysOk P (baseOf W) way) {f : FuncId} {fn : Func} {body : Code} (hfn : P.funcs[f]? = some fn) (hbody : fn.body = some body)
    (hmax : Nat.ble (max fn.ntmps 0) top = true) {h : Tr AObj} {x : AV} (hk : Known W h)
    {s2 s3 : AS} {fr : AF} {j : Option Code} (hL : Leads P (arun P way n) ⟨f, fillArgs [], max fn.ntmps 0, [.code body], [], none⟩ ⟨h, globs, 0, [], []⟩ (.leave fr j) s2) (hfin : finish P fn.results.toList fr j s2 = .ok x s3) :
    Calls P f #[] W fun e w' => ∃ v, e = .returned v ∧ (∃ σ, VR σ x v) ∧ Below W.heap.size W w' := by
  intro cs
  have hl : ∀ t a, Local (arun P way n t a) := local_arun P way n
  have fi : Fine (⟨h, globs, 0, [], []⟩ : AS) := ⟨Nat.zero_le _, (by unfold globs top; decide : globs ≤ top)⟩
  have hok : CodeOk body := hP.code f fn body hfn hbody
  have hmax' := ble_true.1 hmax
  let b : Frame := { (default : Frame) with fn := f, kind := .normal, roundOf := none }
  let a : Act := { tmps := #[] ++ Array.replicate (fn.ntmps - (#[] : Array Value).size) undef, defers := [] }
  have hstart : Frame.enter P f #[] .normal = b.atR a [.code body] := by simp [Frame.enter, Frame.atR, hfn, hbody, b, a]
  have hfr : Fr (startRen W) ⟨f, fillArgs [], max fn.ntmps 0, [.code body], [], none⟩ b a := ⟨rfl, rfl, trivial, rfl, .cons hok .nil⟩
  have hat : At (baseOf W) (startRen W) ⟨h, globs, 0, [], []⟩ (max fn.ntmps 0) (fillArgs []) W a :=
    ⟨fillArgs_sim (args := []) (vs := #[]) (by simp [VRs]) _ hmax', start_rel hk, startRen_g W, hmax', fi⟩
  obtain ⟨σ, a', w', e1, e2, e3, e4, ⟨e5, e5', e5''⟩, e6, e7, e8⟩ := leads_sim (b := b) (cs := cs) hP.mixed (arun_sim hP hw n) hl hL hfr hat (fun k h1 _ => startRen_none W h1)
  obtain ⟨hj, u2, s4, rs, h7, h9, hx⟩ := finish_inv hfin
  have fi2 : Fine s2 := (hL.le hl fi).2
  have fi4 : Fine s4 := (Local.dropDefs _).fine fi2 h7
  have e7' : Leaves j fr.todo := e7
  obtain ⟨d1, d2, w2, d3, d4, d5⟩ := dropDefs_sim (P := P) (fr := b) (cs := cs) fi2 e2.rel e3 h7
  obtain ⟨f1, f2, us, f3, f4⟩ := resultsOf_sim (P := P) (w := w2) e2.tr fi4 d3 h9
  have hout : Steps P (lone (b.atR a' fr.todo) cs w') (lone { b.atR a' fr.todo with mode := .returning } cs w') := by
    rcases hj with rfl | rfl
    · have e : fr.todo = [] := e7'
      rw [e]; exact .one (stepR_end rfl)
    · obtain ⟨k, e⟩ := e7'
      rw [e]; exact .one (stepR_ret rfl)
  have hdrop := d5 { b.atR a' fr.todo with mode := .returning } cs (by simp) rfl
  have hres : (results fn a'.tmps).run P w2 = .ok (oneOrV us) w2 := by
    unfold results
    rw [Array.mapM_eq_mapM_toList]
    simp only [Sem.run_bind, map_eq_pure_bind, Sem.run_pure]
    refine Eq.trans (congrArg (fun r : Result (List Value) => (r.andThen fun a w' => Result.ok a.toArray w').andThen fun a w' => Result.ok (if h : a.size = 1 then a[0] else Value.tuple a) w') f3) ?_
    have : ∀ l : List Value, (Result.ok (if h : l.toArray.size = 1 then l.toArray[0] else Value.tuple l.toArray) w2 : Result Value) = .ok (oneOrV l) w2 := by
      intro l
      match l with
      | [] => rfl
      | [v] => rfl
      | v :: v2 :: l => simp [oneOrV]
    exact this us
  refine ⟨.returned (oneOrV us), w2, { b.atR a' fr.todo with mode := .returning, defers := [] }, ⟨_, rfl, ⟨σ, ?_⟩, (e4.trans d4).below⟩, ?_, rfl, ?_⟩
  · rw [hx]; exact oneOr_sim f4
  · rw [hstart]
    exact Steps.trans e8 (Steps.trans hout hdrop)
  · exact ⟨rfl, rfl, rfl, fn, hfn, hres⟩
end
end Go.Rn

namespace Go.Rn
open Go.RowKit
structure Start (nx0 : Nat) (h0 : Tr AObj) (ρ : Ren) (w : World) : Prop where
  g : RenG ρ
  free : ∀ k, nx0 ≤ k → ρ k = none
  is : ∀ n o, n < top → h0.get n = some o → o.isRo = true ∧ ∃ b N o', ρ n = some (b, N) ∧ w.heap[b]? = some o' ∧ OR ρ N o o'
theorem Start.rel {nx0 : Nat} {h0 : Tr AObj} {ρ : Ren} {w : World} (S : Start nx0 h0 ρ w) : Rel (baseOf w) ρ h0 w := by
  refine ⟨fun n o hn h => ?_, fun n m o p b N M hn hm h1 h2 hor _ _ => ?_, fun n m es ex left cur hn h => ?_, fun _ hk => hk, fun i j m es ex left cur es' ex' left' cur' hi _ h1 _ => ?_, fun n l e => by cases e⟩
  · obtain ⟨hr, b, N, o', h1, h2, h3⟩ := S.is n o hn h
    exact ⟨b, N, o', h1, h2, h3, fun q => by rw [hr] at q; cases q⟩
  · have e1 := (S.is n o hn h1).1
    have e2 := (S.is m p hm h2).1
    rcases hor with q | q
    · rw [e1] at q; cases q
    · rw [e2] at q; cases q
  · have := (S.is n _ hn h).1; cases this
  · have := (S.is i _ hi h1).1; cases this
theorem Start.none (W : World) : Start globs .nil (startRen W) W :=
  ⟨startRen_g W, fun k hk => startRen_none W hk, fun n o _ h => by rw [Tr.get_nil] at h; cases h⟩
section
variable {P : Program} {B : Base} {ρ : Ren} {w : World} {s s1 : AS} {call : Caller}
end
noncomputable section
def eqAV (nx0 : Nat) : AV → AV → Bool
  | .nilFunc, .nilFunc => true
  | .func (.func f) [] [], .func (.func g) [] [] => Nat.beq f g
  | .slice none 0 (.known 0), .slice none 0 (.known 0) => true
  | .rslice a b c, .rslice d e f => and (Nat.beq a d) (and (Nat.beq b e) (and (Nat.beq c f) (Nat.blt d nx0)))
  | x, y => match sameKey x y with
    | some true => true
    | _ => false
def rowSame (nx0 : Nat) (t u : Tr AV) : Nat → Bool
  | 0 => true
  | i + 1 => match t.get i, u.get i with
    | some a, some b => and (eqAV nx0 a b) (rowSame nx0 t u i)
    | _, _ => false
def roSame (nx0 : Nat) : AObj → AObj → Bool
  | .ro m t, .ro n u => and (Nat.beq m n) (rowSame nx0 t u n)
  | .rorow m t, .rorow n u => and (Nat.beq m n) (rowSame nx0 t u n)
  | _, _ => false
def checkAll (nx0 : Nat) (h0 : Tr AObj) : List Nat → M Unit
  | [] => M.pure ()
  | n :: ns => (rdN n).bind fun o => withO (h0.get n) fun p => withB (roSame nx0 o p) <| checkAll nx0 h0 ns
end
theorem Local.checkAll (nx0 : Nat) (h0 : Tr AObj) : ∀ ns, Local (checkAll nx0 h0 ns)
  | [] => Local.pure _
  | n :: ns => Local.bind (Local.rdN n) (fun _ => Local.withO fun _ _ => Local.withB fun _ => Local.checkAll nx0 h0 ns)
theorem eqAV_sim {nx0 : Nat} {ρ : Ren} {a b : AV} {v : Value} (h : eqAV nx0 a b = true) (hv : VR ρ a v) : VR (fun k => if k < nx0 then ρ k else none) b v := by
  unfold eqAV at h
  split at h
  · simp only [VR] at hv ⊢; exact hv
  · rename_i f g
    have : f = g := beqN_true.1 h
    subst this
    simp only [VR, VRs] at hv ⊢; exact hv
  · simp only [VR] at hv ⊢; exact hv
  · obtain ⟨q1, q2⟩ := and_true.1 h
    obtain ⟨q3, q4⟩ := and_true.1 q2
    obtain ⟨q5, q6⟩ := and_true.1 q4
    have e1 := beqN_true.1 q1; have e2 := beqN_true.1 q3; have e3 := beqN_true.1 q5
    subst e1; subst e2; subst e3
    have hlt := (blt_eq _ _).mp q6
    simp only [VR] at hv ⊢
    obtain ⟨b, sh, c, h1, h2⟩ := hv
    exact ⟨b, sh, c, by rw [if_pos hlt]; exact h1, h2⟩
  · split at h
    · rename_i e
      have := sameKey_eq e
      subst this
      unfold sameKey at e
      split at e <;> first | (cases e; done) | (simp only [VR] at hv ⊢; exact hv)
    · cases h
theorem rowSame_get {nx0 : Nat} {t u : Tr AV} : ∀ {n : Nat}, rowSame nx0 t u n = true → ∀ i, i < n → ∃ a b, t.get i = some a ∧ u.get i = some b ∧ eqAV nx0 a b = true
  | 0, _, i, hi => by omega
  | n + 1, h, i, hi => by
    unfold rowSame at h
    split at h
    · rename_i a b e1 e2
      obtain ⟨q1, q2⟩ := and_true.1 h
      by_cases q : i = n
      · subst q; exact ⟨a, b, e1, e2, q1⟩
      · exact rowSame_get q2 i (by omega)
    · cases h
theorem oneCell_of {v : Value} {ρ : Ren} {a : AV} {nx0 : Nat} {b : AV} (h : eqAV nx0 a b = true) (_ : VR ρ a v) : b.oneCell = true := by
  unfold eqAV at h
  split at h
  · rfl
  · rfl
  · rfl
  · rfl
  · split at h
    · rename_i e
      have := sameKey_eq e
      subst this
      unfold sameKey at e
      split at e <;> first | (cases e; done) | rfl
    · cases h
theorem roSame_sim {nx0 N : Nat} {ρ : Ren} {o p : AObj} {o' : Obj} (h : roSame nx0 o p = true) (hO : OR ρ N o o') : p.isRo = true ∧ OR (fun k => if k < nx0 then ρ k else none) N p o' := by
  unfold roSame at h
  split at h
  · rename_i m t n u
    obtain ⟨q1, q2⟩ := and_true.1 h
    have e1 := beqN_true.1 q1
    subst e1
    obtain ⟨c, e, fr, rfl, h1, h2, row⟩ := hO
    refine ⟨rfl, c, e, fr, rfl, h1, h2, fun i hi => ?_⟩
    obtain ⟨x, v, a1, a2, a3, a4⟩ := row i hi
    obtain ⟨a, b, b1, b2, b3⟩ := rowSame_get q2 i hi
    rw [a1] at b1; cases b1
    exact ⟨b, v, b2, oneCell_of b3 a4, a3, eqAV_sim b3 a4⟩
  · rename_i m t n u
    obtain ⟨q1, q2⟩ := and_true.1 h
    have e1 := beqN_true.1 q1
    subst e1
    obtain ⟨c, e, fr, rfl, row⟩ := hO
    refine ⟨rfl, c, e, fr, rfl, fun i hi => ?_⟩
    obtain ⟨x, v, a1, a2, a3, a4⟩ := row i hi
    obtain ⟨a, b, b1, b2, b3⟩ := rowSame_get q2 i hi
    rw [a1] at b1; cases b1
    exact ⟨b, v, b2, oneCell_of b3 a4, a3, eqAV_sim b3 a4⟩
  · cases h
theorem checkAll_inv {nx0 : Nat} {h0 : Tr AObj} : ∀ {ns : List Nat} {s s1 : AS} {u : Unit}, checkAll nx0 h0 ns s = .ok u s1 → s1.h = s.h ∧ s1.nx = s.nx ∧ ∀ n ∈ ns, n < s.nx ∧ ∃ o p, s.h.get n = some o ∧ h0.get n = some p ∧ roSame nx0 o p = true
  | [], s, s1, u, h => by
    obtain ⟨_, rfl⟩ := pure_inv (show M.pure () s = .ok u s1 from h)
    exact ⟨rfl, rfl, fun n hn => by cases hn⟩
  | m :: ns, s, s1, u, h => by
    obtain ⟨o, s2, h1, h2⟩ := M.bind_inv (show ((rdN m).bind fun o => withO (h0.get m) fun p => withB (roSame nx0 o p) <| checkAll nx0 h0 ns) s = .ok u s1 from h)
    obtain ⟨a1, a2, a3, a4⟩ := rdN_same h1
    obtain ⟨p, h3, h4⟩ := withO_inv h2
    obtain ⟨h5, h6⟩ := withB_inv h4
    obtain ⟨b1, b2, b3⟩ := checkAll_inv h6
    refine ⟨b1.trans a3, b2.trans a4, fun n hn => ?_⟩
    rcases List.mem_cons.1 hn with rfl | hn
    · exact ⟨a1, o, p, a2, h3, h5⟩
    · obtain ⟨c1, q1, q2, c2, c3, c4⟩ := b3 n hn
      exact ⟨by rw [← a4]; exact c1, q1, q2, by rw [← a3]; exact c2, c3, c4⟩
end Go.Rn

namespace Go.Rn
open Go.RowKit
def entryOk (P : Program) : DataW (List UInt8) → Option FuncId → Bool
  | .nil, none => true
  | .held (b :: r), some f => (List.range P.funcs.size).filter (fun f => (P.funcs[f]?).any (·.name.toUTF8.data.toList == b :: r)) == [f]
  | _, _ => false
def tableOk (P : Program) : List (DataW (List UInt8)) → List (Option FuncId) → Bool
  | [], [] => true
  | d :: ds, f :: fs => entryOk P d f && tableOk P ds fs
  | _, _ => false
def aggOk (P : Program) (d : DataW (List UInt8)) (fs : List (Option FuncId)) : Bool :=
  match d with
  | .agg ds => tableOk P ds fs
  | _ => false
def entryAV : Option FuncId → AV
  | none => .nilFunc
  | some f => .func (.func f) [] []
def entryV : Option FuncId → Value
  | none => .nilFunc
  | some f => .func (.func f) #[] #[]
theorem entry_sim (ρ : Ren) (f : Option FuncId) : VR ρ (entryAV f) (entryV f) := by
  cases f with
  | none => simp only [entryAV, entryV, VR]
  | some f => simp only [entryAV, entryV, VR, VRs]; exact ⟨rfl, _, _, rfl, rfl, rfl⟩
theorem entry_oneCell (f : Option FuncId) : (entryAV f).oneCell = true := by cases f <;> rfl
theorem mapM_get {α β : Type} {f : α → Option β} : ∀ {l : List α} {r : List β}, l.mapM f = some r → l.length = r.length ∧ ∀ (i : Nat) (x : α), l[i]? = some x → ∃ y, r[i]? = some y ∧ f x = some y
  | [], r, h => by
    simp at h; subst h; exact ⟨rfl, fun i x hx => by simp at hx⟩
  | a :: l, r, h => by
    rw [List.mapM_cons] at h
    cases e : f a with
    | none => simp [e] at h
    | some b =>
      cases e2 : l.mapM f with
      | none => simp [e, e2] at h
      | some bs =>
        simp [e, e2] at h; subst h
        obtain ⟨h1, h2⟩ := mapM_get e2
        refine ⟨by simp [h1], fun i x hx => ?_⟩
        cases i with
        | zero => simp at hx; subst hx; exact ⟨b, rfl, e⟩
        | succ i => simp at hx; obtain ⟨y, h3, h4⟩ := h2 i x hx; exact ⟨y, by simpa using h3, h4⟩
theorem entry_of_trod {P : Program} {w : World} {e : TypeId} {ps rs : Array TypeId} {va : Bool} {fuel : Nat} {v : Value} {d : DataW (List UInt8)} {q : List MemPlace} {f : Option FuncId} (he : P.underlying e = some (.func ps rs va))
    (h : DataW.trod (funcToken P) P w 0 (fun _ => true) true fuel e [v] = some (d, q)) (hk : entryOk P d f = true) : v = entryV f := by
  unfold entryOk at hk
  split at hk
  · cases fuel with
    | zero => simp [DataW.trod] at h
    | succ n =>
      cases v <;> simp [DataW.trod, he] at h
      rfl
  · exact func_of_trod he (by simpa using hk) h
  · cases hk
theorem tableOk_get {P : Program} : ∀ {ds : List (DataW (List UInt8))} {fs : List (Option FuncId)}, tableOk P ds fs = true → ds.length = fs.length ∧ ∀ (i : Nat) d f, ds[i]? = some d → fs[i]? = some f → entryOk P d f = true
  | [], [], _ => ⟨rfl, fun i d f h => by simp at h⟩
  | [], _ :: _, h => by simp [tableOk] at h
  | _ :: _, [], h => by simp [tableOk] at h
  | d :: ds, f :: fs, h => by
    simp only [tableOk, Bool.and_eq_true] at h
    obtain ⟨h1, h2⟩ := tableOk_get h.2
    refine ⟨by simp [h1], fun i a b ha hb => ?_⟩
    cases i with
    | zero => simp at ha hb; subst ha; subst hb; exact h.1
    | succ i => simp at ha hb; exact h2 i a b ha hb
theorem table_cells {P : Program} {W : World} {name : String} {d : DataW Unit} {g : Nat} {t e : TypeId} {n : Nat} {ps rs : Array TypeId} {va : Bool} {fs : List (Option FuncId)} (h : funcsAt P W name d) (hg : P.globalNamed name = some g) (hty : (P.globals[g]?).map (·.type) = some t)
    (ht : P.underlying t = some (.array n e)) (he : P.underlying e = some (.func ps rs va)) (hc : P.cellsOf e = 1) (hct : P.cellsOf t = n) (hd : aggOk P d.funcsOut fs = true) :
    ∃ c ty fr, W.heap[g]? = some (.cells c ty fr) ∧ fs.length = c.size ∧ ∀ (i : Nat) f, fs[i]? = some f → c[i]? = some (entryV f) := by
  obtain ⟨g', t', cs, fuel, p, h1, h2, h3, h4⟩ := h
  obtain rfl : g = g' := Option.some.inj (hg.symm.trans h1)
  obtain rfl : t = t' := Option.some.inj (hty.symm.trans h2)
  have hcell : ∃ ty fr, W.heap[g]? = some (.cells cs ty fr) := by
    unfold World.var? at h3
    rw [hg] at h3
    simp only [Option.bind_some] at h3
    split at h3
    · rename_i c ty fr e; injection h3 with h3; subst h3; exact ⟨ty, fr, e⟩
    · cases h3
  obtain ⟨ty, fr, hcell⟩ := hcell
  cases fuel with
  | zero => simp [DataW.trod] at h4
  | succ m =>
    rw [DataW.trod_step] at h4
    unfold DataW.trodStep at h4
    simp only [ht, hc, Nat.mul_one] at h4
    split at h4
    · rename_i hlen
      rw [Option.map_eq_some_iff] at h4
      obtain ⟨xs, h5, h6⟩ := h4
      obtain ⟨h7, h8⟩ := mapM_get h5
      have hagg : d.funcsOut = .agg (xs.map (·.1)) := by injection h6 with h6 _; exact h6.symm
      rw [hagg] at hd
      obtain ⟨h9, h10⟩ := tableOk_get (show tableOk P (xs.map (·.1)) fs = true from hd)
      have hxl : xs.length = fs.length := by simpa using h9
      have get : ∀ (i : Nat) f, fs[i]? = some f → cs[i]? = some (entryV f) := by
        intro i f hf
        have hi : i < fs.length := (List.getElem?_eq_some_iff.1 hf).1
        obtain ⟨y, h11, h12⟩ := h8 i i (by rw [List.getElem?_range (by simp at h7; omega)])
        obtain ⟨v, hv⟩ : ∃ v, (cs.toList.drop i).take 1 = [v] := by
          cases hq : (cs.toList.drop i).take 1 with
          | nil =>
            rw [hq] at h12
            cases m with
            | zero => simp [DataW.trod] at h12
            | succ k => simp [DataW.trod, he] at h12
          | cons v l =>
            have : ((cs.toList.drop i).take 1).length ≤ 1 := List.length_take_le _ _
            rw [hq] at this
            cases l with
            | nil => exact ⟨v, rfl⟩
            | cons => simp at this
        rw [hv] at h12
        have hent := entry_of_trod (f := f) (d := y.1) (q := y.2) he h12 (h10 i y.1 f (by rw [List.getElem?_map, h11]; rfl) hf)
        have : (cs.toList.drop i)[0]? = some v := by
          have : ((cs.toList.drop i).take 1)[0]? = some v := by rw [hv]; rfl
          rw [List.getElem?_take_of_lt (by omega)] at this
          exact this
        rw [List.getElem?_drop, Nat.add_zero, Array.getElem?_toList] at this
        rw [this, hent]
      refine ⟨cs, ty, fr, hcell, ?_, get⟩
      have hlen' := hlen
      rw [hct] at hlen'
      simp at hlen' h7
      omega
    · cases h4
theorem fill_get (l : List AV) (hl : l.length ≤ top) (i : Nat) (hi : i < l.length) : (Tr.fill l 0 .nil).get i = l[i]? := by
  rw [Tr.get_fill' _ _ _ _ (by omega), if_pos (by omega)]; simp
end Go.Rn

namespace Go.Rn
open Go.RowKit
theorem Start.addRo {nx0 : Nat} {h : Tr AObj} {ρ : Ren} {W : World} {g m : Nat} {t : Tr AV} {c : Array Value} {ty : TypeId} {fr : Nat × Nat} (S : Start nx0 h ρ W) (hgt : g < top) (hρ : ρ g = some (g, c.size)) (hW : W.heap[g]? = some (.cells c ty fr)) (hm : m = c.size)
    (row : ∀ i, i < m → ∃ x v, t.get i = some x ∧ x.oneCell = true ∧ c[i]? = some v ∧ VR ρ x v) : Start nx0 (h.put g (some (.ro m t))) ρ W := by
  refine ⟨S.g, S.free, fun n o hn ho => ?_⟩
  rw [Tr.get_put _ _ _ _ hgt hn] at ho
  by_cases q : n = g
  · subst q
    rw [if_pos rfl] at ho; injection ho with ho; subst ho
    exact ⟨rfl, n, c.size, _, hρ, hW, c, ty, fr, rfl, rfl, hm, row⟩
  · rw [if_neg q] at ho; exact S.is n o hn ho
theorem Start.addRow {nx0 : Nat} {h : Tr AObj} {ρ : Ren} {W : World} {b sh m : Nat} {t : Tr AV} {c : Array Value} {ty : TypeId} {fr : Nat × Nat} (S : Start nx0 h ρ W) (hg : globs ≤ nx0) (ht : nx0 < top) (hW : W.heap[b]? = some (.cells c ty fr))
    (row : ∀ i, i < m → ∃ x v, t.get i = some x ∧ x.oneCell = true ∧ c[sh + i]? = some v ∧ VR ρ x v) : Start (nx0 + 1) (h.put nx0 (some (.rorow m t))) (updR ρ nx0 (b, sh)) W := by
  have hle : ρ.le (updR ρ nx0 (b, sh)) := updR_le (S.free nx0 (Nat.le_refl _))
  refine ⟨fun g hg' => ?_, fun k hk => ?_, fun n o hn ho => ?_⟩
  · obtain ⟨N, e⟩ := S.g g hg'
    exact ⟨N, hle _ _ e⟩
  · rw [updR_ne ρ _ (by omega)]; exact S.free k (by omega)
  · rw [Tr.get_put _ _ _ _ ht hn] at ho
    by_cases q : n = nx0
    · subst q
      rw [if_pos rfl] at ho; injection ho with ho; subst ho
      exact ⟨rfl, b, sh, _, updR_self _ _ _, hW, c, ty, fr, rfl, fun i hi => let ⟨x, v, a1, a2, a3, a4⟩ := row i hi; ⟨x, v, a1, a2, a3, VR.mono hle _ _ a4⟩⟩
    · rw [if_neg q] at ho
      obtain ⟨h1, b', N, o', h2, h3, h4⟩ := S.is n o hn ho
      exact ⟨h1, b', N, o', hle _ _ h2, h3, h4.mono hle⟩
noncomputable section
def fnAV (f : FuncId) : AV := .func (.func f) [] []
def fnV (f : FuncId) : Value := .func (.func f) #[] #[]
def rowsHeap : Nat → List (List FuncId) → Tr AObj → Tr AObj
  | _, [], h => h
  | nx0, fs :: l, h => rowsHeap (nx0 + 1) l (h.put nx0 (some (.rorow fs.length (Tr.fill (fs.map fnAV) 0 .nil))))
def rowAV (nx0 : Nat) : List FuncId → AV
  | [] => .slice none 0 (.known 0)
  | fs => .rslice nx0 0 fs.length
def kindCells : Nat → List (List UInt8 × List FuncId) → List AV
  | _, [] => []
  | nx0, (bs, fs) :: l => .str ⟨bs.toArray⟩ :: rowAV nx0 fs :: kindCells (nx0 + 1) l
end
theorem fn_sim (ρ : Ren) (f : FuncId) : VR ρ (fnAV f) (fnV f) := by
  simp only [fnAV, fnV, VR, VRs]; exact ⟨rfl, _, _, rfl, rfl, rfl⟩
def RowAt (W : World) (a : Nat × Nat) (fs : List FuncId) : Prop := ∃ c ty fr, W.heap[a.1]? = some (.cells c ty fr) ∧ ∀ (j : Nat) f, fs[j]? = some f → c[a.2 + j]? = some (fnV f)
theorem Start.addRows {W : World} : ∀ {l : List (List FuncId)} {nx0 : Nat} {h : Tr AObj} {ρ : Ren} {rows : Nat → Nat × Nat}, Start nx0 h ρ W → globs ≤ nx0 → nx0 + l.length ≤ top → (∀ fs ∈ l, fs.length ≤ top) → (∀ (i : Nat) fs, l[i]? = some fs → RowAt W (rows i) fs) →
    ∃ ρ', Start (nx0 + l.length) (rowsHeap nx0 l h) ρ' W ∧ ρ.le ρ' ∧ (∀ k, k < nx0 → ρ' k = ρ k) ∧ ∀ i, i < l.length → ρ' (nx0 + i) = some (rows i)
  | [], nx0, h, ρ, rows, S, _, _, _, _ => ⟨ρ, S, Ren.le_refl _, fun _ _ => rfl, fun i hi => by simp at hi⟩
  | fs :: l, nx0, h, ρ, rows, S, hg, ht, hlen, hr => by
    obtain ⟨c, ty, fr, h1, h2⟩ := hr 0 fs rfl
    have hfl := hlen fs List.mem_cons_self
    have S1 := S.addRow (m := fs.length) (t := Tr.fill (fs.map fnAV) 0 .nil) (sh := (rows 0).2) hg (by simp at ht; omega) h1 (fun i hi => by
      obtain ⟨f, hf⟩ : ∃ f, fs[i]? = some f := ⟨fs[i], List.getElem?_eq_getElem hi⟩
      refine ⟨fnAV f, fnV f, ?_, rfl, h2 i f hf, fn_sim ρ f⟩
      rw [fill_get _ (by simpa using hfl) i (by simpa using hi), List.getElem?_map, hf]; rfl)
    obtain ⟨ρ', S2, hle, hlow, hat⟩ := Start.addRows (l := l) (rows := fun i => rows (i + 1)) S1 (by omega) (by simp at ht; omega) (fun fs h => hlen fs (List.mem_cons_of_mem _ h)) (fun i fs' h => hr (i + 1) fs' (by simpa using h))
    have hle1 : ρ.le (updR ρ nx0 ((rows 0).1, (rows 0).2)) := updR_le (S.free nx0 (Nat.le_refl _))
    refine ⟨ρ', by rw [List.length_cons, show nx0 + (l.length + 1) = nx0 + 1 + l.length by omega]; exact S2, Ren.le_trans hle1 hle, fun k hk => by rw [hlow k (by omega), updR_ne ρ _ (by omega)], fun i hi => ?_⟩
    cases i with
    | zero => rw [Nat.add_zero, hlow nx0 (by omega), updR_self]
    | succ i => rw [show nx0 + (i + 1) = nx0 + 1 + i by omega]; exact hat i (by simpa using hi)
theorem kindCells_get : ∀ {l : List (List UInt8 × List FuncId)} {nx0 i : Nat} {x : AV}, (kindCells nx0 l)[i]? = some x →
    ∃ j bs fs, l[j]? = some (bs, fs) ∧ ((i = 2 * j ∧ x = .str ⟨bs.toArray⟩) ∨ (i = 2 * j + 1 ∧ x = rowAV (nx0 + j) fs))
  | [], nx0, i, x, h => by simp [kindCells] at h
  | (bs, fs) :: l, nx0, i, x, h => by
    match i with
    | 0 => simp [kindCells] at h; exact ⟨0, bs, fs, rfl, .inl ⟨rfl, h.symm⟩⟩
    | 1 => simp [kindCells] at h; exact ⟨0, bs, fs, rfl, .inr ⟨rfl, h.symm⟩⟩
    | i + 2 =>
      simp [kindCells] at h
      obtain ⟨j, bs', fs', h1, h2⟩ := kindCells_get h
      refine ⟨j + 1, bs', fs', by simpa using h1, ?_⟩
      rcases h2 with ⟨h2, h3⟩ | ⟨h2, h3⟩
      · exact .inl ⟨by omega, h3⟩
      · exact .inr ⟨by omega, by rw [h3]; congr 1; omega⟩
theorem kindCells_length : ∀ {l : List (List UInt8 × List FuncId)} {nx0 : Nat}, (kindCells nx0 l).length = 2 * l.length
  | [], _ => rfl
  | (bs, fs) :: l, nx0 => by simp [kindCells, kindCells_length (l := l)]; omega
def fnsOk (P : Program) : List (DataW (List UInt8)) → List FuncId → Bool
  | [], [] => true
  | d :: ds, f :: fs => entryOk P d (some f) && fnsOk P ds fs
  | _, _ => false
def kindOk (P : Program) : DataW (List UInt8) → List UInt8 × List FuncId → Bool
  | .agg [.lit (.string b), .nil], (bs, []) => b == bs
  | .agg [.lit (.string b), .slice ds []], (bs, f :: fs) => b == bs && fnsOk P ds (f :: fs)
  | _, _ => false
def kindsOk (P : Program) : List (DataW (List UInt8)) → List (List UInt8 × List FuncId) → Bool
  | [], [] => true
  | d :: ds, k :: l => kindOk P d k && kindsOk P ds l
  | _, _ => false
def aggKinds (P : Program) (d : DataW (List UInt8)) (l : List (List UInt8 × List FuncId)) : Bool :=
  match d with
  | .agg ds => kindsOk P ds l
  | _ => false
theorem fnsOk_get {P : Program} : ∀ {ds : List (DataW (List UInt8))} {fs : List FuncId}, fnsOk P ds fs = true → ds.length = fs.length ∧ ∀ (i : Nat) f, fs[i]? = some f → ∃ d, ds[i]? = some d ∧ entryOk P d (some f) = true
  | [], [], _ => ⟨rfl, fun i f h => by simp at h⟩
  | [], _ :: _, h => by simp [fnsOk] at h
  | _ :: _, [], h => by simp [fnsOk] at h
  | d :: ds, f :: fs, h => by
    simp only [fnsOk, Bool.and_eq_true] at h
    obtain ⟨h1, h2⟩ := fnsOk_get h.2
    refine ⟨by simp [h1], fun i g hg => ?_⟩
    cases i with
    | zero => simp at hg; subst hg; exact ⟨d, rfl, h.1⟩
    | succ i => simp at hg; obtain ⟨d', a, b⟩ := h2 i g hg; exact ⟨d', by simpa using a, b⟩
theorem kindsOk_get {P : Program} : ∀ {ds : List (DataW (List UInt8))} {l : List (List UInt8 × List FuncId)}, kindsOk P ds l = true → ds.length = l.length ∧ ∀ (i : Nat) k, l[i]? = some k → ∃ d, ds[i]? = some d ∧ kindOk P d k = true
  | [], [], _ => ⟨rfl, fun i f h => by simp at h⟩
  | [], _ :: _, h => by simp [kindsOk] at h
  | _ :: _, [], h => by simp [kindsOk] at h
  | d :: ds, k :: l, h => by
    simp only [kindsOk, Bool.and_eq_true] at h
    obtain ⟨h1, h2⟩ := kindsOk_get h.2
    refine ⟨by simp [h1], fun i g hg => ?_⟩
    cases i with
    | zero => simp at hg; subst hg; exact ⟨d, rfl, h.1⟩
    | succ i => simp at hg; obtain ⟨d', a, b⟩ := h2 i g hg; exact ⟨d', by simpa using a, b⟩
def RowCell (W : World) (fs : List FuncId) (v : Value) (a : Nat × Nat) : Prop :=
  match fs with
  | [] => v = .slice none 0 0
  | f :: fs => (∃ cap, v = .slice (some ⟨a.1, a.2, none⟩) (f :: fs).length cap) ∧ RowAt W a (f :: fs)
theorem row_of_trod {P : Program} {W : World} {st fe : TypeId} {ps rs : Array TypeId} {va : Bool} {fuel : Nat} {v : Value} {ds : List (DataW (List UInt8))} {q : List MemPlace} {f : FuncId} {fs : List FuncId} (hs : P.underlying st = some (.slice fe)) (hf : P.underlying fe = some (.func ps rs va)) (hc : P.cellsOf fe = 1)
    (h : DataW.trod (funcToken P) P W 0 (fun _ => true) true fuel st [v] = some (.slice ds [], q)) (hk : fnsOk P ds (f :: fs) = true) : ∃ a, RowCell W (f :: fs) v a := by
  obtain ⟨ad, cap, h1, h2, h3⟩ := open_row hs hc h
  obtain ⟨k1, k2⟩ := fnsOk_get hk
  injection h1 with h1 _
  have get : ∀ (i : Nat) g, (f :: fs)[i]? = some g → W.cell? (ad.add i) = some (fnV g) := by
    intro i g hg
    obtain ⟨d, e1, e2⟩ := k2 i g hg
    obtain ⟨u, n, q', e3, e4⟩ := h3 i d e1
    have := entry_of_trod (f := some g) hf e4 e2
    rw [e3, this]; rfl
  have spot : ad.spot = none := by
    have := get 0 f rfl
    cases hsp : ad.spot with
    | none => rfl
    | some s =>
      have e : ad.add 0 = ad := by simp [Addr.add]
      rw [e] at this
      simp only [World.cell?] at this
      split at this
      · simp [hsp] at this
      · cases this
  have had : ad = ⟨ad.block, ad.off, none⟩ := by rw [← spot]
  have hcells : ∃ c ty fr, W.heap[ad.block]? = some (.cells c ty fr) := by
    have := get 0 f rfl
    rw [had] at this
    have e : (Addr.mk ad.block ad.off none).add 0 = ⟨ad.block, ad.off, none⟩ := by simp [Addr.add]
    rw [e] at this
    simp only [World.cell?] at this
    split at this
    · rename_i c ty fr e2; exact ⟨c, ty, fr, e2⟩
    · cases this
  obtain ⟨c, ty, fr, hcells⟩ := hcells
  refine ⟨(ad.block, ad.off), ⟨cap, by rw [h1, ← k1, ← had]⟩, c, ty, fr, hcells, fun j g hg => ?_⟩
  have := get j g hg
  rw [had] at this
  have e : (Addr.mk ad.block ad.off none).add j = ⟨ad.block, ad.off + j, none⟩ := by
    unfold Addr.add
    by_cases q : j = 0
    · subst q; simp
    · rw [if_neg q]
  rw [e] at this
  simp only [World.cell?, hcells] at this
  exact this
theorem kinds_cells {P : Program} {W : World} {name : String} {d : DataW Unit} {g : Nat} {t e ft st fe : TypeId} {n : Nat} {f0 f1 : Field} {ps rs : Array TypeId} {va : Bool} {l : List (List UInt8 × List FuncId)} (h : funcsAt P W name d) (hg : P.globalNamed name = some g) (hty : (P.globals[g]?).map (·.type) = some t)
    (ht : P.underlying t = some (.array n e)) (he : P.underlying e = some (.struct #[f0, f1])) (hc : P.cellsOf e = 2) (h0 : f0.offset = 0 ∧ f0.type = ft) (h1 : f1.offset = 1 ∧ f1.type = st) (hft : P.underlying ft = some .string) (hcs : P.cellsOf ft = 1) (hst : P.underlying st = some (.slice fe)) (hcst : P.cellsOf st = 1)
    (hfe : P.underlying fe = some (.func ps rs va)) (hcf : P.cellsOf fe = 1) (hct : P.cellsOf t = 2 * n) (hd : aggKinds P d.funcsOut l = true) :
    ∃ c ty fr, W.heap[g]? = some (.cells c ty fr) ∧ 2 * l.length = c.size ∧ ∃ rows : Nat → Nat × Nat, ∀ (i : Nat) bs fs, l[i]? = some (bs, fs) → c[2 * i]? = some (.string ⟨bs.toArray⟩) ∧ ∃ v, c[2 * i + 1]? = some v ∧ RowCell W fs v (rows i) := by
  obtain ⟨g', t', cs, fuel, p, k1, k2, k3, k4⟩ := h
  obtain rfl : g = g' := Option.some.inj (hg.symm.trans k1)
  obtain rfl : t = t' := Option.some.inj (hty.symm.trans k2)
  have hcell : ∃ ty fr, W.heap[g]? = some (.cells cs ty fr) := by
    unfold World.var? at k3
    rw [hg] at k3
    simp only [Option.bind_some] at k3
    split at k3
    · rename_i c ty fr e; injection k3 with k3; subst k3; exact ⟨ty, fr, e⟩
    · cases k3
  obtain ⟨ty, fr, hcell⟩ := hcell
  obtain ⟨xs, m, _, hx, hlen, hxl, hel⟩ := DataW.trod_array ht k4
  have hagg : d.funcsOut = .agg (xs.map (·.1)) := by injection hx
  rw [hagg] at hd
  obtain ⟨m1, m2⟩ := kindsOk_get (show kindsOk P (xs.map (·.1)) l = true from hd)
  have hll : l.length = n := by simp at m1; omega
  have each : ∀ (i : Nat) bs fs, l[i]? = some (bs, fs) → ∃ a, cs[2 * i]? = some (.string ⟨bs.toArray⟩) ∧ ∃ v, cs[2 * i + 1]? = some v ∧ RowCell W fs v a := by
    intro i bs fs hi
    have hin : i < n := by have := (List.getElem?_eq_some_iff.1 hi).1; omega
    obtain ⟨dd, e1, e2⟩ := m2 i _ hi
    rw [List.getElem?_map] at e1
    have hy := hel i hin
    cases ey : xs[i]? with
    | none => rw [ey] at e1; cases e1
    | some y =>
      rw [ey] at hy e1
      simp only [Option.map_some, Option.some.injEq] at e1
      rw [hc] at hy
      obtain ⟨y0, y1, mm, r1, r2, r3, r4⟩ := Go.ChangeShapes.trod_struct2 he hy
      rw [h0.1, h0.2, hcs, List.drop_zero] at r3
      rw [h1.1, h1.2, hcst] at r4
      have hl2 : ((cs.toList.drop (i * 2)).take 2).length = 2 := by rw [r2, hc]
      obtain ⟨v0, v1, hv⟩ : ∃ v0 v1, (cs.toList.drop (i * 2)).take 2 = [v0, v1] := by
        match hq : (cs.toList.drop (i * 2)).take 2, hl2 with
        | [a, b], _ => exact ⟨a, b, rfl⟩
      have g0 : cs[2 * i]? = some v0 := by
        have : ((cs.toList.drop (i * 2)).take 2)[0]? = some v0 := by rw [hv]; rfl
        rw [List.getElem?_take_of_lt (by omega), List.getElem?_drop, Nat.add_zero, Array.getElem?_toList, Nat.mul_comm] at this; exact this
      have g1 : cs[2 * i + 1]? = some v1 := by
        have : ((cs.toList.drop (i * 2)).take 2)[1]? = some v1 := by rw [hv]; rfl
        rw [List.getElem?_take_of_lt (by omega), List.getElem?_drop, Array.getElem?_toList, Nat.mul_comm] at this; exact this
      rw [hv] at r3 r4
      have r3' : DataW.trod (funcToken P) P W 0 (fun _ => true) true mm ft [v0] = some y0 := r3
      have r4' : DataW.trod (funcToken P) P W 0 (fun _ => true) true mm st [v1] = some y1 := r4
      obtain ⟨s, s1, s2, _⟩ := DataW.trod_string hft r3'
      injection s1 with s1 _
      have hyy : dd = .agg [y0.1, y1.1] := by rw [← e1, r1]
      rw [hyy] at e2
      have hy0 : y0.1 = .lit (.string s.data.toList) := by rw [s2]
      rw [hy0] at e2
      cases fs with
      | nil =>
        have key : s.data.toList = bs ∧ y1.1 = .nil := by
          unfold kindOk at e2
          split at e2
          · rename_i b bs' heq1 heq2
            cases heq2
            injection heq1 with heq1
            injection heq1 with heq3 heq4
            injection heq4 with heq4 _
            injection heq3 with heq3
            injection heq3 with heq3
            exact ⟨by rw [heq3]; simpa using e2, heq4⟩
          · rename_i heq2; cases heq2
          · cases e2
        obtain ⟨key1, key2⟩ := key
        refine ⟨(0, 0), by rw [g0, s1, ← key1], v1, g1, ?_⟩
        rcases DataW.trod_slice hst r4' with ⟨q1, _⟩ | ⟨a, len, cap, elems, rest, n', _, _, q2, _⟩
        · injection q1
        · rw [q2] at key2; cases key2
      | cons f fs =>
        have key : s.data.toList = bs ∧ ∃ ds, y1.1 = .slice ds [] ∧ fnsOk P ds (f :: fs) = true := by
          unfold kindOk at e2
          split at e2
          · rename_i heq2; cases heq2
          · rename_i b ds bs' f' fs' heq1 heq2
            cases heq2
            injection heq1 with heq1
            injection heq1 with heq3 heq4
            injection heq4 with heq4 _
            injection heq3 with heq3
            injection heq3 with heq3
            obtain ⟨z1, z2⟩ := and_true.1 e2
            exact ⟨by rw [heq3]; simpa using z1, ds, heq4, z2⟩
          · cases e2
        obtain ⟨key1, ds, key2, key3⟩ := key
        obtain ⟨a, ha⟩ := row_of_trod (v := v1) (q := y1.2) hst hfe hcf (by rw [r4', ← key2]) key3
        exact ⟨a, by rw [g0, s1, ← key1], v1, g1, ha⟩
  have each' : ∀ i : Nat, ∃ a, ∀ bs fs, l[i]? = some (bs, fs) → cs[2 * i]? = some (.string ⟨bs.toArray⟩) ∧ ∃ v, cs[2 * i + 1]? = some v ∧ RowCell W fs v a := by
    intro i
    cases e : l[i]? with
    | none => exact ⟨(0, 0), fun bs fs h => by cases h⟩
    | some k =>
      obtain ⟨bs, fs⟩ := k
      obtain ⟨a, ha⟩ := each i bs fs e
      exact ⟨a, fun bs' fs' h => by injection h with h; injection h with q1 q2; subst q1; subst q2; exact ha⟩
  refine ⟨cs, ty, fr, hcell, ?_, fun i => Classical.choose (each' i), fun i bs fs hi => Classical.choose_spec (each' i) bs fs hi⟩
  rw [hct, Array.length_toList] at hlen
  omega
theorem Start.addCells {nx0 : Nat} {h : Tr AObj} {ρ : Ren} {W : World} {g : Nat} {c : Array Value} {ty : TypeId} {fr : Nat × Nat} (S : Start nx0 h ρ W) (low : ∀ k, k < globs → ρ k = startRen W k) (hg : g < globs) (hW : W.heap[g]? = some (.cells c ty fr)) (l : List AV) (hl : l.length ≤ top) (hs : l.length = c.size)
    (row : ∀ (i : Nat) x, l[i]? = some x → x.oneCell = true ∧ ∃ v, c[i]? = some v ∧ VR ρ x v) : Start nx0 (h.put g (some (.ro l.length (Tr.fill l 0 .nil)))) ρ W := by
  refine S.addRo (Nat.lt_of_lt_of_le hg (by unfold globs top; decide)) ?_ hW hs fun i hi => ?_
  · rw [low g hg]; unfold startRen; rw [if_pos hg, hW]
  · obtain ⟨x, hx⟩ : ∃ x, l[i]? = some x := ⟨l[i], List.getElem?_eq_getElem hi⟩
    obtain ⟨h1, v, h2, h3⟩ := row i x hx
    exact ⟨x, v, by rw [fill_get _ hl i hi]; exact hx, h1, h2, h3⟩
theorem kinds_start {W : World} {g : Nat} {l : List (List UInt8 × List FuncId)} {c : Array Value} {ty : TypeId} {fr : Nat × Nat} {rows : Nat → Nat × Nat} (hg : g < globs) (hl1 : globs + l.length ≤ top) (hl2 : 2 * l.length ≤ top) (hl3 : ∀ k ∈ l, k.2.length ≤ top) (hW : W.heap[g]? = some (.cells c ty fr)) (hs : 2 * l.length = c.size)
    (hr : ∀ (i : Nat) bs fs, l[i]? = some (bs, fs) → c[2 * i]? = some (.string ⟨bs.toArray⟩) ∧ ∃ v, c[2 * i + 1]? = some v ∧ RowCell W fs v (rows i)) :
    ∃ ρ, Start (globs + l.length) ((rowsHeap globs (l.map (·.2)) .nil).put g (some (.ro (kindCells globs l).length (Tr.fill (kindCells globs l) 0 .nil)))) ρ W ∧ ∀ k, k < globs → ρ k = startRen W k := by
  have hrow : ∀ (i : Nat) fs, (l.map (·.2))[i]? = some fs → RowAt W (match fs with | [] => (g, 0) | _ => rows i) fs := by
    intro i fs h
    rw [List.getElem?_map] at h
    cases e : l[i]? with
    | none => rw [e] at h; cases h
    | some k =>
      obtain ⟨bs, fs'⟩ := k
      rw [e] at h; simp only [Option.map_some, Option.some.injEq] at h; subst h
      obtain ⟨_, v, _, h3⟩ := hr i bs fs' e
      cases fs' with
      | nil => exact ⟨c, ty, fr, hW, fun j f hj => by simp at hj⟩
      | cons f fs => exact h3.2
  obtain ⟨ρ, S, _, low, at_⟩ := Start.addRows (l := l.map (·.2)) (rows := fun i => match (l.map (·.2))[i]? with | some [] => (g, 0) | _ => rows i) (Start.none W) (Nat.le_refl _) (by simpa using hl1)
    (fun fs h => by
      obtain ⟨k, hk, rfl⟩ := List.mem_map.1 h
      exact hl3 k hk)
    (fun i fs h => by
      have := hrow i fs h
      show RowAt W (match (l.map (·.2))[i]? with | some [] => (g, 0) | _ => rows i) fs
      rw [h]
      cases fs with
      | nil => exact this
      | cons f fs => exact this)
  rw [List.length_map] at S at_
  refine ⟨ρ, S.addCells low hg hW _ (by rw [kindCells_length]; exact hl2) (by rw [kindCells_length]; exact hs) fun i x hx => ?_, low⟩
  obtain ⟨j, bs, fs, h1, h2⟩ := kindCells_get hx
  obtain ⟨h3, v, h4, h5⟩ := hr j bs fs h1
  have hj : j < l.length := (List.getElem?_eq_some_iff.1 h1).1
  rcases h2 with ⟨rfl, rfl⟩ | ⟨rfl, rfl⟩
  · exact ⟨rfl, _, h3, by simp only [VR]⟩
  · cases fs with
    | nil =>
      have hv : v = .slice none 0 0 := h5
      exact ⟨rfl, v, h4, by simp [rowAV, VR, hv]⟩
    | cons f fs =>
      obtain ⟨⟨cap, hv⟩, _⟩ := h5
      have e := at_ j hj
      rw [List.getElem?_map, h1] at e
      exact ⟨rfl, v, h4, by simp only [rowAV, VR]; exact ⟨_, _, cap, e, by rw [hv, Nat.add_zero], fun q => absurd q (by omega)⟩⟩
def intOk (k : IntKind) : DataW Unit → Int → Bool
  | .lit (.int k' n), m => decide (k' = k) && decide (n = m)
  | _, _ => false
def intsOk (k : IntKind) : List (DataW Unit) → List Int → Bool
  | [], [] => true
  | d :: ds, n :: l => intOk k d n && intsOk k ds l
  | _, _ => false
def aggInts (k : IntKind) (d : DataW Unit) (l : List Int) : Bool :=
  match d with
  | .agg ds => intsOk k ds l
  | _ => false
theorem intsOk_get {k : IntKind} : ∀ {ds : List (DataW Unit)} {l : List Int}, intsOk k ds l = true → ds.length = l.length ∧ ∀ (i : Nat) n, l[i]? = some n → ds[i]? = some (.lit (.int k n))
  | [], [], _ => ⟨rfl, fun i f h => by simp at h⟩
  | [], _ :: _, h => by simp [intsOk] at h
  | _ :: _, [], h => by simp [intsOk] at h
  | d :: ds, n :: l, h => by
    simp only [intsOk, Bool.and_eq_true] at h
    obtain ⟨h1, h2⟩ := intsOk_get h.2
    refine ⟨by simp [h1], fun i g hg => ?_⟩
    cases i with
    | zero =>
      simp at hg; subst hg
      have h3 := h.1
      unfold intOk at h3
      split at h3
      · simp only [Bool.and_eq_true, decide_eq_true_eq] at h3
        obtain ⟨rfl, rfl⟩ := h3; rfl
      · cases h3
    | succ i => simp at hg; simpa using h2 i g hg
theorem ints_cells {P : Program} {W : World} {name : String} {d : DataW Unit} {g : Nat} {t e : TypeId} {n : Nat} {k : IntKind} {l : List Int} (h : laidMet P [(name, d)] W) (hg : P.globalNamed name = some g) (hty : (P.globals[g]?).map (·.type) = some t)
    (ht : P.underlying t = some (.array n e)) (he : P.underlying e = some (.int k)) (hc : P.cellsOf e = 1) (hct : P.cellsOf t = n) (hd : aggInts k d l = true) :
    ∃ c ty fr, W.heap[g]? = some (.cells c ty fr) ∧ l.length = c.size ∧ ∀ (i : Nat) m, l[i]? = some m → c[i]? = some (.int k m) := by
  obtain ⟨qs, h1, _, _⟩ := h
  obtain ⟨g', t', cs, fuel, p, q, k1, k2, k3, k4, _⟩ := h1
  obtain rfl : g = g' := Option.some.inj (hg.symm.trans k1)
  obtain rfl : t = t' := Option.some.inj (hty.symm.trans k2)
  have hcell : ∃ ty fr, W.heap[g]? = some (.cells cs ty fr) := by
    unfold World.var? at k3
    rw [hg] at k3
    simp only [Option.bind_some] at k3
    split at k3
    · rename_i c ty fr e; injection k3 with k3; subst k3; exact ⟨ty, fr, e⟩
    · cases k3
  obtain ⟨ty, fr, hcell⟩ := hcell
  obtain ⟨xs, m, _, hx, hlen, hxl, hel⟩ := DataW.trod_array ht k4
  have hagg : d = .agg (xs.map (·.1)) := by injection hx
  rw [hagg] at hd
  obtain ⟨m1, m2⟩ := intsOk_get (show intsOk k (xs.map (·.1)) l = true from hd)
  have hll : l.length = n := by simp at m1; omega
  have get : ∀ (i : Nat) z, l[i]? = some z → cs[i]? = some (.int k z) := by
    intro i z hi
    have hin : i < n := by have := (List.getElem?_eq_some_iff.1 hi).1; omega
    have e1 := m2 i z hi
    rw [List.getElem?_map] at e1
    have hy := hel i hin
    cases ey : xs[i]? with
    | none => rw [ey] at e1; cases e1
    | some y =>
      rw [ey] at hy e1
      simp only [Option.map_some, Option.some.injEq] at e1
      rw [hc, Nat.mul_one] at hy
      obtain ⟨z', z1, z2⟩ := DataW.trod_int he hy
      have z3 : y.1 = .lit (.int k z') := by rw [z2.1]
      rw [z3] at e1
      injection e1 with e1; injection e1 with _ e1
      have : ((cs.toList.drop i).take 1)[0]? = some (.int k z') := by rw [z1]; rfl
      rw [List.getElem?_take_of_lt (by omega), List.getElem?_drop, Nat.add_zero, Array.getElem?_toList] at this
      rw [this, e1]
  refine ⟨cs, ty, fr, hcell, ?_, get⟩
  rw [hct, Array.length_toList] at hlen
  omega
theorem laidVars_mem {P : Program} {W : World} {n : String} {d : DataW Unit} : ∀ {l : List (String × DataW Unit)} {ps : List MemPlace}, DataW.LaidVars P W l ps → (n, d) ∈ l → ∃ qs, DataW.LaidVars P W [(n, d)] qs
  | [], _, _, h => by cases h
  | (m, e) :: l, ps, h, hm => by
    obtain ⟨g, t, cs, fuel, p, q, k1, k2, k3, k4, k5, k6⟩ := h
    rcases List.mem_cons.1 hm with hm | hm
    · injection hm with h1 h2
      subst h1; subst h2
      exact ⟨_, g, t, cs, fuel, p, [], k1, k2, k3, k4, rfl, rfl⟩
    · exact laidVars_mem k5 hm
theorem laidMet_one {P : Program} {W : World} {n : String} {d : DataW Unit} {l : List (String × DataW Unit)} (h : laidMet P l W) (hm : (n, d) ∈ l) : ∃ qs, DataW.LaidVars P W [(n, d)] qs := by
  obtain ⟨ps, h1, _⟩ := h
  exact laidVars_mem h1 hm
theorem ints_cells1 {P : Program} {W : World} {name : String} {d : DataW Unit} {g : Nat} {t e : TypeId} {n : Nat} {k : IntKind} {l : List Int} (h : ∃ qs, DataW.LaidVars P W [(name, d)] qs) (hg : P.globalNamed name = some g) (hty : (P.globals[g]?).map (·.type) = some t)
    (ht : P.underlying t = some (.array n e)) (he : P.underlying e = some (.int k)) (hc : P.cellsOf e = 1) (hct : P.cellsOf t = n) (hd : aggInts k d l = true) :
    ∃ c ty fr, W.heap[g]? = some (.cells c ty fr) ∧ l.length = c.size ∧ ∀ (i : Nat) m, l[i]? = some m → c[i]? = some (.int k m) := by
  obtain ⟨qs, g', t', cs, fuel, p, q, k1, k2, k3, k4, _⟩ := h
  obtain rfl : g = g' := Option.some.inj (hg.symm.trans k1)
  obtain rfl : t = t' := Option.some.inj (hty.symm.trans k2)
  have hcell : ∃ ty fr, W.heap[g]? = some (.cells cs ty fr) := by
    unfold World.var? at k3
    rw [hg] at k3
    simp only [Option.bind_some] at k3
    split at k3
    · rename_i c ty fr e; injection k3 with k3; subst k3; exact ⟨ty, fr, e⟩
    · cases k3
  obtain ⟨ty, fr, hcell⟩ := hcell
  obtain ⟨xs, m, _, hx, hlen, hxl, hel⟩ := DataW.trod_array ht k4
  have hagg : d = .agg (xs.map (·.1)) := by injection hx
  rw [hagg] at hd
  obtain ⟨m1, m2⟩ := intsOk_get (show intsOk k (xs.map (·.1)) l = true from hd)
  have hll : l.length = n := by simp at m1; omega
  have get : ∀ (i : Nat) z, l[i]? = some z → cs[i]? = some (.int k z) := by
    intro i z hi
    have hin : i < n := by have := (List.getElem?_eq_some_iff.1 hi).1; omega
    have e1 := m2 i z hi
    rw [List.getElem?_map] at e1
    have hy := hel i hin
    cases ey : xs[i]? with
    | none => rw [ey] at e1; cases e1
    | some y =>
      rw [ey] at hy e1
      simp only [Option.map_some, Option.some.injEq] at e1
      rw [hc, Nat.mul_one] at hy
      obtain ⟨z', z1, z2⟩ := DataW.trod_int he hy
      have z3 : y.1 = .lit (.int k z') := by rw [z2.1]
      rw [z3] at e1
      injection e1 with e1; injection e1 with _ e1
      have : ((cs.toList.drop i).take 1)[0]? = some (.int k z') := by rw [z1]; rfl
      rw [List.getElem?_take_of_lt (by omega), List.getElem?_drop, Nat.add_zero, Array.getElem?_toList] at this
      rw [this, e1]
  refine ⟨cs, ty, fr, hcell, ?_, get⟩
  rw [hct, Array.length_toList] at hlen
  omega
def strOk : DataW Unit → List UInt8 → Bool
  | .lit (.string b), m => decide (b = m)
  | _, _ => false
def strsOk : List (DataW Unit) → List (List UInt8) → Bool
  | [], [] => true
  | d :: ds, n :: l => strOk d n && strsOk ds l
  | _, _ => false
def aggStrs (d : DataW Unit) (l : List (List UInt8)) : Bool :=
  match d with
  | .agg ds => strsOk ds l
  | _ => false
theorem strsOk_get : ∀ {ds : List (DataW Unit)} {l : List (List UInt8)}, strsOk ds l = true → ds.length = l.length ∧ ∀ (i : Nat) n, l[i]? = some n → ds[i]? = some (.lit (.string n))
  | [], [], _ => ⟨rfl, fun i f h => by simp at h⟩
  | [], _ :: _, h => by simp [strsOk] at h
  | _ :: _, [], h => by simp [strsOk] at h
  | d :: ds, n :: l, h => by
    simp only [strsOk, Bool.and_eq_true] at h
    obtain ⟨h1, h2⟩ := strsOk_get h.2
    refine ⟨by simp [h1], fun i g hg => ?_⟩
    cases i with
    | zero =>
      simp at hg; subst hg
      have h3 := h.1
      unfold strOk at h3
      split at h3
      · simp only [decide_eq_true_eq] at h3
        subst h3; rfl
      · cases h3
    | succ i => simp at hg; simpa using h2 i g hg
theorem strs_cells1 {P : Program} {W : World} {name : String} {d : DataW Unit} {g : Nat} {t e : TypeId} {n : Nat} {l : List (List UInt8)} (h : ∃ qs, DataW.LaidVars P W [(name, d)] qs) (hg : P.globalNamed name = some g) (hty : (P.globals[g]?).map (·.type) = some t)
    (ht : P.underlying t = some (.array n e)) (he : P.underlying e = some .string) (hc : P.cellsOf e = 1) (hct : P.cellsOf t = n) (hd : aggStrs d l = true) :
    ∃ c ty fr, W.heap[g]? = some (.cells c ty fr) ∧ l.length = c.size ∧ ∀ (i : Nat) m, l[i]? = some m → c[i]? = some (.string ⟨m.toArray⟩) := by
  obtain ⟨qs, g', t', cs, fuel, p, q, k1, k2, k3, k4, _⟩ := h
  obtain rfl : g = g' := Option.some.inj (hg.symm.trans k1)
  obtain rfl : t = t' := Option.some.inj (hty.symm.trans k2)
  have hcell : ∃ ty fr, W.heap[g]? = some (.cells cs ty fr) := by
    unfold World.var? at k3
    rw [hg] at k3
    simp only [Option.bind_some] at k3
    split at k3
    · rename_i c ty fr e; injection k3 with k3; subst k3; exact ⟨ty, fr, e⟩
    · cases k3
  obtain ⟨ty, fr, hcell⟩ := hcell
  obtain ⟨xs, m, _, hx, hlen, hxl, hel⟩ := DataW.trod_array ht k4
  have hagg : d = .agg (xs.map (·.1)) := by injection hx
  rw [hagg] at hd
  obtain ⟨m1, m2⟩ := strsOk_get (show strsOk (xs.map (·.1)) l = true from hd)
  have hll : l.length = n := by simp at m1; omega
  have get : ∀ (i : Nat) z, l[i]? = some z → cs[i]? = some (.string ⟨z.toArray⟩) := by
    intro i z hi
    have hin : i < n := by have := (List.getElem?_eq_some_iff.1 hi).1; omega
    have e1 := m2 i z hi
    rw [List.getElem?_map] at e1
    have hy := hel i hin
    cases ey : xs[i]? with
    | none => rw [ey] at e1; cases e1
    | some y =>
      rw [ey] at hy e1
      simp only [Option.map_some, Option.some.injEq] at e1
      rw [hc, Nat.mul_one] at hy
      obtain ⟨z', z1, z2, _⟩ := DataW.trod_string he hy
      have z3 : y.1 = .lit (.string z'.data.toList) := by rw [z2]
      rw [z3] at e1
      injection e1 with e1; injection e1 with e1
      have : ((cs.toList.drop i).take 1)[0]? = some (.string z') := by rw [z1]; rfl
      rw [List.getElem?_take_of_lt (by omega), List.getElem?_drop, Nat.add_zero, Array.getElem?_toList] at this
      rw [this, ← e1]
  refine ⟨cs, ty, fr, hcell, ?_, get⟩
  rw [hct, Array.length_toList] at hlen
  omega
end Go.Rn

namespace Go.Rn
open Go.RowKit
section
variable {P : Program} {B : Base} {ρ : Ren} {w : World} {s s1 : AS} {call : Caller}
theorem calls_of_went {g : FuncId} {fn : Func} {body : Code} {args : List AV} {vs : Array Value} {fr : AF} {j : Option Code} {s2 s3 : AS} {x : AV} (hfn : P.funcs[g]? = some fn) (hbody : fn.body = some body) (hfi : Fine s2)
    (hw : ∀ cs : List Frame, Went P B ρ s s2 w ⟨g, fillArgs args, max fn.ntmps args.length, [.code body], [], none⟩ { (default : Frame) with fn := g, kind := .normal, roundOf := none } cs
      (lone (({ (default : Frame) with fn := g, kind := .normal, roundOf := none } : Frame).atR { tmps := vs ++ Array.replicate (fn.ntmps - vs.size) undef, defers := [] } [.code body]) cs w) (.leave fr j))
    (hfin : finish P fn.results.toList fr j s2 = .ok x s3) : Calls P g vs w fun e w' => ∃ v, e = .returned v ∧ Came B ρ s s3 w x v w' := by
  intro cs
  let b : Frame := { (default : Frame) with fn := g, kind := .normal, roundOf := none }
  let a : Act := { tmps := vs ++ Array.replicate (fn.ntmps - vs.size) undef, defers := [] }
  have hstart : Frame.enter P g vs .normal = b.atR a [.code body] := by simp [Frame.enter, Frame.atR, hfn, hbody, b, a]
  obtain ⟨σ, a', w', e1, e2, e3, e4, ⟨e5, e5', e5''⟩, e6, e7, e8⟩ := hw cs
  obtain ⟨hj, u2, s4, rs, h7, h9, hx⟩ := finish_inv hfin
  have fi4 : Fine s4 := (Local.dropDefs _).fine hfi h7
  have e7' : Leaves j fr.todo := e7
  obtain ⟨d1, d2, w2, d3, d4, d5⟩ := dropDefs_sim (P := P) (fr := b) (cs := cs) hfi e2.rel e3 h7
  obtain ⟨f1, f2, us, f3, f4⟩ := resultsOf_sim (P := P) (w := w2) e2.tr fi4 d3 h9
  have hout : Steps P (lone (b.atR a' fr.todo) cs w') (lone { b.atR a' fr.todo with mode := .returning } cs w') := by
    rcases hj with rfl | rfl
    · have e : fr.todo = [] := e7'
      rw [e]; exact .one (stepR_end rfl)
    · obtain ⟨k, e⟩ := e7'
      rw [e]; exact .one (stepR_ret rfl)
  have hdrop := d5 { b.atR a' fr.todo with mode := .returning } cs (by simp) rfl
  have hres : (results fn a'.tmps).run P w2 = .ok (oneOrV us) w2 := by
    unfold results
    rw [Array.mapM_eq_mapM_toList]
    simp only [Sem.run_bind, map_eq_pure_bind, Sem.run_pure]
    refine Eq.trans (congrArg (fun r : Result (List Value) => (r.andThen fun a w' => Result.ok a.toArray w').andThen fun a w' => Result.ok (if h : a.size = 1 then a[0] else Value.tuple a) w') f3) ?_
    have : ∀ l : List Value, (Result.ok (if h : l.toArray.size = 1 then l.toArray[0] else Value.tuple l.toArray) w2 : Result Value) = .ok (oneOrV l) w2 := by
      intro l
      match l with
      | [] => rfl
      | [v] => rfl
      | v :: v2 :: l => simp [oneOrV]
    exact this us
  refine ⟨.returned (oneOrV us), w2, { b.atR a' fr.todo with mode := .returning, defers := [] }, ⟨_, rfl, ?_⟩, ?_, rfl, ?_⟩
  · exact ⟨σ, by rw [show s3.nx = s2.nx by rw [f2, d1]]; exact e1, by rw [hx]; exact oneOr_sim f4, by rw [f1]; exact d3, e4.trans d4⟩
  · rw [hstart]
    exact Steps.trans e8 (Steps.trans hout hdrop)
  · exact ⟨rfl, rfl, rfl, fn, hfn, hres⟩
theorem aops_part {ops : Array Oper} {nt : Nat} (hc : CallSim P B call) (hl : ∀ t a, Local (call t a)) (b : Frame) (k : List Item) (cs : List Frame) (m : Nat) : ∀ (n i : Nat) (l r : List Oper) {t t1 : Tr AV} {s s1 : AS} {ρ : Ren} {a : Act} {w : World}, l.length = n → ops.toList.drop i = l ++ r →
    At B ρ s nt t w a → Free s.nx s1.nx ρ → aops P call nt ops l t s = .ok t1 s1 →
    Goes P B ρ s s1 nt t1 w a (lone (b.atR a (.inRegion ops (List.range' i (n + m)) :: k)) cs w) (fun a' w' => lone (b.atR a' (.inRegion ops (List.range' (i + n) m) :: k)) cs w')
  | 0, i, l, r, t, t1, s, s1, ρ, a, w, hn, _, hat, _, h => by
    have : l = [] := List.eq_nil_of_length_eq_zero hn
    subst this
    obtain ⟨rfl, rfl⟩ := pure_inv (show M.pure t s = .ok t1 s1 from h)
    exact ⟨ρ, a, w, Ext.refl _ _ _, hat, rfl, Bel.refl _ _, by rw [Nat.zero_add, Nat.add_zero]; exact Steps.refl _ _⟩
  | n + 1, i, l, r, t, t1, s, s1, ρ, a, w, hn, hl', hat, hf, h => by
    cases l with
    | nil => cases hn
    | cons o l =>
      obtain ⟨t2, s2, h1, h2⟩ := M.bind_inv (show ((aone P call nt ops o t).bind (aops P call nt ops l)) s = .ok t1 s1 from h)
      have ho : ops[i]? = some o := by
        have : (ops.toList.drop i)[0]? = some o := by rw [hl']; rfl
        rw [List.getElem?_drop] at this; simpa using this
      have hrest : ops.toList.drop (i + 1) = l ++ r := by
        rw [← List.drop_drop, hl']; rfl
      have le1 : s.nx ≤ s2.nx := (Local.aone P hl nt ops o t).le hat.fine h1
      have fi2 : Fine s2 := (Local.aone P hl nt ops o t).fine hat.fine h1
      have le2 : s2.nx ≤ s1.nx := (Local.aops P hl nt ops l t2).le fi2 h2
      obtain ⟨σ, a', w', e1, e2, e3, e4, e5⟩ := aone_sim hc hl ho hat (hf.sub (Nat.le_refl _) le2) h1 b k cs (List.range' (i + 1) (n + m))
      obtain ⟨τ, a'', w'', f1, f2, f3, f4, f5⟩ := aops_part hc hl b k cs m n (i + 1) l r (by simpa using hn) hrest e2 (hf.next le1 e1) h2
      refine ⟨τ, a'', w'', e1.trans le1 le2 f1, f2, f3.trans e3, e4.trans f4, ?_⟩
      rw [show n + 1 + m = n + m + 1 by omega, List.range'_succ, show i + (n + 1) = i + 1 + n by omega]
      exact Steps.trans e5 f5
noncomputable def wantedA (ops : Array Oper) (o : Oper) (t : Tr AV) : Bool :=
  match o.guard with
  | none => true
  | some g => and (aknown ops t g.1) (awanted ops g t)
theorem wantedA_sim {ops : Array Oper} {o : Oper} {nt : Nat} {t : Tr AV} {a : Act} (ht : TR ρ nt t a.tmps) (h : wantedA ops o t = true) : Region.wanted o (yielded ops a.tmps) = true := by
  unfold wantedA at h
  cases hg : o.guard with
  | none => unfold Region.wanted; rw [hg]
  | some g => rw [hg] at h; obtain ⟨h1, h2⟩ := and_true.1 h; rw [awanted_sim (ops := ops) ht hg h1]; exact h2
inductive Runs (P : Program) (call : Caller) : AF → AS → Stp → AS → Prop
  | one {k : Nat} {fr : AF} {s : AS} {x : Stp} {s1 : AS} : arow P call k fr s = .ok x s1 → Runs P call fr s x s1
  | cons {k : Nat} {fr : AF} {s : AS} {fr1 : AF} {s1 s2 : AS} {x : Stp} {s3 : AS} : arow P call k fr s = .ok (.go fr1) s1 → Part s2 s1 → Runs P call fr1 s2 x s3 → Runs P call fr s x s3
  | call {fr fr' : AF} {s s1 s2 s3 s4 s5 s6 s7 : AS} {x : Stp} {id : Nat} {ops : Array Oper} {pre post : List Oper} {o : Oper} {k : List Item} {f : Operand} {args : Array Operand} {ts : Array TypeId} {g : FuncId} {fn : Func} {body : Code} {vs : List AV} {j : Option Code} {y : AV} {t1 t2 t3 : Tr AV} :
      fr.todo = .code (.region id ops false) :: k → ops.toList = pre ++ o :: post → wantedA ops o t1 = true → o.op = .call ⟨.value f, args, ts⟩ →
      aops P call fr.nt ops pre fr.tmps s = .ok t1 s1 → opd t1 f = some (.func (.func g) [] []) → opds (opd t1) args.toList = some vs →
      P.funcs[g]? = some fn → fn.body = some body → (fn.name == "runtime.NumGoroutine") = false → max fn.ntmps vs.length ≤ top → Part s2 s1 →
      Runs P call ⟨g, fillArgs vs, max fn.ntmps vs.length, [.code body], [], none⟩ s2 (.leave fr' j) s3 → finish P fn.results.toList fr' j s3 = .ok y s4 → Part s5 s4 →
      aput fr.nt t1 o.dst y = some t2 → aops P call fr.nt ops post t2 s5 = .ok t3 s6 → Runs P call { fr with tmps := t3, todo := k } s6 x s7 → Runs P call fr s x s7
theorem Runs.le {fr : AF} {s : AS} {x : Stp} {s1 : AS} (hl : ∀ t a, Local (call t a)) (h : Runs P call fr s x s1) : Fine s → s.nx ≤ s1.nx ∧ Fine s1 := by
  induction h with
  | one e => intro fi; exact ⟨(Local.arow P hl _ _).le fi e, (Local.arow P hl _ _).fine fi e⟩
  | cons e p _ ih =>
    intro fi
    have l1 := (Local.arow P hl _ _).le fi e
    obtain ⟨l2, f2⟩ := ih p.fine
    have := p.nx
    exact ⟨by omega, f2⟩
  | call h1 h2 h3 h4 h5 h6 h7 h8 h9 h10 h11 h12 _ h14 h15 h16 h17 _ ih1 ih2 =>
    intro fi
    have l1 := (Local.aops P hl _ _ _ _).le fi h5
    have n2 := h12.nx
    obtain ⟨l3, f3⟩ := ih1 h12.fine
    have l4 := (Local.finish P _ _ _).le f3 h14
    have n5 := h15.nx
    have l6 := (Local.aops P hl _ _ _ _).le h15.fine h17
    have f6 := (Local.aops P hl _ _ _ _).fine h15.fine h17
    obtain ⟨l7, f7⟩ := ih2 f6
    exact ⟨by omega, f7⟩
theorem runs_sim (hP : ProgOk P) (hc : CallSim P B call) (hl : ∀ t a, Local (call t a)) {af : AF} {s : AS} {x : Stp} {s1 : AS} (h : Runs P call af s x s1) : ∀ {b : Frame} {cs : List Frame} {ρ : Ren} {w : World} {a : Act}, Fr ρ af b a → At B ρ s af.nt af.tmps w a → Free s.nx s1.nx ρ →
    Went P B ρ s s1 w af b cs (lone (b.atR a af.todo) cs w) x := by
  induction h with
  | one e => intro b cs ρ w a hfr hat hf; exact arow_sim hP.mixed hc hl _ hfr hat hf e
  | @cons k fr s fr1 s1 s2 x s3 e p hL ih =>
    intro b cs ρ w a hfr hat hf
    have le1 := (Local.arow P hl k fr).le hat.fine e
    obtain ⟨le2, _⟩ := hL.le hl p.fine
    have hn := p.nx
    have w1 := arow_sim (b := b) (cs := cs) hP.mixed hc hl k hfr hat (hf.sub (Nat.le_refl _) (by omega)) e
    refine w1.then_ hfr le1 (by omega) fun σ a' w' e1 hfr' hat' => ?_
    obtain ⟨τ, a'', w'', g1, g2⟩ := ih (b := b) (cs := cs) hfr' ⟨hat'.tr, hat'.rel.part p, hat'.g, hat'.nt, p.fine⟩ (by rw [hn]; exact hf.next le1 e1)
    exact ⟨τ, a'', w'', by rw [← hn]; exact g1, g2⟩
  | @call fr fr' s s1 s2 s3 s4 s5 s6 s7 x id ops pre post o k f args ts g fn body vs j y t1 t2 t3 h1 h2 h3 h4 h5 h6 h7 h8 h9 h10 h11 h12 hL h14 h15 h16 h17 hL2 ih1 ih2 =>
    intro b cs ρ w a hfr hat hf
    have l1 := (Local.aops P hl fr.nt ops pre fr.tmps).le hat.fine h5
    have f1 := (Local.aops P hl fr.nt ops pre fr.tmps).fine hat.fine h5
    have n2 := h12.nx
    obtain ⟨l3, f3⟩ := hL.le hl h12.fine
    have l4 := (Local.finish P fn.results.toList fr' j).le f3 h14
    have n5 := h15.nx
    have l6 := (Local.aops P hl fr.nt ops post t2).le h15.fine h17
    have f6 := (Local.aops P hl fr.nt ops post t2).fine h15.fine h17
    obtain ⟨l7, f7⟩ := hL2.le hl f6
    have hsz : ops.size = pre.length + (post.length + 1) := by rw [← Array.length_toList, h2]; simp
    have hk : ItemsOk k := by have := hfr.ok; rw [h1] at this; exact this.tail
    obtain ⟨σ, a1, w1, e1, e2, e3, e4, e5⟩ := aops_part hc hl b k cs (post.length + 1) pre.length 0 pre (o :: post) rfl (by rw [List.drop_zero]; exact h2) hat (hf.sub (Nat.le_refl _) (by omega)) h5
    rw [Nat.zero_add] at e5
    have ho : ops[pre.length]? = some o := by rw [← Array.getElem?_toList, h2]; simp
    have hwant : Region.wanted o (yielded ops a1.tmps) = true := wantedA_sim e2.tr h3
    have hd : ∀ c, o.op ≠ .defer c := fun c q => by rw [h4] at q; cases q
    have hev := fun (z : Operand) (v : AV) (hz : opd t1 z = some v) => opd_sim e2.tr e2.g hz
    have hvs := opds_sim hev h7
    have hfv := hev f _ h6
    have hff : a1.eval f = .func (.func g) #[] #[] := by
      simp only [VR, VRs] at hfv
      obtain ⟨_, p, q, e, hp, hq⟩ := hfv
      obtain ⟨p⟩ := p; obtain ⟨q⟩ := q
      have hp' : p = [] := hp
      have hq' : q = [] := hq
      subst hp'; subst hq'
      exact e
    have hargs : VRs σ vs (#[] ++ args.map a1.eval ++ #[] : Array Value).toList := by simpa using hvs
    have hfree1 : Free s2.nx s3.nx σ := by rw [n2]; exact (hf.next l1 e1).sub (Nat.le_refl _) (by omega)
    have hin : ∀ cs', Went P B σ s2 s3 w1 ⟨g, fillArgs vs, max fn.ntmps vs.length, [.code body], [], none⟩ { (default : Frame) with fn := g, kind := .normal, roundOf := none } cs'
        (lone (({ (default : Frame) with fn := g, kind := .normal, roundOf := none } : Frame).atR { tmps := (#[] ++ args.map a1.eval ++ #[]) ++ Array.replicate (fn.ntmps - (#[] ++ args.map a1.eval ++ #[] : Array Value).size) undef, defers := [] } [.code body]) cs' w1) (.leave fr' j) := by
      intro cs'
      exact ih1 (b := { (default : Frame) with fn := g, kind := .normal, roundOf := none }) (cs := cs') ⟨rfl, rfl, trivial, rfl, .cons (hP.code g fn body h8 h9) .nil⟩ ⟨fillArgs_sim hargs _ h11, e2.rel.part h12, e2.g, h11, h12.fine⟩ hfree1
    have hcalls := calls_of_went h8 h9 f3 hin h14
    have hback : Back P ((execOp a1.eval o).run P w1) (Came B σ s2 s4 w1 y) := by
      have hcall : (callFunc g (#[] ++ args.map a1.eval ++ #[])).run P w1 = .ok (.enter g (#[] ++ args.map a1.eval ++ #[])) w1 := by
        have hprog : (program).run P w1 = .ok P w1 := rfl
        have hn : fn.name ≠ "runtime.NumGoroutine" := by simpa using h10
        simp only [callFunc, Sem.run_bind, hprog, Result.andThen_ok, h8, h10, h9]
        simp
      simp only [execOp, h4, resolve, Deferred.ofValue, hff, Sem.run_bind, Sem.run_pure, Result.andThen_ok, invoke, hcall]
      exact hcalls
    obtain ⟨v, w2, ⟨τ, g1, g2, g3, g4⟩, st⟩ := back_steps ho hwant hd hback b k cs (List.range' (pre.length + 1) post.length)
    have hrange : List.range' pre.length (post.length + 1) = pre.length :: List.range' (pre.length + 1) post.length := List.range'_succ
    obtain ⟨q1, q2⟩ := aput_sim (a := a1) (e2.tr.mono g1.le) e2.nt h16 g2
    have ext : Ext s.nx s5.nx ρ τ := by
      have := e1.trans l1 (by omega : s1.nx ≤ s4.nx) (by rw [n2] at g1; exact g1)
      rw [n5]; exact this
    have hat5 : At B τ s5 fr.nt t2 w2 (a1.put o.dst v) := ⟨q1, g3.part h15, e2.g.mono g1.le, e2.nt, h15.fine⟩
    have hf5 : Free s5.nx s6.nx τ := (hf.next (by omega) ext).sub (Nat.le_refl _) (by omega)
    obtain ⟨υ, a3, w3, i1, i2, i3, i4, i5⟩ := aops_sim hc hl b k cs post.length (pre.length + 1) post rfl (by rw [h2, ← List.drop_drop, List.drop_left]; rfl) hat5 hf5 h17
    have whole : Went P B ρ s s6 w fr b cs (lone (b.atR a fr.todo) cs w) (.go { fr with tmps := t3, todo := k }) := by
      refine ⟨υ, a3, w3, ext.trans (by omega) l6 i1, i2, ?_, (e4.trans g4).trans i4, ⟨rfl, rfl, rfl⟩, hk, trivial, ?_⟩
      · rw [i3, q2, e3]; exact hfr.defs.mono (Ren.le_trans ext.le i1.le)
      · rw [h1]
        refine .head stepR_region ?_
        rw [List.range_eq_range', hsz]
        refine Steps.trans e5 ?_
        rw [hrange]
        exact Steps.trans st i5
    exact whole.then_ hfr (by omega) l7 fun σ' a' w' e1' hfr' hat' => ih2 hfr' hat' (hf.next (by omega) e1')
end
end Go.Rn

namespace Go.Rn
open Go.RowKit
noncomputable section
def callView (P : Program) (call : Caller) (ns : List Nat) (fr : AF) (s : AS) (i : Nat) : Option (Tr AV × FuncId × List AV × Nat × List (Option AObj)) :=
  match fr.todo with
  | .code (.region _ ops false) :: _ => match ops.toList.drop i with
    | o :: _ => match o.op with
      | .call ⟨.value f, args, _⟩ => match aops P call fr.nt ops (ops.toList.take i) fr.tmps s with
        | .ok t1 s1 => match wantedA ops o t1, opd t1 f, opds (opd t1) args.toList with
          | true, some (.func (.func g) [] []), some vs => some (t1, g, vs, s1.nx, getAll s1.h ns)
          | _, _, _ => none
        | .bad => none
      | _ => none
    | [] => none
  | _ => none
def postView (P : Program) (call : Caller) (ns : List Nat) (fr : AF) (t1 : Tr AV) (i : Nat) (y : AV) (s : AS) : Option (AF × Nat × List (Option AObj)) :=
  match fr.todo with
  | .code (.region _ ops false) :: k => match ops.toList.drop i with
    | o :: post => match aput fr.nt t1 o.dst y with
      | some t2 => match aops P call fr.nt ops post t2 s with
        | .ok t3 s6 => some ({ fr with tmps := t3, todo := k }, s6.nx, getAll s6.h ns)
        | .bad => none
      | none => none
    | [] => none
  | _ => none
def endView (P : Program) (rs : List ResultVar) (ns : List Nat) (r : R Stp) : Option (AV × Nat × List (Option AObj)) :=
  match r with
  | .ok (.leave fr j) s => match finish P rs fr j s with
    | .ok v s1 => some (v, s1.nx, getAll s1.h ns)
    | .bad => none
  | _ => none
end
section
variable {P : Program} {call : Caller}
def Ends (P : Program) (call : Caller) (rs : List ResultVar) (fr : AF) (s : AS) (ns : List Nat) (y : AV) (nx : Nat) (os : List (Option AObj)) : Prop :=
  ∃ fr' j s3 s4, Runs P call fr s (.leave fr' j) s3 ∧ finish P rs fr' j s3 = .ok y s4 ∧ s4.nx = nx ∧ getAll s4.h ns = os
theorem Ends.last {rs : List ResultVar} {fr : AF} {s : AS} {ns : List Nat} {y : AV} {nx k : Nat} {os : List (Option AObj)} (h : endView P rs ns (arow P call k fr s) = some (y, nx, os)) : Ends P call rs fr s ns y nx os := by
  unfold endView at h
  split at h
  · rename_i fr' j s' e
    split at h
    · rename_i v s1 e2
      injection h with h
      injection h with h1 h
      injection h with h2 h3
      subst h1
      exact ⟨fr', j, s', s1, .one e, e2, h2, h3⟩
    · cases h
  · cases h
theorem Runs.next {k nx : Nat} {fr fr1 : AF} {s : AS} {x : Stp} {s3 : AS} {ns : List Nat} {os : List (Option AObj)} (h : viewOf ns (arow P call k fr s) = some (fr1, nx, os)) (hfi : Fine s) (hl : ∀ t a, Local (call t a)) (hp : plainAll os = true) (hlow : lowAll nx ns = true)
    (hL : Runs P call fr1 ⟨heapOf ns os, nx, 0, [], []⟩ x s3) : Runs P call fr s x s3 := by
  unfold viewOf at h
  split at h
  · rename_i fr' s' e
    injection h with h
    injection h with h1 h
    injection h with h2 h3
    subst h1; subst h2; subst h3
    have fi := (Local.arow P hl k fr).fine hfi e
    refine .cons (s2 := ⟨heapOf ns (getAll s'.h ns), s'.nx, 0, [], []⟩) e ⟨rfl, ⟨Nat.zero_le _, fi.nx⟩, fun k o hk h => (heapOf_get fi.nx hlow k o hk h).1, fun k o hk h => plainAll_mem hp o (heapOf_get fi.nx hlow k o hk h).2⟩ hL
  · cases h
theorem Ends.next {rs : List ResultVar} {k nx nx' : Nat} {fr fr1 : AF} {s : AS} {y : AV} {ns ns' : List Nat} {os os' : List (Option AObj)} (h : viewOf ns (arow P call k fr s) = some (fr1, nx, os)) (hfi : Fine s) (hl : ∀ t a, Local (call t a)) (hp : plainAll os = true) (hlow : lowAll nx ns = true)
    (hL : Ends P call rs fr1 ⟨heapOf ns os, nx, 0, [], []⟩ ns' y nx' os') : Ends P call rs fr s ns' y nx' os' := by
  obtain ⟨fr', j, s3, s4, h1, h2⟩ := hL
  exact ⟨fr', j, s3, s4, h1.next h hfi hl hp hlow, h2⟩
theorem part_of {ns : List Nat} {s1 : AS} (fi : Fine s1) (hp : plainAll (getAll s1.h ns) = true) (hlow : lowAll s1.nx ns = true) : Part ⟨heapOf ns (getAll s1.h ns), s1.nx, 0, [], []⟩ s1 :=
  ⟨rfl, ⟨Nat.zero_le _, fi.nx⟩, fun k o hk h => (heapOf_get fi.nx hlow k o hk h).1, fun k o hk h => plainAll_mem hp o (heapOf_get fi.nx hlow k o hk h).2⟩
theorem Runs.callOf {fr fr6 : AF} {s s7 : AS} {i g nx1 nx4 nx6 : Nat} {t1 : Tr AV} {vs : List AV} {ns1 ns4 ns6 : List Nat} {os1 os4 os6 : List (Option AObj)} {y : AV} {x : Stp} {fn : Func} {body : Code} (hfi : Fine s) (hl : ∀ t a, Local (call t a))
    (h1 : callView P call ns1 fr s i = some (t1, g, vs, nx1, os1)) (hp1 : plainAll os1 = true) (hl1 : lowAll nx1 ns1 = true) (hfn : P.funcs[g]? = some fn) (hbody : fn.body = some body) (hname : (fn.name == "runtime.NumGoroutine") = false) (hmax : Nat.ble (max fn.ntmps vs.length) top = true)
    (hin : Ends P call fn.results.toList ⟨g, fillArgs vs, max fn.ntmps vs.length, [.code body], [], none⟩ ⟨heapOf ns1 os1, nx1, 0, [], []⟩ ns4 y nx4 os4) (hp4 : plainAll os4 = true) (hl4 : lowAll nx4 ns4 = true)
    (h2 : postView P call ns6 fr t1 i y ⟨heapOf ns4 os4, nx4, 0, [], []⟩ = some (fr6, nx6, os6)) (hp6 : plainAll os6 = true) (hl6 : lowAll nx6 ns6 = true)
    (rest : Runs P call fr6 ⟨heapOf ns6 os6, nx6, 0, [], []⟩ x s7) : Runs P call fr s x s7 := by
  unfold callView at h1
  split at h1
  · rename_i id ops k htodo
    split at h1
    · rename_i o post hdrop
      split at h1
      · rename_i f args ts ho
        split at h1
        · rename_i t s1 e1
          split at h1
          · rename_i g' vs' hg e2 e3
            injection h1 with h1
            injection h1 with q1 h1
            injection h1 with q2 h1
            injection h1 with q3 h1
            injection h1 with q4 q5
            subst q1; subst q2; subst q3; subst q4; subst q5
            have hops : ops.toList = ops.toList.take i ++ o :: post := by rw [← hdrop, List.take_append_drop]
            obtain ⟨fr', j, s3, s4, r1, r2, r3, r4⟩ := hin
            subst r3; subst r4
            have f1 := (Local.aops P hl fr.nt ops (ops.toList.take i) fr.tmps).fine hfi e1
            have p1 := part_of f1 hp1 hl1
            obtain ⟨_, f3⟩ := r1.le hl p1.fine
            have f4 := (Local.finish P fn.results.toList fr' j).fine f3 r2
            have p4 := part_of f4 hp4 hl4
            unfold postView at h2
            rw [htodo] at h2
            simp only [hdrop] at h2
            split at h2
            · rename_i t2 e4
              split at h2
              · rename_i t3 s6 e5
                injection h2 with h2
                injection h2 with z1 h2
                injection h2 with z2 z3
                subst z1; subst z2; subst z3
                have f6 := (Local.aops P hl fr.nt ops post t2).fine p4.fine e5
                have p6 := part_of f6 hp6 hl6
                exact .call htodo hops hg ho e1 e2 e3 hfn hbody hname (ble_true.1 hmax) p1 r1 r2 p4 e4 e5 (.cons (k := 0) rfl p6 rest)
              · cases h2
            · cases h2
          · cases h1
        · cases h1
      · cases h1
    · cases h1
  · cases h1
theorem Ends.callOf {rs : List ResultVar} {fr fr6 : AF} {s : AS} {i g nx1 nx4 nx6 nx' : Nat} {t1 : Tr AV} {vs : List AV} {ns1 ns4 ns6 ns' : List Nat} {os1 os4 os6 os' : List (Option AObj)} {y z : AV} {fn : Func} {body : Code} (hfi : Fine s) (hl : ∀ t a, Local (call t a))
    (h1 : callView P call ns1 fr s i = some (t1, g, vs, nx1, os1)) (hp1 : plainAll os1 = true) (hl1 : lowAll nx1 ns1 = true) (hfn : P.funcs[g]? = some fn) (hbody : fn.body = some body) (hname : (fn.name == "runtime.NumGoroutine") = false) (hmax : Nat.ble (max fn.ntmps vs.length) top = true)
    (hin : Ends P call fn.results.toList ⟨g, fillArgs vs, max fn.ntmps vs.length, [.code body], [], none⟩ ⟨heapOf ns1 os1, nx1, 0, [], []⟩ ns4 y nx4 os4) (hp4 : plainAll os4 = true) (hl4 : lowAll nx4 ns4 = true)
    (h2 : postView P call ns6 fr t1 i y ⟨heapOf ns4 os4, nx4, 0, [], []⟩ = some (fr6, nx6, os6)) (hp6 : plainAll os6 = true) (hl6 : lowAll nx6 ns6 = true)
    (rest : Ends P call rs fr6 ⟨heapOf ns6 os6, nx6, 0, [], []⟩ ns' z nx' os') : Ends P call rs fr s ns' z nx' os' := by
  obtain ⟨fr', j, s3, s4, r1, r2⟩ := rest
  exact ⟨fr', j, s3, s4, r1.callOf hfi hl h1 hp1 hl1 hfn hbody hname hmax hin hp4 hl4 h2 hp6 hl6, r2⟩
theorem start_ends {W : World} (hP : ProgOk P) (hc : CallSim P (baseOf W) call) (hl : ∀ t a, Local (call t a)) {f : FuncId} {fn : Func} {body : Code} (hfn : P.funcs[f]? = some fn) (hbody : fn.body = some body)
    (hmax : Nat.ble (max fn.ntmps 0) top = true) {nx0 : Nat} {h : Tr AObj} {ρ : Ren} {x : AV} {ns : List Nat} {nx : Nat} {os : List (Option AObj)} (hnx : Nat.ble nx0 top = true) (S : Start nx0 h ρ W)
    (hE : Ends P call fn.results.toList ⟨f, fillArgs [], max fn.ntmps 0, [.code body], [], none⟩ ⟨h, nx0, 0, [], []⟩ ns x nx os) :
    Calls P f #[] W fun e w' => ∃ v, e = .returned v ∧ (∃ σ, VR σ x v) ∧ Below W.heap.size W w' := by
  obtain ⟨fr', j, s3, s4, r1, r2, _, _⟩ := hE
  have fi : Fine (⟨h, nx0, 0, [], []⟩ : AS) := fine_of hnx
  have hmax' := ble_true.1 hmax
  obtain ⟨_, f3⟩ := r1.le hl fi
  have hw : ∀ cs : List Frame, Went P (baseOf W) ρ ⟨h, nx0, 0, [], []⟩ s3 W ⟨f, fillArgs [], max fn.ntmps ([] : List AV).length, [.code body], [], none⟩ { (default : Frame) with fn := f, kind := .normal, roundOf := none } cs
      (lone (({ (default : Frame) with fn := f, kind := .normal, roundOf := none } : Frame).atR { tmps := #[] ++ Array.replicate (fn.ntmps - (#[] : Array Value).size) undef, defers := [] } [.code body]) cs W) (.leave fr' j) := by
    intro cs
    exact runs_sim hP hc hl r1 (b := { (default : Frame) with fn := f, kind := .normal, roundOf := none }) (cs := cs) ⟨rfl, rfl, trivial, rfl, .cons (hP.code f fn body hfn hbody) .nil⟩
      ⟨fillArgs_sim (args := []) (vs := #[]) (by simp [VRs]) _ hmax', S.rel, S.g, hmax', fi⟩ (fun k h1 _ => S.free k h1)
  refine Calls.mono (calls_of_went hfn hbody f3 hw r2) fun e w' => ?_
  rintro ⟨v, rfl, σ, _, h2, _, h4⟩
  exact ⟨v, rfl, ⟨σ, h2⟩, h4.below⟩
end
end Go.Rn

namespace Go.Rn
def edgesB (ops : Array Oper) : Bool := ops.toList.zipIdx.all fun x => x.1.after.toList.all fun e => !Region.binds .any e || decide (e.on < x.2)
def clash (ops : Array Oper) (x y : Oper) : Bool :=
  match x.dst with
  | none => false
  | some d => (y.looksAt ops).contains d || y.dst == some d
def slotsB (ops : Array Oper) (b : Array Nat) : Bool :=
  ops.toList.zipIdx.all fun x => ops.toList.zipIdx.all fun y => !(clash ops x.1 y.1) || (Nat.beq x.2 y.2 || !loose b x.2 y.2)
def regB (ops : Array Oper) : Bool := edgesB ops && slotsB ops (CheckFast.beforeF ops)
def codeOkB : Code → Bool
  | .seq a b => codeOkB a && codeOkB b
  | .cond _ a b => codeOkB a && codeOkB b
  | .block _ b => codeOkB b
  | .loop b => codeOkB b
  | .scope b => codeOkB b
  | .region _ ops draw => !draw || regB ops
  | .rangeFunc _ _ a b => codeOkB a && codeOkB b
  | _ => true
def progB (P : Program) : Bool := P.funcs.toList.all fun fn => match fn.body with
  | none => true
  | some c => codeOkB c
theorem zipIdx_mem {ops : Array Oper} {i : Nat} {o : Oper} (h : ops[i]? = some o) : (o, i) ∈ ops.toList.zipIdx := by
  rw [List.mem_zipIdx_iff_getElem?]; simpa using h
theorem regB_ok {ops : Array Oper} (h : regB ops = true) : RegOk ops := by
  unfold regB at h
  obtain ⟨h1, h2⟩ := Bool.and_eq_true_iff.1 h
  rw [CheckFast.beforeF_eq] at h2
  refine ⟨fun j o e ho hm hb => ?_, fun i j x y d hij hx hy hd hor => ?_⟩
  · have := List.all_eq_true.1 (List.all_eq_true.1 h1 _ (zipIdx_mem ho)) e (Array.mem_toList_iff.2 hm)
    simp only [hb, Bool.not_true, Bool.false_or, decide_eq_true_eq] at this
    exact this
  · have := List.all_eq_true.1 (List.all_eq_true.1 h2 _ (zipIdx_mem hx)) _ (zipIdx_mem hy)
    have hc : clash ops x y = true := by
      unfold clash
      rw [hd]
      simp only [Bool.or_eq_true, beq_iff_eq]
      rcases hor with q | q
      · exact .inl (List.contains_iff_mem.2 q)
      · exact .inr q
    simp only [hc, Bool.not_true, Bool.false_or, Bool.or_eq_true, Bool.not_eq_true'] at this
    rcases this with q | q
    · exact absurd (Nat.beq_eq.mp q) hij
    · exact q
theorem codeOkB_ok : ∀ {c : Code}, codeOkB c = true → CodeOk c := by
  intro c
  induction c with
  | seq a b iha ihb => intro h; obtain ⟨h1, h2⟩ := Bool.and_eq_true_iff.1 h; exact ⟨iha h1, ihb h2⟩
  | cond _ a b iha ihb => intro h; obtain ⟨h1, h2⟩ := Bool.and_eq_true_iff.1 h; exact ⟨iha h1, ihb h2⟩
  | block _ b ih => intro h; exact ih h
  | loop b ih => intro h; exact ih h
  | scope b ih => intro h; exact ih h
  | region id ops draw => intro h hd; subst hd; exact regB_ok h
  | rangeFunc _ _ a b iha ihb => intro h; obtain ⟨h1, h2⟩ := Bool.and_eq_true_iff.1 h; exact ⟨iha h1, ihb h2⟩
  | _ => intro _; trivial
theorem progOk_of {P : Program} (hm : P.follows .mixedOrders = true) (h : progB P = true) : ProgOk P := by
  refine ⟨hm, fun f fn body hf hb => ?_⟩
  have := List.all_eq_true.1 h fn (List.mem_of_getElem? (by simpa using hf))
  rw [hb] at this
  exact codeOkB_ok this
theorem noWays (P : Program) (B : Base) : WaysOk P B (fun _ => 0) := by
  intro n f h
  rcases h with h | h | h <;> cases h
end Go.Rn
