/- All calls are local. -/
import Derived.Test.YtcjmdcndalcomaaGreatDoorRnLocalJoin
namespace Go.Rn

theorem noteAll_dr : ∀ (l : List Nat) (s : AS) (u : Unit) (s1 : AS), noteAll l s = .ok u s1 → ∃ dr, s1.rd = dr ++ s.rd ∧ s1.mark = s.mark ∧ ∀ k ∈ l, k < s.mark → k ∈ dr
  | [], s, u, s1, h => by
    have h' : M.pure () s = .ok u s1 := h
    obtain ⟨_, rfl⟩ := pure_inv h'
    exact ⟨[], rfl, rfl, fun k hk => by cases hk⟩
  | n :: l, s, u, s1, h => by
    have h' : (rdN n).bind (fun _ => noteAll l) s = .ok u s1 := h
    obtain ⟨o, s2, h1, h2⟩ := M.bind_inv h'
    obtain ⟨_, _, rfl⟩ := rdN_inv h1
    obtain ⟨dr, e1, e2, e3⟩ := noteAll_dr l _ _ _ h2
    by_cases q : n < s.mark
    · rw [if_pos q] at e1 e2 e3
      refine ⟨dr ++ [n], by rw [e1]; simp, e2, fun k hk hlt => ?_⟩
      rcases List.mem_cons.1 hk with rfl | hk
      · simp
      · exact List.mem_append.2 (.inl (e3 k hk hlt))
    · rw [if_neg q] at e1 e2 e3
      refine ⟨dr, e1, e2, fun k hk hlt => ?_⟩
      rcases List.mem_cons.1 hk with rfl | hk
      · exact absurd hlt q
      · exact e3 k hk hlt

theorem Local.noteAll : ∀ l : List Nat, Local (noteAll l)
  | [] => Local.pure _
  | n :: l => Local.bind (Local.rdN n) (fun _ => Local.noteAll l)
theorem Local.putEs : ∀ l : List (Nat × List (AV × AV)), Local (putEs l)
  | [] => Local.pure _
  | (_, _) :: l => Local.bind (Local.mapObj _) (fun _ => Local.bind (Local.wrN _ _) (fun _ => Local.putEs l))
theorem Local.skipN : ∀ k : Nat, Local (skipN k)
  | 0 => Local.pure _
  | k + 1 => Local.bind (Local.newN _) (fun _ => Local.bind (Local.wrN _ _) (fun _ => Local.skipN k))
theorem Local.retM (lo : Nat) (r : Ret) : Local (retM lo r) := by
  cases r with
  | none => exact Local.pure _
  | nil => exact Local.pure _
  | row n c len e => exact Local.bind (Local.skipN _) (fun _ => Local.bind (Local.newRow c) (fun _ => Local.withB fun _ => Local.pure _))
theorem Local.doPlan (p : Plan) : Local (doPlan p) := Local.bind (Local.noteAll _) (fun _ => Local.bind (Local.putEs _) (fun _ => Local.bind (Local.retM _ _) (fun _ => Local.bind (Local.skipN _) (fun _ => Local.pure _))))

theorem memN_iff {n : Nat} : ∀ {l : List Nat}, memN n l = true ↔ n ∈ l
  | [] => by simp [memN]
  | x :: l => by
    simp only [memN]
    cases h : Nat.beq x n with
    | true => rw [beq_eq] at h; subst h; simp
    | false =>
      have : ¬ x = n := by rw [← beq_eq, h]; simp
      simp only [memN_iff (l := l), List.mem_cons]
      constructor
      · exact .inr
      · rintro (e | e)
        · exact absurd e.symm this
        · exact e
theorem mem_addName {k n : Nat} {l : List Nat} : k ∈ addName n l ↔ k = n ∨ k ∈ l := by
  unfold addName
  cases h : memN n l with
  | true =>
    have := memN_iff.1 h
    constructor
    · exact .inr
    · rintro (rfl | e)
      · exact this
      · exact e
  | false => exact List.mem_cons
theorem mem_namesOf {k : Nat} : ∀ {l : List Nat}, k ∈ namesOf l ↔ k ∈ l
  | [] => by simp [namesOf]
  | x :: l => by rw [namesOf, mem_addName, mem_namesOf (l := l), List.mem_cons]

/-- Two states that are one at some names. -/
def OneAt (ns : List Nat) (s t : AS) : Prop := ∀ n ∈ ns, s.h.get n = t.h.get n
theorem esOf_eq {s t : AS} {n : Nat} (h : s.h.get n = t.h.get n) : esOf s n = esOf t n := by unfold esOf; rw [h]
theorem entriesOf_eq {s t : AS} : ∀ {ns : List Nat}, OneAt ns s t → entriesOf s ns = entriesOf t ns
  | [], _ => rfl
  | n :: l, h => by
    simp only [entriesOf, esOf_eq (h n List.mem_cons_self), entriesOf_eq (ns := l) (fun m hm => h m (List.mem_cons_of_mem _ hm))]
theorem entriesOf_names {s : AS} : ∀ {ns : List Nat} {es : List (Nat × List (AV × AV))}, entriesOf s ns = some es → es.map (·.1) = ns
  | [], es, h => by simp only [entriesOf] at h; injection h with h; subst h; rfl
  | n :: l, es, h => by
    simp only [entriesOf] at h
    cases e : esOf s n with
    | none => rw [e] at h; cases h
    | some x =>
      simp only [e] at h
      cases e2 : entriesOf s l with
      | none => simp only [e2] at h; cases h
      | some r =>
        simp only [e2] at h; injection h with h; subst h
        simp [entriesOf_names e2]
theorem hasEs_eq {s t : AS} : ∀ {es : List (Nat × List (AV × AV))}, OneAt (es.map (·.1)) s t → hasEs s es = hasEs t es
  | [], _ => rfl
  | (n, x) :: l, h => by
    simp only [hasEs, esOf_eq (h n (by simp)), hasEs_eq (es := l) (fun m hm => h m (by simp only [List.map_cons, List.mem_cons]; exact .inr hm))]
theorem retOf_eq {lo : Nat} {s t : AS} (hn : s.nx = t.nx) (h : ∀ k, lo ≤ k → k < s.nx → s.h.get k = t.h.get k) (v : AV) : retOf lo s v = retOf lo t v := by
  cases v with
  | slice a len cap =>
    cases a with
    | none =>
      cases cap with
      | known c => cases len <;> cases c <;> rfl
      | atLeast lo e => cases len <;> rfl
      | lost => cases len <;> rfl
    | some a =>
      obtain ⟨n, o⟩ := a
      cases o with
      | succ o => cases cap <;> rfl
      | zero =>
        cases cap with
        | known c => rfl
        | lost => rfl
        | atLeast c e =>
          by_cases q : lo ≤ n ∧ n < s.nx
          · simp only [retOf, h n q.1 q.2, hn]
          · have q1 : (Nat.ble lo n && Nat.blt n s.nx) = false := by
              cases hb : (Nat.ble lo n && Nat.blt n s.nx) with
              | false => rfl
              | true =>
                have := Bool.and_eq_true_iff.1 hb
                rw [Nat.ble_eq, blt_eq] at this
                exact absurd this q
            have none1 : ∀ u : AS, (Nat.ble lo n && Nat.blt n u.nx) = false → retOf lo u (.slice (some (n, 0)) len (.atLeast c e)) = none := by
              intro u hu
              simp only [retOf, hu, Bool.false_and]
              split
              · split <;> rfl
              · rfl
            rw [none1 s q1, none1 t (by rw [← hn]; exact q1)]
  | tuple vs => cases vs <;> rfl
  | _ => rfl

theorem mem_rdsOf {x : AV × AS} {k : Nat} : ∀ {l : List (AV × AS)}, x ∈ l → k ∈ x.2.rd → k ∈ rdsOf l
  | [], h, _ => by cases h
  | (_, _) :: b, h, hk => by
    rcases List.mem_cons.1 h with rfl | hx
    · exact List.mem_append.2 (.inl hk)
    · exact List.mem_append.2 (.inr (mem_rdsOf hx hk))

theorem Local.ajoin (P : Program) {call : Caller} (hcall : ∀ t a, Local (call t a)) (f n : Nat) (rs : List ResultVar) (body : Code) (args : List AV) : Local (ajoin P call f n rs body args) := by
  intro s v s2 fi h
  unfold Rn.ajoin at h
  cases e0 : Nat.ble (max n args.length) top with
  | false => simp only [e0] at h; cases h
  | true =>
    simp only [e0] at h
    cases e1 : ajoinAll P call f n rs body args ⟨s.h, s.nx, s.nx, [], []⟩ with
    | none => simp only [e1] at h; cases h
    | some outs =>
      simp only [e1] at h
      cases e2 : planOf s.nx outs with
      | none => simp only [e2] at h; cases h
      | some p =>
        simp only [e2] at h
        obtain ⟨dr, dw, d, x⟩ := Local.doPlan p s v s2 fi h
        refine ⟨dr, dw, d, fun A m0 t ag hA => ?_⟩
        -- what was noted is read once more
        have hnote : ∀ k ∈ p.note, k < m0 → A k := by
          intro k hk hlt
          refine hA k ?_ hlt
          obtain ⟨u, s3, h1, h2⟩ := M.bind_inv (show ((Rn.noteAll p.note).bind fun _ => (Rn.putEs p.es).bind fun _ => (Rn.retM p.lo p.ret).bind fun v => (Rn.skipN p.skip).bind fun _ => M.pure v) s = .ok v s2 from h)
          obtain ⟨dr1, q1, q2, q3⟩ := noteAll_dr _ _ _ _ h1
          obtain ⟨dr', dw', d', _⟩ := Local.noteAll p.note s u s3 fi h1
          obtain ⟨dr2, dw2, d2, _⟩ := Local.bind (Local.putEs p.es) (fun _ => Local.bind (Local.retM p.lo p.ret) (fun v => Local.bind (Local.skipN p.skip) (fun _ => Local.pure v))) s3 v s2 (d'.fine fi) h2
          have : dr = dr2 ++ dr1 := by
            have a := d.rd
            rw [d2.rd, q1, ← List.append_assoc] at a
            exact (List.append_cancel_right a).symm
          rw [this]
          exact List.mem_append.2 (.inr (q3 k hk (Nat.lt_of_lt_of_le hlt ag.low)))
        have hL : LocalL (ajoinAll P call f n rs body args) := locL_finishAll P rs (locL_nframe P hcall _ _)
        obtain ⟨ne, g1, g2⟩ := hL ⟨s.h, s.nx, s.nx, [], []⟩ outs ⟨Nat.le_refl _, fi.nx⟩ e1
        cases outs with
        | nil => exact absurd rfl ne
        | cons y l =>
          obtain ⟨v1, s1⟩ := y
          have e2' := e2
          simp only [planOf] at e2'
          cases e3 : entriesOf s1 (namesOf (below s.nx s1.wr)) with
          | none => simp only [e3] at e2'; cases e2'
          | some es =>
            cases e4 : retOf s.nx s1 v1 with
            | none => simp only [e3, e4] at e2'; cases e2'
            | some r =>
              simp only [e3, e4] at e2'
              cases e5 : fits s.nx (namesOf (below s.nx s1.wr)) es r ((v1, s1) :: l) && allKeysOk es with
              | false => simp only [e5] at e2'; cases e2'
              | true =>
                simp only [e5] at e2'
                injection e2' with e2'
                have hrd : ∀ x ∈ ((v1, s1) :: l), ∀ k ∈ x.2.rd, k ∈ rdsOf ((v1, s1) :: l) := fun x hx k hk => mem_rdsOf hx hk
                have hN : Noted A m0 ⟨s.h, s.nx, s.nx, [], []⟩ ((v1, s1) :: l) := by
                  intro x hx dr' dw' d' k hk hlt
                  refine hnote k ?_ hlt
                  rw [← e2']
                  refine mem_below.2 ⟨hrd x hx k (by rw [d'.rd]; simpa using hk), Nat.lt_of_lt_of_le hlt (Nat.le_trans ag.low fi.mark)⟩
                obtain ⟨outs', e6, fl⟩ := g2 A m0 ⟨t.h, t.nx, t.nx, [], []⟩ ⟨ag.nx, ag.nx, Nat.le_trans ag.low fi.mark, ag.is⟩ hN
                have hp : planOf t.nx outs' = some p := by
                  rw [← ag.nx, ← e2']
                  obtain ⟨y', l', rfl, ⟨ey, dr1, dw1, d1, al1⟩, fl'⟩ := fl
                  obtain ⟨v2, t1⟩ := y'
                  simp only at ey; subst ey
                  have ewr : t1.wr = s1.wr := by have a := al1.wr; have b := d1.wr; simp only [List.append_nil] at a b; rw [a, b]
                  -- the names that were written are known
                  have hns : ∀ m ∈ namesOf (below s.nx s1.wr), (A m ∨ m0 ≤ m) ∧ m < s.nx := by
                    intro m hm
                    obtain ⟨a, b⟩ := mem_below.1 (mem_namesOf.1 hm)
                    refine ⟨?_, b⟩
                    by_cases q : m < m0
                    · refine .inl (hN _ List.mem_cons_self dr1 dw1 d1 m (d1.sub m ?_) q)
                      have := d1.wr; simp only [List.append_nil] at this; rw [← this]; exact a
                    · exact .inr (by omega)
                  have one : ∀ (x y : AS) (dr dw : List Nat), Did ⟨s.h, s.nx, s.nx, [], []⟩ x dr dw → Also A m0 x ⟨t.h, t.nx, t.nx, [], []⟩ y dr dw → OneAt (namesOf (below s.nx s1.wr)) x y := by
                    intro x y dr dw d' al m hm
                    obtain ⟨a, b⟩ := hns m hm
                    exact al.agree.is m (Nat.lt_of_lt_of_le b d'.nx) a
                  have ret : ∀ (x y : AS) (dr dw : List Nat) (v : AV), Did ⟨s.h, s.nx, s.nx, [], []⟩ x dr dw → Also A m0 x ⟨t.h, t.nx, t.nx, [], []⟩ y dr dw → retOf s.nx x v = retOf s.nx y v := by
                    intro x y dr dw v d' al
                    exact retOf_eq al.agree.nx (fun k hk hlt => al.agree.is k hlt (.inr (Nat.le_trans (Nat.le_trans ag.low fi.mark) hk))) v
                  have e3' : entriesOf t1 (namesOf (below s.nx s1.wr)) = some es := by rw [← entriesOf_eq (one s1 t1 dr1 dw1 d1 al1)]; exact e3
                  have e4' : retOf s.nx t1 v1 = some r := by rw [← ret s1 t1 dr1 dw1 v1 d1 al1]; exact e4
                  have hfits : ∀ (a b : List (AV × AS)), Fellows A m0 ⟨s.h, s.nx, s.nx, [], []⟩ ⟨t.h, t.nx, t.nx, [], []⟩ a b → fits s.nx (namesOf (below s.nx s1.wr)) es r a = fits s.nx (namesOf (below s.nx s1.wr)) es r b := by
                    intro a
                    induction a with
                    | nil => intro b hb; simp only [Fellows] at hb; subst hb; rfl
                    | cons x xs ih =>
                      intro b hb
                      obtain ⟨y, ys, rfl, ⟨exy, dr2, dw2, d2, al2⟩, r2⟩ := hb
                      obtain ⟨x1, x2⟩ := x
                      obtain ⟨y1, y2⟩ := y
                      simp only at exy; subst exy
                      have w2 : y2.wr = x2.wr := by have a := al2.wr; have b := d2.wr; simp only [List.append_nil] at a b; rw [a, b]
                      have n2 := entriesOf_names e3
                      simp only [fits, w2, hasEs_eq (es := es) (s := x2) (t := y2) (by rw [n2]; exact one x2 y2 dr2 dw2 d2 al2), ret x2 y2 dr2 dw2 x1 d2 al2, ih ys r2]
                  have hrds : ∀ (a b : List (AV × AS)), Fellows A m0 ⟨s.h, s.nx, s.nx, [], []⟩ ⟨t.h, t.nx, t.nx, [], []⟩ a b → rdsOf a = rdsOf b := by
                    intro a
                    induction a with
                    | nil => intro b hb; simp only [Fellows] at hb; subst hb; rfl
                    | cons x xs ih =>
                      intro b hb
                      obtain ⟨y, ys, rfl, ⟨exy, dr2, dw2, d2, al2⟩, r2⟩ := hb
                      obtain ⟨x1, x2⟩ := x
                      obtain ⟨y1, y2⟩ := y
                      have w2 : y2.rd = x2.rd := by have a := al2.rd; have b := d2.rd; simp only [List.append_nil] at a b; rw [a, b]
                      simp only [rdsOf, ih ys r2]
                      rw [w2]
                  have hnxs : ∀ (a b : List (AV × AS)), Fellows A m0 ⟨s.h, s.nx, s.nx, [], []⟩ ⟨t.h, t.nx, t.nx, [], []⟩ a b → nxOf a = nxOf b := by
                    intro a
                    induction a with
                    | nil => intro b hb; simp only [Fellows] at hb; subst hb; rfl
                    | cons x xs ih =>
                      intro b hb
                      obtain ⟨y, ys, rfl, ⟨exy, dr2, dw2, d2, al2⟩, r2⟩ := hb
                      obtain ⟨x1, x2⟩ := x
                      obtain ⟨y1, y2⟩ := y
                      have w2 : x2.nx = y2.nx := al2.agree.nx
                      simp only [nxOf, ih ys r2, w2]
                  have whole : Fellows A m0 ⟨s.h, s.nx, s.nx, [], []⟩ ⟨t.h, t.nx, t.nx, [], []⟩ ((v1, s1) :: l) ((v1, t1) :: l') := ⟨(v1, t1), l', rfl, ⟨rfl, dr1, dw1, d1, al1⟩, fl'⟩
                  simp only [planOf, ewr, e3', e4']
                  rw [← hfits _ _ whole, e5, ← hrds _ _ whole, ← hnxs _ _ whole]
                obtain ⟨t1, e7, al⟩ := x A m0 t ag hA
                refine ⟨t1, ?_, al⟩
                unfold Rn.ajoin
                simp only [e0, e6, hp]
                exact e7

theorem local_arun (P : Program) (way : FuncId → Nat) : ∀ (n : Nat) (t : Tgt) (args : List AV), Local (arun P way n t args)
  | 0, _, _ => Local.fail
  | n + 1, .fn f, args => by
    have hcall : ∀ t a, Local (arun P way n t a) := fun t a => local_arun P way n t a
    show Local ((fnB P way f).val (arun P way n) args)
    unfold fnB
    split
    · exact Local.cloneMap _
    · exact Local.joinStrs _
    · split
      · exact Local.fail
      · split
        · exact Local.fail
        · split
          · exact Local.fail
          · split
            · exact Local.ajoin P hcall _ _ _ _ _
            · exact Local.kBody P _ _ _ _ hcall _
  | n + 1, .round l, args => Local.runRound P (fun t a => local_arun P way n t a) l args
end Go.Rn
