/- A frame that goes through maps: whatever entry is drawn, what comes of it is one of what comes of all rows. -/
import Derived.Test.YtcjmdcndalcomaaGreatDoorRnWay1a
namespace Go.Rn
open Go.RowKit

section
variable {P : Program} {B : Nat} {ρ : Ren} {w w1 : World} {s s1 s2 : AS} {call : Caller} {b : Frame} {a : Act} {cs : List Frame}

theorem put_defers (a : Act) (dst : Option Tmp) (v : Value) : (a.put dst v).defers = a.defers := by cases dst <;> rfl

theorem region_tail {fr : AF} {id : Nat} {ops : Array Oper} {o : Oper} {rest : List Oper} {k : List Item} {t1 t2 : Tr AV} {v : Value} (hc : CallSim P B call) (hl : ∀ t a, Local (call t a)) (hfr : Fr ρ fr b a)
    (htodo : fr.todo = .code (.region id ops false) :: k) (hops : ops.toList = o :: rest) (hgd : o.guard = none) (hd : ∀ c, o.op ≠ .defer c) (hrun : (execOp a.eval o).run P w = .ok (.value v) w1) (hbel : Below B w w1)
    (hat : At B ρ s1 fr.nt t1 w1 (a.put o.dst v)) (hnx : s1.nx = s.nx) (hf : Free s1.nx s2.nx ρ) (h : aops P call fr.nt ops rest t1 s1 = .ok t2 s2) :
    Went P B ρ s s2 w fr b cs (lone (b.atR a fr.todo) cs w) (.go { fr with tmps := t2, todo := k }) := by
  have hw : Region.wanted o (yielded ops a.tmps) = true := by unfold Region.wanted; rw [hgd]
  have ho : ops[0]? = some o := by rw [← Array.getElem?_toList, hops]; rfl
  have hsz : ops.size = rest.length + 1 := by rw [← Array.length_toList, hops]; rfl
  have hk : ItemsOk k := by have := hfr.ok; rw [htodo] at this; exact this.tail
  obtain ⟨v', w', ⟨rfl, rfl⟩, st⟩ := back_steps (R := fun v' w' => v' = v ∧ w' = w1) ho hw hd (by unfold Back; rw [hrun]; exact ⟨rfl, rfl⟩) b k cs (List.range' 1 rest.length)
  obtain ⟨σ, a', w2, e1, e2, e3, e4, e5⟩ := aops_sim hc hl b k cs rest.length 1 rest rfl (by rw [hops]; rfl) hat hf h
  refine ⟨σ, a', w2, by rw [← hnx]; exact e1, e2, ?_, hbel.trans e4, ⟨rfl, rfl, rfl⟩, hk, trivial, ?_⟩
  · rw [e3, put_defers]; exact hfr.defs.mono e1.le
  · rw [htodo]
    refine .head stepR_region ?_
    rw [List.range_eq_range', hsz, List.range'_succ]
    exact Steps.trans st e5

theorem getIter_inv {fr : AF} {it : Operand} {n : Nat} {ob : AObj} (h : getIter fr it s = .ok (n, ob) s1) : opd fr.tmps it = some (.ptr (some (n, 0))) ∧ rdN n s = .ok ob s1 := by
  unfold getIter at h
  obtain ⟨x, s2, h1, h2⟩ := M.bind_inv h
  obtain ⟨h3, rfl⟩ := lift_inv h1
  split at h2
  · obtain ⟨y, s3, h4, h5⟩ := M.bind_inv h2
    obtain ⟨h6, rfl⟩ := pure_inv h5
    cases h6
    exact ⟨h3, h4⟩
  · cases h2

theorem asksNext_inv {fr : AF} {it : Operand} {o : Oper} {ops : Array Oper} {rest : List Oper} {k : List Item} (h : asksNext fr = some (it, o, ops, rest, k)) :
    ∃ id, fr.todo = .code (.region id ops false) :: k ∧ ops.toList = o :: rest ∧ o.guard = none ∧ o.op = .next it false := by
  unfold asksNext at h
  split at h
  · rename_i id ops' k' htodo
    split at h
    · rename_i o' rest' hops
      split at h
      · rename_i it' hg ho
        cases h
        exact ⟨id, htodo, hops, hg, ho⟩
      · cases h
    · cases h
  · cases h

theorem collect_mem {α β : Type} {f : α → Option (List β)} : ∀ {l : List α} {outs : List β}, collect f l = some outs → ∀ x ∈ l, ∃ a, f x = some a ∧ ∀ y ∈ a, y ∈ outs
  | [], outs, h, x, hx => by cases hx
  | z :: l, outs, h, x, hx => by
    simp only [collect] at h
    cases e : f z with
    | none => rw [e] at h; cases h
    | some a =>
      rw [e] at h
      cases e2 : collect f l with
      | none => simp only [e2] at h; cases h
      | some c =>
        simp only [e2] at h; injection h with h; subst h
        rcases List.mem_cons.1 hx with rfl | hx
        · exact ⟨a, e, fun y hy => List.mem_append.2 (.inl hy)⟩
        · obtain ⟨a', h1, h2⟩ := collect_mem e2 x hx
          exact ⟨a', h1, fun y hy => List.mem_append.2 (.inr (h2 y hy))⟩

/-- One of the outcomes is what comes. -/
def Comes (P : Program) (B : Nat) (ρ : Ren) (s : AS) (w : World) (fr : AF) (b : Frame) (cs : List Frame) (m : Machine) (outs : List ((AF × Option Code) × AS)) : Prop :=
  ∃ fr' j s1, ((fr', j), s1) ∈ outs ∧ Went P B ρ s s1 w fr b cs m (.leave fr' j)

theorem nframe_sim (hmix : P.follows .mixedOrders = true) (hc : CallSim P B call) (hl : ∀ t a, Local (call t a)) : ∀ (f : Nat) {ρ : Ren} {w : World} {s : AS} {a : Act} {fr : AF} {outs : List ((AF × Option Code) × AS)},
    Fr ρ fr b a → At B ρ s fr.nt fr.tmps w a → (∀ x ∈ outs, Free s.nx x.2.nx ρ) → nframe P call f fr s = some outs → Comes P B ρ s w fr b cs (lone (b.atR a fr.todo) cs w) outs
  | 0, ρ, w, s, a, fr, outs, _, _, _, h => by cases h
  | f + 1, ρ, w, s, a, fr, outs, hfr, hat, hf, h => by
    -- a step, then all that comes of it
    have andThen_ : ∀ {s2 : AS} {fr1 : AF} {outs1 : List ((AF × Option Code) × AS)}, (∀ y ∈ outs1, y ∈ outs) → nframe P call f fr1 s2 = some outs1 → Fine s2 → s.nx ≤ s2.nx → Went P B ρ s s2 w fr b cs (lone (b.atR a fr.todo) cs w) (.go fr1) →
        Comes P B ρ s w fr b cs (lone (b.atR a fr.todo) cs w) outs := by
      intro s2 fr1 outs1 hsub h2 fi2 le1 hwent
      obtain ⟨ne, g1, _⟩ := locL_nframe P hl f fr1 s2 outs1 fi2 h2
      have hle : ∀ y ∈ outs1, s2.nx ≤ y.2.nx := fun y hy => by obtain ⟨dr, dw, d⟩ := g1 y hy; exact d.nx
      have key : ∀ σ a' w', Ext s.nx s2.nx ρ σ → Fr σ fr1 b a' → At B σ s2 fr1.nt fr1.tmps w' a' → Comes P B σ s2 w' fr1 b cs (lone (b.atR a' fr1.todo) cs w') outs1 := fun σ a' w' e1 hfr' hat' =>
        nframe_sim hmix hc hl f hfr' hat' (fun x hx => (hf x (hsub x hx)).next le1 e1) h2
      obtain ⟨σ, a', w', e1, e2, e3, e4, ⟨e5, e6, e7⟩, e8, _, e9⟩ := hwent
      have e5' : fr1.fn = fr.fn := e5
      have e6' : fr1.nt = fr.nt := e6
      have e7' : fr1.round = fr.round := e7
      have hfr1 : Fr σ fr1 b a' := ⟨hfr.fn.trans e5'.symm, hfr.kind, by have := hfr.round.mono e1.le; rw [← e7'] at this; exact this, e3, e8⟩
      obtain ⟨fr', j, s1, hin, τ, a'', w'', f1, f2, f3, f4, ⟨f5, f6, f7⟩, f8, f9, f10⟩ := key σ a' w' e1 hfr1 (by rw [e6']; exact e2)
      exact ⟨fr', j, s1, hsub _ hin, τ, a'', w'', e1.trans le1 (hle _ hin) f1, by rw [e6'] at f2; exact f2, f3, e4.trans f4, ⟨f5.trans e5', f6.trans e6', f7.trans e7'⟩, f8, f9, Steps.trans e9 f10⟩
    cases e : asksNext fr with
    | none =>
      rw [nframe_step e] at h
      unfold andAll at h
      cases e1 : astep P call fr s with
      | bad => simp only [e1] at h; cases h
      | ok x s2 =>
        simp only [e1] at h
        have fi2 := (Local.astep P hl fr).fine hat.fine e1
        have le1 := (Local.astep P hl fr).le hat.fine e1
        cases x with
        | go fr1 =>
          have h' : nframe P call f fr1 s2 = some outs := h
          obtain ⟨ne, g1, _⟩ := locL_nframe P hl f fr1 s2 outs fi2 h'
          obtain ⟨y, hy⟩ := List.exists_mem_of_ne_nil _ ne
          obtain ⟨dr, dw, d⟩ := g1 y hy
          exact andThen_ (fun _ hy => hy) h' fi2 le1 (astep_sim hmix hc hl hfr hat ((hf y hy).sub (Nat.le_refl _) d.nx) e1)
        | leave fr1 j =>
          injection (show some [((fr1, j), s2)] = some outs from h) with h; subst h
          exact ⟨fr1, j, s2, by simp, astep_sim hmix hc hl hfr hat (hf ((fr1, j), s2) (by simp)) e1⟩
    | some q =>
      obtain ⟨it, o, ops, rest, k⟩ := q
      obtain ⟨id, htodo, hops, hgd, ho⟩ := asksNext_inv e
      rw [nframe_next e] at h
      unfold andAll at h
      cases e1 : getIter fr it s with
      | bad => simp only [e1] at h; cases h
      | ok x s2 =>
        simp only [e1] at h
        obtain ⟨n, ob⟩ := x
        obtain ⟨h1, h2⟩ := getIter_inv e1
        obtain ⟨hx, hg, hh, hnx⟩ := rdN_same h2
        have fi2 : Fine s2 := (Local.rdN n).fine hat.fine h2
        have ht : n < top := Nat.lt_of_lt_of_le hx hat.fine.nx
        have hd : ∀ c, o.op ≠ .defer c := fun c q => by rw [ho] at q; cases q
        cases ob with
        | iter m es ex left cur =>
          obtain ⟨htm, hlent, u⟩ := hat.rel.iter n m es ex left cur ht hg
          obtain ⟨bn, N, hn, hnext⟩ := u.next (P := P) o.type
          have hiv : VR ρ (.ptr (some (n, 0))) (a.eval it) := opd_sim hat.tr hat.g h1
          have hev : a.eval it = .pointer (some ⟨bn, 0, none⟩) := by
            simp only [VR] at hiv
            obtain ⟨b', N', q1, q2⟩ := hiv
            rw [hn] at q1; cases q1; exact q2
          have hexec : ∀ v w', (Instr.next (.pointer (some ⟨bn, 0, none⟩)) false o.type).run P w = .ok v w' → (execOp a.eval o).run P w = .ok (.value v) w' := by
            intro v w' q
            simp only [execOp, ho, hev, Sem.run_bind, q, Result.andThen_ok, Sem.run_pure]
          obtain ⟨_, _, _, hB⟩ := hat.rel.block ht hg hn
          cases left with
          | nil =>
            have h3 := h
            simp only [nIter, andAll] at h3
            cases e3 : nextOver P call fr n m es ex o ops rest k s2 with
            | bad => simp only [e3] at h3; cases h3
            | ok fr1 s3 =>
              simp only [e3] at h3
              have hrun : (Instr.next (.pointer (some ⟨bn, 0, none⟩)) false o.type).run P w = .ok (.tuple #[.bool false]) w := by
                rcases hnext with ⟨_, q⟩ | ⟨x, r, v1, v2, w', q, _⟩
                · exact q
                · cases q
              have fi3 := (Local.nextOver P hl fr n m es ex o ops rest k).fine fi2 e3
              have le3 := (Local.nextOver P hl fr n m es ex o ops rest k).le fi2 e3
              obtain ⟨ne, g1, _⟩ := locL_nframe P hl f fr1 s3 outs fi3 h3
              obtain ⟨y, hy⟩ := List.exists_mem_of_ne_nil _ ne
              obtain ⟨dr, dw, d⟩ := g1 y hy
              refine andThen_ (fun _ hy => hy) h3 fi3 (by omega) ?_
              unfold nextOver at e3
              obtain ⟨u1, s4, i1, i2⟩ := M.bind_inv e3
              obtain ⟨u2, s5, i3, i4⟩ := M.bind_inv i2
              obtain ⟨t1, s6, i5, i6⟩ := M.bind_inv i4
              obtain ⟨t2, s7, i7, i8⟩ := M.bind_inv i6
              obtain ⟨rfl, rfl⟩ := pure_inv i8
              obtain ⟨i9, rfl⟩ := lift_inv i5
              obtain ⟨_, _, _, j1, j2⟩ := wrN_same i1
              obtain ⟨_, _, _, j3, j4⟩ := wrN_same i3
              have fi6 : Fine s6 := (Local.wrN m _).fine ((Local.wrN n _).fine fi2 i1) i3
              have rel6 : Rel B ρ s6.h w := by rw [j3, j1, hh]; exact hat.rel.over ht hg
              have hvr : VR ρ (.tuple [.bool false]) (.tuple #[.bool false]) := by simp only [VR, VRs]; exact ⟨_, rfl, _, _, rfl, rfl, rfl⟩
              obtain ⟨q1, q2⟩ := aput_sim (a := a) hat.tr hat.nt i9 hvr
              exact region_tail hc hl hfr htodo hops hgd hd (hexec _ _ hrun) (Below.refl _ _) ⟨q1, rel6, hat.g, hat.nt, fi6⟩ (by rw [j4, j2, hnx]) (by rw [j4, j2, hnx]; exact (hf y hy).sub (Nat.le_refl _) d.nx) i7
          | cons y0 ys =>
            have h3 := h
            simp only [nIter] at h3
            rcases hnext with ⟨q, _⟩ | ⟨x, r, v1, v2, w', hin, hv1, hv2, hrun, hoa, hblk, hun⟩
            · cases q
            · obtain ⟨outs1, h4, hsub⟩ := collect_mem h3 (x, r) hin
              unfold nNext andAll at h4
              cases e3 : nextIs P call fr n (.iter m es ex r (some x)) o ops rest k (.tuple [.bool true, x.1, x.2]) s2 with
              | bad => simp only [e3] at h4; cases h4
              | ok fr1 s3 =>
                simp only [e3] at h4
                have fi3 := (Local.nextIs P hl fr n (.iter m es ex r (some x)) o ops rest k (.tuple [.bool true, x.1, x.2])).fine fi2 e3
                have le3 := (Local.nextIs P hl fr n (.iter m es ex r (some x)) o ops rest k (.tuple [.bool true, x.1, x.2])).le fi2 e3
                obtain ⟨ne, g1, _⟩ := locL_nframe P hl f fr1 s3 outs1 fi3 h4
                obtain ⟨y, hy⟩ := List.exists_mem_of_ne_nil _ ne
                obtain ⟨dr, dw, d⟩ := g1 y hy
                refine andThen_ hsub h4 fi3 (by omega) ?_
                unfold nextIs at e3
                obtain ⟨u1, s4, i1, i2⟩ := M.bind_inv e3
                obtain ⟨t1, s6, i5, i6⟩ := M.bind_inv i2
                obtain ⟨t2, s7, i7, i8⟩ := M.bind_inv i6
                obtain ⟨rfl, rfl⟩ := pure_inv i8
                obtain ⟨i9, rfl⟩ := lift_inv i5
                obtain ⟨_, _, _, j1, j2⟩ := wrN_same i1
                have fi6 : Fine s6 := (Local.wrN n _).fine fi2 i1
                have rel6 : Rel B ρ s6.h w' := by rw [j1, hh]; exact hat.rel.nextAt ht hg hn hoa hblk hun
                have hvr : VR ρ (.tuple [.bool true, x.1, x.2]) (.tuple #[.bool true, v1, v2]) := by
                  simp only [VR, VRs]; exact ⟨_, rfl, _, _, rfl, rfl, _, _, rfl, hv1, _, _, rfl, hv2, rfl⟩
                obtain ⟨q1, q2⟩ := aput_sim (a := a) hat.tr hat.nt i9 hvr
                exact region_tail hc hl hfr htodo hops hgd hd (hexec _ _ hrun) (hoa.below (hB rfl)) ⟨q1, rel6, hat.g, hat.nt, fi6⟩ (by rw [j2, hnx]) (by rw [j2, hnx]; exact (hf y (hsub y hy)).sub (Nat.le_refl _) d.nx) i7
        | _ => cases h
end
end Go.Rn
