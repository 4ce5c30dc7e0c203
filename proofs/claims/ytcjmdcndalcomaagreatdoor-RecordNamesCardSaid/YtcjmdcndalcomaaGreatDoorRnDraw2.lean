/- Whatever row is drawn: at each moment each name, and each slot, is as it was at some moment of the text's row. -/
import Derived.Test.YtcjmdcndalcomaaGreatDoorRnDraw
namespace Go.Rn
open Go.RowKit

section
variable {P : Program} {B : Nat} {call : Caller} {ops : Array Oper} {nt : Nat} {H : Nat → Tr AObj} {N : Nat → Nat} {T : Nat → Tr AV} {Rd Wr : Nat → Nat → Prop}

def Done (listed : Array Bool) (i : Nat) : Prop := listed.getD i false = true
/-- A moment of the text's row: of those that turn this, the ones ahead of it are done, and no others. -/
def Cut (n : Nat) (W : Nat → Prop) (D : Nat → Prop) (c : Nat) : Prop := c ≤ n ∧ ∀ i, i < n → W i → (D i ↔ i < c)

theorem keep_range {α : Type} {f : Nat → α} {n : Nat} {W : Nat → Prop} (hk : ∀ k, k < n → ¬ W k → f (k + 1) = f k) : ∀ (m c : Nat), c + m ≤ n → (∀ i, c ≤ i → i < c + m → ¬ W i) → f (c + m) = f c
  | 0, _, _, _ => rfl
  | m + 1, c, hn, hw => by
    have h1 := hk (c + m) (by omega) (hw (c + m) (by omega) (by omega))
    rw [show c + (m + 1) = c + m + 1 from rfl, h1]
    exact keep_range hk m c (by omega) fun i h1 h2 => hw i h1 (by omega)
theorem cut_same {α : Type} {f : Nat → α} {n : Nat} {W D : Nat → Prop} (hk : ∀ k, k < n → ¬ W k → f (k + 1) = f k) {c c' : Nat} (h : Cut n W D c) (h' : Cut n W D c') : f c = f c' := by
  have key : ∀ {a b : Nat}, Cut n W D a → Cut n W D b → a ≤ b → f b = f a := by
    intro a b ha hb hab
    obtain ⟨m, rfl⟩ : ∃ m, b = a + m := ⟨b - a, by omega⟩
    refine keep_range hk m a hb.1 fun i h1 h2 hw => ?_
    have hin : i < n := Nat.lt_of_lt_of_le h2 hb.1
    have := (ha.2 i hin hw).1 ((hb.2 i hin hw).2 h2)
    omega
  rcases Nat.le_total c c' with q | q
  · exact (key h h' q).symm
  · exact key h' h q

theorem mono_N (x : Text P call ops nt H N T Rd Wr) : ∀ {i j : Nat}, i ≤ j → j ≤ ops.size → N i ≤ N j := by
  intro i j hij hj
  obtain ⟨m, rfl⟩ : ∃ m, j = i + m := ⟨j - i, by omega⟩
  clear hij
  induction m with
  | zero => exact Nat.le_refl _
  | succ m ih => exact Nat.le_trans (ih (by omega)) (x.up (i + m) (by omega))

/-- What is kept while a region goes on in a drawn row. -/
structure Inv (B : Nat) (ops : Array Oper) (nt : Nat) (H : Nat → Tr AObj) (N : Nat → Nat) (T : Nat → Tr AV) (Wr : Nat → Nat → Prop) (ρ₀ : Ren) (w₀ : World) (a₀ : Act) (listed : Array Bool) (a : Act) (w : World) (h : Tr AObj) (t : Tr AV) (ρ : Ren) : Prop where
  rel : Rel B ρ h w
  tr : TR ρ nt t a.tmps
  le : ρ₀.le ρ
  new : ∀ m, ρ m ≠ ρ₀ m → ∃ i, i < ops.size ∧ Done listed i ∧ N i ≤ m ∧ m < N (i + 1)
  heap : ∀ m, m < top → ∃ c, Cut ops.size (fun i => Wr i m) (Done listed) c ∧ h.get m = (H c).get m
  slots : ∀ d, ∃ c, Cut ops.size (fun i => ∃ o, ops[i]? = some o ∧ o.dst = some d) (Done listed) c ∧ t.get d = (T c).get d
  below : Below B w₀ w
  defers : a.defers = a₀.defers
  closed : ∀ (j : Nat) (o : Oper) (e : Edge), ops[j]? = some o → Done listed j → e ∈ o.after → Region.binds .any e = true → Done listed e.on

theorem done_set {listed : Array Bool} {j : Nat} (hj : j < listed.size) (i : Nat) : Done (listed.setIfInBounds j true) i ↔ i = j ∨ Done listed i := by
  unfold Done
  simp only [Array.getD_eq_getD_getElem?]
  by_cases e : i = j
  · subst e; rw [Array.getElem?_setIfInBounds_self_of_lt hj]; simp
  · rw [Array.getElem?_setIfInBounds_ne (Ne.symm e)]; simp [e]

theorem inv_step (reg : RegOk ops) (x : Text P call ops nt H N T Rd Wr) (hc : CallSim P B call) (hl : ∀ t a, Local (call t a)) (hnt : nt ≤ top) {ρ₀ : Ren} (hg : RenG ρ₀) (hfree : Free (N 0) (N ops.size) ρ₀) {w₀ : World} {a₀ : Act}
    {listed : Array Bool} {a : Act} {w : World} {j : Nat} {o : Oper} (hs : listed.size = ops.size) {h : Tr AObj} {t : Tr AV} {ρ : Ren} (inv : Inv B ops nt H N T Wr ρ₀ w₀ a₀ listed a w h t ρ)
    (ho : ops[j]? = some o) (hj : listed.getD j true = false) (hready : ∀ e ∈ o.after, Region.binds .any e = true → listed.getD e.on false = true) (b : Frame) (k : List Item) (cs : List Frame) (rest : List Nat) :
    ∃ a' w' h' t' ρ', Inv B ops nt H N T Wr ρ₀ w₀ a₀ (listed.setIfInBounds j true) a' w' h' t' ρ' ∧ Steps P (lone (b.atR a (.inRegion ops (j :: rest) :: k)) cs w) (lone (b.atR a' (.inRegion ops rest :: k)) cs w') := by
  have hjn : j < ops.size := (Array.getElem?_eq_some_iff.1 ho).1
  have hnd : ¬ Done listed j := by
    unfold Done
    rw [Array.getD_eq_getD_getElem?, Array.getElem?_eq_getElem (by omega)] at hj ⊢
    simp at hj ⊢; exact hj
  -- those that stand ahead, or behind
  have hbef := before_closed reg.edges (Done listed) inv.closed
  have ordered : ∀ i, i ≠ j → loose (Region.before ops) i j = false → (Done listed i ↔ i < j) := by
    intro i hij hlo
    unfold loose at hlo
    simp only [Bool.not_eq_false', Bool.or_eq_true] at hlo
    rcases hlo with q | q
    · obtain ⟨h1, h2, _⟩ := hbef i i j (Nat.le_refl _) q
      exact ⟨fun hd => absurd (h2 hd) hnd, fun e => by omega⟩
    · obtain ⟨h1, _, h3⟩ := hbef j j i (Nat.le_refl _) q
      exact ⟨fun _ => h1, fun _ => h3 fun o' e ho' hm hb => by rw [ho] at ho'; cases ho'; exact hready e hm hb⟩
  have looseC : ∀ i, loose (Region.before ops) i j = loose (Region.before ops) j i := by
    intro i; unfold loose; rw [Bool.or_comm]
  have cutAt : ∀ (W : Nat → Prop), (∀ i, i < ops.size → W i → i ≠ j → loose (Region.before ops) i j = false) → Cut ops.size W (Done listed) j := by
    intro W hW
    refine ⟨Nat.le_of_lt hjn, fun i hi hw => ?_⟩
    by_cases e : i = j
    · subst e; exact ⟨fun hd => absurd hd hnd, fun q => absurd q (Nat.lt_irrefl _)⟩
    · exact ordered i e (hW i hi hw e)
  have cutNext : ∀ (W : Nat → Prop), (∀ i, i < ops.size → W i → i ≠ j → loose (Region.before ops) i j = false) → Cut ops.size W (Done (listed.setIfInBounds j true)) (j + 1) := by
    intro W hW
    refine ⟨hjn, fun i hi hw => ?_⟩
    rw [done_set (by omega)]
    by_cases e : i = j
    · subst e; exact ⟨fun _ => Nat.lt_succ_self _, fun _ => .inl rfl⟩
    · have := ordered i e (hW i hi hw e)
      constructor
      · rintro (q | q)
        · exact absurd q e
        · have := this.1 q; omega
      · intro q; exact .inr (this.2 (by omega))
  have cutKeep : ∀ (W : Nat → Prop) (c : Nat), ¬ W j → Cut ops.size W (Done listed) c → Cut ops.size W (Done (listed.setIfInBounds j true)) c := by
    intro W c hW hcut
    refine ⟨hcut.1, fun i hi hw => ?_⟩
    rw [done_set (by omega)]
    have hij : i ≠ j := by intro e; subst e; exact hW hw
    rw [← hcut.2 i hi hw]
    exact ⟨fun q => q.resolve_left hij, .inr⟩
  have isLoose : ∀ i m, i < ops.size → i ≠ j → Wr i m → Rd j m → loose (Region.before ops) i j = false := by
    intro i m hi hij hw hr
    cases q : loose (Region.before ops) i j with
    | false => rfl
    | true => exact absurd hr (x.apart i j m hi hjn hij q hw)
  have rdTop : ∀ m, m < N j → m < top := fun m hm => Nat.lt_of_lt_of_le hm (x.top j (by omega))
  -- what it asks of memory is as it was in the text's row
  have hheap : ∀ m, m < top → Rd j m → h.get m = (H j).get m := by
    intro m hm hr
    obtain ⟨c, hc1, hc2⟩ := inv.heap m hm
    rw [hc2]
    exact cut_same (f := fun c => (H c).get m) (fun k hk hw => x.keep k m hk hw hm) hc1 (cutAt _ fun i hi hw hij => isLoose i m hi hij hw hr)
  have hslot : ∀ d ∈ o.looksAt ops, (T j).get d = t.get d := by
    intro d hd
    obtain ⟨c, hc1, hc2⟩ := inv.slots d
    rw [hc2]
    refine cut_same (f := fun c => (T c).get d) (fun k hk hw => ?_) (cutAt _ ?_) hc1
    · have hok : ops[k]? = some ops[k] := Array.getElem?_eq_getElem hk
      exact x.slot k _ d hok fun e => hw ⟨_, hok, e⟩
    · rintro i hi ⟨y, hy, hyd⟩ hij
      exact reg.slots i j y o d hij hy ho hyd (.inl hd)
  -- again, here
  obtain ⟨t1, c1, c2, c3, c4⟩ := x.again j o ho h hheap
  obtain ⟨v, v1, v2⟩ := aone_congr hslot c1
  obtain ⟨u1, hu1⟩ : ∃ u1, aput nt t o.dst v = some u1 := by
    rcases aput_inv v1 with ⟨e, _⟩ | ⟨d, e, hd, _⟩
    · rw [e]; exact ⟨t, rfl⟩
    · rw [e]
      refine ⟨t.put d (some v), ?_⟩
      show @Bool.rec (fun _ => Option (Tr AV)) none (some (t.put d (some v))) (Nat.blt d nt) = _
      rw [rec_blt, if_pos hd]
  have hrun := v2 u1 hu1
  have hNj : N j ≤ N (j + 1) := x.up j hjn
  have hfr : Free (N j) (N (j + 1)) ρ := by
    intro m h1 h2
    have e0 : ρ₀ m = none := hfree m (Nat.le_trans (mono_N x (Nat.zero_le j) (by omega)) h1) (Nat.lt_of_lt_of_le h2 (mono_N x hjn (Nat.le_refl _)))
    by_cases e : ρ m = ρ₀ m
    · rw [e]; exact e0
    · exfalso
      obtain ⟨i, hi, hdi, p1, p2⟩ := inv.new m e
      have hij : i ≠ j := by intro q; subst q; exact hnd hdi
      rcases Nat.lt_or_ge i j with q | q
      · have := mono_N x (show i + 1 ≤ j from q) (by omega); omega
      · have := mono_N x (show j + 1 ≤ i from by omega) (by omega); omega
  have hat : At B ρ ⟨h, N j, N j, [], []⟩ nt t w a := ⟨inv.tr, inv.rel, hg.mono inv.le, hnt, ⟨Nat.le_refl _, x.top j (by omega)⟩⟩
  obtain ⟨σ, a', w', g1, g2, g3, g4, g5⟩ := aone_sim hc hl ho hat (by rw [c2]; exact hfr) hrun b k cs rest
  rw [c2] at g1
  refine ⟨a', w', t1.h, u1, σ, ⟨g2.rel, g2.tr, Ren.le_trans inv.le g1.le, ?_, ?_, ?_, inv.below.trans g4, g3.trans inv.defers, ?_⟩, g5⟩
  · intro m hm
    by_cases e : ρ m = ρ₀ m
    · by_cases q : N j ≤ m ∧ m < N (j + 1)
      · exact ⟨j, hjn, (done_set (by omega) j).2 (.inl rfl), q.1, q.2⟩
      · exact absurd ((g1.out m q).trans e) hm
    · obtain ⟨i, hi, hdi, p⟩ := inv.new m e
      exact ⟨i, hi, (done_set (by omega) i).2 (.inr hdi), p⟩
  · intro m hm
    by_cases q : Wr j m
    · refine ⟨j + 1, cutNext _ (fun i hi hw hij => ?_), c3 m q⟩
      obtain ⟨w1, w2⟩ := x.wrote j m hjn q
      by_cases e : m < N j
      · exact isLoose i m hi hij hw (w2 e)
      · obtain ⟨y1, y2⟩ := x.wrote i m hi hw
        have him : m < N i := by
          rcases Nat.lt_or_ge i j with r | r
          · have := mono_N x (show i + 1 ≤ j from r) (by omega); omega
          · have := mono_N x (show j + 1 ≤ i from by omega) (by omega); omega
        cases hl2 : loose (Region.before ops) i j with
        | false => rfl
        | true =>
          rw [looseC] at hl2
          exact absurd (y2 him) (x.apart j i m hjn hi (Ne.symm hij) hl2 q)
    · obtain ⟨c, hc1, hc2⟩ := inv.heap m hm
      exact ⟨c, cutKeep _ c q hc1, (c4 m q hm).trans hc2⟩
  · intro d
    by_cases q : o.dst = some d
    · refine ⟨j + 1, cutNext _ (fun i hi hw hij => ?_), ?_⟩
      · obtain ⟨y, hy, hyd⟩ := hw
        exact reg.slots i j y o d hij hy ho hyd (.inr q)
      · rcases aput_inv v1 with ⟨e, _⟩ | ⟨d1, e, hd, e3⟩
        · rw [e] at q; cases q
        · rw [q] at e; cases e
          rcases aput_inv hu1 with ⟨e, _⟩ | ⟨d2, e, hd', e4⟩
          · rw [e] at q; cases q
          · rw [q] at e; cases e
            rw [e3, e4, Tr.get_put' _ _ _ _ (Nat.lt_of_lt_of_le hd hnt), Tr.get_put' _ _ _ _ (Nat.lt_of_lt_of_le hd hnt), if_pos rfl, if_pos rfl]
    · obtain ⟨c, hc1, hc2⟩ := inv.slots d
      refine ⟨c, cutKeep _ c (fun hw => ?_) hc1, ?_⟩
      · obtain ⟨y, hy, hyd⟩ := hw
        rw [ho] at hy; cases hy; exact q hyd
      · rw [← hc2]
        rcases aput_inv hu1 with ⟨_, e⟩ | ⟨d2, e, hd', e4⟩
        · rw [e]
        · rw [e4, Tr.get_put' _ _ _ _ (Nat.lt_of_lt_of_le hd' hnt), if_neg (by intro r; subst r; exact q e)]
  · intro j' o' e ho' hd hm hb
    rw [done_set (by omega)] at hd ⊢
    rcases hd with rfl | hd
    · rw [ho] at ho'; cases ho'; exact .inr (hready e hm hb)
    · exact .inr (inv.closed j' o' e ho' hd hm hb)

theorem done_none (n i : Nat) : ¬ Done (Array.replicate n false) i := by
  unfold Done
  rw [Array.getD_eq_getD_getElem?]
  by_cases h : i < n
  · simp [h]
  · simp [h]

theorem regionD_sim (hmix : P.follows .mixedOrders = true) (reg : RegOk ops) (hc : CallSim P B call) (hl : ∀ t a, Local (call t a)) {id : Nat} {t t1 : Tr AV} {s s1 : AS} {ρ : Ren} {a : Act} {w : World} (hat : At B ρ s nt t w a) (hf : Free s.nx s1.nx ρ)
    (h : aregionD P call nt ops t s = .ok t1 s1) (b : Frame) (k : List Item) (cs : List Frame) :
    Goes P B ρ s s1 nt t1 w a (lone (b.atR a (.code (.region id ops true) :: k)) cs w) (fun a' w' => lone (b.atR a' k) cs w') := by
  obtain ⟨⟨t', ms⟩, s', h1, h2⟩ := M.bind_inv (show ((aopsD P call nt ops ops.toList 0 t).bind fun x => withB (metOk (Region.before ops) x.2 x.2) <| M.pure x.1) s = .ok t1 s1 from h)
  obtain ⟨h3, h4⟩ := withB_inv h2
  obtain ⟨rfl, rfl⟩ := pure_inv h4
  obtain ⟨f', H, N, T, Rd, Wr, a1, a2, a3, a4, a5, a6, x⟩ := text_of hl hat.nt hat.fine h1 h3
  have hfree : Free (N 0) (N ops.size) ρ := by rw [a2, a5]; exact hf
  let w1 : World := { w with drawn := w.drawn + 1 }
  have rel1 : Rel B ρ s.h w1 := hat.rel.grew (Grew.drew w)
  have inv0 : Inv B ops nt H N T Wr ρ w a (Array.replicate ops.size false) a w1 s.h t ρ := by
    refine ⟨rel1, hat.tr, Ren.le_refl ρ, fun m hm => absurd rfl hm, fun m _ => ⟨0, ⟨Nat.zero_le _, fun i _ _ => ⟨fun q => absurd q (done_none _ _), fun q => absurd q (Nat.not_lt_zero _)⟩⟩, by rw [a1]⟩,
      fun d => ⟨0, ⟨Nat.zero_le _, fun i _ _ => ⟨fun q => absurd q (done_none _ _), fun q => absurd q (Nat.not_lt_zero _)⟩⟩, by rw [a3]⟩, (Grew.drew w).below hat.rel.size, rfl, fun j o e _ q => absurd q (done_none _ _)⟩
  obtain ⟨l', a', w', z1, z2, ⟨h', t', ρ', inv⟩, z3⟩ := order_run (P := P) reg.edges b k cs (fun listed a2 w2 => ∃ h' t' ρ', Inv B ops nt H N T Wr ρ w a listed a2 w2 h' t' ρ')
    (fun listed a2 w2 i o rest q1 ⟨h', t', ρ', inv⟩ q3 q4 q5 => by
      obtain ⟨a3, w3, h3, t3, ρ3, i3, st⟩ := inv_step reg x hc hl hat.nt hat.g hfree q1 inv q3 q4 q5 b k cs rest
      exact ⟨a3, w3, ⟨h3, t3, ρ3, i3⟩, st⟩)
    ops.size (w.tape w.drawn (.order b.fn id)) (Array.replicate ops.size false) a w1 (by simp) (open_all _) ⟨s.h, t, ρ, inv0⟩
  have all : ∀ (W : Nat → Prop), Cut ops.size W (Done l') ops.size := fun W => ⟨Nat.le_refl _, fun i hi _ => ⟨fun _ => hi, fun _ => z2 i hi⟩⟩
  have hend : ∀ m, m < top → s1.h.get m = h'.get m := by
    intro m hm
    obtain ⟨c, c1, c2⟩ := inv.heap m hm
    rw [c2, ← a4]
    exact cut_same (f := fun c => (H c).get m) (fun k hk hw => x.keep k m hk hw hm) (all _) c1
  have tend : ∀ d, t'.get d = (T ops.size).get d := by
    intro d
    obtain ⟨c, c1, c2⟩ := inv.slots d
    rw [c2]
    refine cut_same (f := fun c => (T c).get d) (fun k hk hw => ?_) c1 (all _)
    have hok : ops[k]? = some ops[k] := Array.getElem?_eq_getElem hk
    exact x.slot k _ d hok fun e => hw ⟨_, hok, e⟩
  refine ⟨ρ', a', w', ⟨inv.le, fun m hm => ?_⟩, ⟨?_, inv.rel.congr hend, hat.g.mono inv.le, hat.nt, f'⟩, inv.defers, inv.below, ?_⟩
  · by_cases e : ρ' m = ρ m
    · exact e
    · exfalso
      obtain ⟨i, hi, _, p1, p2⟩ := inv.new m e
      have q1 := mono_N x (Nat.zero_le i) (by omega)
      have q2 := mono_N x (show i + 1 ≤ ops.size from hi) (Nat.le_refl _)
      exact hm ⟨by omega, by omega⟩
  · rw [← a6]
    exact ⟨inv.tr.1, fun i => by rw [← tend i]; exact inv.tr.2 i⟩
  · refine .head stepR_region_draw ?_
    simp only [Region.schedule, hmix, Bool.true_or, if_true]
    exact z3
end
end Go.Rn
