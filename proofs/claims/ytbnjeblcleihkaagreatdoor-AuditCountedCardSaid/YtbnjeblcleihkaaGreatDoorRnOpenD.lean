/- A function's code as a plain program: steps from cut to cut; slices of rows that stay as they are, by value. -/
import Derived.Test.YtbnjeblcleihkaaGreatDoorRnOpenC
import Derived.Test.YtbnjeblcleihkaaGreatDoorRnOpenB
import Derived.Test.YtbnjeblcleihkaaGreatDoorRnSegA
import Derived.Lib.ItoaNum
import Derived.Lib.LaidTab
import Derived.Sort.Grow
import Derived.Deep.Draws
namespace Go.Rn
open Go.RowKit
inductive XRun {C R : Type} (step : C → Option (C ⊕ R)) : C → R → Prop where
  | done {c : C} {r : R} : step c = some (.inr r) → XRun step c r
  | next {c c' : C} {r : R} : step c = some (.inl c') → XRun step c' r → XRun step c r
theorem XRun.det {C R : Type} {step : C → Option (C ⊕ R)} {c : C} {r r' : R} (h : XRun step c r) (k : XRun step c r') : r = r' := by
  induction h with
  | done e => cases k with
    | done e' => rw [e] at e'; injection e' with e'; injection e'
    | next e' _ => rw [e] at e'; cases e'
  | next e _ ih => cases k with
    | done e' => rw [e] at e'; cases e'
    | next e' k' => rw [e] at e'; injection e' with e'; injection e' with e'; subst e'; exact ih k'
noncomputable section
open Classical in
def xrunOf {C R : Type} (step : C → Option (C ⊕ R)) (c : C) : Option R := if h : ∃ r, XRun step c r then some h.choose else none
end
theorem xrunOf_eq {C R : Type} {step : C → Option (C ⊕ R)} {c : C} {r : R} (h : XRun step c r) : xrunOf step c = some r := by
  unfold xrunOf
  have hx : ∃ r, XRun step c r := ⟨r, h⟩
  rw [dif_pos hx, hx.choose_spec.det h]
theorem xrunOf_inv {C R : Type} {step : C → Option (C ⊕ R)} {c : C} {r : R} (h : xrunOf step c = some r) : XRun step c r := by
  unfold xrunOf at h
  split at h
  · rename_i hx; injection h with h; subst h; exact hx.choose_spec
  · cases h
theorem XRun.at_ {C R : Type} {step : C → Option (C ⊕ R)} {S : C → Prop} {E : R → Prop} (hway : ∀ c x, step c = some x → (match x with | .inl c' => S c' | .inr r => E r) → S c) {c : C} {r : R} (h : XRun step c r) (he : E r) : S c := by
  induction h with
  | done e => exact hway _ _ e he
  | next e _ ih => exact hway _ _ e (ih he)
theorem x_guard {p : Prop} [Decidable p] {α : Type} {a : Option α} {x : α} (h : (if p then a else none) = some x) : p ∧ a = some x := by
  by_cases q : p
  · rw [if_pos q] at h; exact ⟨q, h⟩
  · rw [if_neg q] at h; cases h
theorem x_bind {α β : Type} {o : Option α} {f : α → Option β} {x : β} (h : o.bind f = some x) : ∃ a, o = some a ∧ f a = some x := by
  cases o with
  | none => cases h
  | some a => exact ⟨a, rfl, h⟩
theorem x_pos {p : Prop} [Decidable p] {α : Type} {a b : Option α} {x : α} (q : p) (h : (if p then a else b) = some x) : a = some x := by rw [if_pos q] at h; exact h
theorem x_neg {p : Prop} [Decidable p] {α : Type} {a b : Option α} {x : α} (q : ¬ p) (h : (if p then a else b) = some x) : b = some x := by rw [if_neg q] at h; exact h
inductive FSl where
  | nil
  | row (nm o len : Nat)
def FSl.av : FSl → AV
  | .nil => .slice none 0 (.known 0)
  | .row j o len => .rslice (top + j) o len
def FSl.len : FSl → Nat
  | .nil => 0
  | .row _ _ len => len
def FSl.nm : FSl → Nat
  | .nil => top
  | .row j _ _ => top + j
def FSl.o : FSl → Nat
  | .nil => 0
  | .row _ o _ => o
def fsOf : AV → Option FSl
  | .slice none 0 (.known 0) => some .nil
  | .rslice nm o len => if top ≤ nm then some (.row (nm - top) o len) else none
  | _ => none
def FSl.cells (F : Nat → Option (List AV)) (K : Nat) (b : FSl) (z : Int) : Option (List AV) :=
  if 0 ≤ z ∧ z < (b.len : Int) then (F b.nm).bind fun row => if b.o + z.toNat * K + K ≤ row.length then some ((row.drop (b.o + z.toNat * K)).take K) else none else none
def atF {α : Type} (F : Nat → Option (List AV)) (K : Nat) (dec : List AV → Option α) (b : FSl) (z : Int) : Option α := (b.cells F K z).bind dec
theorem FSl.top_le (b : FSl) : top ≤ b.nm := by cases b <;> simp [FSl.nm]
theorem FSl.one (b : FSl) : b.av.oneCell = true := by cases b <;> rfl
theorem FSl.avcells (b : FSl) : b.av.cells = [b.av] := by cases b <;> rfl
theorem fsOf_av {a : AV} {b : FSl} (h : fsOf a = some b) : a = b.av := by
  unfold fsOf at h
  split at h
  · injection h with h; subst h; rfl
  · split at h
    · rename_i nm o len q
      injection h with h; subst h
      show AV.rslice nm o len = .rslice (top + (nm - top)) o len
      rw [Nat.add_sub_cancel' q]
    · cases h
  · cases h
theorem fsOf_back (b : FSl) : fsOf b.av = some b := by
  cases b with
  | nil => rfl
  | row j o len =>
    show (if top ≤ top + j then some (FSl.row (top + j - top) o len) else none) = _
    rw [if_pos (Nat.le_add_right _ _), Nat.add_sub_cancel_left]
structure EncDec {α : Type} (K : Nat) (enc : α → List AV) (dec : List AV → Option α) : Prop where
  len : ∀ a, (enc a).length = K
  one : ∀ a, (enc a).all AV.oneCell = true
  back : ∀ c a, dec c = some a → c = enc a
theorem atF_inv {α : Type} {F : Nat → Option (List AV)} {K : Nat} {enc : α → List AV} {dec : List AV → Option α} {b : FSl} {z : Int} {x : α} (he : EncDec K enc dec) (h : atF F K dec b z = some x) : (0 ≤ z ∧ z < (b.len : Int)) ∧ top ≤ b.nm ∧ ElF F b.nm (b.o + z.toNat * K) (enc x) := by
  obtain ⟨c, h1, h2⟩ := x_bind h
  unfold FSl.cells at h1
  obtain ⟨⟨q1, q2⟩, h1⟩ := x_guard h1
  obtain ⟨row, h3, h4⟩ := x_bind h1
  obtain ⟨h5, h6⟩ := x_guard h4
  injection h6 with h6
  have hc := he.back c x h2
  refine ⟨⟨q1, q2⟩, b.top_le, row, h3, by rw [he.len]; exact h5, ?_⟩
  rw [he.len, h6, hc]
section
variable {P : Program} {s s1 : AS} {call : Caller} {t : Tr AV}
theorem op_idxF {ty e : TypeId} {x i : Operand} {b : FSl} {ik : IntKind} {z : Int} {K : Nat} (h0 : (opd t x, opd t i, P.underlying ty, sizeT P e) = (some b.av, some (.int ik z), some (.slice e), some K)) (hz : 0 ≤ z ∧ z < (b.len : Int)) :
    (opB P (.indexAddr ty x i)).val call t s = .ok (.rptr b.nm (b.o + z.toNat * K)) s := by
  injection h0 with hx h0
  injection h0 with hi h0
  injection h0 with hu hk
  show kIndexAddr P ty x i call t s = _
  unfold kIndexAddr
  rw [hx, hi, withO_some, withO_some]
  obtain ⟨n, rfl⟩ := Int.eq_ofNat_of_zero_le hz.1
  cases b with
  | nil => have := hz.2; simp [FSl.len] at this; omega
  | row nm o len =>
    have hlt : n < len := by have := hz.2; simp [FSl.len] at this; exact this
    have hw : within (↑n) len = some n := by
      show within (Int.ofNat n) len = some n
      unfold within
      have : Nat.blt n len = true := by rw [blt_eq]; exact hlt
      simp only [this]
    unfold indexAddr intOf
    simp only [hu, hk, FSl.av, hw]
    rfl
theorem op_lenF {ts : Array TypeId} {ty e : TypeId} {x : Operand} {b : FSl} (h0 : (opd t x, ts[0]?, P.underlying ty) = (some b.av, some ty, some (.slice e))) :
    (opB P (.call ⟨.builtin .len, #[x], ts⟩)).val call t s = .ok (.int .i64 (b.len : Nat)) s := by
  injection h0 with hx h0
  injection h0 with h0 hu
  show kBuiltin P .len ts [x] call t s = _
  unfold kBuiltin opds opds
  rw [hx]
  show lenT P ts b.av s = _
  have hl : lift ts[0]? s = .ok ty s := by rw [h0]; rfl
  unfold lenT
  show ((lift ts[0]?).bind _) s = _
  rw [M.bind_ok hl]
  cases b <;> (simp only [hu, FSl.av]; rfl)
theorem op_loadF {α : Type} {enc : α → List AV} {dec : List AV → Option α} {sp : Sp} {F : Nat → Option (List AV)} {n : Nat} {ty : TypeId} {a : Operand} {b : FSl} {z : Int} {K : Nat} {x : α} (he : EncDec K enc dec) (hx : atF F K dec b z = some x) (h0 : (opd t a, aggT P ty, sizeT P ty) = (some (.rptr b.nm (b.o + z.toNat * K)), some true, some K)) :
    (opB P (.load ty a)).val (arunI P sp F n) t s = .ok (.agg (enc x)) s := by
  injection h0 with ha h0
  injection h0 with hg hk
  obtain ⟨_, q2, q3⟩ := atF_inv he hx
  exact op_load ha q2 q3 hg (by rw [hk, he.len])
theorem op_load1F {α : Type} {enc : α → List AV} {dec : List AV → Option α} {sp : Sp} {F : Nat → Option (List AV)} {n : Nat} {ty : TypeId} {a : Operand} {b : FSl} {z : Int} {K j k : Nat} {x : α} {y : AV} (he : EncDec K enc dec) (hx : atF F K dec b z = some x) (h0 : (opd t a, aggT P ty, sizeT P ty) = (some (.rptr b.nm (b.o + z.toNat * K + j)), some false, some k)) (hy : (enc x)[j]? = some y) :
    (opB P (.load ty a)).val (arunI P sp F n) t s = .ok y s := by
  injection h0 with ha h0
  injection h0 with hg hk
  obtain ⟨_, q2, q3⟩ := atF_inv he hx
  exact op_load1 ha q2 (q3.cell hy) hg hk
end
end Go.Rn
namespace Go.Rn
theorem XRun.back {C R : Type} {step : C → Option (C ⊕ R)} {T : C ⊕ R → Prop} (hway : ∀ c x, step c = some x → T x → T (.inl c)) {c : C} {r : R} (h : XRun step c r) (he : T (.inr r)) : T (.inl c) := by
  induction h with
  | done e => exact hway _ _ e he
  | next e _ ih => exact hway _ _ e (ih he)
end Go.Rn

namespace Go.Rn
open Go.RowKit
theorem wrap_id (k : IntKind) (lo hi : Int) (n : Int) (h : lo ≤ n ∧ n ≤ hi) (hk : (k.signed = true ∧ lo = -(2 ^ (k.bits - 1) : Int) ∧ hi = (2 ^ (k.bits - 1) : Int) - 1 ∧ (2 ^ k.bits : Int) = 2 * (2 ^ (k.bits - 1) : Int) ∧ (0 : Int) < (2 ^ (k.bits - 1) : Int)) ∨ (k.signed = false ∧ lo = 0 ∧ hi = (2 ^ k.bits : Int) - 1)) : IntKind.wrap k n = n := by
  unfold IntKind.wrap
  rcases hk with ⟨hs, h1, h2, h3, h4⟩ | ⟨hs, h1, h2⟩
  · simp only [hs, Bool.true_and, decide_eq_true_eq]
    subst h1; subst h2
    rw [h3]
    generalize (2 ^ (k.bits - 1) : Int) = p at *
    by_cases q : 0 ≤ n
    · have : n % (2 * p) = n := Int.emod_eq_of_lt q (by omega)
      rw [this, if_neg (by omega)]
    · have : n % (2 * p) = n + 2 * p := by
        rw [← Int.add_emod_right, Int.emod_eq_of_lt (by omega) (by omega)]
      rw [this, if_pos (by omega)]; omega
  · simp only [hs, Bool.false_and]
    subst h1; subst h2
    have : n % (2 ^ k.bits : Int) = n := Int.emod_eq_of_lt h.1 (by omega)
    simp [this]
theorem wrap_i64_in {n : Int} (h : -9223372036854775808 ≤ n ∧ n ≤ 9223372036854775807) : IntKind.wrap .i64 n = n := wrap_id .i64 _ _ n h (.inl ⟨rfl, by decide, by decide, by decide, by decide⟩)
theorem wrap_u8_in {n : Int} (h : 0 ≤ n ∧ n ≤ 255) : IntKind.wrap .u8 n = n := wrap_id .u8 _ _ n h (.inr ⟨rfl, by decide, by decide⟩)
theorem wrap_u32_in {n : Int} (h : 0 ≤ n ∧ n ≤ 4294967295) : IntKind.wrap .u32 n = n := wrap_id .u32 _ _ n h (.inr ⟨rfl, by decide, by decide⟩)
theorem wrap_u64_in {n : Int} (h : 0 ≤ n ∧ n ≤ 18446744073709551615) : IntKind.wrap .u64 n = n := wrap_id .u64 _ _ n h (.inr ⟨rfl, by decide, by decide⟩)
theorem wrap_u8_i64 {n : Int} (h : 0 ≤ n ∧ n ≤ 255) : IntKind.wrap .i64 n = n := wrap_i64_in (by omega)
section
variable {P : Program} {s s1 : AS} {call : Caller} {t : Tr AV}
theorem op_min {ts : Array TypeId} {x y : Operand} {k : IntKind} {a b : Int} (h : opds (opd t) [x, y] = some [.int k a, .int k b]) : (opB P (.call ⟨.builtin .min, #[x, y], ts⟩)).val call t s = .ok (.int k (min a b)) s := by
  show kBuiltin P .min ts [x, y] call t s = _
  unfold kBuiltin
  rw [h, withO_some]
  show lift (some (AV.int k (match decide (b < a) with | true => b | false => a))) s = _
  have : (match decide (b < a) with | true => b | false => a) = min a b := by
    by_cases q : b < a
    · rw [decide_eq_true q]; show b = min a b; omega
    · rw [decide_eq_false q]; show a = min a b; omega
  rw [this]; rfl
end
def hi1 (F : Nat → Option (List AV)) (x : AV) : Prop := x.flat = true ∨ ∃ b : FSl, x = b.av ∧ (b = .nil ∨ F b.nm ≠ none)
def hiOk (F : Nat → Option (List AV)) (x : AV) : Prop := hi1 F x ∨ ∃ l, (x = .agg l ∨ x = .tuple l) ∧ ∀ y ∈ l, hi1 F y
theorem hi1.vr {F : Nat → Option (List AV)} {ρ σ : Ren} (hρ : ∀ k y, F k ≠ none → ρ k = some y → σ k = some y) {x : AV} {v : Value} (h : hi1 F x) (k : VR ρ x v) : VR σ x v := by
  rcases h with h | ⟨b, rfl, h⟩
  · exact VR.flat h k
  · cases b with
    | nil =>
      simp only [FSl.av, VR] at k ⊢
      exact k
    | row j o len =>
      rcases h with h | h
      · cases h
      · simp only [FSl.av, VR] at k ⊢
        obtain ⟨b, sh, c, q1, q2⟩ := k
        exact ⟨b, sh, c, hρ _ _ h q1, q2⟩
theorem hiOk.vr {F : Nat → Option (List AV)} {ρ σ : Ren} (hρ : ∀ k y, F k ≠ none → ρ k = some y → σ k = some y) {x : AV} {v : Value} (h : hiOk F x) (k : VR ρ x v) : VR σ x v := by
  have go : ∀ (l : List AV) (vs : List Value), (∀ y ∈ l, hi1 F y) → VRs ρ l vs → VRs σ l vs := by
    intro l
    induction l with
    | nil => intro vs _ hv; simpa only [VRs] using hv
    | cons y l ih =>
      intro vs hy hv
      simp only [VRs] at hv ⊢
      obtain ⟨a, as, e, h1, h2⟩ := hv
      exact ⟨a, as, e, (hy y List.mem_cons_self).vr hρ h1, ih as (fun z hz => hy z (List.mem_cons_of_mem _ hz)) h2⟩
  rcases h with h | ⟨l, rfl | rfl, h⟩
  · exact h.vr hρ k
  · simp only [VR] at k ⊢; obtain ⟨a, e, q⟩ := k; exact ⟨a, e, go _ _ h q⟩
  · simp only [VR] at k ⊢; obtain ⟨a, e, q⟩ := k; exact ⟨a, e, go _ _ h q⟩
theorem hiOks.vr {F : Nat → Option (List AV)} {ρ σ : Ren} (hρ : ∀ k y, F k ≠ none → ρ k = some y → σ k = some y) : ∀ {l : List AV} {vs : List Value}, (∀ y ∈ l, hiOk F y) → VRs ρ l vs → VRs σ l vs
  | [], _, _, hv => by simpa only [VRs] using hv
  | y :: l, vs, hy, hv => by
    simp only [VRs] at hv ⊢
    obtain ⟨a, as, e, h1, h2⟩ := hv
    exact ⟨a, as, e, (hy y List.mem_cons_self).vr hρ h1, hiOks.vr hρ (fun z hz => hy z (List.mem_cons_of_mem _ hz)) h2⟩
noncomputable section
end
end Go.Rn

namespace Go.Rn
open Go.RowKit
def fsOk (F : Nat → Option (List AV)) (b : FSl) : Prop := b = .nil ∨ F b.nm ≠ none
noncomputable instance (F : Nat → Option (List AV)) (b : FSl) : Decidable (fsOk F b) := Classical.propDecidable _
def SpAll (P : Program) (F : Nat → Option (List AV)) (sp : Sp) : Prop := ∀ B : Base, B.F = F → SpOk P B sp
def updS (sp : Sp) (g : FuncId) (m : Caller → List AV → M AV) : Sp := fun f => bif Nat.beq f g then some m else sp f
theorem SpAll.nothing {P : Program} {F : Nat → Option (List AV)} : SpAll P F (fun _ => none) := fun _ _ => ⟨fun f m h => (by cases h), fun f m h => (by cases h)⟩
theorem updS_self (sp : Sp) (g : FuncId) (m : Caller → List AV → M AV) : updS sp g m g = some m := by unfold updS; rw [beqN_true.2 rfl]; rfl
theorem updS_cases {sp : Sp} {g : FuncId} {m m' : Caller → List AV → M AV} {f : FuncId} (h : updS sp g m f = some m') : (f = g ∧ m' = m) ∨ sp f = some m' := by
  unfold updS at h
  cases e : Nat.beq f g with
  | true => rw [e] at h; injection h with h; exact .inl ⟨Nat.eq_of_beq_eq_true e, h.symm⟩
  | false => rw [e] at h; exact .inr h
theorem SpAll.upd {P : Program} {F : Nat → Option (List AV)} {sp : Sp} {g : FuncId} {m : Caller → List AV → M AV} (h : SpAll P F sp) (hl : ∀ call : Caller, (∀ t a, Local (call t a)) → ∀ args, Local (m call args))
    (hs : ∀ B : Base, B.F = F → ∀ call : Caller, CallSim P B call → (∀ t a, Local (call t a)) → ∀ (args : List AV) (x : AV) (s s1 : AS) (ρ : Ren) (w : World) (vs : Array Value), Fine s → Rel B ρ s.h w → RenG ρ → Free s.nx s1.nx ρ →
      m call args s = .ok x s1 → VRs ρ args vs.toList → Back P ((callFunc g vs).run P w) (Came B ρ s s1 w x)) : SpAll P F (updS sp g m) := by
  intro B hB
  refine ⟨fun f m' e call hl' args => ?_, fun f m' e call hc hl' args x s s1 ρ w vs fi r hg hf hm hv => ?_⟩
  · rcases updS_cases e with ⟨_, rfl⟩ | e
    · exact hl call hl' args
    · exact (h B hB).loc f m' e call hl' args
  · rcases updS_cases e with ⟨rfl, rfl⟩ | e
    · exact hs B hB call hc hl' args x s s1 ρ w vs fi r hg hf hm hv
    · exact (h B hB).sim f m' e call hc hl' args x s s1 ρ w vs fi r hg hf hm hv
end Go.Rn
namespace Go.Rn
end Go.Rn

namespace Go.Rn
open Go.RowKit
theorem tabM_sim {P : Program} {B : Base} {f nx0 : Nat} {ns : List Nat} {h0 : Tr AObj} {val : List AV → Option AV} {fn : Func} {body : Code} {ρ : Ren} {w : World} {s s1 : AS} (hP : ProgOk P) (hfn : P.funcs[f]? = some fn) (hbody : fn.body = some body) (hname : (fn.name == "runtime.NumGoroutine") = false)
    (hg0 : globs ≤ nx0) (ht0 : nx0 ≤ top) (hall : ∀ n o, n < top → h0.get n = some o → n ∈ ns) (hns : ∀ n ∈ ns, n < nx0)
    (hval : ∀ args v, val args = some v → (∀ (ρ σ : Ren) vs, VRs ρ args vs → VRs σ args vs) ∧ (∀ (ρ σ : Ren) x, VR ρ v x → VR σ v x) ∧ max fn.ntmps args.length ≤ top ∧
      Sim P (baseOf w) nx0 (Fin P fn.results.toList fun y _ => y = v) ⟨f, fillArgs args, max fn.ntmps args.length, [.code body], [], none⟩ ⟨h0, nx0, 0, [], []⟩)
    {call : Caller} {args : List AV} {x : AV} {vs : Array Value} (r : Rel B ρ s.h w) (hg : RenG ρ) (h : knownM nx0 ns h0 val call args s = .ok x s1) (hv : VRs ρ args vs.toList) : Back P ((callFunc f vs).run P w) (Came B ρ s s1 w x) := by
  obtain ⟨u, s2, h2, h3⟩ := M.bind_inv (show ((checkAll nx0 h0 ns).bind fun _ => withO (val args) fun v => M.pure v) s = .ok x s1 from h)
  obtain ⟨v, h4, h5⟩ := withO_inv h3
  obtain ⟨rfl, rfl⟩ := pure_inv h5
  obtain ⟨a1, a2, a3⟩ := checkAll_inv h2
  obtain ⟨q1, q2, q3, q4⟩ := hval _ _ h4
  have S : Start nx0 h0 (fun k => if k < nx0 then ρ k else none) w := by
    refine ⟨fun k hk => ?_, fun k hk => ?_, fun n o hn ho => ?_⟩
    · obtain ⟨N, e⟩ := hg k hk
      exact ⟨N, by rw [if_pos (Nat.lt_of_lt_of_le hk hg0)]; exact e⟩
    · show (if k < nx0 then ρ k else none) = none
      rw [if_neg (by omega)]
    · have hin := hall n o hn ho
      obtain ⟨c1, p1, p2, c2, c3, c4⟩ := a3 n hin
      rw [ho] at c3; cases c3
      obtain ⟨b, N, o', i1, i2, i3, _⟩ := r.is n p1 hn c2
      obtain ⟨j1, j2⟩ := roSame_sim c4 i3
      exact ⟨j1, b, N, o', by show (if n < nx0 then ρ n else none) = _; rw [if_pos (hns n hin)]; exact i1, i2, j2⟩
  have fi : Fine (⟨h0, nx0, 0, [], []⟩ : AS) := ⟨Nat.zero_le _, ht0⟩
  have hcall := Sim.calls (s := ⟨h0, nx0, 0, [], []⟩) (args := args) (vs := vs) hP hfn hbody q3 q4 fi S.rel S.g (fun k h1 _ => S.free k h1) (q1 _ _ _ hv)
  rw [callFunc_run hfn hbody hname]
  show Calls P f vs w _
  refine hcall.mono fun e w' => ?_
  rintro ⟨y, x', s4, rfl, rfl, _, _, σ, _, hx, _, hbel⟩
  have hb' := hbel.below
  have gr : Grew w w' := ⟨hb'.os, hb'.tape, hb'.output, hb'.size, fun k hk => hb'.block k hk⟩
  exact ⟨y, rfl, ρ, by rw [a2]; exact Ext.refl _ _ _, q2 _ _ _ hx, by rw [a1]; exact r.grew gr, gr.below r.size⟩
noncomputable section
def chkS (nx0 : Nat) (h0 : Tr AObj) (ns : List Nat) (s : AS) : AS := match checkAll nx0 h0 ns s with | .ok _ s1 => s1 | .bad => s
def chkB (nx0 : Nat) (h0 : Tr AObj) (ns : List Nat) (s : AS) : Bool := match checkAll nx0 h0 ns s with | .ok _ _ => true | .bad => false
end
theorem chk_ok {nx0 : Nat} {h0 : Tr AObj} {ns : List Nat} {s : AS} (h : chkB nx0 h0 ns s = true) : checkAll nx0 h0 ns s = .ok () (chkS nx0 h0 ns s) := by
  unfold chkB at h
  unfold chkS
  cases e : checkAll nx0 h0 ns s with
  | bad => rw [e] at h; cases h
  | ok u s1 => rfl
theorem knownM_ok {nx0 : Nat} {h0 : Tr AObj} {ns : List Nat} {val : List AV → Option AV} {call : Caller} {args : List AV} {v : AV} {s : AS} (hv : val args = some v) (hk : chkB nx0 h0 ns s = true) : knownM nx0 ns h0 val call args s = .ok v (chkS nx0 h0 ns s) := by
  unfold knownM
  rw [M.bind_ok (chk_ok hk), hv, withO_some]
  rfl
theorem known_says {P : Program} {F : Nat → Option (List AV)} {sp : Sp} {g : FuncId} {nx0 : Nat} {h0 : Tr AObj} {ns : List Nat} {val : List AV → Option AV} (h : sp g = some (knownM nx0 ns h0 val)) {args : List AV} {v : AV} {n : Nat} {s : AS} (hv : val args = some v) (hk : chkB nx0 h0 ns s = true) : arunI P sp F (n + 1) (.fn g) args s = .ok v (chkS nx0 h0 ns s) := by
  show fnI P sp g (arunI P sp F n) args s = _
  rw [fnI_sp h]
  exact knownM_ok hv hk
section
variable {P : Program} {s s1 : AS} {call : Caller} {t : Tr AV}
theorem op_strAdd {ty yt : TypeId} {x y : Operand} {a b : ByteArray} {n m : Nat} (h0 : (opd t x, opd t y) = (some (.str a), some (.str b))) (ha : a.size ≤ n) (hb : b.size ≤ m) (hr : Nat.ble (n + m) room = true) : (opB P (.binOp .add ty x y yt)).val call t s = .ok (.str (a ++ b)) s := by
  injection h0 with hx hy
  show kBin P .add ty x y call t s = _
  unfold kBin
  rw [hx, hy, withO_some, withO_some]
  show withB true (lift (binOpT P .add ty (.str a) (.str b))) s = _
  rw [withB_true]
  have hle : Nat.ble (a.size + b.size) room = true := ble_true.2 (Nat.le_trans (Nat.add_le_add ha hb) (ble_true.1 hr))
  show lift (match Nat.ble (a.size + b.size) room with | true => some (AV.str (a ++ b)) | false => none) s = _
  rw [hle]
  rfl
theorem op_strSame {ty yt : TypeId} {x y : Operand} {a b : ByteArray} (h0 : (opd t x, opd t y) = (some (.str a), some (.str b))) (h : a = b) : (opB P (.binOp .eql ty x y yt)).val call t s = .ok (.bool true) s := by
  injection h0 with hx hy
  subst h
  show kBin P .eql ty x y call t s = _
  unfold kBin
  rw [hx, hy, withO_some, withO_some]
  show withB true (lift (some (AV.bool (a.toList == a.toList)))) s = _
  rw [withB_true, beq_self_eq_true]
  rfl
theorem op_quo {ty yt : TypeId} {x y : Operand} {k : IntKind} {a b c : Int} (hx : opd t x = some (.int k a)) (hy : opd t y = some (.int k b)) (h0 : b ≠ 0) (h : k.wrap (a.tdiv b) = c) : (opB P (.binOp .quo ty x y yt)).val call t s = .ok (.int k c) s :=
  bin_int hx hy rfl rfl (by subst h; simp only [intOp, decide_eq_false h0])
theorem op_neg {ty : TypeId} {x : Operand} {k : IntKind} {a c : Int} (hx : opd t x = some (.int k a)) (h : k.wrap (0 - a) = c) : (opB P (.unOp .neg ty x)).val call t s = .ok (.int k c) s := by
  show kUn .neg x call t s = _
  unfold kUn
  rw [hx, withO_some]
  subst h
  rfl
end
theorem joinStrs_ok {a : Option (Nat × Nat)} {n : Nat} {c : Cap} {sep : ByteArray} {s s1 : AS} {l : List AV} {ts : List (List UInt8)} {m : Nat} (h1 : Nat.ble n (capLow n c) = true) (h2 : firstCells 1 n (.slice a n c) s = .ok l s1) (h3 : textsOf l = some ts) (h4 : (joinTexts sep.data.toList ts).length + n ≤ 1048576) :
    joinStrs [.slice a n c, .str sep] s = .ok (.str ⟨(joinTexts sep.data.toList ts).toArray⟩) s1 := by
  unfold joinStrs
  show ((need (Nat.ble n (capLow n c))).bind fun _ => (firstCells 1 n (.slice a n c)).bind fun l => (lift (textsOf l)).bind fun ts => (need (Nat.ble ((joinTexts sep.data.toList ts).length + n) 1048576)).bind fun _ => M.pure (AV.str ⟨(joinTexts sep.data.toList ts).toArray⟩)) s = _
  rw [h1]
  rw [M.bind_ok (show need true s = .ok () s from rfl), M.bind_ok h2, M.bind_ok (show lift (textsOf l) s1 = .ok ts s1 by rw [h3]; rfl), ble_true.2 h4, M.bind_ok (show need true s1 = .ok () s1 from rfl)]
  rfl
theorem join_says {P : Program} {F : Nat → Option (List AV)} {sp : Sp} {g : FuncId} (h : sp g = some (fun _ args => joinStrs args)) {n : Nat} {a : Option (Nat × Nat)} {k : Nat} {c : Cap} {sep : ByteArray} {s s1 : AS} {l : List AV} {ts : List (List UInt8)} (h0 : (Nat.ble k (capLow k c), firstCells 1 k (.slice a k c) s, textsOf l) = (true, .ok l s1, some ts)) (h4 : (joinTexts sep.data.toList ts).length + k ≤ 1048576) :
    arunI P sp F (n + 1) (.fn g) [.slice a k c, .str sep] s = .ok (.str ⟨(joinTexts sep.data.toList ts).toArray⟩) s1 := by
  injection h0 with h1 h0
  injection h0 with h2 h3
  show fnI P sp g (arunI P sp F n) _ s = _
  rw [fnI_sp h]
  exact joinStrs_ok (m := 0) h1 h2 h3 h4
def itoaB (n : Int) : ByteArray := ⟨(Go.Lib.itoa n).toArray⟩
theorem lit_size (l : List UInt8) : (⟨l.toArray⟩ : ByteArray).size = l.length := by show l.toArray.size = _; simp
theorem nDigits_le : ∀ (k u : Nat), u < 10 ^ (k + 1) → Go.Lib.nDigits u ≤ k + 1
  | 0, u, h => by rw [Go.Lib.nDigits_small (by simpa using h)]; exact Nat.le_refl _
  | k + 1, u, h => by
    by_cases q : u < 10
    · rw [Go.Lib.nDigits_small q]; omega
    · rw [Go.Lib.nDigits_big q]
      have := nDigits_le k (u / 10) (by rw [Nat.pow_succ] at h; omega)
      omega
def i64In (n : Int) : Prop := -9223372036854775808 ≤ n ∧ n ≤ 9223372036854775807
instance (n : Int) : Decidable (i64In n) := by unfold i64In; infer_instance
theorem itoa_len {n : Int} (h : i64In n) : (Go.Lib.itoa n).length ≤ 20 := by
  obtain ⟨h1, h2⟩ := h
  unfold Go.Lib.itoa
  split
  · rw [List.length_cons, Go.Lib.decDigits_length]
    have := nDigits_le 18 n.natAbs (by have : (10 : Nat) ^ 19 = 10000000000000000000 := by decide
                                       omega)
    omega
  · rw [Go.Lib.decDigits_length]
    have := nDigits_le 18 n.toNat (by have : (10 : Nat) ^ 19 = 10000000000000000000 := by decide
                                      omega)
    omega
theorem itoaB_size {n : Int} (h : i64In n) : (itoaB n).size ≤ 20 := by unfold itoaB; rw [lit_size]; exact itoa_len h
theorem cat_data (a b : ByteArray) : (a ++ b).data = a.data ++ b.data := by simp
theorem cat_lists (a b : List UInt8) : (⟨a.toArray⟩ : ByteArray) ++ ⟨b.toArray⟩ = ⟨(a ++ b).toArray⟩ := by
  apply ByteArray.ext
  rw [cat_data]
  simp
theorem cat_size {a b : ByteArray} {n m : Nat} (ha : a.size ≤ n) (hb : b.size ≤ m) : (a ++ b).size ≤ n + m := by
  have : (a ++ b).size = a.size + b.size := ByteArray.size_append
  omega
theorem decDigits_big {u : Nat} (h : 10 ≤ u) : Go.Lib.decDigits u = Go.Lib.decDigits (u / 10) ++ [UInt8.ofNat (48 + u % 10)] := by
  rw [Go.Lib.decDigits, dif_neg (by omega)]
theorem itoaB_small {n : Int} (h0 : 0 ≤ n) (h1 : n < 10) : itoaB n = ⟨#[UInt8.ofNat (Int.toNat (48 + n))]⟩ := by
  unfold itoaB Go.Lib.itoa
  rw [if_neg (by omega), Go.Lib.decDigits_one (by omega), show Int.toNat (48 + n) = 48 + n.toNat by omega]
theorem itoaB_step {n : Int} (h0 : 10 ≤ n) : itoaB (n.tdiv 10) ++ ⟨#[UInt8.ofNat (Int.toNat (48 + n.tmod 10))]⟩ = itoaB n := by
  obtain ⟨k, rfl⟩ := Int.eq_ofNat_of_zero_le (show 0 ≤ n by omega)
  have e1 : (Int.tdiv (k : Int) 10) = ((k / 10 : Nat) : Int) := rfl
  have e2 : (Int.tmod (k : Int) 10) = ((k % 10 : Nat) : Int) := rfl
  rw [e1, e2]
  unfold itoaB Go.Lib.itoa
  rw [if_neg (by omega), if_neg (by omega)]
  show (⟨(Go.Lib.decDigits (k / 10)).toArray⟩ : ByteArray) ++ ⟨[UInt8.ofNat (Int.toNat (48 + ((k % 10 : Nat) : Int)))].toArray⟩ = ⟨(Go.Lib.decDigits k).toArray⟩
  rw [cat_lists, decDigits_big (u := k) (by omega), show Int.toNat (48 + ((k % 10 : Nat) : Int)) = 48 + k % 10 by omega]
theorem itoaB_neg {n : Int} (h : n < 0) : (⟨#[45]⟩ : ByteArray) ++ itoaB (0 - n) = itoaB n := by
  unfold itoaB Go.Lib.itoa
  rw [if_neg (show ¬ 0 - n < 0 by omega), if_pos h]
  show (⟨[45].toArray⟩ : ByteArray) ++ _ = _
  rw [cat_lists, show (0 - n).toNat = n.natAbs by omega]
  rfl
theorem itoaB_nstep {n : Int} (h0 : n ≤ -10) : itoaB (n.tdiv 10) ++ ⟨#[UInt8.ofNat (Int.toNat (48 + (0 - n.tmod 10)))]⟩ = itoaB n := by
  obtain ⟨k, rfl⟩ : ∃ k : Nat, n = -((k : Nat) : Int) := ⟨n.natAbs, by omega⟩
  have e1 : (Int.tdiv (-(k : Int)) 10) = -((k / 10 : Nat) : Int) := by rw [Int.neg_tdiv]; rfl
  have e2 : (Int.tmod (-(k : Int)) 10) = -((k % 10 : Nat) : Int) := by rw [Int.neg_tmod]; rfl
  rw [e1, e2]
  unfold itoaB Go.Lib.itoa
  rw [if_pos (by omega), if_pos (by omega)]
  show (⟨(45 :: Go.Lib.decDigits (-((k / 10 : Nat) : Int)).natAbs).toArray⟩ : ByteArray) ++ ⟨[UInt8.ofNat (Int.toNat (48 + (0 - -((k % 10 : Nat) : Int))))].toArray⟩ = ⟨(45 :: Go.Lib.decDigits (-(k : Int)).natAbs).toArray⟩
  rw [cat_lists, show (-((k / 10 : Nat) : Int)).natAbs = k / 10 by omega, show (-(k : Int)).natAbs = k by omega, decDigits_big (u := k) (by omega), show Int.toNat (48 + (0 - -((k % 10 : Nat) : Int))) = 48 + k % 10 by omega]
  rfl
theorem itoaB_nsmall {n : Int} (h0 : n < 0) (h1 : -10 < n) : (⟨#[45]⟩ : ByteArray) ++ ⟨#[UInt8.ofNat (Int.toNat (48 + (0 - n)))]⟩ = itoaB n := by
  rw [← itoaB_neg h0, itoaB_small (by omega) (by omega)]
theorem itoaB_min : itoaB (-9223372036854775808) = ⟨#[45, 57, 50, 50, 51, 51, 55, 50, 48, 51, 54, 56, 53, 52, 55, 55, 53, 56, 48, 56]⟩ := by
  unfold itoaB Go.Lib.itoa
  rw [if_pos (by decide), Go.Lib.decDigits_eq, Go.Lib.nDigits_unique 18 _ (by decide) (by decide)]
  rfl
end Go.Rn

namespace Go.Rn
open Go.RowKit
theorem below_grow (w : World) (k : Nat) (os : Array Obj) : Below w.heap.size w (Go.Sort.grow (w.drewN k) os) := by
  refine ⟨rfl, rfl, rfl, ?_, fun j hj => ?_⟩
  · show w.heap.size ≤ (w.heap ++ os).size
    rw [Array.size_append]; omega
  · show (w.heap ++ os)[j]? = w.heap[j]?
    rw [Array.getElem?_append_left hj]
noncomputable section
def powT : Tr AV := Tr.fill (Go.Lib.pow10Tab.map fun n : Int => AV.int .u64 n) 0 .nil
def fmtL : List AV → Option AV
  | [.int .i64 n, .int .i64 (.ofNat 10)] => if i64In n then some (.str (itoaB n)) else none
  | _ => none
end
theorem fmt_sim {P : Program} {B : Base} {f g nx0 : Nat} {ns : List Nat} {h0 : Tr AObj} {fn : Func} {body : Code} {ρ : Ren} {w : World} {s s1 : AS} (hm : P.globalNamed "internal/strconv.uint64pow10" = some g)
    (hcon : ∀ (n : Int), -9223372036854775808 ≤ n → n ≤ 9223372036854775807 → ∀ w : World, Go.Lib.TabIs P w "internal/strconv.uint64pow10" .u64 Go.Lib.pow10Tab → Calls P f #[.int .i64 n, .int .i64 10] w fun e w' => e = .returned (.string ⟨(Go.Lib.itoa n).toArray⟩) ∧ ∃ k os, w' = Go.Sort.grow (w.drewN k) os)
    (hfn : P.funcs[f]? = some fn) (hbody : fn.body = some body) (hname : (fn.name == "runtime.NumGoroutine") = false) (hgg : g < globs) (hin : g ∈ ns) (h0g : h0.get g = some (.ro 20 powT))
    {call : Caller} {args : List AV} {x : AV} {vs : Array Value} (r : Rel B ρ s.h w) (hg : RenG ρ) (h : knownM nx0 ns h0 fmtL call args s = .ok x s1) (hv : VRs ρ args vs.toList) : Back P ((callFunc f vs).run P w) (Came B ρ s s1 w x) := by
  obtain ⟨u, s2, h2, h3⟩ := M.bind_inv (show ((checkAll nx0 h0 ns).bind fun _ => withO (fmtL args) fun v => M.pure v) s = .ok x s1 from h)
  obtain ⟨v, h4, h5⟩ := withO_inv h3
  obtain ⟨rfl, rfl⟩ := pure_inv h5
  obtain ⟨a1, a2, a3⟩ := checkAll_inv h2
  unfold fmtL at h4
  split at h4
  · rename_i z
    by_cases hz : i64In z
    · rw [if_pos hz] at h4
      injection h4 with h4
      subst h4
      obtain ⟨vs⟩ := vs
      have hvs : vs = [.int .i64 z, .int .i64 10] := by
        match vs, hv with
        | [v, v2], hv =>
          simp only [VRs, VR] at hv
          obtain ⟨v', l', e1, e2, v'', l'', e3, e4, e5⟩ := hv
          simp_all
        | [], hv => simp [VRs, VR] at hv
        | [_], hv =>
          simp only [VRs, VR] at hv
          obtain ⟨v', l', e1, e2, v'', l'', e3, e4, e5⟩ := hv
          simp_all
        | _ :: _ :: _ :: _, hv =>
          simp only [VRs, VR] at hv
          obtain ⟨v', l', e1, e2, v'', l'', e3, e4, e5⟩ := hv
          simp_all
      subst hvs
      rw [callFunc_run hfn hbody hname]
      obtain ⟨hs, o, p, c2, c3, c4⟩ := a3 g hin
      rw [h0g] at c3; cases c3
      obtain ⟨b, N, o', i1, i2, i3, _⟩ := r.is g o (Nat.lt_trans hgg (by unfold globs top; decide)) c2
      obtain ⟨N', hN⟩ := hg g hgg
      rw [hN] at i1
      injection i1 with i1
      injection i1 with i1 i1'
      subst i1
      obtain ⟨_, c, e, fr, rfl, hsz, hle, hrow⟩ := roSame_sim c4 i3
      have hT : Go.Lib.TabIs P w "internal/strconv.uint64pow10" .u64 Go.Lib.pow10Tab := by
        unfold Go.Lib.TabIs World.var?
        rw [hm]
        show (match w.heap[g]? with | some (.cells cs _ _) => some cs | _ => none) = _
        rw [i2]
        show some c = _
        congr 1
        apply Array.ext_getElem?
        intro j
        by_cases hj : j < 20
        · obtain ⟨y, v, g1, _, g3, g4⟩ := hrow j hj
          unfold powT at g1
          rw [fill_get _ (by rw [List.length_map, Go.Lib.pow10Tab_length]; unfold top; decide) j (by rw [List.length_map, Go.Lib.pow10Tab_length]; exact hj), List.getElem?_map] at g1
          have hjj : Go.Lib.pow10Tab[j]? = some (Go.Lib.pow10Tab[j]'(by rw [Go.Lib.pow10Tab_length]; exact hj)) := List.getElem?_eq_getElem _
          rw [hjj] at g1
          injection g1 with g1
          subst g1
          have g5 : v = .int .u64 (Go.Lib.pow10Tab[j]'(by rw [Go.Lib.pow10Tab_length]; exact hj)) := by simpa only [VR] using g4
          rw [g3, g5, List.getElem?_toArray, List.getElem?_map, hjj]
          rfl
        · rw [Array.getElem?_eq_none (by omega), List.getElem?_toArray, List.getElem?_eq_none (by rw [List.length_map, Go.Lib.pow10Tab_length]; omega)]
      have hcall := hcon z hz.1 hz.2 w hT
      refine Calls.mono hcall fun e w' => ?_
      rintro ⟨rfl, k, os, rfl⟩
      have hb := below_grow w k os
      have gr : Grew w (Go.Sort.grow (w.drewN k) os) := ⟨hb.os, hb.tape, hb.output, hb.size, fun k hk => hb.block k hk⟩
      exact ⟨_, rfl, ρ, by rw [a2]; exact Ext.refl _ _ _, by simp only [VR]; rfl, by rw [a1]; exact r.grew gr, gr.below r.size⟩
    · rw [if_neg hz] at h4; cases h4
  · cases h4
end Go.Rn

namespace Go.Rn
open Go.RowKit
noncomputable section
def finV (P : Program) (call : Caller) (rs : List ResultVar) (k : Nat) (fr : AF) (s : AS) : Option AV :=
  match arow P call k fr s with
  | .ok (.leave fr1 j) s1 => (match finish P rs fr1 j s1 with | .ok x _ => some x | .bad => none)
  | _ => none
def finR (P : Program) (call : Caller) (rs : List ResultVar) (f nt : Nat) (K : List Item) (ops : Array Oper) (i k : Nat) (t : Tr AV) (s : AS) : Option AV :=
  match runOps P call nt ops i (ops.size - i) t s with
  | .ok t1 s1 => finV P call rs k ⟨f, t1, nt, K, [], none⟩ s1
  | .bad => none
def finD (P : Program) (call : Caller) (rs : List ResultVar) (f nt : Nat) (K : List Item) (ops : Array Oper) (acc : List Met) (i k : Nat) (t : Tr AV) (s : AS) : Option AV :=
  match runD P call nt ops i (ops.size - i) t s with
  | .ok (t1, ms) s1 => (match metOk (Region.before ops) (acc ++ ms) (acc ++ ms) with | true => finV P call rs k ⟨f, t1, nt, K, [], none⟩ s1 | false => none)
  | .bad => none
end
section
variable {P : Program} {B : Base} {nx0 : Nat} {s s1 : AS} {call : Caller} {t : Tr AV} {ops : Array Oper} {f nt i : Nat} {K : List Item} {G : AF → AS → Prop} {acc : List Met} {rs : List ResultVar} {v v' : AV}
theorem Chunk.jump (hG : Chunk P call G) (k : Nat) (l : List (Nat × AV)) (L : List (Nat × Option AObj)) (nx1 : Nat) {K1 : List Item} (H : G ⟨f, putL t l, nt, K1, [], none⟩ (updA s L nx1 [] [])) (h : arow P call k ⟨f, t, nt, K, [], none⟩ s = .ok (.go ⟨f, putL t l, nt, K1, [], none⟩) (updA s L nx1 [] []) := by as_aux_lemma => kernel_rfl) : G ⟨f, t, nt, K, [], none⟩ s := hG k _ _ _ _ h H
theorem GSim.fin (hmix : P.follows .mixedOrders = true) (hc : CallSim P B call) (hl : ∀ t a, Local (call t a)) {fr : AF} (k : Nat) (e : v' = v) (h : finV P call rs k fr s = some v' := by as_aux_lemma => kernel_rfl) : GSim P B nx0 (Fin P rs fun y _ => y = v) fr s := by
  intro h0
  unfold finV at h
  cases ha : arow P call k fr s with
  | bad => rw [ha] at h; cases h
  | ok st s1 =>
    rw [ha] at h
    cases st with
    | go fr1 => cases h
    | leave fr1 j =>
      simp only at h
      cases hf : finish P rs fr1 j s1 with
      | bad => rw [hf] at h; cases h
      | ok x s3 =>
        rw [hf] at h
        injection h with h
        exact Sim.leave hmix hc hl ha h0 ⟨x, s3, by rw [← finish_fr]; exact hf, h.trans e⟩
theorem RegG.fin (hmix : P.follows .mixedOrders = true) (hc : CallSim P B call) (hl : ∀ t a, Local (call t a)) (k : Nat) (e : v' = v) (h : finR P call rs f nt K ops i k t s = some v' := by as_aux_lemma => kernel_rfl) : RegG P call (GSim P B nx0 (Fin P rs fun y _ => y = v)) f nt K ops i t s := by
  unfold finR at h
  cases ha : runOps P call nt ops i (ops.size - i) t s with
  | bad => rw [ha] at h; cases h
  | ok t1 s1 =>
    rw [ha] at h
    exact ⟨t1, s1, ha, GSim.fin hmix hc hl k e h⟩
theorem RegD.fin (hmix : P.follows .mixedOrders = true) (hc : CallSim P B call) (hl : ∀ t a, Local (call t a)) (k : Nat) (e : v' = v) (h : finD P call rs f nt K ops acc i k t s = some v' := by as_aux_lemma => kernel_rfl) : RegD P call (GSim P B nx0 (Fin P rs fun y _ => y = v)) f nt K ops acc i t s := by
  unfold finD at h
  cases ha : runD P call nt ops i (ops.size - i) t s with
  | bad => rw [ha] at h; cases h
  | ok p s1 =>
    rw [ha] at h
    obtain ⟨t1, ms⟩ := p
    simp only at h
    cases hm : metOk (Region.before ops) (acc ++ ms) (acc ++ ms) with
    | false => rw [hm] at h; cases h
    | true =>
      rw [hm] at h
      exact ⟨t1, ms, s1, ha, hm, GSim.fin hmix hc hl k e h⟩
theorem RegG.go (n : Nat) (l : List (Nat × AV)) (H : RegG P call G f nt K ops (i + n) (putL t l) s) (h : (Nat.ble (i + n) ops.size, runOps P call nt ops i n t s) = (true, .ok (putL t l) s) := by as_aux_lemma => kernel_rfl) : RegG P call G f nt K ops i t s := RegG.manyT n l h H
theorem RegG.goP (n : Nat) (l : List (Nat × AV)) (L : List (Nat × Option AObj)) (nx1 : Nat) (rd wr : List Nat) (H : RegG P call G f nt K ops (i + n) (putL t l) (updA s L nx1 rd wr)) (h : (Nat.ble (i + n) ops.size, runOps P call nt ops i n t s) = (true, .ok (putL t l) (updA s L nx1 rd wr)) := by as_aux_lemma => kernel_rfl) : RegG P call G f nt K ops i t s := RegG.manyP n l L nx1 rd wr h H
theorem RegD.go (n : Nat) (l : List (Nat × AV)) (ms : List Met) (H : RegD P call G f nt K ops (acc ++ ms) (i + n) (putL t l) s) (h : (Nat.ble (i + n) ops.size, runD P call nt ops i n t s) = (true, .ok (putL t l, ms) s) := by as_aux_lemma => kernel_rfl) : RegD P call G f nt K ops acc i t s := RegD.manyT n l ms h H
theorem RegD.goP (n : Nat) (l : List (Nat × AV)) (L : List (Nat × Option AObj)) (nx1 : Nat) (rd wr : List Nat) (ms : List Met) (H : RegD P call G f nt K ops (acc ++ ms) (i + n) (putL t l) (updA s L nx1 rd wr)) (h : (Nat.ble (i + n) ops.size, runD P call nt ops i n t s) = (true, .ok (putL t l, ms) (updA s L nx1 rd wr)) := by as_aux_lemma => kernel_rfl) : RegD P call G f nt K ops acc i t s := RegD.manyP n l L nx1 rd wr ms h H
theorem RegG.end_ (H : G ⟨f, t, nt, K, [], none⟩ s) (h : Nat.ble ops.size i = true := by as_aux_lemma => kernel_rfl) : RegG P call G f nt K ops i t s := RegG.done h H
theorem Chunk.reg' (hG : Chunk P call G) (id : Nat) {c : Code} (H : RegG P call G f nt K (opsOf c) 0 t s) (hcode : c = .region id (opsOf c) false := by as_aux_lemma => kernel_rfl) : G ⟨f, t, nt, .code c :: K, [], none⟩ s := Chunk.reg hG hcode H
theorem Chunk.regD' (hG : Chunk P call G) (id : Nat) {c : Code} (H : RegD P call G f nt K (opsOf c) [] 0 t s) (hcode : c = .region id (opsOf c) true := by as_aux_lemma => kernel_rfl) : G ⟨f, t, nt, .code c :: K, [], none⟩ s := Chunk.regD hG hcode H
end
section
variable {P : Program} {s s1 : AS} {call : Caller} {t : Tr AV}
theorem op_callV {fo : Operand} {g : FuncId} {xs : Array Operand} {ts : Array TypeId} {args : List AV} {v : AV} (h0 : (opd t fo, opds (opd t) xs.toList) = (some (.func (.func g) [] []), some args)) (h : call (.fn g) args s = .ok v s1) :
    (opB P (.call ⟨.value fo, xs, ts⟩)).val call t s = .ok v s1 := by
  injection h0 with hf hx
  show kCall fo xs.toList call t s = _
  unfold kCall
  rw [hx, withO_some, hf, withO_some]
  show callV call (.func (.func g) [] []) args s = _
  have : callV call (.func (.func g) [] []) args = call (.fn g) args := by
    unfold callV
    simp
  rw [this]; exact h
end
noncomputable section
end
theorem join2 (s a b : ByteArray) : (⟨(joinTexts s.data.toList [a.data.toList, b.data.toList]).toArray⟩ : ByteArray) = (a ++ s) ++ b := by
  apply ByteArray.ext; simp only [cat_data, joinTexts]; simp
theorem join3 (s a b c : ByteArray) : (⟨(joinTexts s.data.toList [a.data.toList, b.data.toList, c.data.toList]).toArray⟩ : ByteArray) = (((a ++ s) ++ b) ++ s) ++ c := by
  apply ByteArray.ext; simp only [cat_data, joinTexts]; simp
theorem join4 (s a b c d : ByteArray) : (⟨(joinTexts s.data.toList [a.data.toList, b.data.toList, c.data.toList, d.data.toList]).toArray⟩ : ByteArray) = (((((a ++ s) ++ b) ++ s) ++ c) ++ s) ++ d := by
  apply ByteArray.ext; simp only [cat_data, joinTexts]; simp
theorem len_toList (a : ByteArray) : a.data.toList.length = a.size := Array.length_toList
section
variable {P : Program} {F : Nat → Option (List AV)} {sp : Sp} {g n k : Nat} {ad : Option (Nat × Nat)} {cp : Cap} {s : AS} {l : List AV} {a b c d : ByteArray} {n1 n2 n3 n4 : Nat}
end
theorem dm10 (n : Int) : n = 10 * Int.tdiv n 10 + Int.tmod n 10 ∧ -9 ≤ Int.tmod n 10 ∧ Int.tmod n 10 ≤ 9 ∧ (0 ≤ n → 0 ≤ Int.tmod n 10 ∧ 0 ≤ Int.tdiv n 10) ∧ (n ≤ 0 → Int.tmod n 10 ≤ 0 ∧ Int.tdiv n 10 ≤ 0) := by
  have h0 : 10 * Int.tdiv n 10 + Int.tmod n 10 = n := Int.mul_tdiv_add_tmod n 10
  by_cases q : 0 ≤ n
  · have h1 := Int.tmod_nonneg 10 q
    have h2 := Int.tmod_lt_of_pos n (show (0 : Int) < 10 by decide)
    have h3 := Int.tdiv_nonneg q (show (0 : Int) ≤ 10 by decide)
    refine ⟨h0.symm, by omega, by omega, fun _ => ⟨h1, h3⟩, fun _ => by omega⟩
  · have e1 : n.tmod 10 = -((-n).tmod 10) := by rw [Int.neg_tmod]; omega
    have h1 := Int.tmod_nonneg 10 (show 0 ≤ -n by omega)
    have h2 := Int.tmod_lt_of_pos (-n) (show (0 : Int) < 10 by decide)
    refine ⟨h0.symm, by omega, by omega, fun _ => by omega, fun _ => by omega⟩
end Go.Rn
namespace Go.Rn
open Go.RowKit
noncomputable section
end
end Go.Rn
namespace Go.Rn
theorem itoaB_both {n : Int} (h : n.tdiv 10 ≠ 0) (h0 : 0 ≤ n.tmod 10) : itoaB (n.tdiv 10) ++ ⟨#[UInt8.ofNat (Int.toNat (48 + n.tmod 10))]⟩ = itoaB n := by
  have hd := dm10 n
  by_cases q : 10 ≤ n
  · exact itoaB_step q
  · have h2 : n ≤ -10 := by omega
    have h3 : n.tmod 10 = 0 := by omega
    have h1 := itoaB_nstep h2
    rw [h3] at h1 ⊢
    exact h1
end Go.Rn

namespace Go.Rn
open Go.RowKit
noncomputable section
inductive Pl where
  | no
  | st (k : Nat) (p : Pl)
  | rg (p : Pl)
  | go (n : Nat) (p : Pl)
  | en (p : Pl)
  | fk (p q : Pl)
  | vl (v : AV) (p : Pl)
  | kn (v : AV) (p : Pl)
  | kp (c : Prop) (d : Decidable c) (p q : Pl)
  | ca (n m : Nat) (p : Pl)
  | ef (p q : Pl)
  | jn (v : ByteArray) (p : Pl)
  | ss (p : Pl)
  | cu (v : AV) (s2 : AS) (p : Pl)
  | c2 (φ : Prop) (v1 : AV) (L1 : List (Nat × Option AObj)) (v2 : AV) (L2 : List (Nat × Option AObj)) (nx1 : Nat) (R W : List Nat) (p q : Pl)
  | ap (α : Type) (enc : α → List AV) (l : List α) (c : α) (p : Pl)
  | ix (p : Pl)
  | ixf (p : Pl)
  | ld (cs : List AV) (p : Pl)
  | ldb (b : Bool) (p q : Pl)
  | ldf (cs : List AV) (p : Pl)
  | stc (o : AObj) (p : Pl)
  | sh (p : Pl)
  | rm (p : Pl)
  | ls (l : List (Nat × AV)) (o : List (Nat × Option AObj)) (nx : Nat) (p : Pl)
  | rn (l0 : List (Nat × AV)) (o0 : List (Nat × Option AObj)) (l : List (Nat × AV)) (o : List (Nat × Option AObj)) (snx nx : Nat) (p : Pl)
  | bk (l : List (Nat × AV)) (o : List (Nat × Option AObj)) (nx : Nat) (p : Pl)
  | il (p : Pl)
  | rt (k : Nat) (p : Pl)
  | cut (p : Pl)
inductive Ctl where
  | fr (f nt : Nat) (K : List Item) (t : Tr AV) (s : AS)
  | rg (f nt : Nat) (K : List Item) (ops : Array Oper) (D : Option (List Met)) (i : Nat) (t : Tr AV) (s : AS)
structure Env where
  P : Program
  sp : Sp
  F : Nat → Option (List AV)
  tab : FuncId → Option (List AV → Option AV)
  jn : FuncId → Bool
  ck : AS → Bool
  cs : AS → AS
  lo : Nat
  fg : Bool
def EntP (nx : Nat) (l : List (Nat × AV)) (o : List (Nat × Option AObj)) : Prop := ∀ r : Nat → Nat, (∀ k, k < nx → r k = k) → (∀ k, top ≤ k → r k = k) → (∀ p ∈ l, VEnt r p.2 p.2) ∧ (∀ p ∈ o, ∀ x, p.2 = some x → OEnt r x x)
def Weak (lo snx : Nat) (l0 : List (Nat × AV)) (o0 : List (Nat × Option AObj)) (l : List (Nat × AV)) (o : List (Nat × Option AObj)) (nx : Nat) : Prop :=
  ∃ r : Nat → Nat, (∀ k, k < lo → r k = k) ∧ (∀ k, nx ≤ k → k < top → snx ≤ r k ∧ r k < top) ∧ (∀ k, top ≤ k → r k = k) ∧ nx ≤ top ∧ (∀ p ∈ l, p.1 < top ∧ ∃ x, (p.1, x) ∈ l0 ∧ VEnt r x p.2) ∧
    (∀ p ∈ o, p.1 < top ∧ ∀ y, p.2 = some y → r p.1 < top ∧ y.plain = true ∧ ∃ x, (r p.1, some x) ∈ o0 ∧ (y.isRo = false → x.isRo = false) ∧ OEnt r x y) ∧
    (∀ p ∈ o, ∀ q ∈ o, p.2 ≠ none → q.2 ≠ none → r p.1 = r q.1 → p.1 = q.1)
structure Env.Ok (E : Env) : Prop where
  tab : ∀ g val args v s n, E.tab g = some val → val args = some v → E.ck s = true → arunI E.P E.sp E.F (n + 1) (.fn g) args s = .ok v (E.cs s)
  jn : ∀ g, E.jn g = true → E.sp g = some (fun _ args => joinStrs args)
def wo {α : Type} (o : Option α) (k : α → Prop) : Prop := @Option.rec α (fun _ => Prop) False k o
def wr {α : Type} (r : R α) (k : α → AS → Prop) : Prop := @R.rec α (fun _ => Prop) False k r
def wb (b : Bool) (k : Prop) : Prop := @Bool.rec (fun _ => Prop) False k b
def Kt := AV → AS → Pl → Prop
def CutT := AF → AS → Pl → Prop
def Rec := Nat → Ctl → Pl → List ResultVar → Kt → CutT → Prop
def binParts (op : Op) : Option (BinOp × TypeId × Operand × Operand × TypeId) := match op with
  | .binOp o ty x y yt => some (o, ty, x, y, yt)
  | _ => none
def callParts (op : Op) : Option (Operand × Array Operand × Array TypeId) := match op with
  | .call ⟨.value fo, xs, ts⟩ => some (fo, xs, ts)
  | _ => none
def asFn (v : AV) : Option FuncId := match v with
  | .func (.func g) [] [] => some g
  | _ => none
def asInt (v : AV) : Option (IntKind × Int) := match v with
  | .int k n => some (k, n)
  | _ => none
def asStr (v : AV) : Option ByteArray := match v with
  | .str b => some b
  | _ => none
def asAgg (v : AV) : Option (List AV) := match v with
  | .agg l => some l
  | _ => none
def asSlice (v : AV) : Option (Option (Nat × Nat) × Nat × Cap) := match v with
  | .slice a n c => some (a, n, c)
  | _ => none
def goStp (x : Stp) : Option (Nat × Nat × List Item × Tr AV) := match x with
  | .go ⟨f, t, nt, K, [], none⟩ => some (f, nt, K, t)
  | _ => none
def lvStp (x : Stp) : Option (AF × Option Code) := match x with
  | .leave fr j => some (fr, j)
  | _ => none
def headReg (K : List Item) : Option (Array Oper × Bool × List Item) := match K with
  | .code (.region _ ops d) :: K => some (ops, d, K)
  | _ => none
def one2 (l : List AV) : Option (AV × AV) := match l with
  | [x, y] => some (x, y)
  | _ => none
def cmpP (o : BinOp) (a b : Int) : Option Prop := match o with
  | .lss => some (a < b)
  | .leq => some (a ≤ b)
  | .gtr => some (a > b)
  | .geq => some (a ≥ b)
  | .eql => some (a = b)
  | .neq => some (a ≠ b)
  | _ => none
def befS (D : Option (List Met)) (s : AS) : AS := match D with
  | none => s
  | some _ => aloneS s
def aftS (D : Option (List Met)) (s s1 : AS) : AS := match D with
  | none => s1
  | some _ => backS s s1
def accS (D : Option (List Met)) (i : Nat) (s s1 : AS) : Option (List Met) := match D with
  | none => none
  | some acc => some (acc ++ [metS i s s1])
def drawS (d : Bool) : Option (List Met) := match d with
  | true => some []
  | false => none
def runX (P : Program) (call : Caller) (nt : Nat) (ops : Array Oper) (D : Option (List Met)) (i n : Nat) (t : Tr AV) : M (Tr AV × Option (List Met)) := match D with
  | none => fun s => match runOps P call nt ops i n t s with
    | .ok t s => .ok (t, none) s
    | .bad => .bad
  | some acc => fun s => match runD P call nt ops i n t s with
    | .ok x s => .ok (x.1, some (acc ++ x.2)) s
    | .bad => .bad
def overX (ops : Array Oper) (D : Option (List Met)) : Bool := match D with
  | none => true
  | some acc => metOk (Region.before ops) acc acc
def predO (n : Nat) : Option Nat := match n with
  | 0 => none
  | n + 1 => some n
def callAt (t : Tr AV) (op : Op) : Option (FuncId × List AV) := match callParts op with
  | none => none
  | some x => match opd t x.1 with
    | none => none
    | some fv => match asFn fv with
      | none => none
      | some g => match opds (opd t) x.2.1.toList with
        | none => none
        | some args => some (g, args)
def idxParts (op : Op) : Option (TypeId × Operand × Operand) := match op with
  | .indexAddr ty x y => some (ty, x, y)
  | _ => none
def loadParts (op : Op) : Option (TypeId × Operand) := match op with
  | .load ty a => some (ty, a)
  | _ => none
def storeParts (op : Op) : Option (TypeId × Operand × Operand) := match op with
  | .store ty a x => some (ty, a, x)
  | _ => none
def appParts (op : Op) : Option (Operand × Operand × Array TypeId) := match op with
  | .call ⟨.builtin .append, xs, ts⟩ => match xs.toList with
    | [x, y] => some (x, y, ts)
    | _ => none
  | _ => none
def own0 (v : AV) : Option (Nat × Nat × Nat × Nat) := match v with
  | .slice (some (n, 0)) len (.atLeast m k) => some (n, len, m, k)
  | _ => none
def fresh1 (v : AV) : Option Nat := match v with
  | .slice (some (m, 0)) 1 (.known 1) => some m
  | _ => none
def elemInfo (P : Program) (ts : Array TypeId) : Option (Nat × Nat) := match ts[0]? with
  | some ty => match P.underlying ty with
    | some (.slice e) => match P.info? e with
      | some i => match zeroFits i && (notInt P ts[1]? && !(Nat.beq i.bytes 0)) with
        | true => some (i.size, i.bytes)
        | false => none
      | none => none
    | _ => none
  | none => none
def asRsl (v : AV) : Option (Nat × Nat × Nat) := match v with
  | .rslice n o k => some (n, o, k)
  | _ => none
def asRptr (v : AV) : Option (Nat × Nat) := match v with
  | .rptr n o => some (n, o)
  | _ => none
def elemSz (P : Program) (ty : TypeId) : Option Nat := match P.underlying ty with
  | some (.slice e) => sizeT P e
  | _ => none
def cellsOf (o : Option AObj) (off k : Nat) : Option (List AV) := match o with
  | some (.cells m t z) => (match Nat.ble (off + k) m with | true => gather t z k off | false => none)
  | _ => none
def setCl (o : Option AObj) (off : Nat) (l : List AV) : Option AObj := match o with
  | some (.cells m t z) => (match (Nat.ble (off + l.length) m && (Nat.ble m top && l.all AV.oneCell)) with | true => some (.cells m (Tr.fill l off t) z) | false => none)
  | _ => none
def frzAt (F : Nat → Option (List AV)) (n off k : Nat) : Option (List AV) := match F n with
  | some l => (match Nat.ble (off + k) l.length with | true => some ((l.drop off).take k) | false => none)
  | none => none
def isPos (k : Nat) : Bool := Nat.blt 0 k
def aggO (ag : Bool) (cs : List AV) : Option AV := match ag with
  | true => some (.agg cs)
  | false => one cs
def widthO (P : Program) (ty : TypeId) (ag : Bool) : Option Nat := match ag with
  | true => sizeT P ty
  | false => some 1
def plainO (o : Option AObj) : Bool := match o with
  | none => true
  | some o => o.plain
def TwoW (φ : Prop) (E : Env) (n : Nat) (g : FuncId) (args : List AV) (s : AS) (v1 : AV) (L1 : List (Nat × Option AObj)) (v2 : AV) (L2 : List (Nat × Option AObj)) (nx1 : Nat) (R W : List Nat) : Prop :=
  ∃ rd wr, (∀ k ∈ rd, k ∈ R) ∧ (∀ k ∈ wr, k ∈ W) ∧ ((φ ∧ arunI E.P E.sp E.F n (.fn g) args s = .ok v1 ⟨putH s.h L1, nx1, s.mark, rd, wr⟩) ∨ arunI E.P E.sp E.F n (.fn g) args s = .ok v2 ⟨putH s.h L2, nx1, s.mark, rd, wr⟩)
def wop (E : Env) (dr : Bool) (ih : Rec) (n : Nat) (nx : AV → AS → Pl → Prop) (s : AS) (t : Tr AV) (op : Op) (p : Pl) : Prop := match p with
  | .fk p q => wo (binParts op) fun x => wo (opd t x.2.2.1) fun a => wo (opd t x.2.2.2.1) fun b => wo (asInt a) fun a => wo (asInt b) fun b => wb (decide (a.1 = b.1)) (wo (cmpP x.1 a.2 b.2) fun c => (c → nx (.bool true) s p) ∧ (¬ c → nx (.bool false) s q))
  | .vl v p => wr ((opB E.P op).val (arunI E.P E.sp E.F n) t s) fun v' s1 => v' = v ∧ nx v s1 p
  | .kn v p => wo (callAt t op) fun x => wo (predO n) fun _ => wo (E.tab x.1) fun val => wb (E.ck s) (val x.2 = some v ∧ nx v (E.cs s) p)
  | .kp c d p q => wo (callAt t op) fun x => wo (predO n) fun _ => wo (E.tab x.1) fun val => wb (E.ck s) (val x.2 = some (.bool (@decide c d)) ∧ (c → nx (.bool true) (E.cs s) p) ∧ (¬ c → nx (.bool false) (E.cs s) q))
  | .ca k m p => wo (binParts op) fun x => wb (match x.1 with | .add => true | _ => false) (wo (opd t x.2.2.1) fun a => wo (opd t x.2.2.2.1) fun b => wo (asStr a) fun a => wo (asStr b) fun b => wb (Nat.ble (k + m) room) (a.size ≤ k ∧ b.size ≤ m ∧ nx (.str (a ++ b)) s p))
  | .ef p q => wo (binParts op) fun x => wo (opd t x.2.2.1) fun a => wo (opd t x.2.2.2.1) fun b => wo (asAgg a) fun xs => wo (asAgg b) fun ys => wb (guardOk E.P x.1 x.2.1 x.2.2.1 x.2.2.2.1 (.agg xs) (.agg ys)) (wb (isStruct E.P x.2.1) (wb (!E.P.stoodInHeld x.2.1) (wo (pairsOf E.P xs ys (fieldsOf E.P x.2.1)) fun l => match x.1 with
    | .eql => (allEq l = true → nx (.bool true) s p) ∧ (allEq l = false → nx (.bool false) s q)
    | .neq => (allEq l = true → nx (.bool false) s p) ∧ (allEq l = false → nx (.bool true) s q)
    | _ => False)))
  | .jn v p => wo (callAt t op) fun x => wo (predO n) fun _ => wb (E.jn x.1) (wo (one2 x.2) fun y => wo (asSlice y.1) fun a => wo (asStr y.2) fun sep => wb (Nat.ble a.2.1 (capLow a.2.1 a.2.2)) (wr (firstCells 1 a.2.1 (.slice a.1 a.2.1 a.2.2) s) fun l s1 => wo (textsOf l) fun ts => (⟨(joinTexts sep.data.toList ts).toArray⟩ : ByteArray) = v ∧ (joinTexts sep.data.toList ts).length + a.2.1 ≤ 1048576 ∧ nx (.str v) s1 p))
  | .ss p => wo (binParts op) fun x => wb (match x.1 with | .eql => true | _ => false) (wo (opd t x.2.2.1) fun a => wo (opd t x.2.2.2.1) fun b => wo (asStr a) fun a => wo (asStr b) fun b => a = b ∧ nx (.bool true) s p)
  | .cu v s2 p => wo (callAt t op) fun x => arunI E.P E.sp E.F n (.fn x.1) x.2 s = .ok v s2 ∧ nx v s2 p
  | .c2 φ v1 L1 v2 L2 nx1 R W p q => wb dr (wo (callAt t op) fun x => TwoW φ E n x.1 x.2 s v1 L1 v2 L2 nx1 R W ∧ (φ → nx v1 ⟨putH s.h L1, nx1, s.mark, R, W⟩ p) ∧ nx v2 ⟨putH s.h L2, nx1, s.mark, R, W⟩ q)
  | .ap _ enc l c p => wo (appParts op) fun x => wo (opd t x.1) fun a => wo (own0 a) fun a => wo (opd t x.2.1) fun b => wo (fresh1 b) fun m => wo (elemInfo E.P x.2.2) fun i => wb (Nat.beq a.2.2.2 i.1 && (Nat.blt a.1 s.nx && (Nat.blt m s.nx && (Nat.blt s.nx top && (Nat.beq s.mark 0 && !(Nat.beq a.1 m))))))
      (a.2.1 = l.length ∧ a.2.2.1 = l.length ∧ s.h.get a.1 = some (rowT enc l) ∧ s.h.get m = some (.cells (enc c).length (Tr.fill (enc c) 0 .nil) []) ∧ (∀ x, (enc x).length = i.1 ∧ (enc x).all AV.oneCell = true) ∧ 2 * (l.length + 1) * i.2 + 4096 * i.2 ≤ room ∧ (l.length + 1) * i.1 ≤ top ∧
        nx (.slice (some (s.nx, 0)) (l ++ [c]).length (.atLeast (l ++ [c]).length i.1)) { s with h := (s.h.put a.1 none).put s.nx (some (rowT enc (l ++ [c]))), nx := s.nx + 1 } p)
  | .ix p => wo (idxParts op) fun x => wo (opd t x.2.1) fun a => wo (asSlice a) fun a => wo a.1 fun ad => wo (opd t x.2.2) fun z => wo (asInt z) fun z => wo (elemSz E.P x.1) fun K => wb (Nat.beq ad.2 0) (0 ≤ z.2 ∧ z.2 < (Int.ofNat a.2.1) ∧ nx (.ptr (some (ad.1, z.2.toNat * K))) s p)
  | .ixf p => wo (idxParts op) fun x => wo (opd t x.2.1) fun a => wo (asRsl a) fun a => wo (opd t x.2.2) fun z => wo (asInt z) fun z => wo (elemSz E.P x.1) fun K => 0 ≤ z.2 ∧ z.2 < (Int.ofNat a.2.2) ∧ nx (.rptr a.1 (a.2.1 + z.2.toNat * K)) s p
  | .ld cs p => wo (loadParts op) fun x => wo (opd t x.2) fun a => wo (addrOf a) fun a => wo (aggT E.P x.1) fun ag => wo (widthO E.P x.1 ag) fun k => wb (isPos k) (wb (Nat.blt a.1 s.nx) (wo (aggO ag cs) fun v => cellsOf (s.h.get a.1) a.2 k = some cs ∧ nx v (rdS a.1 s) p))
  | .ldb b p q => wo (loadParts op) fun x => wo (opd t x.2) fun a => wo (addrOf a) fun a => wo (aggT E.P x.1) fun ag => wb (!ag) (wb (Nat.blt a.1 s.nx) (cellsOf (s.h.get a.1) a.2 1 = some [.bool b] ∧ (b = true → nx (.bool true) (rdS a.1 s) p) ∧ (b = false → nx (.bool false) (rdS a.1 s) q)))
  | .ldf cs p => wo (loadParts op) fun x => wo (opd t x.2) fun a => wo (asRptr a) fun a => wo (aggT E.P x.1) fun ag => wo (sizeT E.P x.1) fun _ => wo (widthO E.P x.1 ag) fun k => wo (aggO ag cs) fun v => top ≤ a.1 ∧ frzAt E.F a.1 a.2 k = some cs ∧ nx v s p
  | .stc o p => wo (storeParts op) fun x => wo (opd t x.2.1) fun a => wo (addrOf a) fun a => wo (opd t x.2.2) fun v => wo (sizeT E.P x.1) fun k => wb (Nat.beq v.cells.length k) (wb (isPos k) (wb (Nat.blt a.1 s.nx) (wb (Nat.blt a.1 top) (setCl (s.h.get a.1) a.2 v.cells = some o ∧ nx aundef (wrS a.1 (some o) (rdS a.1 s)) p))))
  | .sh p => wo (binParts op) fun x => wb (isShift x.1) (wo (opd t x.2.2.1) fun a => wo (opd t x.2.2.2.1) fun b => wo (asInt a) fun a => wo (asInt b) fun b => 0 ≤ b.2 ∧ nx (.int a.1 (bitV x.1 a.1 a.2 b.2)) s p)
  | .rm p => wo (binParts op) fun x => wb (match x.1 with | .rem => true | _ => false) (wo (opd t x.2.2.1) fun a => wo (opd t x.2.2.2.1) fun b => wo (asInt a) fun a => wo (asInt b) fun b => wb (decide (a.1 = b.1)) (b.2 ≠ 0 ∧ nx (.int a.1 (Int.tmod a.2 b.2)) s p))
  | .il p => wo (callAt t op) fun x => wo (predO n) fun m => match E.sp x.1 with
    | some _ => False
    | none => wo (E.P.funcs[x.1]?) fun fn => wo fn.body fun body => wb (!(fn.name == "runtime.NumGoroutine")) (wb (Nat.ble (max fn.ntmps x.2.length) top) (ih m (.fr x.1 (max fn.ntmps x.2.length) [.code body] (fillArgs x.2) s) p fn.results.toList nx (fun _ _ _ => False)))
  | _ => False
def wpB (E : Env) (ih : Rec) (n : Nat) (c : Ctl) (p : Pl) (rs : List ResultVar) (k : Kt) (C : CutT) : Prop := match c with
  | .fr f nt K t s => match p with
    | .st j p => wr (arow E.P (arunI E.P E.sp E.F n) j ⟨f, t, nt, K, [], none⟩ s) fun x s1 => wo (goStp x) fun y => ih n (.fr y.1 y.2.1 y.2.2.1 y.2.2.2 s1) p rs k C
    | .rg p => wo (headReg K) fun x => ih n (.rg f nt x.2.2 x.1 (drawS x.2.1) 0 t s) p rs k C
    | .rt j p => wr (arow E.P (arunI E.P E.sp E.F n) j ⟨f, t, nt, K, [], none⟩ s) fun x s1 => wo (lvStp x) fun y => wr (finish E.P rs y.1 y.2 s1) fun v s2 => k v s2 p
    | .cut p => C ⟨f, t, nt, K, [], none⟩ s p
    | .ls l o nx p => wb (E.fg && (lowP top l && (lowP top o && ((Nat.ble s.nx nx && Nat.ble nx top) && o.all fun q => plainO q.2)))) (l.map (fun q => t.get q.1) = l.map (fun q => some q.2) ∧ o.map (fun q => s.h.get q.1) = o.map (fun q => q.2) ∧ C ⟨f, trOf l, nt, K, [], none⟩ (stOf o nx) p)
    | .rn l0 o0 l o snx nx p => wb (E.fg && Nat.beq s.nx snx) (l0.map (fun q => t.get q.1) = l0.map (fun q => some q.2) ∧ o0.map (fun q => s.h.get q.1) = o0.map (fun q => q.2) ∧ Weak E.lo snx l0 o0 l o nx ∧ C ⟨f, trOf l, nt, K, [], none⟩ (stOf o nx) p)
    | .bk l o nx p => wb (E.fg && (lowP top l && (lowP nx o && ((Nat.ble nx s.nx && (Nat.blt s.nx top && Nat.ble E.lo nx)) && o.all fun q => plainO q.2)))) (l.map (fun q => t.get q.1) = l.map (fun q => some q.2) ∧ o.map (fun q => s.h.get q.1) = o.map (fun q => q.2) ∧ EntP nx l o ∧ C ⟨f, trOf l, nt, K, [], none⟩ (stOf o nx) p)
    | _ => False
  | .rg f nt K ops D i t s => match p with
    | .go m p => wb (Nat.ble (i + m) ops.size) (wr (runX E.P (arunI E.P E.sp E.F n) nt ops D i m t s) fun x s1 => ih n (.rg f nt K ops x.2 (i + m) x.1 s1) p rs k C)
    | .en p => wb (Nat.ble ops.size i) (wb (overX ops D) (ih n (.fr f nt K t s) p rs k C))
    | p => wo (opIs ops i) fun o => wb (wants ops o.2.2 t) (wop E (D.isSome && Nat.beq s.mark 0) ih n (fun v s1 p => wo (aput nt t o.2.1 v) fun t1 => ih n (.rg f nt K ops (accS D i (s) s1) (i + 1) t1 (aftS D s s1)) p rs k C) (befS D s) t o.1 p)
def wp (E : Env) (fuel : Nat) : Rec := @Nat.rec (fun _ => Rec) (fun _ _ _ _ _ _ => False) (fun _ ih => wpB E ih) fuel
def RegX (P : Program) (call : Caller) (G : AF → AS → Prop) (f nt : Nat) (K : List Item) (ops : Array Oper) (D : Option (List Met)) (i : Nat) (t : Tr AV) (s : AS) : Prop := match D with
  | none => RegG P call G f nt K ops i t s
  | some acc => RegD P call G f nt K ops acc i t s
def Gof (P : Program) (call : Caller) (G : AF → AS → Prop) (c : Ctl) : Prop := match c with
  | .fr f nt K t s => G ⟨f, t, nt, K, [], none⟩ s
  | .rg f nt K ops D i t s => RegX P call G f nt K ops D i t s
end
theorem wo_inv {α : Type} {o : Option α} {k : α → Prop} (h : wo o k) : ∃ x, o = some x ∧ k x := by
  cases o with
  | none => exact h.elim
  | some x => exact ⟨x, rfl, h⟩
theorem wr_inv {α : Type} {r : R α} {k : α → AS → Prop} (h : wr r k) : ∃ x s, r = .ok x s ∧ k x s := by
  cases r with
  | bad => exact h.elim
  | ok x s => exact ⟨x, s, rfl, h⟩
theorem wb_inv {b : Bool} {k : Prop} (h : wb b k) : b = true ∧ k := by
  cases b with
  | false => exact h.elim
  | true => exact ⟨rfl, h⟩
theorem asFn_inv {v : AV} {g : FuncId} (h : asFn v = some g) : v = .func (.func g) [] [] := by
  unfold asFn at h; split at h
  · injection h with h; subst h; rfl
  · cases h
theorem asInt_inv {v : AV} {x : IntKind × Int} (h : asInt v = some x) : v = .int x.1 x.2 := by
  unfold asInt at h; split at h
  · injection h with h; subst h; rfl
  · cases h
theorem asStr_inv {v : AV} {x : ByteArray} (h : asStr v = some x) : v = .str x := by
  unfold asStr at h; split at h
  · injection h with h; subst h; rfl
  · cases h
theorem asAgg_inv {v : AV} {x : List AV} (h : asAgg v = some x) : v = .agg x := by
  unfold asAgg at h; split at h
  · injection h with h; subst h; rfl
  · cases h
theorem asSlice_inv {v : AV} {x : Option (Nat × Nat) × Nat × Cap} (h : asSlice v = some x) : v = .slice x.1 x.2.1 x.2.2 := by
  unfold asSlice at h; split at h
  · injection h with h; subst h; rfl
  · cases h
theorem one2_inv {l : List AV} {x : AV × AV} (h : one2 l = some x) : l = [x.1, x.2] := by
  unfold one2 at h; split at h
  · injection h with h; subst h; rfl
  · cases h
theorem goStp_inv {x : Stp} {y : Nat × Nat × List Item × Tr AV} (h : goStp x = some y) : x = .go ⟨y.1, y.2.2.2, y.2.1, y.2.2.1, [], none⟩ := by
  unfold goStp at h; split at h
  · injection h with h; subst h; rfl
  · cases h
theorem lvStp_inv {x : Stp} {y : AF × Option Code} (h : lvStp x = some y) : x = .leave y.1 y.2 := by
  unfold lvStp at h; split at h
  · injection h with h; subst h; rfl
  · cases h
theorem headReg_inv {K : List Item} {y : Array Oper × Bool × List Item} (h : headReg K = some y) : ∃ id, K = .code (.region id y.1 y.2.1) :: y.2.2 := by
  unfold headReg at h; split at h
  · injection h with h; subst h; exact ⟨_, rfl⟩
  · cases h
theorem predO_inv {n m : Nat} (h : predO n = some m) : n = m + 1 := by
  cases n with
  | zero => cases h
  | succ n => injection h with h; subst h; rfl
theorem binParts_inv {op : Op} {x : BinOp × TypeId × Operand × Operand × TypeId} (h : binParts op = some x) : op = .binOp x.1 x.2.1 x.2.2.1 x.2.2.2.1 x.2.2.2.2 := by
  unfold binParts at h; split at h
  · injection h with h; subst h; rfl
  · cases h
theorem callAt_inv {t : Tr AV} {op : Op} {x : FuncId × List AV} (h : callAt t op = some x) : ∃ fo xs ts, op = .call ⟨.value fo, xs, ts⟩ ∧ opd t fo = some (.func (.func x.1) [] []) ∧ opds (opd t) xs.toList = some x.2 := by
  unfold callAt at h
  split at h
  · cases h
  · rename_i y hy
    have hop : op = .call ⟨.value y.1, y.2.1, y.2.2⟩ := by
      unfold callParts at hy; split at hy
      · injection hy with hy; subst hy; rfl
      · cases hy
    split at h
    · cases h
    · rename_i fv hf
      split at h
      · cases h
      · rename_i g hg
        split at h
        · cases h
        · rename_i args ha
          injection h with h; subst h
          exact ⟨_, _, _, hop, by rw [hf, asFn_inv hg], ha⟩
section
variable {P : Program} {s s1 : AS} {call : Caller} {t t1 : Tr AV} {ops : Array Oper} {f nt i : Nat} {K : List Item} {G : AF → AS → Prop} {D : Option (List Met)}
theorem cmpP_ok {o : BinOp} {a b : Int} {c : Prop} (h : cmpP o a b = some c) : ∃ r, cmpB o a b = some r ∧ (r = true ↔ c) := by
  unfold cmpP at h
  split at h <;> first | (injection h with h; subst h) | cases h
  · exact ⟨_, rfl, by rw [decide_eq_true_iff]⟩
  · exact ⟨_, rfl, by rw [decide_eq_true_iff]⟩
  · exact ⟨_, rfl, by rw [decide_eq_true_iff]⟩
  · exact ⟨_, rfl, by rw [decide_eq_true_iff]⟩
  · exact ⟨_, rfl, by simp⟩
  · exact ⟨_, rfl, by simp⟩
theorem RegX.op {op : Op} {d : Option Tmp} {g : Option (Nat × Bool)} {v : AV} (ho : opIs ops i = some (op, d, g)) (hw : wants ops g t = true) (h : (opB P op).val call t (befS D s) = .ok v s1) (hp : aput nt t d v = some t1) (H : RegX P call G f nt K ops (accS D i s s1) (i + 1) t1 (aftS D s s1)) : RegX P call G f nt K ops D i t s := by
  cases D with
  | none => exact RegG.step (opIs_lt ho) (one_of ho hw h hp) H
  | some acc => exact RegD.step (opIs_lt ho) (oneD_of ho hw h hp) H
theorem RegX.go {n : Nat} {x : Tr AV × Option (List Met)} (hn : Nat.ble (i + n) ops.size = true) (h : runX P call nt ops D i n t s = .ok x s1) (H : RegX P call G f nt K ops x.2 (i + n) x.1 s1) : RegX P call G f nt K ops D i t s := by
  have hle := ble_true.1 hn
  unfold runX at h
  cases D with
  | none =>
    simp only at h
    split at h
    · rename_i t2 s2 e
      injection h with h1 h2; subst h1; subst h2
      obtain ⟨t3, s3, q1, q2⟩ := H
      refine ⟨t3, s3, ?_, q2⟩
      rw [show ops.size - i = n + (ops.size - (i + n)) by omega]
      exact runOps_add e q1
    · cases h
  | some acc =>
    simp only at h
    split at h
    · rename_i y s2 e
      injection h with h1 h2; subst h1; subst h2
      obtain ⟨t3, ms, s3, q1, q2, q3⟩ := H
      refine ⟨t3, _, s3, ?_, by rw [← List.append_assoc]; exact q2, q3⟩
      rw [show ops.size - i = n + (ops.size - (i + n)) by omega]
      exact runD_add rfl (by omega) e q1
    · cases h
theorem RegX.done (h : Nat.ble ops.size i = true) (ho : overX ops D = true) (H : G ⟨f, t, nt, K, [], none⟩ s) : RegX P call G f nt K ops D i t s := by
  cases D with
  | none => exact RegG.done h H
  | some acc => exact RegD.done (and_true.2 ⟨h, ho⟩) H
theorem RegX.into (hG : Chunk P call G) {id : Nat} {d : Bool} (H : RegX P call G f nt K ops (drawS d) 0 t s) : G ⟨f, t, nt, .code (.region id ops d) :: K, [], none⟩ s := by
  cases d with
  | false => exact Chunk.reg hG (c := .region id ops false) rfl H
  | true => exact Chunk.regD hG (c := .region id ops true) rfl H
theorem callAt_ok {op : Op} {x : FuncId × List AV} {v : AV} (h : callAt t op = some x) (hv : call (.fn x.1) x.2 s = .ok v s1) : (opB P op).val call t s = .ok v s1 := by
  obtain ⟨fo, xs, ts, rfl, h1, h2⟩ := callAt_inv h
  exact op_callV (by rw [h1, h2]) hv
end
theorem idxParts_inv {op : Op} {x : TypeId × Operand × Operand} (h : idxParts op = some x) : op = .indexAddr x.1 x.2.1 x.2.2 := by
  unfold idxParts at h; split at h
  · injection h with h; subst h; rfl
  · cases h
theorem appParts_inv {op : Op} {x : Operand × Operand × Array TypeId} (h : appParts op = some x) : op = .call ⟨.builtin .append, #[x.1, x.2.1], x.2.2⟩ := by
  unfold appParts at h
  split at h
  · rename_i xs ts
    split at h
    · rename_i a b e
      injection h with h; subst h
      have : xs = #[a, b] := Array.ext' e
      rw [this]
    · cases h
  · cases h
theorem own0_inv {v : AV} {x : Nat × Nat × Nat × Nat} (h : own0 v = some x) : v = .slice (some (x.1, 0)) x.2.1 (.atLeast x.2.2.1 x.2.2.2) := by
  unfold own0 at h; split at h
  · injection h with h; subst h; rfl
  · cases h
theorem fresh1_inv {v : AV} {m : Nat} (h : fresh1 v = some m) : v = .slice (some (m, 0)) 1 (.known 1) := by
  unfold fresh1 at h; split at h
  · injection h with h; subst h; rfl
  · cases h
theorem elemInfo_inv {P : Program} {ts : Array TypeId} {x : Nat × Nat} (h : elemInfo P ts = some x) : ∃ ty e, ts[0]? = some ty ∧ P.underlying ty = some (.slice e) ∧ (P.info? e).map (fun i => (i.size, i.bytes, zeroFits i)) = some (x.1, x.2, true) ∧ notInt P ts[1]? = true ∧ Nat.beq x.2 0 = false := by
  unfold elemInfo at h
  split at h
  · rename_i ty h1
    split at h
    · rename_i e h2
      split at h
      · rename_i i h3
        split at h
        · rename_i hb
          injection h with h; subst h
          obtain ⟨b1, b2⟩ := and_true.1 hb
          obtain ⟨b2, b3⟩ := and_true.1 b2
          refine ⟨ty, e, h1, h2, by rw [h3]; simp only [Option.map_some, b1], b2, by simpa using b3⟩
        · cases h
      · cases h
    · cases h
  · cases h
theorem loadParts_inv {op : Op} {x : TypeId × Operand} (h : loadParts op = some x) : op = .load x.1 x.2 := by
  unfold loadParts at h; split at h
  · injection h with h; subst h; rfl
  · cases h
theorem storeParts_inv {op : Op} {x : TypeId × Operand × Operand} (h : storeParts op = some x) : op = .store x.1 x.2.1 x.2.2 := by
  unfold storeParts at h; split at h
  · injection h with h; subst h; rfl
  · cases h
theorem asRsl_inv {v : AV} {x : Nat × Nat × Nat} (h : asRsl v = some x) : v = .rslice x.1 x.2.1 x.2.2 := by
  unfold asRsl at h; split at h
  · injection h with h; subst h; rfl
  · cases h
theorem asRptr_inv {v : AV} {x : Nat × Nat} (h : asRptr v = some x) : v = .rptr x.1 x.2 := by
  unfold asRptr at h; split at h
  · injection h with h; subst h; rfl
  · cases h
theorem addrOf_inv {v : AV} {x : Nat × Nat} (h : addrOf v = some x) : v = .ptr (some x) := by
  unfold addrOf at h; split at h
  · injection h with h; subst h; rfl
  · cases h
theorem within_ok {z : Int} {len : Nat} (h1 : 0 ≤ z) (h2 : z < Int.ofNat len) : within z len = some z.toNat := by
  obtain ⟨m, rfl⟩ := Int.eq_ofNat_of_zero_le h1
  show within (Int.ofNat m) len = some m
  have h2 : (m : Int) < (len : Int) := h2
  unfold within
  have : Nat.blt m len = true := by rw [blt_eq]; omega
  simp only [this]
section
variable {P : Program} {s s1 : AS} {call : Caller} {t : Tr AV}
theorem op_ix {x : TypeId × Operand × Operand} {n len K : Nat} {cap : Cap} {ik : IntKind} {z : Int} (hx : opd t x.2.1 = some (.slice (some (n, 0)) len cap)) (hz : opd t x.2.2 = some (.int ik z)) (hk : elemSz P x.1 = some K) (h1 : 0 ≤ z) (h2 : z < Int.ofNat len) : (opB P (.indexAddr x.1 x.2.1 x.2.2)).val call t s = .ok (.ptr (some (n, z.toNat * K))) s := by
  show kIndexAddr P x.1 x.2.1 x.2.2 call t s = _
  unfold kIndexAddr
  rw [hx, hz, withO_some, withO_some]
  unfold elemSz at hk
  split at hk
  · rename_i e he
    show lift (indexAddr P x.1 (.slice (some (n, 0)) len cap) (.int ik z)) s = _
    unfold indexAddr intOf
    simp only [he, hk, within_ok h1 h2, Nat.zero_add]
    rfl
  · cases hk
theorem op_ixf {x : TypeId × Operand × Operand} {n o len K : Nat} {ik : IntKind} {z : Int} (hx : opd t x.2.1 = some (.rslice n o len)) (hz : opd t x.2.2 = some (.int ik z)) (hk : elemSz P x.1 = some K) (h1 : 0 ≤ z) (h2 : z < Int.ofNat len) : (opB P (.indexAddr x.1 x.2.1 x.2.2)).val call t s = .ok (.rptr n (o + z.toNat * K)) s := by
  show kIndexAddr P x.1 x.2.1 x.2.2 call t s = _
  unfold kIndexAddr
  rw [hx, hz, withO_some, withO_some]
  unfold elemSz at hk
  split at hk
  · rename_i e he
    show lift (indexAddr P x.1 (.rslice n o len) (.int ik z)) s = _
    unfold indexAddr intOf
    simp only [he, hk, within_ok h1 h2]
    rfl
  · cases hk
theorem readCells_of {n off k : Nat} {cs : List AV} (hk : isPos k = true) (hn : Nat.blt n s.nx = true) (h : cellsOf (s.h.get n) off k = some cs) : readCells n off k s = .ok cs (rdS n s) := by
  cases k with
  | zero => cases hk
  | succ k =>
    unfold cellsOf at h
    split at h
    · rename_i m tt z hg
      split at h
      · rename_i hb
        show ((rdN n).bind fun o => match o with
          | .cells m t z => withB (Nat.ble (off + (k + 1)) m) <| lift (gather t z (k + 1) off)
          | .ro m t => withB (Nat.ble (off + (k + 1)) m) <| lift (gather t [] (k + 1) off)
          | _ => fail) s = _
        rw [M.bind_ok (rdN_any hn hg)]
        show withB (Nat.ble (off + (k + 1)) m) (lift (gather tt z (k + 1) off)) (rdS n s) = _
        rw [hb, withB_true, h]
        rfl
      · cases h
    · cases h
theorem loadVar_of {ty : TypeId} {n off k : Nat} {cs : List AV} {ag : Bool} {v : AV} (hg : aggT P ty = some ag) (hw : widthO P ty ag = some k) (hk : isPos k = true) (hn : Nat.blt n s.nx = true) (hv : aggO ag cs = some v) (h : cellsOf (s.h.get n) off k = some cs) : loadVar P ty n off s = .ok v (rdS n s) := by
  unfold loadVar
  rw [hg, withO_some]
  cases ag with
  | true =>
    have hw : sizeT P ty = some k := hw
    injection hv with hv; subst hv
    show (withO (sizeT P ty) fun k => (readCells n off k).bind fun l => M.pure (AV.agg l)) s = _
    rw [hw, withO_some, M.bind_ok (readCells_of hk hn h)]
    rfl
  | false =>
    injection hw with hw; subst hw
    show ((readCells n off 1).bind fun l => lift (one l)) s = _
    rw [M.bind_ok (readCells_of hk hn h)]
    show lift (one cs) (rdS n s) = _
    rw [show one cs = some v from hv]
    rfl
theorem op_ld {x : TypeId × Operand} {a : Nat × Nat} {k : Nat} {cs : List AV} {ag : Bool} {v : AV} (ha : opd t x.2 = some (.ptr (some a))) (hg : aggT P x.1 = some ag) (hw : widthO P x.1 ag = some k) (hk : isPos k = true) (hn : Nat.blt a.1 s.nx = true) (hv : aggO ag cs = some v) (h : cellsOf (s.h.get a.1) a.2 k = some cs) : (opB P (.load x.1 x.2)).val call t s = .ok v (rdS a.1 s) := by
  show kLoad P x.1 x.2 call t s = _
  unfold kLoad
  rw [ha, withO_some]
  show loadVar P x.1 a.1 a.2 s = _
  exact loadVar_of hg hw hk hn hv h
theorem op_stc {x : TypeId × Operand × Operand} {a : Nat × Nat} {k : Nat} {v : AV} {o : AObj} (ha : opd t x.2.1 = some (.ptr (some a))) (hv : opd t x.2.2 = some v) (hk : sizeT P x.1 = some k) (hl : Nat.beq v.cells.length k = true) (hp : isPos k = true) (hn : Nat.blt a.1 s.nx = true) (ht : Nat.blt a.1 top = true) (h : setCl (s.h.get a.1) a.2 v.cells = some o) : (opB P (.store x.1 x.2.1 x.2.2)).val call t s = .ok aundef (wrS a.1 (some o) (rdS a.1 s)) := by
  show kStore P x.1 x.2.1 x.2.2 call t s = _
  unfold kStore
  rw [ha, withO_some]
  show withO (opd t x.2.2) (fun v => (storeVar P x.1 a.1 a.2 v).bind fun _ => M.pure aundef) s = _
  rw [hv, withO_some]
  have hw : storeVar P x.1 a.1 a.2 v s = .ok () (wrS a.1 (some o) (rdS a.1 s)) := by
    unfold storeVar
    rw [hk, withO_some, hl, withB_true]
    unfold setCl at h
    split at h
    · rename_i m tt z hg
      split at h
      · rename_i hb
        injection h with h; subst h
        cases hc : v.cells with
        | nil =>
          rw [hc] at hl
          have := Nat.eq_of_beq_eq_true hl
          subst this; cases hp
        | cons y r =>
          rw [hc] at hb
          show ((rdN a.1).bind fun o => match o with
            | .cells m t z => withB (and (Nat.ble (a.2 + (r.length + 1)) m) (and (Nat.ble m top) ((y :: r).all AV.oneCell))) <| wrN a.1 (some (.cells m (Tr.fill (y :: r) a.2 t) z))
            | _ => fail) s = _
          rw [M.bind_ok (rdN_any hn hg)]
          show withB (and (Nat.ble (a.2 + (r.length + 1)) m) (and (Nat.ble m top) ((y :: r).all AV.oneCell))) (wrN a.1 (some (.cells m (Tr.fill (y :: r) a.2 tt) z))) (rdS a.1 s) = _
          rw [show (and (Nat.ble (a.2 + (r.length + 1)) m) (and (Nat.ble m top) ((y :: r).all AV.oneCell))) = true from hb, withB_true]
          obtain ⟨e1, e2, _⟩ := rdS_h a.1 s
          exact wrN_any (p := .cells m tt z) (by rw [e2]; exact hn) (by rw [e1]; exact hg) rfl ht
      · cases h
    · cases h
  rw [M.bind_ok hw]
  rfl
theorem op_ldf {sp : Sp} {F : Nat → Option (List AV)} {n : Nat} {x : TypeId × Operand} {a : Nat × Nat} {k : Nat} {cs : List AV} {ag : Bool} {v : AV} (ha : opd t x.2 = some (.rptr a.1 a.2)) (hg : aggT P x.1 = some ag) {z : Nat} (hz : sizeT P x.1 = some z) (hw : widthO P x.1 ag = some k) (hv : aggO ag cs = some v) (ht : top ≤ a.1) (h : frzAt F a.1 a.2 k = some cs) : (opB P (.load x.1 x.2)).val (arunI P sp F n) t s = .ok v s := by
  show kLoad P x.1 x.2 (arunI P sp F n) t s = _
  unfold kLoad
  rw [ha, withO_some]
  show (match Nat.ble top a.1 with
    | true => loadFz P x.1 (arunI P sp F n) a.1 a.2
    | false => loadRow P x.1 a.1 a.2) s = _
  rw [ble_true.2 ht]
  have hr : ∀ k, frzAt F a.1 a.2 k = some cs → arunI P sp F n (.row a.1 a.2 k) [] s = .ok (.agg cs) s := by
    intro k h
    have : rowM F a.1 a.2 k s = .ok (.agg cs) s := by
      unfold frzAt at h
      unfold rowM
      cases e : F a.1 with
      | none => rw [e] at h; cases h
      | some l =>
        rw [e] at h
        simp only at h
        split at h
        · rename_i hb
          injection h with h; subst h
          rw [withO_some, hb, withB_true]
          rfl
        · cases h
    cases n <;> exact this
  show loadFz P x.1 (arunI P sp F n) a.1 a.2 s = _
  unfold loadFz
  rw [hg, withO_some]
  rw [hz, withO_some]
  cases ag with
  | true =>
    have hw : sizeT P x.1 = some k := hw
    rw [hz] at hw; injection hw with hw; subst hw
    injection hv with hv; subst hv
    show ((arunI P sp F n (.row a.1 a.2 z) []).bind fun v => _) s = _
    rw [M.bind_ok (hr z h)]
    rfl
  | false =>
    injection hw with hw; subst hw
    show ((arunI P sp F n (.row a.1 a.2 1) []).bind fun v => _) s = _
    rw [M.bind_ok (hr 1 h)]
    show lift (one cs) s = _
    rw [show one cs = some v from hv]
    rfl
theorem op_rm {x : BinOp × TypeId × Operand × Operand × TypeId} {k : IntKind} {a b : Int} (ho : x.1 = .rem) (hx : opd t x.2.2.1 = some (.int k a)) (hy : opd t x.2.2.2.1 = some (.int k b)) (hb : b ≠ 0) : (opB P (.binOp x.1 x.2.1 x.2.2.1 x.2.2.2.1 x.2.2.2.2)).val call t s = .ok (.int k (Int.tmod a b)) s := by
  rw [ho]
  exact op_rem hx hy hb rfl
theorem op_sh {x : BinOp × TypeId × Operand × Operand × TypeId} {k k' : IntKind} {a b : Int} (ho : isShift x.1 = true) (hx : opd t x.2.2.1 = some (.int k a)) (hy : opd t x.2.2.2.1 = some (.int k' b)) (hb : 0 ≤ b) : (opB P (.binOp x.1 x.2.1 x.2.2.1 x.2.2.2.1 x.2.2.2.2)).val call t s = .ok (.int k (bitV x.1 k a b)) s := by
  obtain ⟨o, ty, p, q, yt⟩ := x
  exact op_shift (by rw [hx, hy]; exact congrArg _ (congrArg _ ho)) hb
theorem slots_of : ∀ {l : List (Nat × AV)}, l.map (fun q => t.get q.1) = l.map (fun q => some q.2) → Slots t l
  | [], _ => trivial
  | p :: l, h => by
    simp only [List.map_cons, List.cons.injEq] at h
    exact ⟨h.1, slots_of h.2⟩
theorem objs_of {h : Tr AObj} : ∀ {o : List (Nat × Option AObj)}, o.map (fun q => h.get q.1) = o.map (fun q => q.2) → (o.all fun q => plainO q.2) = true → Objs h o
  | [], _, _ => trivial
  | p :: l, e, k => by
    simp only [List.map_cons, List.cons.injEq] at e
    rw [List.all_cons] at k
    obtain ⟨k1, k2⟩ := and_true.1 k
    exact ⟨⟨e.1, fun o ho => by rw [ho] at k1; exact k1⟩, objs_of e.2 k2⟩
end
def Cov (m m' : Met) : Prop := m.i = m'.i ∧ (∀ n ∈ m.rd, n ∈ m'.rd) ∧ (∀ n ∈ m.wr, n ∈ m'.wr) ∧ m.lo = m'.lo ∧ m.hi = m'.hi
def Covs : List Met → List Met → Prop
  | [], [] => True
  | x :: l, y :: m => Cov x y ∧ Covs l m
  | _, _ => False
theorem Cov.refl (m : Met) : Cov m m := ⟨rfl, fun _ h => h, fun _ h => h, rfl, rfl⟩
theorem Covs.refl : ∀ l : List Met, Covs l l
  | [] => trivial
  | x :: l => ⟨Cov.refl x, Covs.refl l⟩
theorem Covs.app : ∀ {a a' b b' : List Met}, Covs a a' → Covs b b' → Covs (a ++ b) (a' ++ b')
  | [], [], _, _, _, h => h
  | _ :: _, _ :: _, _, _, h, k => ⟨h.1, Covs.app h.2 k⟩
  | [], _ :: _, _, _, h, _ => h.elim
  | _ :: _, [], _, _, h, _ => h.elim
theorem hasIn_iff {lo hi : Nat} : ∀ {l : List Nat}, hasIn lo hi l = true ↔ ∃ n ∈ l, lo ≤ n ∧ n < hi
  | [] => by simp [hasIn]
  | x :: l => by
    have ih := hasIn_iff (lo := lo) (hi := hi) (l := l)
    unfold hasIn
    cases q : (Nat.ble lo x && Nat.blt x hi) with
    | true =>
      obtain ⟨h1, h2⟩ := and_true.1 q
      exact ⟨fun _ => ⟨x, List.mem_cons_self, ble_true.1 h1, (blt_eq _ _).mp h2⟩, fun _ => rfl⟩
    | false =>
      refine ih.trans ⟨fun ⟨n, a, b⟩ => ⟨n, List.mem_cons_of_mem _ a, b⟩, fun ⟨n, a, b⟩ => ?_⟩
      rcases List.mem_cons.1 a with rfl | a
      · exfalso
        rw [show (Nat.ble lo n && Nat.blt n hi) = true from and_true.2 ⟨ble_true.2 b.1, (blt_eq _ _).mpr b.2⟩] at q
        cases q
      · exact ⟨n, a, b⟩
theorem meets_iff : ∀ {a b : List Nat}, meets a b = true ↔ ∃ n ∈ a, n ∈ b
  | [], b => by simp [meets]
  | x :: a, b => by
    have ih := meets_iff (a := a) (b := b)
    unfold meets
    cases q : memN x b with
    | true => exact ⟨fun _ => ⟨x, List.mem_cons_self, memN_iff.1 q⟩, fun _ => rfl⟩
    | false =>
      refine ih.trans ⟨fun ⟨n, h, k⟩ => ⟨n, List.mem_cons_of_mem _ h, k⟩, fun ⟨n, h, k⟩ => ?_⟩
      rcases List.mem_cons.1 h with rfl | h
      · rw [memN_iff.2 k] at q; cases q
      · exact ⟨n, h, k⟩
theorem below_sub {m : Nat} {a b : List Nat} (h : ∀ k ∈ a, k ∈ b) (n : Nat) (hn : n ∈ below m a) : n ∈ below m b := by
  obtain ⟨h1, h2⟩ := mem_below.1 hn
  exact mem_below.2 ⟨h n h1, h2⟩
theorem below_zero (l : List Nat) : below 0 l = [] := rfl
theorem apartM_cov {x x' y y' : Met} (hx : Cov x x') (hy : Cov y y') (h : apartM x' y' = true) : apartM x y = true := by
  unfold apartM at h ⊢
  obtain ⟨h1, h2⟩ := and_true.1 h
  refine and_true.2 ⟨?_, ?_⟩
  · cases q : meets x.wr y.rd with
    | false => rfl
    | true =>
      obtain ⟨n, a, b⟩ := meets_iff.1 q
      rw [meets_iff.2 ⟨n, hx.2.2.1 n a, hy.2.1 n b⟩] at h1
      cases h1
  · cases q : hasIn x.lo x.hi y.rd with
    | false => rfl
    | true =>
      obtain ⟨n, a, b⟩ := hasIn_iff.1 q
      rw [hx.2.2.2.1, hx.2.2.2.2] at b
      rw [hasIn_iff.2 ⟨n, hy.2.1 n a, b⟩] at h2
      cases h2
theorem quietM_cov {x x' : Met} (hx : Cov x x') (h : quietM x' = true) : quietM x = true := by
  unfold quietM at h ⊢
  cases e : x'.wr with
  | cons a l => rw [e] at h; cases h
  | nil =>
    rw [e] at h
    cases e2 : x.wr with
    | nil => rw [hx.2.2.2.1, hx.2.2.2.2]; exact h
    | cons a l =>
      have := hx.2.2.1 a (by rw [e2]; exact List.mem_cons_self)
      rw [e] at this; cases this
theorem againstAll_cov {b : Array Nat} {x x' : Met} (hx : Cov x x') : ∀ {l l' : List Met}, Covs l l' → againstAll b x' l' = true → againstAll b x l = true
  | [], [], _, _ => rfl
  | [], _ :: _, h, _ => h.elim
  | _ :: _, [], h, _ => h.elim
  | y :: l, y' :: l', hl, h => by
    unfold againstAll at h ⊢
    cases q : (Nat.beq x'.i y'.i || (apartM x' y' || !loose b x'.i y'.i)) with
    | false => rw [q] at h; cases h
    | true =>
      rw [q] at h
      have : (Nat.beq x.i y.i || (apartM x y || !loose b x.i y.i)) = true := by
        rw [hx.1, hl.1.1]
        cases q1 : Nat.beq x'.i y'.i with
        | true => rfl
        | false =>
          rw [q1] at q
          cases q2 : apartM x' y' with
          | true => rw [apartM_cov hx hl.1 q2]; rfl
          | false =>
            rw [q2] at q
            cases apartM x y
            · exact q
            · rfl
      rw [this]
      exact againstAll_cov hx hl.2 h
theorem metOk_cov {b : Array Nat} {all all' : List Met} (ha : Covs all all') : ∀ {l l' : List Met}, Covs l l' → metOk b all' l' = true → metOk b all l = true
  | [], [], _, _ => rfl
  | [], _ :: _, h, _ => h.elim
  | _ :: _, [], h, _ => h.elim
  | x :: l, x' :: l', hl, h => by
    unfold metOk at h ⊢
    cases q : (quietM x' || againstAll b x' all') with
    | false => rw [q] at h; cases h
    | true =>
      rw [q] at h
      have : (quietM x || againstAll b x all) = true := by
        cases q1 : quietM x' with
        | true => rw [quietM_cov hl.1 q1]; rfl
        | false =>
          rw [q1] at q
          rw [againstAll_cov hl.1 ha q]
          cases quietM x <;> rfl
      rw [this]
      exact metOk_cov ha hl.2 h
theorem RegD.cover {P : Program} {call : Caller} {G : AF → AS → Prop} {f nt : Nat} {K : List Item} {ops : Array Oper} {acc acc' : List Met} {i : Nat} {t : Tr AV} {s : AS} (h : Covs acc acc') (H : RegD P call G f nt K ops acc' i t s) : RegD P call G f nt K ops acc i t s := by
  obtain ⟨t1, ms, s1, q1, q2, q3⟩ := H
  exact ⟨t1, ms, s1, q1, metOk_cov (h.app (Covs.refl ms)) (h.app (Covs.refl ms)) q2, q3⟩
theorem two_bools {b : Bool} {A B X : Prop} (hy : b = true → A) (hno : b = false → B) (ha : b = true → A → X) (hb : b = false → B → X) : X := by
  cases b with
  | true => exact ha rfl (hy rfl)
  | false => exact hb rfl (hno rfl)
theorem two_ways {o : Option AV} {c : Prop} {d : Decidable c} {A B X : Prop} (h : o = some (.bool (@decide c d))) (hy : c → A) (hno : ¬ c → B) (ha : o = some (.bool true) → A → X) (hb : o = some (.bool false) → B → X) : X := by
  by_cases q : c
  · rw [decide_eq_true q] at h; exact ha h (hy q)
  · rw [decide_eq_false q] at h; exact hb h (hno q)
theorem wp_sound {E : Env} (hE : E.Ok) : ∀ (fuel n : Nat) (c : Ctl) (p : Pl) (rs : List ResultVar) (k : Kt) (C : CutT) (G : AF → AS → Prop), Chunk E.P (arunI E.P E.sp E.F n) G →
    (∀ fr s j fr1 jm s1 x s2 p, arow E.P (arunI E.P E.sp E.F n) j fr s = .ok (.leave fr1 jm) s1 → finish E.P rs fr1 jm s1 = .ok x s2 → k x s2 p → G fr s) → (∀ fr s p, C fr s p → G fr s) → (∀ f nt K t s l o nx p, E.fg = true → lowP top l = true → lowP top o = true → (Nat.ble s.nx nx && Nat.ble nx top) = true → Slots t l → Objs s.h o → C ⟨f, trOf l, nt, K, [], none⟩ (stOf o nx) p → G ⟨f, t, nt, K, [], none⟩ s) → (∀ f nt K t s l0 o0 l o nx p, E.fg = true → l0.map (fun q => t.get q.1) = l0.map (fun q => some q.2) → o0.map (fun q => s.h.get q.1) = o0.map (fun q => q.2) → Weak E.lo s.nx l0 o0 l o nx → C ⟨f, trOf l, nt, K, [], none⟩ (stOf o nx) p → G ⟨f, t, nt, K, [], none⟩ s) → (∀ f nt K t s l o nx p, E.fg = true → lowP top l = true → lowP nx o = true → (Nat.ble nx s.nx && (Nat.blt s.nx top && Nat.ble E.lo nx)) = true → Slots t l → Objs s.h o → EntP nx l o → C ⟨f, trOf l, nt, K, [], none⟩ (stOf o nx) p → G ⟨f, t, nt, K, [], none⟩ s) → wp E fuel n c p rs k C → Gof E.P (arunI E.P E.sp E.F n) G c
  | 0, n, c, p, rs, k, C, G, hG, hk, hC, hL, hR, hB, h => h.elim
  | fuel + 1, n, c, p, rs, k, C, G, hG, hk, hC, hL, hR, hB, h => by
    have ih := wp_sound hE fuel
    have h : wpB E (wp E fuel) n c p rs k C := h
    unfold wpB at h
    cases c with
    | fr f nt K t s =>
      simp only at h
      split at h
      · obtain ⟨x, s1, h1, h⟩ := wr_inv h
        obtain ⟨y, h2, h⟩ := wo_inv h
        rw [goStp_inv h2] at h1
        exact hG _ _ _ _ _ h1 (ih n _ _ rs k C G hG hk hC hL hR hB h)
      · obtain ⟨x, h1, h⟩ := wo_inv h
        obtain ⟨id, rfl⟩ := headReg_inv h1
        exact RegX.into hG (ih n _ _ rs k C G hG hk hC hL hR hB h)
      · obtain ⟨x, s1, h1, h⟩ := wr_inv h
        obtain ⟨y, h2, h⟩ := wo_inv h
        obtain ⟨v, s2, h3, h⟩ := wr_inv h
        rw [lvStp_inv h2] at h1
        exact hk _ _ _ _ _ _ _ _ _ h1 h3 h
      · exact hC _ _ _ h
      · obtain ⟨h1, h2, h3, h⟩ := wb_inv h
        obtain ⟨q0, h1⟩ := and_true.1 h1
        obtain ⟨q1, h1⟩ := and_true.1 h1
        obtain ⟨q2, h1⟩ := and_true.1 h1
        obtain ⟨q3, q4⟩ := and_true.1 h1
        exact hL _ _ _ _ _ _ _ _ _ q0 q1 q2 q3 (slots_of h2) (objs_of h3 q4) h
      · obtain ⟨h1, h2, h3, h4, h⟩ := wb_inv h
        obtain ⟨q0, q1⟩ := and_true.1 h1
        have q1 := Nat.eq_of_beq_eq_true q1
        rw [← q1] at h4
        exact hR _ _ _ _ _ _ _ _ _ _ _ q0 h2 h3 h4 h
      · obtain ⟨h1, h2, h3, h4, h⟩ := wb_inv h
        obtain ⟨q0, h1⟩ := and_true.1 h1
        obtain ⟨q1, h1⟩ := and_true.1 h1
        obtain ⟨q2, h1⟩ := and_true.1 h1
        obtain ⟨q3, q4⟩ := and_true.1 h1
        exact hB _ _ _ _ _ _ _ _ _ q0 q1 q2 q3 (slots_of h2) (objs_of h3 q4) h4 h
      · exact h.elim
    | rg f nt K ops D i t s =>
      simp only at h
      split at h
      · obtain ⟨h1, h⟩ := wb_inv h
        obtain ⟨x, s1, h2, h⟩ := wr_inv h
        exact RegX.go h1 h2 (ih n _ _ rs k C G hG hk hC hL hR hB h)
      · obtain ⟨h1, h⟩ := wb_inv h
        obtain ⟨h2, h⟩ := wb_inv h
        exact RegX.done h1 h2 (ih n _ _ rs k C G hG hk hC hL hR hB h)
      · obtain ⟨o, ho, h⟩ := wo_inv h
        obtain ⟨hw, h⟩ := wb_inv h
        obtain ⟨op, d, g⟩ := o
        simp only at hw h
        have hn : ∀ v s1 p, (opB E.P op).val (arunI E.P E.sp E.F n) t (befS D s) = .ok v s1 → (wo (aput nt t d v) fun t1 => wp E fuel n (.rg f nt K ops (accS D i s s1) (i + 1) t1 (aftS D s s1)) p rs k C) → RegX E.P (arunI E.P E.sp E.F n) G f nt K ops D i t s := by
          intro v s1 p hv h
          obtain ⟨t1, hp, h⟩ := wo_inv h
          exact RegX.op ho hw hv hp (ih n _ _ rs k C G hG hk hC hL hR hB h)
        generalize hnx : (fun (v : AV) (s1 : AS) (p : Pl) => wo (aput nt t d v) fun t1 => wp E fuel n (.rg f nt K ops (accS D i s s1) (i + 1) t1 (aftS D s s1)) p rs k C) = nx at h
        have hn : ∀ v s1 p, (opB E.P op).val (arunI E.P E.sp E.F n) t (befS D s) = .ok v s1 → nx v s1 p → RegX E.P (arunI E.P E.sp E.F n) G f nt K ops D i t s := by
          intro v s1 p hv h
          rw [← hnx] at h
          exact hn v s1 p hv h
        show RegX E.P (arunI E.P E.sp E.F n) G f nt K ops D i t s
        unfold wop at h
        split at h
        · obtain ⟨x, h1, h⟩ := wo_inv h
          obtain ⟨a, h2, h⟩ := wo_inv h
          obtain ⟨b, h3, h⟩ := wo_inv h
          obtain ⟨a1, h4, h⟩ := wo_inv h
          obtain ⟨b1, h5, h⟩ := wo_inv h
          obtain ⟨h6, h⟩ := wb_inv h
          obtain ⟨c, h7, hy, hno⟩ := wo_inv h
          have h6 := of_decide_eq_true h6
          have e := binParts_inv h1
          rw [asInt_inv h4] at h2
          rw [asInt_inv h5, ← h6] at h3
          obtain ⟨r, hr, hrc⟩ := cmpP_ok h7
          have hv : (opB E.P op).val (arunI E.P E.sp E.F n) t (befS D s) = .ok (.bool r) (befS D s) := by rw [e]; exact op_cmp h2 h3 hr
          cases r with
          | true => exact hn _ _ _ hv (hy (hrc.1 rfl))
          | false => exact hn _ _ _ hv (hno fun q => by have := hrc.2 q; cases this)
        · obtain ⟨v', s1, h1, rfl, h⟩ := wr_inv h
          exact hn _ _ _ h1 h
        · obtain ⟨x, h1, h⟩ := wo_inv h
          obtain ⟨m, hm, h⟩ := wo_inv h
          obtain ⟨val, h2, h⟩ := wo_inv h
          obtain ⟨h3, h4, h⟩ := wb_inv h
          have e := predO_inv hm
          exact hn _ _ _ (by rw [e]; exact callAt_ok h1 (hE.tab _ _ _ _ _ _ h2 h4 h3)) h
        · obtain ⟨x, h1, h⟩ := wo_inv h
          obtain ⟨m, hm, h⟩ := wo_inv h
          obtain ⟨val, h2, h⟩ := wo_inv h
          obtain ⟨h3, h4, hy, hno⟩ := wb_inv h
          have e := predO_inv hm
          have hv := fun b (h4 : val x.2 = some (.bool b)) => (show (opB E.P op).val (arunI E.P E.sp E.F n) t (befS D s) = .ok (.bool b) (E.cs (befS D s)) by rw [e]; exact callAt_ok (P := E.P) h1 (hE.tab _ _ _ _ _ m h2 h4 h3))
          exact two_ways h4 hy hno (fun q h => hn _ _ _ (hv _ q) h) (fun q h => hn _ _ _ (hv _ q) h)
        · obtain ⟨x, h1, h⟩ := wo_inv h
          obtain ⟨h6, h⟩ := wb_inv h
          obtain ⟨a, h2, h⟩ := wo_inv h
          obtain ⟨b, h3, h⟩ := wo_inv h
          obtain ⟨a1, h4, h⟩ := wo_inv h
          obtain ⟨b1, h5, h⟩ := wo_inv h
          obtain ⟨h7, h8, h9, h⟩ := wb_inv h
          have e := binParts_inv h1
          have ea : x.1 = .add := by revert h6; split <;> intro h6 <;> first | assumption | cases h6
          rw [asStr_inv h4] at h2
          rw [asStr_inv h5] at h3
          refine hn _ _ _ ?_ h
          rw [e, ea]
          exact op_strAdd (by rw [h2, h3]) h8 h9 h7
        · obtain ⟨x, h1, h⟩ := wo_inv h
          obtain ⟨a, h2, h⟩ := wo_inv h
          obtain ⟨b, h3, h⟩ := wo_inv h
          obtain ⟨xs, h4, h⟩ := wo_inv h
          obtain ⟨ys, h5, h⟩ := wo_inv h
          obtain ⟨h6, h⟩ := wb_inv h
          obtain ⟨h7, h⟩ := wb_inv h
          obtain ⟨h8, h⟩ := wb_inv h
          obtain ⟨l, h9, h⟩ := wo_inv h
          have e := binParts_inv h1
          rw [asAgg_inv h4] at h2
          rw [asAgg_inv h5] at h3
          have h8 : E.P.stoodInHeld x.2.1 = false := by simpa using h8
          split at h
          · rename_i eo
            rw [eo] at h6 e
            obtain ⟨hy, hno⟩ := h
            have hv : (opB E.P op).val (arunI E.P E.sp E.F n) t (befS D s) = .ok (.bool (allEq l)) (befS D s) := by rw [e]; exact op_eqlT h2 h3 h6 h7 h8 h9 rfl
            cases q : allEq l with
            | true => rw [q] at hv; exact hn _ _ _ hv (hy q)
            | false => rw [q] at hv; exact hn _ _ _ hv (hno q)
          · rename_i eo
            rw [eo] at h6 e
            obtain ⟨hy, hno⟩ := h
            have hv : (opB E.P op).val (arunI E.P E.sp E.F n) t (befS D s) = .ok (.bool (!allEq l)) (befS D s) := by rw [e]; exact op_neqT h2 h3 h6 h7 h8 h9 rfl
            cases q : allEq l with
            | true => rw [q] at hv; exact hn _ _ _ hv (hy q)
            | false => rw [q] at hv; exact hn _ _ _ hv (hno q)
          · exact h.elim
        · obtain ⟨x, h1, h⟩ := wo_inv h
          obtain ⟨m, hm, h⟩ := wo_inv h
          obtain ⟨h2, h⟩ := wb_inv h
          obtain ⟨y, h3, h⟩ := wo_inv h
          obtain ⟨a, h4, h⟩ := wo_inv h
          obtain ⟨sep, h5, h⟩ := wo_inv h
          obtain ⟨h6, h⟩ := wb_inv h
          obtain ⟨l, s1, h7, h⟩ := wr_inv h
          obtain ⟨ts, h8, h9, h10, h⟩ := wo_inv h
          have e := predO_inv hm
          refine hn _ _ _ ?_ h
          rw [e]
          refine callAt_ok h1 ?_
          rw [one2_inv h3, asSlice_inv h4, asStr_inv h5, ← h9]
          exact join_says (hE.jn _ h2) (by rw [h6, h7, h8]) h10
        · obtain ⟨x, h1, h⟩ := wo_inv h
          obtain ⟨h6, h⟩ := wb_inv h
          obtain ⟨a, h2, h⟩ := wo_inv h
          obtain ⟨b, h3, h⟩ := wo_inv h
          obtain ⟨a1, h4, h⟩ := wo_inv h
          obtain ⟨b1, h5, h7, h⟩ := wo_inv h
          have e := binParts_inv h1
          have ea : x.1 = .eql := by revert h6; split <;> intro h6 <;> first | assumption | cases h6
          rw [asStr_inv h4] at h2
          rw [asStr_inv h5] at h3
          refine hn _ _ _ ?_ h
          rw [e, ea]
          exact op_strSame (by rw [h2, h3]) h7
        · obtain ⟨x, h1, h2, h⟩ := wo_inv h
          exact hn _ _ _ (callAt_ok h1 h2) h
        · obtain ⟨hdr, h⟩ := wb_inv h
          obtain ⟨x, h1, ⟨rd, wr, k1, k2, k3⟩, hy, hno⟩ := wo_inv h
          obtain ⟨hd1, hd2⟩ := and_true.1 hdr
          cases D with
          | none => cases hd1
          | some acc =>
            have hm : s.mark = 0 := Nat.eq_of_beq_eq_true hd2
            have hcov : ∀ v h2 nx1 R W p, (∀ k ∈ rd, k ∈ R) → (∀ k ∈ wr, k ∈ W) → (opB E.P op).val (arunI E.P E.sp E.F n) t (befS (some acc) s) = .ok v ⟨h2, nx1, (befS (some acc) s).mark, rd, wr⟩ → nx v ⟨h2, nx1, (befS (some acc) s).mark, R, W⟩ p → RegX E.P (arunI E.P E.sp E.F n) G f nt K ops (some acc) i t s := by
              intro v h2 nx1 R W p a1 a2 hv h
              rw [← hnx] at h
              obtain ⟨t1, hp, h⟩ := wo_inv h
              refine RegX.op ho hw hv hp ?_
              have H := ih n _ _ rs k C G hG hk hC hL hR hB h
              have e : aftS (some acc) s ⟨h2, nx1, (befS (some acc) s).mark, rd, wr⟩ = aftS (some acc) s ⟨h2, nx1, (befS (some acc) s).mark, R, W⟩ := by
                show backS s _ = backS s _
                unfold backS
                rw [hm, below_zero, below_zero, below_zero, below_zero]
              rw [e]
              exact RegD.cover (acc' := acc ++ [metS i s ⟨h2, nx1, (befS (some acc) s).mark, R, W⟩]) (Covs.app (Covs.refl acc) ⟨⟨rfl, fun n h => below_sub a1 n h, fun n h => below_sub a2 n h, rfl, rfl⟩, trivial⟩) H
            rcases k3 with ⟨kφ, k3⟩ | k3
            · exact hcov _ _ _ _ _ _ k1 k2 (callAt_ok h1 k3) (hy kφ)
            · exact hcov _ _ _ _ _ _ k1 k2 (callAt_ok h1 k3) hno
        · obtain ⟨x, h1, h⟩ := wo_inv h
          obtain ⟨a, h2, h⟩ := wo_inv h
          obtain ⟨a', h3, h⟩ := wo_inv h
          obtain ⟨b, h4, h⟩ := wo_inv h
          obtain ⟨m, h5, h⟩ := wo_inv h
          obtain ⟨i1, h6, h⟩ := wo_inv h
          obtain ⟨hb, k1, k2, k3, k4, k5, k6, k7, h⟩ := wb_inv h
          obtain ⟨b1, hb⟩ := and_true.1 hb
          obtain ⟨b2, hb⟩ := and_true.1 hb
          obtain ⟨b3, hb⟩ := and_true.1 hb
          obtain ⟨b4, hb⟩ := and_true.1 hb
          obtain ⟨b5, b6⟩ := and_true.1 hb
          have b1 := Nat.eq_of_beq_eq_true b1
          obtain ⟨ty, e, e1, e2, e3, e4, e5⟩ := elemInfo_inv h6
          refine hn _ _ _ ?_ h
          rw [appParts_inv h1]
          rw [own0_inv h3, k1, k2, b1] at h2
          rw [fresh1_inv h5] at h4
          exact op_appendS (ty := ty) (e := e) (by rw [h2, h4, e1, e2, e3, e4]) k3 k4 (by rw [b2, b3, b4, b5, e5]; simp only [Bool.and_true]; congr 1; congr 1; simpa using b6) k5 k6 k7
        · obtain ⟨x, h1, h⟩ := wo_inv h
          obtain ⟨a, h2, h⟩ := wo_inv h
          obtain ⟨a', h3, h⟩ := wo_inv h
          obtain ⟨ad, h4, h⟩ := wo_inv h
          obtain ⟨z, h5, h⟩ := wo_inv h
          obtain ⟨z', h6, h⟩ := wo_inv h
          obtain ⟨K1, h7, h⟩ := wo_inv h
          obtain ⟨h8, h9, h10, h⟩ := wb_inv h
          refine hn _ _ _ ?_ h
          rw [idxParts_inv h1]
          rw [asSlice_inv h3, h4] at h2
          obtain ⟨n0, o0⟩ := ad
          have h8 : o0 = 0 := Nat.eq_of_beq_eq_true h8
          subst h8
          rw [asInt_inv h6] at h5
          exact op_ix h2 h5 h7 h9 h10
        · obtain ⟨x, h1, h⟩ := wo_inv h
          obtain ⟨a, h2, h⟩ := wo_inv h
          obtain ⟨a', h3, h⟩ := wo_inv h
          obtain ⟨z, h5, h⟩ := wo_inv h
          obtain ⟨z', h6, h⟩ := wo_inv h
          obtain ⟨K1, h7, h9, h10, h⟩ := wo_inv h
          refine hn _ _ _ ?_ h
          rw [idxParts_inv h1]
          rw [asRsl_inv h3] at h2
          rw [asInt_inv h6] at h5
          exact op_ixf h2 h5 h7 h9 h10
        · obtain ⟨x, h1, h⟩ := wo_inv h
          obtain ⟨a, h2, h⟩ := wo_inv h
          obtain ⟨a', h3, h⟩ := wo_inv h
          obtain ⟨ag, h4, h⟩ := wo_inv h
          obtain ⟨k1, h5, h⟩ := wo_inv h
          obtain ⟨h6, h⟩ := wb_inv h
          obtain ⟨h7, h⟩ := wb_inv h
          obtain ⟨v, h8, h9, h⟩ := wo_inv h
          refine hn _ _ _ ?_ h
          rw [loadParts_inv h1]
          rw [addrOf_inv h3] at h2
          exact op_ld h2 h4 h5 h6 h7 h8 h9
        · obtain ⟨x, h1, h⟩ := wo_inv h
          obtain ⟨a, h2, h⟩ := wo_inv h
          obtain ⟨a', h3, h⟩ := wo_inv h
          obtain ⟨ag, h4, h⟩ := wo_inv h
          obtain ⟨h5, h⟩ := wb_inv h
          obtain ⟨h7, h8, hy, hno⟩ := wb_inv h
          have h5 : ag = false := by simpa using h5
          subst h5
          rw [addrOf_inv h3] at h2
          exact two_bools hy hno (fun e h => hn _ _ _ (by rw [loadParts_inv h1]; exact op_ld h2 h4 rfl rfl h7 rfl (by rw [h8, e])) h) (fun e h => hn _ _ _ (by rw [loadParts_inv h1]; exact op_ld h2 h4 rfl rfl h7 rfl (by rw [h8, e])) h)
        · obtain ⟨x, h1, h⟩ := wo_inv h
          obtain ⟨a, h2, h⟩ := wo_inv h
          obtain ⟨a', h3, h⟩ := wo_inv h
          obtain ⟨ag, h4, h⟩ := wo_inv h
          obtain ⟨z, hz, h⟩ := wo_inv h
          obtain ⟨k1, h5, h⟩ := wo_inv h
          obtain ⟨v, h8, h9, h10, h⟩ := wo_inv h
          refine hn _ _ _ ?_ h
          rw [loadParts_inv h1]
          rw [asRptr_inv h3] at h2
          exact op_ldf h2 h4 hz h5 h8 h9 h10
        · obtain ⟨x, h1, h⟩ := wo_inv h
          obtain ⟨a, h2, h⟩ := wo_inv h
          obtain ⟨a', h3, h⟩ := wo_inv h
          obtain ⟨v, h4, h⟩ := wo_inv h
          obtain ⟨k1, h5, h⟩ := wo_inv h
          obtain ⟨h6, h⟩ := wb_inv h
          obtain ⟨h7, h⟩ := wb_inv h
          obtain ⟨h8, h⟩ := wb_inv h
          obtain ⟨h9, h10, h⟩ := wb_inv h
          refine hn _ _ _ ?_ h
          rw [storeParts_inv h1]
          rw [addrOf_inv h3] at h2
          exact op_stc h2 h4 h5 h6 h7 h8 h9 h10
        · obtain ⟨x, h1, h⟩ := wo_inv h
          obtain ⟨h6, h⟩ := wb_inv h
          obtain ⟨a, h2, h⟩ := wo_inv h
          obtain ⟨b, h3, h⟩ := wo_inv h
          obtain ⟨a1, h4, h⟩ := wo_inv h
          obtain ⟨b1, h5, h7, h⟩ := wo_inv h
          refine hn _ _ _ ?_ h
          rw [binParts_inv h1]
          rw [asInt_inv h4] at h2
          rw [asInt_inv h5] at h3
          exact op_sh h6 h2 h3 h7
        · obtain ⟨x, h1, h⟩ := wo_inv h
          obtain ⟨h6, h⟩ := wb_inv h
          obtain ⟨a, h2, h⟩ := wo_inv h
          obtain ⟨b, h3, h⟩ := wo_inv h
          obtain ⟨a1, h4, h⟩ := wo_inv h
          obtain ⟨b1, h5, h⟩ := wo_inv h
          obtain ⟨h8, h7, h⟩ := wb_inv h
          have ea : x.1 = .rem := by revert h6; split <;> intro h6 <;> first | assumption | cases h6
          have h8 := of_decide_eq_true h8
          refine hn _ _ _ ?_ h
          rw [binParts_inv h1]
          rw [asInt_inv h4] at h2
          rw [asInt_inv h5, ← h8] at h3
          exact op_rm ea h2 h3 h7
        · obtain ⟨x, h1, h⟩ := wo_inv h
          obtain ⟨m, hm, h⟩ := wo_inv h
          have e := predO_inv hm
          split at h
          · exact h.elim
          · rename_i hsp
            obtain ⟨fn, hfn, h⟩ := wo_inv h
            obtain ⟨body, hbody, h⟩ := wo_inv h
            obtain ⟨hname, h⟩ := wb_inv h
            obtain ⟨hmax, h⟩ := wb_inv h
            have hname : (fn.name == "runtime.NumGoroutine") = false := by simpa using hname
            obtain ⟨fo, xs, ts, eo, hf, ha⟩ := callAt_inv h1
            have H := ih m _ _ _ nx (fun _ _ _ => False) (Ev E.P (arunI E.P E.sp E.F m) fun fr1 jm s1 => ∃ v s2 p, finish E.P fn.results.toList fr1 jm s1 = .ok v s2 ∧ nx v s2 p) Chunk.ev
              (fun fr s j fr1 jm s1 v s2 p q1 q2 q3 => ⟨j, fr1, jm, s1, q1, v, s2, p, q2, q3⟩) (fun _ _ _ q => q.elim) (fun _ _ _ _ _ _ _ _ _ _ _ _ _ _ _ q => q.elim) (fun _ _ _ _ _ _ _ _ _ _ _ _ _ _ _ q => q.elim) (fun _ _ _ _ _ _ _ _ _ _ _ _ _ _ _ _ q => q.elim) h
            obtain ⟨j, fr1, jm, s1, q1, v, s2, p, q2, q3⟩ := H
            exact hn _ _ _ (by rw [eo, e]; exact callE_ok (by rw [hf, ha]) hsp hfn hbody hname hmax q1 q2) q3
        · exact h.elim
theorem tfk {A B : Prop} (c : Prop) (x : c → A) (y : ¬ c → B) : (c → A) ∧ (¬ c → B) := ⟨x, y⟩
theorem te7 {A B : Prop} (a1 b1 a2 b2 a3 b3 a4 b4 a5 b5 a6 b6 a7 b7 : Int) (x : (a1 = b1 ∧ a2 = b2 ∧ a3 = b3 ∧ a4 = b4 ∧ a5 = b5 ∧ a6 = b6 ∧ a7 = b7) → A) (y : ¬ (a1 = b1 ∧ a2 = b2 ∧ a3 = b3 ∧ a4 = b4 ∧ a5 = b5 ∧ a6 = b6 ∧ a7 = b7) → B) : (allEq [(a1, b1), (a2, b2), (a3, b3), (a4, b4), (a5, b5), (a6, b6), (a7, b7)] = true → A) ∧ (allEq [(a1, b1), (a2, b2), (a3, b3), (a4, b4), (a5, b5), (a6, b6), (a7, b7)] = false → B) := by
  have e : allEq [(a1, b1), (a2, b2), (a3, b3), (a4, b4), (a5, b5), (a6, b6), (a7, b7)] = true ↔ (a1 = b1 ∧ a2 = b2 ∧ a3 = b3 ∧ a4 = b4 ∧ a5 = b5 ∧ a6 = b6 ∧ a7 = b7) := by simp [allEq]
  exact ⟨fun h => x (e.1 h), fun h => y fun q => by rw [e.2 q] at h; cases h⟩
theorem Sim.back {P : Program} {B : Base} {nx0 : Nat} {Q : Tr AV → List Nat → Option Code → AS → Prop} {s : AS} {t : Tr AV} {nt f : Nat} {K : List Item} {l : List (Nat × AV)} {o : List (Nat × Option AObj)} {nx : Nat} (hl : lowP top l = true) (ho : lowP nx o = true) (hn : (Nat.ble nx s.nx && (Nat.blt s.nx top && Nat.ble nx0 nx)) = true) (hg : globs ≤ nx0)
    (ht : Slots t l) (hh : Objs s.h o) (he : EntP nx l o) (H : Sim P B nx0 Q ⟨f, trOf l, nt, K, [], none⟩ (stOf o nx)) : Sim P B nx0 Q ⟨f, t, nt, K, [], none⟩ s := by
  obtain ⟨n1, n2⟩ := and_true.1 hn
  obtain ⟨n2, n3⟩ := and_true.1 n2
  have n1 := ble_true.1 n1
  have n2 := (blt_eq _ _).mp n2
  have n3 := ble_true.1 n3
  let r : Nat → Nat := fun k => if k < nx ∨ top ≤ k then k else max k s.nx
  have r1 : ∀ k, k < nx → r k = k := fun k hk => by show (if _ then _ else _) = _; rw [if_pos (.inl hk)]
  have r2 : ∀ k, top ≤ k → r k = k := fun k hk => by show (if _ then _ else _) = _; rw [if_pos (.inr hk)]
  obtain ⟨e1, e2⟩ := he r r1 r2
  refine Sim.weaken (s2 := stOf o nx) (t2 := trOf l) r (fun k hk => r1 k (by omega)) (fun k hk ht => ?_) r2 hg ⟨Nat.zero_le _, by show nx ≤ top; omega⟩ rfl rfl (fun i y hy => ?_) (fun n o2 hn hg => ?_) (fun n m x y hn hm h1 h2 _ e => ?_) H
  · have hk' : nx ≤ k := hk
    show s.nx ≤ (if _ then _ else _) ∧ (if _ then _ else _) < top
    rw [if_neg (by omega)]
    omega
  · have hm := trOf_mem (fun p hp => lowP_mem hl p hp) hy
    exact ⟨y, ht.mem _ hm, e1 _ hm⟩
  · have hlow : ∀ p ∈ o, p.1 < top := fun p hp => by have := lowP_mem ho p hp; omega
    have hm := hpOf_mem hlow hg
    obtain ⟨h1, h2⟩ := hh.mem _ hm
    have hlt : n < nx := lowP_mem ho _ hm
    rw [r1 n hlt]
    exact ⟨hn, h2 o2 rfl, o2, h1, id, e2 _ hm o2 rfl⟩
  · have hlow : ∀ p ∈ o, p.1 < top := fun p hp => by have := lowP_mem ho p hp; omega
    have a1 : n < nx := lowP_mem ho _ (hpOf_mem hlow h1)
    have a2 : m < nx := lowP_mem ho _ (hpOf_mem hlow h2)
    rw [r1 n a1, r1 m a2] at e
    exact e
theorem Sim.rn {P : Program} {B : Base} {nx0 : Nat} {Q : Tr AV → List Nat → Option Code → AS → Prop} {s : AS} {t : Tr AV} {nt f : Nat} {K : List Item} {l0 l : List (Nat × AV)} {o0 o : List (Nat × Option AObj)} {nx : Nat} (hg : globs ≤ nx0) (h1 : l0.map (fun q => t.get q.1) = l0.map (fun q => some q.2)) (h2 : o0.map (fun q => s.h.get q.1) = o0.map (fun q => q.2))
    (hw : Weak nx0 s.nx l0 o0 l o nx) (H : Sim P B nx0 Q ⟨f, trOf l, nt, K, [], none⟩ (stOf o nx)) : Sim P B nx0 Q ⟨f, t, nt, K, [], none⟩ s := by
  obtain ⟨r, r1, r2, r3, r4, r5, r6, r7⟩ := hw
  have hs : ∀ (l0 : List (Nat × AV)), l0.map (fun q => t.get q.1) = l0.map (fun q => some q.2) → ∀ p ∈ l0, t.get p.1 = some p.2 := by
    intro l0
    induction l0 with
    | nil => intro _ p hp; cases hp
    | cons a l ih =>
      intro h p hp
      simp only [List.map_cons, List.cons.injEq] at h
      rcases List.mem_cons.1 hp with rfl | hp
      · exact h.1
      · exact ih h.2 p hp
  have ho : ∀ (o0 : List (Nat × Option AObj)), o0.map (fun q => s.h.get q.1) = o0.map (fun q => q.2) → ∀ p ∈ o0, s.h.get p.1 = p.2 := by
    intro o0
    induction o0 with
    | nil => intro _ p hp; cases hp
    | cons a l ih =>
      intro h p hp
      simp only [List.map_cons, List.cons.injEq] at h
      rcases List.mem_cons.1 hp with rfl | hp
      · exact h.1
      · exact ih h.2 p hp
  have hmo : ∀ n y, n < top → (hpOf o).get n = some y → (n, some y) ∈ o := fun n y hn hg => hpOf_mem (fun p hp => (r6 p hp).1) hg
  refine Sim.weaken (s2 := stOf o nx) (t2 := trOf l) r r1 (fun k hk ht => r2 k hk ht) r3 hg ⟨Nat.zero_le _, r4⟩ rfl rfl (fun i y hy => ?_) (fun n y hn hg => ?_) (fun n m x y hn hm e1 e2 _ e => ?_) H
  · have hm := trOf_mem (fun p hp => (r5 p hp).1) hy
    obtain ⟨_, x, hx, hv⟩ := r5 _ hm
    exact ⟨x, hs l0 h1 _ hx, hv⟩
  · obtain ⟨_, q⟩ := r6 _ (hmo n y hn hg)
    obtain ⟨q1, q2, x, q3, q4, q5⟩ := q y rfl
    exact ⟨q1, q2, x, ho o0 h2 _ q3, q4, q5⟩
  · exact r7 _ (hmo n x hn e1) _ (hmo m y hm e2) (by simp) (by simp) e
theorem wp_cut {E : Env} (hE : E.Ok) {P : Program} (hP : E.P = P) {B : Base} {nx0 n f nt : Nat} {t : Tr AV} {K : List Item} {s : AS} {rs : List ResultVar} {R : AV → AS → Prop} (hmix : P.follows .mixedOrders = true) (hc : CallSim P B (arunI E.P E.sp E.F n)) (hl : ∀ t a, Local (arunI E.P E.sp E.F n t a)) (hg : globs ≤ nx0) (hlo : E.lo = nx0) {C : CutT} (hC : ∀ fr s p, C fr s p → Sim P B nx0 (Fin P rs R) fr s) (fuel : Nat) (p : Pl) {T : Prop} (x : T)
    (h : T = wp E fuel n (.fr f nt K t s) p rs (fun v s _ => R v s) C := by as_aux_lemma => kernel_rfl) (h0 : Nat.ble nx0 s.nx = true := by as_aux_lemma => kernel_rfl) : Sim P B nx0 (Fin P rs R) ⟨f, t, nt, K, [], none⟩ s := by
  subst hP
  have H := wp_sound hE fuel n (.fr f nt K t s) p rs (fun v s _ => R v s) C (GSim E.P B nx0 (Fin E.P rs R)) (Chunk.sim hmix hc hl)
    (fun fr s j fr1 jm s1 v s2 p q1 q2 q3 h0 => Sim.leave hmix hc hl q1 h0 ⟨v, s2, by rw [← finish_fr]; exact q2, q3⟩) (fun fr s p q _ => hC fr s p q)
    (fun f nt K t s l o nx p _ q1 q2 q3 q4 q5 q6 _ => Sim.less q1 q2 q3 hg q4 q5 (hC _ _ _ q6)) (fun f nt K t s l0 o0 l o nx p _ q1 q2 q3 q4 _ => Sim.rn hg q1 q2 (by rw [← hlo]; exact q3) (hC _ _ _ q4)) (fun f nt K t s l o nx p _ q1 q2 q3 q4 q5 q6 q7 _ => Sim.back q1 q2 (by rw [← hlo]; exact q3) hg q4 q5 q6 (hC _ _ _ q7)) (h ▸ x)
  exact GSim.start h0 H
theorem wp_sim {E : Env} (hE : E.Ok) {P : Program} (hP : E.P = P) {B : Base} {nx0 n f nt : Nat} {t : Tr AV} {K : List Item} {s : AS} {rs : List ResultVar} {R : AV → AS → Prop} (hmix : P.follows .mixedOrders = true) (hc : CallSim P B (arunI E.P E.sp E.F n)) (hl : ∀ t a, Local (arunI E.P E.sp E.F n t a)) (fuel : Nat) (p : Pl) {T : Prop} (x : T)
    (h : T = wp E fuel n (.fr f nt K t s) p rs (fun v s _ => R v s) (fun _ _ _ => False) := by as_aux_lemma => kernel_rfl) (h0 : Nat.ble nx0 s.nx = true := by as_aux_lemma => kernel_rfl) : Sim P B nx0 (Fin P rs R) ⟨f, t, nt, K, [], none⟩ s := by
  subst hP
  have H := wp_sound hE fuel n (.fr f nt K t s) p rs (fun v s _ => R v s) (fun _ _ _ => False) (GSim E.P B nx0 (Fin E.P rs R)) (Chunk.sim hmix hc hl)
    (fun fr s j fr1 jm s1 v s2 p q1 q2 q3 h0 => Sim.leave hmix hc hl q1 h0 ⟨v, s2, by rw [← finish_fr]; exact q2, q3⟩) (fun _ _ _ q => q.elim) (fun _ _ _ _ _ _ _ _ _ _ _ _ _ _ _ q => q.elim) (fun _ _ _ _ _ _ _ _ _ _ _ _ _ _ _ q => q.elim) (fun _ _ _ _ _ _ _ _ _ _ _ _ _ _ _ _ q => q.elim) (h ▸ x)
  exact GSim.start h0 H
def EvV (E : Env) (n : Nat) (rs : List ResultVar) (R : AV → AS → Prop) (fr : AF) (s : AS) : Prop := Ev E.P (arunI E.P E.sp E.F n) (fun fr1 jm s1 => ∃ v s2, finish E.P rs fr1 jm s1 = .ok v s2 ∧ R v s2) fr s
theorem wp_ev {E : Env} (hE : E.Ok) (hfg : E.fg = false) {n f nt : Nat} {t : Tr AV} {K : List Item} {s : AS} {rs : List ResultVar} {R : AV → AS → Prop} {C : CutT} (hC : ∀ fr s p, C fr s p → EvV E n rs R fr s) (fuel : Nat) (p : Pl) {T : Prop} (x : T)
    (h : T = wp E fuel n (.fr f nt K t s) p rs (fun v s _ => R v s) C := by as_aux_lemma => kernel_rfl) : EvV E n rs R ⟨f, t, nt, K, [], none⟩ s :=
  wp_sound hE fuel n (.fr f nt K t s) p rs (fun v s _ => R v s) C (EvV E n rs R) Chunk.ev
    (fun fr s j fr1 jm s1 v s2 p q1 q2 q3 => ⟨j, fr1, jm, s1, q1, v, s2, q2, q3⟩) hC (fun _ _ _ _ _ _ _ _ _ q => by rw [hfg] at q; cases q) (fun _ _ _ _ _ _ _ _ _ _ _ q => by rw [hfg] at q; cases q) (fun _ _ _ _ _ _ _ _ _ q => by rw [hfg] at q; cases q) (h ▸ x)
theorem EvV.call {E : Env} {n g : Nat} {fn : Func} {body : Code} {args : List AV} {s : AS} {R : AV → AS → Prop} (hfn : E.P.funcs[g]? = some fn) (hbody : fn.body = some body) (H : EvV E n fn.results.toList R ⟨g, fillArgs args, max fn.ntmps args.length, [.code body], [], none⟩ s)
    (h0 : ((fn.name == "runtime.NumGoroutine"), (E.sp g).isNone, Nat.ble (max fn.ntmps args.length) top) = (false, true, true) := by as_aux_lemma => kernel_rfl) : ∃ v s2, arunI E.P E.sp E.F (n + 1) (.fn g) args s = .ok v s2 ∧ R v s2 := by
  injection h0 with hname h0
  injection h0 with hsp hmax
  have hsp' : E.sp g = none := Option.isNone_iff_eq_none.1 hsp
  obtain ⟨j, fr1, jm, s1, q1, v, s2, q2, q3⟩ := H
  refine ⟨v, s2, ?_, q3⟩
  show fnI E.P E.sp g (arunI E.P E.sp E.F n) args s = _
  rw [fnI_text hsp' hfn hbody hname]
  unfold kBodyI
  rw [hmax, withB_true, M.bind_ok (leaveM_ok q1)]
  exact q2
noncomputable def allInB (R : List Nat) : List Nat → Bool := @List.rec Nat (fun _ => Bool) true (fun x _ ih => @Bool.rec (fun _ => Bool) false ih (memN x R))
theorem allInB_mem {R : List Nat} : ∀ {l : List Nat}, allInB R l = true → ∀ k ∈ l, k ∈ R
  | [], _, k, hk => by cases hk
  | x :: l, h, k, hk => by
    have h : @Bool.rec (fun _ => Bool) false (allInB R l) (memN x R) = true := h
    cases q : memN x R with
    | false => rw [q] at h; cases h
    | true =>
      rw [q] at h
      rcases List.mem_cons.1 hk with rfl | hk
      · exact memN_iff.1 q
      · exact allInB_mem h k hk
noncomputable def gOf (l : List (Nat × AV)) (n : Nat) : AV := ((l.find? fun q => Nat.beq q.1 n).map (·.2)).getD .nilIface
def tabUp (tab : FuncId → Option (List AV → Option AV)) (g : FuncId) (val : List AV → Option AV) : FuncId → Option (List AV → Option AV) := fun f => bif Nat.beq f g then some val else tab f
def TabOk (K1 : (List AV → Option AV) → Caller → List AV → M AV) (sp : Sp) (tab : FuncId → Option (List AV → Option AV)) : Prop := ∀ g val, tab g = some val → sp g = some (K1 val)
theorem TabOk.nil {K1 : (List AV → Option AV) → Caller → List AV → M AV} : TabOk K1 (fun _ => none) (fun _ => none) := fun _ _ h => by cases h
theorem TabOk.up {K1 : (List AV → Option AV) → Caller → List AV → M AV} {sp : Sp} {tab : FuncId → Option (List AV → Option AV)} (h : TabOk K1 sp tab) (g : FuncId) (val : List AV → Option AV) : TabOk K1 (updS sp g (K1 val)) (tabUp tab g val) := by
  intro f v e
  unfold tabUp at e
  unfold updS
  cases q : Nat.beq f g with
  | true => rw [q] at e; injection e with e; subst e; rfl
  | false => rw [q] at e; exact h f v e
theorem TabOk.other {K1 : (List AV → Option AV) → Caller → List AV → M AV} {sp : Sp} {tab : FuncId → Option (List AV → Option AV)} (h : TabOk K1 sp tab) (g : FuncId) (m : Caller → List AV → M AV) (hg : tab g = none) : TabOk K1 (updS sp g m) tab := by
  intro f v e
  unfold updS
  cases q : Nat.beq f g with
  | true => rw [Nat.eq_of_beq_eq_true q, hg] at e; cases e
  | false => exact h f v e
theorem jsz2 {a b : ByteArray} {n1 n2 k : Nat} (ha : a.size ≤ n1) (hb : b.size ≤ n2) (hn : Nat.ble (n1 + n2 + k + 10) 1048576 = true) : (joinTexts [32] [a.data.toList, b.data.toList]).length + k ≤ 1048576 := by
  have := ble_true.1 hn
  simp only [joinTexts, List.length_append, List.length_cons, List.length_nil, len_toList]; omega
theorem jsz3 {a b c : ByteArray} {n1 n2 n3 k : Nat} (ha : a.size ≤ n1) (hb : b.size ≤ n2) (hc : c.size ≤ n3) (hn : Nat.ble (n1 + n2 + n3 + k + 10) 1048576 = true) : (joinTexts [32] [a.data.toList, b.data.toList, c.data.toList]).length + k ≤ 1048576 := by
  have := ble_true.1 hn
  simp only [joinTexts, List.length_append, List.length_cons, List.length_nil, len_toList]; omega
theorem jsz4 {a b c d : ByteArray} {n1 n2 n3 n4 k : Nat} (ha : a.size ≤ n1) (hb : b.size ≤ n2) (hc : c.size ≤ n3) (hd : d.size ≤ n4) (hn : Nat.ble (n1 + n2 + n3 + n4 + k + 10) 1048576 = true) : (joinTexts [32] [a.data.toList, b.data.toList, c.data.toList, d.data.toList]).length + k ≤ 1048576 := by
  have := ble_true.1 hn
  simp only [joinTexts, List.length_append, List.length_cons, List.length_nil, len_toList]; omega
end Go.Rn

namespace Go.Rn
open Go.RowKit
def gl {α : Type} [Inhabited α] (l : List α) (z : Int) : α := l.getD z.toNat default
theorem gl_at {α : Type} [Inhabited α] {l : List α} {z : Int} (h1 : 0 ≤ z) (h2 : z < ((l.length : Nat) : Int)) : l[z.toNat]? = some (gl l z) := by
  have h : z.toNat < l.length := by omega
  unfold gl
  rw [List.getD_eq_getElem?_getD, List.getElem?_eq_getElem h]
  rfl
theorem tfb {A B : Prop} (b : Bool) (x : b = true → A) (y : b = false → B) : (b = true → A) ∧ (b = false → B) := ⟨x, y⟩
theorem row_ld {α : Type} {enc : α → List AV} {K : Nat} (he : ∀ x, (enc x).length = K) {l : List α} {i : Nat} {c : α} (hl : l.length * K ≤ top) (hc : l[i]? = some c) (j k : Nat) (hj : Nat.ble (j + k) K = true) : cellsOf (some (rowT enc l)) (i * K + j) k = some (((enc c).drop j).take k) := by
  have hj' := ble_true.1 hj
  obtain ⟨q1, q2⟩ := rows_at he (k := k) hc hj'
  show (match Nat.ble (i * K + j + k) (l.map enc).flatten.length with | true => gather (Tr.fill (l.map enc).flatten 0 .nil) [] k (i * K + j) | false => none) = _
  rw [ble_true.2 q1]
  show gather (Tr.fill (l.map enc).flatten 0 .nil) [] k (i * K + j) = _
  rw [gather_fill (by rw [rows_len he]; exact hl) _ _ q1, q2]
theorem row_ld2 {α : Type} {enc : α → List AV} {K : Nat} (he : ∀ x, (enc x).length = K) {l : List α} {i : Nat} {c c0 : α} (hl : l.length * K ≤ top) (hc : l[i]? = some c0) (j k : Nat) (hj : Nat.ble (j + k) K = true) : cellsOf (some (rowT enc (l.set i c))) (i * K + j) k = some (((enc c).drop j).take k) :=
  row_ld he (by rw [List.length_set]; exact hl) (set_here hc) j k hj
theorem row_st {α : Type} {enc : α → List AV} {K : Nat} (he : ∀ x, (enc x).length = K) {l : List α} {i : Nat} {c c' : α} {r : List AV} (hl : l.length * K ≤ top) (hc : l[i]? = some c) (j : Nat) (hr : enc c' = setL (enc c) j r) (hj : Nat.ble (j + r.length) K = true) (h1 : r.all AV.oneCell = true) : setCl (some (rowT enc l)) (i * K + j) r = some (rowT enc (l.set i c')) := by
  have hj' := ble_true.1 hj
  obtain ⟨q1, _⟩ := rows_at he (k := r.length) hc hj'
  have hset := flat_set he hc hr hj'
  have hlen : (l.map enc).flatten.length ≤ top := by rw [rows_len he]; exact hl
  show (match (Nat.ble (i * K + j + r.length) (l.map enc).flatten.length && (Nat.ble (l.map enc).flatten.length top && r.all AV.oneCell)) with | true => some (AObj.cells (l.map enc).flatten.length (Tr.fill r (i * K + j) (Tr.fill (l.map enc).flatten 0 .nil)) []) | false => none) = _
  rw [show (Nat.ble (i * K + j + r.length) (l.map enc).flatten.length && (Nat.ble (l.map enc).flatten.length top && r.all AV.oneCell)) = true from and_true.2 ⟨ble_true.2 q1, and_true.2 ⟨ble_true.2 hlen, h1⟩⟩]
  show some _ = some _
  congr 1
  unfold rowT
  rw [fill_setL r _ _ q1 hlen, hset, rows_len he, rows_len he, List.length_set]
theorem row_st2 {α : Type} {enc : α → List AV} {K : Nat} (he : ∀ x, (enc x).length = K) {l : List α} {i : Nat} {c c' c0 : α} {r : List AV} (hl : l.length * K ≤ top) (hc : l[i]? = some c0) (j : Nat) (hr : enc c' = setL (enc c) j r) (hj : Nat.ble (j + r.length) K = true) (h1 : r.all AV.oneCell = true) : setCl (some (rowT enc (l.set i c))) (i * K + j) r = some (rowT enc (l.set i c')) := by
  rw [row_st he (by rw [List.length_set]; exact hl) (set_here hc) j hr hj h1, List.set_set]
end Go.Rn
namespace Go.Rn
open Go.RowKit
def lowV (nx : Nat) (x : AV) : Bool := match x with
  | .rslice n _ _ => Nat.blt n nx
  | .func (.func _) [] [] => true
  | .slice none 0 (.known 0) => true
  | x => x.flat
theorem lowV_ent {nx : Nat} {x : AV} {r : Nat → Nat} (r1 : ∀ k, k < nx → r k = k) (h : lowV nx x = true) : VEnt r x x := by
  unfold lowV at h
  split at h
  · exact VEnt.rslice (r1 _ ((blt_eq _ _).mp h))
  · intro ρ v k
    simp only [VR, VRs] at k ⊢
    exact k
  · exact VEnt.nilslice
  · exact VEnt.flat h
noncomputable def lowT (nx : Nat) (t : Tr AV) : Nat → Bool
  | 0 => true
  | n + 1 => (match t.get n with | some x => lowV nx x | none => true) && lowT nx t n
theorem lowT_at {nx : Nat} {t : Tr AV} : ∀ {n i : Nat} {x : AV}, lowT nx t n = true → i < n → t.get i = some x → lowV nx x = true
  | 0, _, _, _, h, _ => by omega
  | n + 1, i, x, h, hi, hx => by
    obtain ⟨h1, h2⟩ := and_true.1 (show ((match t.get n with | some x => lowV nx x | none => true) && lowT nx t n) = true from h)
    by_cases q : i = n
    · subst q
      rw [hx] at h1; exact h1
    · exact lowT_at h2 (by omega) hx
noncomputable def entO (nx : Nat) (o : AObj) : Bool := match o with
  | .ro n t => lowT nx t n
  | .rorow n t => lowT nx t n
  | _ => false
theorem entO_ent {nx : Nat} {o : AObj} {r : Nat → Nat} (r1 : ∀ k, k < nx → r k = k) (h : entO nx o = true) : OEnt r o o := by
  unfold entO at h
  split at h
  · intro ρ N ob k
    simp only [OR] at k ⊢
    obtain ⟨c, e, fr, k1, k2, k3, k4⟩ := k
    exact ⟨c, e, fr, k1, k2, k3, fun i hi => let ⟨x, v, a1, a2, a3, a4⟩ := k4 i hi; ⟨x, v, a1, a2, a3, lowV_ent r1 (lowT_at h hi a1) ρ v a4⟩⟩
  · intro ρ N ob k
    simp only [OR] at k ⊢
    obtain ⟨c, e, fr, k1, k4⟩ := k
    exact ⟨c, e, fr, k1, fun i hi => let ⟨x, v, a1, a2, a3, a4⟩ := k4 i hi; ⟨x, v, a1, a2, a3, lowV_ent r1 (lowT_at h hi a1) ρ v a4⟩⟩
  · cases h
theorem ents_low {nx : Nat} {o : List (Nat × Option AObj)} {r : Nat → Nat} (r1 : ∀ k, k < nx → r k = k) (h : (o.all fun p => match p.2 with | some x => entO nx x | none => true) = true) : ∀ p ∈ o, ∀ x, p.2 = some x → OEnt r x x := by
  intro p hp x hx
  have := List.all_eq_true.1 h p hp
  rw [hx] at this
  exact entO_ent r1 this
end Go.Rn
namespace Go.Rn
theorem apI {α : Type} (enc : α → List AV) (l : List α) (c : α) {K by_ : Nat} {X : Prop} (h1 : ∀ x, (enc x).length = K ∧ (enc x).all AV.oneCell = true) (h2 : 2 * (l.length + 1) * by_ + 4096 * by_ ≤ room) (h3 : (l.length + 1) * K ≤ Rn.top) (x : X) :
    l.length = l.length ∧ l.length = l.length ∧ some (rowT enc l) = some (rowT enc l) ∧ some (AObj.cells (enc c).length (Tr.fill (enc c) 0 .nil) []) = some (AObj.cells (enc c).length (Tr.fill (enc c) 0 .nil) []) ∧ (∀ x, (enc x).length = K ∧ (enc x).all AV.oneCell = true) ∧ 2 * (l.length + 1) * by_ + 4096 * by_ ≤ room ∧ (l.length + 1) * K ≤ Rn.top ∧ X := ⟨rfl, rfl, rfl, rfl, h1, h2, h3, x⟩
end Go.Rn

namespace Go.Rn
open Go.RowKit
noncomputable section
structure OutM where
  n : Nat
  val : Nat → AV
  obs : Nat → List (Option AObj)
def putO (h : Tr AObj) (b : Nat) : List (Option AObj) → Tr AObj
  | [] => h
  | x :: l => putO (h.put b x) (b + 1) l
def outG (o : OutM) : AS := ⟨putO .nil 256 (o.obs 256), 256 + o.n, 0, [], []⟩
structure OutM.Ok (o : OutM) : Prop where
  len : ∀ b, (o.obs b).length = o.n
  plain : ∀ b x, some x ∈ o.obs b → x.plain = true ∧ x.isRo = false
  val : ∀ b (ρ σ : Ren), (∀ j, j < o.n → ρ (b + j) = σ (256 + j)) → ∀ v, VR σ (o.val 256) v → VR ρ (o.val b) v
  obs : ∀ b (ρ σ : Ren), (∀ j, j < o.n → ρ (b + j) = σ (256 + j)) → ∀ (j : Nat) y, (o.obs b)[j]? = some (some y) → ∃ x, (o.obs 256)[j]? = some (some x) ∧ ∀ N ob, OR σ N x ob → OR ρ N y ob
def getNx : M Nat := fun s => .ok s.nx s
def allocs : List (Option AObj) → M Unit
  | [] => M.pure ()
  | x :: l => (newO x).bind fun _ => allocs l
open Classical in
def genM (F : Nat → Option (List AV)) (f : List AV → Option OutM) : Caller → List AV → M AV := fun _ args =>
  withB (decide (∀ y ∈ args, hiOk F y)) <| withO (f args) fun o => getNx.bind fun b => (allocs (o.obs b)).bind fun _ => M.pure (o.val b)
end
theorem Local.getNx : Local getNx := by
  intro s v s1 fi h
  injection h with h1 h2
  subst h1; subst h2
  exact ⟨[], [], ⟨rfl, rfl, Nat.le_refl _, fi.nx, rfl, fun _ _ _ => rfl, fun _ h => (by cases h), fun _ _ _ => rfl⟩,
    fun A m0 t ag _ => ⟨t, by show R.ok t.nx t = _; rw [ag.nx], ag, rfl, rfl, fun _ _ _ => rfl, fun _ _ _ => rfl⟩⟩
theorem Local.allocs : ∀ l : List (Option AObj), Local (allocs l)
  | [] => Local.pure ()
  | x :: l => Local.bind (Local.newO x) fun _ => Local.allocs l
open Classical in
theorem Local.genM (F : Nat → Option (List AV)) (f : List AV → Option OutM) (call : Caller) (args : List AV) : Local (genM F f call args) :=
  Local.withB fun _ => Local.withO fun o _ => Local.bind Local.getNx fun b => Local.bind (Local.allocs _) fun _ => Local.pure _
theorem allocs_inv : ∀ {l : List (Option AObj)} {s s1 : AS} {u : Unit}, allocs l s = .ok u s1 → s1 = ⟨putO s.h s.nx l, s.nx + l.length, s.mark, s.rd, s.wr⟩ ∧ (l ≠ [] → s.nx + l.length ≤ top)
  | [], s, s1, u, h => by
    obtain ⟨_, rfl⟩ := pure_inv h
    exact ⟨rfl, fun q => absurd rfl q⟩
  | x :: l, s, s1, u, h => by
    obtain ⟨n, s2, h1, h2⟩ := M.bind_inv (show ((newO x).bind fun _ => allocs l) s = .ok u s1 from h)
    obtain ⟨ht, rfl, rfl⟩ := newO_inv h1
    obtain ⟨rfl, h3⟩ := allocs_inv h2
    refine ⟨?_, fun _ => ?_⟩
    · show (⟨putO (s.h.put s.nx x) (s.nx + 1) l, s.nx + 1 + l.length, s.mark, s.rd, s.wr⟩ : AS) = ⟨putO (s.h.put s.nx x) (s.nx + 1) l, s.nx + (l.length + 1), s.mark, s.rd, s.wr⟩
      rw [show s.nx + 1 + l.length = s.nx + (l.length + 1) by omega]
    · cases l with
      | nil => show s.nx + 1 ≤ top; omega
      | cons y l =>
        have := h3 (by simp)
        show s.nx + (l.length + 1 + 1) ≤ top
        have e : s.nx + 1 + (l.length + 1) ≤ top := this
        omega
theorem allocs_ok : ∀ {l : List (Option AObj)} {s : AS}, s.nx + l.length ≤ top → allocs l s = .ok () ⟨putO s.h s.nx l, s.nx + l.length, s.mark, s.rd, s.wr⟩
  | [], s, _ => rfl
  | x :: l, s, h => by
    have h : s.nx + (l.length + 1) ≤ top := h
    have hn : newO x s = .ok s.nx ⟨s.h.put s.nx x, s.nx + 1, s.mark, s.rd, s.wr⟩ := newO_ok (by omega)
    show ((newO x).bind fun _ => allocs l) s = _
    rw [M.bind_ok hn, allocs_ok (show s.nx + 1 + l.length ≤ top by omega)]
    show R.ok () (⟨putO (s.h.put s.nx x) (s.nx + 1) l, s.nx + 1 + l.length, s.mark, s.rd, s.wr⟩ : AS) = R.ok () ⟨putO (s.h.put s.nx x) (s.nx + 1) l, s.nx + (l.length + 1), s.mark, s.rd, s.wr⟩
    rw [show s.nx + 1 + l.length = s.nx + (l.length + 1) by omega]
theorem putO_get : ∀ {l : List (Option AObj)} {h : Tr AObj} {b k : Nat}, k < top → b + l.length ≤ top → (putO h b l).get k = if b ≤ k ∧ k < b + l.length then (l[k - b]?).join else h.get k
  | [], h, b, k, _, _ => by
    rw [if_neg (by simp only [List.length_nil]; omega)]; rfl
  | x :: l, h, b, k, hk, hb => by
    have hb : b + (l.length + 1) ≤ top := hb
    show (putO (h.put b x) (b + 1) l).get k = _
    rw [putO_get hk (by omega), Tr.get_put _ _ _ _ (show b < top by omega) hk]
    simp only [List.length_cons]
    by_cases e : k = b
    · subst e
      rw [if_neg (by omega), if_pos rfl, if_pos (by omega), Nat.sub_self]; rfl
    · rw [if_neg e]
      by_cases q : b + 1 ≤ k ∧ k < b + 1 + l.length
      · rw [if_pos q, if_pos (by omega)]
        obtain ⟨j, rfl⟩ : ∃ j, k = b + 1 + j := ⟨k - (b + 1), by omega⟩
        rw [show b + 1 + j - (b + 1) = j by omega, show b + 1 + j - b = j + 1 by omega]
        rfl
      · rw [if_neg q, if_neg (by omega)]
theorem joined {α : Type} {o : Option (Option α)} {x : α} (h : o.join = some x) : o = some (some x) := by
  cases o with
  | none => cases h
  | some y => exact congrArg some h
open Classical in
theorem genM_ok {F : Nat → Option (List AV)} {f : List AV → Option OutM} {call : Caller} {args : List AV} {o : OutM} {s : AS} (h : f args = some o) (ha : ∀ y ∈ args, hiOk F y) (hn : s.nx + (o.obs s.nx).length ≤ top) : genM F f call args s = .ok (o.val s.nx) ⟨putO s.h s.nx (o.obs s.nx), s.nx + (o.obs s.nx).length, s.mark, s.rd, s.wr⟩ := by
  unfold genM
  have e1 : decide (∀ y ∈ args, hiOk F y) = true := decide_eq_true ha
  rw [e1, withB_true, h, withO_some, M.bind_ok (show getNx s = .ok s.nx s from rfl), M.bind_ok (allocs_ok hn)]
  rfl
theorem Rel.names {B : Base} {ρ σ ρ' : Ren} {h h2 : Tr AObj} {w w' : World} {b n : Nat} {L : List (Option AObj)} {F : Nat → Option (List AV)} (r : Rel B ρ h w) (hsz : w.heap.size ≤ w'.heap.size) (hkept : ∀ (k : Nat) (o : Obj), w.heap[k]? = some o → w'.heap[k]? = some o)
    (q3 : Rel ⟨fun k => w.heap.size ≤ k, F⟩ σ h2 w') (hL : L.length = n) (hb : b + n ≤ top) (hfree : ∀ k, b ≤ k → k < b + n → ρ k = none) (hplain : ∀ x, some x ∈ L → x.plain = true ∧ x.isRo = false)
    (hρ : ∀ k, ρ' k = if b ≤ k ∧ k < b + n then σ (256 + (k - b)) else ρ k) (h2g : ∀ j x, L[j]? = some (some x) → ∃ y, h2.get (256 + j) = some y ∧ y.isRo = false ∧ 256 + j < top ∧ ∀ N ob, OR σ N y ob → OR ρ' N x ob) : Rel B ρ' (putO h b L) w' := by
  have r' := r.kept hsz hkept
  have hle : ρ.le ρ' := by
    intro k x e
    rw [hρ]
    by_cases q : b ≤ k ∧ k < b + n
    · rw [hfree k q.1 q.2] at e; cases e
    · rw [if_neg q]; exact e
  have g : ∀ k, k < top → (putO h b L).get k = if b ≤ k ∧ k < b + n then (L[k - b]?).join else h.get k := fun k hk => by rw [putO_get hk (by omega), hL]
  have hold : ∀ m p, m < top → h.get m = some p → ¬ (b ≤ m ∧ m < b + n) := by
    intro m p hm hp q
    obtain ⟨_, _, _, h1, _⟩ := r.is m p hm hp
    rw [hfree m q.1 q.2] at h1; cases h1
  have hnew : ∀ k x, b ≤ k → k < b + n → (L[k - b]?).join = some x → ∃ bl N o', ρ' k = some (bl, N) ∧ w'.heap[bl]? = some o' ∧ OR ρ' N x o' ∧ w.heap.size ≤ bl := by
    intro k x h1 h2 hx
    have hx := joined hx
    obtain ⟨y, y1, y2, y3, y4⟩ := h2g (k - b) x hx
    obtain ⟨bl, N, o', k1, k2, k3, k4⟩ := q3.is (256 + (k - b)) y y3 y1
    exact ⟨bl, N, o', by rw [hρ, if_pos ⟨h1, h2⟩]; exact k1, k2, y4 N o' k3, k4 y2⟩
  have hlow : ∀ m p, m < top → h.get m = some p → ∀ bl M, ρ' m = some (bl, M) → bl < w.heap.size := by
    intro m p hm hp bl M e
    rw [hρ, if_neg (hold m p hm hp)] at e
    obtain ⟨b1, N1, o1, k1, k2, _⟩ := r.is m p hm hp
    rw [e] at k1; cases k1
    exact heap_lt k2
  refine ⟨?_, ?_, ?_, r'.size, ?_, fun k l e => ?_⟩
  · intro m q hm hq
    rw [g m hm] at hq
    by_cases e : b ≤ m ∧ m < b + n
    · rw [if_pos e] at hq
      obtain ⟨bl, N, o', k1, k2, k3, k4⟩ := hnew m q e.1 e.2 hq
      exact ⟨bl, N, o', k1, k2, k3, fun _ => r.size bl k4⟩
    · rw [if_neg e] at hq
      obtain ⟨b1, N1, o1, h1, h2, h3, h4⟩ := r'.is m q hm hq
      exact ⟨b1, N1, o1, hle _ _ h1, h2, h3.mono hle, h4⟩
  · intro m k q q' b1 N1 M1 hm hk hq hq' hor h1 h2
    rw [g m hm] at hq; rw [g k hk] at hq'
    by_cases e : b ≤ m ∧ m < b + n
    · rw [if_pos e] at hq
      by_cases e2 : b ≤ k ∧ k < b + n
      · rw [hρ, if_pos e] at h1; rw [hρ, if_pos e2] at h2
        obtain ⟨y, y1, y2, y3, _⟩ := h2g (m - b) _ (joined hq)
        rw [if_pos e2] at hq'
        obtain ⟨z, z1, z2, z3, _⟩ := h2g (k - b) _ (joined hq')
        have := q3.one _ _ _ _ _ _ _ y3 z3 y1 z1 (.inl y2) h1 h2
        omega
      · rw [if_neg e2] at hq'
        obtain ⟨bl, N, o', k1, k2, k3, k4⟩ := hnew m q e.1 e.2 hq
        rw [k1] at h1; cases h1
        have := hlow k q' hk hq' _ _ h2
        omega
    · rw [if_neg e] at hq
      by_cases e2 : b ≤ k ∧ k < b + n
      · rw [if_pos e2] at hq'
        obtain ⟨bl, N, o', k1, k2, k3, k4⟩ := hnew k q' e2.1 e2.2 hq'
        rw [k1] at h2; cases h2
        have := hlow m q hm hq _ _ h1
        omega
      · rw [if_neg e2] at hq'
        rw [hρ, if_neg e] at h1; rw [hρ, if_neg e2] at h2
        exact r'.one m k q q' b1 N1 M1 hm hk hq hq' hor h1 h2
  · intro i m es ex left cur hi hq
    rw [g i hi] at hq
    by_cases e : b ≤ i ∧ i < b + n
    · rw [if_pos e] at hq
      have := (hplain _ (List.mem_of_getElem? (joined hq))).1
      simp [AObj.plain] at this
    · rw [if_neg e] at hq
      obtain ⟨hm, hlent, u⟩ := r'.iter i m es ex left cur hi hq
      exact ⟨hm, by rw [g m hm, if_neg (hold m _ hm hlent)]; exact hlent, u.mono hle⟩
  · intro i j m es ex left cur es' ex' left' cur' hi hj h1 h2
    rw [g i hi] at h1; rw [g j hj] at h2
    by_cases e : b ≤ i ∧ i < b + n
    · rw [if_pos e] at h1
      have := (hplain _ (List.mem_of_getElem? (joined h1))).1
      simp [AObj.plain] at this
    · rw [if_neg e] at h1
      by_cases e2 : b ≤ j ∧ j < b + n
      · rw [if_pos e2] at h2
        have := (hplain _ (List.mem_of_getElem? (joined h2))).1
        simp [AObj.plain] at this
      · rw [if_neg e2] at h2
        exact r'.lone i j m es ex left cur es' ex' left' cur' hi hj h1 h2
  · obtain ⟨h1, b1, sh, c, e', fr, h2, h3, h4, h5⟩ := r'.fz k l e
    obtain ⟨_, b0, sh0, c0, e0, fr0, h20, h30, _⟩ := r.fz k l e
    rw [h2] at h20; cases h20
    refine ⟨h1, b1, sh, c, e', fr, hle _ _ h2, h3, fun m q M hm hq hqr e2 => ?_, fun i x hx => by obtain ⟨v, a1, a2, a3⟩ := h5 i x hx; exact ⟨v, a1, VR.mono (hiF_mono B.F hle) _ _ a2, a3⟩⟩
    rw [g m hm] at hq
    by_cases e3 : b ≤ m ∧ m < b + n
    · rw [if_pos e3] at hq
      obtain ⟨bl, N, o', k1, k2, k3, k4⟩ := hnew m q e3.1 e3.2 hq
      rw [k1] at e2; cases e2
      have := heap_lt h30
      omega
    · rw [if_neg e3] at hq; rw [hρ, if_neg e3] at e2
      exact h4 m q M hm hq hqr e2
open Classical in
theorem genM_sim {P : Program} {B : Base} {ρ : Ren} {w : World} {s s1 : AS} (hP : ProgOk P) {g : FuncId} {fn : Func} {body : Code} (hfn : P.funcs[g]? = some fn) (hbody : fn.body = some body) (hname : (fn.name == "runtime.NumGoroutine") = false) {f : List AV → Option OutM} (hfin : FinF B.F) (hok : ∀ args o, f args = some o → o.Ok ∧ 256 + o.n ≤ top)
    (H : ∀ (B' : Base) (args : List AV) (o : OutM), B'.F = B.F → f args = some o → max fn.ntmps args.length ≤ top ∧
      Sim P B' 256 (Fin P fn.results.toList fun y s => y = o.val 256 ∧ s.h = (outG o).h ∧ s.nx = 256 + o.n) ⟨g, fillArgs args, max fn.ntmps args.length, [.code body], [], none⟩ (stOf [] 256))
    {call : Caller} {args : List AV} {x : AV} {vs : Array Value} (r : Rel B ρ s.h w) (hg : RenG ρ) (fi : Fine s) (hf : Free s.nx s1.nx ρ) (h : genM B.F f call args s = .ok x s1) (hv : VRs ρ args vs.toList) : Back P ((callFunc g vs).run P w) (Came B ρ s s1 w x) := by
  unfold genM at h
  obtain ⟨h1, h2⟩ := withB_inv h
  obtain ⟨o, h3, h4⟩ := withO_inv h2
  obtain ⟨b, s2, h5, h6⟩ := M.bind_inv h4
  injection h5 with h5 h5'
  subst h5; subst h5'
  obtain ⟨u, s3, h7, h8⟩ := M.bind_inv h6
  obtain ⟨rfl, rfl⟩ := pure_inv h8
  obtain ⟨rfl, h9⟩ := allocs_inv h7
  have h1 := of_decide_eq_true h1
  obtain ⟨⟨ol, op, ov, oo⟩, ot⟩ := hok args o h3
  obtain ⟨m, hm, hmb⟩ := hfin
  have C0 := Cn.start hm hmb r hg
  have hρ : ∀ k y, B.F k ≠ none → ρ k = some y → (fun k => if k < globs then ρ k else hiF B.F ρ k) k = some y := fun k y q e => Cn.names q e
  obtain ⟨hmax, HS⟩ := H ⟨fun k => w.heap.size ≤ k, B.F⟩ args o rfl h3
  have hc := Sim.calls (s := stOf [] 256) (args := args) hP hfn hbody hmax HS fine_start C0.rel C0.g (fun k q1 q2 => C0.free k q1 q2) (hiOks.vr hρ h1 hv)
  rw [callFunc_run hfn hbody hname]
  show Calls P g vs w _
  refine hc.mono fun e w' => ?_
  rintro ⟨v, x', s4, rfl, ⟨rfl, k1, k2⟩, _, _, σ, q1, q2, q3, q4⟩
  have hfree : ∀ k, s.nx ≤ k → k < s.nx + o.n → ρ k = none := fun k a b => hf k a (by show k < s.nx + (o.obs s.nx).length; rw [ol]; exact b)
  let ρ' : Ren := fun k => if s.nx ≤ k ∧ k < s.nx + o.n then σ (256 + (k - s.nx)) else ρ k
  have hj : ∀ j, j < o.n → ρ' (s.nx + j) = σ (256 + j) := fun j hj => by
    show (if _ then _ else _) = _
    rw [if_pos (by omega), show s.nx + j - s.nx = j by omega]
  have htop : s.nx + o.n ≤ top := by
    by_cases q : o.obs s.nx = []
    · have : o.n = 0 := by rw [← ol s.nx, q]; rfl
      have := fi.nx
      omega
    · have := h9 q
      rw [ol] at this; exact this
  have hval := ov s.nx ρ' σ hj v q2
  refine ⟨v, rfl, ρ', ⟨fun k x e => ?_, fun k hk => ?_⟩, hval, ?_, Bel.of_new q4⟩
  · show (if _ then _ else _) = _
    by_cases q : s.nx ≤ k ∧ k < s.nx + o.n
    · rw [hfree k q.1 q.2] at e; cases e
    · rw [if_neg q]; exact e
  · show (if _ then _ else _) = _
    have hk : ¬ (s.nx ≤ k ∧ k < s.nx + (o.obs s.nx).length) := hk
    rw [ol] at hk
    rw [if_neg hk]
  · refine r.names q4.size q4.kept q3 (ol s.nx) htop hfree (op s.nx) (fun k => rfl) (fun j x hj' => ?_)
    have hl : (o.obs 256).length = o.n := ol 256
    obtain ⟨y, hy, ho⟩ := oo s.nx ρ' σ hj j x hj'
    have hjn : j < o.n := by rw [← hl]; exact (List.getElem?_eq_some_iff.1 hy).1
    refine ⟨y, ?_, (op 256 y (List.mem_of_getElem? hy)).2, by omega, ho⟩
    rw [k1]
    show (putO .nil 256 (o.obs 256)).get (256 + j) = _
    rw [putO_get (by omega) (by rw [hl]; exact ot), if_pos (by rw [hl]; omega), show 256 + j - 256 = j by omega, hy]
    rfl
end Go.Rn
