/- A function's code as a plain program: steps from cut to cut; slices of rows that stay as they are, by value. -/
import Derived.Test.YtadcegpdegpnmaaGreatDoorRnOpenC
import Derived.Test.YtadcegpdegpnmaaGreatDoorRnOpenB
import Derived.Test.YtadcegpdegpnmaaGreatDoorRnSegA
import Derived.Lib.ItoaNum
import Derived.Lib.LaidTab
import Derived.Sort.Grow
import Derived.Deep.Draws
namespace Go.Rn
open Go.RowKit
/-- From cut to cut, to an end. -/
inductive XRun {C R : Type} (step : C → Option (C ⊕ R)) : C → R → Prop where
  | done {c : C} {r : R} : step c = some (.inr r) → XRun step c r
  | next {c c' : C} {r : R} : step c = some (.inl c') → XRun step c' r → XRun step c r
theorem XRun.det {C R : Type} {step : C → Option (C ⊕ R)} {c : C} {r r' : R} (h : XRun step c r) (k : XRun step c r') : r = r' := by
  induction h with
  | done e => cases k with
    | done e' => rw [e] at e'; injection e' with e'; injection e'
    | next e' _ => rw [e] at e'; cases e'
  | next e _ ih => cases k with
    | done e' => rw [e] at e'; cases e'
    | next e' k' => rw [e] at e'; injection e' with e'; injection e' with e'; subst e'; exact ih k'
noncomputable section
open Classical in
def xrunOf {C R : Type} (step : C → Option (C ⊕ R)) (c : C) : Option R := if h : ∃ r, XRun step c r then some h.choose else none
end
theorem xrunOf_eq {C R : Type} {step : C → Option (C ⊕ R)} {c : C} {r : R} (h : XRun step c r) : xrunOf step c = some r := by
  unfold xrunOf
  have hx : ∃ r, XRun step c r := ⟨r, h⟩
  rw [dif_pos hx, hx.choose_spec.det h]
theorem xrunOf_inv {C R : Type} {step : C → Option (C ⊕ R)} {c : C} {r : R} (h : xrunOf step c = some r) : XRun step c r := by
  unfold xrunOf at h
  split at h
  · rename_i hx; injection h with h; subst h; exact hx.choose_spec
  · cases h
/-- What is so at the end is so at each cut. -/
theorem XRun.at_ {C R : Type} {step : C → Option (C ⊕ R)} {S : C → Prop} {E : R → Prop} (hway : ∀ c x, step c = some x → (match x with | .inl c' => S c' | .inr r => E r) → S c) {c : C} {r : R} (h : XRun step c r) (he : E r) : S c := by
  induction h with
  | done e => exact hway _ _ e he
  | next e _ ih => exact hway _ _ e (ih he)
theorem x_guard {p : Prop} [Decidable p] {α : Type} {a : Option α} {x : α} (h : (if p then a else none) = some x) : p ∧ a = some x := by
  by_cases q : p
  · rw [if_pos q] at h; exact ⟨q, h⟩
  · rw [if_neg q] at h; cases h
theorem x_bind {α β : Type} {o : Option α} {f : α → Option β} {x : β} (h : o.bind f = some x) : ∃ a, o = some a ∧ f a = some x := by
  cases o with
  | none => cases h
  | some a => exact ⟨a, rfl, h⟩
theorem x_pos {p : Prop} [Decidable p] {α : Type} {a b : Option α} {x : α} (q : p) (h : (if p then a else b) = some x) : a = some x := by rw [if_pos q] at h; exact h
theorem x_neg {p : Prop} [Decidable p] {α : Type} {a b : Option α} {x : α} (q : ¬ p) (h : (if p then a else b) = some x) : b = some x := by rw [if_neg q] at h; exact h

/-- A slice of a row that stays as it is. -/
inductive FSl where
  | nil
  | row (nm o len : Nat)
def FSl.av : FSl → AV
  | .nil => .slice none 0 (.known 0)
  | .row j o len => .rslice (top + j) o len
def FSl.len : FSl → Nat
  | .nil => 0
  | .row _ _ len => len
def FSl.nm : FSl → Nat
  | .nil => top
  | .row j _ _ => top + j
def FSl.o : FSl → Nat
  | .nil => 0
  | .row _ o _ => o
def fsOf : AV → Option FSl
  | .slice none 0 (.known 0) => some .nil
  | .rslice nm o len => if top ≤ nm then some (.row (nm - top) o len) else none
  | _ => none
def FSl.cells (F : Nat → Option (List AV)) (K : Nat) (b : FSl) (z : Int) : Option (List AV) :=
  if 0 ≤ z ∧ z < (b.len : Int) then (F b.nm).bind fun row => if b.o + z.toNat * K + K ≤ row.length then some ((row.drop (b.o + z.toNat * K)).take K) else none else none
def atF {α : Type} (F : Nat → Option (List AV)) (K : Nat) (dec : List AV → Option α) (b : FSl) (z : Int) : Option α := (b.cells F K z).bind dec
theorem FSl.top_le (b : FSl) : top ≤ b.nm := by cases b <;> simp [FSl.nm]
theorem FSl.one (b : FSl) : b.av.oneCell = true := by cases b <;> rfl
theorem FSl.avcells (b : FSl) : b.av.cells = [b.av] := by cases b <;> rfl
theorem fsOf_av {a : AV} {b : FSl} (h : fsOf a = some b) : a = b.av := by
  unfold fsOf at h
  split at h
  · injection h with h; subst h; rfl
  · split at h
    · rename_i nm o len q
      injection h with h; subst h
      show AV.rslice nm o len = .rslice (top + (nm - top)) o len
      rw [Nat.add_sub_cancel' q]
    · cases h
  · cases h
theorem fsOf_back (b : FSl) : fsOf b.av = some b := by
  cases b with
  | nil => rfl
  | row j o len =>
    show (if top ≤ top + j then some (FSl.row (top + j - top) o len) else none) = _
    rw [if_pos (Nat.le_add_right _ _), Nat.add_sub_cancel_left]
/-- How an element lies in cells, and back. -/
structure EncDec {α : Type} (K : Nat) (enc : α → List AV) (dec : List AV → Option α) : Prop where
  len : ∀ a, (enc a).length = K
  one : ∀ a, (enc a).all AV.oneCell = true
  back : ∀ c a, dec c = some a → c = enc a
theorem atF_inv {α : Type} {F : Nat → Option (List AV)} {K : Nat} {enc : α → List AV} {dec : List AV → Option α} {b : FSl} {z : Int} {x : α} (he : EncDec K enc dec) (h : atF F K dec b z = some x) : (0 ≤ z ∧ z < (b.len : Int)) ∧ top ≤ b.nm ∧ ElF F b.nm (b.o + z.toNat * K) (enc x) := by
  obtain ⟨c, h1, h2⟩ := x_bind h
  unfold FSl.cells at h1
  obtain ⟨⟨q1, q2⟩, h1⟩ := x_guard h1
  obtain ⟨row, h3, h4⟩ := x_bind h1
  obtain ⟨h5, h6⟩ := x_guard h4
  injection h6 with h6
  have hc := he.back c x h2
  refine ⟨⟨q1, q2⟩, b.top_le, row, h3, by rw [he.len]; exact h5, ?_⟩
  rw [he.len, h6, hc]
section
variable {P : Program} {s s1 : AS} {call : Caller} {t : Tr AV}
theorem op_idxF {ty e : TypeId} {x i : Operand} {b : FSl} {ik : IntKind} {z : Int} {K : Nat} (h0 : (opd t x, opd t i, P.underlying ty, sizeT P e) = (some b.av, some (.int ik z), some (.slice e), some K)) (hz : 0 ≤ z ∧ z < (b.len : Int)) :
    (opB P (.indexAddr ty x i)).val call t s = .ok (.rptr b.nm (b.o + z.toNat * K)) s := by
  injection h0 with hx h0
  injection h0 with hi h0
  injection h0 with hu hk
  show kIndexAddr P ty x i call t s = _
  unfold kIndexAddr
  rw [hx, hi, withO_some, withO_some]
  obtain ⟨n, rfl⟩ := Int.eq_ofNat_of_zero_le hz.1
  cases b with
  | nil => have := hz.2; simp [FSl.len] at this; omega
  | row nm o len =>
    have hlt : n < len := by have := hz.2; simp [FSl.len] at this; exact this
    have hw : within (↑n) len = some n := by
      show within (Int.ofNat n) len = some n
      unfold within
      have : Nat.blt n len = true := by rw [blt_eq]; exact hlt
      simp only [this]
    unfold indexAddr intOf
    simp only [hu, hk, FSl.av, hw]
    rfl
theorem op_lenF {ts : Array TypeId} {ty e : TypeId} {x : Operand} {b : FSl} (h0 : (opd t x, ts[0]?, P.underlying ty) = (some b.av, some ty, some (.slice e))) :
    (opB P (.call ⟨.builtin .len, #[x], ts⟩)).val call t s = .ok (.int .i64 (b.len : Nat)) s := by
  injection h0 with hx h0
  injection h0 with h0 hu
  show kBuiltin P .len ts [x] call t s = _
  unfold kBuiltin opds opds
  rw [hx]
  show lenT P ts b.av s = _
  have hl : lift ts[0]? s = .ok ty s := by rw [h0]; rfl
  unfold lenT
  show ((lift ts[0]?).bind _) s = _
  rw [M.bind_ok hl]
  cases b <;> (simp only [hu, FSl.av]; rfl)
theorem op_loadF {α : Type} {enc : α → List AV} {dec : List AV → Option α} {sp : Sp} {F : Nat → Option (List AV)} {n : Nat} {ty : TypeId} {a : Operand} {b : FSl} {z : Int} {K : Nat} {x : α} (he : EncDec K enc dec) (hx : atF F K dec b z = some x) (h0 : (opd t a, aggT P ty, sizeT P ty) = (some (.rptr b.nm (b.o + z.toNat * K)), some true, some K)) :
    (opB P (.load ty a)).val (arunI P sp F n) t s = .ok (.agg (enc x)) s := by
  injection h0 with ha h0
  injection h0 with hg hk
  obtain ⟨_, q2, q3⟩ := atF_inv he hx
  exact op_load ha q2 q3 hg (by rw [hk, he.len])
theorem op_load1F {α : Type} {enc : α → List AV} {dec : List AV → Option α} {sp : Sp} {F : Nat → Option (List AV)} {n : Nat} {ty : TypeId} {a : Operand} {b : FSl} {z : Int} {K j k : Nat} {x : α} {y : AV} (he : EncDec K enc dec) (hx : atF F K dec b z = some x) (h0 : (opd t a, aggT P ty, sizeT P ty) = (some (.rptr b.nm (b.o + z.toNat * K + j)), some false, some k)) (hy : (enc x)[j]? = some y) :
    (opB P (.load ty a)).val (arunI P sp F n) t s = .ok y s := by
  injection h0 with ha h0
  injection h0 with hg hk
  obtain ⟨_, q2, q3⟩ := atF_inv he hx
  exact op_load1 ha q2 (q3.cell hy) hg hk
end
end Go.Rn
namespace Go.Rn
theorem XRun.back {C R : Type} {step : C → Option (C ⊕ R)} {T : C ⊕ R → Prop} (hway : ∀ c x, step c = some x → T x → T (.inl c)) {c : C} {r : R} (h : XRun step c r) (he : T (.inr r)) : T (.inl c) := by
  induction h with
  | done e => exact hway _ _ e he
  | next e _ ih => exact hway _ _ e (ih he)
end Go.Rn

/- Operations on what is not known, for plain programs; functions that look alone, as their callers know them. -/
namespace Go.Rn
open Go.RowKit
theorem VEnt.fs {r : Nat → Nat} {b : FSl} (hr : ∀ k, top ≤ k → r k = k) : VEnt r b.av b.av := by
  cases b with
  | nil => exact VEnt.nilslice
  | row j o len => exact VEnt.rslice (hr _ (Nat.le_add_right _ _))
theorem wrap_id (k : IntKind) (lo hi : Int) (n : Int) (h : lo ≤ n ∧ n ≤ hi) (hk : (k.signed = true ∧ lo = -(2 ^ (k.bits - 1) : Int) ∧ hi = (2 ^ (k.bits - 1) : Int) - 1 ∧ (2 ^ k.bits : Int) = 2 * (2 ^ (k.bits - 1) : Int) ∧ (0 : Int) < (2 ^ (k.bits - 1) : Int)) ∨ (k.signed = false ∧ lo = 0 ∧ hi = (2 ^ k.bits : Int) - 1)) : IntKind.wrap k n = n := by
  unfold IntKind.wrap
  rcases hk with ⟨hs, h1, h2, h3, h4⟩ | ⟨hs, h1, h2⟩
  · simp only [hs, Bool.true_and, decide_eq_true_eq]
    subst h1; subst h2
    rw [h3]
    generalize (2 ^ (k.bits - 1) : Int) = p at *
    by_cases q : 0 ≤ n
    · have : n % (2 * p) = n := Int.emod_eq_of_lt q (by omega)
      rw [this, if_neg (by omega)]
    · have : n % (2 * p) = n + 2 * p := by
        rw [← Int.add_emod_right, Int.emod_eq_of_lt (by omega) (by omega)]
      rw [this, if_pos (by omega)]; omega
  · simp only [hs, Bool.false_and]
    subst h1; subst h2
    have : n % (2 ^ k.bits : Int) = n := Int.emod_eq_of_lt h.1 (by omega)
    simp [this]
theorem wrap_i64_in {n : Int} (h : -9223372036854775808 ≤ n ∧ n ≤ 9223372036854775807) : IntKind.wrap .i64 n = n := wrap_id .i64 _ _ n h (.inl ⟨rfl, by decide, by decide, by decide, by decide⟩)
theorem wrap_i32_in {n : Int} (h : -2147483648 ≤ n ∧ n ≤ 2147483647) : IntKind.wrap .i32 n = n := wrap_id .i32 _ _ n h (.inl ⟨rfl, by decide, by decide, by decide, by decide⟩)
theorem wrap_u8_in {n : Int} (h : 0 ≤ n ∧ n ≤ 255) : IntKind.wrap .u8 n = n := wrap_id .u8 _ _ n h (.inr ⟨rfl, by decide, by decide⟩)
theorem wrap_u32_in {n : Int} (h : 0 ≤ n ∧ n ≤ 4294967295) : IntKind.wrap .u32 n = n := wrap_id .u32 _ _ n h (.inr ⟨rfl, by decide, by decide⟩)
theorem wrap_u64_in {n : Int} (h : 0 ≤ n ∧ n ≤ 18446744073709551615) : IntKind.wrap .u64 n = n := wrap_id .u64 _ _ n h (.inr ⟨rfl, by decide, by decide⟩)
theorem wrap_i64_i64 {n : Int} (h : -9223372036854775808 ≤ n ∧ n ≤ 9223372036854775807) : IntKind.wrap .i64 n = n := wrap_i64_in h
theorem wrap_u8_u8 {n : Int} (h : 0 ≤ n ∧ n ≤ 255) : IntKind.wrap .u8 n = n := wrap_u8_in h
theorem wrap_u8_i64 {n : Int} (h : 0 ≤ n ∧ n ≤ 255) : IntKind.wrap .i64 n = n := wrap_i64_in (by omega)
theorem wrap_u32_i64 {n : Int} (h : 0 ≤ n ∧ n ≤ 4294967295) : IntKind.wrap .i64 n = n := wrap_i64_in (by omega)
theorem wrap_i32_i64 {n : Int} (h : -2147483648 ≤ n ∧ n ≤ 2147483647) : IntKind.wrap .i64 n = n := wrap_i64_in (by omega)
section
variable {P : Program} {s s1 : AS} {call : Caller} {t : Tr AV}
theorem op_load1F0 {α : Type} {enc : α → List AV} {dec : List AV → Option α} {sp : Sp} {F : Nat → Option (List AV)} {n : Nat} {ty : TypeId} {a : Operand} {b : FSl} {z : Int} {K k : Nat} {x : α} {y : AV} (he : EncDec K enc dec) (hx : atF F K dec b z = some x) (h0 : (opd t a, aggT P ty, sizeT P ty) = (some (.rptr b.nm (b.o + z.toNat * K)), some false, some k)) (hy : (enc x)[0]? = some y) :
    (opB P (.load ty a)).val (arunI P sp F n) t s = .ok y s := op_load1F (j := 0) he hx h0 hy
theorem op_min {ts : Array TypeId} {x y : Operand} {k : IntKind} {a b : Int} (h : opds (opd t) [x, y] = some [.int k a, .int k b]) : (opB P (.call ⟨.builtin .min, #[x, y], ts⟩)).val call t s = .ok (.int k (min a b)) s := by
  show kBuiltin P .min ts [x, y] call t s = _
  unfold kBuiltin
  rw [h, withO_some]
  show lift (some (AV.int k (match decide (b < a) with | true => b | false => a))) s = _
  have : (match decide (b < a) with | true => b | false => a) = min a b := by
    by_cases q : b < a
    · rw [decide_eq_true q]; show b = min a b; omega
    · rw [decide_eq_false q]; show a = min a b; omega
  rw [this]; rfl
theorem op_max {ts : Array TypeId} {x y : Operand} {k : IntKind} {a b : Int} (h : opds (opd t) [x, y] = some [.int k a, .int k b]) : (opB P (.call ⟨.builtin .max, #[x, y], ts⟩)).val call t s = .ok (.int k (max a b)) s := by
  show kBuiltin P .max ts [x, y] call t s = _
  unfold kBuiltin
  rw [h, withO_some]
  show lift (some (AV.int k (match decide (b > a) with | true => b | false => a))) s = _
  have : (match decide (b > a) with | true => b | false => a) = max a b := by
    by_cases q : b > a
    · rw [decide_eq_true q]; show b = max a b; omega
    · rw [decide_eq_false q]; show a = max a b; omega
  rw [this]; rfl
theorem op_eqlTb {ty yt : TypeId} {x y : Operand} {xs ys : List AV} {l : List (Int × Int)} {b : Bool} (hx : opd t x = some (.agg xs)) (hy : opd t y = some (.agg ys)) (hg : guardOk P .eql ty x y (.agg xs) (.agg ys) = true) (hu : isStruct P ty = true) (hs : P.stoodInHeld ty = false) (h : pairsOf P xs ys (fieldsOf P ty) = some l) (hb : allEq l = b) :
    (opB P (.binOp .eql ty x y yt)).val call t s = .ok (.bool b) s := op_eqlT hx hy hg hu hs h hb
theorem op_neqTb {ty yt : TypeId} {x y : Operand} {xs ys : List AV} {l : List (Int × Int)} {b : Bool} (hx : opd t x = some (.agg xs)) (hy : opd t y = some (.agg ys)) (hg : guardOk P .neq ty x y (.agg xs) (.agg ys) = true) (hu : isStruct P ty = true) (hs : P.stoodInHeld ty = false) (h : pairsOf P xs ys (fieldsOf P ty) = some l) (hb : (!allEq l) = b) :
    (opB P (.binOp .neq ty x y yt)).val call t s = .ok (.bool b) s := by rw [← hb]; exact op_neqT hx hy hg hu hs h rfl
end
/-- Values that are the same under all names that have these rows. -/
def hi1 (F : Nat → Option (List AV)) (x : AV) : Prop := x.flat = true ∨ ∃ b : FSl, x = b.av ∧ (b = .nil ∨ F b.nm ≠ none)
def hiOk (F : Nat → Option (List AV)) (x : AV) : Prop := hi1 F x ∨ ∃ l, (x = .agg l ∨ x = .tuple l) ∧ ∀ y ∈ l, hi1 F y
theorem hi1.vr {F : Nat → Option (List AV)} {ρ σ : Ren} (hρ : ∀ k y, F k ≠ none → ρ k = some y → σ k = some y) {x : AV} {v : Value} (h : hi1 F x) (k : VR ρ x v) : VR σ x v := by
  rcases h with h | ⟨b, rfl, h⟩
  · exact VR.flat h k
  · cases b with
    | nil =>
      simp only [FSl.av, VR] at k ⊢
      exact k
    | row j o len =>
      rcases h with h | h
      · cases h
      · simp only [FSl.av, VR] at k ⊢
        obtain ⟨b, sh, c, q1, q2⟩ := k
        exact ⟨b, sh, c, hρ _ _ h q1, q2⟩
theorem hiOk.vr {F : Nat → Option (List AV)} {ρ σ : Ren} (hρ : ∀ k y, F k ≠ none → ρ k = some y → σ k = some y) {x : AV} {v : Value} (h : hiOk F x) (k : VR ρ x v) : VR σ x v := by
  have go : ∀ (l : List AV) (vs : List Value), (∀ y ∈ l, hi1 F y) → VRs ρ l vs → VRs σ l vs := by
    intro l
    induction l with
    | nil => intro vs _ hv; simpa only [VRs] using hv
    | cons y l ih =>
      intro vs hy hv
      simp only [VRs] at hv ⊢
      obtain ⟨a, as, e, h1, h2⟩ := hv
      exact ⟨a, as, e, (hy y List.mem_cons_self).vr hρ h1, ih as (fun z hz => hy z (List.mem_cons_of_mem _ hz)) h2⟩
  rcases h with h | ⟨l, rfl | rfl, h⟩
  · exact h.vr hρ k
  · simp only [VR] at k ⊢; obtain ⟨a, e, q⟩ := k; exact ⟨a, e, go _ _ h q⟩
  · simp only [VR] at k ⊢; obtain ⟨a, e, q⟩ := k; exact ⟨a, e, go _ _ h q⟩
theorem hiOks.vr {F : Nat → Option (List AV)} {ρ σ : Ren} (hρ : ∀ k y, F k ≠ none → ρ k = some y → σ k = some y) : ∀ {l : List AV} {vs : List Value}, (∀ y ∈ l, hiOk F y) → VRs ρ l vs → VRs σ l vs
  | [], _, _, hv => by simpa only [VRs] using hv
  | y :: l, vs, hy, hv => by
    simp only [VRs] at hv ⊢
    obtain ⟨a, as, e, h1, h2⟩ := hv
    exact ⟨a, as, e, (hy y List.mem_cons_self).vr hρ h1, hiOks.vr hρ (fun z hz => hy z (List.mem_cons_of_mem _ hz)) h2⟩
noncomputable section
open Classical in
/-- A function of values, and rows that stay as they are, as its callers know it. -/
def pureM (F : Nat → Option (List AV)) (f : List AV → Option AV) : Caller → List AV → M AV := fun _ args =>
  withB (decide (∀ y ∈ args, hiOk F y)) <| withO (f args) fun x => withB (decide (hiOk F x)) <| M.pure x
end
theorem Local.pureM (F : Nat → Option (List AV)) (f : List AV → Option AV) (call : Caller) (args : List AV) : Local (pureM F f call args) :=
  Local.withB fun _ => Local.withO fun _ _ => Local.withB fun _ => Local.pure _
open Classical in
theorem pureM_ok {F : Nat → Option (List AV)} {f : List AV → Option AV} {call : Caller} {args : List AV} {x : AV} {s : AS} (h : f args = some x) (ha : ∀ y ∈ args, hiOk F y) (hx : hiOk F x) : pureM F f call args s = .ok x s := by
  unfold pureM
  have e1 : decide (∀ y ∈ args, hiOk F y) = true := decide_eq_true ha
  have e2 : decide (hiOk F x) = true := decide_eq_true hx
  rw [e1, withB_true, h, withO_some, e2, withB_true]
  rfl
open Classical in
theorem pureM_sim {P : Program} {B : Base} {ρ : Ren} {w : World} {s s1 : AS} (hP : ProgOk P) {g : FuncId} {fn : Func} {body : Code} (hfn : P.funcs[g]? = some fn) (hbody : fn.body = some body) (hname : (fn.name == "runtime.NumGoroutine") = false) {f : List AV → Option AV} (hfin : FinF B.F)
    (H : ∀ (B' : Base) (args : List AV) (x : AV), B'.F = B.F → f args = some x → max fn.ntmps args.length ≤ top ∧
      Sim P B' 256 (Fin P fn.results.toList fun y s => y = x ∧ s = stOf [] 256) ⟨g, fillArgs args, max fn.ntmps args.length, [.code body], [], none⟩ (stOf [] 256))
    {call : Caller} {args : List AV} {x : AV} {vs : Array Value} (r : Rel B ρ s.h w) (hg : RenG ρ) (h : pureM B.F f call args s = .ok x s1) (hv : VRs ρ args vs.toList) : Back P ((callFunc g vs).run P w) (Came B ρ s s1 w x) := by
  unfold pureM at h
  obtain ⟨h1, h2⟩ := withB_inv h
  obtain ⟨y, h3, h4⟩ := withO_inv h2
  obtain ⟨h5, h6⟩ := withB_inv h4
  obtain ⟨rfl, rfl⟩ := pure_inv h6
  have h1 := of_decide_eq_true h1
  have h5 := of_decide_eq_true h5
  obtain ⟨m, hm, hmb⟩ := hfin
  have C0 := Cn.start hm hmb r hg
  have hρ : ∀ k y, B.F k ≠ none → ρ k = some y → (fun k => if k < globs then ρ k else hiF B.F ρ k) k = some y := fun k y q e => Cn.names q e
  have hback : ∀ k, B.F k ≠ none → (fun k => if k < globs then ρ k else hiF B.F ρ k) k = ρ k := by
    intro k q
    show (if k < globs then ρ k else hiF B.F ρ k) = _
    split
    · rfl
    · unfold hiF
      rw [if_pos]
      cases e : B.F k with
      | none => exact absurd e q
      | some _ => rfl
  obtain ⟨hmax, HS⟩ := H ⟨fun k => w.heap.size ≤ k, B.F⟩ args x rfl h3
  have hc := Sim.calls (s := stOf [] 256) (args := args) hP hfn hbody hmax HS fine_start C0.rel C0.g (fun k q1 q2 => C0.free k q1 q2) (hiOks.vr hρ h1 hv)
  rw [callFunc_run hfn hbody hname]
  show Calls P g vs w _
  refine hc.mono fun e w' => ?_
  rintro ⟨v, x', s4, rfl, ⟨rfl, rfl⟩, _, _, σ, q1, q2, _, q4⟩
  have hz : (stOf [] 256).nx = 256 := rfl
  refine ⟨v, rfl, ρ, Ext.refl _ _ _, ?_, r.kept q4.size q4.kept, Bel.of_new q4⟩
  refine h5.vr (fun k y hk e => ?_) q2
  have hkt : top ≤ k := by
    cases e' : B.F k with
    | none => exact absurd e' hk
    | some l => exact (r.fz k l e').1
  have h0 : (fun k => if k < globs then ρ k else hiF B.F ρ k) k = ρ k := hback k hk
  have h1 := q1.out k (fun q => by have := q.1; have := q.2; omega)
  exact (h0.symm.trans h1.symm).trans e
end Go.Rn

/- What all functions do of which something is known, laid together one by one. -/
namespace Go.Rn
open Go.RowKit
def fsOk (F : Nat → Option (List AV)) (b : FSl) : Prop := b = .nil ∨ F b.nm ≠ none
noncomputable instance (F : Nat → Option (List AV)) (b : FSl) : Decidable (fsOk F b) := Classical.propDecidable _
theorem fsOk_nil (F : Nat → Option (List AV)) : fsOk F .nil := .inl rfl
/-- For every base that has these rows. -/
def SpAll (P : Program) (F : Nat → Option (List AV)) (sp : Sp) : Prop := ∀ B : Base, B.F = F → SpOk P B sp
def updS (sp : Sp) (g : FuncId) (m : Caller → List AV → M AV) : Sp := fun f => bif Nat.beq f g then some m else sp f
theorem SpAll.nothing {P : Program} {F : Nat → Option (List AV)} : SpAll P F (fun _ => none) := fun _ _ => ⟨fun f m h => (by cases h), fun f m h => (by cases h)⟩
theorem updS_self (sp : Sp) (g : FuncId) (m : Caller → List AV → M AV) : updS sp g m g = some m := by unfold updS; rw [beqN_true.2 rfl]; rfl
theorem updS_cases {sp : Sp} {g : FuncId} {m m' : Caller → List AV → M AV} {f : FuncId} (h : updS sp g m f = some m') : (f = g ∧ m' = m) ∨ sp f = some m' := by
  unfold updS at h
  cases e : Nat.beq f g with
  | true => rw [e] at h; injection h with h; exact .inl ⟨Nat.eq_of_beq_eq_true e, h.symm⟩
  | false => rw [e] at h; exact .inr h
theorem SpAll.upd {P : Program} {F : Nat → Option (List AV)} {sp : Sp} {g : FuncId} {m : Caller → List AV → M AV} (h : SpAll P F sp) (hl : ∀ call : Caller, (∀ t a, Local (call t a)) → ∀ args, Local (m call args))
    (hs : ∀ B : Base, B.F = F → ∀ call : Caller, CallSim P B call → (∀ t a, Local (call t a)) → ∀ (args : List AV) (x : AV) (s s1 : AS) (ρ : Ren) (w : World) (vs : Array Value), Fine s → Rel B ρ s.h w → RenG ρ → Free s.nx s1.nx ρ →
      m call args s = .ok x s1 → VRs ρ args vs.toList → Back P ((callFunc g vs).run P w) (Came B ρ s s1 w x)) : SpAll P F (updS sp g m) := by
  intro B hB
  refine ⟨fun f m' e call hl' args => ?_, fun f m' e call hc hl' args x s s1 ρ w vs fi r hg hf hm hv => ?_⟩
  · rcases updS_cases e with ⟨_, rfl⟩ | e
    · exact hl call hl' args
    · exact (h B hB).loc f m' e call hl' args
  · rcases updS_cases e with ⟨rfl, rfl⟩ | e
    · exact hs B hB call hc hl' args x s s1 ρ w vs fi r hg hf hm hv
    · exact (h B hB).sim f m' e call hc hl' args x s s1 ρ w vs fi r hg hf hm hv
theorem SpAll.pure {P : Program} {F : Nat → Option (List AV)} {sp sp' : Sp} {g : FuncId} {fn : Func} {body : Code} {f : List AV → Option AV} (hP : ProgOk P) (hfin : FinF F) (h : SpAll P F sp) (h' : SpAll P F sp') (hfn : P.funcs[g]? = some fn) (hbody : fn.body = some body) (hname : (fn.name == "runtime.NumGoroutine") = false)
    (H : ∀ (B : Base) (args : List AV) (x : AV), B.F = F → CallSim P B (arunI P sp' F 8) → (∀ t a, Local (arunI P sp' F 8 t a)) → f args = some x → max fn.ntmps args.length ≤ top ∧
      Sim P B 256 (Fin P fn.results.toList fun y s => y = x ∧ s = stOf [] 256) ⟨g, fillArgs args, max fn.ntmps args.length, [.code body], [], none⟩ (stOf [] 256)) : SpAll P F (updS sp g (pureM F f)) := by
  refine h.upd (fun call _ args => Local.pureM F f call args) fun B hB call hc hl args x s s1 ρ w vs fi r hg hf hm hv => ?_
  subst hB
  refine pureM_sim hP hfn hbody hname hfin (fun B' args x hB' hx => ?_) r hg hm hv
  have hc' := arunI_sim hP (h' B' hB') hB' 8
  have hl' := local_arunI P (h' B' hB') B.F 8
  exact H B' args x hB' hc' hl' hx
theorem hi_int (F : Nat → Option (List AV)) (k : IntKind) (n : Int) : hiOk F (.int k n) := .inl (.inl rfl)
theorem hi_bool (F : Nat → Option (List AV)) (b : Bool) : hiOk F (.bool b) := .inl (.inl rfl)
theorem hi_str (F : Nat → Option (List AV)) (b : ByteArray) : hiOk F (.str b) := .inl (.inl rfl)
theorem hi_fs {F : Nat → Option (List AV)} {b : FSl} (h : fsOk F b) : hiOk F b.av := .inl (.inr ⟨b, rfl, h⟩)
theorem hi1_int (F : Nat → Option (List AV)) (k : IntKind) (n : Int) : hi1 F (.int k n) := .inl rfl
theorem hi1_bool (F : Nat → Option (List AV)) (b : Bool) : hi1 F (.bool b) := .inl rfl
theorem hi1_str (F : Nat → Option (List AV)) (b : ByteArray) : hi1 F (.str b) := .inl rfl
theorem hi1_fs {F : Nat → Option (List AV)} {b : FSl} (h : fsOk F b) : hi1 F b.av := .inr ⟨b, rfl, h⟩
def All1 (F : Nat → Option (List AV)) : List AV → Prop
  | [] => True
  | x :: l => hi1 F x ∧ All1 F l
theorem All1.all {F : Nat → Option (List AV)} : ∀ {l : List AV}, All1 F l → ∀ y ∈ l, hi1 F y
  | x :: l, h, y, hy => by
    rcases List.mem_cons.1 hy with rfl | hy
    · exact h.1
    · exact All1.all h.2 y hy
def AllK (F : Nat → Option (List AV)) : List AV → Prop
  | [] => True
  | x :: l => hiOk F x ∧ AllK F l
theorem AllK.all {F : Nat → Option (List AV)} : ∀ {l : List AV}, AllK F l → ∀ y ∈ l, hiOk F y
  | x :: l, h, y, hy => by
    rcases List.mem_cons.1 hy with rfl | hy
    · exact h.1
    · exact AllK.all h.2 y hy
theorem hi_agg {F : Nat → Option (List AV)} {l : List AV} (h : All1 F l) : hiOk F (.agg l) := .inr ⟨l, .inl rfl, h.all⟩
theorem hi_tuple {F : Nat → Option (List AV)} {l : List AV} (h : All1 F l) : hiOk F (.tuple l) := .inr ⟨l, .inr rfl, h.all⟩
theorem pure_says {P : Program} {F : Nat → Option (List AV)} {sp : Sp} {g : FuncId} {f : List AV → Option AV} (h : sp g = some (pureM F f)) {args : List AV} {x : AV} (hx : f args = some x) (ha : AllK F args) (hr : hiOk F x) (n : Nat) (s : AS) : arunI P sp F (n + 1) (.fn g) args s = .ok x s := by
  show fnI P sp g (arunI P sp F n) args s = _
  rw [fnI_sp h]
  exact pureM_ok hx ha.all hr
end Go.Rn
namespace Go.Rn
theorem updS_ne {sp : Sp} {g f : FuncId} {m : Caller → List AV → M AV} (h : Nat.beq f g = false) : updS sp g m f = sp f := by unfold updS; rw [h]; rfl
theorem updS_other {sp : Sp} {g : FuncId} {m : Caller → List AV → M AV} (h : sp g = none) {j : FuncId} {m' : Caller → List AV → M AV} (e : sp j = some m') : updS sp g m j = some m' := by
  cases q : Nat.beq j g with
  | true => rw [Nat.eq_of_beq_eq_true q, h] at e; cases e
  | false => rw [updS_ne q]; exact e
theorem updS_none {sp : Sp} {g : FuncId} {m : Caller → List AV → M AV} {j : FuncId} (h : sp j = none) (q : Nat.beq j g = false) : updS sp g m j = none := by rw [updS_ne q]; exact h
end Go.Rn

/- A function told from a start where known rows lie: its answer, wherever it is called. Operations on texts. strings.Join, strconv.FormatInt. -/
namespace Go.Rn
open Go.RowKit
theorem tabM_sim {P : Program} {B : Base} {f nx0 : Nat} {ns : List Nat} {h0 : Tr AObj} {val : List AV → Option AV} {fn : Func} {body : Code} {ρ : Ren} {w : World} {s s1 : AS} (hP : ProgOk P) (hfn : P.funcs[f]? = some fn) (hbody : fn.body = some body) (hname : (fn.name == "runtime.NumGoroutine") = false)
    (hg0 : globs ≤ nx0) (ht0 : nx0 ≤ top) (hall : ∀ n o, n < top → h0.get n = some o → n ∈ ns) (hns : ∀ n ∈ ns, n < nx0)
    (hval : ∀ args v, val args = some v → (∀ (ρ σ : Ren) vs, VRs ρ args vs → VRs σ args vs) ∧ (∀ (ρ σ : Ren) x, VR ρ v x → VR σ v x) ∧ max fn.ntmps args.length ≤ top ∧
      Sim P (baseOf w) nx0 (Fin P fn.results.toList fun y _ => y = v) ⟨f, fillArgs args, max fn.ntmps args.length, [.code body], [], none⟩ ⟨h0, nx0, 0, [], []⟩)
    {call : Caller} {args : List AV} {x : AV} {vs : Array Value} (r : Rel B ρ s.h w) (hg : RenG ρ) (h : knownM nx0 ns h0 val call args s = .ok x s1) (hv : VRs ρ args vs.toList) : Back P ((callFunc f vs).run P w) (Came B ρ s s1 w x) := by
  obtain ⟨u, s2, h2, h3⟩ := M.bind_inv (show ((checkAll nx0 h0 ns).bind fun _ => withO (val args) fun v => M.pure v) s = .ok x s1 from h)
  obtain ⟨v, h4, h5⟩ := withO_inv h3
  obtain ⟨rfl, rfl⟩ := pure_inv h5
  obtain ⟨a1, a2, a3⟩ := checkAll_inv h2
  obtain ⟨q1, q2, q3, q4⟩ := hval _ _ h4
  have S : Start nx0 h0 (fun k => if k < nx0 then ρ k else none) w := by
    refine ⟨fun k hk => ?_, fun k hk => ?_, fun n o hn ho => ?_⟩
    · obtain ⟨N, e⟩ := hg k hk
      exact ⟨N, by rw [if_pos (Nat.lt_of_lt_of_le hk hg0)]; exact e⟩
    · show (if k < nx0 then ρ k else none) = none
      rw [if_neg (by omega)]
    · have hin := hall n o hn ho
      obtain ⟨c1, p1, p2, c2, c3, c4⟩ := a3 n hin
      rw [ho] at c3; cases c3
      obtain ⟨b, N, o', i1, i2, i3, _⟩ := r.is n p1 hn c2
      obtain ⟨j1, j2⟩ := roSame_sim c4 i3
      exact ⟨j1, b, N, o', by show (if n < nx0 then ρ n else none) = _; rw [if_pos (hns n hin)]; exact i1, i2, j2⟩
  have fi : Fine (⟨h0, nx0, 0, [], []⟩ : AS) := ⟨Nat.zero_le _, ht0⟩
  have hcall := Sim.calls (s := ⟨h0, nx0, 0, [], []⟩) (args := args) (vs := vs) hP hfn hbody q3 q4 fi S.rel S.g (fun k h1 _ => S.free k h1) (q1 _ _ _ hv)
  rw [callFunc_run hfn hbody hname]
  show Calls P f vs w _
  refine hcall.mono fun e w' => ?_
  rintro ⟨y, x', s4, rfl, rfl, _, _, σ, _, hx, _, hbel⟩
  have hb' := hbel.below
  have gr : Grew w w' := ⟨hb'.os, hb'.tape, hb'.output, hb'.size, fun k hk => hb'.block k hk⟩
  exact ⟨y, rfl, ρ, by rw [a2]; exact Ext.refl _ _ _, q2 _ _ _ hx, by rw [a1]; exact r.grew gr, gr.below r.size⟩
noncomputable section
def chkS (nx0 : Nat) (h0 : Tr AObj) (ns : List Nat) (s : AS) : AS := match checkAll nx0 h0 ns s with | .ok _ s1 => s1 | .bad => s
def chkB (nx0 : Nat) (h0 : Tr AObj) (ns : List Nat) (s : AS) : Bool := match checkAll nx0 h0 ns s with | .ok _ _ => true | .bad => false
end
theorem chk_ok {nx0 : Nat} {h0 : Tr AObj} {ns : List Nat} {s : AS} (h : chkB nx0 h0 ns s = true) : checkAll nx0 h0 ns s = .ok () (chkS nx0 h0 ns s) := by
  unfold chkB at h
  unfold chkS
  cases e : checkAll nx0 h0 ns s with
  | bad => rw [e] at h; cases h
  | ok u s1 => rfl
theorem knownM_ok {nx0 : Nat} {h0 : Tr AObj} {ns : List Nat} {val : List AV → Option AV} {call : Caller} {args : List AV} {v : AV} {s : AS} (hv : val args = some v) (hk : chkB nx0 h0 ns s = true) : knownM nx0 ns h0 val call args s = .ok v (chkS nx0 h0 ns s) := by
  unfold knownM
  rw [M.bind_ok (chk_ok hk), hv, withO_some]
  rfl
theorem known_says {P : Program} {F : Nat → Option (List AV)} {sp : Sp} {g : FuncId} {nx0 : Nat} {h0 : Tr AObj} {ns : List Nat} {val : List AV → Option AV} (h : sp g = some (knownM nx0 ns h0 val)) {args : List AV} {v : AV} {n : Nat} {s : AS} (hv : val args = some v) (hk : chkB nx0 h0 ns s = true) : arunI P sp F (n + 1) (.fn g) args s = .ok v (chkS nx0 h0 ns s) := by
  show fnI P sp g (arunI P sp F n) args s = _
  rw [fnI_sp h]
  exact knownM_ok hv hk
/-! Texts. -/
section
variable {P : Program} {s s1 : AS} {call : Caller} {t : Tr AV}
theorem op_strAdd {ty yt : TypeId} {x y : Operand} {a b : ByteArray} {n m : Nat} (h0 : (opd t x, opd t y) = (some (.str a), some (.str b))) (ha : a.size ≤ n) (hb : b.size ≤ m) (hr : Nat.ble (n + m) room = true) : (opB P (.binOp .add ty x y yt)).val call t s = .ok (.str (a ++ b)) s := by
  injection h0 with hx hy
  show kBin P .add ty x y call t s = _
  unfold kBin
  rw [hx, hy, withO_some, withO_some]
  show withB true (lift (binOpT P .add ty (.str a) (.str b))) s = _
  rw [withB_true]
  have hle : Nat.ble (a.size + b.size) room = true := ble_true.2 (Nat.le_trans (Nat.add_le_add ha hb) (ble_true.1 hr))
  show lift (match Nat.ble (a.size + b.size) room with | true => some (AV.str (a ++ b)) | false => none) s = _
  rw [hle]
  rfl
theorem op_strSame {ty yt : TypeId} {x y : Operand} {a b : ByteArray} (h0 : (opd t x, opd t y) = (some (.str a), some (.str b))) (h : a = b) : (opB P (.binOp .eql ty x y yt)).val call t s = .ok (.bool true) s := by
  injection h0 with hx hy
  subst h
  show kBin P .eql ty x y call t s = _
  unfold kBin
  rw [hx, hy, withO_some, withO_some]
  show withB true (lift (some (AV.bool (a.toList == a.toList)))) s = _
  rw [withB_true, beq_self_eq_true]
  rfl
theorem op_quo {ty yt : TypeId} {x y : Operand} {k : IntKind} {a b c : Int} (hx : opd t x = some (.int k a)) (hy : opd t y = some (.int k b)) (h0 : b ≠ 0) (h : k.wrap (a.tdiv b) = c) : (opB P (.binOp .quo ty x y yt)).val call t s = .ok (.int k c) s :=
  bin_int hx hy rfl rfl (by subst h; simp only [intOp, decide_eq_false h0])
theorem op_neg {ty : TypeId} {x : Operand} {k : IntKind} {a c : Int} (hx : opd t x = some (.int k a)) (h : k.wrap (0 - a) = c) : (opB P (.unOp .neg ty x)).val call t s = .ok (.int k c) s := by
  show kUn .neg x call t s = _
  unfold kUn
  rw [hx, withO_some]
  subst h
  rfl
end
theorem joinStrs_ok {a : Option (Nat × Nat)} {n : Nat} {c : Cap} {sep : ByteArray} {s s1 : AS} {l : List AV} {ts : List (List UInt8)} {m : Nat} (h1 : Nat.ble n (capLow n c) = true) (h2 : firstCells 1 n (.slice a n c) s = .ok l s1) (h3 : textsOf l = some ts) (h4 : (joinTexts sep.data.toList ts).length + n ≤ 1048576) :
    joinStrs [.slice a n c, .str sep] s = .ok (.str ⟨(joinTexts sep.data.toList ts).toArray⟩) s1 := by
  unfold joinStrs
  show ((need (Nat.ble n (capLow n c))).bind fun _ => (firstCells 1 n (.slice a n c)).bind fun l => (lift (textsOf l)).bind fun ts => (need (Nat.ble ((joinTexts sep.data.toList ts).length + n) 1048576)).bind fun _ => M.pure (AV.str ⟨(joinTexts sep.data.toList ts).toArray⟩)) s = _
  rw [h1]
  rw [M.bind_ok (show need true s = .ok () s from rfl), M.bind_ok h2, M.bind_ok (show lift (textsOf l) s1 = .ok ts s1 by rw [h3]; rfl), ble_true.2 h4, M.bind_ok (show need true s1 = .ok () s1 from rfl)]
  rfl
theorem join_says {P : Program} {F : Nat → Option (List AV)} {sp : Sp} {g : FuncId} (h : sp g = some (fun _ args => joinStrs args)) {n : Nat} {a : Option (Nat × Nat)} {k : Nat} {c : Cap} {sep : ByteArray} {s s1 : AS} {l : List AV} {ts : List (List UInt8)} (h0 : (Nat.ble k (capLow k c), firstCells 1 k (.slice a k c) s, textsOf l) = (true, .ok l s1, some ts)) (h4 : (joinTexts sep.data.toList ts).length + k ≤ 1048576) :
    arunI P sp F (n + 1) (.fn g) [.slice a k c, .str sep] s = .ok (.str ⟨(joinTexts sep.data.toList ts).toArray⟩) s1 := by
  injection h0 with h1 h0
  injection h0 with h2 h3
  show fnI P sp g (arunI P sp F n) _ s = _
  rw [fnI_sp h]
  exact joinStrs_ok (m := 0) h1 h2 h3 h4
/-! The decimal numeral. -/
def itoaB (n : Int) : ByteArray := ⟨(Go.Lib.itoa n).toArray⟩
theorem lit_size (l : List UInt8) : (⟨l.toArray⟩ : ByteArray).size = l.length := by show l.toArray.size = _; simp
theorem nDigits_le : ∀ (k u : Nat), u < 10 ^ (k + 1) → Go.Lib.nDigits u ≤ k + 1
  | 0, u, h => by rw [Go.Lib.nDigits_small (by simpa using h)]; exact Nat.le_refl _
  | k + 1, u, h => by
    by_cases q : u < 10
    · rw [Go.Lib.nDigits_small q]; omega
    · rw [Go.Lib.nDigits_big q]
      have := nDigits_le k (u / 10) (by rw [Nat.pow_succ] at h; omega)
      omega
def i64In (n : Int) : Prop := -9223372036854775808 ≤ n ∧ n ≤ 9223372036854775807
instance (n : Int) : Decidable (i64In n) := by unfold i64In; infer_instance
theorem itoa_len {n : Int} (h : i64In n) : (Go.Lib.itoa n).length ≤ 20 := by
  obtain ⟨h1, h2⟩ := h
  unfold Go.Lib.itoa
  split
  · rw [List.length_cons, Go.Lib.decDigits_length]
    have := nDigits_le 18 n.natAbs (by have : (10 : Nat) ^ 19 = 10000000000000000000 := by decide
                                       omega)
    omega
  · rw [Go.Lib.decDigits_length]
    have := nDigits_le 18 n.toNat (by have : (10 : Nat) ^ 19 = 10000000000000000000 := by decide
                                      omega)
    omega
theorem itoaB_size {n : Int} (h : i64In n) : (itoaB n).size ≤ 20 := by unfold itoaB; rw [lit_size]; exact itoa_len h
theorem cat_data (a b : ByteArray) : (a ++ b).data = a.data ++ b.data := by simp
theorem cat_lists (a b : List UInt8) : (⟨a.toArray⟩ : ByteArray) ++ ⟨b.toArray⟩ = ⟨(a ++ b).toArray⟩ := by
  apply ByteArray.ext
  rw [cat_data]
  simp
theorem cat_size {a b : ByteArray} {n m : Nat} (ha : a.size ≤ n) (hb : b.size ≤ m) : (a ++ b).size ≤ n + m := by
  have : (a ++ b).size = a.size + b.size := ByteArray.size_append
  omega
theorem decDigits_big {u : Nat} (h : 10 ≤ u) : Go.Lib.decDigits u = Go.Lib.decDigits (u / 10) ++ [UInt8.ofNat (48 + u % 10)] := by
  rw [Go.Lib.decDigits, dif_neg (by omega)]
theorem itoaB_small {n : Int} (h0 : 0 ≤ n) (h1 : n < 10) : itoaB n = ⟨#[UInt8.ofNat (Int.toNat (48 + n))]⟩ := by
  unfold itoaB Go.Lib.itoa
  rw [if_neg (by omega), Go.Lib.decDigits_one (by omega), show Int.toNat (48 + n) = 48 + n.toNat by omega]
theorem itoaB_step {n : Int} (h0 : 10 ≤ n) : itoaB (n.tdiv 10) ++ ⟨#[UInt8.ofNat (Int.toNat (48 + n.tmod 10))]⟩ = itoaB n := by
  obtain ⟨k, rfl⟩ := Int.eq_ofNat_of_zero_le (show 0 ≤ n by omega)
  have e1 : (Int.tdiv (k : Int) 10) = ((k / 10 : Nat) : Int) := rfl
  have e2 : (Int.tmod (k : Int) 10) = ((k % 10 : Nat) : Int) := rfl
  rw [e1, e2]
  unfold itoaB Go.Lib.itoa
  rw [if_neg (by omega), if_neg (by omega)]
  show (⟨(Go.Lib.decDigits (k / 10)).toArray⟩ : ByteArray) ++ ⟨[UInt8.ofNat (Int.toNat (48 + ((k % 10 : Nat) : Int)))].toArray⟩ = ⟨(Go.Lib.decDigits k).toArray⟩
  rw [cat_lists, decDigits_big (u := k) (by omega), show Int.toNat (48 + ((k % 10 : Nat) : Int)) = 48 + k % 10 by omega]
theorem itoaB_neg {n : Int} (h : n < 0) : (⟨#[45]⟩ : ByteArray) ++ itoaB (0 - n) = itoaB n := by
  unfold itoaB Go.Lib.itoa
  rw [if_neg (show ¬ 0 - n < 0 by omega), if_pos h]
  show (⟨[45].toArray⟩ : ByteArray) ++ _ = _
  rw [cat_lists, show (0 - n).toNat = n.natAbs by omega]
  rfl
theorem itoaB_nstep {n : Int} (h0 : n ≤ -10) : itoaB (n.tdiv 10) ++ ⟨#[UInt8.ofNat (Int.toNat (48 + (0 - n.tmod 10)))]⟩ = itoaB n := by
  obtain ⟨k, rfl⟩ : ∃ k : Nat, n = -((k : Nat) : Int) := ⟨n.natAbs, by omega⟩
  have e1 : (Int.tdiv (-(k : Int)) 10) = -((k / 10 : Nat) : Int) := by rw [Int.neg_tdiv]; rfl
  have e2 : (Int.tmod (-(k : Int)) 10) = -((k % 10 : Nat) : Int) := by rw [Int.neg_tmod]; rfl
  rw [e1, e2]
  unfold itoaB Go.Lib.itoa
  rw [if_pos (by omega), if_pos (by omega)]
  show (⟨(45 :: Go.Lib.decDigits (-((k / 10 : Nat) : Int)).natAbs).toArray⟩ : ByteArray) ++ ⟨[UInt8.ofNat (Int.toNat (48 + (0 - -((k % 10 : Nat) : Int))))].toArray⟩ = ⟨(45 :: Go.Lib.decDigits (-(k : Int)).natAbs).toArray⟩
  rw [cat_lists, show (-((k / 10 : Nat) : Int)).natAbs = k / 10 by omega, show (-(k : Int)).natAbs = k by omega, decDigits_big (u := k) (by omega), show Int.toNat (48 + (0 - -((k % 10 : Nat) : Int))) = 48 + k % 10 by omega]
  rfl
theorem itoaB_nsmall {n : Int} (h0 : n < 0) (h1 : -10 < n) : (⟨#[45]⟩ : ByteArray) ++ ⟨#[UInt8.ofNat (Int.toNat (48 + (0 - n)))]⟩ = itoaB n := by
  rw [← itoaB_neg h0, itoaB_small (by omega) (by omega)]
theorem itoaB_min : itoaB (-9223372036854775808) = ⟨#[45, 57, 50, 50, 51, 51, 55, 50, 48, 51, 54, 56, 53, 52, 55, 55, 53, 56, 48, 56]⟩ := by
  unfold itoaB Go.Lib.itoa
  rw [if_pos (by decide), Go.Lib.decDigits_eq, Go.Lib.nDigits_unique 18 _ (by decide) (by decide)]
  rfl
/-! Numbers that are held against each other. -/
theorem allEq_nil : (allEq [] = true) = True := by simp [allEq]
theorem allEq_cons (a b : Int) (l : List (Int × Int)) : (allEq ((a, b) :: l) = true) = (a = b ∧ allEq l = true) := by simp [allEq]
end Go.Rn

/- strconv.FormatInt at base 10 by the kit's contract, as what is known of a function. -/
namespace Go.Rn
open Go.RowKit
theorem below_grow (w : World) (k : Nat) (os : Array Obj) : Below w.heap.size w (Go.Sort.grow (w.drewN k) os) := by
  refine ⟨rfl, rfl, rfl, ?_, fun j hj => ?_⟩
  · show w.heap.size ≤ (w.heap ++ os).size
    rw [Array.size_append]; omega
  · show (w.heap ++ os)[j]? = w.heap[j]?
    rw [Array.getElem?_append_left hj]
noncomputable section
def powT : Tr AV := Tr.fill (Go.Lib.pow10Tab.map fun n : Int => AV.int .u64 n) 0 .nil
def fmtL : List AV → Option AV
  | [.int .i64 n, .int .i64 (.ofNat 10)] => if i64In n then some (.str (itoaB n)) else none
  | _ => none
end
theorem fmt_sim {P : Program} {B : Base} {f g nx0 : Nat} {ns : List Nat} {h0 : Tr AObj} {fn : Func} {body : Code} {ρ : Ren} {w : World} {s s1 : AS} (hm : P.globalNamed "internal/strconv.uint64pow10" = some g)
    (hcon : ∀ (n : Int), -9223372036854775808 ≤ n → n ≤ 9223372036854775807 → ∀ w : World, Go.Lib.TabIs P w "internal/strconv.uint64pow10" .u64 Go.Lib.pow10Tab → Calls P f #[.int .i64 n, .int .i64 10] w fun e w' => e = .returned (.string ⟨(Go.Lib.itoa n).toArray⟩) ∧ ∃ k os, w' = Go.Sort.grow (w.drewN k) os)
    (hfn : P.funcs[f]? = some fn) (hbody : fn.body = some body) (hname : (fn.name == "runtime.NumGoroutine") = false) (hgg : g < globs) (hin : g ∈ ns) (h0g : h0.get g = some (.ro 20 powT))
    {call : Caller} {args : List AV} {x : AV} {vs : Array Value} (r : Rel B ρ s.h w) (hg : RenG ρ) (h : knownM nx0 ns h0 fmtL call args s = .ok x s1) (hv : VRs ρ args vs.toList) : Back P ((callFunc f vs).run P w) (Came B ρ s s1 w x) := by
  obtain ⟨u, s2, h2, h3⟩ := M.bind_inv (show ((checkAll nx0 h0 ns).bind fun _ => withO (fmtL args) fun v => M.pure v) s = .ok x s1 from h)
  obtain ⟨v, h4, h5⟩ := withO_inv h3
  obtain ⟨rfl, rfl⟩ := pure_inv h5
  obtain ⟨a1, a2, a3⟩ := checkAll_inv h2
  unfold fmtL at h4
  split at h4
  · rename_i z
    by_cases hz : i64In z
    · rw [if_pos hz] at h4
      injection h4 with h4
      subst h4
      obtain ⟨vs⟩ := vs
      have hvs : vs = [.int .i64 z, .int .i64 10] := by
        match vs, hv with
        | [v, v2], hv =>
          simp only [VRs, VR] at hv
          obtain ⟨v', l', e1, e2, v'', l'', e3, e4, e5⟩ := hv
          simp_all
        | [], hv => simp [VRs, VR] at hv
        | [_], hv =>
          simp only [VRs, VR] at hv
          obtain ⟨v', l', e1, e2, v'', l'', e3, e4, e5⟩ := hv
          simp_all
        | _ :: _ :: _ :: _, hv =>
          simp only [VRs, VR] at hv
          obtain ⟨v', l', e1, e2, v'', l'', e3, e4, e5⟩ := hv
          simp_all
      subst hvs
      rw [callFunc_run hfn hbody hname]
      obtain ⟨hs, o, p, c2, c3, c4⟩ := a3 g hin
      rw [h0g] at c3; cases c3
      obtain ⟨b, N, o', i1, i2, i3, _⟩ := r.is g o (Nat.lt_trans hgg (by unfold globs top; decide)) c2
      obtain ⟨N', hN⟩ := hg g hgg
      rw [hN] at i1
      injection i1 with i1
      injection i1 with i1 i1'
      subst i1
      obtain ⟨_, c, e, fr, rfl, hsz, hle, hrow⟩ := roSame_sim c4 i3
      have hT : Go.Lib.TabIs P w "internal/strconv.uint64pow10" .u64 Go.Lib.pow10Tab := by
        unfold Go.Lib.TabIs World.var?
        rw [hm]
        show (match w.heap[g]? with | some (.cells cs _ _) => some cs | _ => none) = _
        rw [i2]
        show some c = _
        congr 1
        apply Array.ext_getElem?
        intro j
        by_cases hj : j < 20
        · obtain ⟨y, v, g1, _, g3, g4⟩ := hrow j hj
          unfold powT at g1
          rw [fill_get _ (by rw [List.length_map, Go.Lib.pow10Tab_length]; unfold top; decide) j (by rw [List.length_map, Go.Lib.pow10Tab_length]; exact hj), List.getElem?_map] at g1
          have hjj : Go.Lib.pow10Tab[j]? = some (Go.Lib.pow10Tab[j]'(by rw [Go.Lib.pow10Tab_length]; exact hj)) := List.getElem?_eq_getElem _
          rw [hjj] at g1
          injection g1 with g1
          subst g1
          have g5 : v = .int .u64 (Go.Lib.pow10Tab[j]'(by rw [Go.Lib.pow10Tab_length]; exact hj)) := by simpa only [VR] using g4
          rw [g3, g5, List.getElem?_toArray, List.getElem?_map, hjj]
          rfl
        · rw [Array.getElem?_eq_none (by omega), List.getElem?_toArray, List.getElem?_eq_none (by rw [List.length_map, Go.Lib.pow10Tab_length]; omega)]
      have hcall := hcon z hz.1 hz.2 w hT
      refine Calls.mono hcall fun e w' => ?_
      rintro ⟨rfl, k, os, rfl⟩
      have hb := below_grow w k os
      have gr : Grew w (Go.Sort.grow (w.drewN k) os) := ⟨hb.os, hb.tape, hb.output, hb.size, fun k hk => hb.block k hk⟩
      exact ⟨_, rfl, ρ, by rw [a2]; exact Ext.refl _ _ _, by simp only [VR]; rfl, by rw [a1]; exact r.grew gr, gr.below r.size⟩
    · rw [if_neg hz] at h4; cases h4
  · cases h4
end Go.Rn

/- Great steps that the kernel reckons by itself: from code to code, and to the function's end. -/
namespace Go.Rn
open Go.RowKit
noncomputable section
def finV (P : Program) (call : Caller) (rs : List ResultVar) (k : Nat) (fr : AF) (s : AS) : Option AV :=
  match arow P call k fr s with
  | .ok (.leave fr1 j) s1 => (match finish P rs fr1 j s1 with | .ok x _ => some x | .bad => none)
  | _ => none
def finR (P : Program) (call : Caller) (rs : List ResultVar) (f nt : Nat) (K : List Item) (ops : Array Oper) (i k : Nat) (t : Tr AV) (s : AS) : Option AV :=
  match runOps P call nt ops i (ops.size - i) t s with
  | .ok t1 s1 => finV P call rs k ⟨f, t1, nt, K, [], none⟩ s1
  | .bad => none
def finD (P : Program) (call : Caller) (rs : List ResultVar) (f nt : Nat) (K : List Item) (ops : Array Oper) (acc : List Met) (i k : Nat) (t : Tr AV) (s : AS) : Option AV :=
  match runD P call nt ops i (ops.size - i) t s with
  | .ok (t1, ms) s1 => (match metOk (Region.before ops) (acc ++ ms) (acc ++ ms) with | true => finV P call rs k ⟨f, t1, nt, K, [], none⟩ s1 | false => none)
  | .bad => none
end
section
variable {P : Program} {B : Base} {nx0 : Nat} {s s1 : AS} {call : Caller} {t : Tr AV} {ops : Array Oper} {f nt i : Nat} {K : List Item} {G : AF → AS → Prop} {acc : List Met} {rs : List ResultVar} {v v' : AV}
theorem Chunk.jump (hG : Chunk P call G) (k : Nat) (l : List (Nat × AV)) (L : List (Nat × Option AObj)) (nx1 : Nat) {K1 : List Item} (H : G ⟨f, putL t l, nt, K1, [], none⟩ (updA s L nx1 [] [])) (h : arow P call k ⟨f, t, nt, K, [], none⟩ s = .ok (.go ⟨f, putL t l, nt, K1, [], none⟩) (updA s L nx1 [] []) := by as_aux_lemma => kernel_rfl) : G ⟨f, t, nt, K, [], none⟩ s := hG k _ _ _ _ h H
theorem GSim.fin (hmix : P.follows .mixedOrders = true) (hc : CallSim P B call) (hl : ∀ t a, Local (call t a)) {fr : AF} (k : Nat) (e : v' = v) (h : finV P call rs k fr s = some v' := by as_aux_lemma => kernel_rfl) : GSim P B nx0 (Fin P rs fun y _ => y = v) fr s := by
  intro h0
  unfold finV at h
  cases ha : arow P call k fr s with
  | bad => rw [ha] at h; cases h
  | ok st s1 =>
    rw [ha] at h
    cases st with
    | go fr1 => cases h
    | leave fr1 j =>
      simp only at h
      cases hf : finish P rs fr1 j s1 with
      | bad => rw [hf] at h; cases h
      | ok x s3 =>
        rw [hf] at h
        injection h with h
        exact Sim.leave hmix hc hl ha h0 ⟨x, s3, by rw [← finish_fr]; exact hf, h.trans e⟩
theorem RegG.fin (hmix : P.follows .mixedOrders = true) (hc : CallSim P B call) (hl : ∀ t a, Local (call t a)) (k : Nat) (e : v' = v) (h : finR P call rs f nt K ops i k t s = some v' := by as_aux_lemma => kernel_rfl) : RegG P call (GSim P B nx0 (Fin P rs fun y _ => y = v)) f nt K ops i t s := by
  unfold finR at h
  cases ha : runOps P call nt ops i (ops.size - i) t s with
  | bad => rw [ha] at h; cases h
  | ok t1 s1 =>
    rw [ha] at h
    exact ⟨t1, s1, ha, GSim.fin hmix hc hl k e h⟩
theorem RegD.fin (hmix : P.follows .mixedOrders = true) (hc : CallSim P B call) (hl : ∀ t a, Local (call t a)) (k : Nat) (e : v' = v) (h : finD P call rs f nt K ops acc i k t s = some v' := by as_aux_lemma => kernel_rfl) : RegD P call (GSim P B nx0 (Fin P rs fun y _ => y = v)) f nt K ops acc i t s := by
  unfold finD at h
  cases ha : runD P call nt ops i (ops.size - i) t s with
  | bad => rw [ha] at h; cases h
  | ok p s1 =>
    rw [ha] at h
    obtain ⟨t1, ms⟩ := p
    simp only at h
    cases hm : metOk (Region.before ops) (acc ++ ms) (acc ++ ms) with
    | false => rw [hm] at h; cases h
    | true =>
      rw [hm] at h
      exact ⟨t1, ms, s1, ha, hm, GSim.fin hmix hc hl k e h⟩
theorem RegG.go (n : Nat) (l : List (Nat × AV)) (H : RegG P call G f nt K ops (i + n) (putL t l) s) (h : (Nat.ble (i + n) ops.size, runOps P call nt ops i n t s) = (true, .ok (putL t l) s) := by as_aux_lemma => kernel_rfl) : RegG P call G f nt K ops i t s := RegG.manyT n l h H
theorem RegG.goP (n : Nat) (l : List (Nat × AV)) (L : List (Nat × Option AObj)) (nx1 : Nat) (rd wr : List Nat) (H : RegG P call G f nt K ops (i + n) (putL t l) (updA s L nx1 rd wr)) (h : (Nat.ble (i + n) ops.size, runOps P call nt ops i n t s) = (true, .ok (putL t l) (updA s L nx1 rd wr)) := by as_aux_lemma => kernel_rfl) : RegG P call G f nt K ops i t s := RegG.manyP n l L nx1 rd wr h H
theorem RegD.go (n : Nat) (l : List (Nat × AV)) (ms : List Met) (H : RegD P call G f nt K ops (acc ++ ms) (i + n) (putL t l) s) (h : (Nat.ble (i + n) ops.size, runD P call nt ops i n t s) = (true, .ok (putL t l, ms) s) := by as_aux_lemma => kernel_rfl) : RegD P call G f nt K ops acc i t s := RegD.manyT n l ms h H
theorem RegD.goP (n : Nat) (l : List (Nat × AV)) (L : List (Nat × Option AObj)) (nx1 : Nat) (rd wr : List Nat) (ms : List Met) (H : RegD P call G f nt K ops (acc ++ ms) (i + n) (putL t l) (updA s L nx1 rd wr)) (h : (Nat.ble (i + n) ops.size, runD P call nt ops i n t s) = (true, .ok (putL t l, ms) (updA s L nx1 rd wr)) := by as_aux_lemma => kernel_rfl) : RegD P call G f nt K ops acc i t s := RegD.manyP n l L nx1 rd wr ms h H
theorem RegG.end_ (H : G ⟨f, t, nt, K, [], none⟩ s) (h : Nat.ble ops.size i = true := by as_aux_lemma => kernel_rfl) : RegG P call G f nt K ops i t s := RegG.done h H
theorem RegD.end_ (H : G ⟨f, t, nt, K, [], none⟩ s) (h : (Nat.ble ops.size i && metOk (Region.before ops) acc acc) = true := by as_aux_lemma => kernel_rfl) : RegD P call G f nt K ops acc i t s := RegD.done h H
theorem Chunk.reg' (hG : Chunk P call G) (id : Nat) {c : Code} (H : RegG P call G f nt K (opsOf c) 0 t s) (hcode : c = .region id (opsOf c) false := by as_aux_lemma => kernel_rfl) : G ⟨f, t, nt, .code c :: K, [], none⟩ s := Chunk.reg hG hcode H
theorem Chunk.regD' (hG : Chunk P call G) (id : Nat) {c : Code} (H : RegD P call G f nt K (opsOf c) [] 0 t s) (hcode : c = .region id (opsOf c) true := by as_aux_lemma => kernel_rfl) : G ⟨f, t, nt, .code c :: K, [], none⟩ s := Chunk.regD hG hcode H
end
section
variable {P : Program} {s s1 : AS} {call : Caller} {t : Tr AV}
/-- A call of what a slot holds. -/
theorem op_callV {fo : Operand} {g : FuncId} {xs : Array Operand} {ts : Array TypeId} {args : List AV} {v : AV} (h0 : (opd t fo, opds (opd t) xs.toList) = (some (.func (.func g) [] []), some args)) (h : call (.fn g) args s = .ok v s1) :
    (opB P (.call ⟨.value fo, xs, ts⟩)).val call t s = .ok v s1 := by
  injection h0 with hf hx
  show kCall fo xs.toList call t s = _
  unfold kCall
  rw [hx, withO_some, hf, withO_some]
  show callV call (.func (.func g) [] []) args s = _
  have : callV call (.func (.func g) [] []) args = call (.fn g) args := by
    unfold callV
    simp
  rw [this]; exact h
end
noncomputable section
def cellsOk (r : R (List AV)) : Option (List AV) := match r with | .ok l _ => some l | .bad => none
def cellsS (s : AS) (r : R (List AV)) : AS := match r with | .ok _ s1 => s1 | .bad => s
end
theorem cells_ok {s : AS} {r : R (List AV)} {l : List AV} (h : cellsOk r = some l) : r = .ok l (cellsS s r) := by
  cases r with
  | bad => cases h
  | ok a s1 => injection h with h; subst h; rfl
theorem join2 (s a b : ByteArray) : (⟨(joinTexts s.data.toList [a.data.toList, b.data.toList]).toArray⟩ : ByteArray) = (a ++ s) ++ b := by
  apply ByteArray.ext; simp only [cat_data, joinTexts]; simp
theorem join3 (s a b c : ByteArray) : (⟨(joinTexts s.data.toList [a.data.toList, b.data.toList, c.data.toList]).toArray⟩ : ByteArray) = (((a ++ s) ++ b) ++ s) ++ c := by
  apply ByteArray.ext; simp only [cat_data, joinTexts]; simp
theorem join4 (s a b c d : ByteArray) : (⟨(joinTexts s.data.toList [a.data.toList, b.data.toList, c.data.toList, d.data.toList]).toArray⟩ : ByteArray) = (((((a ++ s) ++ b) ++ s) ++ c) ++ s) ++ d := by
  apply ByteArray.ext; simp only [cat_data, joinTexts]; simp
theorem len_toList (a : ByteArray) : a.data.toList.length = a.size := Array.length_toList
section
variable {P : Program} {F : Nat → Option (List AV)} {sp : Sp} {g n k : Nat} {ad : Option (Nat × Nat)} {cp : Cap} {s : AS} {l : List AV} {a b c d : ByteArray} {n1 n2 n3 n4 : Nat}
theorem join_says2 (h : sp g = some (fun _ args => joinStrs args)) (h0 : (Nat.ble k (capLow k cp), cellsOk (firstCells 1 k (.slice ad k cp) s), textsOf l) = (true, some l, some [a.data.toList, b.data.toList])) (ha : a.size ≤ n1) (hb : b.size ≤ n2) (hn : Nat.ble (n1 + n2 + k + 10) 1048576 = true) :
    arunI P sp F (n + 1) (.fn g) [.slice ad k cp, .str ⟨#[32]⟩] s = .ok (.str ((a ++ ⟨#[32]⟩) ++ b)) (cellsS s (firstCells 1 k (.slice ad k cp) s)) := by
  injection h0 with e1 h0
  injection h0 with e2 e3
  rw [← join2]
  refine join_says h (s1 := cellsS s (firstCells 1 k (.slice ad k cp) s)) (l := l) (by rw [e1, ← cells_ok e2, e3]) ?_
  have := ble_true.1 hn
  show (joinTexts [32] _).length + k ≤ _
  simp only [joinTexts, List.length_append, List.length_cons, List.length_nil, len_toList]; omega
theorem join_says3 (h : sp g = some (fun _ args => joinStrs args)) (h0 : (Nat.ble k (capLow k cp), cellsOk (firstCells 1 k (.slice ad k cp) s), textsOf l) = (true, some l, some [a.data.toList, b.data.toList, c.data.toList])) (ha : a.size ≤ n1) (hb : b.size ≤ n2) (hcc : c.size ≤ n3) (hn : Nat.ble (n1 + n2 + n3 + k + 10) 1048576 = true) :
    arunI P sp F (n + 1) (.fn g) [.slice ad k cp, .str ⟨#[32]⟩] s = .ok (.str ((((a ++ ⟨#[32]⟩) ++ b) ++ ⟨#[32]⟩) ++ c)) (cellsS s (firstCells 1 k (.slice ad k cp) s)) := by
  injection h0 with e1 h0
  injection h0 with e2 e3
  rw [← join3]
  refine join_says h (s1 := cellsS s (firstCells 1 k (.slice ad k cp) s)) (l := l) (by rw [e1, ← cells_ok e2, e3]) ?_
  have := ble_true.1 hn
  show (joinTexts [32] _).length + k ≤ _
  simp only [joinTexts, List.length_append, List.length_cons, List.length_nil, len_toList]; omega
theorem join_says4 (h : sp g = some (fun _ args => joinStrs args)) (h0 : (Nat.ble k (capLow k cp), cellsOk (firstCells 1 k (.slice ad k cp) s), textsOf l) = (true, some l, some [a.data.toList, b.data.toList, c.data.toList, d.data.toList])) (ha : a.size ≤ n1) (hb : b.size ≤ n2) (hcc : c.size ≤ n3) (hd : d.size ≤ n4) (hn : Nat.ble (n1 + n2 + n3 + n4 + k + 10) 1048576 = true) :
    arunI P sp F (n + 1) (.fn g) [.slice ad k cp, .str ⟨#[32]⟩] s = .ok (.str ((((((a ++ ⟨#[32]⟩) ++ b) ++ ⟨#[32]⟩) ++ c) ++ ⟨#[32]⟩) ++ d)) (cellsS s (firstCells 1 k (.slice ad k cp) s)) := by
  injection h0 with e1 h0
  injection h0 with e2 e3
  rw [← join4]
  refine join_says h (s1 := cellsS s (firstCells 1 k (.slice ad k cp) s)) (l := l) (by rw [e1, ← cells_ok e2, e3]) ?_
  have := ble_true.1 hn
  show (joinTexts [32] _).length + k ≤ _
  simp only [joinTexts, List.length_append, List.length_cons, List.length_nil, len_toList]; omega
end
theorem dm10 (n : Int) : n = 10 * Int.tdiv n 10 + Int.tmod n 10 ∧ -9 ≤ Int.tmod n 10 ∧ Int.tmod n 10 ≤ 9 ∧ (0 ≤ n → 0 ≤ Int.tmod n 10 ∧ 0 ≤ Int.tdiv n 10) ∧ (n ≤ 0 → Int.tmod n 10 ≤ 0 ∧ Int.tdiv n 10 ≤ 0) := by
  have h0 : 10 * Int.tdiv n 10 + Int.tmod n 10 = n := Int.mul_tdiv_add_tmod n 10
  by_cases q : 0 ≤ n
  · have h1 := Int.tmod_nonneg 10 q
    have h2 := Int.tmod_lt_of_pos n (show (0 : Int) < 10 by decide)
    have h3 := Int.tdiv_nonneg q (show (0 : Int) ≤ 10 by decide)
    refine ⟨h0.symm, by omega, by omega, fun _ => ⟨h1, h3⟩, fun _ => by omega⟩
  · have e1 : n.tmod 10 = -((-n).tmod 10) := by rw [Int.neg_tmod]; omega
    have h1 := Int.tmod_nonneg 10 (show 0 ≤ -n by omega)
    have h2 := Int.tmod_lt_of_pos (-n) (show (0 : Int) < 10 by decide)
    refine ⟨h0.symm, by omega, by omega, fun _ => by omega, fun _ => by omega⟩
end Go.Rn
namespace Go.Rn
open Go.RowKit
noncomputable section
def evalF (P : Program) (call : Caller) (rs : List ResultVar) (k : Nat) (fr : AF) (s : AS) : R AV :=
  match arow P call k fr s with
  | .ok (.leave fr1 j) s1 => finish P rs fr1 j s1
  | _ => .bad
def resS (s : AS) (r : R AV) : AS := match r with | .ok _ s1 => s1 | .bad => s
end
/-- A call of a function by its text, as far as the kernel goes. -/
theorem call_text {P : Program} {F : Nat → Option (List AV)} {sp : Sp} {g n : Nat} {fn : Func} {body : Code} {args : List AV} {s : AS} {v : AV} (k : Nat) (hfn : P.funcs[g]? = some fn) (hbody : fn.body = some body)
    (h0 : ((fn.name == "runtime.NumGoroutine"), (sp g).isNone, Nat.ble (max fn.ntmps args.length) top) = (false, true, true)) (h : valOf (evalF P (arunI P sp F n) fn.results.toList k ⟨g, fillArgs args, max fn.ntmps args.length, [.code body], [], none⟩ s) = some v) :
    arunI P sp F (n + 1) (.fn g) args s = .ok v (resS s (evalF P (arunI P sp F n) fn.results.toList k ⟨g, fillArgs args, max fn.ntmps args.length, [.code body], [], none⟩ s)) := by
  injection h0 with hname h0
  injection h0 with hs hm
  have hs' : sp g = none := Option.isNone_iff_eq_none.1 hs
  show fnI P sp g (arunI P sp F n) args s = _
  rw [fnI_text hs' hfn hbody hname]
  unfold kBodyI
  rw [hm, withB_true]
  cases ha : arow P (arunI P sp F n) k ⟨g, fillArgs args, max fn.ntmps args.length, [.code body], [], none⟩ s with
  | bad => unfold evalF at h; rw [ha] at h; cases h
  | ok st s2 =>
    cases st with
    | go fr => unfold evalF at h; rw [ha] at h; cases h
    | leave fr j =>
      rw [M.bind_ok (leaveM_ok ha)]
      have e : evalF P (arunI P sp F n) fn.results.toList k ⟨g, fillArgs args, max fn.ntmps args.length, [.code body], [], none⟩ s = finish P fn.results.toList fr j s2 := by unfold evalF; rw [ha]
      rw [e] at h ⊢
      show finish P fn.results.toList fr j s2 = _
      cases hf : finish P fn.results.toList fr j s2 with
      | bad => rw [hf] at h; cases h
      | ok x s3 =>
        rw [hf] at h
        injection h with h
        subst h
        rfl
end Go.Rn
namespace Go.Rn
theorem itoaB_both {n : Int} (h : n.tdiv 10 ≠ 0) (h0 : 0 ≤ n.tmod 10) : itoaB (n.tdiv 10) ++ ⟨#[UInt8.ofNat (Int.toNat (48 + n.tmod 10))]⟩ = itoaB n := by
  have hd := dm10 n
  by_cases q : 10 ≤ n
  · exact itoaB_step q
  · have h2 : n ≤ -10 := by omega
    have h3 : n.tmod 10 = 0 := by omega
    have h1 := itoaB_nstep h2
    rw [h3] at h1 ⊢
    exact h1
end Go.Rn

/- What is to be shown of a function with unknown data, reckoned by the kernel: a plan tells where the ways part. -/
namespace Go.Rn
open Go.RowKit
noncomputable section
inductive Pl where
  | no
  | st (k : Nat) (p : Pl)
  | rg (p : Pl)
  | go (n : Nat) (p : Pl)
  | en (p : Pl)
  | fk (p q : Pl)
  | vl (v : AV) (p : Pl)
  | kn (v : AV) (p : Pl)
  | kp (c : Prop) (d : Decidable c) (p q : Pl)
  | ca (n m : Nat) (p : Pl)
  | ef (p q : Pl)
  | jn (v : ByteArray) (p : Pl)
  | ss (p : Pl)
  | il (p : Pl)
  | rt (k : Nat) (p : Pl)
  | cut (p : Pl)
inductive Ctl where
  | fr (f nt : Nat) (K : List Item) (t : Tr AV) (s : AS)
  | rg (f nt : Nat) (K : List Item) (ops : Array Oper) (D : Option (List Met)) (i : Nat) (t : Tr AV) (s : AS)
/-- A program; what is known of functions; where that may be used. -/
structure Env where
  P : Program
  sp : Sp
  F : Nat → Option (List AV)
  tab : FuncId → Option (List AV → Option AV)
  jn : FuncId → Bool
  ck : AS → Bool
  cs : AS → AS
structure Env.Ok (E : Env) : Prop where
  tab : ∀ g val args v s n, E.tab g = some val → val args = some v → E.ck s = true → arunI E.P E.sp E.F (n + 1) (.fn g) args s = .ok v (E.cs s)
  jn : ∀ g, E.jn g = true → E.sp g = some (fun _ args => joinStrs args)
def wo {α : Type} (o : Option α) (k : α → Prop) : Prop := @Option.rec α (fun _ => Prop) False k o
def wr {α : Type} (r : R α) (k : α → AS → Prop) : Prop := @R.rec α (fun _ => Prop) False k r
def wb (b : Bool) (k : Prop) : Prop := @Bool.rec (fun _ => Prop) False k b
def Kt := AV → AS → Pl → Prop
def CutT := AF → AS → Pl → Prop
def Rec := Nat → Ctl → Pl → List ResultVar → Kt → CutT → Prop
def binParts (op : Op) : Option (BinOp × TypeId × Operand × Operand × TypeId) := match op with
  | .binOp o ty x y yt => some (o, ty, x, y, yt)
  | _ => none
def callParts (op : Op) : Option (Operand × Array Operand × Array TypeId) := match op with
  | .call ⟨.value fo, xs, ts⟩ => some (fo, xs, ts)
  | _ => none
def asFn (v : AV) : Option FuncId := match v with
  | .func (.func g) [] [] => some g
  | _ => none
def asInt (v : AV) : Option (IntKind × Int) := match v with
  | .int k n => some (k, n)
  | _ => none
def asStr (v : AV) : Option ByteArray := match v with
  | .str b => some b
  | _ => none
def asAgg (v : AV) : Option (List AV) := match v with
  | .agg l => some l
  | _ => none
def asSlice (v : AV) : Option (Option (Nat × Nat) × Nat × Cap) := match v with
  | .slice a n c => some (a, n, c)
  | _ => none
def goStp (x : Stp) : Option (Nat × Nat × List Item × Tr AV) := match x with
  | .go ⟨f, t, nt, K, [], none⟩ => some (f, nt, K, t)
  | _ => none
def lvStp (x : Stp) : Option (AF × Option Code) := match x with
  | .leave fr j => some (fr, j)
  | _ => none
def headReg (K : List Item) : Option (Array Oper × Bool × List Item) := match K with
  | .code (.region _ ops d) :: K => some (ops, d, K)
  | _ => none
def one2 (l : List AV) : Option (AV × AV) := match l with
  | [x, y] => some (x, y)
  | _ => none
def cmpP (o : BinOp) (a b : Int) : Option Prop := match o with
  | .lss => some (a < b)
  | .leq => some (a ≤ b)
  | .gtr => some (a > b)
  | .geq => some (a ≥ b)
  | .eql => some (a = b)
  | .neq => some (a ≠ b)
  | _ => none
def befS (D : Option (List Met)) (s : AS) : AS := match D with
  | none => s
  | some _ => aloneS s
def aftS (D : Option (List Met)) (s s1 : AS) : AS := match D with
  | none => s1
  | some _ => backS s s1
def accS (D : Option (List Met)) (i : Nat) (s s1 : AS) : Option (List Met) := match D with
  | none => none
  | some acc => some (acc ++ [metS i s s1])
def drawS (d : Bool) : Option (List Met) := match d with
  | true => some []
  | false => none
def runX (P : Program) (call : Caller) (nt : Nat) (ops : Array Oper) (D : Option (List Met)) (i n : Nat) (t : Tr AV) : M (Tr AV × Option (List Met)) := match D with
  | none => fun s => match runOps P call nt ops i n t s with
    | .ok t s => .ok (t, none) s
    | .bad => .bad
  | some acc => fun s => match runD P call nt ops i n t s with
    | .ok x s => .ok (x.1, some (acc ++ x.2)) s
    | .bad => .bad
def overX (ops : Array Oper) (D : Option (List Met)) : Bool := match D with
  | none => true
  | some acc => metOk (Region.before ops) acc acc
def predO (n : Nat) : Option Nat := match n with
  | 0 => none
  | n + 1 => some n
/-- What a call is of: the function, what is handed to it. -/
def callAt (t : Tr AV) (op : Op) : Option (FuncId × List AV) := match callParts op with
  | none => none
  | some x => match opd t x.1 with
    | none => none
    | some fv => match asFn fv with
      | none => none
      | some g => match opds (opd t) x.2.1.toList with
        | none => none
        | some args => some (g, args)
def wop (E : Env) (ih : Rec) (n : Nat) (nx : AV → AS → Pl → Prop) (s : AS) (t : Tr AV) (op : Op) (p : Pl) : Prop := match p with
  | .fk p q => wo (binParts op) fun x => wo (opd t x.2.2.1) fun a => wo (opd t x.2.2.2.1) fun b => wo (asInt a) fun a => wo (asInt b) fun b => wb (decide (a.1 = b.1)) (wo (cmpP x.1 a.2 b.2) fun c => (c → nx (.bool true) s p) ∧ (¬ c → nx (.bool false) s q))
  | .vl v p => wr ((opB E.P op).val (arunI E.P E.sp E.F n) t s) fun v' s1 => v' = v ∧ nx v s1 p
  | .kn v p => wo (callAt t op) fun x => wo (predO n) fun _ => wo (E.tab x.1) fun val => wb (E.ck s) (val x.2 = some v ∧ nx v (E.cs s) p)
  | .kp c d p q => wo (callAt t op) fun x => wo (predO n) fun _ => wo (E.tab x.1) fun val => wb (E.ck s) (val x.2 = some (.bool (@decide c d)) ∧ (c → nx (.bool true) (E.cs s) p) ∧ (¬ c → nx (.bool false) (E.cs s) q))
  | .ca k m p => wo (binParts op) fun x => wb (match x.1 with | .add => true | _ => false) (wo (opd t x.2.2.1) fun a => wo (opd t x.2.2.2.1) fun b => wo (asStr a) fun a => wo (asStr b) fun b => wb (Nat.ble (k + m) room) (a.size ≤ k ∧ b.size ≤ m ∧ nx (.str (a ++ b)) s p))
  | .ef p q => wo (binParts op) fun x => wo (opd t x.2.2.1) fun a => wo (opd t x.2.2.2.1) fun b => wo (asAgg a) fun xs => wo (asAgg b) fun ys => wb (guardOk E.P x.1 x.2.1 x.2.2.1 x.2.2.2.1 (.agg xs) (.agg ys)) (wb (isStruct E.P x.2.1) (wb (!E.P.stoodInHeld x.2.1) (wo (pairsOf E.P xs ys (fieldsOf E.P x.2.1)) fun l => match x.1 with
    | .eql => (allEq l = true → nx (.bool true) s p) ∧ (allEq l = false → nx (.bool false) s q)
    | .neq => (allEq l = true → nx (.bool false) s p) ∧ (allEq l = false → nx (.bool true) s q)
    | _ => False)))
  | .jn v p => wo (callAt t op) fun x => wo (predO n) fun _ => wb (E.jn x.1) (wo (one2 x.2) fun y => wo (asSlice y.1) fun a => wo (asStr y.2) fun sep => wb (Nat.ble a.2.1 (capLow a.2.1 a.2.2)) (wr (firstCells 1 a.2.1 (.slice a.1 a.2.1 a.2.2) s) fun l s1 => wo (textsOf l) fun ts => (⟨(joinTexts sep.data.toList ts).toArray⟩ : ByteArray) = v ∧ (joinTexts sep.data.toList ts).length + a.2.1 ≤ 1048576 ∧ nx (.str v) s1 p))
  | .ss p => wo (binParts op) fun x => wb (match x.1 with | .eql => true | _ => false) (wo (opd t x.2.2.1) fun a => wo (opd t x.2.2.2.1) fun b => wo (asStr a) fun a => wo (asStr b) fun b => a = b ∧ nx (.bool true) s p)
  | .il p => wo (callAt t op) fun x => wo (predO n) fun m => match E.sp x.1 with
    | some _ => False
    | none => wo (E.P.funcs[x.1]?) fun fn => wo fn.body fun body => wb (!(fn.name == "runtime.NumGoroutine")) (wb (Nat.ble (max fn.ntmps x.2.length) top) (ih m (.fr x.1 (max fn.ntmps x.2.length) [.code body] (fillArgs x.2) s) p fn.results.toList nx (fun _ _ _ => False)))
  | _ => False
def wpB (E : Env) (ih : Rec) (n : Nat) (c : Ctl) (p : Pl) (rs : List ResultVar) (k : Kt) (C : CutT) : Prop := match c with
  | .fr f nt K t s => match p with
    | .st j p => wr (arow E.P (arunI E.P E.sp E.F n) j ⟨f, t, nt, K, [], none⟩ s) fun x s1 => wo (goStp x) fun y => ih n (.fr y.1 y.2.1 y.2.2.1 y.2.2.2 s1) p rs k C
    | .rg p => wo (headReg K) fun x => ih n (.rg f nt x.2.2 x.1 (drawS x.2.1) 0 t s) p rs k C
    | .rt j p => wr (arow E.P (arunI E.P E.sp E.F n) j ⟨f, t, nt, K, [], none⟩ s) fun x s1 => wo (lvStp x) fun y => wr (finish E.P rs y.1 y.2 s1) fun v s2 => k v s2 p
    | .cut p => C ⟨f, t, nt, K, [], none⟩ s p
    | _ => False
  | .rg f nt K ops D i t s => match p with
    | .go m p => wb (Nat.ble (i + m) ops.size) (wr (runX E.P (arunI E.P E.sp E.F n) nt ops D i m t s) fun x s1 => ih n (.rg f nt K ops x.2 (i + m) x.1 s1) p rs k C)
    | .en p => wb (Nat.ble ops.size i) (wb (overX ops D) (ih n (.fr f nt K t s) p rs k C))
    | p => wo (opIs ops i) fun o => wb (wants ops o.2.2 t) (wop E ih n (fun v s1 p => wo (aput nt t o.2.1 v) fun t1 => ih n (.rg f nt K ops (accS D i (s) s1) (i + 1) t1 (aftS D s s1)) p rs k C) (befS D s) t o.1 p)
def wp (E : Env) (fuel : Nat) : Rec := @Nat.rec (fun _ => Rec) (fun _ _ _ _ _ _ => False) (fun _ ih => wpB E ih) fuel
def RegX (P : Program) (call : Caller) (G : AF → AS → Prop) (f nt : Nat) (K : List Item) (ops : Array Oper) (D : Option (List Met)) (i : Nat) (t : Tr AV) (s : AS) : Prop := match D with
  | none => RegG P call G f nt K ops i t s
  | some acc => RegD P call G f nt K ops acc i t s
def Gof (P : Program) (call : Caller) (G : AF → AS → Prop) (c : Ctl) : Prop := match c with
  | .fr f nt K t s => G ⟨f, t, nt, K, [], none⟩ s
  | .rg f nt K ops D i t s => RegX P call G f nt K ops D i t s
end
theorem wo_inv {α : Type} {o : Option α} {k : α → Prop} (h : wo o k) : ∃ x, o = some x ∧ k x := by
  cases o with
  | none => exact h.elim
  | some x => exact ⟨x, rfl, h⟩
theorem wr_inv {α : Type} {r : R α} {k : α → AS → Prop} (h : wr r k) : ∃ x s, r = .ok x s ∧ k x s := by
  cases r with
  | bad => exact h.elim
  | ok x s => exact ⟨x, s, rfl, h⟩
theorem wb_inv {b : Bool} {k : Prop} (h : wb b k) : b = true ∧ k := by
  cases b with
  | false => exact h.elim
  | true => exact ⟨rfl, h⟩
theorem asFn_inv {v : AV} {g : FuncId} (h : asFn v = some g) : v = .func (.func g) [] [] := by
  unfold asFn at h; split at h
  · injection h with h; subst h; rfl
  · cases h
theorem asInt_inv {v : AV} {x : IntKind × Int} (h : asInt v = some x) : v = .int x.1 x.2 := by
  unfold asInt at h; split at h
  · injection h with h; subst h; rfl
  · cases h
theorem asStr_inv {v : AV} {x : ByteArray} (h : asStr v = some x) : v = .str x := by
  unfold asStr at h; split at h
  · injection h with h; subst h; rfl
  · cases h
theorem asAgg_inv {v : AV} {x : List AV} (h : asAgg v = some x) : v = .agg x := by
  unfold asAgg at h; split at h
  · injection h with h; subst h; rfl
  · cases h
theorem asSlice_inv {v : AV} {x : Option (Nat × Nat) × Nat × Cap} (h : asSlice v = some x) : v = .slice x.1 x.2.1 x.2.2 := by
  unfold asSlice at h; split at h
  · injection h with h; subst h; rfl
  · cases h
theorem one2_inv {l : List AV} {x : AV × AV} (h : one2 l = some x) : l = [x.1, x.2] := by
  unfold one2 at h; split at h
  · injection h with h; subst h; rfl
  · cases h
theorem goStp_inv {x : Stp} {y : Nat × Nat × List Item × Tr AV} (h : goStp x = some y) : x = .go ⟨y.1, y.2.2.2, y.2.1, y.2.2.1, [], none⟩ := by
  unfold goStp at h; split at h
  · injection h with h; subst h; rfl
  · cases h
theorem lvStp_inv {x : Stp} {y : AF × Option Code} (h : lvStp x = some y) : x = .leave y.1 y.2 := by
  unfold lvStp at h; split at h
  · injection h with h; subst h; rfl
  · cases h
theorem headReg_inv {K : List Item} {y : Array Oper × Bool × List Item} (h : headReg K = some y) : ∃ id, K = .code (.region id y.1 y.2.1) :: y.2.2 := by
  unfold headReg at h; split at h
  · injection h with h; subst h; exact ⟨_, rfl⟩
  · cases h
theorem predO_inv {n m : Nat} (h : predO n = some m) : n = m + 1 := by
  cases n with
  | zero => cases h
  | succ n => injection h with h; subst h; rfl
theorem binParts_inv {op : Op} {x : BinOp × TypeId × Operand × Operand × TypeId} (h : binParts op = some x) : op = .binOp x.1 x.2.1 x.2.2.1 x.2.2.2.1 x.2.2.2.2 := by
  unfold binParts at h; split at h
  · injection h with h; subst h; rfl
  · cases h
theorem callAt_inv {t : Tr AV} {op : Op} {x : FuncId × List AV} (h : callAt t op = some x) : ∃ fo xs ts, op = .call ⟨.value fo, xs, ts⟩ ∧ opd t fo = some (.func (.func x.1) [] []) ∧ opds (opd t) xs.toList = some x.2 := by
  unfold callAt at h
  split at h
  · cases h
  · rename_i y hy
    have hop : op = .call ⟨.value y.1, y.2.1, y.2.2⟩ := by
      unfold callParts at hy; split at hy
      · injection hy with hy; subst hy; rfl
      · cases hy
    split at h
    · cases h
    · rename_i fv hf
      split at h
      · cases h
      · rename_i g hg
        split at h
        · cases h
        · rename_i args ha
          injection h with h; subst h
          exact ⟨_, _, _, hop, by rw [hf, asFn_inv hg], ha⟩
section
variable {P : Program} {s s1 : AS} {call : Caller} {t t1 : Tr AV} {ops : Array Oper} {f nt i : Nat} {K : List Item} {G : AF → AS → Prop} {D : Option (List Met)}
theorem cmpP_ok {o : BinOp} {a b : Int} {c : Prop} (h : cmpP o a b = some c) : ∃ r, cmpB o a b = some r ∧ (r = true ↔ c) := by
  unfold cmpP at h
  split at h <;> first | (injection h with h; subst h) | cases h
  · exact ⟨_, rfl, by rw [decide_eq_true_iff]⟩
  · exact ⟨_, rfl, by rw [decide_eq_true_iff]⟩
  · exact ⟨_, rfl, by rw [decide_eq_true_iff]⟩
  · exact ⟨_, rfl, by rw [decide_eq_true_iff]⟩
  · exact ⟨_, rfl, by simp⟩
  · exact ⟨_, rfl, by simp⟩
theorem RegX.op {op : Op} {d : Option Tmp} {g : Option (Nat × Bool)} {v : AV} (ho : opIs ops i = some (op, d, g)) (hw : wants ops g t = true) (h : (opB P op).val call t (befS D s) = .ok v s1) (hp : aput nt t d v = some t1) (H : RegX P call G f nt K ops (accS D i s s1) (i + 1) t1 (aftS D s s1)) : RegX P call G f nt K ops D i t s := by
  cases D with
  | none => exact RegG.step (opIs_lt ho) (one_of ho hw h hp) H
  | some acc => exact RegD.step (opIs_lt ho) (oneD_of ho hw h hp) H
theorem RegX.go {n : Nat} {x : Tr AV × Option (List Met)} (hn : Nat.ble (i + n) ops.size = true) (h : runX P call nt ops D i n t s = .ok x s1) (H : RegX P call G f nt K ops x.2 (i + n) x.1 s1) : RegX P call G f nt K ops D i t s := by
  have hle := ble_true.1 hn
  unfold runX at h
  cases D with
  | none =>
    simp only at h
    split at h
    · rename_i t2 s2 e
      injection h with h1 h2; subst h1; subst h2
      obtain ⟨t3, s3, q1, q2⟩ := H
      refine ⟨t3, s3, ?_, q2⟩
      rw [show ops.size - i = n + (ops.size - (i + n)) by omega]
      exact runOps_add e q1
    · cases h
  | some acc =>
    simp only at h
    split at h
    · rename_i y s2 e
      injection h with h1 h2; subst h1; subst h2
      obtain ⟨t3, ms, s3, q1, q2, q3⟩ := H
      refine ⟨t3, _, s3, ?_, by rw [← List.append_assoc]; exact q2, q3⟩
      rw [show ops.size - i = n + (ops.size - (i + n)) by omega]
      exact runD_add rfl (by omega) e q1
    · cases h
theorem RegX.done (h : Nat.ble ops.size i = true) (ho : overX ops D = true) (H : G ⟨f, t, nt, K, [], none⟩ s) : RegX P call G f nt K ops D i t s := by
  cases D with
  | none => exact RegG.done h H
  | some acc => exact RegD.done (and_true.2 ⟨h, ho⟩) H
theorem RegX.into (hG : Chunk P call G) {id : Nat} {d : Bool} (H : RegX P call G f nt K ops (drawS d) 0 t s) : G ⟨f, t, nt, .code (.region id ops d) :: K, [], none⟩ s := by
  cases d with
  | false => exact Chunk.reg hG (c := .region id ops false) rfl H
  | true => exact Chunk.regD hG (c := .region id ops true) rfl H
theorem callAt_ok {op : Op} {x : FuncId × List AV} {v : AV} (h : callAt t op = some x) (hv : call (.fn x.1) x.2 s = .ok v s1) : (opB P op).val call t s = .ok v s1 := by
  obtain ⟨fo, xs, ts, rfl, h1, h2⟩ := callAt_inv h
  exact op_callV (by rw [h1, h2]) hv
end
theorem two_ways {o : Option AV} {c : Prop} {d : Decidable c} {A B X : Prop} (h : o = some (.bool (@decide c d))) (hy : c → A) (hno : ¬ c → B) (ha : o = some (.bool true) → A → X) (hb : o = some (.bool false) → B → X) : X := by
  by_cases q : c
  · rw [decide_eq_true q] at h; exact ha h (hy q)
  · rw [decide_eq_false q] at h; exact hb h (hno q)
theorem wp_sound {E : Env} (hE : E.Ok) : ∀ (fuel n : Nat) (c : Ctl) (p : Pl) (rs : List ResultVar) (k : Kt) (C : CutT) (G : AF → AS → Prop), Chunk E.P (arunI E.P E.sp E.F n) G →
    (∀ fr s j fr1 jm s1 x s2 p, arow E.P (arunI E.P E.sp E.F n) j fr s = .ok (.leave fr1 jm) s1 → finish E.P rs fr1 jm s1 = .ok x s2 → k x s2 p → G fr s) → (∀ fr s p, C fr s p → G fr s) → wp E fuel n c p rs k C → Gof E.P (arunI E.P E.sp E.F n) G c
  | 0, n, c, p, rs, k, C, G, hG, hk, hC, h => h.elim
  | fuel + 1, n, c, p, rs, k, C, G, hG, hk, hC, h => by
    have ih := wp_sound hE fuel
    have h : wpB E (wp E fuel) n c p rs k C := h
    unfold wpB at h
    cases c with
    | fr f nt K t s =>
      simp only at h
      split at h
      · obtain ⟨x, s1, h1, h⟩ := wr_inv h
        obtain ⟨y, h2, h⟩ := wo_inv h
        rw [goStp_inv h2] at h1
        exact hG _ _ _ _ _ h1 (ih n _ _ rs k C G hG hk hC h)
      · obtain ⟨x, h1, h⟩ := wo_inv h
        obtain ⟨id, rfl⟩ := headReg_inv h1
        exact RegX.into hG (ih n _ _ rs k C G hG hk hC h)
      · obtain ⟨x, s1, h1, h⟩ := wr_inv h
        obtain ⟨y, h2, h⟩ := wo_inv h
        obtain ⟨v, s2, h3, h⟩ := wr_inv h
        rw [lvStp_inv h2] at h1
        exact hk _ _ _ _ _ _ _ _ _ h1 h3 h
      · exact hC _ _ _ h
      · exact h.elim
    | rg f nt K ops D i t s =>
      simp only at h
      split at h
      · obtain ⟨h1, h⟩ := wb_inv h
        obtain ⟨x, s1, h2, h⟩ := wr_inv h
        exact RegX.go h1 h2 (ih n _ _ rs k C G hG hk hC h)
      · obtain ⟨h1, h⟩ := wb_inv h
        obtain ⟨h2, h⟩ := wb_inv h
        exact RegX.done h1 h2 (ih n _ _ rs k C G hG hk hC h)
      · obtain ⟨o, ho, h⟩ := wo_inv h
        obtain ⟨hw, h⟩ := wb_inv h
        obtain ⟨op, d, g⟩ := o
        simp only at hw h
        -- what comes behind
        have hn : ∀ v s1 p, (opB E.P op).val (arunI E.P E.sp E.F n) t (befS D s) = .ok v s1 → (wo (aput nt t d v) fun t1 => wp E fuel n (.rg f nt K ops (accS D i s s1) (i + 1) t1 (aftS D s s1)) p rs k C) → RegX E.P (arunI E.P E.sp E.F n) G f nt K ops D i t s := by
          intro v s1 p hv h
          obtain ⟨t1, hp, h⟩ := wo_inv h
          exact RegX.op ho hw hv hp (ih n _ _ rs k C G hG hk hC h)
        generalize hnx : (fun (v : AV) (s1 : AS) (p : Pl) => wo (aput nt t d v) fun t1 => wp E fuel n (.rg f nt K ops (accS D i s s1) (i + 1) t1 (aftS D s s1)) p rs k C) = nx at h
        have hn : ∀ v s1 p, (opB E.P op).val (arunI E.P E.sp E.F n) t (befS D s) = .ok v s1 → nx v s1 p → RegX E.P (arunI E.P E.sp E.F n) G f nt K ops D i t s := by
          intro v s1 p hv h
          rw [← hnx] at h
          exact hn v s1 p hv h
        show RegX E.P (arunI E.P E.sp E.F n) G f nt K ops D i t s
        unfold wop at h
        split at h
        · obtain ⟨x, h1, h⟩ := wo_inv h
          obtain ⟨a, h2, h⟩ := wo_inv h
          obtain ⟨b, h3, h⟩ := wo_inv h
          obtain ⟨a1, h4, h⟩ := wo_inv h
          obtain ⟨b1, h5, h⟩ := wo_inv h
          obtain ⟨h6, h⟩ := wb_inv h
          obtain ⟨c, h7, hy, hno⟩ := wo_inv h
          have h6 := of_decide_eq_true h6
          have e := binParts_inv h1
          rw [asInt_inv h4] at h2
          rw [asInt_inv h5, ← h6] at h3
          obtain ⟨r, hr, hrc⟩ := cmpP_ok h7
          have hv : (opB E.P op).val (arunI E.P E.sp E.F n) t (befS D s) = .ok (.bool r) (befS D s) := by rw [e]; exact op_cmp h2 h3 hr
          cases r with
          | true => exact hn _ _ _ hv (hy (hrc.1 rfl))
          | false => exact hn _ _ _ hv (hno fun q => by have := hrc.2 q; cases this)
        · obtain ⟨v', s1, h1, rfl, h⟩ := wr_inv h
          exact hn _ _ _ h1 h
        · obtain ⟨x, h1, h⟩ := wo_inv h
          obtain ⟨m, hm, h⟩ := wo_inv h
          obtain ⟨val, h2, h⟩ := wo_inv h
          obtain ⟨h3, h4, h⟩ := wb_inv h
          have e := predO_inv hm
          exact hn _ _ _ (by rw [e]; exact callAt_ok h1 (hE.tab _ _ _ _ _ _ h2 h4 h3)) h
        · obtain ⟨x, h1, h⟩ := wo_inv h
          obtain ⟨m, hm, h⟩ := wo_inv h
          obtain ⟨val, h2, h⟩ := wo_inv h
          obtain ⟨h3, h4, hy, hno⟩ := wb_inv h
          have e := predO_inv hm
          have hv := fun b (h4 : val x.2 = some (.bool b)) => (show (opB E.P op).val (arunI E.P E.sp E.F n) t (befS D s) = .ok (.bool b) (E.cs (befS D s)) by rw [e]; exact callAt_ok (P := E.P) h1 (hE.tab _ _ _ _ _ m h2 h4 h3))
          exact two_ways h4 hy hno (fun q h => hn _ _ _ (hv _ q) h) (fun q h => hn _ _ _ (hv _ q) h)
        · obtain ⟨x, h1, h⟩ := wo_inv h
          obtain ⟨h6, h⟩ := wb_inv h
          obtain ⟨a, h2, h⟩ := wo_inv h
          obtain ⟨b, h3, h⟩ := wo_inv h
          obtain ⟨a1, h4, h⟩ := wo_inv h
          obtain ⟨b1, h5, h⟩ := wo_inv h
          obtain ⟨h7, h8, h9, h⟩ := wb_inv h
          have e := binParts_inv h1
          have ea : x.1 = .add := by revert h6; split <;> intro h6 <;> first | assumption | cases h6
          rw [asStr_inv h4] at h2
          rw [asStr_inv h5] at h3
          refine hn _ _ _ ?_ h
          rw [e, ea]
          exact op_strAdd (by rw [h2, h3]) h8 h9 h7
        · obtain ⟨x, h1, h⟩ := wo_inv h
          obtain ⟨a, h2, h⟩ := wo_inv h
          obtain ⟨b, h3, h⟩ := wo_inv h
          obtain ⟨xs, h4, h⟩ := wo_inv h
          obtain ⟨ys, h5, h⟩ := wo_inv h
          obtain ⟨h6, h⟩ := wb_inv h
          obtain ⟨h7, h⟩ := wb_inv h
          obtain ⟨h8, h⟩ := wb_inv h
          obtain ⟨l, h9, h⟩ := wo_inv h
          have e := binParts_inv h1
          rw [asAgg_inv h4] at h2
          rw [asAgg_inv h5] at h3
          have h8 : E.P.stoodInHeld x.2.1 = false := by simpa using h8
          split at h
          · rename_i eo
            rw [eo] at h6 e
            obtain ⟨hy, hno⟩ := h
            have hv : (opB E.P op).val (arunI E.P E.sp E.F n) t (befS D s) = .ok (.bool (allEq l)) (befS D s) := by rw [e]; exact op_eqlT h2 h3 h6 h7 h8 h9 rfl
            cases q : allEq l with
            | true => rw [q] at hv; exact hn _ _ _ hv (hy q)
            | false => rw [q] at hv; exact hn _ _ _ hv (hno q)
          · rename_i eo
            rw [eo] at h6 e
            obtain ⟨hy, hno⟩ := h
            have hv : (opB E.P op).val (arunI E.P E.sp E.F n) t (befS D s) = .ok (.bool (!allEq l)) (befS D s) := by rw [e]; exact op_neqT h2 h3 h6 h7 h8 h9 rfl
            cases q : allEq l with
            | true => rw [q] at hv; exact hn _ _ _ hv (hy q)
            | false => rw [q] at hv; exact hn _ _ _ hv (hno q)
          · exact h.elim
        · obtain ⟨x, h1, h⟩ := wo_inv h
          obtain ⟨m, hm, h⟩ := wo_inv h
          obtain ⟨h2, h⟩ := wb_inv h
          obtain ⟨y, h3, h⟩ := wo_inv h
          obtain ⟨a, h4, h⟩ := wo_inv h
          obtain ⟨sep, h5, h⟩ := wo_inv h
          obtain ⟨h6, h⟩ := wb_inv h
          obtain ⟨l, s1, h7, h⟩ := wr_inv h
          obtain ⟨ts, h8, h9, h10, h⟩ := wo_inv h
          have e := predO_inv hm
          refine hn _ _ _ ?_ h
          rw [e]
          refine callAt_ok h1 ?_
          rw [one2_inv h3, asSlice_inv h4, asStr_inv h5, ← h9]
          exact join_says (hE.jn _ h2) (by rw [h6, h7, h8]) h10
        · obtain ⟨x, h1, h⟩ := wo_inv h
          obtain ⟨h6, h⟩ := wb_inv h
          obtain ⟨a, h2, h⟩ := wo_inv h
          obtain ⟨b, h3, h⟩ := wo_inv h
          obtain ⟨a1, h4, h⟩ := wo_inv h
          obtain ⟨b1, h5, h7, h⟩ := wo_inv h
          have e := binParts_inv h1
          have ea : x.1 = .eql := by revert h6; split <;> intro h6 <;> first | assumption | cases h6
          rw [asStr_inv h4] at h2
          rw [asStr_inv h5] at h3
          refine hn _ _ _ ?_ h
          rw [e, ea]
          exact op_strSame (by rw [h2, h3]) h7
        · obtain ⟨x, h1, h⟩ := wo_inv h
          obtain ⟨m, hm, h⟩ := wo_inv h
          have e := predO_inv hm
          split at h
          · exact h.elim
          · rename_i hsp
            obtain ⟨fn, hfn, h⟩ := wo_inv h
            obtain ⟨body, hbody, h⟩ := wo_inv h
            obtain ⟨hname, h⟩ := wb_inv h
            obtain ⟨hmax, h⟩ := wb_inv h
            have hname : (fn.name == "runtime.NumGoroutine") = false := by simpa using hname
            obtain ⟨fo, xs, ts, eo, hf, ha⟩ := callAt_inv h1
            have H := ih m _ _ _ nx (fun _ _ _ => False) (Ev E.P (arunI E.P E.sp E.F m) fun fr1 jm s1 => ∃ v s2 p, finish E.P fn.results.toList fr1 jm s1 = .ok v s2 ∧ nx v s2 p) Chunk.ev
              (fun fr s j fr1 jm s1 v s2 p q1 q2 q3 => ⟨j, fr1, jm, s1, q1, v, s2, p, q2, q3⟩) (fun _ _ _ q => q.elim) h
            obtain ⟨j, fr1, jm, s1, q1, v, s2, p, q2, q3⟩ := H
            exact hn _ _ _ (by rw [eo, e]; exact callE_ok (by rw [hf, ha]) hsp hfn hbody hname hmax q1 q2) q3
        · exact h.elim
theorem tfk {A B : Prop} (c : Prop) (x : c → A) (y : ¬ c → B) : (c → A) ∧ (¬ c → B) := ⟨x, y⟩
theorem te2 {A B : Prop} (a1 b1 a2 b2 : Int) (x : (a1 = b1 ∧ a2 = b2) → A) (y : ¬ (a1 = b1 ∧ a2 = b2) → B) : (allEq [(a1, b1), (a2, b2)] = true → A) ∧ (allEq [(a1, b1), (a2, b2)] = false → B) := by
  have e : allEq [(a1, b1), (a2, b2)] = true ↔ (a1 = b1 ∧ a2 = b2) := by simp [allEq]
  exact ⟨fun h => x (e.1 h), fun h => y fun q => by rw [e.2 q] at h; cases h⟩
theorem te3 {A B : Prop} (a1 b1 a2 b2 a3 b3 : Int) (x : (a1 = b1 ∧ a2 = b2 ∧ a3 = b3) → A) (y : ¬ (a1 = b1 ∧ a2 = b2 ∧ a3 = b3) → B) : (allEq [(a1, b1), (a2, b2), (a3, b3)] = true → A) ∧ (allEq [(a1, b1), (a2, b2), (a3, b3)] = false → B) := by
  have e : allEq [(a1, b1), (a2, b2), (a3, b3)] = true ↔ (a1 = b1 ∧ a2 = b2 ∧ a3 = b3) := by simp [allEq]
  exact ⟨fun h => x (e.1 h), fun h => y fun q => by rw [e.2 q] at h; cases h⟩
theorem te7 {A B : Prop} (a1 b1 a2 b2 a3 b3 a4 b4 a5 b5 a6 b6 a7 b7 : Int) (x : (a1 = b1 ∧ a2 = b2 ∧ a3 = b3 ∧ a4 = b4 ∧ a5 = b5 ∧ a6 = b6 ∧ a7 = b7) → A) (y : ¬ (a1 = b1 ∧ a2 = b2 ∧ a3 = b3 ∧ a4 = b4 ∧ a5 = b5 ∧ a6 = b6 ∧ a7 = b7) → B) : (allEq [(a1, b1), (a2, b2), (a3, b3), (a4, b4), (a5, b5), (a6, b6), (a7, b7)] = true → A) ∧ (allEq [(a1, b1), (a2, b2), (a3, b3), (a4, b4), (a5, b5), (a6, b6), (a7, b7)] = false → B) := by
  have e : allEq [(a1, b1), (a2, b2), (a3, b3), (a4, b4), (a5, b5), (a6, b6), (a7, b7)] = true ↔ (a1 = b1 ∧ a2 = b2 ∧ a3 = b3 ∧ a4 = b4 ∧ a5 = b5 ∧ a6 = b6 ∧ a7 = b7) := by simp [allEq]
  exact ⟨fun h => x (e.1 h), fun h => y fun q => by rw [e.2 q] at h; cases h⟩
theorem wp_sim {E : Env} (hE : E.Ok) {P : Program} (hP : E.P = P) {B : Base} {nx0 n f nt : Nat} {t : Tr AV} {K : List Item} {s : AS} {rs : List ResultVar} {R : AV → AS → Prop} (hmix : P.follows .mixedOrders = true) (hc : CallSim P B (arunI E.P E.sp E.F n)) (hl : ∀ t a, Local (arunI E.P E.sp E.F n t a)) (fuel : Nat) (p : Pl) {T : Prop} (x : T)
    (h : T = wp E fuel n (.fr f nt K t s) p rs (fun v s _ => R v s) (fun _ _ _ => False) := by as_aux_lemma => kernel_rfl) (h0 : Nat.ble nx0 s.nx = true := by as_aux_lemma => kernel_rfl) : Sim P B nx0 (Fin P rs R) ⟨f, t, nt, K, [], none⟩ s := by
  subst hP
  have H := wp_sound hE fuel n (.fr f nt K t s) p rs (fun v s _ => R v s) (fun _ _ _ => False) (GSim E.P B nx0 (Fin E.P rs R)) (Chunk.sim hmix hc hl)
    (fun fr s j fr1 jm s1 v s2 p q1 q2 q3 h0 => Sim.leave hmix hc hl q1 h0 ⟨v, s2, by rw [← finish_fr]; exact q2, q3⟩) (fun _ _ _ q => q.elim) (h ▸ x)
  exact GSim.start h0 H
/-- Tables of what is known. -/
def tabUp (tab : FuncId → Option (List AV → Option AV)) (g : FuncId) (val : List AV → Option AV) : FuncId → Option (List AV → Option AV) := fun f => bif Nat.beq f g then some val else tab f
def TabOk (K1 : (List AV → Option AV) → Caller → List AV → M AV) (sp : Sp) (tab : FuncId → Option (List AV → Option AV)) : Prop := ∀ g val, tab g = some val → sp g = some (K1 val)
theorem TabOk.nil {K1 : (List AV → Option AV) → Caller → List AV → M AV} : TabOk K1 (fun _ => none) (fun _ => none) := fun _ _ h => by cases h
theorem TabOk.up {K1 : (List AV → Option AV) → Caller → List AV → M AV} {sp : Sp} {tab : FuncId → Option (List AV → Option AV)} (h : TabOk K1 sp tab) (g : FuncId) (val : List AV → Option AV) : TabOk K1 (updS sp g (K1 val)) (tabUp tab g val) := by
  intro f v e
  unfold tabUp at e
  unfold updS
  cases q : Nat.beq f g with
  | true => rw [q] at e; injection e with e; subst e; rfl
  | false => rw [q] at e; exact h f v e
theorem TabOk.other {K1 : (List AV → Option AV) → Caller → List AV → M AV} {sp : Sp} {tab : FuncId → Option (List AV → Option AV)} (h : TabOk K1 sp tab) (g : FuncId) (m : Caller → List AV → M AV) (hg : tab g = none) : TabOk K1 (updS sp g m) tab := by
  intro f v e
  unfold updS
  cases q : Nat.beq f g with
  | true => rw [Nat.eq_of_beq_eq_true q, hg] at e; cases e
  | false => exact h f v e
theorem jsz2 {a b : ByteArray} {n1 n2 k : Nat} (ha : a.size ≤ n1) (hb : b.size ≤ n2) (hn : Nat.ble (n1 + n2 + k + 10) 1048576 = true) : (joinTexts [32] [a.data.toList, b.data.toList]).length + k ≤ 1048576 := by
  have := ble_true.1 hn
  simp only [joinTexts, List.length_append, List.length_cons, List.length_nil, len_toList]; omega
theorem jsz3 {a b c : ByteArray} {n1 n2 n3 k : Nat} (ha : a.size ≤ n1) (hb : b.size ≤ n2) (hc : c.size ≤ n3) (hn : Nat.ble (n1 + n2 + n3 + k + 10) 1048576 = true) : (joinTexts [32] [a.data.toList, b.data.toList, c.data.toList]).length + k ≤ 1048576 := by
  have := ble_true.1 hn
  simp only [joinTexts, List.length_append, List.length_cons, List.length_nil, len_toList]; omega
theorem jsz4 {a b c d : ByteArray} {n1 n2 n3 n4 k : Nat} (ha : a.size ≤ n1) (hb : b.size ≤ n2) (hc : c.size ≤ n3) (hd : d.size ≤ n4) (hn : Nat.ble (n1 + n2 + n3 + n4 + k + 10) 1048576 = true) : (joinTexts [32] [a.data.toList, b.data.toList, c.data.toList, d.data.toList]).length + k ≤ 1048576 := by
  have := ble_true.1 hn
  simp only [joinTexts, List.length_append, List.length_cons, List.length_nil, len_toList]; omega
end Go.Rn
