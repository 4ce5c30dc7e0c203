/- Values and memory under names; what it means that a world is one of these; steps that read, write and make by names, and what they hang on. -/
import Derived.Test.YtcjmdcndalcomaaGreatDoorRnTr
import Derived.Test.YtcjmdcndalcomaaGreatDoorRnCode
namespace Go.Rn

/-- A slice's capacity: known, or at least so much (the row may be longer; cells of an element). -/
inductive Cap where
  | known (c : Nat)
  | atLeast (lo e : Nat)
  | lost
  deriving Inhabited, DecidableEq

inductive AV where
  | bool (b : Bool)
  | int (k : IntKind) (n : Int)
  | str (s : ByteArray)
  | ptr (a : Option (Nat × Nat))
  | slice (a : Option (Nat × Nat)) (len : Nat) (cap : Cap)
  | map (r : Option Nat)
  | func (fn : Fn) (first captured : List AV)
  | yield (l : Nat)
  | nilFunc
  | iface (t : TypeId) (v : AV)
  | nilIface
  | agg (cells : List AV)
  | tuple (vs : List AV)
  deriving Inhabited

/-- Which block a name is, and how many cells it has. -/
abbrev Ren := Nat → Option (Nat × Nat)

def Ren.le (ρ σ : Ren) : Prop := ∀ n x, ρ n = some x → σ n = some x
theorem Ren.le_refl (ρ : Ren) : ρ.le ρ := fun _ _ h => h
theorem Ren.le_trans {ρ σ τ : Ren} (h : ρ.le σ) (k : σ.le τ) : ρ.le τ := fun n x e => k n x (h n x e)

def plainFn : Fn → Bool
  | .yield _ => false
  | _ => true

mutual
def VR (ρ : Ren) : AV → Value → Prop
  | .bool b, v => v = .bool b
  | .int k n, v => v = .int k n
  | .str s, v => v = .string s
  | .ptr none, v => v = .pointer none
  | .ptr (some (n, o)), v => ∃ b N, ρ n = some (b, N) ∧ v = .pointer (some ⟨b, o, none⟩)
  | .slice none len (.known c), v => v = .slice none len c ∧ len = 0 ∧ c = 0
  | .slice none _ (.atLeast _ _), _ => False
  | .slice none _ .lost, _ => False
  | .slice (some (n, _)) len .lost, v => len = 0 ∧ ∃ b N o c, ρ n = some (b, N) ∧ v = .slice (some ⟨b, o, none⟩) 0 c
  | .slice (some (n, o)) len (.known c), v => ∃ b N, ρ n = some (b, N) ∧ v = .slice (some ⟨b, o, none⟩) len c
  | .slice (some (n, o)) len (.atLeast lo e), v => ∃ b N c, ρ n = some (b, N) ∧ v = .slice (some ⟨b, o, none⟩) len c ∧ lo ≤ c ∧ len ≤ c ∧ o + c * e ≤ N
  | .map none, v => v = .map none
  | .map (some n), v => ∃ b N, ρ n = some (b, N) ∧ v = .map (some b)
  | .func fn first captured, v => plainFn fn = true ∧ ∃ f c, v = .func fn f c ∧ VRs ρ first f.toList ∧ VRs ρ captured c.toList
  | .yield l, v => ∃ b N, ρ l = some (b, N) ∧ v = .func (.yield b) #[] #[]
  | .nilFunc, v => v = .nilFunc
  | .iface t x, v => ∃ y, v = .iface t y ∧ VR ρ x y
  | .nilIface, v => v = .nilIface
  | .agg l, v => ∃ a, v = .agg a ∧ VRs ρ l a.toList
  | .tuple l, v => ∃ a, v = .tuple a ∧ VRs ρ l a.toList
def VRs (ρ : Ren) : List AV → List Value → Prop
  | [], l => l = []
  | x :: xs, l => ∃ y ys, l = y :: ys ∧ VR ρ x y ∧ VRs ρ xs ys
end

mutual
theorem VR.mono {ρ σ : Ren} (h : ρ.le σ) : ∀ (x : AV) (v : Value), VR ρ x v → VR σ x v
  | .bool _, _, k => by simpa only [VR] using k
  | .int _ _, _, k => by simpa only [VR] using k
  | .str _, _, k => by simpa only [VR] using k
  | .ptr none, _, k => by simpa only [VR] using k
  | .ptr (some (n, o)), _, k => by
    simp only [VR] at k ⊢; obtain ⟨b, N, e, r⟩ := k; exact ⟨b, N, h _ _ e, r⟩
  | .slice none len (.known c), _, k => by simpa only [VR] using k
  | .slice none _ (.atLeast _ _), _, k => by simp only [VR] at k
  | .slice none _ .lost, _, k => by simp only [VR] at k
  | .slice (some (n, o)) len .lost, _, k => by
    simp only [VR] at k ⊢; obtain ⟨l, b, N, p, c, e, r⟩ := k; exact ⟨l, b, N, p, c, h _ _ e, r⟩
  | .slice (some (n, o)) len (.known c), _, k => by
    simp only [VR] at k ⊢; obtain ⟨b, N, e, r⟩ := k; exact ⟨b, N, h _ _ e, r⟩
  | .slice (some (n, o)) len (.atLeast lo e), _, k => by
    simp only [VR] at k ⊢; obtain ⟨b, N, c, e, r⟩ := k; exact ⟨b, N, c, h _ _ e, r⟩
  | .map none, _, k => by simpa only [VR] using k
  | .map (some n), _, k => by
    simp only [VR] at k ⊢; obtain ⟨b, N, e, r⟩ := k; exact ⟨b, N, h _ _ e, r⟩
  | .func fn first captured, _, k => by
    simp only [VR] at k ⊢; obtain ⟨p, f, c, e, r, s⟩ := k; exact ⟨p, f, c, e, VRs.mono h _ _ r, VRs.mono h _ _ s⟩
  | .yield l, _, k => by
    simp only [VR] at k ⊢; obtain ⟨b, N, e, r⟩ := k; exact ⟨b, N, h _ _ e, r⟩
  | .nilFunc, _, k => by simpa only [VR] using k
  | .iface t x, _, k => by
    simp only [VR] at k ⊢; obtain ⟨y, e, r⟩ := k; exact ⟨y, e, VR.mono h _ _ r⟩
  | .nilIface, _, k => by simpa only [VR] using k
  | .agg l, _, k => by
    simp only [VR] at k ⊢; obtain ⟨a, e, r⟩ := k; exact ⟨a, e, VRs.mono h _ _ r⟩
  | .tuple l, _, k => by
    simp only [VR] at k ⊢; obtain ⟨a, e, r⟩ := k; exact ⟨a, e, VRs.mono h _ _ r⟩
theorem VRs.mono {ρ σ : Ren} (h : ρ.le σ) : ∀ (x : List AV) (v : List Value), VRs ρ x v → VRs σ x v
  | [], _, k => by simpa only [VRs] using k
  | x :: xs, _, k => by
    simp only [VRs] at k ⊢; obtain ⟨y, ys, e, r, s⟩ := k; exact ⟨y, ys, e, VR.mono h _ _ r, VRs.mono h _ _ s⟩
end

theorem VRs.length {ρ : Ren} : ∀ {x : List AV} {v : List Value}, VRs ρ x v → x.length = v.length
  | [], _, k => by simp only [VRs] at k; subst k; rfl
  | x :: xs, _, k => by
    simp only [VRs] at k; obtain ⟨y, ys, rfl, _, s⟩ := k; simp [VRs.length s]
theorem VRs.get {ρ : Ren} : ∀ {x : List AV} {v : List Value}, VRs ρ x v → ∀ (i : Nat) (a : AV), x[i]? = some a → ∃ b, v[i]? = some b ∧ VR ρ a b
  | [], _, _, _, _, h => by simp at h
  | x :: xs, _, k, i, a, h => by
    simp only [VRs] at k; obtain ⟨y, ys, rfl, r, s⟩ := k
    cases i with
    | zero => simp at h; subst h; exact ⟨y, rfl, r⟩
    | succ i => simp at h; obtain ⟨b, hb, hr⟩ := VRs.get s i a h; exact ⟨b, by simpa using hb, hr⟩
theorem VRs.append {ρ : Ren} : ∀ {x : List AV} {v : List Value} {x' : List AV} {v' : List Value}, VRs ρ x v → VRs ρ x' v' → VRs ρ (x ++ x') (v ++ v')
  | [], _, _, _, k, h => by simp only [VRs] at k; subst k; simpa using h
  | x :: xs, _, _, _, k, h => by
    simp only [VRs] at k; obtain ⟨y, ys, rfl, r, s⟩ := k
    simp only [List.cons_append, VRs]; exact ⟨y, _, rfl, r, VRs.append s h⟩
theorem VRs.of_get {ρ : Ren} : ∀ (x : List AV) (v : List Value), x.length = v.length → (∀ (i : Nat) (a : AV) (b : Value), x[i]? = some a → v[i]? = some b → VR ρ a b) → VRs ρ x v
  | [], [], _, _ => by simp only [VRs]
  | [], _ :: _, h, _ => by simp at h
  | _ :: _, [], h, _ => by simp at h
  | x :: xs, y :: ys, h, k => by
    simp only [VRs]; exact ⟨y, ys, rfl, k 0 x y rfl rfl, VRs.of_get xs ys (by simpa using h) fun i a b ha hb => k (i + 1) a b (by simpa using ha) (by simpa using hb)⟩
theorem VRs.take {ρ : Ren} : ∀ (n : Nat) {x : List AV} {v : List Value}, VRs ρ x v → VRs ρ (x.take n) (v.take n)
  | 0, _, _, _ => by simp [VRs]
  | n + 1, [], _, k => by simp only [VRs] at k; subst k; simp [VRs]
  | n + 1, x :: xs, _, k => by
    simp only [VRs] at k; obtain ⟨y, ys, rfl, r, s⟩ := k
    simp only [List.take_succ_cons, VRs]; exact ⟨y, _, rfl, r, VRs.take n s⟩
theorem VRs.drop {ρ : Ren} : ∀ (n : Nat) {x : List AV} {v : List Value}, VRs ρ x v → VRs ρ (x.drop n) (v.drop n)
  | 0, _, _, k => by simpa using k
  | n + 1, [], _, k => by simp only [VRs] at k; subst k; simp [VRs]
  | n + 1, x :: xs, _, k => by
    simp only [VRs] at k; obtain ⟨y, ys, rfl, r, s⟩ := k
    simpa using VRs.drop n s

/-- An operand's value that is nothing. -/
def aundef : AV := .tuple []
theorem VR.undef (ρ : Ren) : VR ρ aundef Go.undef := by
  simp only [aundef, Go.undef, VR, VRs]; exact ⟨#[], rfl, rfl⟩

/-- The cells of a value, and back. -/
def AV.cells : AV → List AV
  | .agg l => l
  | v => [v]
theorem VR.cells {ρ : Ren} {x : AV} {v : Value} (h : VR ρ x v) : VRs ρ x.cells v.cells.toList := by
  cases x <;> (try (simp only [VR] at h; subst h; simp only [AV.cells, Value.cells, VRs, VR]; exact ⟨_, _, rfl, rfl, rfl⟩))
  case ptr a =>
    cases a with
    | none => simp only [VR] at h; subst h; simp only [AV.cells, Value.cells, VRs, VR]; exact ⟨_, _, rfl, rfl, rfl⟩
    | some a =>
      obtain ⟨n, o⟩ := a
      have h' := h
      simp only [VR] at h'; obtain ⟨b, N, _, rfl⟩ := h'
      simp only [AV.cells, Value.cells, VRs]; exact ⟨_, _, rfl, h, rfl⟩
  case slice a len cap =>
    have : ∃ p q r, v = .slice p q r := by
      cases a with
      | none => cases cap <;> simp only [VR] at h; exact ⟨_, _, _, h.1⟩
      | some a =>
        obtain ⟨n, o⟩ := a
        cases cap <;> simp only [VR] at h
        · obtain ⟨b, N, _, rfl⟩ := h; exact ⟨_, _, _, rfl⟩
        · obtain ⟨b, N, c, _, rfl, _⟩ := h; exact ⟨_, _, _, rfl⟩
        · obtain ⟨_, b, N, p, c, _, rfl⟩ := h; exact ⟨_, _, _, rfl⟩
    obtain ⟨p, q, r, rfl⟩ := this
    simp only [AV.cells, Value.cells, VRs]; exact ⟨_, _, rfl, h, rfl⟩
  case map a =>
    cases a with
    | none => simp only [VR] at h; subst h; simp only [AV.cells, Value.cells, VRs, VR]; exact ⟨_, _, rfl, rfl, rfl⟩
    | some a =>
      have h' := h
      simp only [VR] at h'; obtain ⟨b, N, _, rfl⟩ := h'
      simp only [AV.cells, Value.cells, VRs]; exact ⟨_, _, rfl, h, rfl⟩
  case func fn f c =>
    have h' := h
    simp only [VR] at h'; obtain ⟨_, _, _, rfl, _⟩ := h'
    simp only [AV.cells, Value.cells, VRs]; exact ⟨_, _, rfl, h, rfl⟩
  case yield l =>
    have h' := h
    simp only [VR] at h'; obtain ⟨_, _, _, rfl⟩ := h'
    simp only [AV.cells, Value.cells, VRs]; exact ⟨_, _, rfl, h, rfl⟩
  case iface t x =>
    have h' := h
    simp only [VR] at h'; obtain ⟨_, rfl, _⟩ := h'
    simp only [AV.cells, Value.cells, VRs]; exact ⟨_, _, rfl, h, rfl⟩
  case agg l =>
    simp only [VR] at h; obtain ⟨a, rfl, k⟩ := h
    simpa only [AV.cells, Value.cells] using k
  case tuple l =>
    have h' := h
    simp only [VR] at h'; obtain ⟨_, rfl, _⟩ := h'
    simp only [AV.cells, Value.cells, VRs]; exact ⟨_, _, rfl, h, rfl⟩

def AV.oneCell : AV → Bool
  | .agg _ | .tuple _ => false
  | _ => true
theorem VR.oneCell {ρ : Ren} {x : AV} {v : Value} (h : VR ρ x v) (hx : x.oneCell = true) : ∀ cs, v ≠ .agg cs ∧ v ≠ .tuple cs := by
  intro cs
  cases x <;> (try (simp only [VR] at h; subst h; simp; done)) <;> (try (simp [AV.oneCell] at hx; done))
  case ptr a =>
    cases a with
    | none => simp only [VR] at h; subst h; simp
    | some a => obtain ⟨n, o⟩ := a; simp only [VR] at h; obtain ⟨_, _, _, rfl⟩ := h; simp
  case slice a len cap =>
    cases a with
    | none => cases cap <;> simp only [VR] at h; rw [h.1]; simp
    | some a =>
      obtain ⟨n, o⟩ := a
      cases cap <;> simp only [VR] at h
      · obtain ⟨_, _, _, rfl⟩ := h; simp
      · obtain ⟨_, _, _, _, rfl, _⟩ := h; simp
      · obtain ⟨_, _, _, _, _, _, rfl⟩ := h; simp
  case map a =>
    cases a with
    | none => simp only [VR] at h; subst h; simp
    | some a => simp only [VR] at h; obtain ⟨_, _, _, rfl⟩ := h; simp
  case func fn f c => simp only [VR] at h; obtain ⟨_, _, _, rfl, _⟩ := h; simp
  case yield l => simp only [VR] at h; obtain ⟨_, _, _, rfl⟩ := h; simp
  case iface t x => simp only [VR] at h; obtain ⟨_, rfl, _⟩ := h; simp

/-- What a name is. -/
inductive AObj where
  | cells (n : Nat) (t : Tr AV) (z : List AV)
  | map (es : List (AV × AV)) (clock : Nat)
  | mapAny (es : List (AV × AV))
  | loop (st : LoopState) (pend : Option Code) (fn : FuncId) (tmps : Tr AV) (nt : Nat) (params : List Tmp) (assign body : Code) (defers : Nat)
  | defs
  | ro (n : Nat) (t : Tr AV)
  | iter (m : Nat) (es : List (AV × AV)) (exact : Bool) (left : List (AV × AV)) (cur : Option (AV × AV))
  | lent
  deriving Inhabited

noncomputable def cellAt (t : Tr AV) (z : List AV) (i : Nat) : Option AV :=
  match t.get i with
  | some v => some v
  | none => z[i % z.length]?

def AObj.isRo : AObj → Bool
  | .ro _ _ => true
  | _ => false

/-- A frame's slots. -/
def TR (ρ : Ren) (nt : Nat) (t : Tr AV) (a : Array Value) : Prop :=
  a.size = nt ∧ ∀ i, VR ρ ((t.get i).getD aundef) (a.getD i Go.undef)
theorem TR.mono {ρ σ : Ren} (h : ρ.le σ) {nt : Nat} {t : Tr AV} {a : Array Value} (k : TR ρ nt t a) : TR σ nt t a :=
  ⟨k.1, fun i => VR.mono h _ _ (k.2 i)⟩
theorem TR.set {ρ : Ren} {nt : Nat} {t : Tr AV} {a : Array Value} (k : TR ρ nt t a) {d : Nat} {x : AV} {v : Value} (hd : d < nt) (ht : nt ≤ top) (h : VR ρ x v) :
    TR ρ nt (t.put d (some x)) (a.setIfInBounds d v) := by
  refine ⟨by simp [k.1], fun i => ?_⟩
  rw [Tr.get_put' _ _ _ _ (by omega)]
  by_cases e : i = d
  · subst e
    have : (a.setIfInBounds i v).getD i Go.undef = v := by
      rw [Array.getD_eq_getD_getElem?, Array.getElem?_setIfInBounds_self_of_lt (by rw [k.1]; exact hd)]; rfl
    rw [if_pos rfl, this]; exact h
  · have : (a.setIfInBounds d v).getD i Go.undef = a.getD i Go.undef := by
      rw [Array.getD_eq_getD_getElem?, Array.getElem?_setIfInBounds_ne (by omega), ← Array.getD_eq_getD_getElem?]
    rw [if_neg e, this]; exact k.2 i

/-- The entries of a map, one behind the other. -/
def ERs (ρ : Ren) : List (AV × AV) → List MapEntry → Nat → Prop
  | [], l, _ => l = []
  | x :: xs, l, i => ∃ e es, l = e :: es ∧ VR ρ x.1 e.key ∧ VR ρ x.2 e.val ∧ e.born = i ∧ ERs ρ xs es (i + 1)
theorem ERs.mono {ρ σ : Ren} (h : ρ.le σ) : ∀ (x : List (AV × AV)) (l : List MapEntry) (i : Nat), ERs ρ x l i → ERs σ x l i
  | [], _, _, k => k
  | x :: xs, _, i, k => by
    obtain ⟨e, es, r, a, b, c, d⟩ := k; exact ⟨e, es, r, VR.mono h _ _ a, VR.mono h _ _ b, c, ERs.mono h xs es _ d⟩

/-- Entries that are these, one by one. -/
def EQs (ρ : Ren) : List (AV × AV) → List MapEntry → Prop
  | [], l => l = []
  | x :: xs, l => ∃ e es, l = e :: es ∧ VR ρ x.1 e.key ∧ VR ρ x.2 e.val ∧ EQs ρ xs es
theorem EQs.mono {ρ σ : Ren} (h : ρ.le σ) : ∀ (x : List (AV × AV)) (l : List MapEntry), EQs ρ x l → EQs σ x l
  | [], _, k => k
  | x :: xs, _, k => by
    obtain ⟨e, es, r, a, b, d⟩ := k; exact ⟨e, es, r, VR.mono h _ _ a, VR.mono h _ _ b, EQs.mono h xs es d⟩
theorem ERs.eqs {ρ : Ren} : ∀ {x : List (AV × AV)} {l : List MapEntry} {i : Nat}, ERs ρ x l i → EQs ρ x l
  | [], _, _, k => k
  | _ :: _, _, _, k => by
    obtain ⟨e, es, r, a, b, _, d⟩ := k; exact ⟨e, es, r, a, b, d.eqs⟩
/-- The entries of a map, in some row. -/
def EPs (ρ : Ren) (es : List (AV × AV)) (l : List MapEntry) : Prop := ∃ l', l.Perm l' ∧ EQs ρ es l'
theorem EPs.mono {ρ σ : Ren} (h : ρ.le σ) {x : List (AV × AV)} {l : List MapEntry} (k : EPs ρ x l) : EPs σ x l := by
  obtain ⟨l', p, n⟩ := k
  exact ⟨l', p, n.mono h⟩

def sameKey : AV → AV → Option Bool
  | .int k a, .int k' b => match decide (k = k') with
    | true => some (a == b)
    | false => none
  | .str a, .str b => some (a == b)
  | .bool a, .bool b => some (a == b)
  | _, _ => none
/-- No two keys are one. -/
def KeysApart (es : List (AV × AV)) : Prop := es.Pairwise fun a b => sameKey a.1 b.1 = some false ∧ sameKey b.1 a.1 = some false
def BornOk (l : List MapEntry) (clock : Nat) : Prop := (l.map (·.born)).Nodup ∧ ∀ e ∈ l, e.born < clock

def OR (ρ : Ren) (N : Nat) : AObj → Obj → Prop
  | .cells n t z, o => ∃ c e, o = .cells c e (0, 0) ∧ c.size = N ∧ n ≤ N ∧ ∀ i, i < n → ∃ x v, cellAt t z i = some x ∧ x.oneCell = true ∧ c[i]? = some v ∧ VR ρ x v
  | .map es clock, o => ∃ l, o = .map l clock ∧ clock = es.length ∧ ERs ρ es l.toList 0
  | .mapAny es, o => ∃ l clock, o = .map l clock ∧ KeysApart es ∧ BornOk l.toList clock ∧ EPs ρ es l.toList
  | .loop st pend fn tmps nt params assign body defers, o => ∃ a b M, o = .loop { state := st, pending := pend, fn, tmps := a, params := params.toArray, assign, body, defers := b } ∧ TR ρ nt tmps a ∧ nt ≤ top ∧ ρ defers = some (b, M) ∧ LoopOk pend assign body
  | .defs, o => o = .deferred (some [])
  | .ro n t, o => ∃ c e fr, o = .cells c e fr ∧ c.size = N ∧ n ≤ N ∧ ∀ i, i < n → ∃ x v, t.get i = some x ∧ x.oneCell = true ∧ c[i]? = some v ∧ VR ρ x v
  | .iter m _ _ _ _, o => ∃ b M c s, ρ m = some (b, M) ∧ o = .mapIter (some b) c s c
  | .lent, o => ∃ l clock, o = .map l clock
theorem OR.mono {ρ σ : Ren} (h : ρ.le σ) {N : Nat} {x : AObj} {o : Obj} (k : OR ρ N x o) : OR σ N x o := by
  cases x <;> simp only [OR] at k ⊢
  case cells n t z =>
    obtain ⟨c, e, r, s, u, f⟩ := k
    exact ⟨c, e, r, s, u, fun i hi => let ⟨x, v, a, b, d, q⟩ := f i hi; ⟨x, v, a, b, d, VR.mono h _ _ q⟩⟩
  case map es clock => obtain ⟨l, r, c, s⟩ := k; exact ⟨l, r, c, ERs.mono h _ _ _ s⟩
  case mapAny es => obtain ⟨l, c, r, a, b, s⟩ := k; exact ⟨l, c, r, a, b, s.mono h⟩
  case loop st pend fn tmps nt params assign body defers => obtain ⟨a, b, M, r, s, q, u, v⟩ := k; exact ⟨a, b, M, r, s.mono h, q, h _ _ u, v⟩
  case defs => exact k
  case ro n t =>
    obtain ⟨c, e, q, r, s, u, f⟩ := k
    exact ⟨c, e, q, r, s, u, fun i hi => let ⟨x, v, a, b, d, q⟩ := f i hi; ⟨x, v, a, b, d, VR.mono h _ _ q⟩⟩
  case iter m es ex left cur => obtain ⟨b, M, c, s, r, q⟩ := k; exact ⟨b, M, c, s, h _ _ r, q⟩
  case lent => exact k

/-- A map that is gone through: where it lies, and what of it is still to come. -/
def Under (ρ : Ren) (w : World) (n m : Nat) (es : List (AV × AV)) (exact : Bool) (left : List (AV × AV)) (cur : Option (AV × AV)) : Prop :=
  ∃ b N bm M l clock seen, ρ n = some (b, N) ∧ ρ m = some (bm, M) ∧ w.heap[b]? = some (.mapIter (some bm) clock seen clock) ∧ w.heap[bm]? = some (.map l clock) ∧
    BornOk l.toList clock ∧ (exact = true → clock = es.length ∧ ERs ρ es l.toList 0) ∧ (exact = false → KeysApart es ∧ EPs ρ es l.toList) ∧
    EPs ρ left (l.toList.filter fun e => !seen.contains e.born) ∧
    (match cur with
    | none => seen = #[]
    | some x => ∃ e, e ∈ l.toList ∧ seen.back? = some e.born ∧ VR ρ x.1 e.key ∧ VR ρ x.2 e.val)
theorem Under.mono {ρ σ : Ren} (h : ρ.le σ) {w : World} {n m : Nat} {es : List (AV × AV)} {ex : Bool} {left : List (AV × AV)} {cur : Option (AV × AV)}
    (k : Under ρ w n m es ex left cur) : Under σ w n m es ex left cur := by
  obtain ⟨b, N, bm, M, l, clock, seen, h1, h2, h3, h4, h5, h6, h7, h8, h9⟩ := k
  refine ⟨b, N, bm, M, l, clock, seen, h _ _ h1, h _ _ h2, h3, h4, h5, fun e => ⟨(h6 e).1, (h6 e).2.mono h⟩, fun e => ⟨(h7 e).1, (h7 e).2.mono h⟩, h8.mono h, ?_⟩
  cases cur with
  | none => exact h9
  | some x => obtain ⟨e, a, b, c, d⟩ := h9; exact ⟨e, a, b, VR.mono h _ _ c, VR.mono h _ _ d⟩

/-- A world is one of these names: each name is a block, no two names are one, a name that may be written is a block from B on. -/
structure Rel (B : Nat) (ρ : Ren) (h : Tr AObj) (w : World) : Prop where
  is : ∀ n o, n < top → h.get n = some o → ∃ b N o', ρ n = some (b, N) ∧ w.heap[b]? = some o' ∧ OR ρ N o o' ∧ (o.isRo = false → B ≤ b)
  one : ∀ n m o p b N M, n < top → m < top → h.get n = some o → h.get m = some p → ρ n = some (b, N) → ρ m = some (b, M) → n = m
  iter : ∀ n m es ex left cur, n < top → h.get n = some (.iter m es ex left cur) → m < top ∧ h.get m = some .lent ∧ Under ρ w n m es ex left cur
  size : B ≤ w.heap.size
  lone : ∀ i j m es ex left cur es' ex' left' cur', i < top → j < top → h.get i = some (.iter m es ex left cur) → h.get j = some (.iter m es' ex' left' cur') → i = j
end Go.Rn
