/- A binary tree over places (numbers), with what is at a place, and how it is set. Plain; no program in sight. -/
import Derived.Calls
import Derived.Orders
namespace Go.Rn
noncomputable section
inductive Tr (α : Type) where
  | nil : Tr α
  | node (l : Tr α) (v : Option α) (r : Tr α) : Tr α
def Tr.getP {α : Type} (p : List Bool) : Tr α → Option α :=
  @List.rec Bool (fun _ => Tr α → Option α) (fun t => @Tr.rec α (fun _ => Option α) none (fun _ v _ _ _ => v) t)
    (fun b _ ih t => @Tr.rec α (fun _ => Option α) none (fun l _ r _ _ => ih (@Bool.rec (fun _ => Tr α) r l b)) t) p
def Tr.setP {α : Type} (v : Option α) (p : List Bool) : Tr α → Tr α :=
  @List.rec Bool (fun _ => Tr α → Tr α) (fun t => @Tr.rec α (fun _ => Tr α) (.node .nil v .nil) (fun l _ r _ _ => .node l v r) t)
    (fun b _ ih t => @Tr.rec α (fun _ => Tr α)
      (@Bool.rec (fun _ => Tr α) (.node .nil none (ih .nil)) (.node (ih .nil) none .nil) b)
      (fun l x r _ _ => @Bool.rec (fun _ => Tr α) (.node l x (ih r)) (.node (ih l) x r) b) t) p
theorem Tr.getP_nil {α : Type} (p : List Bool) : (Tr.nil : Tr α).getP p = none := by cases p <;> rfl
theorem Tr.getP_here {α : Type} (l r : Tr α) (v : Option α) : (Tr.node l v r).getP [] = v := rfl
theorem Tr.getP_cons {α : Type} (l r : Tr α) (v : Option α) (b : Bool) (p : List Bool) :
    (Tr.node l v r).getP (b :: p) = if b = true then l.getP p else r.getP p := by cases b <;> rfl
theorem Tr.setP_node {α : Type} (l r : Tr α) (x v : Option α) (b : Bool) (p : List Bool) :
    Tr.setP v (b :: p) (Tr.node l x r) = if b = true then .node (Tr.setP v p l) x r else .node l x (Tr.setP v p r) := by cases b <;> rfl
theorem Tr.setP_nil {α : Type} (v : Option α) (b : Bool) (p : List Bool) :
    Tr.setP v (b :: p) (Tr.nil : Tr α) = if b = true then .node (Tr.setP v p .nil) none .nil else .node .nil none (Tr.setP v p .nil) := by cases b <;> rfl
theorem Tr.getP_setP {α : Type} (v : Option α) : ∀ (p q : List Bool) (t : Tr α), (Tr.setP v p t).getP q = if q = p then v else t.getP q
  | [], q, t => by
    cases t with
    | nil =>
      show (Tr.node .nil v .nil).getP q = _
      cases q with
      | nil => simp [Tr.getP_here]
      | cons b q => simp [Tr.getP_cons, Tr.getP_nil]
    | node l x r =>
      show (Tr.node l v r).getP q = _
      cases q with
      | nil => simp [Tr.getP_here]
      | cons b q => simp [Tr.getP_cons]
  | a :: p, q, t => by
    cases t with
    | nil =>
      rw [Tr.setP_nil]
      cases q with
      | nil => cases a <;> simp [Tr.getP_here, Tr.getP_nil]
      | cons b q =>
        cases a <;> cases b <;> simp [Tr.getP_cons, Tr.getP_nil, Tr.getP_setP v p q]
    | node l x r =>
      rw [Tr.setP_node]
      cases q with
      | nil => cases a <;> simp [Tr.getP_here]
      | cons b q =>
        cases a <;> cases b <;> simp [Tr.getP_cons, Tr.getP_setP v p q]
def path (f : Nat) : Nat → List Bool :=
  @Nat.rec (fun _ => Nat → List Bool) (fun _ => [])
    (fun _ ih n => @Bool.rec (fun _ => List Bool) (List.cons (Nat.beq (Nat.mod n 2) 1) (ih (Nat.div (Nat.pred n) 2))) [] (Nat.beq n 0)) f
theorem rec_bool {α : Type} (a b : α) (c : Bool) : @Bool.rec (fun _ => α) a b c = if c = true then b else a := by cases c <;> rfl
theorem beq_eq (n m : Nat) : (Nat.beq n m = true) = (n = m) := by rw [Nat.beq_eq]
theorem path_succ (f n : Nat) : path (f + 1) n = if n = 0 then [] else (Nat.beq (n % 2) 1) :: path f ((n - 1) / 2) := by
  show @Bool.rec (fun _ => List Bool) (List.cons (Nat.beq (n % 2) 1) (path f ((n - 1) / 2))) [] (Nat.beq n 0) = _
  simp only [rec_bool, beq_eq]
theorem path_inj : ∀ (f n m : Nat), n + 1 ≤ 2 ^ f → m + 1 ≤ 2 ^ f → path f n = path f m → n = m
  | 0, n, m, hn, hm, _ => by simp at hn hm; omega
  | f + 1, n, m, hn, hm, h => by
    rw [path_succ, path_succ] at h
    have hp : 2 ^ (f + 1) = 2 * 2 ^ f := by rw [Nat.pow_succ]; omega
    by_cases h0 : n = 0
    · by_cases h1 : m = 0
      · omega
      · rw [if_pos h0, if_neg h1] at h; cases h
    · by_cases h1 : m = 0
      · rw [if_neg h0, if_pos h1] at h; cases h
      · rw [if_neg h0, if_neg h1] at h
        injection h with ha hb
        have := path_inj f _ _ (by omega) (by omega) hb
        have hq : (n % 2 = 1) = (m % 2 = 1) := by rw [← beq_eq, ← beq_eq, ha]
        have hq' : n % 2 = 1 ↔ m % 2 = 1 := by rw [hq]
        omega
def top : Nat := 549755813888
def Tr.get {α : Type} (t : Tr α) (n : Nat) : Option α := Tr.getP (path 40 n) t
def Tr.put {α : Type} (t : Tr α) (n : Nat) (v : Option α) : Tr α := Tr.setP v (path 40 n) t
theorem Tr.get_nil {α : Type} (n : Nat) : (Tr.nil : Tr α).get n = none := Tr.getP_nil _
theorem path_short : ∀ (f k n : Nat), n + 1 < 2 ^ k → (path f n).length < k
  | 0, k, n, h => by
    have : k ≠ 0 := by intro e; subst e; simp at h
    show 0 < k
    omega
  | f + 1, k, n, h => by
    rw [path_succ]
    have hk : k ≠ 0 := by intro e; subst e; simp at h
    by_cases h0 : n = 0
    · rw [if_pos h0]; show 0 < k; omega
    · rw [if_neg h0]
      obtain ⟨j, rfl⟩ : ∃ j, k = j + 1 := ⟨k - 1, by omega⟩
      have hp : 2 ^ (j + 1) = 2 * 2 ^ j := by rw [Nat.pow_succ]; omega
      have := path_short f j ((n - 1) / 2) (by omega)
      simp only [List.length_cons]; omega
theorem path_long : ∀ (f k n : Nat), k ≤ f → 2 ^ k ≤ n + 1 → k ≤ (path f n).length
  | _, 0, _, _, _ => Nat.zero_le _
  | 0, k + 1, _, h, _ => by omega
  | f + 1, k + 1, n, h, hn => by
    have hp : 2 ^ (k + 1) = 2 * 2 ^ k := by rw [Nat.pow_succ]; omega
    have h1 : 1 ≤ 2 ^ k := Nat.one_le_two_pow
    rw [path_succ, if_neg (by omega)]
    have := path_long f k ((n - 1) / 2) (by omega) (by omega)
    simp only [List.length_cons]; omega
theorem path_ne {n m : Nat} (h : n < top) (e : m ≠ n) : path 40 m ≠ path 40 n := by
  unfold top at h
  by_cases hm : m + 1 ≤ 2 ^ 40
  · exact fun k => e (path_inj 40 m n hm (by omega) k)
  · intro k
    have h1 := path_long 40 40 m (Nat.le_refl _) (by omega)
    have h2 := path_short 40 40 n (by omega)
    rw [k] at h1; omega
theorem Tr.get_put' {α : Type} (t : Tr α) (n m : Nat) (v : Option α) (h : n < top) : (t.put n v).get m = if m = n then v else t.get m := by
  unfold Tr.get Tr.put
  rw [Tr.getP_setP]
  by_cases e : m = n
  · subst e; simp
  · simp [e, path_ne h e]
theorem Tr.get_put {α : Type} (t : Tr α) (n m : Nat) (v : Option α) (h : n < top) (_ : m < top) : (t.put n v).get m = if m = n then v else t.get m := Tr.get_put' t n m v h
def Tr.fill {α : Type} (l : List α) : Nat → Tr α → Tr α :=
  @List.rec α (fun _ => Nat → Tr α → Tr α) (fun _ t => t) (fun x _ ih i t => ih (Nat.succ i) (t.put i (some x))) l
theorem Tr.get_fill {α : Type} : ∀ (l : List α) (i : Nat) (t : Tr α) (m : Nat), i + l.length ≤ top → m < top →
    (Tr.fill l i t).get m = if i ≤ m ∧ m < i + l.length then l[m - i]? else t.get m
  | [], i, t, m, _, _ => by
    show t.get m = _
    simp; intro h1 h2; omega
  | x :: l, i, t, m, h, hm => by
    simp only [List.length_cons] at h
    show (Tr.fill l (i + 1) (t.put i (some x))).get m = _
    rw [Tr.get_fill l _ _ _ (by omega) hm, Tr.get_put _ _ _ _ (by omega) hm]
    simp only [List.length_cons]
    by_cases h1 : i + 1 ≤ m ∧ m < i + 1 + l.length
    · have h2 : i ≤ m ∧ m < i + (l.length + 1) := by omega
      rw [if_pos h1, if_pos h2]
      obtain ⟨k, rfl⟩ : ∃ k, m = i + 1 + k := ⟨m - (i + 1), by omega⟩
      rw [show i + 1 + k - (i + 1) = k from by omega, show i + 1 + k - i = k + 1 from by omega]
      simp
    · rw [if_neg h1]
      by_cases e : m = i
      · subst e; simp
      · have h2 : ¬ (i ≤ m ∧ m < i + (l.length + 1)) := by omega
        rw [if_neg e, if_neg h2]
theorem Tr.get_fill' {α : Type} : ∀ (l : List α) (i : Nat) (t : Tr α) (m : Nat), i + l.length ≤ top →
    (Tr.fill l i t).get m = if i ≤ m ∧ m < i + l.length then l[m - i]? else t.get m
  | [], i, t, m, _ => by
    show t.get m = _
    simp; intro h1 h2; omega
  | x :: l, i, t, m, h => by
    simp only [List.length_cons] at h
    show (Tr.fill l (i + 1) (t.put i (some x))).get m = _
    rw [Tr.get_fill' l _ _ _ (by omega), Tr.get_put' _ _ _ _ (by omega)]
    simp only [List.length_cons]
    by_cases h1 : i + 1 ≤ m ∧ m < i + 1 + l.length
    · have h2 : i ≤ m ∧ m < i + (l.length + 1) := by omega
      rw [if_pos h1, if_pos h2]
      obtain ⟨k, rfl⟩ : ∃ k, m = i + 1 + k := ⟨m - (i + 1), by omega⟩
      rw [show i + 1 + k - (i + 1) = k from by omega, show i + 1 + k - i = k + 1 from by omega]
      simp
    · rw [if_neg h1]
      by_cases e : m = i
      · subst e; simp
      · have h2 : ¬ (i ≤ m ∧ m < i + (l.length + 1)) := by omega
        rw [if_neg e, if_neg h2]
end
end Go.Rn

namespace Go.Rn
def loose (b : Array Nat) (i j : Nat) : Bool := !((b.getD i 0).testBit j || (b.getD j 0).testBit i)
def EdgesOk (ops : Array Oper) : Prop := ∀ (j : Nat) (o : Oper) (e : Edge), ops[j]? = some o → e ∈ o.after → Region.binds .any e = true → e.on < j
def SlotsOk (ops : Array Oper) : Prop := ∀ (i j : Nat) (x y : Oper) (d : Tmp), i ≠ j → ops[i]? = some x → ops[j]? = some y → x.dst = some d → (d ∈ y.looksAt ops ∨ y.dst = some d) → loose (Region.before ops) i j = false
structure RegOk (ops : Array Oper) : Prop where
  edges : EdgesOk ops
  slots : SlotsOk ops
def CodeOk : Code → Prop
  | .seq a b => CodeOk a ∧ CodeOk b
  | .cond _ a b => CodeOk a ∧ CodeOk b
  | .block _ b => CodeOk b
  | .loop b => CodeOk b
  | .scope b => CodeOk b
  | .region _ ops draw => draw = true → RegOk ops
  | .rangeFunc _ _ a b => CodeOk a ∧ CodeOk b
  | _ => True
def ItemOk : Item → Prop
  | .code c => CodeOk c
  | .inLoop b => CodeOk b
  | .inScope b => CodeOk b
  | _ => True
def ItemsOk (l : List Item) : Prop := ∀ it ∈ l, ItemOk it
structure LoopOk (pend : Option Code) (assign body : Code) : Prop where
  pend : ∀ c, pend = some c → CodeOk c
  assign : CodeOk assign
  body : CodeOk body
theorem ItemsOk.cons {it : Item} {l : List Item} (h : ItemOk it) (k : ItemsOk l) : ItemsOk (it :: l) := by
  intro x hx
  rcases List.mem_cons.1 hx with rfl | hx
  · exact h
  · exact k x hx
theorem ItemsOk.head {it : Item} {l : List Item} (h : ItemsOk (it :: l)) : ItemOk it := h it List.mem_cons_self
theorem ItemsOk.tail {it : Item} {l : List Item} (h : ItemsOk (it :: l)) : ItemsOk l := fun x hx => h x (List.mem_cons_of_mem _ hx)
theorem ItemsOk.nil : ItemsOk [] := fun _ h => by cases h
theorem exitTo_ok {id : Nat} : ∀ {k k' : List Item}, exitTo id k = some k' → ItemsOk k → ItemsOk k'
  | [], _, h, _ => by simp [exitTo] at h
  | it :: k, k', h, hk => by
    cases it <;> simp only [exitTo] at h <;> first
      | exact exitTo_ok h hk.tail
      | (split at h
         · injection h with h; subst h; exact hk.tail
         · exact exitTo_ok h hk.tail)
theorem findLabel_ok {l : Nat} : ∀ {c r : Code}, findLabel c l = some r → CodeOk c → CodeOk r := by
  intro c
  induction c with
  | seq a b iha ihb =>
    intro r h hc
    simp only [findLabel] at h
    cases e : findLabel a l with
    | some q => rw [e] at h; injection h with h; subst h; exact ⟨iha e hc.1, hc.2⟩
    | none => rw [e] at h; exact ihb h hc.2
  | label l' =>
    intro r h _
    simp only [findLabel] at h
    split at h
    · injection h with h; subst h; trivial
    · cases h
  | _ => intro r h _; simp [findLabel] at h
theorem gotoIn_ok {l : Nat} : ∀ {k k' : List Item}, gotoIn l k = some k' → ItemsOk k → ItemsOk k'
  | [], _, h, _ => by simp [gotoIn] at h
  | it :: k, k', h, hk => by
    cases it <;> simp only [gotoIn] at h <;> first
      | exact gotoIn_ok h hk.tail
      | skip
    rename_i body
    cases e : findLabel body l with
    | some q => rw [e] at h; injection h with h; subst h; exact .cons (findLabel_ok e hk.head) hk
    | none => rw [e] at h; exact gotoIn_ok h hk.tail
end Go.Rn

namespace Go.Rn
inductive Cap where
  | known (c : Nat)
  | atLeast (lo e : Nat)
  | lost
  deriving Inhabited, DecidableEq
inductive AV where
  | bool (b : Bool)
  | int (k : IntKind) (n : Int)
  | str (s : ByteArray)
  | ptr (a : Option (Nat × Nat))
  | slice (a : Option (Nat × Nat)) (len : Nat) (cap : Cap)
  | rslice (n o len : Nat)
  | rptr (n o : Nat)
  | map (r : Option Nat)
  | func (fn : Fn) (first captured : List AV)
  | yield (l : Nat)
  | nilFunc
  | iface (t : TypeId) (v : AV)
  | nilIface
  | agg (cells : List AV)
  | tuple (vs : List AV)
  | zstr (n : Nat)
  deriving Inhabited
abbrev Ren := Nat → Option (Nat × Nat)
def Ren.le (ρ σ : Ren) : Prop := ∀ n x, ρ n = some x → σ n = some x
theorem Ren.le_refl (ρ : Ren) : ρ.le ρ := fun _ _ h => h
theorem Ren.le_trans {ρ σ τ : Ren} (h : ρ.le σ) (k : σ.le τ) : ρ.le τ := fun n x e => k n x (h n x e)
def plainFn : Fn → Bool
  | .yield _ => false
  | _ => true
mutual
def VR (ρ : Ren) : AV → Value → Prop
  | .bool b, v => v = .bool b
  | .int k n, v => v = .int k n
  | .str s, v => v = .string s
  | .ptr none, v => v = .pointer none
  | .ptr (some (n, o)), v => ∃ b N, ρ n = some (b, N) ∧ v = .pointer (some ⟨b, o, none⟩)
  | .slice none len (.known c), v => v = .slice none len c ∧ len = 0 ∧ c = 0
  | .slice none _ (.atLeast _ _), _ => False
  | .slice none _ .lost, _ => False
  | .slice (some (n, _)) len .lost, v => len = 0 ∧ ∃ b N o c, ρ n = some (b, N) ∧ v = .slice (some ⟨b, o, none⟩) 0 c
  | .slice (some (n, o)) len (.known c), v => ∃ b N, ρ n = some (b, N) ∧ v = .slice (some ⟨b, o, none⟩) len c
  | .slice (some (n, o)) len (.atLeast lo e), v => ∃ b N c, ρ n = some (b, N) ∧ v = .slice (some ⟨b, o, none⟩) len c ∧ lo ≤ c ∧ len ≤ c ∧ o + c * e ≤ N
  | .rslice n o len, v => ∃ b sh c, ρ n = some (b, sh) ∧ v = .slice (some ⟨b, sh + o, none⟩) len c ∧ (top ≤ n → len ≤ c)
  | .rptr n o, v => ∃ b sh, ρ n = some (b, sh) ∧ v = .pointer (some ⟨b, sh + o, none⟩)
  | .map none, v => v = .map none
  | .map (some n), v => ∃ b N, ρ n = some (b, N) ∧ v = .map (some b)
  | .func fn first captured, v => plainFn fn = true ∧ ∃ f c, v = .func fn f c ∧ VRs ρ first f.toList ∧ VRs ρ captured c.toList
  | .yield l, v => ∃ b N, ρ l = some (b, N) ∧ v = .func (.yield b) #[] #[]
  | .nilFunc, v => v = .nilFunc
  | .iface t x, v => ∃ y, v = .iface t y ∧ VR ρ x y
  | .nilIface, v => v = .nilIface
  | .agg l, v => ∃ a, v = .agg a ∧ VRs ρ l a.toList
  | .tuple l, v => ∃ a, v = .tuple a ∧ VRs ρ l a.toList
  | .zstr n, v => v = .string ⟨(List.replicate n (0 : UInt8)).toArray⟩
def VRs (ρ : Ren) : List AV → List Value → Prop
  | [], l => l = []
  | x :: xs, l => ∃ y ys, l = y :: ys ∧ VR ρ x y ∧ VRs ρ xs ys
end
mutual
theorem VR.mono {ρ σ : Ren} (h : ρ.le σ) : ∀ (x : AV) (v : Value), VR ρ x v → VR σ x v
  | .bool _, _, k => by simpa only [VR] using k
  | .int _ _, _, k => by simpa only [VR] using k
  | .str _, _, k => by simpa only [VR] using k
  | .zstr _, _, k => by simpa only [VR] using k
  | .ptr none, _, k => by simpa only [VR] using k
  | .ptr (some (n, o)), _, k => by
    simp only [VR] at k ⊢; obtain ⟨b, N, e, r⟩ := k; exact ⟨b, N, h _ _ e, r⟩
  | .slice none len (.known c), _, k => by simpa only [VR] using k
  | .slice none _ (.atLeast _ _), _, k => by simp only [VR] at k
  | .slice none _ .lost, _, k => by simp only [VR] at k
  | .slice (some (n, o)) len .lost, _, k => by
    simp only [VR] at k ⊢; obtain ⟨l, b, N, p, c, e, r⟩ := k; exact ⟨l, b, N, p, c, h _ _ e, r⟩
  | .slice (some (n, o)) len (.known c), _, k => by
    simp only [VR] at k ⊢; obtain ⟨b, N, e, r⟩ := k; exact ⟨b, N, h _ _ e, r⟩
  | .slice (some (n, o)) len (.atLeast lo e), _, k => by
    simp only [VR] at k ⊢; obtain ⟨b, N, c, e, r⟩ := k; exact ⟨b, N, c, h _ _ e, r⟩
  | .rslice n o len, _, k => by
    simp only [VR] at k ⊢; obtain ⟨b, sh, c, e, r⟩ := k; exact ⟨b, sh, c, h _ _ e, r⟩
  | .rptr n o, _, k => by
    simp only [VR] at k ⊢; obtain ⟨b, sh, e, r⟩ := k; exact ⟨b, sh, h _ _ e, r⟩
  | .map none, _, k => by simpa only [VR] using k
  | .map (some n), _, k => by
    simp only [VR] at k ⊢; obtain ⟨b, N, e, r⟩ := k; exact ⟨b, N, h _ _ e, r⟩
  | .func fn first captured, _, k => by
    simp only [VR] at k ⊢; obtain ⟨p, f, c, e, r, s⟩ := k; exact ⟨p, f, c, e, VRs.mono h _ _ r, VRs.mono h _ _ s⟩
  | .yield l, _, k => by
    simp only [VR] at k ⊢; obtain ⟨b, N, e, r⟩ := k; exact ⟨b, N, h _ _ e, r⟩
  | .nilFunc, _, k => by simpa only [VR] using k
  | .iface t x, _, k => by
    simp only [VR] at k ⊢; obtain ⟨y, e, r⟩ := k; exact ⟨y, e, VR.mono h _ _ r⟩
  | .nilIface, _, k => by simpa only [VR] using k
  | .agg l, _, k => by
    simp only [VR] at k ⊢; obtain ⟨a, e, r⟩ := k; exact ⟨a, e, VRs.mono h _ _ r⟩
  | .tuple l, _, k => by
    simp only [VR] at k ⊢; obtain ⟨a, e, r⟩ := k; exact ⟨a, e, VRs.mono h _ _ r⟩
theorem VRs.mono {ρ σ : Ren} (h : ρ.le σ) : ∀ (x : List AV) (v : List Value), VRs ρ x v → VRs σ x v
  | [], _, k => by simpa only [VRs] using k
  | x :: xs, _, k => by
    simp only [VRs] at k ⊢; obtain ⟨y, ys, e, r, s⟩ := k; exact ⟨y, ys, e, VR.mono h _ _ r, VRs.mono h _ _ s⟩
end
theorem VRs.length {ρ : Ren} : ∀ {x : List AV} {v : List Value}, VRs ρ x v → x.length = v.length
  | [], _, k => by simp only [VRs] at k; subst k; rfl
  | x :: xs, _, k => by
    simp only [VRs] at k; obtain ⟨y, ys, rfl, _, s⟩ := k; simp [VRs.length s]
theorem VRs.get {ρ : Ren} : ∀ {x : List AV} {v : List Value}, VRs ρ x v → ∀ (i : Nat) (a : AV), x[i]? = some a → ∃ b, v[i]? = some b ∧ VR ρ a b
  | [], _, _, _, _, h => by simp at h
  | x :: xs, _, k, i, a, h => by
    simp only [VRs] at k; obtain ⟨y, ys, rfl, r, s⟩ := k
    cases i with
    | zero => simp at h; subst h; exact ⟨y, rfl, r⟩
    | succ i => simp at h; obtain ⟨b, hb, hr⟩ := VRs.get s i a h; exact ⟨b, by simpa using hb, hr⟩
theorem VRs.append {ρ : Ren} : ∀ {x : List AV} {v : List Value} {x' : List AV} {v' : List Value}, VRs ρ x v → VRs ρ x' v' → VRs ρ (x ++ x') (v ++ v')
  | [], _, _, _, k, h => by simp only [VRs] at k; subst k; simpa using h
  | x :: xs, _, _, _, k, h => by
    simp only [VRs] at k; obtain ⟨y, ys, rfl, r, s⟩ := k
    simp only [List.cons_append, VRs]; exact ⟨y, _, rfl, r, VRs.append s h⟩
theorem VRs.of_get {ρ : Ren} : ∀ (x : List AV) (v : List Value), x.length = v.length → (∀ (i : Nat) (a : AV) (b : Value), x[i]? = some a → v[i]? = some b → VR ρ a b) → VRs ρ x v
  | [], [], _, _ => by simp only [VRs]
  | [], _ :: _, h, _ => by simp at h
  | _ :: _, [], h, _ => by simp at h
  | x :: xs, y :: ys, h, k => by
    simp only [VRs]; exact ⟨y, ys, rfl, k 0 x y rfl rfl, VRs.of_get xs ys (by simpa using h) fun i a b ha hb => k (i + 1) a b (by simpa using ha) (by simpa using hb)⟩
theorem VRs.take {ρ : Ren} : ∀ (n : Nat) {x : List AV} {v : List Value}, VRs ρ x v → VRs ρ (x.take n) (v.take n)
  | 0, _, _, _ => by simp [VRs]
  | n + 1, [], _, k => by simp only [VRs] at k; subst k; simp [VRs]
  | n + 1, x :: xs, _, k => by
    simp only [VRs] at k; obtain ⟨y, ys, rfl, r, s⟩ := k
    simp only [List.take_succ_cons, VRs]; exact ⟨y, _, rfl, r, VRs.take n s⟩
theorem VRs.drop {ρ : Ren} : ∀ (n : Nat) {x : List AV} {v : List Value}, VRs ρ x v → VRs ρ (x.drop n) (v.drop n)
  | 0, _, _, k => by simpa using k
  | n + 1, [], _, k => by simp only [VRs] at k; subst k; simp [VRs]
  | n + 1, x :: xs, _, k => by
    simp only [VRs] at k; obtain ⟨y, ys, rfl, r, s⟩ := k
    simpa using VRs.drop n s
def aundef : AV := .tuple []
theorem VR.undef (ρ : Ren) : VR ρ aundef Go.undef := by
  simp only [aundef, Go.undef, VR, VRs]; exact ⟨#[], rfl, rfl⟩
def AV.cells : AV → List AV
  | .agg l => l
  | v => [v]
theorem VR.cells {ρ : Ren} {x : AV} {v : Value} (h : VR ρ x v) : VRs ρ x.cells v.cells.toList := by
  cases x <;> (try (simp only [VR] at h; subst h; simp only [AV.cells, Value.cells, VRs, VR]; exact ⟨_, _, rfl, rfl, rfl⟩))
  case ptr a =>
    cases a with
    | none => simp only [VR] at h; subst h; simp only [AV.cells, Value.cells, VRs, VR]; exact ⟨_, _, rfl, rfl, rfl⟩
    | some a =>
      obtain ⟨n, o⟩ := a
      have h' := h
      simp only [VR] at h'; obtain ⟨b, N, _, rfl⟩ := h'
      simp only [AV.cells, Value.cells, VRs]; exact ⟨_, _, rfl, h, rfl⟩
  case slice a len cap =>
    have : ∃ p q r, v = .slice p q r := by
      cases a with
      | none => cases cap <;> simp only [VR] at h; exact ⟨_, _, _, h.1⟩
      | some a =>
        obtain ⟨n, o⟩ := a
        cases cap <;> simp only [VR] at h
        · obtain ⟨b, N, _, rfl⟩ := h; exact ⟨_, _, _, rfl⟩
        · obtain ⟨b, N, c, _, rfl, _⟩ := h; exact ⟨_, _, _, rfl⟩
        · obtain ⟨_, b, N, p, c, _, rfl⟩ := h; exact ⟨_, _, _, rfl⟩
    obtain ⟨p, q, r, rfl⟩ := this
    simp only [AV.cells, Value.cells, VRs]; exact ⟨_, _, rfl, h, rfl⟩
  case rslice n o len =>
    have h' := h
    simp only [VR] at h'; obtain ⟨b, sh, c, _, rfl, _⟩ := h'
    simp only [AV.cells, Value.cells, VRs]; exact ⟨_, _, rfl, h, rfl⟩
  case rptr n o =>
    have h' := h
    simp only [VR] at h'; obtain ⟨b, sh, _, rfl⟩ := h'
    simp only [AV.cells, Value.cells, VRs]; exact ⟨_, _, rfl, h, rfl⟩
  case map a =>
    cases a with
    | none => simp only [VR] at h; subst h; simp only [AV.cells, Value.cells, VRs, VR]; exact ⟨_, _, rfl, rfl, rfl⟩
    | some a =>
      have h' := h
      simp only [VR] at h'; obtain ⟨b, N, _, rfl⟩ := h'
      simp only [AV.cells, Value.cells, VRs]; exact ⟨_, _, rfl, h, rfl⟩
  case func fn f c =>
    have h' := h
    simp only [VR] at h'; obtain ⟨_, _, _, rfl, _⟩ := h'
    simp only [AV.cells, Value.cells, VRs]; exact ⟨_, _, rfl, h, rfl⟩
  case yield l =>
    have h' := h
    simp only [VR] at h'; obtain ⟨_, _, _, rfl⟩ := h'
    simp only [AV.cells, Value.cells, VRs]; exact ⟨_, _, rfl, h, rfl⟩
  case iface t x =>
    have h' := h
    simp only [VR] at h'; obtain ⟨_, rfl, _⟩ := h'
    simp only [AV.cells, Value.cells, VRs]; exact ⟨_, _, rfl, h, rfl⟩
  case agg l =>
    simp only [VR] at h; obtain ⟨a, rfl, k⟩ := h
    simpa only [AV.cells, Value.cells] using k
  case tuple l =>
    have h' := h
    simp only [VR] at h'; obtain ⟨_, rfl, _⟩ := h'
    simp only [AV.cells, Value.cells, VRs]; exact ⟨_, _, rfl, h, rfl⟩
def AV.oneCell : AV → Bool
  | .agg _ | .tuple _ => false
  | _ => true
theorem VR.oneCell {ρ : Ren} {x : AV} {v : Value} (h : VR ρ x v) (hx : x.oneCell = true) : ∀ cs, v ≠ .agg cs ∧ v ≠ .tuple cs := by
  intro cs
  cases x <;> (try (simp only [VR] at h; subst h; simp; done)) <;> (try (simp [AV.oneCell] at hx; done))
  case ptr a =>
    cases a with
    | none => simp only [VR] at h; subst h; simp
    | some a => obtain ⟨n, o⟩ := a; simp only [VR] at h; obtain ⟨_, _, _, rfl⟩ := h; simp
  case slice a len cap =>
    cases a with
    | none => cases cap <;> simp only [VR] at h; rw [h.1]; simp
    | some a =>
      obtain ⟨n, o⟩ := a
      cases cap <;> simp only [VR] at h
      · obtain ⟨_, _, _, rfl⟩ := h; simp
      · obtain ⟨_, _, _, _, rfl, _⟩ := h; simp
      · obtain ⟨_, _, _, _, _, _, rfl⟩ := h; simp
  case rslice n o len => simp only [VR] at h; obtain ⟨_, _, _, _, rfl, _⟩ := h; simp
  case rptr n o => simp only [VR] at h; obtain ⟨_, _, _, rfl⟩ := h; simp
  case map a =>
    cases a with
    | none => simp only [VR] at h; subst h; simp
    | some a => simp only [VR] at h; obtain ⟨_, _, _, rfl⟩ := h; simp
  case func fn f c => simp only [VR] at h; obtain ⟨_, _, _, rfl, _⟩ := h; simp
  case yield l => simp only [VR] at h; obtain ⟨_, _, _, rfl⟩ := h; simp
  case iface t x => simp only [VR] at h; obtain ⟨_, rfl, _⟩ := h; simp
inductive AObj where
  | cells (n : Nat) (t : Tr AV) (z : List AV)
  | map (es : List (AV × AV)) (clock : Nat)
  | mapAny (es : List (AV × AV))
  | loop (st : LoopState) (pend : Option Code) (fn : FuncId) (tmps : Tr AV) (nt : Nat) (params : List Tmp) (assign body : Code) (defers : Nat)
  | defs
  | ro (n : Nat) (t : Tr AV)
  | rorow (n : Nat) (t : Tr AV)
  | striter (s : ByteArray) (pos : Nat)
  | iter (m : Nat) (es : List (AV × AV)) (exact : Bool) (left : List (AV × AV)) (cur : Option (AV × AV))
  | lent
  deriving Inhabited
noncomputable def cellAt (t : Tr AV) (z : List AV) (i : Nat) : Option AV :=
  match t.get i with
  | some v => some v
  | none => z[i % z.length]?
def AObj.isRo : AObj → Bool
  | .ro _ _ => true
  | .rorow _ _ => true
  | _ => false
def TR (ρ : Ren) (nt : Nat) (t : Tr AV) (a : Array Value) : Prop :=
  a.size = nt ∧ ∀ i x, t.get i = some x → VR ρ x (a.getD i Go.undef)
theorem TR.mono {ρ σ : Ren} (h : ρ.le σ) {nt : Nat} {t : Tr AV} {a : Array Value} (k : TR ρ nt t a) : TR σ nt t a :=
  ⟨k.1, fun i x e => VR.mono h _ _ (k.2 i x e)⟩
theorem TR.set {ρ : Ren} {nt : Nat} {t : Tr AV} {a : Array Value} (k : TR ρ nt t a) {d : Nat} {x : AV} {v : Value} (hd : d < nt) (ht : nt ≤ top) (h : VR ρ x v) :
    TR ρ nt (t.put d (some x)) (a.setIfInBounds d v) := by
  refine ⟨by simp [k.1], fun i y hy => ?_⟩
  rw [Tr.get_put' _ _ _ _ (by omega)] at hy
  by_cases e : i = d
  · subst e
    have : (a.setIfInBounds i v).getD i Go.undef = v := by
      rw [Array.getD_eq_getD_getElem?, Array.getElem?_setIfInBounds_self_of_lt (by rw [k.1]; exact hd)]; rfl
    rw [if_pos rfl] at hy; injection hy with hy; subst hy
    rw [this]; exact h
  · have : (a.setIfInBounds d v).getD i Go.undef = a.getD i Go.undef := by
      rw [Array.getD_eq_getD_getElem?, Array.getElem?_setIfInBounds_ne (by omega), ← Array.getD_eq_getD_getElem?]
    rw [if_neg e] at hy; rw [this]; exact k.2 i y hy
def ERs (ρ : Ren) : List (AV × AV) → List MapEntry → Nat → Prop
  | [], l, _ => l = []
  | x :: xs, l, i => ∃ e es, l = e :: es ∧ VR ρ x.1 e.key ∧ VR ρ x.2 e.val ∧ e.born = i ∧ ERs ρ xs es (i + 1)
theorem ERs.mono {ρ σ : Ren} (h : ρ.le σ) : ∀ (x : List (AV × AV)) (l : List MapEntry) (i : Nat), ERs ρ x l i → ERs σ x l i
  | [], _, _, k => k
  | x :: xs, _, i, k => by
    obtain ⟨e, es, r, a, b, c, d⟩ := k; exact ⟨e, es, r, VR.mono h _ _ a, VR.mono h _ _ b, c, ERs.mono h xs es _ d⟩
def EQs (ρ : Ren) : List (AV × AV) → List MapEntry → Prop
  | [], l => l = []
  | x :: xs, l => ∃ e es, l = e :: es ∧ VR ρ x.1 e.key ∧ VR ρ x.2 e.val ∧ EQs ρ xs es
theorem EQs.mono {ρ σ : Ren} (h : ρ.le σ) : ∀ (x : List (AV × AV)) (l : List MapEntry), EQs ρ x l → EQs σ x l
  | [], _, k => k
  | x :: xs, _, k => by
    obtain ⟨e, es, r, a, b, d⟩ := k; exact ⟨e, es, r, VR.mono h _ _ a, VR.mono h _ _ b, EQs.mono h xs es d⟩
theorem ERs.eqs {ρ : Ren} : ∀ {x : List (AV × AV)} {l : List MapEntry} {i : Nat}, ERs ρ x l i → EQs ρ x l
  | [], _, _, k => k
  | _ :: _, _, _, k => by
    obtain ⟨e, es, r, a, b, _, d⟩ := k; exact ⟨e, es, r, a, b, d.eqs⟩
def EPs (ρ : Ren) (es : List (AV × AV)) (l : List MapEntry) : Prop := ∃ l', l.Perm l' ∧ EQs ρ es l'
theorem EPs.mono {ρ σ : Ren} (h : ρ.le σ) {x : List (AV × AV)} {l : List MapEntry} (k : EPs ρ x l) : EPs σ x l := by
  obtain ⟨l', p, n⟩ := k
  exact ⟨l', p, n.mono h⟩
def sameKey : AV → AV → Option Bool
  | .int k a, .int k' b => match decide (k = k') with
    | true => some (a == b)
    | false => none
  | .str a, .str b => some (a == b)
  | .bool a, .bool b => some (a == b)
  | _, _ => none
def KeysApart (es : List (AV × AV)) : Prop := es.Pairwise fun a b => sameKey a.1 b.1 = some false ∧ sameKey b.1 a.1 = some false
def BornOk (l : List MapEntry) (clock : Nat) : Prop := (l.map (·.born)).Nodup ∧ ∀ e ∈ l, e.born < clock
def OR (ρ : Ren) (N : Nat) : AObj → Obj → Prop
  | .cells n t z, o => ∃ c e, o = .cells c e (0, 0) ∧ c.size = N ∧ n ≤ N ∧ ∀ i, i < n → ∃ x v, cellAt t z i = some x ∧ x.oneCell = true ∧ c[i]? = some v ∧ VR ρ x v
  | .map es clock, o => ∃ l, o = .map l clock ∧ clock = es.length ∧ ERs ρ es l.toList 0
  | .mapAny es, o => ∃ l clock, o = .map l clock ∧ KeysApart es ∧ BornOk l.toList clock ∧ EPs ρ es l.toList
  | .loop st pend fn tmps nt params assign body defers, o => ∃ a b M, o = .loop { state := st, pending := pend, fn, tmps := a, params := params.toArray, assign, body, defers := b } ∧ TR ρ nt tmps a ∧ nt ≤ top ∧ ρ defers = some (b, M) ∧ LoopOk pend assign body
  | .defs, o => o = .deferred (some [])
  | .ro n t, o => ∃ c e fr, o = .cells c e fr ∧ c.size = N ∧ n = N ∧ ∀ i, i < n → ∃ x v, t.get i = some x ∧ x.oneCell = true ∧ c[i]? = some v ∧ VR ρ x v
  | .rorow n t, o => ∃ c e fr, o = .cells c e fr ∧ ∀ i, i < n → ∃ x v, t.get i = some x ∧ x.oneCell = true ∧ c[N + i]? = some v ∧ VR ρ x v
  | .striter s pos, o => o = .stringIter s pos
  | .iter m _ _ _ _, o => ∃ b M c s, ρ m = some (b, M) ∧ o = .mapIter (some b) c s c
  | .lent, o => ∃ l clock, o = .map l clock
theorem OR.mono {ρ σ : Ren} (h : ρ.le σ) {N : Nat} {x : AObj} {o : Obj} (k : OR ρ N x o) : OR σ N x o := by
  cases x <;> simp only [OR] at k ⊢
  case cells n t z =>
    obtain ⟨c, e, r, s, u, f⟩ := k
    exact ⟨c, e, r, s, u, fun i hi => let ⟨x, v, a, b, d, q⟩ := f i hi; ⟨x, v, a, b, d, VR.mono h _ _ q⟩⟩
  case map es clock => obtain ⟨l, r, c, s⟩ := k; exact ⟨l, r, c, ERs.mono h _ _ _ s⟩
  case mapAny es => obtain ⟨l, c, r, a, b, s⟩ := k; exact ⟨l, c, r, a, b, s.mono h⟩
  case loop st pend fn tmps nt params assign body defers => obtain ⟨a, b, M, r, s, q, u, v⟩ := k; exact ⟨a, b, M, r, s.mono h, q, h _ _ u, v⟩
  case defs => exact k
  case ro n t =>
    obtain ⟨c, e, q, r, s, u, f⟩ := k
    exact ⟨c, e, q, r, s, u, fun i hi => let ⟨x, v, a, b, d, q⟩ := f i hi; ⟨x, v, a, b, d, VR.mono h _ _ q⟩⟩
  case rorow n t =>
    obtain ⟨c, e, q, r, f⟩ := k
    exact ⟨c, e, q, r, fun i hi => let ⟨x, v, a, b, d, q⟩ := f i hi; ⟨x, v, a, b, d, VR.mono h _ _ q⟩⟩
  case striter s pos => exact k
  case iter m es ex left cur => obtain ⟨b, M, c, s, r, q⟩ := k; exact ⟨b, M, c, s, h _ _ r, q⟩
  case lent => exact k
def Under (ρ : Ren) (w : World) (n m : Nat) (es : List (AV × AV)) (exact : Bool) (left : List (AV × AV)) (cur : Option (AV × AV)) : Prop :=
  ∃ b N bm M l clock seen, ρ n = some (b, N) ∧ ρ m = some (bm, M) ∧ w.heap[b]? = some (.mapIter (some bm) clock seen clock) ∧ w.heap[bm]? = some (.map l clock) ∧
    BornOk l.toList clock ∧ (exact = true → clock = es.length ∧ ERs ρ es l.toList 0) ∧ (exact = false → KeysApart es ∧ EPs ρ es l.toList) ∧
    EPs ρ left (l.toList.filter fun e => !seen.contains e.born) ∧
    (match cur with
    | none => seen = #[]
    | some x => ∃ e, e ∈ l.toList ∧ seen.back? = some e.born ∧ VR ρ x.1 e.key ∧ VR ρ x.2 e.val)
theorem Under.mono {ρ σ : Ren} (h : ρ.le σ) {w : World} {n m : Nat} {es : List (AV × AV)} {ex : Bool} {left : List (AV × AV)} {cur : Option (AV × AV)}
    (k : Under ρ w n m es ex left cur) : Under σ w n m es ex left cur := by
  obtain ⟨b, N, bm, M, l, clock, seen, h1, h2, h3, h4, h5, h6, h7, h8, h9⟩ := k
  refine ⟨b, N, bm, M, l, clock, seen, h _ _ h1, h _ _ h2, h3, h4, h5, fun e => ⟨(h6 e).1, (h6 e).2.mono h⟩, fun e => ⟨(h7 e).1, (h7 e).2.mono h⟩, h8.mono h, ?_⟩
  cases cur with
  | none => exact h9
  | some x => obtain ⟨e, a, b, c, d⟩ := h9; exact ⟨e, a, b, VR.mono h _ _ c, VR.mono h _ _ d⟩
structure Base where
  may : Nat → Prop
  F : Nat → Option (List AV)
def baseOf (W : World) : Base := ⟨fun k => W.heap.size ≤ k, fun _ => none⟩
def NoW (ρ : Ren) (h : Tr AObj) (b : Nat) : Prop := ∀ m o N, m < top → h.get m = some o → o.isRo = false → ρ m ≠ some (b, N)
def hiF (F : Nat → Option (List AV)) (ρ : Ren) : Ren := fun k => if (F k).isSome = true then ρ k else none
theorem hiF_le (F : Nat → Option (List AV)) (ρ : Ren) : (hiF F ρ).le ρ := by
  intro k x e
  unfold hiF at e
  split at e
  · exact e
  · cases e
theorem hiF_mono (F : Nat → Option (List AV)) {ρ σ : Ren} (h : ρ.le σ) : (hiF F ρ).le (hiF F σ) := by
  intro k x e
  unfold hiF at e ⊢
  split at e
  · rename_i q; rw [if_pos q]; exact h _ _ e
  · cases e
def Fz (B : Base) (ρ : Ren) (h : Tr AObj) (w : World) : Prop :=
  ∀ n l, B.F n = some l → top ≤ n ∧ ∃ b sh c e fr, ρ n = some (b, sh) ∧ w.heap[b]? = some (.cells c e fr) ∧ NoW ρ h b ∧ ∀ i x, l[i]? = some x → ∃ v, c[sh + i]? = some v ∧ VR (hiF B.F ρ) x v ∧ x.oneCell = true
structure Rel (B : Base) (ρ : Ren) (h : Tr AObj) (w : World) : Prop where
  is : ∀ n o, n < top → h.get n = some o → ∃ b N o', ρ n = some (b, N) ∧ w.heap[b]? = some o' ∧ OR ρ N o o' ∧ (o.isRo = false → B.may b)
  one : ∀ n m o p b N M, n < top → m < top → h.get n = some o → h.get m = some p → (o.isRo = false ∨ p.isRo = false) → ρ n = some (b, N) → ρ m = some (b, M) → n = m
  iter : ∀ n m es ex left cur, n < top → h.get n = some (.iter m es ex left cur) → m < top ∧ h.get m = some .lent ∧ Under ρ w n m es ex left cur
  size : ∀ k, w.heap.size ≤ k → B.may k
  lone : ∀ i j m es ex left cur es' ex' left' cur', i < top → j < top → h.get i = some (.iter m es ex left cur) → h.get j = some (.iter m es' ex' left' cur') → i = j
  fz : Fz B ρ h w
end Go.Rn

namespace Go.Rn
structure AS where
  h : Tr AObj
  nx : Nat
  mark : Nat
  rd : List Nat
  wr : List Nat
inductive R (α : Type) where
  | bad
  | ok (a : α) (s : AS)
def M (α : Type) : Type := AS → R α
noncomputable def M.pure {α : Type} (a : α) : M α := fun s => .ok a s
noncomputable def M.bind {α β : Type} (m : M α) (f : α → M β) : M β := fun s => @R.rec α (fun _ => R β) .bad (fun a s1 => f a s1) (m s)
noncomputable instance : Monad M where
  pure := M.pure
  bind := M.bind
noncomputable def fail {α : Type} : M α := fun _ => .bad
noncomputable def lift {α : Type} (o : Option α) : M α := fun s => @Option.rec α (fun _ => R α) .bad (fun a => .ok a s) o
noncomputable def withO {α β : Type} (o : Option α) (f : α → M β) : M β := fun s => @Option.rec α (fun _ => R β) .bad (fun a => f a s) o
noncomputable def need (b : Bool) : M Unit := fun s => @Bool.rec (fun _ => R Unit) .bad (.ok () s) b
noncomputable def withB {β : Type} (b : Bool) (m : M β) : M β := fun s => @Bool.rec (fun _ => R β) .bad (m s) b
noncomputable def forced {α : Type} (n : Nat) (k : Nat → α) : α := @Nat.rec (fun _ => α) (k 0) (fun m _ => k (m + 1)) n
theorem forced_eq {α : Type} (n : Nat) (k : Nat → α) : forced n k = k n := by cases n <;> rfl
noncomputable def rdN (n : Nat) : M AObj := fun s =>
  @AS.rec (fun _ => R AObj) (fun h nx mark rd wr =>
    @Bool.rec (fun _ => R AObj) .bad
      (@Option.rec AObj (fun _ => R AObj) .bad
        (fun o => @Bool.rec (fun _ => R AObj) (.ok o ⟨h, nx, mark, rd, wr⟩) (.ok o ⟨h, nx, mark, n :: rd, wr⟩) (Nat.blt n mark))
        (h.get n))
      (Nat.blt n nx)) s
noncomputable def wrN (n : Nat) (o : Option AObj) : M Unit := fun s =>
  @AS.rec (fun _ => R Unit) (fun h nx mark rd wr =>
    @Bool.rec (fun _ => R Unit) .bad
      (@Option.rec AObj (fun _ => R Unit) .bad
        (fun p => @Bool.rec (fun _ => R Unit)
          (@Bool.rec (fun _ => R Unit) (.ok () ⟨h.put n o, nx, mark, rd, wr⟩) (.ok () ⟨h.put n o, nx, mark, n :: rd, n :: wr⟩) (Nat.blt n mark))
          .bad p.isRo)
        (h.get n))
      (and (Nat.blt n nx) (Nat.blt n top))) s
noncomputable def newN (o : AObj) : M Nat := fun s =>
  @AS.rec (fun _ => R Nat) (fun h nx mark rd wr =>
    @Bool.rec (fun _ => R Nat) .bad (forced nx fun m => .ok m ⟨h.put m (some o), m + 1, mark, rd, wr⟩) (Nat.blt nx top)) s
end Go.Rn
