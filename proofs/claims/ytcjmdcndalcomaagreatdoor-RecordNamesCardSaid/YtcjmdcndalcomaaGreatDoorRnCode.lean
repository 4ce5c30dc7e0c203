/- What is asked of a region whose row is drawn, and of code. -/
import Derived.Test.YtcjmdcndalcomaaGreatDoorRnTr
import Derived.Orders
namespace Go.Rn

/-- Neither stands ahead of the other. -/
def loose (b : Array Nat) (i j : Nat) : Bool := !((b.getD i 0).testBit j || (b.getD j 0).testBit i)
/-- What stands ahead of an operation stands ahead of it in the text. -/
def EdgesOk (ops : Array Oper) : Prop := ∀ (j : Nat) (o : Oper) (e : Edge), ops[j]? = some o → e ∈ o.after → Region.binds .any e = true → e.on < j
/-- Neither looks at, or writes, a slot that the other writes, unless one stands ahead of the other. -/
def SlotsOk (ops : Array Oper) : Prop := ∀ (i j : Nat) (x y : Oper) (d : Tmp), i ≠ j → ops[i]? = some x → ops[j]? = some y → x.dst = some d → (d ∈ y.looksAt ops ∨ y.dst = some d) → loose (Region.before ops) i j = false
structure RegOk (ops : Array Oper) : Prop where
  edges : EdgesOk ops
  slots : SlotsOk ops

/-- Every region in it whose row is drawn is such a one. -/
def CodeOk : Code → Prop
  | .seq a b => CodeOk a ∧ CodeOk b
  | .cond _ a b => CodeOk a ∧ CodeOk b
  | .block _ b => CodeOk b
  | .loop b => CodeOk b
  | .scope b => CodeOk b
  | .region _ ops draw => draw = true → RegOk ops
  | .rangeFunc _ _ a b => CodeOk a ∧ CodeOk b
  | _ => True
def ItemOk : Item → Prop
  | .code c => CodeOk c
  | .inLoop b => CodeOk b
  | .inScope b => CodeOk b
  | _ => True
def ItemsOk (l : List Item) : Prop := ∀ it ∈ l, ItemOk it
structure LoopOk (pend : Option Code) (assign body : Code) : Prop where
  pend : ∀ c, pend = some c → CodeOk c
  assign : CodeOk assign
  body : CodeOk body
theorem ItemsOk.cons {it : Item} {l : List Item} (h : ItemOk it) (k : ItemsOk l) : ItemsOk (it :: l) := by
  intro x hx
  rcases List.mem_cons.1 hx with rfl | hx
  · exact h
  · exact k x hx
theorem ItemsOk.head {it : Item} {l : List Item} (h : ItemsOk (it :: l)) : ItemOk it := h it List.mem_cons_self
theorem ItemsOk.tail {it : Item} {l : List Item} (h : ItemsOk (it :: l)) : ItemsOk l := fun x hx => h x (List.mem_cons_of_mem _ hx)
theorem ItemsOk.nil : ItemsOk [] := fun _ h => by cases h
theorem exitTo_ok {id : Nat} : ∀ {k k' : List Item}, exitTo id k = some k' → ItemsOk k → ItemsOk k'
  | [], _, h, _ => by simp [exitTo] at h
  | it :: k, k', h, hk => by
    cases it <;> simp only [exitTo] at h <;> first
      | exact exitTo_ok h hk.tail
      | (split at h
         · injection h with h; subst h; exact hk.tail
         · exact exitTo_ok h hk.tail)
theorem findLabel_ok {l : Nat} : ∀ {c r : Code}, findLabel c l = some r → CodeOk c → CodeOk r := by
  intro c
  induction c with
  | seq a b iha ihb =>
    intro r h hc
    simp only [findLabel] at h
    cases e : findLabel a l with
    | some q => rw [e] at h; injection h with h; subst h; exact ⟨iha e hc.1, hc.2⟩
    | none => rw [e] at h; exact ihb h hc.2
  | label l' =>
    intro r h _
    simp only [findLabel] at h
    split at h
    · injection h with h; subst h; trivial
    · cases h
  | _ => intro r h _; simp [findLabel] at h
theorem gotoIn_ok {l : Nat} : ∀ {k k' : List Item}, gotoIn l k = some k' → ItemsOk k → ItemsOk k'
  | [], _, h, _ => by simp [gotoIn] at h
  | it :: k, k', h, hk => by
    cases it <;> simp only [gotoIn] at h <;> first
      | exact gotoIn_ok h hk.tail
      | skip
    rename_i body
    cases e : findLabel body l with
    | some q => rw [e] at h; injection h with h; subst h; exact .cons (findLabel_ok e hk.head) hk
    | none => rw [e] at h; exact gotoIn_ok h hk.tail
end Go.Rn
