/- Steps over memory under names: what is read and written of older names is noted. -/
import Derived.Test.YtcjmdcndalcomaaGreatDoorRnDom
namespace Go.Rn

/-- What is at each name; the next name; below which name reads and writes are noted; what was read, and written, below it. -/
structure AS where
  h : Tr AObj
  nx : Nat
  mark : Nat
  rd : List Nat
  wr : List Nat

inductive R (α : Type) where
  | bad
  | ok (a : α) (s : AS)

def M (α : Type) : Type := AS → R α
noncomputable def M.pure {α : Type} (a : α) : M α := fun s => .ok a s
noncomputable def M.bind {α β : Type} (m : M α) (f : α → M β) : M β := fun s => @R.rec α (fun _ => R β) .bad (fun a s1 => f a s1) (m s)
noncomputable instance : Monad M where
  pure := M.pure
  bind := M.bind
noncomputable def fail {α : Type} : M α := fun _ => .bad
noncomputable def lift {α : Type} (o : Option α) : M α := fun s => @Option.rec α (fun _ => R α) .bad (fun a => .ok a s) o
/-- Goes on with what is there. -/
noncomputable def withO {α β : Type} (o : Option α) (f : α → M β) : M β := fun s => @Option.rec α (fun _ => R β) .bad (fun a => f a s) o
noncomputable def need (b : Bool) : M Unit := fun s => @Bool.rec (fun _ => R Unit) .bad (.ok () s) b

noncomputable def withB {β : Type} (b : Bool) (m : M β) : M β := fun s => @Bool.rec (fun _ => R β) .bad (m s) b

/-- A number, reckoned first. -/
noncomputable def forced {α : Type} (n : Nat) (k : Nat → α) : α := @Nat.rec (fun _ => α) (k 0) (fun m _ => k (m + 1)) n
theorem forced_eq {α : Type} (n : Nat) (k : Nat → α) : forced n k = k n := by cases n <;> rfl

noncomputable def rdN (n : Nat) : M AObj := fun s =>
  @AS.rec (fun _ => R AObj) (fun h nx mark rd wr =>
    @Bool.rec (fun _ => R AObj) .bad
      (@Option.rec AObj (fun _ => R AObj) .bad
        (fun o => @Bool.rec (fun _ => R AObj) (.ok o ⟨h, nx, mark, rd, wr⟩) (.ok o ⟨h, nx, mark, n :: rd, wr⟩) (Nat.blt n mark))
        (h.get n))
      (Nat.blt n nx)) s

noncomputable def wrN (n : Nat) (o : Option AObj) : M Unit := fun s =>
  @AS.rec (fun _ => R Unit) (fun h nx mark rd wr =>
    @Bool.rec (fun _ => R Unit) .bad
      (@Option.rec AObj (fun _ => R Unit) .bad
        (fun p => @Bool.rec (fun _ => R Unit)
          (@Bool.rec (fun _ => R Unit) (.ok () ⟨h.put n o, nx, mark, rd, wr⟩) (.ok () ⟨h.put n o, nx, mark, n :: rd, n :: wr⟩) (Nat.blt n mark))
          .bad p.isRo)
        (h.get n))
      (and (Nat.blt n nx) (Nat.blt n top))) s

noncomputable def newN (o : AObj) : M Nat := fun s =>
  @AS.rec (fun _ => R Nat) (fun h nx mark rd wr =>
    @Bool.rec (fun _ => R Nat) .bad (forced nx fun m => .ok m ⟨h.put m (some o), m + 1, mark, rd, wr⟩) (Nat.blt nx top)) s
end Go.Rn
