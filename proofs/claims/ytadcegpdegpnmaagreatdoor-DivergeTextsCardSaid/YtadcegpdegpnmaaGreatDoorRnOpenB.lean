/- Names called anew: what is kept of values and rows. -/
import Derived.Test.YtadcegpdegpnmaaGreatDoorRnOpenA
import Derived.ChangeArms
import Derived.ChangeShapes
namespace Go.Rn
open Go.RowKit
section
variable {r : Nat → Nat}

theorem VEnt.int (k : IntKind) (n : Int) : VEnt r (.int k n) (.int k n) := fun _ _ h => h
theorem VEnt.intEq {k : IntKind} {n m : Int} (e : n = m) : VEnt r (.int k n) (.int k m) := by subst e; exact VEnt.int k n
theorem VEnt.bool (b : Bool) : VEnt r (.bool b) (.bool b) := fun _ _ h => h
theorem VEnt.str (s : ByteArray) : VEnt r (.str s) (.str s) := fun _ _ h => h
theorem VEnt.nilptr : VEnt r (.ptr none) (.ptr none) := fun _ _ h => h
theorem VEnt.nilslice : VEnt r (.slice none 0 (.known 0)) (.slice none 0 (.known 0)) := fun _ _ h => h
theorem VEnt.ptr {n m o : Nat} (e : r m = n) : VEnt r (.ptr (some (n, o))) (.ptr (some (m, o))) := by
  intro ρ v h
  simp only [VR] at h ⊢
  rw [e]; exact h
theorem VEnt.map {n m : Nat} (e : r m = n) : VEnt r (.map (some n)) (.map (some m)) := by
  intro ρ v h
  simp only [VR] at h ⊢
  rw [e]; exact h
theorem VEnt.slice {n m o len : Nat} {c : Cap} (e : r m = n) : VEnt r (.slice (some (n, o)) len c) (.slice (some (m, o)) len c) := by
  intro ρ v h
  cases c <;> simp only [VR] at h ⊢ <;> rw [e] <;> exact h
theorem VEnt.rslice {n o len : Nat} (e : r n = n) : VEnt r (.rslice n o len) (.rslice n o len) := by
  intro ρ v h
  simp only [VR] at h ⊢
  rw [e]; exact h
theorem VEnt.sl {α : Type} {F : Nat → Option (List AV)} {a : AV} {K : Nat} {enc : α → List AV} {l : List α} (h : SlT F a K enc l) (hr : ∀ k, top ≤ k → r k = k) : VEnt r a a := by
  obtain ⟨_, ⟨rfl, _⟩ | ⟨nm, o, row, rfl, h2, _⟩⟩ := h
  · exact VEnt.nilslice
  · exact VEnt.rslice (hr nm h2)

/-- Values that bear no names. -/
def AV.flat : AV → Bool
  | .bool _ | .int _ _ | .str _ | .zstr _ => true
  | .ptr none | .map none | .nilFunc | .nilIface => true
  | _ => false
theorem VEnt.flat {x : AV} (h : x.flat = true) : VEnt r x x := by
  intro ρ v k
  cases x <;> first | exact k | skip
  · rename_i a; cases a with
    | none => exact k
    | some _ => cases h
  · cases h
  · cases h
  · cases h
  · rename_i a; cases a with
    | none => exact k
    | some _ => cases h
  · cases h
  · cases h
  · cases h
  · cases h
  · cases h

/-- One by one. -/
def VEnts (r : Nat → Nat) : List AV → List AV → Prop
  | [], [] => True
  | x :: l, y :: m => VEnt r x y ∧ VEnts r l m
  | _, _ => False
theorem VEnts.length : ∀ {l m : List AV}, VEnts r l m → l.length = m.length
  | [], [], _ => rfl
  | _ :: _, _ :: _, h => by simp [VEnts.length h.2]
  | [], _ :: _, h => by cases h
  | _ :: _, [], h => by cases h
theorem VEnts.at_ : ∀ {l m : List AV} {i : Nat} {x y : AV}, VEnts r l m → l[i]? = some x → m[i]? = some y → VEnt r x y
  | x :: l, y :: m, 0, a, b, h, h1, h2 => by simp at h1 h2; subst h1; subst h2; exact h.1
  | x :: l, y :: m, i + 1, a, b, h, h1, h2 => VEnts.at_ h.2 (by simpa using h1) (by simpa using h2)
  | [], [], _, _, _, _, h1, _ => by simp at h1
  | _ :: _, [], _, _, _, h, _, _ => by cases h
  | [], _ :: _, _, _, _, h, _, _ => by cases h
theorem VEnts.flat : ∀ {l : List AV}, l.all AV.flat = true → VEnts r l l
  | [], _ => trivial
  | x :: l, h => by
    obtain ⟨h1, h2⟩ := and_true.1 (show (x.flat && l.all AV.flat) = true from h)
    exact ⟨VEnt.flat h1, VEnts.flat h2⟩

theorem OEnt.cells {l m : List AV} (hl : l.length ≤ top) (h : VEnts r l m) (h1 : m.all AV.oneCell = true) : OEnt r (.cells l.length (Tr.fill l 0 .nil) []) (.cells m.length (Tr.fill m 0 .nil) []) := by
  have hlen := h.length
  intro ρ N o k
  obtain ⟨c, e, rfl, k1, k2, k3⟩ := k
  refine ⟨c, e, rfl, k1, by omega, fun i hi => ?_⟩
  obtain ⟨x, v, a1, a2, a3, a4⟩ := k3 i (by omega)
  have hx : l[i]? = some x := by
    unfold cellAt at a1
    rw [Tr.get_fill' _ _ _ _ (by omega), if_pos (by omega), Nat.sub_zero, List.getElem?_eq_getElem (by omega)] at a1
    rw [List.getElem?_eq_getElem (by omega)]
    exact a1
  have hy : m[i]? = some m[i] := List.getElem?_eq_getElem hi
  refine ⟨m[i], v, ?_, ?_, a3, h.at_ hx hy ρ v a4⟩
  · unfold cellAt
    rw [Tr.get_fill' _ _ _ _ (by omega), if_pos (by omega), Nat.sub_zero, hy]
  · exact List.all_eq_true.1 h1 _ (List.getElem_mem hi)
theorem OEnt.rowT {α : Type} {enc : α → List AV} {l : List α} (he : ∀ x, (enc x).all AV.flat = true ∧ (enc x).all AV.oneCell = true) (hl : (l.map enc).flatten.length ≤ top) : OEnt r (rowT enc l) (rowT enc l) := by
  have hf : ∀ (p : AV → Bool), (∀ x, (enc x).all p = true) → ∀ l : List α, (l.map enc).flatten.all p = true := by
    intro p hp l
    induction l with
    | nil => rfl
    | cons x l ih => simp only [List.map_cons, List.flatten_cons, List.all_append, ih, hp x, Bool.and_true]
  exact OEnt.cells hl (VEnts.flat (hf _ (fun x => (he x).1) l)) (hf _ (fun x => (he x).2) l)
theorem ERs.ints : ∀ {m : List (Int × Int)} {ρ σ : Ren} {l : List MapEntry} {i : Nat}, ERs ρ (esT m) l i → ERs σ (esT m) l i
  | [], _, _, _, _, h => h
  | _ :: _, _, _, _, _, h => by
    obtain ⟨e, es, a, b, c, d, f⟩ := h
    exact ⟨e, es, a, b, c, d, ERs.ints f⟩
theorem OEnt.mapT (m : List (Int × Int)) : OEnt r (mapT m) (mapT m) := by
  intro ρ N o k
  obtain ⟨l, h1, h2, h3⟩ := k
  exact ⟨l, h1, h2, h3.ints⟩

/-- Names from a list; all others of one's own are beyond. -/
def renOf (m : List (Nat × Nat)) (nx : Nat) : Nat → Nat := fun k =>
  match m.find? (fun p => p.1 == k) with
  | some p => p.2
  | none => if k < 256 ∨ top ≤ k then k else max k nx
def SlotsE (r : Nat → Nat) (t : Tr AV) : List (Nat × AV) → Prop
  | [] => True
  | p :: l => (∃ x, t.get p.1 = some x ∧ VEnt r x p.2) ∧ SlotsE r t l
def ObjsE (r : Nat → Nat) (h : Tr AObj) : List (Nat × AObj) → Prop
  | [] => True
  | p :: l => (p.2.plain = true ∧ ∃ x, h.get (r p.1) = some x ∧ x.isRo = p.2.isRo ∧ OEnt r x p.2) ∧ ObjsE r h l
theorem SlotsE.mem {t : Tr AV} : ∀ {l : List (Nat × AV)}, SlotsE r t l → ∀ p ∈ l, ∃ x, t.get p.1 = some x ∧ VEnt r x p.2
  | [], _, p, hp => by cases hp
  | q :: l, h, p, hp => by
    rcases List.mem_cons.1 hp with rfl | hp
    · exact h.1
    · exact SlotsE.mem h.2 p hp
theorem ObjsE.mem {h : Tr AObj} : ∀ {l : List (Nat × AObj)}, ObjsE r h l → ∀ p ∈ l, p.2.plain = true ∧ ∃ x, h.get (r p.1) = some x ∧ x.isRo = p.2.isRo ∧ OEnt r x p.2
  | [], _, p, hp => by cases hp
  | q :: l, k, p, hp => by
    rcases List.mem_cons.1 hp with rfl | hp
    · exact k.1
    · exact ObjsE.mem k.2 p hp
def someO : List (Nat × AObj) → List (Nat × Option AObj)
  | [] => []
  | p :: l => (p.1, some p.2) :: someO l
theorem someO_mem : ∀ {l : List (Nat × AObj)} {i : Nat} {y : AObj}, (i, some y) ∈ someO l → (i, y) ∈ l
  | p :: l, i, y, h => by
    rcases List.mem_cons.1 h with h | h
    · injection h with h1 h2
      injection h2 with h2
      have : p = (i, y) := by rw [h1, h2]
      rw [← this]; exact List.mem_cons_self
    · exact List.mem_cons_of_mem _ (someO_mem h)
/-- What is asked of the list of names. -/
def renOk (m : List (Nat × Nat)) (nx nx2 : Nat) : Bool :=
  m.all (fun p => Nat.ble 256 p.1 && (Nat.blt p.1 nx2 && Nat.blt p.2 top)) && (Nat.blt nx top && (Nat.ble nx2 top && Nat.ble 256 nx2))
def apartB : List (Nat × Nat) → Bool
  | [] => true
  | p :: l => l.all (fun q => !(Nat.beq p.2 q.2)) && apartB l
theorem apartB_mem : ∀ {m : List (Nat × Nat)}, apartB m = true → ∀ p q, p ∈ m → q ∈ m → p.2 = q.2 → p = q
  | [], _, p, q, hp, _, _ => by cases hp
  | x :: l, h, p, q, hp, hq, e => by
    obtain ⟨h1, h2⟩ := and_true.1 h
    have hx : ∀ y ∈ l, x.2 ≠ y.2 := fun y hy e2 => by
      have := List.all_eq_true.1 h1 y hy
      rw [e2] at this; simp at this
    rcases List.mem_cons.1 hp with hp | hp
    · rcases List.mem_cons.1 hq with hq | hq
      · rw [hp, hq]
      · exact absurd (by rw [← hp]; exact e) (hx q hq)
    · rcases List.mem_cons.1 hq with hq | hq
      · exact absurd (by rw [← hq]; exact e.symm) (hx p hp)
      · exact apartB_mem h2 p q hp hq e

variable {P : Program} {B : Base} {Q : Tr AV → List Nat → Option Code → AS → Prop} {s : AS} {t : Tr AV} {nt : Nat}
theorem Sim.ren {f : FuncId} {K : List Item} {l : List (Nat × AV)} {o : List (Nat × AObj)} {nx2 : Nat} (m : List (Nat × Nat)) (hm : renOk m s.nx nx2 = true) (ha : apartB m = true) (hl : lowP top l = true) (ho : (o.all fun p => (m.map (·.1)).contains p.1) = true)
    (ht : SlotsE (renOf m s.nx) t l) (hh : ObjsE (renOf m s.nx) s.h o) (H : Sim P B 256 Q ⟨f, trOf l, nt, K, [], none⟩ (stOf (someO o) nx2)) : Sim P B 256 Q ⟨f, t, nt, K, [], none⟩ s := by
  obtain ⟨m1, m2⟩ := and_true.1 hm
  obtain ⟨m2, m3⟩ := and_true.1 m2
  obtain ⟨m3, m4⟩ := and_true.1 m3
  have hnx : s.nx < top := (blt_eq _ _).mp m2
  have hnx2 := ble_true.1 m3
  have h256 := ble_true.1 m4
  have htop : 256 < top := by unfold top; decide
  have hm' : ∀ p ∈ m, 256 ≤ p.1 ∧ p.1 < nx2 ∧ p.2 < top := fun p hp => by
    obtain ⟨a, b⟩ := and_true.1 (List.all_eq_true.1 m1 p hp)
    obtain ⟨b, c⟩ := and_true.1 b
    exact ⟨ble_true.1 a, (blt_eq _ _).mp b, (blt_eq _ _).mp c⟩
  have hout : ∀ k, (∀ p ∈ m, p.1 ≠ k) → renOf m s.nx k = if k < 256 ∨ top ≤ k then k else max k s.nx := by
    intro k hk
    unfold renOf
    have : m.find? (fun p => p.1 == k) = none := List.find?_eq_none.2 fun p hp => by simp; exact hk p hp
    rw [this]
  have hin : ∀ k, k ∈ m.map (·.1) → ∃ p ∈ m, p.1 = k ∧ renOf m s.nx k = p.2 := by
    intro k hk
    unfold renOf
    cases e : m.find? (fun p => p.1 == k) with
    | none =>
      obtain ⟨p, hp, rfl⟩ := List.mem_map.1 hk
      have := List.find?_eq_none.1 e p hp
      simp at this
    | some p =>
      refine ⟨p, List.mem_of_find?_eq_some e, ?_, rfl⟩
      have := List.find?_some e
      simpa using this
  have hlowo : ∀ p ∈ someO o, p.1 < top := by
    have : ∀ (o : List (Nat × AObj)), (∀ p ∈ o, p.1 < top) → ∀ p ∈ someO o, p.1 < top := by
      intro o
      induction o with
      | nil => intro _ p hp; cases hp
      | cons x o ih =>
        intro h p hp
        rcases List.mem_cons.1 hp with rfl | hp
        · exact h x List.mem_cons_self
        · exact ih (fun q hq => h q (List.mem_cons_of_mem _ hq)) p hp
    refine this o fun p hp => ?_
    have hc := List.all_eq_true.1 ho p hp
    obtain ⟨q, hq, e⟩ := List.mem_map.1 (List.contains_iff_mem.1 hc)
    have := (hm' q hq).2.1
    omega
  have hon : ∀ n y, n < top → (hpOf (someO o)).get n = some y → (n, y) ∈ o := fun n y hn hg => someO_mem (hpOf_mem hlowo hg)
  have hom : ∀ n y, (n, y) ∈ o → n ∈ m.map (·.1) := fun n y h => List.contains_iff_mem.1 (List.all_eq_true.1 ho _ h)
  refine Sim.weaken (s2 := stOf (someO o) nx2) (t2 := trOf l) (renOf m s.nx) (fun k hk => ?_) (fun k hk ht => ?_) (fun k hk => ?_) (Nat.le_refl _) ⟨Nat.zero_le _, hnx2⟩ rfl rfl (fun i y hy => ?_) (fun n o2 hn hg => ?_) (fun n k _ _ hn hk h1 h2 _ e => ?_) H
  · rw [hout k (fun p hp e => by have := (hm' p hp).1; omega), if_pos (.inl hk)]
  · have hk' : nx2 ≤ k := hk
    rw [hout k (fun p hp e => by have := (hm' p hp).2.1; omega), if_neg (by omega)]
    omega
  · rw [hout k (fun p hp e => by have := (hm' p hp).2.1; omega), if_pos (.inr hk)]
  · exact ht.mem _ (trOf_mem (fun p hp => lowP_mem hl p hp) hy)
  · have hmem := hon n o2 hn hg
    obtain ⟨h1, x, h2, h3, h4⟩ := hh.mem _ hmem
    obtain ⟨p, hp, e1, e2⟩ := hin n (hom n o2 hmem)
    refine ⟨by rw [e2]; exact (hm' p hp).2.2, h1, x, h2, fun q => by rw [h3]; exact q, h4⟩
  · obtain ⟨p, hp, e1, e2⟩ := hin n (hom n _ (hon n _ hn h1))
    obtain ⟨q, hq, e3, e4⟩ := hin k (hom k _ (hon k _ hk h2))
    have : p = q := apartB_mem ha p q hp hq (by rw [← e2, ← e4]; exact e)
    rw [← e1, ← e3, this]
end
end Go.Rn
namespace Go.Rn
theorem renOf_top {m : List (Nat × Nat)} {nx : Nat} (h : (m.all fun p => Nat.blt p.1 top) = true) : ∀ k, top ≤ k → renOf m nx k = k := by
  intro k hk
  unfold renOf
  have : m.find? (fun p => p.1 == k) = none := List.find?_eq_none.2 fun p hp => by
    have := (blt_eq _ _).mp (List.all_eq_true.1 h p hp)
    simp; omega
  rw [this]
  simp [hk]
end Go.Rn

/- An unknown slice is one of two. -/
namespace Go.Rn
theorem SlT.cases {α : Type} {F : Nat → Option (List AV)} {a : AV} {K : Nat} {enc : α → List AV} {l : List α} {p : AV → Prop} (h : SlT F a K enc l) (h1 : p (.slice none 0 (.known 0))) (h2 : ∀ nm o n, p (.rslice nm o n)) : p a := by
  obtain ⟨_, ⟨rfl, _⟩ | ⟨nm, o, row, rfl, _⟩⟩ := h
  · exact h1
  · exact h2 nm o _
end Go.Rn

/- Two structures of numbers held against each other. -/
namespace Go.Rn
open Go.RowKit
noncomputable section
def fieldsOf (P : Program) (ty : TypeId) : List Field :=
  match P.underlying ty with
  | some (.struct fs) => fs.toList
  | _ => []
def isStruct (P : Program) (ty : TypeId) : Bool :=
  match P.underlying ty with
  | some (.struct _) => true
  | _ => false
/-- What is held against what. -/
def pairsOf (P : Program) (xs ys : List AV) : List Field → Option (List (Int × Int))
  | [] => some []
  | f :: l => match f.name == "_" with
    | true => none
    | false => match P.underlying f.type, partT P f.type xs f.offset, partT P f.type ys f.offset with
      | some (.int _), some (.int k a), some (.int k' b) => match decide (k = k') with
        | true => match pairsOf P xs ys l with
          | some r => some ((a, b) :: r)
          | none => none
        | false => none
      | _, _, _ => none
def allEq (l : List (Int × Int)) : Bool := l.all fun p => p.1 == p.2
end
section
variable {P : Program} {s s1 : AS} {call : Caller} {t : Tr AV}
theorem eqT_int {d : Nat} {ty : TypeId} {k i : IntKind} {a b : Int} (hu : P.underlying ty = some (.int i)) : eqT P (d + 1) ty (.int k a) (.int k b) = some (a == b) := by
  unfold eqT
  rw [hu]
  simp only [decide_true]
theorem eqFields_pairs {d : Nat} {xs ys : List AV} : ∀ {fs : List Field} {l : List (Int × Int)}, pairsOf P xs ys fs = some l → eqFields P (eqT P (d + 1)) xs ys fs = some (allEq l)
  | [], l, h => by cases h; rfl
  | f :: fs, l, h => by
    unfold pairsOf at h
    split at h
    · cases h
    · rename_i hn
      split at h
      · rename_i i k a k' b hu hx hy
        split at h
        · rename_i hk
          have hk' : k = k' := of_decide_eq_true hk
          subst hk'
          split at h
          · rename_i r hr
            cases h
            unfold eqFields
            simp only [hn, hx, hy, eqT_int hu]
            cases q : a == b with
            | false => simp only [allEq, List.all_cons, q, Bool.false_and]
            | true => simp only [allEq, List.all_cons, q, Bool.true_and]; exact eqFields_pairs hr
          · cases h
        · cases h
      · cases h
theorem eqT_agg {d : Nat} {ty : TypeId} {xs ys : List AV} {l : List (Int × Int)} (hu : isStruct P ty = true) (hs : P.stoodInHeld ty = false) (h : pairsOf P xs ys (fieldsOf P ty) = some l) : eqT P (d + 2) ty (.agg xs) (.agg ys) = some (allEq l) := by
  unfold isStruct at hu
  split at hu
  · rename_i fs e
    unfold fieldsOf at h
    rw [e] at h
    unfold eqT
    rw [e]
    simp only [hs]
    exact eqFields_pairs h
  · cases hu
theorem op_neqT {ty yt : TypeId} {x y : Operand} {xs ys : List AV} {l : List (Int × Int)} {b : Bool} (hx : opd t x = some (.agg xs)) (hy : opd t y = some (.agg ys)) (hg : guardOk P .neq ty x y (.agg xs) (.agg ys) = true) (hu : isStruct P ty = true) (hs : P.stoodInHeld ty = false) (h : pairsOf P xs ys (fieldsOf P ty) = some l) (hb : allEq l = b) :
    (opB P (.binOp .neq ty x y yt)).val call t s = .ok (.bool (!b)) s := by
  show kBin P .neq ty x y call t s = _
  unfold kBin
  rw [hx, hy, withO_some, withO_some, hg, withB_true]
  have : binOpT P .neq ty (.agg xs) (.agg ys) = some (.bool (!b)) := by
    unfold binOpT
    simp only
    have e := eqT_agg (d := Op.maxDepth - 2) hu hs h
    rw [show Op.maxDepth - 2 + 2 = Op.maxDepth from rfl] at e
    rw [e, hb]
  rw [this]
  rfl
theorem op_eqlT {ty yt : TypeId} {x y : Operand} {xs ys : List AV} {l : List (Int × Int)} {b : Bool} (hx : opd t x = some (.agg xs)) (hy : opd t y = some (.agg ys)) (hg : guardOk P .eql ty x y (.agg xs) (.agg ys) = true) (hu : isStruct P ty = true) (hs : P.stoodInHeld ty = false) (h : pairsOf P xs ys (fieldsOf P ty) = some l) (hb : allEq l = b) :
    (opB P (.binOp .eql ty x y yt)).val call t s = .ok (.bool b) s := by
  show kBin P .eql ty x y call t s = _
  unfold kBin
  rw [hx, hy, withO_some, withO_some, hg, withB_true]
  have : binOpT P .eql ty (.agg xs) (.agg ys) = some (.bool b) := by
    unfold binOpT
    simp only
    have e := eqT_agg (d := Op.maxDepth - 2) hu hs h
    rw [show Op.maxDepth - 2 + 2 = Op.maxDepth from rfl] at e
    rw [e, hb]
  rw [this]
  rfl
end
end Go.Rn

/- The first part of a slice that stays as it is. -/
namespace Go.Rn
open Go.RowKit
theorem flatten_take {K : Nat} : ∀ {l : List (List AV)} {n : Nat}, (∀ c ∈ l, c.length = K) → l.flatten.take (n * K) = (l.take n).flatten
  | [], n, _ => by simp
  | c :: l, 0, _ => by simp
  | c :: l, n + 1, h => by
    have hc := h c List.mem_cons_self
    rw [List.flatten_cons, List.take_append, hc, List.take_of_length_le (by rw [hc, Nat.add_mul]; omega), show (n + 1) * K - K = n * K by rw [Nat.add_mul, Nat.one_mul]; omega, flatten_take (fun c h' => h c (List.mem_cons_of_mem _ h')), List.take_succ_cons, List.flatten_cons]
theorem SlF.upto {F : Nat → Option (List AV)} {a : AV} {K : Nat} {l : List (List AV)} {n : Nat} (h : SlF F a K l) (hn : n ≤ l.length) :
    (a = .slice none 0 (.known 0) ∧ n = 0 ∧ SlF F a K (l.take n)) ∨ ∃ nm o, a = .rslice nm o l.length ∧ top ≤ nm ∧ SlF F (.rslice nm o n) K (l.take n) := by
  obtain ⟨hl, ⟨rfl, rfl⟩ | ⟨nm, o, row, rfl, h2, h3, h4, h5⟩⟩ := h
  · have z : n = 0 := by simpa using hn
    subst z
    exact .inl ⟨rfl, rfl, hl, .inl ⟨rfl, rfl⟩⟩
  · refine .inr ⟨nm, o, rfl, h2, fun c hc => hl c (List.mem_of_mem_take hc), .inr ⟨nm, o, row, ?_, h2, h3, ?_, ?_⟩⟩
    · rw [List.length_take, Nat.min_eq_left hn]
    · rw [List.length_take, Nat.min_eq_left hn]
      have := Nat.mul_le_mul_right K hn
      omega
    · rw [List.length_take, Nat.min_eq_left hn]
      have := Nat.mul_le_mul_right K hn
      rw [← flatten_take hl, ← h5, List.take_take, Nat.min_eq_left this]
section
variable {P : Program} {s s1 : AS} {call : Caller} {t : Tr AV}
/-- x[:n]. -/
theorem op_upto {α : Type} {F : Nat → Option (List AV)} {enc : α → List AV} {ty e : TypeId} {x y : Operand} {a : AV} {K n : Nat} {l : List α} {z : Int} (hx : opd t x = some a) (hy : opd t y = some (.int .i64 z)) (hu : P.underlying ty = some (.slice e)) (hk : sizeT P e = some K) (h : SlT F a K enc l) (hz : z = (n : Nat)) (hn : n ≤ l.length) :
    ∃ a', (opB P (.slice ty x none (some y) none)).val call t s = .ok a' s ∧ SlT F a' K enc (l.take n) := by
  subst hz
  have hw : ∀ m : Nat, n ≤ m → bound (some (.int .i64 (n : Nat))) m m = some n := by
    intro m hm
    have : Nat.blt n (m + 1) = true := by rw [blt_eq]; omega
    show within (Int.ofNat n) (m + 1) = some n
    unfold within
    simp only [this]
  have e0 : opt (opd t) none = some none := rfl
  have e1 : opt (opd t) (some y) = some (some (.int .i64 (n : Nat))) := by unfold opt; simp only [hy]
  have go : ∀ a', sliceOf P ty a none (some (.int .i64 (n : Nat))) none = some a' → (opB P (.slice ty x none (some y) none)).val call t s = .ok a' s := by
    intro a' h'
    show kSlice P ty x none (some y) none call t s = _
    unfold kSlice
    rw [hx, withO_some, e0, withO_some, e1, withO_some, withO_some, h']
    rfl
  rcases SlF.upto h (n := n) (by rw [List.length_map]; exact hn) with ⟨rfl, rfl, h2⟩ | ⟨nm, o, rfl, h2, h3⟩
  · refine ⟨.slice none 0 (.known 0), go _ ?_, by rw [← List.map_take] at h2; exact h2⟩
    unfold sliceOf
    simp only [hu, hk]
    rfl
  · refine ⟨.rslice nm o n, go _ ?_, by rw [← List.map_take] at h3; exact h3⟩
    unfold sliceOf
    simp only [hu, hk, hw _ (show n ≤ (l.map enc).length by rw [List.length_map]; exact hn)]
    have b0 : bound none n 0 = some 0 := rfl
    have c0 : and (Nat.ble top nm) (or (Nat.blt 0 (l.map enc).length) (Nat.beq 0 0)) = true := and_true.2 ⟨ble_true.2 h2, by cases Nat.blt 0 (l.map enc).length <;> rfl⟩
    simp only [b0, c0, Nat.zero_mul, Nat.add_zero, Nat.sub_zero]
end
end Go.Rn

/- A call of a function that is known. -/
namespace Go.Rn
theorem op_callF {P : Program} {s s1 : AS} {call : Caller} {t : Tr AV} {g : FuncId} {xs : Array Operand} {ts : Array TypeId} {args : List AV} {v : AV} (hx : opds (opd t) xs.toList = some args) (h : call (.fn g) args s = .ok v s1) :
    (opB P (.call ⟨.value (.func g), xs, ts⟩)).val call t s = .ok v s1 := by
  show kCall (.func g) xs.toList call t s = _
  unfold kCall
  rw [hx, withO_some]
  show withO (some (.func (.func g) [] [])) (fun f => callV call f args) s = _
  rw [withO_some]
  show call (.fn g) ([] ++ args ++ []) s = _
  rw [List.nil_append, List.append_nil, h]
end Go.Rn

/- What a function is known to do, told to its callers: rows at the call are looked at as rows that stay as they are. -/
namespace Go.Rn
open Go.RowKit
noncomputable section

/-- What of a world was there is there. -/
theorem Under.kept {ρ : Ren} {w w' : World} (hb : ∀ (k : Nat) (o : Obj), w.heap[k]? = some o → w'.heap[k]? = some o) {n m : Nat} {es : List (AV × AV)} {ex : Bool} {left : List (AV × AV)} {cur : Option (AV × AV)} (k : Under ρ w n m es ex left cur) : Under ρ w' n m es ex left cur := by
  obtain ⟨b, N, bm, M, l, clock, seen, h1, h2, h3, h4, h5⟩ := k
  exact ⟨b, N, bm, M, l, clock, seen, h1, h2, hb _ _ h3, hb _ _ h4, h5⟩
theorem Rel.kept {B : Base} {ρ : Ren} {h : Tr AObj} {w w' : World} (r : Rel B ρ h w) (hs : w.heap.size ≤ w'.heap.size) (hb : ∀ (k : Nat) (o : Obj), w.heap[k]? = some o → w'.heap[k]? = some o) : Rel B ρ h w' where
  is := fun n o hn ho => by
    obtain ⟨b, N, o', h1, h2, h3⟩ := r.is n o hn ho
    exact ⟨b, N, o', h1, hb _ _ h2, h3⟩
  one := r.one
  iter := fun n m es ex left cur hn ho => by
    obtain ⟨h1, h2, h3⟩ := r.iter n m es ex left cur hn ho
    exact ⟨h1, h2, h3.kept hb⟩
  size := fun k hk => r.size k (Nat.le_trans hs hk)
  lone := r.lone
  fz := fun n l hl => by
    obtain ⟨h1, b, sh, c, e, fr, h2, h3, h4⟩ := r.fz n l hl
    exact ⟨h1, b, sh, c, e, fr, h2, hb _ _ h3, h4⟩
/-- A run that wrote to nothing that was there. -/
theorem Bel.kept {w w' : World} {F : Nat → Option (List AV)} (h : Bel ⟨fun k => w.heap.size ≤ k, F⟩ w w') : ∀ (k : Nat) (o : Obj), w.heap[k]? = some o → w'.heap[k]? = some o := by
  intro k o hk
  have hlt : k < w.heap.size := by
    by_cases q : k < w.heap.size
    · exact q
    · rw [Array.getElem?_eq_none (by omega)] at hk; cases hk
  rw [h.block k hlt (by show ¬ w.heap.size ≤ k; omega)]
  exact hk
theorem Bel.of_new {B : Base} {w w' : World} {F : Nat → Option (List AV)} (h : Bel ⟨fun k => w.heap.size ≤ k, F⟩ w w') : Bel B w w' :=
  ⟨h.os, h.tape, h.output, h.size, fun k hk _ => h.block k hk (by show ¬ w.heap.size ≤ k; omega)⟩

theorem flatten_len {K : Nat} : ∀ {l : List (List AV)}, (∀ c ∈ l, c.length = K) → l.flatten.length = l.length * K
  | [], _ => by simp
  | c :: l, h => by
    rw [List.flatten_cons, List.length_append, h c List.mem_cons_self, flatten_len (fun c' h' => h c' (List.mem_cons_of_mem _ h')), List.length_cons, Nat.add_mul, Nat.one_mul]
    omega
theorem SlT.mono {α : Type} {F G : Nat → Option (List AV)} (h : ∀ k, F k ≠ none → G k = F k) {a : AV} {K : Nat} {enc : α → List AV} {l : List α} (k : SlT F a K enc l) : SlT G a K enc l := by
  obtain ⟨h1, h2 | ⟨nm, o, row, h2, h3, h4, h5⟩⟩ := k
  · exact ⟨h1, .inl h2⟩
  · exact ⟨h1, .inr ⟨nm, o, row, h2, h3, by rw [h nm (by rw [h4]; simp)]; exact h4, h5⟩⟩

/-- A slice that is a row of one's own, whole. -/
def isOwn : AV → Option (Nat × Nat)
  | .slice (some (n, 0)) len (.atLeast _ _) => some (n, len)
  | _ => none
/-- The elements of a slice: a row that stays as it is, or one of one's own. -/
def rowOf {α : Type} (F : Nat → Option (List AV)) (K : Nat) (enc : α → List AV) (a : AV) : M (List α) :=
  match isOwn a with
  | some (n, len) => (rdN n).bind fun o => open Classical in if h : ∃ l : List α, o = rowT enc l ∧ l.length = len ∧ (l.map enc).flatten.length ≤ top then M.pure h.choose else fail
  | none => open Classical in if h : ∃ l : List α, SlT F a K enc l then M.pure h.choose else fail
theorem Local.rowOf {α : Type} (F : Nat → Option (List AV)) (K : Nat) (enc : α → List AV) (a : AV) : Local (rowOf F K enc a) := by
  unfold Rn.rowOf
  split
  · refine Local.bind (Local.rdN _) (fun o => ?_)
    split
    · exact Local.pure _
    · exact Local.fail
  · split
    · exact Local.pure _
    · exact Local.fail
theorem isOwn_inv {a : AV} {n len : Nat} (h : isOwn a = some (n, len)) : ∃ m k, a = .slice (some (n, 0)) len (.atLeast m k) := by
  unfold isOwn at h
  split at h
  · injection h with h; injection h with h1 h2; subst h1; subst h2; exact ⟨_, _, rfl⟩
  · cases h
theorem rowOf_inv {α : Type} {F : Nat → Option (List AV)} {K : Nat} {enc : α → List AV} {a : AV} {s s1 : AS} {l : List α} (h : rowOf F K enc a s = .ok l s1) :
    s1.h = s.h ∧ s1.nx = s.nx ∧ (SlT F a K enc l ∨ ∃ n m k, a = .slice (some (n, 0)) l.length (.atLeast m k) ∧ n < s.nx ∧ s.h.get n = some (rowT enc l) ∧ (l.map enc).flatten.length ≤ top) := by
  unfold rowOf at h
  cases e : isOwn a with
  | some p =>
    obtain ⟨n, len⟩ := p
    rw [e] at h
    simp only at h
    obtain ⟨m, k, rfl⟩ := isOwn_inv e
    obtain ⟨o, s2, h1, h2⟩ := M.bind_inv h
    obtain ⟨g1, g2, g3, g4⟩ := rdN_same h1
    split at h2
    · rename_i hex
      obtain ⟨rfl, rfl⟩ := pure_inv h2
      obtain ⟨q1, q2, q3⟩ := hex.choose_spec
      exact ⟨g3, g4, .inr ⟨n, m, k, by rw [q2], g1, by rw [← q1]; exact g2, q3⟩⟩
    · cases h2
  | none =>
    rw [e] at h
    simp only at h
    split at h
    · rename_i hex
      obtain ⟨rfl, rfl⟩ := pure_inv h
      exact ⟨rfl, rfl, .inl hex.choose_spec⟩
    · cases h
/-- What is told of a row that stays as it is. -/
theorem rowOf_frozen {α : Type} {F : Nat → Option (List AV)} {K : Nat} {enc : α → List AV} (hinj : ∀ l l' : List α, (∀ a, SlT F a K enc l → SlT F a K enc l' → l = l')) {a : AV} {s : AS} {l : List α} (h : SlT F a K enc l) : rowOf F K enc a s = .ok l s := by
  have ho : isOwn a = none := by
    obtain ⟨_, ⟨rfl, _⟩ | ⟨nm, o, row, rfl, _⟩⟩ := h <;> rfl
  unfold rowOf
  rw [ho]
  have hex : ∃ l : List α, SlT F a K enc l := ⟨l, h⟩
  simp only
  rw [dif_pos hex, hinj _ _ a hex.choose_spec h]
  rfl
end
end Go.Rn

/- Rows of a caller, looked at by a function as rows that stay as they are. -/
namespace Go.Rn
open Go.RowKit
/-- Elements of a size, without names. -/
structure EncOk {α : Type} (K : Nat) (enc : α → List AV) : Prop where
  len : ∀ x, (enc x).length = K
  flat : ∀ x, (enc x).all AV.flat = true
  one : ∀ x, (enc x).all AV.oneCell = true
theorem VR.flat {ρ σ : Ren} {x : AV} {v : Value} (h : x.flat = true) (k : VR ρ x v) : VR σ x v := by
  cases x <;> first | (simp only [VR] at k ⊢; exact k) | (cases h; done) | skip
  all_goals
    rename_i a
    cases a with
    | none => simp only [VR] at k ⊢; exact k
    | some _ => cases h
theorem all_rows {α : Type} {enc : α → List AV} {p : AV → Bool} (h : ∀ x, (enc x).all p = true) : ∀ l : List α, (l.map enc).flatten.all p = true
  | [] => rfl
  | x :: l => by simp only [List.map_cons, List.flatten_cons, List.all_append, h x, all_rows h l, Bool.and_true]
theorem cellAt_list {L : List AV} (hl : L.length ≤ top) {i : Nat} {x : AV} (hx : L[i]? = some x) : cellAt (Tr.fill L 0 .nil) [] i = some x := by
  have hi := (List.getElem?_eq_some_iff.1 hx).1
  unfold cellAt
  rw [Tr.get_fill' _ _ _ _ (by omega), if_pos (by omega), Nat.sub_zero, hx]

variable {B : Base} {ρ ρ1 : Ren} {w : World} {s s1 : AS}
theorem Cn.conv {α : Type} {K : Nat} {enc : α → List AV} {F1 : Nat → Option (List AV)} {m : Nat} (C : Cn w F1 ρ1 m) (fi : Fine s) (r : Rel B ρ s.h w) (hF : ∀ k, B.F k ≠ none → F1 k = B.F k) (hρ : ∀ k x, B.F k ≠ none → ρ k = some x → ρ1 k = some x) (he : EncOk K enc) {a : AV} {v : Value} {l : List α} (hv : VR ρ a v)
    (hd : SlT B.F a K enc l ∨ ∃ n p q, a = .slice (some (n, 0)) l.length (.atLeast p q) ∧ n < s.nx ∧ s.h.get n = some (rowT enc l) ∧ (l.map enc).flatten.length ≤ Rn.top) :
    ∃ F2 ρ2 m2 a2, Cn w F2 ρ2 m2 ∧ ρ1.le ρ2 ∧ (∀ k, F1 k ≠ none → F2 k = F1 k) ∧ SlT F2 a2 K enc l ∧ VR ρ2 a2 v := by
  rcases hd with hd | ⟨n, p, q, rfl, hn, hg, hlen⟩
  · refine ⟨F1, ρ1, m, a, C, Ren.le_refl _, fun _ _ => rfl, hd.mono hF, ?_⟩
    obtain ⟨_, ⟨rfl, _⟩ | ⟨nm, o, row, rfl, _, h4, _⟩⟩ := hd
    · simp only [VR] at hv ⊢; exact hv
    · simp only [VR] at hv ⊢
      obtain ⟨b, sh, c, e, h5, h6⟩ := hv
      exact ⟨b, sh, c, hρ nm _ (by rw [h4]; simp) e, h5, h6⟩
  · have hnt : n < Rn.top := Nat.lt_of_lt_of_le hn fi.nx
    obtain ⟨b, N, o', h1, h2, h3, _⟩ := r.is n _ hnt hg
    simp only [VR] at hv
    obtain ⟨b', N', c', e1, rfl, _, e3, _⟩ := hv
    rw [h1] at e1
    injection e1 with e1
    injection e1 with e1 _
    subst e1
    have h3' : OR ρ N (.cells (l.map enc).flatten.length (Tr.fill (l.map enc).flatten 0 .nil) []) o' := h3
    simp only [OR] at h3'
    obtain ⟨c, e, rfl, _, _, h4⟩ := h3'
    obtain ⟨C2, g1, g2, g3, g4⟩ := C.add (sh := 0) (l := (l.map enc).flatten) h2 (fun i x hx => by
      have hi := (List.getElem?_eq_some_iff.1 hx).1
      obtain ⟨y, u, k1, k2, k3, k4⟩ := h4 i hi
      rw [cellAt_list hlen hx] at k1
      injection k1 with k1
      subst k1
      have hmem : x ∈ (l.map enc).flatten := List.mem_of_getElem? hx
      have hfl : x.flat = true := List.all_eq_true.1 (all_rows he.flat l) x hmem
      exact ⟨u, by rw [Nat.zero_add]; exact k3, VR.flat hfl k4, k2⟩)
    refine ⟨_, _, _, .rslice m 0 l.length, C2, g1, g4, ⟨?_, .inr ⟨m, 0, _, ?_, C.top, g2, ?_, ?_⟩⟩, ?_⟩
    · intro c hc
      obtain ⟨x, _, rfl⟩ := List.mem_map.1 hc
      exact he.len x
    · rw [List.length_map]
    · rw [Nat.zero_add, flatten_len (K := K) (fun c hc => by obtain ⟨x, _, rfl⟩ := List.mem_map.1 hc; exact he.len x)]
      exact Nat.le_refl _
    · rw [List.drop_zero, ← flatten_len (K := K) (l := l.map enc) (fun c hc => by obtain ⟨x, _, rfl⟩ := List.mem_map.1 hc; exact he.len x), List.take_length]
    · simp only [VR]
      exact ⟨b, 0, c', g3, rfl, fun _ => e3⟩
end Go.Rn

/- A function of two rows that says yes or no, as it is known to its callers. -/
namespace Go.Rn
open Go.RowKit
/-- Rows are told up to some name. -/
def FinF (F : Nat → Option (List AV)) : Prop := ∃ m, top ≤ m ∧ ∀ k, m ≤ k → F k = none
noncomputable section
def spec2 {α β : Type} (F : Nat → Option (List AV)) (K1 : Nat) (enc1 : α → List AV) (K2 : Nat) (enc2 : β → List AV) (mx : Nat) (D : List α → List β → Bool) : Caller → List AV → M AV := fun _ args =>
  match args with
  | [a, b] => (rowOf F K1 enc1 a).bind fun la => (rowOf F K2 enc2 b).bind fun lb => withB (Nat.ble la.length mx) (M.pure (.bool (D la lb)))
  | _ => fail
end
theorem Local.spec2 {α β : Type} (F : Nat → Option (List AV)) (K1 : Nat) (enc1 : α → List AV) (K2 : Nat) (enc2 : β → List AV) (mx : Nat) (D : List α → List β → Bool) (call : Caller) (args : List AV) : Local (spec2 F K1 enc1 K2 enc2 mx D call args) := by
  unfold Rn.spec2
  split
  · exact Local.bind (Local.rowOf _ _ _ _) (fun la => Local.bind (Local.rowOf _ _ _ _) (fun lb => Local.withB (fun _ => Local.pure _)))
  · exact Local.fail
variable {P : Program} {B : Base} {ρ : Ren} {w : World} {s s1 : AS}
theorem callFunc_run {f : FuncId} {fn : Func} {body : Code} {vs : Array Value} (hfn : P.funcs[f]? = some fn) (hbody : fn.body = some body) (hname : (fn.name == "runtime.NumGoroutine") = false) : (callFunc f vs).run P w = .ok (.enter f vs) w := by
  have hprog : (program).run P w = .ok P w := rfl
  have hn : fn.name ≠ "runtime.NumGoroutine" := by simpa using hname
  simp only [callFunc, Sem.run_bind, hprog, Result.andThen_ok, hfn, hname, hbody]
  simp
theorem fine_start : Fine (stOf [] 256) := ⟨by show 0 ≤ 256; omega, by show 256 ≤ top; unfold top; decide⟩
theorem Cn.names {F : Nat → Option (List AV)} {k : Nat} {x : Nat × Nat} (h : F k ≠ none) (e : ρ k = some x) : (fun k => if k < globs then ρ k else hiF F ρ k) k = some x := by
  show (if k < globs then ρ k else hiF F ρ k) = some x
  by_cases q : k < globs
  · rw [if_pos q]; exact e
  · rw [if_neg q]
    unfold hiF
    rw [if_pos]
    · exact e
    · cases q2 : F k with
      | none => exact absurd q2 h
      | some _ => rfl
theorem spec2_sim (hP : ProgOk P) {g : FuncId} {fn : Func} {body : Code} (hfn : P.funcs[g]? = some fn) (hbody : fn.body = some body) (hname : (fn.name == "runtime.NumGoroutine") = false) (hnt : max fn.ntmps 2 ≤ top) {α β : Type} {K1 K2 : Nat} {enc1 : α → List AV} {enc2 : β → List AV} {mx : Nat} {D : List α → List β → Bool}
    (he1 : EncOk K1 enc1) (he2 : EncOk K2 enc2) (hfin : FinF B.F)
    (H : ∀ (B' : Base) {a b : AV} {la : List α} {lb : List β}, FinF B'.F → SlT B'.F a K1 enc1 la → SlT B'.F b K2 enc2 lb → la.length ≤ mx →
      Sim P B' 256 (Fin P fn.results.toList fun x s => x = .bool (D la lb) ∧ s = stOf [] 256) ⟨g, fillArgs [a, b], max fn.ntmps 2, [.code body], [], none⟩ (stOf [] 256))
    {call : Caller} {args : List AV} {x : AV} {vs : Array Value} (fi : Fine s) (r : Rel B ρ s.h w) (hg : RenG ρ) (h : spec2 B.F K1 enc1 K2 enc2 mx D call args s = .ok x s1) (hv : VRs ρ args vs.toList) : Back P ((callFunc g vs).run P w) (Came B ρ s s1 w x) := by
  unfold spec2 at h
  split at h
  · rename_i a b
    obtain ⟨la, s2, h1, h2⟩ := M.bind_inv h
    obtain ⟨lb, s3, h3, h4⟩ := M.bind_inv h2
    obtain ⟨h5, h6⟩ := withB_inv h4
    obtain ⟨rfl, rfl⟩ := pure_inv h6
    obtain ⟨i1, i2, i3⟩ := rowOf_inv h1
    obtain ⟨j1, j2, j3⟩ := rowOf_inv h3
    rw [i1, i2] at j3
    simp only [VRs] at hv
    obtain ⟨va, t1, e1, ha, vb, t2, e2, hb, e3⟩ := hv
    subst e3
    subst e2
    obtain ⟨m, hm, hmb⟩ := hfin
    have C0 := Cn.start hm hmb r hg
    obtain ⟨F1, ρ1, m1, a1, C1, le1, g1, sl1, v1⟩ := C0.conv fi r (fun _ _ => rfl) (fun k x q e => Cn.names q e) he1 ha i3
    obtain ⟨F2, ρ2, m2, b2, C2, le2, g2, sl2, v2⟩ := C1.conv fi r g1 (fun k x q e => le1 _ _ (Cn.names q e)) he2 hb j3
    have hv2 : VRs ρ2 [a1, b2] vs.toList := by
      rw [e1]
      simp only [VRs]
      exact ⟨_, _, rfl, VR.mono le2 _ _ v1, _, _, rfl, v2, rfl⟩
    have hc := Sim.calls (s := stOf [] 256) (args := [a1, b2]) hP hfn hbody hnt (H ⟨fun k => w.heap.size ≤ k, F2⟩ ⟨m2, C2.top, fun k hk => (C2.bound k hk).1⟩ (sl1.mono g2) sl2 (ble_true.1 h5)) fine_start C2.rel C2.g (fun k q1 q2 => C2.free k q1 q2) hv2
    rw [callFunc_run hfn hbody hname]
    show Calls P g vs w _
    refine hc.mono fun e w' => ?_
    rintro ⟨v, x', s4, rfl, ⟨rfl, rfl⟩, _, _, σ, _, q2, _, q4⟩
    refine ⟨v, rfl, ρ, Ext.refl _ _ _, ?_, ?_, Bel.of_new q4⟩
    · simp only [VR] at q2 ⊢; exact q2
    · rw [j1, i1]; exact r.kept q4.size q4.kept
  · cases h
theorem flatten_inj {K : Nat} : ∀ {l m : List (List AV)}, (∀ c ∈ l, c.length = K) → (∀ c ∈ m, c.length = K) → l.length = m.length → l.flatten = m.flatten → l = m
  | [], [], _, _, _, _ => rfl
  | [], _ :: _, _, _, h, _ => by cases h
  | _ :: _, [], _, _, h, _ => by cases h
  | c :: l, d :: m, h1, h2, h3, h4 => by
    rw [List.flatten_cons, List.flatten_cons] at h4
    obtain ⟨q1, q2⟩ := List.append_inj h4 (by rw [h1 c List.mem_cons_self, h2 d List.mem_cons_self])
    rw [q1, flatten_inj (fun x hx => h1 x (List.mem_cons_of_mem _ hx)) (fun x hx => h2 x (List.mem_cons_of_mem _ hx)) (by simpa using h3) q2]
theorem SlT.inj {α : Type} {F : Nat → Option (List AV)} {K : Nat} {enc : α → List AV} (hi : ∀ x y, enc x = enc y → x = y) : ∀ l l' : List α, (∀ a, SlT F a K enc l → SlT F a K enc l' → l = l') := by
  intro l l' a h k
  have hm : l.map enc = l'.map enc := by
    obtain ⟨h1, ⟨rfl, h2⟩ | ⟨nm, o, row, rfl, _, h3, h4, h5⟩⟩ := h
    · obtain ⟨_, ⟨_, k2⟩ | ⟨_, _, _, e, _⟩⟩ := k
      · rw [h2, k2]
      · cases e
    · obtain ⟨k1, ⟨e, _⟩ | ⟨nm', o', row', e, _, k3, k4, k5⟩⟩ := k
      · cases e
      · injection e with e1 e2 e3
        subst e1; subst e2
        rw [h3] at k3
        injection k3 with k3
        subst k3
        refine flatten_inj h1 k1 e3 ?_
        rw [← h5, ← k5, e3]
  have : ∀ l l' : List α, l.map enc = l'.map enc → l = l' := by
    intro l
    induction l with
    | nil => intro l' e; cases l' with
      | nil => rfl
      | cons => cases e
    | cons x l ih => intro l' e; cases l' with
      | nil => cases e
      | cons y l' =>
        simp only [List.map_cons] at e
        injection e with e1 e2
        rw [hi _ _ e1, ih _ e2]
  exact this l l' hm
/-- What it says of rows that stay as they are. -/
theorem spec2_says {α β : Type} {F : Nat → Option (List AV)} {K1 K2 : Nat} {enc1 : α → List AV} {enc2 : β → List AV} {mx : Nat} {D : List α → List β → Bool} (hi1 : ∀ l l' : List α, (∀ a, SlT F a K1 enc1 l → SlT F a K1 enc1 l' → l = l')) (hi2 : ∀ l l' : List β, (∀ a, SlT F a K2 enc2 l → SlT F a K2 enc2 l' → l = l'))
    {call : Caller} {a b : AV} {la : List α} {lb : List β} (ha : SlT F a K1 enc1 la) (hb : SlT F b K2 enc2 lb) (hl : la.length ≤ mx) : spec2 F K1 enc1 K2 enc2 mx D call [a, b] s = .ok (.bool (D la lb)) s := by
  unfold spec2
  simp only
  rw [M.bind_ok (rowOf_frozen hi1 ha), M.bind_ok (rowOf_frozen hi2 hb), ble_true.2 hl, withB_true]
  rfl
end Go.Rn

/- A function of a record with a row that makes a row, as it is known to its callers. -/
namespace Go.Rn
open Go.RowKit
noncomputable section
/-- A slice of one's own that was appended to from nothing: named n. -/
def ownV {β : Type} (K : Nat) (n : Nat) : List β → AV
  | [] => .slice none 0 (.known 0)
  | c :: l => .slice (some (n, 0)) (c :: l).length (.atLeast (c :: l).length K)
def ownS {β : Type} (enc : β → List AV) : List β → AS
  | [] => stOf [] 256
  | c :: l => stOf [(256, some (rowT enc (c :: l)))] 257
def newOwn {β : Type} (K : Nat) (enc : β → List AV) : List β → M AV
  | [] => M.pure (.slice none 0 (.known 0))
  | c :: l => (newRow ((c :: l).map enc).flatten).bind fun n => M.pure (.slice (some (n, 0)) (c :: l).length (.atLeast (c :: l).length K))
def specT {α β : Type} (F : Nat → Option (List AV)) (K1 : Nat) (enc1 : α → List AV) (K2 : Nat) (enc2 : β → List AV) (mx : Nat) (f : List α → List β) : Caller → List AV → M AV := fun _ args =>
  match args with
  | [.agg [.int .i64 _, .int .i64 _, .int .i64 _, a]] => (rowOf F K1 enc1 a).bind fun la => withB (Nat.ble la.length mx) (newOwn K2 enc2 (f la))
  | _ => fail
end
theorem Local.newOwn {β : Type} (K : Nat) (enc : β → List AV) (l : List β) : Local (newOwn K enc l) := by
  cases l with
  | nil => exact Local.pure _
  | cons c l => exact Local.bind (Local.newRow _) (fun n => Local.pure _)
theorem Local.specT {α β : Type} (F : Nat → Option (List AV)) (K1 : Nat) (enc1 : α → List AV) (K2 : Nat) (enc2 : β → List AV) (mx : Nat) (f : List α → List β) (call : Caller) (args : List AV) : Local (specT F K1 enc1 K2 enc2 mx f call args) := by
  unfold Rn.specT
  split
  · exact Local.bind (Local.rowOf _ _ _ _) (fun la => Local.withB (fun _ => Local.newOwn _ _ _))
  · exact Local.fail
variable {P : Program} {B : Base} {ρ : Ren} {w : World} {s s1 : AS}
theorem OR.rows {β : Type} {enc : β → List AV} {l : List β} (hf : ∀ x, (enc x).all AV.flat = true) (hlen : (l.map enc).flatten.length ≤ top) {ρ σ : Ren} {N : Nat} {o : Obj} (h : OR ρ N (rowT enc l) o) : OR σ N (rowT enc l) o := by
  have h' : OR ρ N (.cells (l.map enc).flatten.length (Tr.fill (l.map enc).flatten 0 .nil) []) o := h
  show OR σ N (.cells (l.map enc).flatten.length (Tr.fill (l.map enc).flatten 0 .nil) []) o
  simp only [OR] at h' ⊢
  obtain ⟨c, e, h1, h2, h3, h4⟩ := h'
  refine ⟨c, e, h1, h2, h3, fun i hi => ?_⟩
  obtain ⟨x, v, k1, k2, k3, k4⟩ := h4 i hi
  have hx : (l.map enc).flatten[i]? = some ((l.map enc).flatten[i]'hi) := List.getElem?_eq_getElem hi
  have e2 := cellAt_list hlen hx
  rw [k1] at e2
  injection e2 with e2
  have hmem : x ∈ (l.map enc).flatten := by rw [e2]; exact List.getElem_mem hi
  exact ⟨x, v, k1, k2, k3, VR.flat (List.all_eq_true.1 (all_rows hf l) x hmem) k4⟩
/-- What a run that looked alone made is called by the caller's next name. -/
theorem came_own {β : Type} {K : Nat} {enc : β → List AV} (he : EncOk K enc) {l : List β} {F : Nat → Option (List AV)} {ρ2 : Ren} {w' : World} {v : Value} {x : AV} (fi : Fine s) (r : Rel B ρ s.h w) (hf : Free s.nx s1.nx ρ) (h : newOwn K enc l s = .ok x s1)
    (hc : Came ⟨fun k => w.heap.size ≤ k, F⟩ ρ2 (stOf [] 256) (ownS enc l) w (ownV K 256 l) v w') : Came B ρ s s1 w x v w' := by
  obtain ⟨σ, _, q2, q3, q4⟩ := hc
  have r' := r.kept q4.size q4.kept
  cases l with
  | nil =>
    obtain ⟨rfl, rfl⟩ := pure_inv h
    exact ⟨ρ, Ext.refl _ _ _, by simp only [ownV, VR] at q2 ⊢; exact q2, r', Bel.of_new q4⟩
  | cons c l =>
    obtain ⟨n, s2, h1, h2⟩ := M.bind_inv (show ((newRow ((c :: l).map enc).flatten).bind fun n => M.pure (AV.slice (some (n, 0)) (c :: l).length (.atLeast (c :: l).length K))) s = .ok x s1 from h)
    obtain ⟨rfl, rfl⟩ := pure_inv h2
    unfold newRow at h1
    obtain ⟨g1, g2⟩ := withB_inv h1
    obtain ⟨g3, _⟩ := and_true.1 g1
    have hlen := ble_true.1 g3
    obtain ⟨ht, rfl, rfl⟩ := newN_inv g2
    have hn : ρ s.nx = none := hf s.nx (Nat.le_refl _) (by show s.nx < s.nx + 1; omega)
    obtain ⟨b, N, o', k1, k2, k3, k4⟩ := q3.is 256 (rowT enc (c :: l)) (by unfold top; decide) (by
      have h256 : 256 < top := by unfold top; decide
      have e1 : ownS enc (c :: l) = stOf [(256, some (rowT enc (c :: l)))] 257 := rfl
      have e2 : (stOf [(256, some (rowT enc (c :: l)))] 257).h = (hpOf []).put 256 (some (rowT enc (c :: l))) := by simp only [stOf, hpOf]
      rw [e1, e2]
      rw [Tr.get_put _ _ _ _ h256 h256, if_pos rfl])
    have hb : w.heap.size ≤ b := k4 rfl
    refine ⟨updR ρ s.nx (b, N), ⟨updR_le hn, fun k hk => updR_ne ρ _ (by intro e; subst e; exact hk ⟨Nat.le_refl _, by show s.nx < s.nx + 1; omega⟩)⟩, ?_, ?_, Bel.of_new q4⟩
    · simp only [ownV, VR] at q2 ⊢
      obtain ⟨b2, N2, c2, e1, e2⟩ := q2
      rw [k1] at e1
      injection e1 with e1
      injection e1 with e3 e4
      subst e3; subst e4
      exact ⟨_, _, c2, updR_self _ _ _, e2⟩
    · refine r'.name (o := rowT enc (c :: l)) ht hn rfl k2 (fun _ => r.size b hb) (fun k l' e sh e2 => ?_) (fun m p hm hp M e => ?_) (k3.rows he.flat hlen)
      · obtain ⟨_, b1, sh1, c1, e', fr, p2, p3, _⟩ := r.fz k l' e
        rw [e2] at p2; cases p2
        have := heap_lt p3
        omega
      · obtain ⟨b1, N1, o1, p1, p2, _⟩ := r.is m p hm hp
        rw [e] at p1; cases p1
        have := heap_lt p2
        omega
theorem specT_sim (hP : ProgOk P) {g : FuncId} {fn : Func} {body : Code} (hfn : P.funcs[g]? = some fn) (hbody : fn.body = some body) (hname : (fn.name == "runtime.NumGoroutine") = false) (hnt : max fn.ntmps 1 ≤ top) {α β : Type} {K1 K2 : Nat} {enc1 : α → List AV} {enc2 : β → List AV} {mx : Nat} {f : List α → List β}
    (he1 : EncOk K1 enc1) (he2 : EncOk K2 enc2) (hfin : FinF B.F)
    (H : ∀ (B' : Base) {a : AV} {la : List α} (x y z : Int), FinF B'.F → SlT B'.F a K1 enc1 la → la.length ≤ mx →
      Sim P B' 256 (Fin P fn.results.toList fun v s => v = ownV K2 256 (f la) ∧ s = ownS enc2 (f la)) ⟨g, fillArgs [.agg [.int .i64 x, .int .i64 y, .int .i64 z, a]], max fn.ntmps 1, [.code body], [], none⟩ (stOf [] 256))
    {call : Caller} {args : List AV} {x : AV} {vs : Array Value} (fi : Fine s) (r : Rel B ρ s.h w) (hg : RenG ρ) (hf : Free s.nx s1.nx ρ) (h : specT B.F K1 enc1 K2 enc2 mx f call args s = .ok x s1) (hv : VRs ρ args vs.toList) : Back P ((callFunc g vs).run P w) (Came B ρ s s1 w x) := by
  unfold specT at h
  split at h
  · rename_i k1 k2 k3 a
    obtain ⟨la, s2, h1, h2⟩ := M.bind_inv h
    obtain ⟨h5, h6⟩ := withB_inv h2
    obtain ⟨i1, i2, i3⟩ := rowOf_inv h1
    have fi2 : Fine s2 := (Local.rowOf _ _ _ _).fine fi h1
    simp only [VRs, VR] at hv
    obtain ⟨va, t1, e1, ⟨ag, rfl, u1, t2, e2, rfl, u2, t3, e3, rfl, u3, t4, e4, rfl, u4, t5, e5, ha, e6⟩, e7⟩ := hv
    subst e7
    subst e6
    subst e5
    subst e4
    subst e3
    obtain ⟨m, hm, hmb⟩ := hfin
    have C0 := Cn.start hm hmb r hg
    obtain ⟨F1, ρ1, m1, a1, C1, le1, g1, sl1, v1⟩ := C0.conv fi r (fun _ _ => rfl) (fun k x q e => Cn.names q e) he1 ha i3
    have hv2 : VRs ρ1 [.agg [.int .i64 k1, .int .i64 k2, .int .i64 k3, a1]] vs.toList := by
      rw [e1]
      simp only [VRs, VR]
      exact ⟨_, _, rfl, ⟨ag, rfl, _, _, e2, rfl, _, _, rfl, rfl, _, _, rfl, rfl, _, _, rfl, v1, rfl⟩, rfl⟩
    have hc := Sim.calls (s := stOf [] 256) (args := [.agg [.int .i64 k1, .int .i64 k2, .int .i64 k3, a1]]) hP hfn hbody hnt (H ⟨fun k => w.heap.size ≤ k, F1⟩ k1 k2 k3 ⟨m1, C1.top, fun k hk => (C1.bound k hk).1⟩ sl1 (ble_true.1 h5)) fine_start C1.rel C1.g (fun k q1 q2 => C1.free k q1 q2) hv2
    rw [callFunc_run hfn hbody hname]
    show Calls P g vs w _
    refine hc.mono fun e w' => ?_
    rintro ⟨v, x', s4, rfl, ⟨rfl, rfl⟩, _, _, hcame⟩
    have hr2 : Rel B ρ s2.h w := by rw [i1]; exact r
    obtain ⟨σ, q1, q2⟩ := came_own he2 fi2 hr2 (by rw [i2]; exact hf) h6 hcame
    rw [i2] at q1
    exact ⟨v, rfl, σ, q1, q2⟩
  · cases h
end Go.Rn

/- Rows that are made, or not (no row is made where there is nothing), under one name; own rows as they are read. -/
namespace Go.Rn
open Go.RowKit
noncomputable section
/-- A name for an object, or for none. -/
def newO (o : Option AObj) : M Nat := fun s => if s.nx < top then .ok s.nx { s with h := s.h.put s.nx o, nx := s.nx + 1 } else .bad
def ownO {β : Type} (enc : β → List AV) : List β → Option AObj
  | [] => none
  | c :: l => some (rowT enc (c :: l))
def specO {α β : Type} (F : Nat → Option (List AV)) (K1 : Nat) (enc1 : α → List AV) (K2 : Nat) (enc2 : β → List AV) (mx : Nat) (f : List α → List β) : Caller → List AV → M AV := fun _ args =>
  match args with
  | [.agg [.int .i64 _, .int .i64 _, .int .i64 _, a]] => (rowOf F K1 enc1 a).bind fun la => withB (Nat.ble la.length mx && Nat.ble ((f la).map enc2).flatten.length top) ((newO (ownO enc2 (f la))).bind fun n => M.pure (ownV K2 n (f la)))
  | _ => fail
end
theorem newO_inv {o : Option AObj} {n : Nat} {s s1 : AS} (h : newO o s = .ok n s1) : s.nx < top ∧ n = s.nx ∧ s1 = { s with h := s.h.put s.nx o, nx := s.nx + 1 } := by
  unfold newO at h
  split at h
  · rename_i q; cases h; exact ⟨q, rfl, rfl⟩
  · cases h
theorem newO_ok {o : Option AObj} {s : AS} (h : s.nx < top) : newO o s = .ok s.nx { s with h := s.h.put s.nx o, nx := s.nx + 1 } := by
  unfold newO
  rw [if_pos h]
theorem Local.newO (o : Option AObj) : Local (newO o) := by
  intro s v s1 fi h
  obtain ⟨ht, rfl, rfl⟩ := newO_inv h
  refine ⟨[], [], ⟨rfl, rfl, Nat.le_succ _, ht, rfl, fun k hk hn => ?_, fun _ h => h, fun k hk hkt => ?_⟩, fun A m0 t ag hA => ?_⟩
  · show (s.h.put s.nx o).get k = _
    have := fi.mark; have := fi.nx
    rw [Tr.get_put _ _ _ _ ht (by omega), if_neg (by omega)]
  · show (s.h.put s.nx o).get k = _
    have : s.nx + 1 ≤ k := hk
    rw [Tr.get_put _ _ _ _ ht hkt, if_neg (by omega)]
  · have hr := newO_ok (o := o) (s := t) (by rw [← ag.nx]; exact ht)
    rw [← ag.nx] at hr
    refine ⟨_, hr, ⟨rfl, ag.mark, ag.low, fun k hk hq => ?_⟩, rfl, rfl, fun k hk hn => ?_, fun k hk hkt => ?_⟩
    · show (s.h.put s.nx o).get k = (t.h.put s.nx o).get k
      have hk' : k < s.nx + 1 := hk
      rw [Tr.get_put _ _ _ _ ht (by omega), Tr.get_put _ _ _ _ ht (by omega)]
      by_cases q : k = s.nx
      · simp [q]
      · rw [if_neg q, if_neg q]; exact ag.is k (by omega) hq
    · show (t.h.put s.nx o).get k = _
      have := fi.mark; have := fi.nx; have := ag.low
      rw [Tr.get_put _ _ _ _ ht (by omega), if_neg (by omega)]
    · show (t.h.put s.nx o).get k = _
      have : s.nx + 1 ≤ k := hk
      rw [Tr.get_put _ _ _ _ ht hkt, if_neg (by omega)]
theorem Local.specO {α β : Type} (F : Nat → Option (List AV)) (K1 : Nat) (enc1 : α → List AV) (K2 : Nat) (enc2 : β → List AV) (mx : Nat) (f : List α → List β) (call : Caller) (args : List AV) : Local (specO F K1 enc1 K2 enc2 mx f call args) := by
  unfold Rn.specO
  split
  · exact Local.bind (Local.rowOf _ _ _ _) (fun la => Local.withB (fun _ => Local.bind (Local.newO _) (fun n => Local.pure _)))
  · exact Local.fail
variable {P : Program} {B : Base} {ρ : Ren} {w : World} {s s1 : AS}
/-- What a run that looked alone made is called by the caller's next name. -/
theorem came_name {β : Type} {K : Nat} {enc : β → List AV} (he : EncOk K enc) {l : List β} {F : Nat → Option (List AV)} {ρ2 : Ren} {w' : World} {v : Value} (ht : s.nx < top) (hlen : (l.map enc).flatten.length ≤ top) (r : Rel B ρ s.h w) (hn : ρ s.nx = none)
    (hc : Came ⟨fun k => w.heap.size ≤ k, F⟩ ρ2 (stOf [] 256) (ownS enc l) w (ownV K 256 l) v w') : Came B ρ s { s with h := s.h.put s.nx (ownO enc l), nx := s.nx + 1 } w (ownV K s.nx l) v w' := by
  obtain ⟨σ, _, q2, q3, q4⟩ := hc
  have r' := r.kept q4.size q4.kept
  cases l with
  | nil =>
    refine ⟨ρ, Ext.refl _ _ _, by simp only [ownV, VR] at q2 ⊢; exact q2, r'.drop ht (fun e => ?_), Bel.of_new q4⟩
    obtain ⟨_, _, _, h1, _⟩ := r.is s.nx _ ht e
    rw [hn] at h1; cases h1
  | cons c l =>
    obtain ⟨b, N, o', k1, k2, k3, k4⟩ := q3.is 256 (rowT enc (c :: l)) (by unfold top; decide) (by
      have h256 : 256 < top := by unfold top; decide
      have e1 : ownS enc (c :: l) = stOf [(256, some (rowT enc (c :: l)))] 257 := rfl
      have e2 : (stOf [(256, some (rowT enc (c :: l)))] 257).h = (hpOf []).put 256 (some (rowT enc (c :: l))) := by simp only [stOf, hpOf]
      rw [e1, e2]
      rw [Tr.get_put _ _ _ _ h256 h256, if_pos rfl])
    have hb : w.heap.size ≤ b := k4 rfl
    refine ⟨updR ρ s.nx (b, N), ⟨updR_le hn, fun k hk => updR_ne ρ _ (by intro e; subst e; exact hk ⟨Nat.le_refl _, by show s.nx < s.nx + 1; omega⟩)⟩, ?_, ?_, Bel.of_new q4⟩
    · simp only [ownV, VR] at q2 ⊢
      obtain ⟨b2, N2, c2, e1, e2⟩ := q2
      rw [k1] at e1
      injection e1 with e1
      injection e1 with e3 e4
      subst e3; subst e4
      exact ⟨_, _, c2, updR_self _ _ _, e2⟩
    · refine r'.name (o := rowT enc (c :: l)) ht hn rfl k2 (fun _ => r.size b hb) (fun k l' e sh e2 => ?_) (fun m p hm hp M e => ?_) (k3.rows he.flat hlen)
      · obtain ⟨_, b1, sh1, c1, e', fr, p2, p3, _⟩ := r.fz k l' e
        rw [e2] at p2; cases p2
        have := heap_lt p3
        omega
      · obtain ⟨b1, N1, o1, p1, p2, _⟩ := r.is m p hm hp
        rw [e] at p1; cases p1
        have := heap_lt p2
        omega
theorem specO_sim (hP : ProgOk P) {g : FuncId} {fn : Func} {body : Code} (hfn : P.funcs[g]? = some fn) (hbody : fn.body = some body) (hname : (fn.name == "runtime.NumGoroutine") = false) (hnt : max fn.ntmps 1 ≤ top) {α β : Type} {K1 K2 : Nat} {enc1 : α → List AV} {enc2 : β → List AV} {mx : Nat} {f : List α → List β}
    (he1 : EncOk K1 enc1) (he2 : EncOk K2 enc2) (hfin : FinF B.F)
    (H : ∀ (B' : Base) {a : AV} {la : List α} (x y z : Int), FinF B'.F → SlT B'.F a K1 enc1 la → la.length ≤ mx →
      Sim P B' 256 (Fin P fn.results.toList fun v s => v = ownV K2 256 (f la) ∧ s = ownS enc2 (f la)) ⟨g, fillArgs [.agg [.int .i64 x, .int .i64 y, .int .i64 z, a]], max fn.ntmps 1, [.code body], [], none⟩ (stOf [] 256))
    {call : Caller} {args : List AV} {x : AV} {vs : Array Value} (fi : Fine s) (r : Rel B ρ s.h w) (hg : RenG ρ) (hf : Free s.nx s1.nx ρ) (h : specO B.F K1 enc1 K2 enc2 mx f call args s = .ok x s1) (hv : VRs ρ args vs.toList) : Back P ((callFunc g vs).run P w) (Came B ρ s s1 w x) := by
  unfold specO at h
  split at h
  · rename_i k1 k2 k3 a
    obtain ⟨la, s2, h1, h2⟩ := M.bind_inv h
    obtain ⟨h5, h6⟩ := withB_inv h2
    obtain ⟨h7, h8⟩ := and_true.1 h5
    obtain ⟨n, s3, h9, h10⟩ := M.bind_inv h6
    obtain ⟨rfl, rfl⟩ := pure_inv h10
    obtain ⟨ht, rfl, rfl⟩ := newO_inv h9
    obtain ⟨i1, i2, i3⟩ := rowOf_inv h1
    simp only [VRs, VR] at hv
    obtain ⟨va, t1, e1, ⟨ag, rfl, u1, t2, e2, rfl, u2, t3, e3, rfl, u3, t4, e4, rfl, u4, t5, e5, ha, e6⟩, e7⟩ := hv
    subst e7
    subst e6
    subst e5
    subst e4
    subst e3
    obtain ⟨m, hm, hmb⟩ := hfin
    have C0 := Cn.start hm hmb r hg
    obtain ⟨F1, ρ1, m1, a1, C1, le1, g1, sl1, v1⟩ := C0.conv fi r (fun _ _ => rfl) (fun k x q e => Cn.names q e) he1 ha i3
    have hv2 : VRs ρ1 [.agg [.int .i64 k1, .int .i64 k2, .int .i64 k3, a1]] vs.toList := by
      rw [e1]
      simp only [VRs, VR]
      exact ⟨_, _, rfl, ⟨ag, rfl, _, _, e2, rfl, _, _, rfl, rfl, _, _, rfl, rfl, _, _, rfl, v1, rfl⟩, rfl⟩
    have hc := Sim.calls (s := stOf [] 256) (args := [.agg [.int .i64 k1, .int .i64 k2, .int .i64 k3, a1]]) hP hfn hbody hnt (H ⟨fun k => w.heap.size ≤ k, F1⟩ k1 k2 k3 ⟨m1, C1.top, fun k hk => (C1.bound k hk).1⟩ sl1 (ble_true.1 h7)) fine_start C1.rel C1.g (fun k q1 q2 => C1.free k q1 q2) hv2
    rw [callFunc_run hfn hbody hname]
    show Calls P g vs w _
    refine hc.mono fun e w' => ?_
    rintro ⟨v, x', s4, rfl, ⟨rfl, rfl⟩, _, _, hcame⟩
    have hr2 : Rel B ρ s2.h w := by rw [i1]; exact r
    have hn2 : ρ s2.nx = none := hf s2.nx (by rw [i2]; exact Nat.le_refl _) (by show s2.nx < s2.nx + 1; omega)
    obtain ⟨σ, q1, q2⟩ := came_name he2 ht (ble_true.1 h8) hr2 hn2 hcame
    rw [i2] at q1
    exact ⟨v, rfl, σ, by rw [i2]; exact q1, by rw [i2] at q2 ⊢; exact q2⟩
  · cases h
end Go.Rn

/- What known functions say of a caller's own rows. -/
namespace Go.Rn
open Go.RowKit
theorem rowT_inj {α : Type} {K : Nat} {enc : α → List AV} (he : EncOk K enc) (hi : ∀ x y, enc x = enc y → x = y) {l m : List α} (hl : (l.map enc).flatten.length ≤ top) (hm : (m.map enc).flatten.length ≤ top) (hlen : l.length = m.length) (h : rowT enc l = rowT enc m) : l = m := by
  unfold rowT at h
  injection h with h1 h2 _
  have hf : (l.map enc).flatten = (m.map enc).flatten := by
    apply List.ext_getElem? 
    intro i
    by_cases q : i < (l.map enc).flatten.length
    · have e1 := cellAt_list hl (List.getElem?_eq_getElem q)
      have q' : i < (m.map enc).flatten.length := by rw [← h1]; exact q
      have e2 := cellAt_list hm (List.getElem?_eq_getElem q')
      rw [h2, e2] at e1
      rw [List.getElem?_eq_getElem q, List.getElem?_eq_getElem q', e1]
    · rw [List.getElem?_eq_none (by omega), List.getElem?_eq_none (by omega)]
  have hc : ∀ l : List α, ∀ c ∈ l.map enc, c.length = K := fun l c hc => by
    obtain ⟨x, _, rfl⟩ := List.mem_map.1 hc
    exact he.len x
  have hmap := flatten_inj (hc l) (hc m) (by rw [List.length_map, List.length_map, hlen]) hf
  have : ∀ l m : List α, l.map enc = m.map enc → l = m := by
    intro l
    induction l with
    | nil => intro m e; cases m with
      | nil => rfl
      | cons => cases e
    | cons x l ih => intro m e; cases m with
      | nil => cases e
      | cons y m =>
        simp only [List.map_cons] at e
        injection e with e1 e2
        rw [hi _ _ e1, ih _ e2]
  exact this l m hmap
variable {s : AS}
/-- A row of one's own is read. -/
theorem rowOf_own {α : Type} {F : Nat → Option (List AV)} {K : Nat} {enc : α → List AV} (he : EncOk K enc) (hi : ∀ x y, enc x = enc y → x = y) {n : Nat} {l : List α} (hg : s.h.get n = ownO enc l) (hn : n < s.nx) (hmk : s.mark = 0) (hl : (l.map enc).flatten.length ≤ top) : rowOf F K enc (ownV K n l) s = .ok l s := by
  cases l with
  | nil => exact rowOf_frozen (SlT.inj hi) ⟨fun c hc => by simp at hc, .inl ⟨rfl, rfl⟩⟩
  | cons c l =>
    have hg' : s.h.get n = some (rowT enc (c :: l)) := hg
    unfold rowOf
    show ((rdN n).bind _) s = _
    rw [M.bind_ok (rdN_of hn hg' hmk)]
    have hex : ∃ m : List α, rowT enc (c :: l) = rowT enc m ∧ m.length = (c :: l).length ∧ (m.map enc).flatten.length ≤ top := ⟨c :: l, rfl, rfl, hl⟩
    rw [dif_pos hex]
    obtain ⟨q1, q2, q3⟩ := hex.choose_spec
    have := rowT_inj he hi hl q3 q2.symm q1
    show M.pure hex.choose s = _
    rw [← this]
    rfl
theorem spec2_of {α β : Type} {F : Nat → Option (List AV)} {K1 K2 : Nat} {enc1 : α → List AV} {enc2 : β → List AV} {mx : Nat} {D : List α → List β → Bool} {call : Caller} {a b : AV} {la : List α} {lb : List β} (ha : rowOf F K1 enc1 a s = .ok la s) (hb : rowOf F K2 enc2 b s = .ok lb s) (hl : la.length ≤ mx) :
    spec2 F K1 enc1 K2 enc2 mx D call [a, b] s = .ok (.bool (D la lb)) s := by
  unfold spec2
  simp only
  rw [M.bind_ok ha, M.bind_ok hb, ble_true.2 hl, withB_true]
  rfl
theorem specO_of {α β : Type} {F : Nat → Option (List AV)} {K1 K2 : Nat} {enc1 : α → List AV} {enc2 : β → List AV} {mx : Nat} {f : List α → List β} {call : Caller} {x y z : Int} {a : AV} {la : List α} {L : List (Nat × Option AObj)} {nx : Nat} (ha : rowOf F K1 enc1 a (stOf L nx) = .ok la (stOf L nx)) (hl : la.length ≤ mx) (hf : ((f la).map enc2).flatten.length ≤ top) (hn : nx < top) :
    specO F K1 enc1 K2 enc2 mx f call [.agg [.int .i64 x, .int .i64 y, .int .i64 z, a]] (stOf L nx) = .ok (ownV K2 nx (f la)) (stOf ((nx, ownO enc2 (f la)) :: L) (nx + 1)) := by
  unfold specO
  simp only
  rw [M.bind_ok ha, show (Nat.ble la.length mx && Nat.ble ((f la).map enc2).flatten.length top) = true from and_true.2 ⟨ble_true.2 hl, ble_true.2 hf⟩, withB_true]
  rw [M.bind_ok (newO_ok (s := stOf L nx) hn)]
  simp only [stOf, hpOf]
  rfl
section
variable {P : Program} {call : Caller} {t : Tr AV}
/-- How many an own row has. -/
theorem op_lenOwn {β : Type} {ts : Array TypeId} {ty e : TypeId} {x : Operand} {K n : Nat} {l : List β} (hx : opd t x = some (ownV K n l)) (h0 : ts[0]? = some ty) (hu : P.underlying ty = some (.slice e)) :
    (opB P (.call ⟨.builtin .len, #[x], ts⟩)).val call t s = .ok (.int .i64 (l.length : Nat)) s := by
  show kBuiltin P .len ts [x] call t s = _
  unfold kBuiltin opds opds
  rw [hx]
  show lenT P ts (ownV K n l) s = _
  have hl : lift ts[0]? s = .ok ty s := by rw [h0]; rfl
  cases l <;>
  · unfold lenT
    show ((lift ts[0]?).bind _) s = _
    rw [M.bind_ok hl]
    simp only [hu, ownV]
    rfl
end
end Go.Rn

/- Elements of a row of one's own. -/
namespace Go.Rn
open Go.RowKit
variable {P : Program} {call : Caller} {t : Tr AV} {s : AS}
theorem op_indexOwn {β : Type} {ty e : TypeId} {x i : Operand} {ik : IntKind} {K n : Nat} {z : Int} {l : List β} {c : β} (hx : opd t x = some (ownV K n l)) (hi : opd t i = some (.int ik z)) (hu : P.underlying ty = some (.slice e)) (hk : sizeT P e = some K) (h0 : 0 ≤ z) (hc : l[z.toNat]? = some c) :
    (opB P (.indexAddr ty x i)).val call t s = .ok (.ptr (some (n, z.toNat * K))) s := by
  have hlt := (List.getElem?_eq_some_iff.1 hc).1
  cases l with
  | nil => simp at hlt
  | cons d l =>
    show kIndexAddr P ty x i call t s = _
    unfold kIndexAddr
    rw [hx, hi, withO_some, withO_some]
    obtain ⟨m, rfl⟩ := Int.eq_ofNat_of_zero_le h0
    have hw : within (↑m) (d :: l).length = some m := by
      show within (Int.ofNat m) (d :: l).length = some m
      unfold within
      have : Nat.blt m (d :: l).length = true := by rw [blt_eq]; simpa using hlt
      simp only [this]
    show lift (indexAddr P ty (.slice (some (n, 0)) (d :: l).length (.atLeast (d :: l).length K)) (.int ik ↑m)) s = _
    unfold indexAddr intOf
    simp only [hu, hk]
    rw [hw]
    simp only [Nat.zero_add]
    rfl
theorem op_loadOwn {β : Type} {K : Nat} {enc : β → List AV} (he : EncOk K enc) {ty : TypeId} {a : Operand} {n i : Nat} {l : List β} {c : β} (ha : opd t a = some (.ptr (some (n, i * K)))) (hg : aggT P ty = some true) (hk : sizeT P ty = some K) (hh : s.h.get n = ownO enc l) (hn : n < s.nx) (hm : s.mark = 0) (hl : (l.map enc).flatten.length ≤ top) (hc : l[i]? = some c) :
    (opB P (.load ty a)).val call t s = .ok (.agg (enc c)) s := by
  have hlt := (List.getElem?_eq_some_iff.1 hc).1
  have hcs : ∀ x ∈ l.map enc, x.length = K := fun x hx => by
    obtain ⟨y, _, rfl⟩ := List.mem_map.1 hx
    exact he.len y
  have hfl := flatten_len hcs
  rw [List.length_map] at hfl
  have hle : i * K + K ≤ (l.map enc).flatten.length := by
    rw [hfl]
    have := Nat.mul_le_mul_right K hlt
    rw [Nat.succ_mul] at this
    exact this
  have hat := flatten_at (l := l.map enc) (i := i) (c := enc c) hcs (by rw [List.getElem?_map, hc]; rfl)
  cases l with
  | nil => simp at hlt
  | cons d l =>
    show kLoad P ty a call t s = _
    unfold kLoad
    rw [ha, withO_some]
    show withO (addrOf (.ptr (some (n, i * K)))) (fun a => loadVar P ty a.1 a.2) s = _
    show loadVar P ty n (i * K) s = _
    unfold loadVar
    rw [hg, withO_some]
    show withO (sizeT P ty) (fun k => (readCells n (i * K) k).bind fun l => M.pure (AV.agg l)) s = _
    rw [hk, withO_some, M.bind_ok (readCells_fill hn hh hm hl hle), hat]
    rfl
end Go.Rn

/- Remainders and conversions of numbers that are not known. -/
namespace Go.Rn
variable {P : Program} {call : Caller} {t : Tr AV} {s : AS}
theorem op_rem {ty yt : TypeId} {x y : Operand} {k : IntKind} {a b c : Int} (hx : opd t x = some (.int k a)) (hy : opd t y = some (.int k b)) (h0 : b ≠ 0) (h : a.tmod b = c) : (opB P (.binOp .rem ty x y yt)).val call t s = .ok (.int k c) s :=
  bin_int hx hy rfl rfl (by subst h; simp only [intOp, decide_eq_false h0])
theorem op_convInt {src dst : TypeId} {x : Operand} {k k' : IntKind} {n m : Int} (hx : opd t x = some (.int k n)) (hs : (P.underlying src).isSome = true) (hd : P.underlying dst = some (.int k')) (h : k'.wrap n = m) : (opB P (.convert src dst x)).val call t s = .ok (.int k' m) s := by
  show kConvert P src dst x call t s = _
  unfold kConvert
  rw [hx, withO_some]
  show lift (convertT P src dst (.int k n)) s = _
  unfold convertT
  cases e : P.underlying src with
  | none => rw [e] at hs; cases hs
  | some _ => simp only [hd, h]; rfl
end Go.Rn

/- One more row that stays as it is: of the input. -/
namespace Go.Rn
theorem Rel.addF {may : Nat → Prop} {F : Nat → Option (List AV)} {ρ : Ren} {h : Tr AObj} {w : World} (r : Rel ⟨may, F⟩ ρ h w) {m b sh : Nat} {l : List AV} {c : Array Value} {e : TypeId} {fr : Nat × Nat} (hm : top ≤ m) (hF : F m = none) (hρ : ρ m = none) (hb : w.heap[b]? = some (.cells c e fr))
    (hno : ∀ n o, n < top → h.get n = some o → o.isRo = true) (hl : ∀ (i : Nat) (x : AV), l[i]? = some x → ∃ v, c[sh + i]? = some v ∧ VR (hiF F ρ) x v ∧ x.oneCell = true) :
    Rel ⟨may, updF F m l⟩ (updR ρ m (b, sh)) h w ∧ ρ.le (updR ρ m (b, sh)) ∧ updF F m l m = some l ∧ updR ρ m (b, sh) m = some (b, sh) ∧ ∀ k, F k ≠ none → updF F m l k = F k := by
  have hle : ρ.le (updR ρ m (b, sh)) := updR_le hρ
  have r' := r.mono hle
  have hnw : ∀ ρ' b', NoW ρ' h b' := fun ρ' b' n o N hn ho hro => by
    rw [hno n o hn ho] at hro; cases hro
  have hhi : (hiF F ρ).le (hiF (updF F m l) (updR ρ m (b, sh))) := by
    intro k x q
    unfold hiF at q ⊢
    split at q
    · rename_i q2
      have hk : k ≠ m := by intro e2; subst e2; rw [hF] at q2; cases q2
      rw [if_pos (by unfold updF; rw [if_neg hk]; exact q2), updR_ne ρ _ hk]; exact q
    · cases q
  refine ⟨⟨r'.is, r'.one, r'.iter, r'.size, r'.lone, fun n l' q => ?_⟩, hle, by simp [updF], updR_self _ _ _, fun k hk => ?_⟩
  · have q' : updF F m l n = some l' := q
    unfold updF at q'
    by_cases q2 : n = m
    · subst q2
      rw [if_pos rfl] at q'
      injection q' with q'; subst q'
      exact ⟨hm, b, sh, c, e, fr, updR_self _ _ _, hb, hnw _ _, fun i x hx => by
        obtain ⟨v, a1, a2, a3⟩ := hl i x hx
        exact ⟨v, a1, VR.mono hhi _ _ a2, a3⟩⟩
    · rw [if_neg q2] at q'
      obtain ⟨h1, b1, sh1, c1, e1, fr1, h2, h3, _, h5⟩ := r.fz n l' q'
      exact ⟨h1, b1, sh1, c1, e1, fr1, hle _ _ h2, h3, hnw _ _, fun i x hx => by
        obtain ⟨v, a1, a2, a3⟩ := h5 i x hx
        exact ⟨v, a1, VR.mono hhi _ _ a2, a3⟩⟩
  · unfold updF
    by_cases q : k = m
    · subst q; exact absurd hF hk
    · rw [if_neg q]
end Go.Rn

/- An operation of a drawn region that reads, or makes names. -/
namespace Go.Rn
variable {P : Program} {call : Caller} {nt : Nat} {ops : Array Oper} {t t1 : Tr AV}
theorem opD2 {i : Nat} {op : Op} {d : Option Tmp} {v : AV} {h h1 : Tr AObj} {nx nx1 mk : Nat} {rd wr : List Nat} (ho : opIs ops i = some (op, d, none)) (hv : (opB P op).val call t ⟨h, nx, nx, [], []⟩ = .ok v ⟨h1, nx1, mk, rd, wr⟩) (hp : aput nt t d v = some t1) :
    runD P call nt ops i 1 t ⟨h, nx, 0, [], []⟩ = .ok (t1, [⟨i, below nx rd, below nx wr, nx, nx1⟩]) ⟨h1, nx1, 0, below 0 rd ++ [], below 0 wr ++ []⟩ := by
  obtain ⟨o, e, rfl, rfl, e3⟩ := opIs_inv ho
  unfold runD
  have hl : (ops.toList.drop i).take 1 = [o] := by
    have h1 : ops.toList[i]? = some o := by rw [Array.getElem?_toList]; exact e
    obtain ⟨hi, e⟩ := List.getElem?_eq_some_iff.1 h1
    rw [List.drop_eq_getElem_cons hi, e]; rfl
  rw [hl]
  have ha : aone P call nt ops o t ⟨h, nx, nx, [], []⟩ = .ok t1 ⟨h1, nx1, mk, rd, wr⟩ := by
    unfold aone slotB
    rw [e3]
    show kOp (opB P o.op) o.dst call nt t _ = _
    unfold kOp
    rw [M.bind_ok hv, hp]
    rfl
  have hal : alone i (aone P call nt ops o t) ⟨h, nx, 0, [], []⟩ = .ok (t1, ⟨i, below nx rd, below nx wr, nx, nx1⟩) ⟨h1, nx1, 0, below 0 rd ++ [], below 0 wr ++ []⟩ := by
    unfold alone
    simp only [forced_eq]
    show (@R.rec _ (fun _ => R (Tr AV × Met)) .bad (fun a s1 => _) (aone P call nt ops o t ⟨h, nx, nx, [], []⟩)) = _
    rw [ha]
  show ((alone i (aone P call nt ops o t)).bind fun x => (aopsD P call nt ops [] (i + 1) x.1).bind fun y => M.pure (y.1, x.2 :: y.2)) _ = _
  rw [M.bind_ok hal]
  rfl
end Go.Rn

/- What a law wants beside: operations of drawn regions that read own rows, or make names; own rows are plain; rows made anywhere. -/
namespace Go.Rn
open Go.RowKit
theorem blt_mp {n m : Nat} (h : Nat.blt n m = true) : n < m := (blt_eq _ _).mp h
theorem ownO_plain {β : Type} {enc : β → List AV} {l : List β} {o : AObj} (h : ownO enc l = some o) : o.plain = true := by
  cases l with
  | nil => cases h
  | cons c l => injection h with h; subst h; rfl
section
variable {P : Program} {call : Caller} {nt : Nat} {ops : Array Oper} {t t1 : Tr AV}
theorem opD3 {i : Nat} {op : Op} {d : Option Tmp} {v : AV} {h h1 : Tr AObj} {nx nx1 mk : Nat} {rd wr rd2 wr2 : List Nat} {s2 : AS} (ho : opIs ops i = some (op, d, none)) (hv : (opB P op).val call t ⟨h, nx, nx, [], []⟩ = .ok v ⟨h1, nx1, mk, rd, wr⟩) (hp : aput nt t d v = some t1)
    (hs : (⟨h1, nx1, 0, [], []⟩ : AS) = s2) (hr : below nx rd = rd2) (hw : below nx wr = wr2) : runD P call nt ops i 1 t ⟨h, nx, 0, [], []⟩ = .ok (t1, [⟨i, rd2, wr2, nx, nx1⟩]) s2 := by
  subst hs; subst hr; subst hw
  exact opD2 ho hv hp
theorem rdN_ofD {n nx : Nat} {h : Tr AObj} {o : AObj} (h1 : n < nx) (h2 : h.get n = some o) : rdN n ⟨h, nx, nx, [], []⟩ = .ok o ⟨h, nx, nx, [n], []⟩ := by
  have e1 : Nat.blt n nx = true := by rw [blt_eq]; exact h1
  show @Bool.rec (fun _ => R AObj) .bad (@Option.rec AObj (fun _ => R AObj) .bad (fun o => @Bool.rec (fun _ => R AObj) (.ok o ⟨h, nx, nx, [], []⟩) (.ok o ⟨h, nx, nx, n :: [], []⟩) (Nat.blt n nx)) (h.get n)) (Nat.blt n nx) = _
  rw [e1, h2]
theorem readCells_fillD {n off k nx : Nat} {h : Tr AObj} {l z : List AV} (h1 : n < nx) (h2 : h.get n = some (.cells l.length (Tr.fill l 0 .nil) z)) (hl : l.length ≤ top) (hk0 : 0 < k) (hk : off + k ≤ l.length) : readCells n off k ⟨h, nx, nx, [], []⟩ = .ok ((l.drop off).take k) ⟨h, nx, nx, [n], []⟩ := by
  cases k with
  | zero => omega
  | succ k =>
    show ((rdN n).bind fun o => match o with
      | .cells m t z => withB (Nat.ble (off + (k + 1)) m) <| lift (gather t z (k + 1) off)
      | .ro m t => withB (Nat.ble (off + (k + 1)) m) <| lift (gather t [] (k + 1) off)
      | _ => fail) _ = _
    rw [M.bind_ok (rdN_ofD h1 h2)]
    show withB (Nat.ble (off + (k + 1)) l.length) (lift (gather (Tr.fill l 0 .nil) z (k + 1) off)) _ = _
    rw [ble_true.2 hk, withB_true, gather_fill hl _ _ hk]
    rfl
theorem op_loadOwnD {β : Type} {K : Nat} {enc : β → List AV} (he : EncOk K enc) {ty : TypeId} {a : Operand} {n i nx : Nat} {h : Tr AObj} {l : List β} {c : β} (ha : opd t a = some (.ptr (some (n, i * K)))) (hg : aggT P ty = some true) (hk : sizeT P ty = some K) (hh : h.get n = ownO enc l) (hn : n < nx) (hK : 0 < K) (hl : (l.map enc).flatten.length ≤ top) (hc : l[i]? = some c) :
    (opB P (.load ty a)).val call t ⟨h, nx, nx, [], []⟩ = .ok (.agg (enc c)) ⟨h, nx, nx, [n], []⟩ := by
  have hlt := (List.getElem?_eq_some_iff.1 hc).1
  have hcs : ∀ x ∈ l.map enc, x.length = K := fun x hx => by
    obtain ⟨y, _, rfl⟩ := List.mem_map.1 hx
    exact he.len y
  have hfl := flatten_len hcs
  rw [List.length_map] at hfl
  have hle : i * K + K ≤ (l.map enc).flatten.length := by
    rw [hfl]
    have := Nat.mul_le_mul_right K hlt
    rw [Nat.succ_mul] at this
    exact this
  have hat := flatten_at (l := l.map enc) (i := i) (c := enc c) hcs (by rw [List.getElem?_map, hc]; rfl)
  cases l with
  | nil => simp at hlt
  | cons d l =>
    show kLoad P ty a call t _ = _
    unfold kLoad
    rw [ha, withO_some]
    show withO (addrOf (.ptr (some (n, i * K)))) (fun a => loadVar P ty a.1 a.2) _ = _
    show loadVar P ty n (i * K) _ = _
    unfold loadVar
    rw [hg, withO_some]
    show withO (sizeT P ty) (fun k => (readCells n (i * K) k).bind fun l => M.pure (AV.agg l)) _ = _
    rw [hk, withO_some, M.bind_ok (readCells_fillD hn hh hl hK hle), hat]
    rfl
end
/-- A function that makes a row, called in a drawn region. -/
theorem specO_ofD {α β : Type} {F : Nat → Option (List AV)} {K1 K2 : Nat} {enc1 : α → List AV} {enc2 : β → List AV} {mx : Nat} {f : List α → List β} {call : Caller} {x y z : Int} {a : AV} {la : List α} {h : Tr AObj} {nx : Nat} (hi : ∀ l l' : List α, (∀ a, SlT F a K1 enc1 l → SlT F a K1 enc1 l' → l = l')) (ha : SlT F a K1 enc1 la) (hl : la.length ≤ mx) (hf : ((f la).map enc2).flatten.length ≤ top) (hn : nx < top) :
    specO F K1 enc1 K2 enc2 mx f call [.agg [.int .i64 x, .int .i64 y, .int .i64 z, a]] ⟨h, nx, nx, [], []⟩ = .ok (ownV K2 nx (f la)) ⟨h.put nx (ownO enc2 (f la)), nx + 1, nx, [], []⟩ := by
  unfold specO
  simp only
  rw [M.bind_ok (rowOf_frozen hi ha), show (Nat.ble la.length mx && Nat.ble ((f la).map enc2).flatten.length top) = true from and_true.2 ⟨ble_true.2 hl, ble_true.2 hf⟩, withB_true]
  rw [M.bind_ok (newO_ok (s := ⟨h, nx, nx, [], []⟩) hn)]
  rfl
noncomputable section
/-- What is known of a closed function that says yes. -/
def closedM (nx0 : Nat) (ns : List Nat) (h0 : Tr AObj) : Caller → List AV → M AV := fun _ args => withB args.isEmpty <| (checkAll nx0 h0 ns).bind fun _ => M.pure (.bool true)
end
theorem Local.closedM (nx0 : Nat) (ns : List Nat) (h0 : Tr AObj) (call : Caller) (args : List AV) : Local (closedM nx0 ns h0 call args) :=
  Local.withB fun _ => Local.bind (Local.checkAll nx0 h0 ns) (fun _ => Local.pure _)
theorem closedM_sim {P : Program} {B : Base} {f nx0 : FuncId} {ns : List Nat} {h0 : Tr AObj} {fn : Func} {body : Code} {ρ : Ren} {w : World} {s s1 : AS} (hfn : P.funcs[f]? = some fn) (hbody : fn.body = some body) (hname : (fn.name == "runtime.NumGoroutine") = false)
    (hg0 : globs ≤ nx0) (hall : ∀ n o, n < top → h0.get n = some o → n ∈ ns) (hns : ∀ n ∈ ns, n < nx0)
    (hcon : ∀ (ρ : Ren) (w : World), Start nx0 h0 ρ w → Calls P f #[] w fun e w' => e = .returned (.bool true) ∧ Below w.heap.size w w')
    {call : Caller} {args : List AV} {x : AV} {vs : Array Value} (r : Rel B ρ s.h w) (hg : RenG ρ) (h : closedM nx0 ns h0 call args s = .ok x s1) (hv : VRs ρ args vs.toList) : Back P ((callFunc f vs).run P w) (Came B ρ s s1 w x) := by
  obtain ⟨e1, h1⟩ := withB_inv (show (withB args.isEmpty <| (checkAll nx0 h0 ns).bind fun _ => M.pure (AV.bool true)) s = .ok x s1 from h)
  obtain ⟨u, s2, h2, h3⟩ := M.bind_inv h1
  obtain ⟨rfl, rfl⟩ := pure_inv h3
  obtain ⟨a1, a2, a3⟩ := checkAll_inv h2
  have hargs : args = [] := by simpa using e1
  subst hargs
  have hvs : vs = #[] := by
    obtain ⟨l⟩ := vs
    simp only [VRs] at hv
    rw [show l = [] from hv]
  subst hvs
  rw [callFunc_run hfn hbody hname]
  have S : Start nx0 h0 (fun k => if k < nx0 then ρ k else none) w := by
    refine ⟨fun k hk => ?_, fun k hk => ?_, fun n o hn ho => ?_⟩
    · obtain ⟨N, e⟩ := hg k hk
      exact ⟨N, by rw [if_pos (Nat.lt_of_lt_of_le hk hg0)]; exact e⟩
    · show (if k < nx0 then ρ k else none) = none
      rw [if_neg (by omega)]
    · have hin := hall n o hn ho
      obtain ⟨c1, p1, p2, c2, c3, c4⟩ := a3 n hin
      rw [ho] at c3; cases c3
      obtain ⟨b, N, o', i1, i2, i3, _⟩ := r.is n p1 hn c2
      obtain ⟨j1, j2⟩ := roSame_sim c4 i3
      exact ⟨j1, b, N, o', by show (if n < nx0 then ρ n else none) = _; rw [if_pos (hns n hin)]; exact i1, i2, j2⟩
  refine Calls.mono (hcon _ w S) fun e w' => ?_
  rintro ⟨rfl, hb⟩
  have gr : Grew w w' := ⟨hb.os, hb.tape, hb.output, hb.size, fun k hk => hb.block k hk⟩
  exact ⟨.bool true, rfl, ρ, by rw [a2]; exact Ext.refl _ _ _, by simp only [VR], by rw [a1]; exact r.grew gr, gr.below r.size⟩
end Go.Rn

/- Slices of the input, as rows that stay as they are. -/
namespace Go.Rn
open Go.RowKit Go.ChangeShapes Go.WideShapes
section
variable {H : Type} {enc : TypeId × Value → H} {P : Program} {w : World} {base : Nat} {spare : Nat → Bool} {held : Bool}
theorem cells?_at {a : Addr} {n : Nat} {cs : List Value} (h : w.cells? base a n = some cs) : cs.length = n ∧ ∀ (j : Nat) (x : Value), cs[j]? = some x → w.cell? (a.add j) = some x := by
  unfold World.cells? at h
  split at h
  · have hlen : cs.length = n := by simpa using mapM_some_length h
    refine ⟨hlen, fun j x hx => ?_⟩
    have hj : j < n := by
      have := (List.getElem?_eq_some_iff.1 hx).1
      omega
    have := mapM_some_get h j j (by simp [hj])
    exact this.trans hx
  · cases h
theorem add_none (b o m : Nat) : (⟨b, o, none⟩ : Addr).add m = ⟨b, o + m, none⟩ := by
  unfold Addr.add
  split
  · rename_i h; subst h; rfl
  · rfl
/-- A slice of the input, by its elements' cells. -/
theorem open_rows {r : Reach} {b0 : Nat} {t e : TypeId} {K fuel : Nat} {v : Value} {x : DataW H × List MemPlace} (ht : P.underlying t = some (.slice e)) (hK : P.cellsOf e = K) (hok : Cell.okWide P w r b0 t v) (h : DataW.trod enc P w base spare held fuel t [v] = some x) :
    v = .slice none 0 0 ∨ ∃ (b o len cap : Nat) (c : Array Value) (el : TypeId) (fr : Nat × Nat) (rows : List (List Value)), v = .slice (some ⟨b, o, none⟩) len cap ∧ len ≤ cap ∧ w.heap[b]? = some (.cells c el fr) ∧ rows.length = len ∧
      ∀ (i : Nat) (row : List Value), rows[i]? = some row → row.length = K ∧ (∃ n y, DataW.trod enc P w base spare held n e row = some y) ∧ ∀ (j : Nat) (x : Value), row[j]? = some x → c[o + i * K + j]? = some x := by
  rcases DataW.trod_slice ht h with ⟨h0, _⟩ | ⟨a, len, cap, elems, rest, n, _, hcs, _, _, hl, _, hlen, hel, _, _⟩
  · left
    injection h0
  · right
    injection hcs with hv _
    subst hv
    unfold Cell.okWide at hok
    rw [ht] at hok
    simp only at hok
    unfold Cell.ok at hok
    rw [ht] at hok
    simp only at hok
    obtain ⟨_, _, _, hspot, row0, cells0, hshape, _⟩ := hok
    obtain ⟨b, o, sp⟩ := a
    simp only at hspot hshape
    subst hspot
    unfold World.shape? at hshape
    split at hshape
    · rename_i c el fr hb
      refine ⟨b, o, len, cap, c, el, fr, (List.range len).map fun i => (w.cells? base ((⟨b, o, none⟩ : Addr).add (i * K)) K).getD [], rfl, hl, hb, by simp, fun i row hrow => ?_⟩
      have hi : i < len := by
        have := (List.getElem?_eq_some_iff.1 hrow).1
        simpa using this
      have he := hel i hi
      rw [hK] at he
      rw [List.getElem?_eq_getElem (by omega)] at he
      obtain ⟨cs, h1, h2⟩ := Option.bind_eq_some_iff.1 he
      rw [List.getElem?_map, List.getElem?_range hi, Option.map_some, h1] at hrow
      injection hrow with hrow
      have hrow' : cs = row := hrow
      subst hrow'
      obtain ⟨k1, k2⟩ := cells?_at h1
      refine ⟨k1, ⟨n, _, h2⟩, fun j x hx => ?_⟩
      have := k2 j x hx
      rw [add_none, add_none] at this
      unfold World.cell? at this
      simp only [hb] at this
      simpa using this
    · cases hshape
/-- Kinds of a struct's fields, all of them numbers. -/
def intsOf (P : Program) (t : TypeId) (ks : List IntKind) : Bool :=
  match P.underlying t with
  | some (.struct fs) => Nat.beq (P.cellsOf t) ks.length && (Nat.beq fs.size ks.length && (List.range ks.length).all fun i => match fs[i]?, ks[i]? with
    | some f, some k => Nat.beq f.offset i && (Nat.beq (P.cellsOf f.type) 1 && (match P.underlying f.type with
      | some (.int k') => decide (k' = k)
      | _ => false))
    | _, _ => false)
  | _ => false
def numOf : Value → Int
  | .int _ n => n
  | _ => 0
theorem struct_ints {t : TypeId} {ks : List IntKind} {fuel : Nat} {cs : List Value} {x : DataW H × List MemPlace} (hk : intsOf P t ks = true) (h : DataW.trod enc P w base spare held fuel t cs = some x) :
    ∃ zs : List Int, zs.length = ks.length ∧ cs.length = ks.length ∧ ∀ (i : Nat) (k : IntKind) (z : Int), ks[i]? = some k → zs[i]? = some z → cs[i]? = some (.int k z) := by
  unfold intsOf at hk
  split at hk
  · rename_i fs hu
    obtain ⟨q1, q2⟩ := and_true.1 hk
    obtain ⟨q2, q3⟩ := and_true.1 q2
    have hc := beqN_true.1 q1
    have hs := beqN_true.1 q2
    obtain ⟨xs, n, _, _, hlen, hxs, hf⟩ := DataW.trod_struct hu h
    rw [hc] at hlen
    refine ⟨cs.map numOf, by simpa using hlen, hlen, fun i k z h1 h2 => ?_⟩
    have hi : i < ks.length := (List.getElem?_eq_some_iff.1 h1).1
    have hq := List.all_eq_true.1 q3 i (List.mem_range.2 hi)
    split at hq
    · rename_i f k' hf' hk'
      rw [h1] at hk'
      injection hk' with hk'
      subst hk'
      obtain ⟨a1, a2⟩ := and_true.1 hq
      obtain ⟨a2, a3⟩ := and_true.1 a2
      have ho := beqN_true.1 a1
      have hcz := beqN_true.1 a2
      split at a3
      · rename_i k2 hk2
        have hkk : k2 = k := of_decide_eq_true a3
        subst hkk
        have := hf i f hf'
        rw [ho, hcz, List.getElem?_eq_getElem (by rw [hxs, hs]; exact hi)] at this
        obtain ⟨m, e1, _, _⟩ := DataW.trod_int hk2 this
        have hci : cs[i]? = some (.int k2 m) := by
          have h0 : ((cs.drop i).take 1)[0]? = some (.int k2 m) := by rw [e1]; rfl
          rw [List.getElem?_take, if_pos (by omega), List.getElem?_drop, Nat.add_zero] at h0
          exact h0
        rw [List.getElem?_map, hci] at h2
        injection h2 with h2
        have h2' : m = z := h2
        rw [hci, h2']
      · cases a3
    · cases hq
  · cases hk
theorem exists_map {α β : Type} {f : α → β} : ∀ {l : List β}, (∀ b ∈ l, ∃ a, b = f a) → ∃ m : List α, l = m.map f
  | [], _ => ⟨[], rfl⟩
  | b :: l, h => by
    obtain ⟨a, ha⟩ := h b List.mem_cons_self
    obtain ⟨m, hm⟩ := exists_map (l := l) fun c hc => h c (List.mem_cons_of_mem _ hc)
    exact ⟨a :: m, by rw [List.map_cons, ← ha, ← hm]⟩
theorem flatten_get {β : Type} {K : Nat} : ∀ {l : List (List β)} {i : Nat} {x : β}, (∀ c ∈ l, c.length = K) → l.flatten[i]? = some x → ∃ q j row, l[q]? = some row ∧ row[j]? = some x ∧ i = q * K + j
  | [], i, x, _, h => by simp at h
  | c :: l, i, x, hl, h => by
    have hc := hl c List.mem_cons_self
    rw [List.flatten_cons] at h
    by_cases q : i < c.length
    · rw [List.getElem?_append_left q] at h
      exact ⟨0, i, c, rfl, h, by omega⟩
    · rw [List.getElem?_append_right (by omega)] at h
      obtain ⟨a, j, row, h1, h2, h3⟩ := flatten_get (fun c' h' => hl c' (List.mem_cons_of_mem _ h')) h
      exact ⟨a + 1, j, row, by simpa using h1, h2, by rw [Nat.add_mul, Nat.one_mul]; omega⟩
/-- What elements are, as values. -/
structure EncVal {α : Type} (K : Nat) (enc : α → List AV) (vals : α → List Value) : Prop where
  len : ∀ a, (enc a).length = K
  vlen : ∀ a, (vals a).length = K
  is : ∀ (a : α) (j : Nat) (x : AV), (enc a)[j]? = some x → ∃ v, (vals a)[j]? = some v ∧ (∀ ρ, VR ρ x v) ∧ x.oneCell = true
/-- A slice of the input is such. -/
def InSl {α : Type} (w : World) (_K : Nat) (encA : α → List AV) (v : Value) (l : List α) : Prop :=
  (v = .slice none 0 0 ∧ l = []) ∨ ∃ (b o cap : Nat) (c : Array Value) (el : TypeId) (fr : Nat × Nat), v = .slice (some ⟨b, o, none⟩) l.length cap ∧ l.length ≤ cap ∧ w.heap[b]? = some (.cells c el fr) ∧
    ∀ (i : Nat) (x : AV), (l.map encA).flatten[i]? = some x → ∃ u, c[o + i]? = some u ∧ (∀ ρ, VR ρ x u) ∧ x.oneCell = true
theorem input_slice {α : Type} {K : Nat} {encA : α → List AV} {vals : α → List Value} (hev : EncVal K encA vals) {r : Reach} {b0 : Nat} {t e : TypeId} {fuel : Nat} {v : Value} {x : DataW H × List MemPlace} (ht : P.underlying t = some (.slice e)) (hK : P.cellsOf e = K)
    (hrow : ∀ row : List Value, row.length = K → (∃ n y, DataW.trod enc P w base spare held n e row = some y) → ∃ a, row = vals a) (hok : Cell.okWide P w r b0 t v) (h : DataW.trod enc P w base spare held fuel t [v] = some x) : ∃ l : List α, InSl w K encA v l := by
  rcases open_rows ht hK hok h with h0 | ⟨b, o, len, cap, c, el, fr, rows, h1, h2, h3, h4, h5⟩
  · exact ⟨[], .inl ⟨h0, rfl⟩⟩
  · obtain ⟨l, hl⟩ := exists_map (f := vals) (l := rows) fun row hr => by
      obtain ⟨i, hi⟩ := List.mem_iff_getElem?.1 hr
      obtain ⟨a1, a2, _⟩ := h5 i row hi
      exact hrow row a1 a2
    subst hl
    rw [List.length_map] at h4
    subst h4
    refine ⟨l, .inr ⟨b, o, cap, c, el, fr, h1, h2, h3, fun i x hx => ?_⟩⟩
    obtain ⟨q, j, row, e1, e2, e3⟩ := flatten_get (K := K) (fun c' hc' => by obtain ⟨a, _, rfl⟩ := List.mem_map.1 hc'; exact hev.len a) hx
    rw [List.getElem?_map] at e1
    cases ha : l[q]? with
    | none => rw [ha] at e1; cases e1
    | some a =>
      rw [ha] at e1
      injection e1 with e1
      subst e1
      obtain ⟨u, g1, g2, g3⟩ := hev.is a j x e2
      obtain ⟨_, _, g4⟩ := h5 q (vals a) (by rw [List.getElem?_map, ha]; rfl)
      exact ⟨u, by rw [e3, ← Nat.add_assoc]; exact g4 j u g1, g2, g3⟩
end
/-- One more slice of the input. -/
theorem Rel.addIn {α : Type} {may : Nat → Prop} {F : Nat → Option (List AV)} {ρ : Ren} {h : Tr AObj} {w : World} {m K : Nat} {encA : α → List AV} {v : Value} {l : List α} (r : Rel ⟨may, F⟩ ρ h w) (hm : top ≤ m) (hF : ∀ k, m ≤ k → F k = none ∧ ρ k = none) (hno : ∀ n o, n < top → h.get n = some o → o.isRo = true)
    (hlen : ∀ a, (encA a).length = K) (hi : InSl w K encA v l) :
    ∃ F' ρ' m' a, Rel ⟨may, F'⟩ ρ' h w ∧ ρ.le ρ' ∧ (∀ k, k < top → ρ' k = ρ k) ∧ (∀ k, F k ≠ none → F' k = F k) ∧ (∀ k, m' ≤ k → F' k = none ∧ ρ' k = none) ∧ top ≤ m' ∧ SlT F' a K encA l ∧ VR ρ' a v := by
  rcases hi with ⟨rfl, rfl⟩ | ⟨b, o, cap, c, el, fr, rfl, h2, h3, h4⟩
  · exact ⟨F, ρ, m, .slice none 0 (.known 0), r, Ren.le_refl _, fun _ _ => rfl, fun _ _ => rfl, hF, hm, ⟨fun c hc => by simp at hc, .inl ⟨rfl, rfl⟩⟩, by simp [VR]⟩
  · obtain ⟨r', g1, g2, g3, g4⟩ := r.addF (m := m) (b := b) (sh := o) (l := (l.map encA).flatten) hm (hF m (Nat.le_refl _)).1 (hF m (Nat.le_refl _)).2 h3 hno (fun i x hx => by
      obtain ⟨u, k1, k2, k3⟩ := h4 i x hx
      exact ⟨u, k1, k2 _, k3⟩)
    refine ⟨_, _, m + 1, .rslice m 0 l.length, r', g1, fun k hk => updR_ne ρ _ (by omega), g4, fun k hk => ⟨?_, ?_⟩, by omega, ⟨?_, .inr ⟨m, 0, _, ?_, hm, g2, ?_, ?_⟩⟩, ?_⟩
    · unfold updF; rw [if_neg (by omega)]; exact (hF k (by omega)).1
    · rw [updR_ne ρ _ (by omega)]; exact (hF k (by omega)).2
    · intro c hc
      obtain ⟨x, _, rfl⟩ := List.mem_map.1 hc
      exact hlen x
    · rw [List.length_map]
    · rw [Nat.zero_add, flatten_len (K := K) (fun c hc => by obtain ⟨x, _, rfl⟩ := List.mem_map.1 hc; exact hlen x)]
      exact Nat.le_refl _
    · rw [List.drop_zero, ← flatten_len (K := K) (l := l.map encA) (fun c hc => by obtain ⟨x, _, rfl⟩ := List.mem_map.1 hc; exact hlen x), List.take_length]
    · simp only [VR]
      exact ⟨b, o, cap, g3, rfl, fun _ => h2⟩
end Go.Rn
