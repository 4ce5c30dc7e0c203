/- Names called anew: what is kept of values and rows. -/
import Derived.Test.YtbnjeblcleihkaaGreatDoorRnOpenA
import Derived.ChangeArms
import Derived.ChangeShapes
namespace Go.Rn
open Go.RowKit
section
variable {r : Nat → Nat}
theorem VEnt.int (k : IntKind) (n : Int) : VEnt r (.int k n) (.int k n) := fun _ _ h => h
theorem VEnt.nilslice : VEnt r (.slice none 0 (.known 0)) (.slice none 0 (.known 0)) := fun _ _ h => h
theorem VEnt.ptr {n m o : Nat} (e : r m = n) : VEnt r (.ptr (some (n, o))) (.ptr (some (m, o))) := by
  intro ρ v h
  simp only [VR] at h ⊢
  rw [e]; exact h
theorem VEnt.slice {n m o len : Nat} {c : Cap} (e : r m = n) : VEnt r (.slice (some (n, o)) len c) (.slice (some (m, o)) len c) := by
  intro ρ v h
  cases c <;> simp only [VR] at h ⊢ <;> rw [e] <;> exact h
theorem VEnt.rslice {n o len : Nat} (e : r n = n) : VEnt r (.rslice n o len) (.rslice n o len) := by
  intro ρ v h
  simp only [VR] at h ⊢
  rw [e]; exact h
def AV.flat : AV → Bool
  | .bool _ | .int _ _ | .str _ | .zstr _ => true
  | .ptr none | .map none | .nilFunc | .nilIface => true
  | _ => false
theorem VEnt.flat {x : AV} (h : x.flat = true) : VEnt r x x := by
  intro ρ v k
  cases x <;> first | exact k | skip
  · rename_i a; cases a with
    | none => exact k
    | some _ => cases h
  · cases h
  · cases h
  · cases h
  · rename_i a; cases a with
    | none => exact k
    | some _ => cases h
  · cases h
  · cases h
  · cases h
  · cases h
  · cases h
def VEnts (r : Nat → Nat) : List AV → List AV → Prop
  | [], [] => True
  | x :: l, y :: m => VEnt r x y ∧ VEnts r l m
  | _, _ => False
theorem VEnts.length : ∀ {l m : List AV}, VEnts r l m → l.length = m.length
  | [], [], _ => rfl
  | _ :: _, _ :: _, h => by simp [VEnts.length h.2]
  | [], _ :: _, h => by cases h
  | _ :: _, [], h => by cases h
theorem VEnts.at_ : ∀ {l m : List AV} {i : Nat} {x y : AV}, VEnts r l m → l[i]? = some x → m[i]? = some y → VEnt r x y
  | x :: l, y :: m, 0, a, b, h, h1, h2 => by simp at h1 h2; subst h1; subst h2; exact h.1
  | x :: l, y :: m, i + 1, a, b, h, h1, h2 => VEnts.at_ h.2 (by simpa using h1) (by simpa using h2)
  | [], [], _, _, _, _, h1, _ => by simp at h1
  | _ :: _, [], _, _, _, h, _, _ => by cases h
  | [], _ :: _, _, _, _, h, _, _ => by cases h
theorem VEnts.flat : ∀ {l : List AV}, l.all AV.flat = true → VEnts r l l
  | [], _ => trivial
  | x :: l, h => by
    obtain ⟨h1, h2⟩ := and_true.1 (show (x.flat && l.all AV.flat) = true from h)
    exact ⟨VEnt.flat h1, VEnts.flat h2⟩
theorem OEnt.cells {l m : List AV} (hl : l.length ≤ top) (h : VEnts r l m) (h1 : m.all AV.oneCell = true) : OEnt r (.cells l.length (Tr.fill l 0 .nil) []) (.cells m.length (Tr.fill m 0 .nil) []) := by
  have hlen := h.length
  intro ρ N o k
  obtain ⟨c, e, rfl, k1, k2, k3⟩ := k
  refine ⟨c, e, rfl, k1, by omega, fun i hi => ?_⟩
  obtain ⟨x, v, a1, a2, a3, a4⟩ := k3 i (by omega)
  have hx : l[i]? = some x := by
    unfold cellAt at a1
    rw [Tr.get_fill' _ _ _ _ (by omega), if_pos (by omega), Nat.sub_zero, List.getElem?_eq_getElem (by omega)] at a1
    rw [List.getElem?_eq_getElem (by omega)]
    exact a1
  have hy : m[i]? = some m[i] := List.getElem?_eq_getElem hi
  refine ⟨m[i], v, ?_, ?_, a3, h.at_ hx hy ρ v a4⟩
  · unfold cellAt
    rw [Tr.get_fill' _ _ _ _ (by omega), if_pos (by omega), Nat.sub_zero, hy]
  · exact List.all_eq_true.1 h1 _ (List.getElem_mem hi)
theorem OEnt.rowT {α : Type} {enc : α → List AV} {l : List α} (he : ∀ x, (enc x).all AV.flat = true ∧ (enc x).all AV.oneCell = true) (hl : (l.map enc).flatten.length ≤ top) : OEnt r (rowT enc l) (rowT enc l) := by
  have hf : ∀ (p : AV → Bool), (∀ x, (enc x).all p = true) → ∀ l : List α, (l.map enc).flatten.all p = true := by
    intro p hp l
    induction l with
    | nil => rfl
    | cons x l ih => simp only [List.map_cons, List.flatten_cons, List.all_append, ih, hp x, Bool.and_true]
  exact OEnt.cells hl (VEnts.flat (hf _ (fun x => (he x).1) l)) (hf _ (fun x => (he x).2) l)
variable {P : Program} {B : Base} {Q : Tr AV → List Nat → Option Code → AS → Prop} {s : AS} {t : Tr AV} {nt : Nat}
end
end Go.Rn
namespace Go.Rn
end Go.Rn

namespace Go.Rn
end Go.Rn

namespace Go.Rn
open Go.RowKit
noncomputable section
def fieldsOf (P : Program) (ty : TypeId) : List Field :=
  match P.underlying ty with
  | some (.struct fs) => fs.toList
  | _ => []
def isStruct (P : Program) (ty : TypeId) : Bool :=
  match P.underlying ty with
  | some (.struct _) => true
  | _ => false
def pairsOf (P : Program) (xs ys : List AV) : List Field → Option (List (Int × Int))
  | [] => some []
  | f :: l => match f.name == "_" with
    | true => none
    | false => match P.underlying f.type, partT P f.type xs f.offset, partT P f.type ys f.offset with
      | some (.int _), some (.int k a), some (.int k' b) => match decide (k = k') with
        | true => match pairsOf P xs ys l with
          | some r => some ((a, b) :: r)
          | none => none
        | false => none
      | _, _, _ => none
def allEq (l : List (Int × Int)) : Bool := l.all fun p => p.1 == p.2
end
section
variable {P : Program} {s s1 : AS} {call : Caller} {t : Tr AV}
theorem eqT_int {d : Nat} {ty : TypeId} {k i : IntKind} {a b : Int} (hu : P.underlying ty = some (.int i)) : eqT P (d + 1) ty (.int k a) (.int k b) = some (a == b) := by
  unfold eqT
  rw [hu]
  simp only [decide_true]
theorem eqFields_pairs {d : Nat} {xs ys : List AV} : ∀ {fs : List Field} {l : List (Int × Int)}, pairsOf P xs ys fs = some l → eqFields P (eqT P (d + 1)) xs ys fs = some (allEq l)
  | [], l, h => by cases h; rfl
  | f :: fs, l, h => by
    unfold pairsOf at h
    split at h
    · cases h
    · rename_i hn
      split at h
      · rename_i i k a k' b hu hx hy
        split at h
        · rename_i hk
          have hk' : k = k' := of_decide_eq_true hk
          subst hk'
          split at h
          · rename_i r hr
            cases h
            unfold eqFields
            simp only [hn, hx, hy, eqT_int hu]
            cases q : a == b with
            | false => simp only [allEq, List.all_cons, q, Bool.false_and]
            | true => simp only [allEq, List.all_cons, q, Bool.true_and]; exact eqFields_pairs hr
          · cases h
        · cases h
      · cases h
theorem eqT_agg {d : Nat} {ty : TypeId} {xs ys : List AV} {l : List (Int × Int)} (hu : isStruct P ty = true) (hs : P.stoodInHeld ty = false) (h : pairsOf P xs ys (fieldsOf P ty) = some l) : eqT P (d + 2) ty (.agg xs) (.agg ys) = some (allEq l) := by
  unfold isStruct at hu
  split at hu
  · rename_i fs e
    unfold fieldsOf at h
    rw [e] at h
    unfold eqT
    rw [e]
    simp only [hs]
    exact eqFields_pairs h
  · cases hu
theorem op_neqT {ty yt : TypeId} {x y : Operand} {xs ys : List AV} {l : List (Int × Int)} {b : Bool} (hx : opd t x = some (.agg xs)) (hy : opd t y = some (.agg ys)) (hg : guardOk P .neq ty x y (.agg xs) (.agg ys) = true) (hu : isStruct P ty = true) (hs : P.stoodInHeld ty = false) (h : pairsOf P xs ys (fieldsOf P ty) = some l) (hb : allEq l = b) :
    (opB P (.binOp .neq ty x y yt)).val call t s = .ok (.bool (!b)) s := by
  show kBin P .neq ty x y call t s = _
  unfold kBin
  rw [hx, hy, withO_some, withO_some, hg, withB_true]
  have : binOpT P .neq ty (.agg xs) (.agg ys) = some (.bool (!b)) := by
    unfold binOpT
    simp only
    have e := eqT_agg (d := Op.maxDepth - 2) hu hs h
    rw [show Op.maxDepth - 2 + 2 = Op.maxDepth from rfl] at e
    rw [e, hb]
  rw [this]
  rfl
theorem op_eqlT {ty yt : TypeId} {x y : Operand} {xs ys : List AV} {l : List (Int × Int)} {b : Bool} (hx : opd t x = some (.agg xs)) (hy : opd t y = some (.agg ys)) (hg : guardOk P .eql ty x y (.agg xs) (.agg ys) = true) (hu : isStruct P ty = true) (hs : P.stoodInHeld ty = false) (h : pairsOf P xs ys (fieldsOf P ty) = some l) (hb : allEq l = b) :
    (opB P (.binOp .eql ty x y yt)).val call t s = .ok (.bool b) s := by
  show kBin P .eql ty x y call t s = _
  unfold kBin
  rw [hx, hy, withO_some, withO_some, hg, withB_true]
  have : binOpT P .eql ty (.agg xs) (.agg ys) = some (.bool b) := by
    unfold binOpT
    simp only
    have e := eqT_agg (d := Op.maxDepth - 2) hu hs h
    rw [show Op.maxDepth - 2 + 2 = Op.maxDepth from rfl] at e
    rw [e, hb]
  rw [this]
  rfl
end
end Go.Rn

namespace Go.Rn
open Go.RowKit
section
variable {P : Program} {s s1 : AS} {call : Caller} {t : Tr AV}
end
end Go.Rn

namespace Go.Rn
theorem op_callF {P : Program} {s s1 : AS} {call : Caller} {t : Tr AV} {g : FuncId} {xs : Array Operand} {ts : Array TypeId} {args : List AV} {v : AV} (hx : opds (opd t) xs.toList = some args) (h : call (.fn g) args s = .ok v s1) :
    (opB P (.call ⟨.value (.func g), xs, ts⟩)).val call t s = .ok v s1 := by
  show kCall (.func g) xs.toList call t s = _
  unfold kCall
  rw [hx, withO_some]
  show withO (some (.func (.func g) [] [])) (fun f => callV call f args) s = _
  rw [withO_some]
  show call (.fn g) ([] ++ args ++ []) s = _
  rw [List.nil_append, List.append_nil, h]
end Go.Rn

namespace Go.Rn
open Go.RowKit
noncomputable section
theorem Under.kept {ρ : Ren} {w w' : World} (hb : ∀ (k : Nat) (o : Obj), w.heap[k]? = some o → w'.heap[k]? = some o) {n m : Nat} {es : List (AV × AV)} {ex : Bool} {left : List (AV × AV)} {cur : Option (AV × AV)} (k : Under ρ w n m es ex left cur) : Under ρ w' n m es ex left cur := by
  obtain ⟨b, N, bm, M, l, clock, seen, h1, h2, h3, h4, h5⟩ := k
  exact ⟨b, N, bm, M, l, clock, seen, h1, h2, hb _ _ h3, hb _ _ h4, h5⟩
theorem Rel.kept {B : Base} {ρ : Ren} {h : Tr AObj} {w w' : World} (r : Rel B ρ h w) (hs : w.heap.size ≤ w'.heap.size) (hb : ∀ (k : Nat) (o : Obj), w.heap[k]? = some o → w'.heap[k]? = some o) : Rel B ρ h w' where
  is := fun n o hn ho => by
    obtain ⟨b, N, o', h1, h2, h3⟩ := r.is n o hn ho
    exact ⟨b, N, o', h1, hb _ _ h2, h3⟩
  one := r.one
  iter := fun n m es ex left cur hn ho => by
    obtain ⟨h1, h2, h3⟩ := r.iter n m es ex left cur hn ho
    exact ⟨h1, h2, h3.kept hb⟩
  size := fun k hk => r.size k (Nat.le_trans hs hk)
  lone := r.lone
  fz := fun n l hl => by
    obtain ⟨h1, b, sh, c, e, fr, h2, h3, h4⟩ := r.fz n l hl
    exact ⟨h1, b, sh, c, e, fr, h2, hb _ _ h3, h4⟩
theorem Bel.kept {w w' : World} {F : Nat → Option (List AV)} (h : Bel ⟨fun k => w.heap.size ≤ k, F⟩ w w') : ∀ (k : Nat) (o : Obj), w.heap[k]? = some o → w'.heap[k]? = some o := by
  intro k o hk
  have hlt : k < w.heap.size := by
    by_cases q : k < w.heap.size
    · exact q
    · rw [Array.getElem?_eq_none (by omega)] at hk; cases hk
  rw [h.block k hlt (by show ¬ w.heap.size ≤ k; omega)]
  exact hk
theorem Bel.of_new {B : Base} {w w' : World} {F : Nat → Option (List AV)} (h : Bel ⟨fun k => w.heap.size ≤ k, F⟩ w w') : Bel B w w' :=
  ⟨h.os, h.tape, h.output, h.size, fun k hk _ => h.block k hk (by show ¬ w.heap.size ≤ k; omega)⟩
theorem flatten_len {K : Nat} : ∀ {l : List (List AV)}, (∀ c ∈ l, c.length = K) → l.flatten.length = l.length * K
  | [], _ => by simp
  | c :: l, h => by
    rw [List.flatten_cons, List.length_append, h c List.mem_cons_self, flatten_len (fun c' h' => h c' (List.mem_cons_of_mem _ h')), List.length_cons, Nat.add_mul, Nat.one_mul]
    omega
end
end Go.Rn

namespace Go.Rn
open Go.RowKit
structure EncOk {α : Type} (K : Nat) (enc : α → List AV) : Prop where
  len : ∀ x, (enc x).length = K
  flat : ∀ x, (enc x).all AV.flat = true
  one : ∀ x, (enc x).all AV.oneCell = true
theorem VR.flat {ρ σ : Ren} {x : AV} {v : Value} (h : x.flat = true) (k : VR ρ x v) : VR σ x v := by
  cases x <;> first | (simp only [VR] at k ⊢; exact k) | (cases h; done) | skip
  all_goals
    rename_i a
    cases a with
    | none => simp only [VR] at k ⊢; exact k
    | some _ => cases h
theorem all_rows {α : Type} {enc : α → List AV} {p : AV → Bool} (h : ∀ x, (enc x).all p = true) : ∀ l : List α, (l.map enc).flatten.all p = true
  | [] => rfl
  | x :: l => by simp only [List.map_cons, List.flatten_cons, List.all_append, h x, all_rows h l, Bool.and_true]
theorem cellAt_list {L : List AV} (hl : L.length ≤ top) {i : Nat} {x : AV} (hx : L[i]? = some x) : cellAt (Tr.fill L 0 .nil) [] i = some x := by
  have hi := (List.getElem?_eq_some_iff.1 hx).1
  unfold cellAt
  rw [Tr.get_fill' _ _ _ _ (by omega), if_pos (by omega), Nat.sub_zero, hx]
variable {B : Base} {ρ ρ1 : Ren} {w : World} {s s1 : AS}
end Go.Rn

namespace Go.Rn
open Go.RowKit
def FinF (F : Nat → Option (List AV)) : Prop := ∃ m, top ≤ m ∧ ∀ k, m ≤ k → F k = none
noncomputable section
end
variable {P : Program} {B : Base} {ρ : Ren} {w : World} {s s1 : AS}
theorem callFunc_run {f : FuncId} {fn : Func} {body : Code} {vs : Array Value} (hfn : P.funcs[f]? = some fn) (hbody : fn.body = some body) (hname : (fn.name == "runtime.NumGoroutine") = false) : (callFunc f vs).run P w = .ok (.enter f vs) w := by
  have hprog : (program).run P w = .ok P w := rfl
  have hn : fn.name ≠ "runtime.NumGoroutine" := by simpa using hname
  simp only [callFunc, Sem.run_bind, hprog, Result.andThen_ok, hfn, hname, hbody]
  simp
theorem fine_start : Fine (stOf [] 256) := ⟨by show 0 ≤ 256; omega, by show 256 ≤ top; unfold top; decide⟩
theorem Cn.names {F : Nat → Option (List AV)} {k : Nat} {x : Nat × Nat} (h : F k ≠ none) (e : ρ k = some x) : (fun k => if k < globs then ρ k else hiF F ρ k) k = some x := by
  show (if k < globs then ρ k else hiF F ρ k) = some x
  by_cases q : k < globs
  · rw [if_pos q]; exact e
  · rw [if_neg q]
    unfold hiF
    rw [if_pos]
    · exact e
    · cases q2 : F k with
      | none => exact absurd q2 h
      | some _ => rfl
end Go.Rn

namespace Go.Rn
open Go.RowKit
noncomputable section
end
variable {P : Program} {B : Base} {ρ : Ren} {w : World} {s s1 : AS}
theorem OR.rows {β : Type} {enc : β → List AV} {l : List β} (hf : ∀ x, (enc x).all AV.flat = true) (hlen : (l.map enc).flatten.length ≤ top) {ρ σ : Ren} {N : Nat} {o : Obj} (h : OR ρ N (rowT enc l) o) : OR σ N (rowT enc l) o := by
  have h' : OR ρ N (.cells (l.map enc).flatten.length (Tr.fill (l.map enc).flatten 0 .nil) []) o := h
  show OR σ N (.cells (l.map enc).flatten.length (Tr.fill (l.map enc).flatten 0 .nil) []) o
  simp only [OR] at h' ⊢
  obtain ⟨c, e, h1, h2, h3, h4⟩ := h'
  refine ⟨c, e, h1, h2, h3, fun i hi => ?_⟩
  obtain ⟨x, v, k1, k2, k3, k4⟩ := h4 i hi
  have hx : (l.map enc).flatten[i]? = some ((l.map enc).flatten[i]'hi) := List.getElem?_eq_getElem hi
  have e2 := cellAt_list hlen hx
  rw [k1] at e2
  injection e2 with e2
  have hmem : x ∈ (l.map enc).flatten := by rw [e2]; exact List.getElem_mem hi
  exact ⟨x, v, k1, k2, k3, VR.flat (List.all_eq_true.1 (all_rows hf l) x hmem) k4⟩
end Go.Rn

namespace Go.Rn
open Go.RowKit
noncomputable section
def newO (o : Option AObj) : M Nat := fun s => if s.nx < top then .ok s.nx { s with h := s.h.put s.nx o, nx := s.nx + 1 } else .bad
end
theorem newO_inv {o : Option AObj} {n : Nat} {s s1 : AS} (h : newO o s = .ok n s1) : s.nx < top ∧ n = s.nx ∧ s1 = { s with h := s.h.put s.nx o, nx := s.nx + 1 } := by
  unfold newO at h
  split at h
  · rename_i q; cases h; exact ⟨q, rfl, rfl⟩
  · cases h
theorem newO_ok {o : Option AObj} {s : AS} (h : s.nx < top) : newO o s = .ok s.nx { s with h := s.h.put s.nx o, nx := s.nx + 1 } := by
  unfold newO
  rw [if_pos h]
theorem Local.newO (o : Option AObj) : Local (newO o) := by
  intro s v s1 fi h
  obtain ⟨ht, rfl, rfl⟩ := newO_inv h
  refine ⟨[], [], ⟨rfl, rfl, Nat.le_succ _, ht, rfl, fun k hk hn => ?_, fun _ h => h, fun k hk hkt => ?_⟩, fun A m0 t ag hA => ?_⟩
  · show (s.h.put s.nx o).get k = _
    have := fi.mark; have := fi.nx
    rw [Tr.get_put _ _ _ _ ht (by omega), if_neg (by omega)]
  · show (s.h.put s.nx o).get k = _
    have : s.nx + 1 ≤ k := hk
    rw [Tr.get_put _ _ _ _ ht hkt, if_neg (by omega)]
  · have hr := newO_ok (o := o) (s := t) (by rw [← ag.nx]; exact ht)
    rw [← ag.nx] at hr
    refine ⟨_, hr, ⟨rfl, ag.mark, ag.low, fun k hk hq => ?_⟩, rfl, rfl, fun k hk hn => ?_, fun k hk hkt => ?_⟩
    · show (s.h.put s.nx o).get k = (t.h.put s.nx o).get k
      have hk' : k < s.nx + 1 := hk
      rw [Tr.get_put _ _ _ _ ht (by omega), Tr.get_put _ _ _ _ ht (by omega)]
      by_cases q : k = s.nx
      · simp [q]
      · rw [if_neg q, if_neg q]; exact ag.is k (by omega) hq
    · show (t.h.put s.nx o).get k = _
      have := fi.mark; have := fi.nx; have := ag.low
      rw [Tr.get_put _ _ _ _ ht (by omega), if_neg (by omega)]
    · show (t.h.put s.nx o).get k = _
      have : s.nx + 1 ≤ k := hk
      rw [Tr.get_put _ _ _ _ ht hkt, if_neg (by omega)]
variable {P : Program} {B : Base} {ρ : Ren} {w : World} {s s1 : AS}
end Go.Rn

namespace Go.Rn
open Go.RowKit
variable {s : AS}
section
variable {P : Program} {call : Caller} {t : Tr AV}
end
end Go.Rn

namespace Go.Rn
open Go.RowKit
variable {P : Program} {call : Caller} {t : Tr AV} {s : AS}
end Go.Rn

namespace Go.Rn
variable {P : Program} {call : Caller} {t : Tr AV} {s : AS}
theorem op_rem {ty yt : TypeId} {x y : Operand} {k : IntKind} {a b c : Int} (hx : opd t x = some (.int k a)) (hy : opd t y = some (.int k b)) (h0 : b ≠ 0) (h : a.tmod b = c) : (opB P (.binOp .rem ty x y yt)).val call t s = .ok (.int k c) s :=
  bin_int hx hy rfl rfl (by subst h; simp only [intOp, decide_eq_false h0])
theorem op_convInt {src dst : TypeId} {x : Operand} {k k' : IntKind} {n m : Int} (hx : opd t x = some (.int k n)) (hs : (P.underlying src).isSome = true) (hd : P.underlying dst = some (.int k')) (h : k'.wrap n = m) : (opB P (.convert src dst x)).val call t s = .ok (.int k' m) s := by
  show kConvert P src dst x call t s = _
  unfold kConvert
  rw [hx, withO_some]
  show lift (convertT P src dst (.int k n)) s = _
  unfold convertT
  cases e : P.underlying src with
  | none => rw [e] at hs; cases hs
  | some _ => simp only [hd, h]; rfl
end Go.Rn

namespace Go.Rn
theorem Rel.addF {may : Nat → Prop} {F : Nat → Option (List AV)} {ρ : Ren} {h : Tr AObj} {w : World} (r : Rel ⟨may, F⟩ ρ h w) {m b sh : Nat} {l : List AV} {c : Array Value} {e : TypeId} {fr : Nat × Nat} (hm : top ≤ m) (hF : F m = none) (hρ : ρ m = none) (hb : w.heap[b]? = some (.cells c e fr))
    (hno : ∀ n o, n < top → h.get n = some o → o.isRo = true) (hl : ∀ (i : Nat) (x : AV), l[i]? = some x → ∃ v, c[sh + i]? = some v ∧ VR (hiF F ρ) x v ∧ x.oneCell = true) :
    Rel ⟨may, updF F m l⟩ (updR ρ m (b, sh)) h w ∧ ρ.le (updR ρ m (b, sh)) ∧ updF F m l m = some l ∧ updR ρ m (b, sh) m = some (b, sh) ∧ ∀ k, F k ≠ none → updF F m l k = F k := by
  have hle : ρ.le (updR ρ m (b, sh)) := updR_le hρ
  have r' := r.mono hle
  have hnw : ∀ ρ' b', NoW ρ' h b' := fun ρ' b' n o N hn ho hro => by
    rw [hno n o hn ho] at hro; cases hro
  have hhi : (hiF F ρ).le (hiF (updF F m l) (updR ρ m (b, sh))) := by
    intro k x q
    unfold hiF at q ⊢
    split at q
    · rename_i q2
      have hk : k ≠ m := by intro e2; subst e2; rw [hF] at q2; cases q2
      rw [if_pos (by unfold updF; rw [if_neg hk]; exact q2), updR_ne ρ _ hk]; exact q
    · cases q
  refine ⟨⟨r'.is, r'.one, r'.iter, r'.size, r'.lone, fun n l' q => ?_⟩, hle, by simp [updF], updR_self _ _ _, fun k hk => ?_⟩
  · have q' : updF F m l n = some l' := q
    unfold updF at q'
    by_cases q2 : n = m
    · subst q2
      rw [if_pos rfl] at q'
      injection q' with q'; subst q'
      exact ⟨hm, b, sh, c, e, fr, updR_self _ _ _, hb, hnw _ _, fun i x hx => by
        obtain ⟨v, a1, a2, a3⟩ := hl i x hx
        exact ⟨v, a1, VR.mono hhi _ _ a2, a3⟩⟩
    · rw [if_neg q2] at q'
      obtain ⟨h1, b1, sh1, c1, e1, fr1, h2, h3, _, h5⟩ := r.fz n l' q'
      exact ⟨h1, b1, sh1, c1, e1, fr1, hle _ _ h2, h3, hnw _ _, fun i x hx => by
        obtain ⟨v, a1, a2, a3⟩ := h5 i x hx
        exact ⟨v, a1, VR.mono hhi _ _ a2, a3⟩⟩
  · unfold updF
    by_cases q : k = m
    · subst q; exact absurd hF hk
    · rw [if_neg q]
end Go.Rn

namespace Go.Rn
variable {P : Program} {call : Caller} {nt : Nat} {ops : Array Oper} {t t1 : Tr AV}
end Go.Rn

namespace Go.Rn
open Go.RowKit
section
variable {P : Program} {call : Caller} {nt : Nat} {ops : Array Oper} {t t1 : Tr AV}
end
noncomputable section
def closedM (nx0 : Nat) (ns : List Nat) (h0 : Tr AObj) : Caller → List AV → M AV := fun _ args => withB args.isEmpty <| (checkAll nx0 h0 ns).bind fun _ => M.pure (.bool true)
end
theorem Local.closedM (nx0 : Nat) (ns : List Nat) (h0 : Tr AObj) (call : Caller) (args : List AV) : Local (closedM nx0 ns h0 call args) :=
  Local.withB fun _ => Local.bind (Local.checkAll nx0 h0 ns) (fun _ => Local.pure _)
theorem closedM_sim {P : Program} {B : Base} {f nx0 : FuncId} {ns : List Nat} {h0 : Tr AObj} {fn : Func} {body : Code} {ρ : Ren} {w : World} {s s1 : AS} (hfn : P.funcs[f]? = some fn) (hbody : fn.body = some body) (hname : (fn.name == "runtime.NumGoroutine") = false)
    (hg0 : globs ≤ nx0) (hall : ∀ n o, n < top → h0.get n = some o → n ∈ ns) (hns : ∀ n ∈ ns, n < nx0)
    (hcon : ∀ (ρ : Ren) (w : World), Start nx0 h0 ρ w → Calls P f #[] w fun e w' => e = .returned (.bool true) ∧ Below w.heap.size w w')
    {call : Caller} {args : List AV} {x : AV} {vs : Array Value} (r : Rel B ρ s.h w) (hg : RenG ρ) (h : closedM nx0 ns h0 call args s = .ok x s1) (hv : VRs ρ args vs.toList) : Back P ((callFunc f vs).run P w) (Came B ρ s s1 w x) := by
  obtain ⟨e1, h1⟩ := withB_inv (show (withB args.isEmpty <| (checkAll nx0 h0 ns).bind fun _ => M.pure (AV.bool true)) s = .ok x s1 from h)
  obtain ⟨u, s2, h2, h3⟩ := M.bind_inv h1
  obtain ⟨rfl, rfl⟩ := pure_inv h3
  obtain ⟨a1, a2, a3⟩ := checkAll_inv h2
  have hargs : args = [] := by simpa using e1
  subst hargs
  have hvs : vs = #[] := by
    obtain ⟨l⟩ := vs
    simp only [VRs] at hv
    rw [show l = [] from hv]
  subst hvs
  rw [callFunc_run hfn hbody hname]
  have S : Start nx0 h0 (fun k => if k < nx0 then ρ k else none) w := by
    refine ⟨fun k hk => ?_, fun k hk => ?_, fun n o hn ho => ?_⟩
    · obtain ⟨N, e⟩ := hg k hk
      exact ⟨N, by rw [if_pos (Nat.lt_of_lt_of_le hk hg0)]; exact e⟩
    · show (if k < nx0 then ρ k else none) = none
      rw [if_neg (by omega)]
    · have hin := hall n o hn ho
      obtain ⟨c1, p1, p2, c2, c3, c4⟩ := a3 n hin
      rw [ho] at c3; cases c3
      obtain ⟨b, N, o', i1, i2, i3, _⟩ := r.is n p1 hn c2
      obtain ⟨j1, j2⟩ := roSame_sim c4 i3
      exact ⟨j1, b, N, o', by show (if n < nx0 then ρ n else none) = _; rw [if_pos (hns n hin)]; exact i1, i2, j2⟩
  refine Calls.mono (hcon _ w S) fun e w' => ?_
  rintro ⟨rfl, hb⟩
  have gr : Grew w w' := ⟨hb.os, hb.tape, hb.output, hb.size, fun k hk => hb.block k hk⟩
  exact ⟨.bool true, rfl, ρ, by rw [a2]; exact Ext.refl _ _ _, by simp only [VR], by rw [a1]; exact r.grew gr, gr.below r.size⟩
end Go.Rn

namespace Go.Rn
open Go.RowKit Go.ChangeShapes Go.WideShapes
section
variable {H : Type} {enc : TypeId × Value → H} {P : Program} {w : World} {base : Nat} {spare : Nat → Bool} {held : Bool}
theorem cells?_at {a : Addr} {n : Nat} {cs : List Value} (h : w.cells? base a n = some cs) : cs.length = n ∧ ∀ (j : Nat) (x : Value), cs[j]? = some x → w.cell? (a.add j) = some x := by
  unfold World.cells? at h
  split at h
  · have hlen : cs.length = n := by simpa using mapM_some_length h
    refine ⟨hlen, fun j x hx => ?_⟩
    have hj : j < n := by
      have := (List.getElem?_eq_some_iff.1 hx).1
      omega
    have := mapM_some_get h j j (by simp [hj])
    exact this.trans hx
  · cases h
theorem add_none (b o m : Nat) : (⟨b, o, none⟩ : Addr).add m = ⟨b, o + m, none⟩ := by
  unfold Addr.add
  split
  · rename_i h; subst h; rfl
  · rfl
theorem open_rows {r : Reach} {b0 : Nat} {t e : TypeId} {K fuel : Nat} {v : Value} {x : DataW H × List MemPlace} (ht : P.underlying t = some (.slice e)) (hK : P.cellsOf e = K) (hok : Cell.okWide P w r b0 t v) (h : DataW.trod enc P w base spare held fuel t [v] = some x) :
    v = .slice none 0 0 ∨ ∃ (b o len cap : Nat) (c : Array Value) (el : TypeId) (fr : Nat × Nat) (rows : List (List Value)), v = .slice (some ⟨b, o, none⟩) len cap ∧ len ≤ cap ∧ w.heap[b]? = some (.cells c el fr) ∧ rows.length = len ∧
      ∀ (i : Nat) (row : List Value), rows[i]? = some row → row.length = K ∧ (∃ n y, DataW.trod enc P w base spare held n e row = some y) ∧ ∀ (j : Nat) (x : Value), row[j]? = some x → c[o + i * K + j]? = some x := by
  rcases DataW.trod_slice ht h with ⟨h0, _⟩ | ⟨a, len, cap, elems, rest, n, _, hcs, _, _, hl, _, hlen, hel, _, _⟩
  · left
    injection h0
  · right
    injection hcs with hv _
    subst hv
    unfold Cell.okWide at hok
    rw [ht] at hok
    simp only at hok
    unfold Cell.ok at hok
    rw [ht] at hok
    simp only at hok
    obtain ⟨_, _, _, hspot, row0, cells0, hshape, _⟩ := hok
    obtain ⟨b, o, sp⟩ := a
    simp only at hspot hshape
    subst hspot
    unfold World.shape? at hshape
    split at hshape
    · rename_i c el fr hb
      refine ⟨b, o, len, cap, c, el, fr, (List.range len).map fun i => (w.cells? base ((⟨b, o, none⟩ : Addr).add (i * K)) K).getD [], rfl, hl, hb, by simp, fun i row hrow => ?_⟩
      have hi : i < len := by
        have := (List.getElem?_eq_some_iff.1 hrow).1
        simpa using this
      have he := hel i hi
      rw [hK] at he
      rw [List.getElem?_eq_getElem (by omega)] at he
      obtain ⟨cs, h1, h2⟩ := Option.bind_eq_some_iff.1 he
      rw [List.getElem?_map, List.getElem?_range hi, Option.map_some, h1] at hrow
      injection hrow with hrow
      have hrow' : cs = row := hrow
      subst hrow'
      obtain ⟨k1, k2⟩ := cells?_at h1
      refine ⟨k1, ⟨n, _, h2⟩, fun j x hx => ?_⟩
      have := k2 j x hx
      rw [add_none, add_none] at this
      unfold World.cell? at this
      simp only [hb] at this
      simpa using this
    · cases hshape
def intsOf (P : Program) (t : TypeId) (ks : List IntKind) : Bool :=
  match P.underlying t with
  | some (.struct fs) => Nat.beq (P.cellsOf t) ks.length && (Nat.beq fs.size ks.length && (List.range ks.length).all fun i => match fs[i]?, ks[i]? with
    | some f, some k => Nat.beq f.offset i && (Nat.beq (P.cellsOf f.type) 1 && (match P.underlying f.type with
      | some (.int k') => decide (k' = k)
      | _ => false))
    | _, _ => false)
  | _ => false
def numOf : Value → Int
  | .int _ n => n
  | _ => 0
theorem struct_ints {t : TypeId} {ks : List IntKind} {fuel : Nat} {cs : List Value} {x : DataW H × List MemPlace} (hk : intsOf P t ks = true) (h : DataW.trod enc P w base spare held fuel t cs = some x) :
    ∃ zs : List Int, zs.length = ks.length ∧ cs.length = ks.length ∧ ∀ (i : Nat) (k : IntKind) (z : Int), ks[i]? = some k → zs[i]? = some z → cs[i]? = some (.int k z) := by
  unfold intsOf at hk
  split at hk
  · rename_i fs hu
    obtain ⟨q1, q2⟩ := and_true.1 hk
    obtain ⟨q2, q3⟩ := and_true.1 q2
    have hc := beqN_true.1 q1
    have hs := beqN_true.1 q2
    obtain ⟨xs, n, _, _, hlen, hxs, hf⟩ := DataW.trod_struct hu h
    rw [hc] at hlen
    refine ⟨cs.map numOf, by simpa using hlen, hlen, fun i k z h1 h2 => ?_⟩
    have hi : i < ks.length := (List.getElem?_eq_some_iff.1 h1).1
    have hq := List.all_eq_true.1 q3 i (List.mem_range.2 hi)
    split at hq
    · rename_i f k' hf' hk'
      rw [h1] at hk'
      injection hk' with hk'
      subst hk'
      obtain ⟨a1, a2⟩ := and_true.1 hq
      obtain ⟨a2, a3⟩ := and_true.1 a2
      have ho := beqN_true.1 a1
      have hcz := beqN_true.1 a2
      split at a3
      · rename_i k2 hk2
        have hkk : k2 = k := of_decide_eq_true a3
        subst hkk
        have := hf i f hf'
        rw [ho, hcz, List.getElem?_eq_getElem (by rw [hxs, hs]; exact hi)] at this
        obtain ⟨m, e1, _, _⟩ := DataW.trod_int hk2 this
        have hci : cs[i]? = some (.int k2 m) := by
          have h0 : ((cs.drop i).take 1)[0]? = some (.int k2 m) := by rw [e1]; rfl
          rw [List.getElem?_take, if_pos (by omega), List.getElem?_drop, Nat.add_zero] at h0
          exact h0
        rw [List.getElem?_map, hci] at h2
        injection h2 with h2
        have h2' : m = z := h2
        rw [hci, h2']
      · cases a3
    · cases hq
  · cases hk
theorem exists_map {α β : Type} {f : α → β} : ∀ {l : List β}, (∀ b ∈ l, ∃ a, b = f a) → ∃ m : List α, l = m.map f
  | [], _ => ⟨[], rfl⟩
  | b :: l, h => by
    obtain ⟨a, ha⟩ := h b List.mem_cons_self
    obtain ⟨m, hm⟩ := exists_map (l := l) fun c hc => h c (List.mem_cons_of_mem _ hc)
    exact ⟨a :: m, by rw [List.map_cons, ← ha, ← hm]⟩
theorem flatten_get {β : Type} {K : Nat} : ∀ {l : List (List β)} {i : Nat} {x : β}, (∀ c ∈ l, c.length = K) → l.flatten[i]? = some x → ∃ q j row, l[q]? = some row ∧ row[j]? = some x ∧ i = q * K + j
  | [], i, x, _, h => by simp at h
  | c :: l, i, x, hl, h => by
    have hc := hl c List.mem_cons_self
    rw [List.flatten_cons] at h
    by_cases q : i < c.length
    · rw [List.getElem?_append_left q] at h
      exact ⟨0, i, c, rfl, h, by omega⟩
    · rw [List.getElem?_append_right (by omega)] at h
      obtain ⟨a, j, row, h1, h2, h3⟩ := flatten_get (fun c' h' => hl c' (List.mem_cons_of_mem _ h')) h
      exact ⟨a + 1, j, row, by simpa using h1, h2, by rw [Nat.add_mul, Nat.one_mul]; omega⟩
structure EncVal {α : Type} (K : Nat) (enc : α → List AV) (vals : α → List Value) : Prop where
  len : ∀ a, (enc a).length = K
  vlen : ∀ a, (vals a).length = K
  is : ∀ (a : α) (j : Nat) (x : AV), (enc a)[j]? = some x → ∃ v, (vals a)[j]? = some v ∧ (∀ ρ, VR ρ x v) ∧ x.oneCell = true
def InSl {α : Type} (w : World) (_K : Nat) (encA : α → List AV) (v : Value) (l : List α) : Prop :=
  (v = .slice none 0 0 ∧ l = []) ∨ ∃ (b o cap : Nat) (c : Array Value) (el : TypeId) (fr : Nat × Nat), v = .slice (some ⟨b, o, none⟩) l.length cap ∧ l.length ≤ cap ∧ w.heap[b]? = some (.cells c el fr) ∧
    ∀ (i : Nat) (x : AV), (l.map encA).flatten[i]? = some x → ∃ u, c[o + i]? = some u ∧ (∀ ρ, VR ρ x u) ∧ x.oneCell = true
theorem input_slice {α : Type} {K : Nat} {encA : α → List AV} {vals : α → List Value} (hev : EncVal K encA vals) {r : Reach} {b0 : Nat} {t e : TypeId} {fuel : Nat} {v : Value} {x : DataW H × List MemPlace} (ht : P.underlying t = some (.slice e)) (hK : P.cellsOf e = K)
    (hrow : ∀ row : List Value, row.length = K → (∃ n y, DataW.trod enc P w base spare held n e row = some y) → ∃ a, row = vals a) (hok : Cell.okWide P w r b0 t v) (h : DataW.trod enc P w base spare held fuel t [v] = some x) : ∃ l : List α, InSl w K encA v l := by
  rcases open_rows ht hK hok h with h0 | ⟨b, o, len, cap, c, el, fr, rows, h1, h2, h3, h4, h5⟩
  · exact ⟨[], .inl ⟨h0, rfl⟩⟩
  · obtain ⟨l, hl⟩ := exists_map (f := vals) (l := rows) fun row hr => by
      obtain ⟨i, hi⟩ := List.mem_iff_getElem?.1 hr
      obtain ⟨a1, a2, _⟩ := h5 i row hi
      exact hrow row a1 a2
    subst hl
    rw [List.length_map] at h4
    subst h4
    refine ⟨l, .inr ⟨b, o, cap, c, el, fr, h1, h2, h3, fun i x hx => ?_⟩⟩
    obtain ⟨q, j, row, e1, e2, e3⟩ := flatten_get (K := K) (fun c' hc' => by obtain ⟨a, _, rfl⟩ := List.mem_map.1 hc'; exact hev.len a) hx
    rw [List.getElem?_map] at e1
    cases ha : l[q]? with
    | none => rw [ha] at e1; cases e1
    | some a =>
      rw [ha] at e1
      injection e1 with e1
      subst e1
      obtain ⟨u, g1, g2, g3⟩ := hev.is a j x e2
      obtain ⟨_, _, g4⟩ := h5 q (vals a) (by rw [List.getElem?_map, ha]; rfl)
      exact ⟨u, by rw [e3, ← Nat.add_assoc]; exact g4 j u g1, g2, g3⟩
end
theorem Rel.addIn {α : Type} {may : Nat → Prop} {F : Nat → Option (List AV)} {ρ : Ren} {h : Tr AObj} {w : World} {m K : Nat} {encA : α → List AV} {v : Value} {l : List α} (r : Rel ⟨may, F⟩ ρ h w) (hm : top ≤ m) (hF : ∀ k, m ≤ k → F k = none ∧ ρ k = none) (hno : ∀ n o, n < top → h.get n = some o → o.isRo = true)
    (hlen : ∀ a, (encA a).length = K) (hi : InSl w K encA v l) :
    ∃ F' ρ' m' a, Rel ⟨may, F'⟩ ρ' h w ∧ ρ.le ρ' ∧ (∀ k, k < top → ρ' k = ρ k) ∧ (∀ k, F k ≠ none → F' k = F k) ∧ (∀ k, m' ≤ k → F' k = none ∧ ρ' k = none) ∧ top ≤ m' ∧ SlT F' a K encA l ∧ VR ρ' a v := by
  rcases hi with ⟨rfl, rfl⟩ | ⟨b, o, cap, c, el, fr, rfl, h2, h3, h4⟩
  · exact ⟨F, ρ, m, .slice none 0 (.known 0), r, Ren.le_refl _, fun _ _ => rfl, fun _ _ => rfl, hF, hm, ⟨fun c hc => by simp at hc, .inl ⟨rfl, rfl⟩⟩, by simp [VR]⟩
  · obtain ⟨r', g1, g2, g3, g4⟩ := r.addF (m := m) (b := b) (sh := o) (l := (l.map encA).flatten) hm (hF m (Nat.le_refl _)).1 (hF m (Nat.le_refl _)).2 h3 hno (fun i x hx => by
      obtain ⟨u, k1, k2, k3⟩ := h4 i x hx
      exact ⟨u, k1, k2 _, k3⟩)
    refine ⟨_, _, m + 1, .rslice m 0 l.length, r', g1, fun k hk => updR_ne ρ _ (by omega), g4, fun k hk => ⟨?_, ?_⟩, by omega, ⟨?_, .inr ⟨m, 0, _, ?_, hm, g2, ?_, ?_⟩⟩, ?_⟩
    · unfold updF; rw [if_neg (by omega)]; exact (hF k (by omega)).1
    · rw [updR_ne ρ _ (by omega)]; exact (hF k (by omega)).2
    · intro c hc
      obtain ⟨x, _, rfl⟩ := List.mem_map.1 hc
      exact hlen x
    · rw [List.length_map]
    · rw [Nat.zero_add, flatten_len (K := K) (fun c hc => by obtain ⟨x, _, rfl⟩ := List.mem_map.1 hc; exact hlen x)]
      exact Nat.le_refl _
    · rw [List.drop_zero, ← flatten_len (K := K) (l := l.map encA) (fun c hc => by obtain ⟨x, _, rfl⟩ := List.mem_map.1 hc; exact hlen x), List.take_length]
    · simp only [VR]
      exact ⟨b, o, cap, g3, rfl, fun _ => h2⟩
end Go.Rn
