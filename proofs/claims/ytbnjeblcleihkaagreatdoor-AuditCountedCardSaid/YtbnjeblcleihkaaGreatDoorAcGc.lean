/-
  Proved here: audit.Tries: its contract.
  Conditions: none.
-/
import Derived.Test.YtbnjeblcleihkaaGreatDoorAcGa
import Derived.Test.YtbnjeblcleihkaaGreatDoorRnOpenD
import Derived.Test.YtbnjeblcleihkaaGreatDoorAcGb
import Derived.Test.YtbnjeblcleihkaaGreatDoorRnOpenB
open Go Go.Rn Go.RowKit Go.Proofs
set_option maxRecDepth 100000
namespace AcY
open AcS AcW AcT Go.Proofs.YtbnjeblcleihkaaGreatDoor.auditCounted
noncomputable section
def encI (n : Int) : List AV := [.int .i64 n]
def encV (v : AV) : List AV := [v]
/-- A thread's tries, as they lie. -/
def cellL (nm : Nat) : List Int → AV
  | [] => .slice none 0 (.known 0)
  | x :: l => .slice (some (nm, 0)) (x :: l).length (.atLeast (x :: l).length 1)
def objL : List Int → Option AObj
  | [] => none
  | x :: l => some (rowT encI (x :: l))
def cellsF (b : Nat) : List (List Int) → List AV
  | [] => []
  | l :: A => cellL b l :: cellsF (b + 1) A
def objB (A : List (List Int)) (j k : Nat) : Option AObj := if j = k then none else objL (A.getD k [])
def slA (nT : Nat) (a : AV) (len : Nat) (i : Int) : List (Nat × AV) := [(3, .slice (some (256, 0)) nT (.known nT)), (13, a), (14, .int .i64 ((len : Nat) : Int)), (15, .int .i64 i)]
def obA (A : List (List Int)) : List (Nat × Option AObj) := [(256, some (rowT encV (cellsF 257 A))), (257, objL (A.getD 0 [])), (258, objL (A.getD 1 [])), (259, objL (A.getD 2 [])), (260, objL (A.getD 3 [])), (261, objL (A.getD 4 [])), (262, objL (A.getD 5 []))]
def frA (l : List (Nat × AV)) : AF := ⟨7, trOf l, 71, [.code (cAt Tryz.prog 7 [1, 1, 0, 1, 0, 0]), .inLoop (cAt Tryz.prog 7 [1, 1, 0, 1, 0, 0]), .inBlock 0, .code (cAt Tryz.prog 7 [1, 1, 1])], [], none⟩
def slB (nT : Nat) (a : AV) (len : Nat) (i : Int) (L : List Int) : List (Nat × AV) := [(3, .slice (some (256, 0)) nT (.known nT)), (5, .ptr (some (263, 0))), (6, cellL 264 L), (13, a), (14, .int .i64 ((len : Nat) : Int)), (15, .int .i64 i)]
def obB (A : List (List Int)) (j : Nat) (L : List Int) (e : List AV) : List (Nat × Option AObj) := [(256, some (rowT encV (cellsF 257 A))), (257, objB A j 0), (258, objB A j 1), (259, objB A j 2), (260, objB A j 3), (261, objB A j 4), (262, objB A j 5), (263, some (.cells 7 (Tr.fill e 0 .nil) [])), (264, objL L)]
def frB (l : List (Nat × AV)) : AF := ⟨7, trOf l, 71, [.code (cAt Tryz.prog 7 [1, 1, 0, 1, 0, 0, 1, 1, 0, 0, 1, 1, 1, 0, 0, 0]), .inLoop (cAt Tryz.prog 7 [1, 1, 0, 1, 0, 0, 1, 1, 0, 0, 1, 1, 1, 0, 0, 0]), .inBlock 2, .code (cAt Tryz.prog 7 [1, 1, 0, 1, 0, 0, 1, 1, 0, 0, 1, 1, 1, 1]), .inBlock 1, .code (cAt Tryz.prog 7 [1, 1, 0, 1, 0, 0, 1, 1, 1]), .inLoop (cAt Tryz.prog 7 [1, 1, 0, 1, 0, 0]), .inBlock 0, .code (cAt Tryz.prog 7 [1, 1, 1])], [], none⟩
noncomputable def envN (F : Nat → Option (List AV)) : Env := ⟨Tryz.prog, fun _ => none, F, fun _ => none, fun _ => false, fun _ => true, fun s => s, 256, true⟩
end
theorem envN_ok {F : Nat → Option (List AV)} : (envN F).Ok := ⟨fun g val args v s n h => (by cases h), fun g h => (by cases h)⟩
theorem okI : EncOk 1 encI := ⟨fun _ => rfl, fun _ => rfl, fun _ => rfl⟩
theorem lenV (v : AV) : (encV v).length = 1 := rfl
theorem cellsF_len : ∀ (b : Nat) (A : List (List Int)), (cellsF b A).length = A.length
  | _, [] => rfl
  | b, _ :: A => by simp [cellsF, cellsF_len (b + 1) A]
theorem cellsF_at : ∀ {A : List (List Int)} {b k : Nat} {L : List Int}, A[k]? = some L → (cellsF b A)[k]? = some (cellL (b + k) L)
  | [], _, _, _, h => by simp at h
  | l :: A, b, 0, L, h => by
    simp at h; subst h; rfl
  | l :: A, b, k + 1, L, h => by
    simp only [List.getElem?_cons_succ] at h
    simp only [cellsF, List.getElem?_cons_succ]
    rw [cellsF_at h]
    rw [show b + 1 + k = b + (k + 1) by omega]
theorem cellsF_set : ∀ {A : List (List Int)} {b k : Nat} {L : List Int}, cellsF b (A.set k L) = (cellsF b A).set k (cellL (b + k) L)
  | [], _, _, _ => rfl
  | l :: A, b, 0, L => rfl
  | l :: A, b, k + 1, L => by
    simp only [List.set_cons_succ, cellsF]
    rw [cellsF_set, show b + 1 + k = b + (k + 1) by omega]
noncomputable def CA (nT : Nat) (a : AV) (len : Nat) (i : Int) (A : List (List Int)) : CutT := fun fr s _ => fr = frA (slA nT a len i) ∧ s = stOf (obA A) 263
noncomputable def CB (nT : Nat) (a : AV) (len : Nat) (i : Int) (A : List (List Int)) (j : Nat) (L : List Int) (e : List AV) : CutT := fun fr s _ => fr = frB (slB nT a len i L) ∧ s = stOf (obB A j L e) 265
end AcY
namespace AcZ
open AcS AcW AcT AcY Go.Proofs.YtbnjeblcleihkaaGreatDoor.auditCounted
theorem low (n : Nat) (h : n < 1000 := by decide) : n < top := by unfold top; omega
theorem flatV (c : List AV) : (c.map encV).flatten = c := by
  induction c with
  | nil => rfl
  | cons x c ih => simp only [List.map_cons, List.flatten_cons, ih]; rfl
theorem cellL_ent {r : Nat → Nat} {n m : Nat} (L : List Int) (h : r m = n) : VEnt r (cellL n L) (cellL m L) := by
  cases L with
  | nil => exact VEnt.nilslice
  | cons x l => exact VEnt.slice h
theorem cellL_one (n : Nat) (L : List Int) : (cellL n L).oneCell = true := by cases L <;> rfl
theorem objL_row {r : Nat → Nat} {L : List Int} {y : AObj} (h : objL L = some y) (hl : L.length ≤ top) : y.plain = true ∧ y.isRo = false ∧ OEnt r y y := by
  cases L with
  | nil => cases h
  | cons x l =>
    injection h with h
    subst h
    exact ⟨rfl, rfl, OEnt.rowT (fun x => ⟨okI.flat x, okI.one x⟩) (by rw [rows_len okI.len]; omega)⟩
theorem rowV_ent {r : Nat → Nat} {c c' : List AV} (hl : c.length ≤ top) (h : VEnts r c c') (h1 : c'.all AV.oneCell = true) : OEnt r (rowT encV c) (rowT encV c') := by
  unfold rowT
  rw [flatV, flatV]
  exact OEnt.cells hl h h1
theorem cellsF_one : ∀ (b : Nat) (A : List (List Int)), (cellsF b A).all AV.oneCell = true
  | _, [] => rfl
  | b, l :: A => by
    simp only [cellsF, List.all_cons, cellL_one, cellsF_one (b + 1) A, Bool.and_self]
theorem cellsF_ents {r : Nat → Nat} : ∀ {A : List (List Int)} {b : Nat}, (∀ k, b ≤ k → k < b + A.length → r k = k) → VEnts r (cellsF b A) (cellsF b A)
  | [], _, _ => trivial
  | l :: A, b, h => ⟨cellL_ent l (h b (Nat.le_refl _) (by simp)), cellsF_ents fun k h1 h2 => h k (by omega) (by simp only [List.length_cons]; omega)⟩
/-- Names that stay, but those that are told. -/
def rId (nx snx : Nat) : Nat → Nat := fun k => if k < nx ∨ top ≤ k then k else max k snx
theorem rId_low {nx snx k : Nat} (h : k < nx) : rId nx snx k = k := by unfold rId; rw [if_pos (.inl h)]
theorem rId_top {nx snx k : Nat} (h : top ≤ k) : rId nx snx k = k := by unfold rId; rw [if_pos (.inr h)]
theorem rId_out {nx snx k : Nat} (h : nx ≤ k) (ht : k < top) (hs : snx < top) : snx ≤ rId nx snx k ∧ rId nx snx k < top := by
  unfold rId
  rw [if_neg (by omega)]
  omega
theorem slA_ent {r : Nat → Nat} {nT nm o len : Nat} {i : Int} (h : r 256 = 256) (hn : r nm = nm) : ∀ p ∈ slA nT (.rslice nm o len) len i, p.1 < top ∧ ∃ x, (p.1, x) ∈ slA nT (.rslice nm o len) len i ∧ VEnt r x p.2 := by
  intro p hp
  simp only [slA, List.mem_cons, List.not_mem_nil, or_false] at hp
  rcases hp with rfl | rfl | rfl | rfl
  · exact ⟨low 3, _, by simp [slA], VEnt.slice h⟩
  · exact ⟨low 13, _, by simp [slA], VEnt.rslice hn⟩
  · exact ⟨low 14, _, by simp [slA], VEnt.int _ _⟩
  · exact ⟨low 15, _, by simp [slA], VEnt.int _ _⟩
theorem obA_len {A : List (List Int)} {nT k : Nat} (hb : ∀ l ∈ A, l.length ≤ 6) : (A.getD k []).length ≤ top := by
  have : (A.getD k []).length ≤ 6 := by
    rw [List.getD_eq_getElem?_getD]
    cases e : A[k]? with
    | none => simp
    | some l => exact hb l (List.mem_of_getElem? e)
  unfold top; omega
theorem obA_mem {A : List (List Int)} {p : Nat × Option AObj} (hp : p ∈ obA A) : p = (256, some (rowT encV (cellsF 257 A))) ∨ ∃ k, k < 6 ∧ p = (257 + k, objL (A.getD k [])) := by
  simp only [obA, List.mem_cons, List.not_mem_nil, or_false] at hp
  rcases hp with rfl | rfl | rfl | rfl | rfl | rfl | rfl
  · exact .inl rfl
  · exact .inr ⟨0, by decide, rfl⟩
  · exact .inr ⟨1, by decide, rfl⟩
  · exact .inr ⟨2, by decide, rfl⟩
  · exact .inr ⟨3, by decide, rfl⟩
  · exact .inr ⟨4, by decide, rfl⟩
  · exact .inr ⟨5, by decide, rfl⟩
theorem obA_in {A : List (List Int)} {k : Nat} (hk : k < 6) : (257 + k, objL (A.getD k [])) ∈ obA A := by
  have : k = 0 ∨ k = 1 ∨ k = 2 ∨ k = 3 ∨ k = 4 ∨ k = 5 := by omega
  rcases this with rfl | rfl | rfl | rfl | rfl | rfl <;> simp [obA]
/-- Behind an event that is not counted. -/
theorem wkAA {nT nm o len snx : Nat} {A : List (List Int)} {i : Int} (hnm : top ≤ nm) (hA : A.length ≤ 6) (hb : ∀ l ∈ A, l.length ≤ 6) (hs : 263 ≤ snx) (hs2 : snx < top) : Weak 256 snx (slA nT (.rslice nm o len) len i) (obA A) (slA nT (.rslice nm o len) len i) (obA A) 263 := by
  have e6 : rId 263 snx 256 = 256 := rId_low (by decide)
  refine ⟨rId 263 snx, fun k hk => rId_low (by omega), fun k h1 h2 => rId_out h1 h2 hs2, fun k hk => rId_top hk, by unfold top; decide, slA_ent e6 (rId_top hnm), fun p hp => ?_, fun p hp q hq _ _ e => ?_⟩
  · rcases obA_mem hp with rfl | ⟨k, hk, rfl⟩
    · refine ⟨low 256, fun y hy => ?_⟩
      injection hy with hy; subst hy
      refine ⟨by show rId 263 snx 256 < top; rw [e6]; exact low 256, rfl, _, by show (rId 263 snx 256, _) ∈ _; rw [e6]; exact hp, fun h => h, rowV_ent (by rw [cellsF_len]; unfold top; omega) (cellsF_ents fun k h1 h2 => rId_low (by omega)) (cellsF_one _ _)⟩
    · refine ⟨by show 257 + k < top; unfold top; omega, fun y hy => ?_⟩
      obtain ⟨h1, h2, h3⟩ := objL_row (r := rId 263 snx) hy (obA_len (nT := nT) hb)
      have e : rId 263 snx (257 + k) = 257 + k := rId_low (by omega)
      exact ⟨by show rId 263 snx (257 + k) < top; rw [e]; unfold top; omega, h1, y, by show (rId 263 snx (257 + k), some y) ∈ _; rw [e, ← hy]; exact hp, fun h => h, h3⟩
  · have hl : ∀ p ∈ obA A, p.1 < 263 := fun p hp => by
      rcases obA_mem hp with rfl | ⟨k, hk, rfl⟩
      · exact (by decide : 256 < 263)
      · show 257 + k < 263; omega
    rw [rId_low (hl p hp), rId_low (hl q hq)] at e
    exact e
/-- One name is called by another one. -/
def rOne (n m nx snx : Nat) : Nat → Nat := fun k => if k = n then m else rId nx snx k
theorem rOne_self {n m nx snx : Nat} : rOne n m nx snx n = m := by unfold rOne; rw [if_pos rfl]
theorem rOne_ne {n m nx snx k : Nat} (h : k ≠ n) : rOne n m nx snx k = rId nx snx k := by unfold rOne; rw [if_neg h]
theorem slB_ent {r : Nat → Nat} {nT nm o len b : Nat} {i : Int} {L : List Int} {l0 : List (Nat × AV)} (h : r 256 = 256) (h5 : r 263 = 263) (hn : r nm = nm) (h6 : r 264 = b) (hl : ∀ p, p ∈ slB nT (.rslice nm o len) len i L → p.1 ≠ 6 → p ∈ l0) (hx : (6, cellL b L) ∈ l0) : ∀ p ∈ slB nT (.rslice nm o len) len i L, p.1 < top ∧ ∃ x, (p.1, x) ∈ l0 ∧ VEnt r x p.2 := by
  intro p hp
  have hp0 := hp
  simp only [slB, List.mem_cons, List.not_mem_nil, or_false] at hp
  rcases hp with rfl | rfl | rfl | rfl | rfl | rfl
  · exact ⟨low 3, _, hl _ hp0 (by simp), VEnt.slice h⟩
  · exact ⟨low 5, _, hl _ hp0 (by simp), VEnt.ptr h5⟩
  · exact ⟨low 6, _, hx, cellL_ent L h6⟩
  · exact ⟨low 13, _, hl _ hp0 (by simp), VEnt.rslice hn⟩
  · exact ⟨low 14, _, hl _ hp0 (by simp), VEnt.int _ _⟩
  · exact ⟨low 15, _, hl _ hp0 (by simp), VEnt.int _ _⟩
theorem obB_mem {A : List (List Int)} {j : Nat} {L : List Int} {e : List AV} {p : Nat × Option AObj} (hp : p ∈ obB A j L e) : p = (256, some (rowT encV (cellsF 257 A))) ∨ (∃ k, k < 6 ∧ p = (257 + k, objB A j k)) ∨ p = (263, some (.cells 7 (Tr.fill e 0 .nil) [])) ∨ p = (264, objL L) := by
  simp only [obB, List.mem_cons, List.not_mem_nil, or_false] at hp
  rcases hp with rfl | rfl | rfl | rfl | rfl | rfl | rfl | rfl | rfl
  · exact .inl rfl
  · exact .inr (.inl ⟨0, by decide, rfl⟩)
  · exact .inr (.inl ⟨1, by decide, rfl⟩)
  · exact .inr (.inl ⟨2, by decide, rfl⟩)
  · exact .inr (.inl ⟨3, by decide, rfl⟩)
  · exact .inr (.inl ⟨4, by decide, rfl⟩)
  · exact .inr (.inl ⟨5, by decide, rfl⟩)
  · exact .inr (.inr (.inl rfl))
  · exact .inr (.inr (.inr rfl))
theorem objB_ok {A : List (List Int)} {j k : Nat} {y : AObj} (h : objB A j k = some y) : j ≠ k ∧ objL (A.getD k []) = some y := by
  unfold objB at h
  by_cases q : j = k
  · rw [if_pos q] at h; cases h
  · rw [if_neg q] at h; exact ⟨q, h⟩
/-- What is written of an event, as a row. -/
theorem box_ent {r : Nat → Nat} {e : List AV} (he : e.length = 7) (hf : e.all AV.flat = true) (h1 : e.all AV.oneCell = true) : OEnt r (.cells 7 (Tr.fill e 0 .nil) []) (.cells 7 (Tr.fill e 0 .nil) []) := by
  rw [← he]
  exact OEnt.cells (by rw [he]; unfold top; decide) (VEnts.flat hf) h1
section
variable {nT nm o len : Nat} {A : List (List Int)} {i : Int} {e : List AV}
/-- To the inner loop: the thread's row is called 264. -/
theorem wkAB {th : Int} {L : List Int} (hnm : top ≤ nm) (hA : A.length ≤ 6) (hb : ∀ l ∈ A, l.length ≤ 6) (he : e.length = 7) (hf : e.all AV.flat = true) (h1 : e.all AV.oneCell = true) (hAt : A[th.toNat]? = some L) (hj : th.toNat < 6) :
    Weak 256 264 [(3, .slice (some (256, 0)) nT (.known nT)), (5, .ptr (some (263, 0))), (6, cellL (257 + th.toNat) L), (13, .rslice nm o len), (14, .int .i64 ((len : Nat) : Int)), (15, .int .i64 i)] (obA A ++ [(263, some (.cells 7 (Tr.fill e 0 .nil) []))]) (slB nT (.rslice nm o len) len i L) (obB A th.toNat L e) 265 := by
  have hlow : ∀ k, k < 265 → k ≠ 264 → rOne 264 (257 + th.toNat) 265 264 k = k := fun k h1 h2 => by rw [rOne_ne h2]; exact rId_low h1
  have hL : A.getD th.toNat [] = L := by rw [List.getD_eq_getElem?_getD, hAt]; rfl
  refine ⟨rOne 264 (257 + th.toNat) 265 264, fun k hk => hlow k (by omega) (by omega), fun k q1 q2 => ?_, fun k hk => ?_, by unfold top; decide, slB_ent (b := 257 + th.toNat) (hlow _ (by decide) (by decide)) (hlow _ (by decide) (by decide)) ?_ rOne_self (fun p hp hne => ?_) (by simp), fun p hp => ?_, fun p hp q hq n1 n2 ee => ?_⟩
  · rw [rOne_ne (by omega)]; exact rId_out q1 q2 (low 264)
  · rw [rOne_ne (by unfold top at hk; omega)]; exact rId_top hk
  · rw [rOne_ne (by unfold top at hnm; omega)]; exact rId_top hnm
  · simp only [slB, List.mem_cons, List.not_mem_nil, or_false] at hp
    rcases hp with rfl | rfl | rfl | rfl | rfl | rfl <;> first | (exact absurd rfl hne) | simp
  · rcases obB_mem hp with rfl | ⟨k, hk, rfl⟩ | rfl | rfl
    · refine ⟨low 256, fun y hy => ?_⟩
      injection hy with hy; subst hy
      have e6 := hlow 256 (by decide) (by decide)
      refine ⟨by show rOne _ _ _ _ 256 < top; rw [e6]; exact low 256, rfl, _, by show (rOne _ _ _ _ 256, _) ∈ _; rw [e6]; simp [obA], fun h => h, rowV_ent (by rw [cellsF_len]; unfold top; omega) (cellsF_ents fun k q1 q2 => hlow k (by omega) (by omega)) (cellsF_one _ _)⟩
    · refine ⟨by show 257 + k < top; unfold top; omega, fun y hy => ?_⟩
      obtain ⟨_, hy'⟩ := objB_ok (show objB A th.toNat k = some y from hy)
      obtain ⟨a1, a2, a3⟩ := objL_row (r := rOne 264 (257 + th.toNat) 265 264) hy' (obA_len (nT := nT) hb)
      have e7 := hlow (257 + k) (by omega) (by omega)
      exact ⟨by show rOne _ _ _ _ (257 + k) < top; rw [e7]; unfold top; omega, a1, y, by show (rOne _ _ _ _ (257 + k), some y) ∈ _; rw [e7, ← hy']; exact List.mem_append.2 (.inl (obA_in hk)), fun h => h, a3⟩
    · refine ⟨low 263, fun y hy => ?_⟩
      injection hy with hy; subst hy
      have e7 := hlow 263 (by decide) (by decide)
      exact ⟨by show rOne _ _ _ _ 263 < top; rw [e7]; exact low 263, rfl, _, by show (rOne _ _ _ _ 263, _) ∈ _; rw [e7]; simp, fun h => h, box_ent he hf h1⟩
    · refine ⟨low 264, fun y hy => ?_⟩
      have hy' : objL L = some y := hy
      obtain ⟨a1, a2, a3⟩ := objL_row (r := rOne 264 (257 + th.toNat) 265 264) hy' (by rw [← hL]; exact obA_len (nT := nT) hb)
      exact ⟨by show rOne _ _ _ _ 264 < top; rw [rOne_self]; unfold top; omega, a1, y, by show (rOne _ _ _ _ 264, some y) ∈ _; rw [rOne_self, ← hy', ← hL]; exact List.mem_append.2 (.inl (obA_in hj)), fun h => h, a3⟩
  · have key : ∀ p ∈ obB A th.toNat L e, p.2 ≠ none → (p.1 = 264 ∨ (p.1 < 264 ∧ p.1 ≠ 257 + th.toNat)) := by
      intro p hp hne
      rcases obB_mem hp with rfl | ⟨k, hk, rfl⟩ | rfl | rfl
      · exact .inr ⟨by show 256 < 264; omega, by show 256 ≠ 257 + th.toNat; omega⟩
      · refine .inr ⟨by show 257 + k < 264; omega, ?_⟩
        show 257 + k ≠ 257 + th.toNat
        intro q
        have : th.toNat = k := by omega
        apply hne
        show objB A th.toNat k = none
        unfold objB
        rw [if_pos this]
      · exact .inr ⟨by show 263 < 264; omega, by show 263 ≠ 257 + th.toNat; omega⟩
      · exact .inl rfl
    rcases key p hp n1 with h | ⟨h, h'⟩
    · rcases key q hq n2 with k | ⟨k, k'⟩
      · rw [h, k]
      · rw [h, rOne_self, hlow q.1 (by omega) (by omega)] at ee; omega
    · rcases key q hq n2 with k | ⟨k, k'⟩
      · rw [k, rOne_self, hlow p.1 (by omega) (by omega)] at ee; omega
      · rw [hlow p.1 (by omega) (by omega), hlow q.1 (by omega) (by omega)] at ee; exact ee
/-- One more 0: what was made is called 264. -/
theorem wkBB {j : Nat} {L : List Int} (hnm : top ≤ nm) (hA : A.length ≤ 6) (hb : ∀ l ∈ A, l.length ≤ 6) (he : e.length = 7) (hf : e.all AV.flat = true) (h1 : e.all AV.oneCell = true) (hL : L ≠ []) (hLl : L.length ≤ 6) :
    Weak 256 267 [(3, .slice (some (256, 0)) nT (.known nT)), (5, .ptr (some (263, 0))), (6, cellL 266 L), (13, .rslice nm o len), (14, .int .i64 ((len : Nat) : Int)), (15, .int .i64 i)] [(256, some (rowT encV (cellsF 257 A))), (257, objB A j 0), (258, objB A j 1), (259, objB A j 2), (260, objB A j 3), (261, objB A j 4), (262, objB A j 5), (263, some (.cells 7 (Tr.fill e 0 .nil) [])), (266, objL L)] (slB nT (.rslice nm o len) len i L) (obB A j L e) 265 := by
  have hlow : ∀ k, k < 264 → rOne 264 266 265 267 k = k := fun k h1 => by rw [rOne_ne (by omega)]; exact rId_low (by omega)
  refine ⟨rOne 264 266 265 267, fun k hk => hlow k (by omega), fun k q1 q2 => ?_, fun k hk => ?_, by unfold top; decide, slB_ent (b := 266) (hlow _ (by decide)) (hlow _ (by decide)) ?_ rOne_self (fun p hp hne => ?_) (by simp), fun p hp => ?_, fun p hp q hq n1 n2 ee => ?_⟩
  · rw [rOne_ne (by omega)]; exact rId_out q1 q2 (low 267)
  · rw [rOne_ne (by unfold top at hk; omega)]; exact rId_top hk
  · rw [rOne_ne (by unfold top at hnm; omega)]; exact rId_top hnm
  · simp only [slB, List.mem_cons, List.not_mem_nil, or_false] at hp
    rcases hp with rfl | rfl | rfl | rfl | rfl | rfl <;> first | (exact absurd rfl hne) | simp
  · rcases obB_mem hp with rfl | ⟨k, hk, rfl⟩ | rfl | rfl
    · refine ⟨low 256, fun y hy => ?_⟩
      injection hy with hy; subst hy
      have e6 := hlow 256 (by decide)
      refine ⟨by show rOne _ _ _ _ 256 < top; rw [e6]; exact low 256, rfl, _, by show (rOne _ _ _ _ 256, _) ∈ _; rw [e6]; simp, fun h => h, rowV_ent (by rw [cellsF_len]; unfold top; omega) (cellsF_ents fun k q1 q2 => hlow k (by omega)) (cellsF_one _ _)⟩
    · refine ⟨by show 257 + k < top; unfold top; omega, fun y hy => ?_⟩
      have hy0 : objB A j k = some y := hy
      obtain ⟨_, hy'⟩ := objB_ok hy0
      obtain ⟨a1, a2, a3⟩ := objL_row (r := rOne 264 266 265 267) hy' (obA_len (nT := nT) hb)
      have e7 := hlow (257 + k) (by omega)
      refine ⟨by show rOne _ _ _ _ (257 + k) < top; rw [e7]; unfold top; omega, a1, y, ?_, fun h => h, a3⟩
      show (rOne _ _ _ _ (257 + k), some y) ∈ _
      rw [e7, ← hy0]
      have : k = 0 ∨ k = 1 ∨ k = 2 ∨ k = 3 ∨ k = 4 ∨ k = 5 := by omega
      rcases this with rfl | rfl | rfl | rfl | rfl | rfl <;> simp
    · refine ⟨low 263, fun y hy => ?_⟩
      injection hy with hy; subst hy
      have e7 := hlow 263 (by decide)
      exact ⟨by show rOne _ _ _ _ 263 < top; rw [e7]; exact low 263, rfl, _, by show (rOne _ _ _ _ 263, _) ∈ _; rw [e7]; simp, fun h => h, box_ent he hf h1⟩
    · refine ⟨low 264, fun y hy => ?_⟩
      have hy' : objL L = some y := hy
      obtain ⟨a1, a2, a3⟩ := objL_row (r := rOne 264 266 265 267) hy' (by unfold top; omega)
      exact ⟨by show rOne _ _ _ _ 264 < top; rw [rOne_self]; exact low 266, a1, y, by show (rOne _ _ _ _ 264, some y) ∈ _; rw [rOne_self, ← hy']; simp, fun h => h, a3⟩
  · have key : ∀ p ∈ obB A j L e, p.1 = 264 ∨ p.1 < 264 := by
      intro p hp
      rcases obB_mem hp with rfl | ⟨k, hk, rfl⟩ | rfl | rfl
      · exact .inr (by decide : 256 < 264)
      · exact .inr (by show 257 + k < 264; omega)
      · exact .inr (by decide : 263 < 264)
      · exact .inl rfl
    rcases key p hp with h | h
    · rcases key q hq with k | k
      · rw [h, k]
      · rw [h, rOne_self, hlow q.1 k] at ee; omega
    · rcases key q hq with k | k
      · rw [k, rOne_self, hlow p.1 h] at ee; omega
      · rw [hlow p.1 h, hlow q.1 k] at ee; exact ee
theorem VEnts_of {r : Nat → Nat} : ∀ {l m : List AV}, l.length = m.length → (∀ (i : Nat) x y, l[i]? = some x → m[i]? = some y → VEnt r x y) → VEnts r l m
  | [], [], _, _ => trivial
  | [], _ :: _, h, _ => by simp at h
  | _ :: _, [], h, _ => by simp at h
  | x :: l, y :: m, h, k => ⟨k 0 x y rfl rfl, VEnts_of (by simpa using h) fun i a b h1 h2 => k (i + 1) a b (by simpa using h1) (by simpa using h2)⟩
theorem cellsF_get : ∀ {A : List (List Int)} {b k : Nat} {x : AV}, (cellsF b A)[k]? = some x → ∃ L, A[k]? = some L ∧ x = cellL (b + k) L
  | [], _, _, _, h => by simp [cellsF] at h
  | l :: A, b, 0, x, h => by
    simp [cellsF] at h; exact ⟨l, rfl, h.symm⟩
  | l :: A, b, k + 1, x, h => by
    simp only [cellsF, List.getElem?_cons_succ] at h
    obtain ⟨L, h1, h2⟩ := cellsF_get h
    exact ⟨L, by simpa using h1, by rw [h2, show b + 1 + k = b + (k + 1) by omega]⟩
/-- Back to the outer loop: the row is the thread's. -/
theorem wkBA {j N snx : Nat} {L L' : List Int} (hnm : top ≤ nm) (hA : A.length ≤ 6) (hb : ∀ l ∈ A, l.length ≤ 6) (hAj : A[j]? = some L) (hj : j < 6) (hne : L' ≠ []) (hL' : L'.length ≤ 6) (hN : N = L'.length) (hs : 265 ≤ snx) (hs2 : snx < top) :
    Weak 256 snx (slA nT (.rslice nm o len) len i) [(256, some (rowT encV ((cellsF 257 A).set j (.slice (some (264, 0)) N (.atLeast N 1))))), (257, objB A j 0), (258, objB A j 1), (259, objB A j 2), (260, objB A j 3), (261, objB A j 4), (262, objB A j 5), (264, some (rowT encI L'))] (slA nT (.rslice nm o len) len i) (obA (A.set j L')) 263 := by
  have hlow : ∀ k, k < 263 → k ≠ 257 + j → rOne (257 + j) 264 263 snx k = k := fun k h1 h2 => by rw [rOne_ne h2]; exact rId_low h1
  have e6 : rOne (257 + j) 264 263 snx 256 = 256 := hlow 256 (by decide) (by omega)
  obtain ⟨x0, l0, rfl⟩ : ∃ x l, L' = x :: l := by
    cases L' with
    | nil => exact absurd rfl hne
    | cons x l => exact ⟨x, l, rfl⟩
  have hb' : ∀ l ∈ A.set j (x0 :: l0), l.length ≤ 6 := fun l hl => by
    rcases List.mem_or_eq_of_mem_set hl with h | h
    · exact hb l h
    · rw [h]; exact hL'
  have hjl : j < A.length := (List.getElem?_eq_some_iff.1 hAj).1
  have hgj : (A.set j (x0 :: l0)).getD j [] = x0 :: l0 := by rw [List.getD_eq_getElem?_getD, List.getElem?_set_self hjl]; rfl
  have hgk : ∀ k, k ≠ j → (A.set j (x0 :: l0)).getD k [] = A.getD k [] := fun k q => by rw [List.getD_eq_getElem?_getD, List.getElem?_set_ne (fun e => q e.symm), List.getD_eq_getElem?_getD]
  refine ⟨rOne (257 + j) 264 263 snx, fun k hk => hlow k (by omega) (by omega), fun k q1 q2 => ?_, fun k hk => ?_, by unfold top; decide, slA_ent e6 ?_, fun p hp => ?_, fun p hp q hq _ _ ee => ?_⟩
  · rw [rOne_ne (by omega)]
    have := rId_out (nx := 263) q1 q2 hs2
    exact this
  · rw [rOne_ne (by unfold top at hk; omega)]; exact rId_top hk
  · rw [rOne_ne (by unfold top at hnm; omega)]; exact rId_top hnm
  · rcases obA_mem hp with rfl | ⟨k, hk, rfl⟩
    · refine ⟨low 256, fun y hy => ?_⟩
      injection hy with hy; subst hy
      refine ⟨by show rOne _ _ _ _ 256 < top; rw [e6]; exact low 256, rfl, rowT encV ((cellsF 257 A).set j (.slice (some (264, 0)) N (.atLeast N 1))), by show (rOne _ _ _ _ 256, _) ∈ _; rw [e6]; exact List.mem_cons_self, fun h => h, ?_⟩
      refine rowV_ent (by rw [List.length_set, cellsF_len]; unfold top; omega) ?_ (cellsF_one _ _)
      refine VEnts_of (by rw [List.length_set, cellsF_len, cellsF_len, List.length_set]) fun k a b h1 h2 => ?_
      rw [cellsF_set] at h2
      by_cases q : j = k
      · subst q
        have hc : j < (cellsF 257 A).length := by rw [cellsF_len]; exact hjl
        rw [List.getElem?_set_self hc] at h1 h2
        injection h1 with h1; injection h2 with h2
        subst h1; subst h2
        show VEnt _ _ (.slice (some (257 + j, 0)) (x0 :: l0).length (.atLeast (x0 :: l0).length 1))
        rw [← hN]
        exact VEnt.slice rOne_self
      · rw [List.getElem?_set_ne q] at h1 h2
        rw [h1] at h2; injection h2 with h2; subst h2
        obtain ⟨M, h3, rfl⟩ := cellsF_get h1
        have := (List.getElem?_eq_some_iff.1 h3).1
        exact cellL_ent M (hlow _ (by omega) (by omega))
    · refine ⟨by show 257 + k < top; unfold top; omega, fun y hy => ?_⟩
      have hy0 : objL ((A.set j (x0 :: l0)).getD k []) = some y := hy
      obtain ⟨a1, a2, a3⟩ := objL_row (r := rOne (257 + j) 264 263 snx) hy0 (obA_len (nT := nT) hb')
      by_cases q : k = j
      · subst q
        rw [hgj] at hy0
        refine ⟨by show rOne _ _ _ _ (257 + k) < top; rw [rOne_self]; exact low 264, a1, y, ?_, fun h => h, a3⟩
        show (rOne _ _ _ _ (257 + k), some y) ∈ _
        rw [rOne_self, ← hy0]
        simp [objL]
      · rw [hgk k q] at hy0
        have e7 := hlow (257 + k) (by omega) (by omega)
        refine ⟨by show rOne _ _ _ _ (257 + k) < top; rw [e7]; unfold top; omega, a1, y, ?_, fun h => h, a3⟩
        show (rOne _ _ _ _ (257 + k), some y) ∈ _
        rw [e7, ← hy0]
        have hB : objL (A.getD k []) = objB A j k := by unfold objB; rw [if_neg (fun e => q e.symm)]
        rw [hB]
        have : k = 0 ∨ k = 1 ∨ k = 2 ∨ k = 3 ∨ k = 4 ∨ k = 5 := by omega
        rcases this with rfl | rfl | rfl | rfl | rfl | rfl <;> simp
  · have hl : ∀ p ∈ obA (A.set j (x0 :: l0)), p.1 < 263 := fun p hp => by
      rcases obA_mem hp with rfl | ⟨k, hk, rfl⟩
      · exact (by decide : 256 < 263)
      · show 257 + k < 263; omega
    have key : ∀ p ∈ obA (A.set j (x0 :: l0)), (p.1 = 257 + j ∧ rOne (257 + j) 264 263 snx p.1 = 264) ∨ (p.1 ≠ 257 + j ∧ rOne (257 + j) 264 263 snx p.1 = p.1) := fun p hp => by
      by_cases q : p.1 = 257 + j
      · exact .inl ⟨q, by rw [q, rOne_self]⟩
      · exact .inr ⟨q, hlow _ (hl p hp) q⟩
    have := hl p hp
    have := hl q hq
    rcases key p hp with ⟨h1, h2⟩ | ⟨h1, h2⟩
    · rcases key q hq with ⟨k1, k2⟩ | ⟨k1, k2⟩
      · rw [h1, k1]
      · rw [h2, k2] at ee; omega
    · rcases key q hq with ⟨k1, k2⟩ | ⟨k1, k2⟩
      · rw [h2, k2] at ee; omega
      · rw [h2, k2] at ee; exact ee
/-- At the start: no tries. -/
theorem wkS {T snx : Nat} {a : AV} (ha : ∀ r : Nat → Nat, (∀ k, top ≤ k → r k = k) → VEnt r a a) (hT : T ≤ 6) (hs : 258 ≤ snx) (hs2 : snx < top) {l0 : List (Nat × AV)} (hl0 : l0 = [(3, .slice (some (257, 0)) T (.known T)), (13, a), (14, .int .i64 ((len : Nat) : Int)), (15, .int .i64 i)]) :
    Weak 256 snx l0 [(257, some (.cells T .nil [.slice none 0 (.known 0)]))] (slA T a len i) (obA (List.replicate T [])) 263 := by
  subst hl0
  have hg : ∀ k, (List.replicate T ([] : List Int)).getD k [] = [] := fun k => by
    rw [List.getD_eq_getElem?_getD]
    cases e : (List.replicate T ([] : List Int))[k]? with
    | none => rfl
    | some x =>
      have := List.mem_of_getElem? e
      rw [List.mem_replicate] at this
      rw [this.2]; rfl
  have e6 : rOne 256 257 263 snx 256 = 257 := rOne_self
  refine ⟨rOne 256 257 263 snx, fun k hk => by rw [rOne_ne (by omega)]; exact rId_low (by omega), fun k q1 q2 => ?_, fun k hk => ?_, by unfold top; decide, fun p hp => ?_, fun p hp => ?_, fun p hp q hq n1 n2 _ => ?_⟩
  · rw [rOne_ne (by omega)]; exact rId_out q1 q2 hs2
  · rw [rOne_ne (by unfold top at hk; omega)]; exact rId_top hk
  · simp only [slA, List.mem_cons, List.not_mem_nil, or_false] at hp
    rcases hp with rfl | rfl | rfl | rfl
    · exact ⟨low 3, _, by simp, VEnt.slice e6⟩
    · exact ⟨low 13, _, by simp, ha _ fun k hk => by rw [rOne_ne (by unfold top at hk; omega)]; exact rId_top hk⟩
    · exact ⟨low 14, _, by simp, VEnt.int _ _⟩
    · exact ⟨low 15, _, by simp, VEnt.int _ _⟩
  · rcases obA_mem hp with rfl | ⟨k, hk, rfl⟩
    · refine ⟨low 256, fun y hy => ?_⟩
      injection hy with hy; subst hy
      refine ⟨by show rOne _ _ _ _ 256 < top; rw [e6]; exact low 257, rfl, .cells T .nil [.slice none 0 (.known 0)], by show (rOne _ _ _ _ 256, _) ∈ _; rw [e6]; exact List.mem_cons_self, fun h => h, ?_⟩
      unfold rowT
      rw [flatV]
      intro ρ N ob h
      obtain ⟨c, e', rfl, k1, k2, k3⟩ := h
      refine ⟨c, e', rfl, k1, by rw [cellsF_len, List.length_replicate]; exact k2, fun m hm => ?_⟩
      rw [cellsF_len, List.length_replicate] at hm
      obtain ⟨x, v, a1, a2, a3, a4⟩ := k3 m hm
      have hx : x = .slice none 0 (.known 0) := by
        unfold cellAt at a1
        rw [Tr.get_nil] at a1
        have h1 : ([AV.slice none 0 (.known 0)] : List AV)[m % 1]? = some x := a1
        rw [Nat.mod_one] at h1
        injection h1 with h1
        exact h1.symm
      subst hx
      have hcell : (cellsF 257 (List.replicate T ([] : List Int)))[m]? = some (.slice none 0 (.known 0)) := by
        have h0 : (List.replicate T ([] : List Int))[m]? = some [] := by rw [List.getElem?_replicate, if_pos hm]
        exact cellsF_at h0
      refine ⟨.slice none 0 (.known 0), v, ?_, rfl, a3, VEnt.nilslice ρ v a4⟩
      unfold cellAt
      rw [fill_get _ (by rw [cellsF_len, List.length_replicate]; unfold top; omega) m (by rw [cellsF_len, List.length_replicate]; exact hm), hcell]
    · refine ⟨by show 257 + k < top; unfold top; omega, fun y hy => ?_⟩
      have hy0 : objL ((List.replicate T ([] : List Int)).getD k []) = some y := hy
      rw [hg] at hy0; cases hy0
  · have key : ∀ p ∈ obA (List.replicate T []), p.2 ≠ none → p.1 = 256 := by
      intro p hp hne
      rcases obA_mem hp with rfl | ⟨k, hk, rfl⟩
      · rfl
      · exfalso; apply hne
        show objL ((List.replicate T ([] : List Int)).getD k []) = none
        rw [hg]; rfl
    rw [key p hp n1, key q hq n2]
end
theorem rnA (nT nm o len : Nat) (i : Int) (A : List (List Int)) (snx : Nat) {l0 : List (Nat × AV)} {o0 : List (Nat × Option AObj)} (hw : Weak 256 snx l0 o0 (slA nT (.rslice nm o len) len i) (obA A) 263) : l0.map (fun q => some q.2) = l0.map (fun q => some q.2) ∧ o0.map (fun q => q.2) = o0.map (fun q => q.2) ∧ Weak 256 snx l0 o0 (slA nT (.rslice nm o len) len i) (obA A) 263 ∧ CA nT (.rslice nm o len) len i A (frA (slA nT (.rslice nm o len) len i)) (stOf (obA A) 263) .no := ⟨rfl, rfl, hw, rfl, rfl⟩
theorem rnB (nT nm o len : Nat) (i : Int) (A : List (List Int)) (j : Nat) (L : List Int) (e : List AV) (snx : Nat) {l0 : List (Nat × AV)} {o0 : List (Nat × Option AObj)} (hw : Weak 256 snx l0 o0 (slB nT (.rslice nm o len) len i L) (obB A j L e) 265) : l0.map (fun q => some q.2) = l0.map (fun q => some q.2) ∧ o0.map (fun q => q.2) = o0.map (fun q => q.2) ∧ Weak 256 snx l0 o0 (slB nT (.rslice nm o len) len i L) (obB A j L e) 265 ∧ CB nT (.rslice nm o len) len i A j L e (frB (slB nT (.rslice nm o len) len i L)) (stOf (obB A j L e) 265) .no := ⟨rfl, rfl, hw, rfl, rfl⟩
end AcZ
namespace AcU
open AcS AcW AcT AcY AcZ Go.Proofs.YtbnjeblcleihkaaGreatDoor.auditCounted
set_option maxHeartbeats 8000000 in
theorem skip {B : Base} {F : Nat → Option (List AV)} (hc : CallSim Tryz.prog B (arunI Tryz.prog (fun _ => none) F 6)) (hl : ∀ t a, Local (arunI Tryz.prog (fun _ => none) F 6 t a)) {nm o len nT : Nat} {A : List (List Int)} {i k th tx at_ v x why : Int} {R : AV → AS → Prop} (hA6 : A.length ≤ 6) (hb : ∀ l ∈ A, l.length ≤ 6) (hlen : len ≤ 2000) (hi : 0 ≤ i ∧ i < (len : Int)) (hnm : top ≤ nm) (hA : A.length = nT) (hT : nT ≤ 6) (hlO : (cellsF 257 A).length * 1 ≤ top) (hev : frzAt F nm (o + i.toNat * 7) 7 = some [(.int .u8 k), (.int .i64 th), (.int .i64 tx), (.int .i64 at_), (.int .i64 v), (.int .i64 x), (.int .u8 why)]) (hs : ¬ (k = 1 ∧ 0 ≤ th ∧ th < (nT : Int) ∧ 0 ≤ tx ∧ tx < 6))
  (H : ∀ fr s p, CA nT (.rslice nm o len) len (i + 1) A fr s p → Sim Tryz.prog B 256 (Fin Tryz.prog Tryz.f7.results.toList R) fr s) : Sim Tryz.prog B 256 (Fin Tryz.prog Tryz.f7.results.toList R) (frA (slA nT (.rslice nm o len) len i)) (stOf (obA A) 263) := by
 exact wp_cut envN_ok rfl AcS.hmix hc hl (Nat.le_refl _) rfl H 900 ((fun (q1 : Pl) => (.st 1 (.rg (.fk (.en (.st 6 (.rg (.ixf (.ldf [(.int .u8 k), (.int .i64 th), (.int .i64 tx), (.int .i64 at_), (.int .i64 v), (.int .i64 x), (.int .u8 why)] (.go 2 (.en (.st 2 (.rg (.go 2 (.fk (.go 22 q1) (.go 3 (.fk (.go 18 q1) (.go 6 (.fk (.go 11 q1) (.go 4 (.fk (.go 6 q1) (.go 4 (.fk (.go 1 q1) (.go 1 (.en (.st 3 (.rg .no))))))))))))))))))))))) (.no))))) (.en (.st 2 (.rg (.vl (.int .i64 (i + 1)) (.go 1 (.en (.st 1 (.rn [(3, (.slice (some (256, 0)) (nT) (.known nT))), (13, (.rslice nm o len)), (14, (.int .i64 (((len : Nat) : Int)))), (15, (.int .i64 ((i + 1))))] [(256, (some (rowT encV (cellsF 257 A)))), (257, (objL (A.getD 0 []))), (258, (objL (A.getD 1 []))), (259, (objL (A.getD 2 []))), (260, (objL (A.getD 3 []))), (261, (objL (A.getD 4 []))), (262, (objL (A.getD 5 [])))] (slA nT (.rslice nm o len) len (i + 1)) (obA A) 264 263 .no))))))))) (tfk (i < ((len : Nat) : Int)) (fun _ => (have e1 := (w_i64 (i + 1) (by omega) (rnA nT nm o len (i + 1) A 264 (wkAA hnm hA6 hb (by decide) (low 264)))); (ax i ((len : Nat) : Int) (by omega) (by omega) (id (And.intro hnm (And.intro (frz_sub hev 0 7 (by decide)) (tfk (k ≠ 1) (fun _ => e1) (fun _ => (tfk (th < 0) (fun _ => e1) (fun _ => (tfk (th ≥ ((nT : Nat) : Int)) (fun _ => e1) (fun _ => (tfk (tx < 0) (fun _ => e1) (fun _ => (tfk (tx ≥ 6) (fun _ => e1) (fun _ => (oF (by omega)))))))))))))))))) (fun _ => (oF (by omega))))
set_option maxHeartbeats 8000000 in
theorem into {B : Base} {F : Nat → Option (List AV)} (hc : CallSim Tryz.prog B (arunI Tryz.prog (fun _ => none) F 6)) (hl : ∀ t a, Local (arunI Tryz.prog (fun _ => none) F 6 t a)) {nm o len nT : Nat} {A : List (List Int)} {i k th tx at_ v x why : Int} {R : AV → AS → Prop} {L : List Int} (hA6 : A.length ≤ 6) (hb : ∀ l ∈ A, l.length ≤ 6) (hlen : len ≤ 2000) (hi : 0 ≤ i ∧ i < (len : Int)) (hnm : top ≤ nm) (hA : A.length = nT) (hT : nT ≤ 6) (hlO : (cellsF 257 A).length * 1 ≤ top) (hev : frzAt F nm (o + i.toNat * 7) 7 = some [(.int .u8 k), (.int .i64 th), (.int .i64 tx), (.int .i64 at_), (.int .i64 v), (.int .i64 x), (.int .u8 why)]) (hk : k = 1 ∧ 0 ≤ th ∧ th < (nT : Int) ∧ 0 ≤ tx ∧ tx < 6) (hth6 : th.toNat < 6) (hAt : A[th.toNat]? = some L)
  (H : ∀ fr s p, CB nT (.rslice nm o len) len i A th.toNat L [(.int .u8 k), (.int .i64 th), (.int .i64 tx), (.int .i64 at_), (.int .i64 v), (.int .i64 x), (.int .u8 why)] fr s p → Sim Tryz.prog B 256 (Fin Tryz.prog Tryz.f7.results.toList R) fr s) : Sim Tryz.prog B 256 (Fin Tryz.prog Tryz.f7.results.toList R) (frA (slA nT (.rslice nm o len) len i)) (stOf (obA A) 263) := by
 exact wp_cut envN_ok rfl AcS.hmix hc hl (Nat.le_refl _) rfl H 900 (.st 1 (.rg (.fk (.en (.st 6 (.rg (.ixf (.ldf [(.int .u8 k), (.int .i64 th), (.int .i64 tx), (.int .i64 at_), (.int .i64 v), (.int .i64 x), (.int .u8 why)] (.go 2 (.en (.st 2 (.rg (.go 2 (.fk (.no) (.go 3 (.fk (.no) (.go 6 (.fk (.no) (.go 4 (.fk (.no) (.go 4 (.fk (.no) (.go 1 (.en (.st 3 (.rg (.go 3 (.ix (.ld [(cellL (257 + th.toNat) L)] (.go 1 (.en (.st 3 (.rn [(3, (.slice (some (256, 0)) (nT) (.known nT))), (5, (.ptr (some (263, 0)))), (6, (cellL (257 + th.toNat) L)), (13, (.rslice nm o len)), (14, (.int .i64 (((len : Nat) : Int)))), (15, (.int .i64 i))] [(256, (some (rowT encV (cellsF 257 A)))), (257, (objL (A.getD 0 []))), (258, (objL (A.getD 1 []))), (259, (objL (A.getD 2 []))), (260, (objL (A.getD 3 []))), (261, (objL (A.getD 4 []))), (262, (objL (A.getD 5 []))), (263, some (.cells 7 (Tr.fill [(.int .u8 k), (.int .i64 th), (.int .i64 tx), (.int .i64 at_), (.int .i64 v), (.int .i64 x), (.int .u8 why)] 0 .nil) []))] (slB nT (.rslice nm o len) len i L) (obB A th.toNat L [(.int .u8 k), (.int .i64 th), (.int .i64 tx), (.int .i64 at_), (.int .i64 v), (.int .i64 x), (.int .u8 why)]) 264 265 .no)))))))))))))))))))))))))))))) (.no)))) (tfk (i < ((len : Nat) : Int)) (fun _ => (ax i ((len : Nat) : Int) (by omega) (by omega) (id (And.intro hnm (And.intro (frz_sub hev 0 7 (by decide)) (tfk (k ≠ 1) (fun _ => (oF (by omega))) (fun _ => (tfk (th < 0) (fun _ => (oF (by omega))) (fun _ => (tfk (th ≥ ((nT : Nat) : Int)) (fun _ => (oF (by omega))) (fun _ => (tfk (tx < 0) (fun _ => (oF (by omega))) (fun _ => (tfk (tx ≥ 6) (fun _ => (oF (by omega))) (fun _ => (ax th ((nT : Nat) : Int) (by omega) (by omega) (id (And.intro (row_ld lenV hlO (cellsF_at hAt) 0 1 rfl) (rnB nT nm o len i A th.toNat L [(.int .u8 k), (.int .i64 th), (.int .i64 tx), (.int .i64 at_), (.int .i64 v), (.int .i64 x), (.int .u8 why)] 264 (wkAB hnm hA6 hb rfl rfl rfl hAt hth6)))))))))))))))))))) (fun _ => (oF (by omega))))
set_option maxHeartbeats 8000000 in
theorem padN {B : Base} {F : Nat → Option (List AV)} (hc : CallSim Tryz.prog B (arunI Tryz.prog (fun _ => none) F 6)) (hl : ∀ t a, Local (arunI Tryz.prog (fun _ => none) F 6 t a)) {nm o len nT : Nat} {A : List (List Int)} {i k th tx at_ v x why : Int} {R : AV → AS → Prop} {j : Nat} {x0 : Int} {l0 : List Int} (hA6 : A.length ≤ 6) (hb : ∀ l ∈ A, l.length ≤ 6) (hnm : top ≤ nm) (hp : (([] : List Int).length : Int) ≤ tx) (htx : tx < 6)
  (H : ∀ fr s p, CB nT (.rslice nm o len) len i A j ([] ++ [0]) [(.int .u8 k), (.int .i64 th), (.int .i64 tx), (.int .i64 at_), (.int .i64 v), (.int .i64 x), (.int .u8 why)] fr s p → Sim Tryz.prog B 256 (Fin Tryz.prog Tryz.f7.results.toList R) fr s) : Sim Tryz.prog B 256 (Fin Tryz.prog Tryz.f7.results.toList R) (frB (slB nT (.rslice nm o len) len i [])) (stOf (obB A j [] [(.int .u8 k), (.int .i64 th), (.int .i64 tx), (.int .i64 at_), (.int .i64 v), (.int .i64 x), (.int .u8 why)]) 265) := by
 exact wp_cut envN_ok rfl AcS.hmix hc hl (Nat.le_refl _) rfl H 900 (.st 2 (.rg (.go 4 (.fk (.en (.st 6 (.rn [(3, (.slice (some (256, 0)) (nT) (.known nT))), (5, (.ptr (some (263, 0)))), (6, (.slice (some (266, 0)) (1) (.atLeast 1 1))), (13, (.rslice nm o len)), (14, (.int .i64 (((len : Nat) : Int)))), (15, (.int .i64 i))] [(256, (some (rowT encV (cellsF 257 A)))), (257, (objB A j 0)), (258, (objB A j 1)), (259, (objB A j 2)), (260, (objB A j 3)), (261, (objB A j 4)), (262, (objB A j 5)), (263, some (.cells 7 (Tr.fill [(.int .u8 k), (.int .i64 th), (.int .i64 tx), (.int .i64 at_), (.int .i64 v), (.int .i64 x), (.int .u8 why)] 0 .nil) [])), (266, some (.cells 1 (Tr.fill [(.int .i64 (.ofNat 0))] 0 .nil) []))] (slB nT (.rslice nm o len) len i ([] ++ [0])) (obB A j ([] ++ [0]) [(.int .u8 k), (.int .i64 th), (.int .i64 tx), (.int .i64 at_), (.int .i64 v), (.int .i64 x), (.int .u8 why)]) 267 265 .no))) (.no))))) (tfk ((0 : Int) ≤ tx) (fun _ => (rnB nT nm o len i A j ([] ++ [0]) [(.int .u8 k), (.int .i64 th), (.int .i64 tx), (.int .i64 at_), (.int .i64 v), (.int .i64 x), (.int .u8 why)] 267 (wkBB hnm hA6 hb rfl rfl rfl (by decide) (by decide)))) (fun _ => (oF (by omega))))
set_option maxHeartbeats 8000000 in
theorem padC {B : Base} {F : Nat → Option (List AV)} (hc : CallSim Tryz.prog B (arunI Tryz.prog (fun _ => none) F 6)) (hl : ∀ t a, Local (arunI Tryz.prog (fun _ => none) F 6 t a)) {nm o len nT : Nat} {A : List (List Int)} {i k th tx at_ v x why : Int} {R : AV → AS → Prop} {j : Nat} {x0 : Int} {l0 : List Int} (hA6 : A.length ≤ 6) (hb : ∀ l ∈ A, l.length ≤ 6) (hnm : top ≤ nm) (hp : ((x0 :: l0).length : Int) ≤ tx) (htx : tx < 6) (hroom : 2 * ((x0 :: l0).length + 1) * 8 + 4096 * 8 ≤ room) (hsz : ((x0 :: l0).length + 1) * 1 ≤ top)
  (H : ∀ fr s p, CB nT (.rslice nm o len) len i A j ((x0 :: l0) ++ [0]) [(.int .u8 k), (.int .i64 th), (.int .i64 tx), (.int .i64 at_), (.int .i64 v), (.int .i64 x), (.int .u8 why)] fr s p → Sim Tryz.prog B 256 (Fin Tryz.prog Tryz.f7.results.toList R) fr s) : Sim Tryz.prog B 256 (Fin Tryz.prog Tryz.f7.results.toList R) (frB (slB nT (.rslice nm o len) len i (x0 :: l0))) (stOf (obB A j (x0 :: l0) [(.int .u8 k), (.int .i64 th), (.int .i64 tx), (.int .i64 at_), (.int .i64 v), (.int .i64 x), (.int .u8 why)]) 265) := by
 exact wp_cut envN_ok rfl AcS.hmix hc hl (Nat.le_refl _) rfl H 900 (.st 2 (.rg (.go 4 (.fk (.en (.st 3 (.rg (.go 2 (.ap Int encI (x0 :: l0) 0 (.go 1 (.en (.st 2 (.rn [(3, (.slice (some (256, 0)) (nT) (.known nT))), (5, (.ptr (some (263, 0)))), (6, (.slice (some (266, 0)) (((x0 :: l0) ++ [0]).length) (.atLeast ((x0 :: l0) ++ [0]).length 1))), (13, (.rslice nm o len)), (14, (.int .i64 (((len : Nat) : Int)))), (15, (.int .i64 i))] [(256, (some (rowT encV (cellsF 257 A)))), (257, (objB A j 0)), (258, (objB A j 1)), (259, (objB A j 2)), (260, (objB A j 3)), (261, (objB A j 4)), (262, (objB A j 5)), (263, some (.cells 7 (Tr.fill [(.int .u8 k), (.int .i64 th), (.int .i64 tx), (.int .i64 at_), (.int .i64 v), (.int .i64 x), (.int .u8 why)] 0 .nil) [])), (266, (some (rowT encI ((x0 :: l0) ++ [0]))))] (slB nT (.rslice nm o len) len i ((x0 :: l0) ++ [0])) (obB A j ((x0 :: l0) ++ [0]) [(.int .u8 k), (.int .i64 th), (.int .i64 tx), (.int .i64 at_), (.int .i64 v), (.int .i64 x), (.int .u8 why)]) 267 265 .no))))))))) (.no))))) (tfk ((((x0 :: l0).length : Nat) : Int) ≤ tx) (fun _ => (apI encI (x0 :: l0) 0 (K := 1) (by_ := 8) (fun x => ⟨rfl, rfl⟩) hroom hsz (rnB nT nm o len i A j ((x0 :: l0) ++ [0]) [(.int .u8 k), (.int .i64 th), (.int .i64 tx), (.int .i64 at_), (.int .i64 v), (.int .i64 x), (.int .u8 why)] 267 (wkBB hnm hA6 hb rfl rfl rfl (by simp) (by rw [List.length_append, List.length_singleton]; omega))))) (fun _ => (oF (by omega))))
set_option maxHeartbeats 8000000 in
theorem outB {B : Base} {F : Nat → Option (List AV)} (hc : CallSim Tryz.prog B (arunI Tryz.prog (fun _ => none) F 6)) (hl : ∀ t a, Local (arunI Tryz.prog (fun _ => none) F 6 t a)) {nm o len nT : Nat} {A : List (List Int)} {i k th tx at_ v x why : Int} {R : AV → AS → Prop} {x0 y : Int} {l0 L : List Int} (hA6 : A.length ≤ 6) (hb : ∀ l ∈ A, l.length ≤ 6) (hl6 : (x0 :: l0).length ≤ 6) (hlen : len ≤ 2000) (hi : 0 ≤ i ∧ i < (len : Int)) (hnm : top ≤ nm) (hA : A.length = nT) (hT : nT ≤ 6) (hlO : (cellsF 257 A).length * 1 ≤ top) (hlL : (x0 :: l0).length * 1 ≤ top) (hth : 0 ≤ th ∧ th < (nT : Int)) (hj : th.toNat < 6) (hAj : A[th.toNat]? = some L) (htx : 0 ≤ tx ∧ tx < ((x0 :: l0).length : Int)) (hy : (x0 :: l0)[tx.toNat]? = some y) (hy2 : 0 ≤ y ∧ y ≤ 4000)
  (H : ∀ fr s p, CA nT (.rslice nm o len) len (i + 1) (A.set th.toNat ((x0 :: l0).set tx.toNat (y + 1))) fr s p → Sim Tryz.prog B 256 (Fin Tryz.prog Tryz.f7.results.toList R) fr s) : Sim Tryz.prog B 256 (Fin Tryz.prog Tryz.f7.results.toList R) (frB (slB nT (.rslice nm o len) len i (x0 :: l0))) (stOf (obB A th.toNat (x0 :: l0) [(.int .u8 k), (.int .i64 th), (.int .i64 tx), (.int .i64 at_), (.int .i64 v), (.int .i64 x), (.int .u8 why)]) 265) := by
 exact wp_cut envN_ok rfl AcS.hmix hc hl (Nat.le_refl _) rfl H 900 (.st 2 (.rg (.go 4 (.fk (.no) (.en (.st 3 (.rg (.go 3 (.ix (.ld [(.int .i64 y)] (.vl (.int .i64 (y + 1)) (.ix (.stc (rowT encI ((x0 :: l0).set tx.toNat (y + 1))) (.en (.rg (.go 4 (.ix (.stc (rowT encV ((cellsF 257 A).set th.toNat (.slice (some (264, 0)) ((x0 :: l0).length) (.atLeast (x0 :: l0).length 1)))) (.en (.st 1 (.rg (.vl (.int .i64 (i + 1)) (.go 1 (.en (.st 1 (.rn [(3, (.slice (some (256, 0)) (nT) (.known nT))), (13, (.rslice nm o len)), (14, (.int .i64 (((len : Nat) : Int)))), (15, (.int .i64 ((i + 1))))] [(256, (some (rowT encV ((cellsF 257 A).set th.toNat (.slice (some (264, 0)) ((x0 :: l0).length) (.atLeast (x0 :: l0).length 1)))))), (257, (objB A th.toNat 0)), (258, (objB A th.toNat 1)), (259, (objB A th.toNat 2)), (260, (objB A th.toNat 3)), (261, (objB A th.toNat 4)), (262, (objB A th.toNat 5)), (264, (some (rowT encI ((x0 :: l0).set tx.toNat (y + 1)))))] (slA nT (.rslice nm o len) len (i + 1)) (obA (A.set th.toNat ((x0 :: l0).set tx.toNat (y + 1)))) 265 263 .no)))))))))))))))))))))))))) (tfk ((((x0 :: l0).length : Nat) : Int) ≤ tx) (fun _ => (oF (by omega))) (fun _ => (ax tx (((x0 :: l0).length : Nat) : Int) (by omega) (by omega) (id (And.intro (row_ld okI.len hlL hy 0 1 rfl) (w_i64 (y + 1) (by omega) (ax tx (((x0 :: l0).length : Nat) : Int) (by omega) (by omega) (id (And.intro (row_st okI.len hlL hy (c' := (y + 1)) (r := [(.int .i64 ((y + 1)))]) 0 rfl rfl rfl) (ax th ((nT : Nat) : Int) (by omega) (by omega) (id (And.intro (row_st lenV hlO (cellsF_at hAj) (c' := (.slice (some (264, 0)) ((x0 :: l0).length) (.atLeast (x0 :: l0).length 1))) (r := [(.slice (some (264, 0)) ((x0 :: l0).length) (.atLeast (x0 :: l0).length 1))]) 0 rfl rfl rfl) (w_i64 (i + 1) (by omega) (rnA nT nm o len (i + 1) (A.set th.toNat ((x0 :: l0).set tx.toNat (y + 1))) 265 (wkBA hnm hA6 hb hAj hj (fun h => by have := congrArg List.length h; simp at this) (by rw [List.length_set]; exact hl6) (by rw [List.length_set]) (by decide) (low 265))))))))))))))))
end AcU
namespace AcV
open AcS AcW AcT AcY AcZ Go.Proofs.YtbnjeblcleihkaaGreatDoor.auditCounted
def RA (nT : Nat) (A : List (List Int)) : AV → AS → Prop := fun y s => y = .slice (some (256, 0)) nT (.known nT) ∧ s.h = hpOf (obA A) ∧ s.nx = 263
theorem exI (nT : Nat) (A : List (List Int)) : RA nT A (.slice (some (256, 0)) nT (.known nT)) (stOf (obA A) 263) := ⟨rfl, rfl, rfl⟩
theorem rnS (nT : Nat) (a : AV) (A : List (List Int)) {i : Int} {len : Nat} (snx : Nat) {l0 : List (Nat × AV)} {o0 : List (Nat × Option AObj)} (hw : Weak 256 snx l0 o0 (slA nT a len i) (obA A) 263) : l0.map (fun q => some q.2) = l0.map (fun q => some q.2) ∧ o0.map (fun q => q.2) = o0.map (fun q => q.2) ∧ Weak 256 snx l0 o0 (slA nT a len i) (obA A) 263 ∧ CA nT a len i A (frA (slA nT a len i)) (stOf (obA A) 263) .no := ⟨rfl, rfl, hw, rfl, rfl⟩
set_option maxHeartbeats 8000000 in
theorem exit {B : Base} {F : Nat → Option (List AV)} (hc : CallSim Tryz.prog B (arunI Tryz.prog (fun _ => none) F 6)) (hl : ∀ t a, Local (arunI Tryz.prog (fun _ => none) F 6 t a)) {len nT : Nat} {A : List (List Int)} {i : Int} {a : AV} (hi : (len : Int) ≤ i) : Sim Tryz.prog B 256 (Fin Tryz.prog Tryz.f7.results.toList (RA nT A)) (frA (slA nT a len i)) (stOf (obA A) 263) := by
 exact wp_sim envN_ok rfl AcS.hmix hc hl 900 (.st 1 (.rg (.fk (.no) (.en (.rt 6 .no)))))
  (tfk (i < ((len : Nat) : Int)) (fun h1 => (show False by omega))
  (fun h1 => (exI nT A)))
noncomputable def pl_start {n : Nat} (_ : n < 7) (nm : Nat) (o : Nat) (len : Nat) : Pl := (.st 9 (.rn [(3, (.slice (some (257, 0)) (n) (.known n))), (13, (.rslice nm o len)), (14, (.int .i64 (((len : Nat) : Int)))), (15, (.int .i64 (.ofNat 0)))] [(257, (some (.cells n .nil [(.slice none 0 (.known 0))])))] (slA n (.rslice nm o len) len 0) (obA (List.replicate n [])) 258 263 .no))
set_option maxHeartbeats 8000000 in
theorem start {n : Nat} {B : Base} {F : Nat → Option (List AV)} (hc : CallSim Tryz.prog B (arunI Tryz.prog (fun _ => none) F 6)) (hl : ∀ t a, Local (arunI Tryz.prog (fun _ => none) F 6 t a)) (h6 : n < 7) {nm o len : Nat} {V S : Int} {R : AV → AS → Prop} (hnm : top ≤ nm)
  (H : ∀ fr s p, CA n (.rslice nm o len) len 0 (List.replicate n []) fr s p → Sim Tryz.prog B 256 (Fin Tryz.prog Tryz.f7.results.toList R) fr s) : Sim Tryz.prog B 256 (Fin Tryz.prog Tryz.f7.results.toList R) ⟨7, fillArgs [(.agg [(.int .i64 (.ofNat n)), (.int .i64 (V)), (.int .i64 (S)), (.rslice nm o len)])], 71, [.code (cAt Tryz.prog 7 [])], [], none⟩ (stOf [] 256) := by
  have T := (rnS n (.rslice nm o len) (List.replicate n []) (i := 0) (len := len) 258 (wkS (fun r h => VEnt.rslice (h nm hnm)) (by omega) (by decide) (low 258) rfl))
  obtain rfl | rfl | rfl | rfl | rfl | rfl | rfl : n = 0 ∨ n = 1 ∨ n = 2 ∨ n = 3 ∨ n = 4 ∨ n = 5 ∨ n = 6 := by omega
  all_goals exact wp_cut envN_ok rfl AcS.hmix hc hl (Nat.le_refl _) rfl H 900 (pl_start h6 nm o len) T
noncomputable def pl_startn {n : Nat} (_ : n < 7)  : Pl := (.st 9 (.rn [(3, (.slice (some (257, 0)) (n) (.known n))), (13, (.slice none 0 (.known 0))), (14, (.int .i64 (.ofNat 0))), (15, (.int .i64 (.ofNat 0)))] [(257, (some (.cells n .nil [(.slice none 0 (.known 0))])))] (slA n (.slice none 0 (.known 0)) 0 0) (obA (List.replicate n [])) 258 263 .no))
set_option maxHeartbeats 8000000 in
theorem startn {n : Nat} {B : Base} {F : Nat → Option (List AV)} (hc : CallSim Tryz.prog B (arunI Tryz.prog (fun _ => none) F 6)) (hl : ∀ t a, Local (arunI Tryz.prog (fun _ => none) F 6 t a)) (h6 : n < 7) {V S : Int} {R : AV → AS → Prop} 
  (H : ∀ fr s p, CA n (.slice none 0 (.known 0)) 0 0 (List.replicate n []) fr s p → Sim Tryz.prog B 256 (Fin Tryz.prog Tryz.f7.results.toList R) fr s) : Sim Tryz.prog B 256 (Fin Tryz.prog Tryz.f7.results.toList R) ⟨7, fillArgs [(.agg [(.int .i64 (.ofNat n)), (.int .i64 (V)), (.int .i64 (S)), (.slice none 0 (.known 0))])], 71, [.code (cAt Tryz.prog 7 [])], [], none⟩ (stOf [] 256) := by
  have T := (rnS n (.slice none 0 (.known 0)) (List.replicate n []) (i := 0) (len := 0) 258 (wkS (fun r h => VEnt.nilslice) (by omega) (by decide) (low 258) rfl))
  obtain rfl | rfl | rfl | rfl | rfl | rfl | rfl : n = 0 ∨ n = 1 ∨ n = 2 ∨ n = 3 ∨ n = 4 ∨ n = 5 ∨ n = 6 := by omega
  all_goals exact wp_cut envN_ok rfl AcS.hmix hc hl (Nat.le_refl _) rfl H 900 (pl_startn h6) T
end AcV
namespace AcQ
open AcS AcW AcT AcY AcZ AcU AcV AcL Go.Proofs.YtbnjeblcleihkaaGreatDoor.auditCounted
def triesA (nT : Nat) (l : List Ev) : List (List Int) := (List.range nT).map fun n : Nat => triesL (n : Int) l
theorem triesA_len {nT : Nat} {l : List Ev} : (triesA nT l).length = nT := by simp [triesA]
theorem triesA_nil (nT : Nat) : triesA nT [] = List.replicate nT [] := by
  unfold triesA
  rw [List.eq_replicate_iff]
  refine ⟨by simp, fun b hb => ?_⟩
  obtain ⟨n, _, rfl⟩ := List.mem_map.1 hb
  rfl
theorem triesA_get {nT n : Nat} {l : List Ev} (h : n < nT) : (triesA nT l)[n]? = some (triesL (n : Int) l) := by
  unfold triesA
  rw [List.getElem?_map, List.getElem?_range h]; rfl
/-- Of one thread's tries. -/
def Small (m : Nat) (l : List Int) : Prop := l.length ≤ 6 ∧ ∀ x ∈ l, 0 ≤ x ∧ x ≤ (m : Int)
theorem Small.pad {m : Nat} {l : List Int} (h : Small m l) {k : Nat} (hk : l.length + k ≤ 6) : Small m (l ++ List.replicate k 0) := by
  refine ⟨by simp; omega, fun x hx => ?_⟩
  rcases List.mem_append.1 hx with hx | hx
  · exact h.2 x hx
  · have := (List.mem_replicate.1 hx).2
    subst this; omega
theorem Small.set {m : Nat} {l : List Int} (h : Small m l) {k : Nat} {y : Int} (hy : l[k]? = some y) : Small (m + 1) (l.set k (y + 1)) := by
  refine ⟨by rw [List.length_set]; exact h.1, fun x hx => ?_⟩
  rcases List.mem_or_eq_of_mem_set hx with hx | hx
  · have := h.2 x hx; omega
  · have := h.2 y (List.mem_of_getElem? hy)
    subst hx; omega
theorem Small.bump {m : Nat} {l : List Int} (h : Small m l) {tx : Nat} (ht : tx < 6) : Small (m + 1) (bumpL l tx) := by
  have hp : Small m (l ++ List.replicate (tx + 1 - l.length) 0) := h.pad (by have := h.1; omega)
  have hlt : tx < (l ++ List.replicate (tx + 1 - l.length) 0).length := by simp; omega
  obtain ⟨y, hy⟩ := getEx hlt
  have e : bumpL l tx = (l ++ List.replicate (tx + 1 - l.length) 0).set tx ((l ++ List.replicate (tx + 1 - l.length) 0).getD tx 0 + 1) := rfl
  have e2 : List.getD (l ++ List.replicate (tx + 1 - l.length) 0) tx 0 = y := by rw [List.getD_eq_getElem?_getD, hy]; rfl
  rw [e, e2]
  exact hp.set hy
theorem small_fold (n : Int) : ∀ (l : List Ev) (a : List Int) (m : Nat), Small m a → Small (m + l.length) (l.foldl (triesF n) a)
  | [], a, m, h => h
  | e :: l, a, m, h => by
    have h1 : Small (m + 1) (triesF n a e) := by
      unfold triesF
      by_cases q : e.kind = 1 ∧ e.thread = n ∧ 0 ≤ e.tx ∧ e.tx < 6
      · rw [if_pos q]; exact h.bump (by omega)
      · rw [if_neg q]
        exact ⟨h.1, fun x hx => by have := h.2 x hx; omega⟩
    have h2 := small_fold n l _ _ h1
    rw [List.length_cons, show m + (l.length + 1) = m + 1 + l.length by omega]
    exact h2
theorem triesL_small (n : Int) (l : List Ev) : Small l.length (triesL n l) := by
  have := small_fold n l [] 0 ⟨by decide, fun x hx => by cases hx⟩
  rw [Nat.zero_add] at this
  exact this
theorem triesA_mem {nT : Nat} {l : List Ev} {x : List Int} (h : x ∈ triesA nT l) : Small l.length x := by
  obtain ⟨n, _, rfl⟩ := List.mem_map.1 h
  exact triesL_small _ _
theorem triesA_skip {nT : Nat} {l : List Ev} {e : Ev} (h : ¬ (e.kind = 1 ∧ 0 ≤ e.thread ∧ e.thread < (nT : Int) ∧ 0 ≤ e.tx ∧ e.tx < 6)) : triesA nT (l ++ [e]) = triesA nT l := by
  unfold triesA
  refine List.map_congr_left fun n hn => ?_
  have := List.mem_range.1 hn
  rw [triesL_snoc]
  unfold triesF
  rw [if_neg fun q => h ⟨q.1, by omega, by omega, q.2.2.1, q.2.2.2⟩]
theorem triesA_set {nT : Nat} {l : List Ev} {e : Ev} (h : e.kind = 1 ∧ 0 ≤ e.thread ∧ e.thread < (nT : Int) ∧ 0 ≤ e.tx ∧ e.tx < 6) : triesA nT (l ++ [e]) = (triesA nT l).set e.thread.toNat (bumpL (triesL ((e.thread.toNat : Nat) : Int) l) e.tx.toNat) := by
  have hth : ((e.thread.toNat : Nat) : Int) = e.thread := Int.toNat_of_nonneg h.2.1
  refine List.ext_getElem? fun k => ?_
  by_cases hk : k < nT
  · rw [triesA_get hk, triesL_snoc]
    unfold triesF
    by_cases q : e.thread.toNat = k
    · subst q
      rw [List.getElem?_set_self (by rw [triesA_len]; exact hk), if_pos ⟨h.1, hth.symm, h.2.2.2⟩]
    · rw [List.getElem?_set_ne q, triesA_get hk, if_neg fun p => q (by omega)]
  · rw [List.getElem?_eq_none (by rw [triesA_len]; omega), List.getElem?_eq_none (by rw [List.length_set, triesA_len]; omega)]
section
variable {B : Base} {F : Nat → Option (List AV)}
/-- As many 0s as are wanting. -/
theorem pads (hc : CallSim Tryz.prog B (arunI Tryz.prog (fun _ => none) F 6)) (hl : ∀ t a, Local (arunI Tryz.prog (fun _ => none) F 6 t a)) {nm o len nT j : Nat} {A : List (List Int)} {i k th tx at_ v x why : Int} {R : AV → AS → Prop} (hA6 : A.length ≤ 6) (hb : ∀ l ∈ A, l.length ≤ 6) (hnm : top ≤ nm) (h0 : 0 ≤ tx) (htx : tx < 6) :
    ∀ (m : Nat) (L : List Int), m = tx.toNat + 1 - L.length → L.length ≤ 6 →
      Sim Tryz.prog B 256 (Fin Tryz.prog Tryz.f7.results.toList R) (frB (slB nT (.rslice nm o len) len i (L ++ List.replicate m 0))) (stOf (obB A j (L ++ List.replicate m 0) [.int .u8 k, .int .i64 th, .int .i64 tx, .int .i64 at_, .int .i64 v, .int .i64 x, .int .u8 why]) 265) →
      Sim Tryz.prog B 256 (Fin Tryz.prog Tryz.f7.results.toList R) (frB (slB nT (.rslice nm o len) len i L)) (stOf (obB A j L [.int .u8 k, .int .i64 th, .int .i64 tx, .int .i64 at_, .int .i64 v, .int .i64 x, .int .u8 why]) 265) := by
  intro m
  induction m with
  | zero =>
    intro L _ _ H
    rw [List.replicate_zero, List.append_nil] at H
    exact H
  | succ m ih =>
    intro L hm hL H
    have H' : Sim Tryz.prog B 256 (Fin Tryz.prog Tryz.f7.results.toList R) (frB (slB nT (.rslice nm o len) len i (L ++ [0]))) (stOf (obB A j (L ++ [0]) [.int .u8 k, .int .i64 th, .int .i64 tx, .int .i64 at_, .int .i64 v, .int .i64 x, .int .u8 why]) 265) := by
      refine ih (L ++ [0]) (by rw [List.length_append, List.length_singleton]; omega) (by rw [List.length_append, List.length_singleton]; omega) ?_
      rw [List.append_assoc, show ([0] : List Int) ++ List.replicate m 0 = List.replicate (m + 1) 0 from rfl]
      exact H
    cases L with
    | nil =>
      exact padN hc hl (k := k) (x0 := 0) (l0 := []) hA6 hb hnm (by simpa using h0) htx fun fr s p h => by
        obtain ⟨rfl, rfl⟩ := h; exact H'
    | cons x0 l0 =>
      exact padC hc hl (k := k) hA6 hb hnm (by omega) htx (by unfold room; omega) (by unfold top; omega) fun fr s p h => by
        obtain ⟨rfl, rfl⟩ := h; exact H'
/-- One event. -/
theorem round (hc : CallSim Tryz.prog B (arunI Tryz.prog (fun _ => none) F 6)) (hl : ∀ t a, Local (arunI Tryz.prog (fun _ => none) F 6 t a)) {nm o len nT i : Nat} {l : List Ev} {e : Ev} {R : AV → AS → Prop} (hlen : len ≤ 2000) (hi : i < len) (hli : l.length = i) (hnm : top ≤ nm) (hT : nT ≤ 6)
    (hev : frzAt F nm (o + i * 7) 7 = some (evCells e)) (H : Sim Tryz.prog B 256 (Fin Tryz.prog Tryz.f7.results.toList R) (frA (slA nT (.rslice nm o len) len ((i + 1 : Nat) : Int))) (stOf (obA (triesA nT (l ++ [e]))) 263)) :
    Sim Tryz.prog B 256 (Fin Tryz.prog Tryz.f7.results.toList R) (frA (slA nT (.rslice nm o len) len (i : Int))) (stOf (obA (triesA nT l)) 263) := by
  have hA : (triesA nT l).length = nT := triesA_len
  have hA6 : (triesA nT l).length ≤ 6 := by omega
  have hb : ∀ x ∈ triesA nT l, x.length ≤ 6 := fun x hx => (triesA_mem hx).1
  have hin : 0 ≤ (i : Int) ∧ (i : Int) < (len : Int) := by omega
  have hlO : (cellsF 257 (triesA nT l)).length * 1 ≤ top := by rw [cellsF_len]; unfold top; omega
  by_cases q : e.kind = 1 ∧ 0 ≤ e.thread ∧ e.thread < (nT : Int) ∧ 0 ≤ e.tx ∧ e.tx < 6
  · have hth : e.thread.toNat < nT := by omega
    have hAt := triesA_get (l := l) hth
    have hth6 : e.thread.toNat < 6 := by omega
    have hsm := triesL_small ((e.thread.toNat : Nat) : Int) l
    rw [triesA_set q] at H
    obtain ⟨k, th, tx, at_, v, x, why⟩ := e
    dsimp only at q hth hAt hsm H hth6
    refine into hc hl hA6 hb hlen hin hnm hA hT hlO hev q hth6 hAt fun fr s p h => ?_
    obtain ⟨rfl, rfl⟩ := h
    refine pads hc hl hA6 hb hnm q.2.2.2.1 q.2.2.2.2 _ _ rfl hsm.1 ?_
    generalize hL : triesL ((th.toNat : Nat) : Int) l = L at *
    have hp : Small l.length (L ++ List.replicate (tx.toNat + 1 - L.length) 0) := hsm.pad (by have := hsm.1; omega)
    have hlt : tx.toNat < (L ++ List.replicate (tx.toNat + 1 - L.length) 0).length := by simp; omega
    have hbump : bumpL L tx.toNat = (L ++ List.replicate (tx.toNat + 1 - L.length) 0).set tx.toNat ((L ++ List.replicate (tx.toNat + 1 - L.length) 0).getD tx.toNat 0 + 1) := rfl
    rw [hbump] at H
    generalize L ++ List.replicate (tx.toNat + 1 - L.length) 0 = M at *
    obtain ⟨y, hy⟩ := getEx hlt
    rw [show M.getD tx.toNat 0 = y by rw [List.getD_eq_getElem?_getD, hy]; rfl] at H
    have hyb := hp.2 y (List.mem_of_getElem? hy)
    cases M with
    | nil => simp at hlt
    | cons x0 l0 =>
      exact outB hc hl (k := k) (at_ := at_) hA6 hb hp.1 hlen hin hnm hA hT hlO (by have := hp.1; unfold top; omega) ⟨q.2.1, q.2.2.1⟩ hth6 hAt ⟨q.2.2.2.1, by omega⟩ hy ⟨hyb.1, by omega⟩ fun fr s p h => by
        obtain ⟨rfl, rfl⟩ := h; exact H
  · rw [triesA_skip q] at H
    obtain ⟨k, th, tx, at_, v, x, why⟩ := e
    exact skip hc hl hA6 hb hlen hin hnm hA hT hlO hev q fun fr s p h => by
      obtain ⟨rfl, rfl⟩ := h; exact H
/-- All events. -/
theorem rounds (hc : CallSim Tryz.prog B (arunI Tryz.prog (fun _ => none) F 6)) (hl : ∀ t a, Local (arunI Tryz.prog (fun _ => none) F 6 t a)) {nm o len nT : Nat} {evs : List Ev} (hlen : evs.length = len) (hmax : len ≤ 2000) (hnm : top ≤ nm) (hT : nT ≤ 6)
    (hrow : ∀ (j : Nat) e, evs[j]? = some e → frzAt F nm (o + j * 7) 7 = some (evCells e)) : ∀ (m i : Nat), i + m = len →
    Sim Tryz.prog B 256 (Fin Tryz.prog Tryz.f7.results.toList (RA nT (triesA nT evs))) (frA (slA nT (.rslice nm o len) len (i : Int))) (stOf (obA (triesA nT (evs.take i))) 263) := by
  intro m
  induction m with
  | zero =>
    intro i hi
    have e : i = len := by omega
    subst e
    rw [← hlen, List.take_length]
    exact exit hc hl (by omega)
  | succ m ih =>
    intro i hi
    obtain ⟨e, he⟩ := getEx (l := evs) (n := i) (by omega)
    have htake : evs.take (i + 1) = evs.take i ++ [e] := by
      rw [List.take_add_one, he]; rfl
    have := ih (i + 1) (by omega)
    rw [htake] at this
    exact round hc hl hmax (by omega) (by rw [List.length_take]; omega) hnm hT (hrow i e he) this
end
end AcQ
namespace AcG
open AcS AcW AcT AcY AcZ AcU AcV AcL AcQ Go.Proofs.YtbnjeblcleihkaaGreatDoor.auditCounted
noncomputable section
def outT (nT : Nat) (A : List (List Int)) : OutM := ⟨7, fun b => .slice (some (b, 0)) nT (.known nT), fun b => [some (rowT encV (cellsF (b + 1) A)), objL (A.getD 0 []), objL (A.getD 1 []), objL (A.getD 2 []), objL (A.getD 3 []), objL (A.getD 4 []), objL (A.getD 5 [])]⟩
inductive TrR (F : Nat → Option (List AV)) : List AV → OutM → Prop
  | row (T : Nat) (V S : Int) (nm o len : Nat) (evs : List Ev) : T ≤ 6 → len ≤ 2000 → top ≤ nm → evs.length = len → (∀ (j : Nat) e, evs[j]? = some e → frzAt F nm (o + j * 7) 7 = some (evCells e)) → TrR F [.agg [.int .i64 (Int.ofNat T), .int .i64 V, .int .i64 S, .rslice nm o len]] (outT T (triesA T evs))
  | nil (T : Nat) (V S : Int) : T ≤ 6 → TrR F [.agg [.int .i64 (Int.ofNat T), .int .i64 V, .int .i64 S, .slice none 0 (.known 0)]] (outT T (triesA T []))
open Classical in
def triesV (F : Nat → Option (List AV)) (args : List AV) : Option OutM := if h : ∃ o, TrR F args o then some h.choose else none
end
theorem triesV_inv {F : Nat → Option (List AV)} {args : List AV} {o : OutM} (h : triesV F args = some o) : TrR F args o := by
  unfold triesV at h
  split at h
  · rename_i q
    injection h with h
    rw [← h]; exact q.choose_spec
  · cases h
theorem evCells_inj {e e' : Ev} (h : evCells e = evCells e') : e = e' := by
  obtain ⟨a, b, c, d, f, g, i⟩ := e
  obtain ⟨a', b', c', d', f', g', i'⟩ := e'
  simp only [evCells, List.cons.injEq, AV.int.injEq, true_and, _root_.and_true] at h
  obtain ⟨rfl, rfl, rfl, rfl, rfl, rfl, rfl⟩ := h
  rfl
theorem TrR.det {F : Nat → Option (List AV)} {args : List AV} {o o' : OutM} (h : TrR F args o) (h' : TrR F args o') : o = o' := by
  cases h with
  | row T V S nm f len evs h1 h2 h3 h4 h5 =>
    generalize hx : ([.agg [.int .i64 (Int.ofNat T), .int .i64 V, .int .i64 S, .rslice nm f len]] : List AV) = x at h'
    cases h' with
    | row T' V' S' nm' f' len' evs' k1 k2 k3 k4 k5 =>
      simp only [List.cons.injEq, AV.agg.injEq, AV.int.injEq, AV.rslice.injEq, Int.ofNat_eq_natCast, Int.natCast_inj, true_and, _root_.and_true] at hx
      obtain ⟨rfl, rfl, rfl, rfl, rfl, rfl⟩ := hx
      have e : evs = evs' := by
        refine List.ext_getElem? fun j => ?_
        by_cases q : j < evs.length
        · obtain ⟨a, ha⟩ := getEx q
          obtain ⟨b, hb⟩ := getEx (l := evs') (n := j) (by omega)
          have q1 := h5 j a ha
          have q2 := k5 j b hb
          rw [q1] at q2; injection q2 with q2
          rw [ha, hb, evCells_inj q2]
        · rw [List.getElem?_eq_none (by omega), List.getElem?_eq_none (by omega)]
      rw [e]
    | nil T' V' S' k1 => simp at hx
  | nil T V S h1 =>
    generalize hx : ([.agg [.int .i64 (Int.ofNat T), .int .i64 V, .int .i64 S, .slice none 0 (.known 0)]] : List AV) = x at h'
    cases h' with
    | row T' V' S' nm' f' len' evs' k1 k2 k3 k4 k5 => simp at hx
    | nil T' V' S' k1 =>
      simp only [List.cons.injEq, AV.agg.injEq, AV.int.injEq, Int.ofNat_eq_natCast, Int.natCast_inj, true_and, _root_.and_true] at hx
      obtain ⟨rfl, _, _⟩ := hx
      rfl
theorem triesV_ok {F : Nat → Option (List AV)} {args : List AV} {o : OutM} (h : TrR F args o) : triesV F args = some o := by
  have q : ∃ o, TrR F args o := ⟨o, h⟩
  unfold triesV
  rw [dif_pos q]
  rw [TrR.det q.choose_spec h]
theorem cellL_vr {ρ σ : Ren} {n m : Nat} {L : List Int} (h : ρ n = σ m) {v : Value} (k : VR σ (cellL m L) v) : VR ρ (cellL n L) v := by
  cases L with
  | nil =>
    have := VEnt.nilslice (r := id) σ v k
    simp only [cellL, VR] at k ⊢
    exact k
  | cons x l =>
    simp only [cellL, VR] at k ⊢
    rw [h]; exact k
theorem objL_or {ρ σ : Ren} {N : Nat} {L : List Int} {y : AObj} {ob : Obj} (h : objL L = some y) (hl : L.length ≤ top) (k : OR σ N y ob) : OR ρ N y ob := by
  cases L with
  | nil => cases h
  | cons x l =>
    injection h with h
    subst h
    exact OR.rows okI.flat (by rw [rows_len okI.len]; omega) k
theorem row_or {ρ σ : Ren} {N b : Nat} {A : List (List Int)} {ob : Obj} (hA : A.length ≤ 6) (h : ∀ j, j < 7 → ρ (b + j) = σ (256 + j)) (k : OR σ N (rowT encV (cellsF 257 A)) ob) : OR ρ N (rowT encV (cellsF (b + 1) A)) ob := by
  unfold rowT at k ⊢
  rw [flatV] at k ⊢
  obtain ⟨c, e, rfl, k1, k2, k3⟩ := k
  refine ⟨c, e, rfl, k1, by rw [cellsF_len] at k2 ⊢; exact k2, fun m hm => ?_⟩
  rw [cellsF_len] at hm
  obtain ⟨L, hL⟩ := getEx hm
  obtain ⟨x, v, a1, a2, a3, a4⟩ := k3 m (by rw [cellsF_len]; exact hm)
  have g : ∀ b, cellAt (Tr.fill (cellsF b A) 0 .nil) [] m = some (cellL (b + m) L) := fun b => by
    unfold cellAt
    rw [fill_get _ (by rw [cellsF_len]; unfold top; omega) m (by rw [cellsF_len]; exact hm), cellsF_at hL]
  rw [g] at a1
  injection a1 with a1
  subst a1
  refine ⟨cellL (b + 1 + m) L, v, g _, cellL_one _ _, a3, cellL_vr ?_ a4⟩
  have := h (1 + m) (by omega)
  rw [show b + 1 + m = b + (1 + m) by omega, show 257 + m = 256 + (1 + m) by omega]
  exact this
theorem outT_ok {nT : Nat} {A : List (List Int)} (hA : A.length ≤ 6) (hb : ∀ l ∈ A, l.length ≤ 6) : (outT nT A).Ok := by
  have hr : ∀ k, (A.getD k []).length ≤ top := fun k => obA_len (nT := nT) hb
  refine ⟨fun b => rfl, fun b x hx => ?_, fun b ρ σ h v k => ?_, fun b ρ σ h j y hy => ?_⟩
  · simp only [outT, List.mem_cons, List.not_mem_nil, or_false] at hx
    rcases hx with hx | hx | hx | hx | hx | hx | hx
    · injection hx with hx; subst hx
      exact ⟨(rowV_ent (r := id) (c := cellsF (b + 1) A) (by rw [cellsF_len]; unfold top; omega) (cellsF_ents fun _ _ _ => rfl) (cellsF_one _ _)) |> fun _ => rfl, rfl⟩
    all_goals exact ⟨(objL_row (r := id) hx.symm (hr _)).1, (objL_row (r := id) hx.symm (hr _)).2.1⟩
  · have h0 := h 0 (by show 0 < 7; decide)
    simp only [outT, VR] at k ⊢
    rw [show ρ b = σ 256 from h0]; exact k
  · have hj : j < 7 := by
      have := (List.getElem?_eq_some_iff.1 hy).1
      exact this
    have hc : j = 0 ∨ j = 1 ∨ j = 2 ∨ j = 3 ∨ j = 4 ∨ j = 5 ∨ j = 6 := by omega
    rcases hc with rfl | rfl | rfl | rfl | rfl | rfl | rfl
    · have hy : some (some (rowT encV (cellsF (b + 1) A))) = some (some y) := hy
      injection hy with hy; injection hy with hy; subst hy
      exact ⟨_, rfl, fun N ob k => row_or hA h k⟩
    · have hy' : objL (A.getD 0 []) = some y := by injection hy
      exact ⟨y, hy, fun N ob k => objL_or hy' (hr _) k⟩
    · have hy' : objL (A.getD 1 []) = some y := by injection hy
      exact ⟨y, hy, fun N ob k => objL_or hy' (hr _) k⟩
    · have hy' : objL (A.getD 2 []) = some y := by injection hy
      exact ⟨y, hy, fun N ob k => objL_or hy' (hr _) k⟩
    · have hy' : objL (A.getD 3 []) = some y := by injection hy
      exact ⟨y, hy, fun N ob k => objL_or hy' (hr _) k⟩
    · have hy' : objL (A.getD 4 []) = some y := by injection hy
      exact ⟨y, hy, fun N ob k => objL_or hy' (hr _) k⟩
    · have hy' : objL (A.getD 5 []) = some y := by injection hy
      exact ⟨y, hy, fun N ob k => objL_or hy' (hr _) k⟩
theorem outG_T {nT : Nat} {A : List (List Int)} : (outG (outT nT A)).h = hpOf (obA A) := by kernel_rfl
theorem R_T {nT : Nat} {A : List (List Int)} : (fun (y : AV) (s : AS) => y = (outT nT A).val 256 ∧ s.h = (outG (outT nT A)).h ∧ s.nx = 256 + (outT nT A).n) = RA nT A := by kernel_rfl
theorem tries_H {B : Base} {F : Nat → Option (List AV)} (hc : CallSim Tryz.prog B (arunI Tryz.prog (fun _ => none) F 6)) (hl : ∀ t a, Local (arunI Tryz.prog (fun _ => none) F 6 t a)) {args : List AV} {o : OutM} (h : TrR F args o) : max Tryz.f7.ntmps args.length ≤ top ∧
    Sim Tryz.prog B 256 (Fin Tryz.prog Tryz.f7.results.toList fun y s => y = o.val 256 ∧ s.h = (outG o).h ∧ s.nx = 256 + o.n) ⟨7, fillArgs args, max Tryz.f7.ntmps args.length, [.code (cAt Tryz.prog 7 [])], [], none⟩ (stOf [] 256) := by
  cases h with
  | row T V S nm f len evs h1 h2 h3 h4 h5 =>
    refine ⟨ble_true.1 (by as_aux_lemma => kernel_rfl), ?_⟩
    rw [R_T]
    have H : ∀ nT : Nat, nT ≤ 6 → Sim Tryz.prog B 256 (Fin Tryz.prog Tryz.f7.results.toList (RA nT (triesA nT evs))) (frA (slA nT (.rslice nm f len) len 0)) (stOf (obA (List.replicate nT [])) 263) := by
      intro nT hT
      have := rounds hc hl h4 h2 h3 hT h5 len 0 (by omega)
      rw [List.take_zero, triesA_nil] at this
      exact this
    refine start hc hl (by omega) h3 fun fr s p hC => ?_
    obtain ⟨rfl, rfl⟩ := hC
    exact H _ (by omega)
  | nil T V S h1 =>
    refine ⟨ble_true.1 (by as_aux_lemma => kernel_rfl), ?_⟩
    rw [R_T]
    have H : ∀ nT : Nat, nT ≤ 6 → Sim Tryz.prog B 256 (Fin Tryz.prog Tryz.f7.results.toList (RA nT (triesA nT []))) (frA (slA nT (.slice none 0 (.known 0)) 0 0)) (stOf (obA (List.replicate nT [])) 263) := by
      intro nT hT
      rw [triesA_nil]
      exact exit hc hl (by omega)
    refine startn hc hl (by omega) fun fr s p hC => ?_
    obtain ⟨rfl, rfl⟩ := hC
    exact H _ (by omega)
theorem gen_all {P : Program} {F : Nat → Option (List AV)} {sp sp' : Sp} {g : FuncId} {fn : Func} {body : Code} {f : List AV → Option OutM} (hP : ProgOk P) (hfin : FinF F) (h : SpAll P F sp) (h' : SpAll P F sp') (hfn : P.funcs[g]? = some fn) (hbody : fn.body = some body) (hname : (fn.name == "runtime.NumGoroutine") = false)
    (hok : ∀ args o, f args = some o → o.Ok ∧ 256 + o.n ≤ top)
    (H : ∀ (B : Base) (args : List AV) (o : OutM), B.F = F → CallSim P B (arunI P sp' F 6) → (∀ t a, Local (arunI P sp' F 6 t a)) → f args = some o → max fn.ntmps args.length ≤ top ∧
      Sim P B 256 (Fin P fn.results.toList fun y s => y = o.val 256 ∧ s.h = (outG o).h ∧ s.nx = 256 + o.n) ⟨g, fillArgs args, max fn.ntmps args.length, [.code body], [], none⟩ (stOf [] 256)) : SpAll P F (updS sp g (genM F f)) := by
  refine h.upd (fun call _ args => Local.genM F f call args) fun B hB call hc hl args x s s1 ρ w vs fi r hg hf hm hv => ?_
  subst hB
  refine genM_sim hP hfn hbody hname hfin hok (fun B' args o hB' ho => ?_) r hg fi hf hm hv
  have hc' := arunI_sim hP (h' B' hB') hB' 6
  have hl' := local_arunI P (h' B' hB') B.F 6
  exact H B' args o hB' hc' hl' ho
theorem TrR.ok {F : Nat → Option (List AV)} {args : List AV} {o : OutM} (h : TrR F args o) : o.Ok ∧ 256 + o.n ≤ top := by
  cases h with
  | row T V S nm f len evs h1 h2 h3 h4 h5 => exact ⟨outT_ok (by rw [triesA_len]; omega) fun l hl => (triesA_mem hl).1, ble_true.1 (by as_aux_lemma => kernel_rfl)⟩
  | nil T V S h1 => exact ⟨outT_ok (by rw [triesA_len]; omega) fun l hl => (triesA_mem hl).1, ble_true.1 (by as_aux_lemma => kernel_rfl)⟩
theorem tries_all {F : Nat → Option (List AV)} {sp : Sp} (hP : ProgOk Tryz.prog) (hfin : FinF F) (hs : SpAll Tryz.prog F sp) : SpAll Tryz.prog F (updS sp 7 (genM F (triesV F))) :=
  gen_all (sp' := fun _ => none) hP hfin hs SpAll.nothing Tryz.func7 (cAt_body Tryz.func7 (by as_aux_lemma => kernel_rfl)) (by kernel_rfl) (fun _ _ h => (triesV_inv h).ok) fun _ _ _ _ hc hl h => tries_H hc hl (triesV_inv h)
end AcG
