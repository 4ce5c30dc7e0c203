/- What is known of package variables that hold functions by name. -/
import Derived.Test.YtcjmdcndalcomaaGreatDoorRnSeg
import Derived.LaidMore
import Derived.LaidHandle
namespace Go.Rn
open Go.RowKit

/-- A table's entry, as it is read. -/
def entryOk (P : Program) : DataW (List UInt8) → Option FuncId → Bool
  | .nil, none => true
  | .held (b :: r), some f => (List.range P.funcs.size).filter (fun f => (P.funcs[f]?).any (·.name.toUTF8.data.toList == b :: r)) == [f]
  | _, _ => false
def tableOk (P : Program) : List (DataW (List UInt8)) → List (Option FuncId) → Bool
  | [], [] => true
  | d :: ds, f :: fs => entryOk P d f && tableOk P ds fs
  | _, _ => false
def aggOk (P : Program) (d : DataW (List UInt8)) (fs : List (Option FuncId)) : Bool :=
  match d with
  | .agg ds => tableOk P ds fs
  | _ => false
def entryAV : Option FuncId → AV
  | none => .nilFunc
  | some f => .func (.func f) [] []
def entryV : Option FuncId → Value
  | none => .nilFunc
  | some f => .func (.func f) #[] #[]
theorem entry_sim (ρ : Ren) (f : Option FuncId) : VR ρ (entryAV f) (entryV f) := by
  cases f with
  | none => simp only [entryAV, entryV, VR]
  | some f => simp only [entryAV, entryV, VR, VRs]; exact ⟨rfl, _, _, rfl, rfl, rfl⟩
theorem entry_oneCell (f : Option FuncId) : (entryAV f).oneCell = true := by cases f <;> rfl

theorem mapM_get {α β : Type} {f : α → Option β} : ∀ {l : List α} {r : List β}, l.mapM f = some r → l.length = r.length ∧ ∀ (i : Nat) (x : α), l[i]? = some x → ∃ y, r[i]? = some y ∧ f x = some y
  | [], r, h => by
    simp at h; subst h; exact ⟨rfl, fun i x hx => by simp at hx⟩
  | a :: l, r, h => by
    rw [List.mapM_cons] at h
    cases e : f a with
    | none => simp [e] at h
    | some b =>
      cases e2 : l.mapM f with
      | none => simp [e, e2] at h
      | some bs =>
        simp [e, e2] at h; subst h
        obtain ⟨h1, h2⟩ := mapM_get e2
        refine ⟨by simp [h1], fun i x hx => ?_⟩
        cases i with
        | zero => simp at hx; subst hx; exact ⟨b, rfl, e⟩
        | succ i => simp at hx; obtain ⟨y, h3, h4⟩ := h2 i x hx; exact ⟨y, by simpa using h3, h4⟩

theorem entry_of_trod {P : Program} {w : World} {e : TypeId} {ps rs : Array TypeId} {va : Bool} {fuel : Nat} {v : Value} {d : DataW (List UInt8)} {q : List MemPlace} {f : Option FuncId} (he : P.underlying e = some (.func ps rs va))
    (h : DataW.trod (funcToken P) P w 0 (fun _ => true) true fuel e [v] = some (d, q)) (hk : entryOk P d f = true) : v = entryV f := by
  unfold entryOk at hk
  split at hk
  · cases fuel with
    | zero => simp [DataW.trod] at h
    | succ n =>
      cases v <;> simp [DataW.trod, he] at h
      rfl
  · exact func_of_trod he (by simpa using hk) h
  · cases hk

theorem tableOk_get {P : Program} : ∀ {ds : List (DataW (List UInt8))} {fs : List (Option FuncId)}, tableOk P ds fs = true → ds.length = fs.length ∧ ∀ (i : Nat) d f, ds[i]? = some d → fs[i]? = some f → entryOk P d f = true
  | [], [], _ => ⟨rfl, fun i d f h => by simp at h⟩
  | [], _ :: _, h => by simp [tableOk] at h
  | _ :: _, [], h => by simp [tableOk] at h
  | d :: ds, f :: fs, h => by
    simp only [tableOk, Bool.and_eq_true] at h
    obtain ⟨h1, h2⟩ := tableOk_get h.2
    refine ⟨by simp [h1], fun i a b ha hb => ?_⟩
    cases i with
    | zero => simp at ha hb; subst ha; subst hb; exact h.1
    | succ i => simp at ha hb; exact h2 i a b ha hb

/-- A table of functions, one cell each: the cells. -/
theorem table_cells {P : Program} {W : World} {name : String} {d : DataW Unit} {g : Nat} {t e : TypeId} {n : Nat} {ps rs : Array TypeId} {va : Bool} {fs : List (Option FuncId)} (h : funcsAt P W name d) (hg : P.globalNamed name = some g) (hty : (P.globals[g]?).map (·.type) = some t)
    (ht : P.underlying t = some (.array n e)) (he : P.underlying e = some (.func ps rs va)) (hc : P.cellsOf e = 1) (hd : aggOk P d.funcsOut fs = true) :
    ∃ c ty fr, W.heap[g]? = some (.cells c ty fr) ∧ fs.length ≤ c.size ∧ ∀ (i : Nat) f, fs[i]? = some f → c[i]? = some (entryV f) := by
  obtain ⟨g', t', cs, fuel, p, h1, h2, h3, h4⟩ := h
  obtain rfl : g = g' := Option.some.inj (hg.symm.trans h1)
  obtain rfl : t = t' := Option.some.inj (hty.symm.trans h2)
  have hcell : ∃ ty fr, W.heap[g]? = some (.cells cs ty fr) := by
    unfold World.var? at h3
    rw [hg] at h3
    simp only [Option.bind_some] at h3
    split at h3
    · rename_i c ty fr e; injection h3 with h3; subst h3; exact ⟨ty, fr, e⟩
    · cases h3
  obtain ⟨ty, fr, hcell⟩ := hcell
  cases fuel with
  | zero => simp [DataW.trod] at h4
  | succ m =>
    rw [DataW.trod_step] at h4
    unfold DataW.trodStep at h4
    simp only [ht, hc, Nat.mul_one] at h4
    split at h4
    · rename_i hlen
      rw [Option.map_eq_some_iff] at h4
      obtain ⟨xs, h5, h6⟩ := h4
      obtain ⟨h7, h8⟩ := mapM_get h5
      have hagg : d.funcsOut = .agg (xs.map (·.1)) := by injection h6 with h6 _; exact h6.symm
      rw [hagg] at hd
      obtain ⟨h9, h10⟩ := tableOk_get (show tableOk P (xs.map (·.1)) fs = true from hd)
      have hxl : xs.length = fs.length := by simpa using h9
      have get : ∀ (i : Nat) f, fs[i]? = some f → cs[i]? = some (entryV f) := by
        intro i f hf
        have hi : i < fs.length := (List.getElem?_eq_some_iff.1 hf).1
        obtain ⟨y, h11, h12⟩ := h8 i i (by rw [List.getElem?_range (by simp at h7; omega)])
        obtain ⟨v, hv⟩ : ∃ v, (cs.toList.drop i).take 1 = [v] := by
          cases hq : (cs.toList.drop i).take 1 with
          | nil =>
            rw [hq] at h12
            cases m with
            | zero => simp [DataW.trod] at h12
            | succ k => simp [DataW.trod, he] at h12
          | cons v l =>
            have : ((cs.toList.drop i).take 1).length ≤ 1 := List.length_take_le _ _
            rw [hq] at this
            cases l with
            | nil => exact ⟨v, rfl⟩
            | cons => simp at this
        rw [hv] at h12
        have hent := entry_of_trod (f := f) (d := y.1) (q := y.2) he h12 (h10 i y.1 f (by rw [List.getElem?_map, h11]; rfl) hf)
        have : (cs.toList.drop i)[0]? = some v := by
          have : ((cs.toList.drop i).take 1)[0]? = some v := by rw [hv]; rfl
          rw [List.getElem?_take_of_lt (by omega)] at this
          exact this
        rw [List.getElem?_drop, Nat.add_zero, Array.getElem?_toList] at this
        rw [this, hent]
      refine ⟨cs, ty, fr, hcell, ?_, get⟩
      by_cases hz : fs.length = 0
      · omega
      · have hlast : ∃ f, fs[fs.length - 1]? = some f := ⟨fs[fs.length - 1]'(by omega), List.getElem?_eq_getElem (by omega)⟩
        obtain ⟨f, hf⟩ := hlast
        have := (Array.getElem?_eq_some_iff.1 (get _ f hf)).1
        omega
    · cases h4

theorem fill_get (l : List AV) (hl : l.length ≤ top) (i : Nat) (hi : i < l.length) : (Tr.fill l 0 .nil).get i = l[i]? := by
  rw [Tr.get_fill' _ _ _ _ (by omega), if_pos (by omega)]; simp

/-- The start, with one table known. -/
noncomputable def tableHeap (g : Nat) (fs : List (Option FuncId)) : Tr AObj := Tr.nil.put g (some (.ro fs.length (Tr.fill (fs.map entryAV) 0 .nil)))
theorem known_table {W : World} {g : Nat} {fs : List (Option FuncId)} {c : Array Value} {ty : TypeId} {fr : Nat × Nat} (hg : g < globs) (hl : fs.length ≤ top) (h1 : W.heap[g]? = some (.cells c ty fr)) (h2 : fs.length ≤ c.size) (h3 : ∀ (i : Nat) f, fs[i]? = some f → c[i]? = some (entryV f)) : Known W (tableHeap g fs) := by
  intro n o hn h
  have hg' : g < top := Nat.lt_of_lt_of_le hg (by unfold globs top; decide)
  unfold tableHeap at h
  rw [Tr.get_put _ _ _ _ hg' hn] at h
  by_cases q : n = g
  · subst q
    rw [if_pos rfl] at h
    injection h with h; subst h
    refine ⟨hg, _, _, c, ty, fr, rfl, h1, h2, fun i hi => ?_⟩
    obtain ⟨f, hf⟩ : ∃ f, fs[i]? = some f := ⟨fs[i], List.getElem?_eq_getElem hi⟩
    refine ⟨entryAV f, entryV f, ?_, entry_oneCell f, h3 i f hf, entry_sim _ f⟩
    rw [fill_get _ (by simpa using hl) i (by simpa using hi), List.getElem?_map, hf]; rfl
  · rw [if_neg q, Tr.get_nil] at h; cases h
end Go.Rn
