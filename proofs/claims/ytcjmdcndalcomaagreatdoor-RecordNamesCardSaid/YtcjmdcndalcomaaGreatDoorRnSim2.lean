/- More operations: structs and rows that are put together; numbers; parts. -/
import Derived.Test.YtcjmdcndalcomaaGreatDoorRnSim
import Derived.Laws.Tables
namespace Go.Rn
open Go.RowKit

theorem VRs.set {ρ : Ren} : ∀ {x : List AV} {v : List Value} {i : Nat} {a : AV} {b : Value}, VRs ρ x v → VR ρ a b → VRs ρ (x.set i a) (v.set i b)
  | [], _, _, _, _, h, _ => by simp only [VRs] at h; subst h; simp [VRs]
  | y :: ys, _, 0, _, _, h, k => by
    simp only [VRs] at h; obtain ⟨z, zs, rfl, p, q⟩ := h
    simp only [List.set_cons_zero, VRs]; exact ⟨_, _, rfl, k, q⟩
  | y :: ys, _, i + 1, _, _, h, k => by
    simp only [VRs] at h; obtain ⟨z, zs, rfl, p, q⟩ := h
    simp only [List.set_cons_succ, VRs]; exact ⟨_, _, rfl, p, q.set k⟩

def setV : List Value → List Value → Nat → List Value
  | cs, [], _ => cs
  | cs, c :: l, off => setV (cs.set off c) l (off + 1)
theorem setCells_sim {ρ : Ren} : ∀ {l : List AV} {vs : List Value} {cs : List AV} {ds : List Value} {off : Nat}, VRs ρ l vs → VRs ρ cs ds → VRs ρ (setCells cs l off) (setV ds vs off)
  | [], _, _, _, _, h, k => by simp only [VRs] at h; subst h; exact k
  | x :: l, _, cs, ds, off, h, k => by
    simp only [VRs] at h; obtain ⟨y, ys, rfl, p, q⟩ := h
    show VRs ρ (setCells (cs.set off x) l (off + 1)) (setV (ds.set off y) ys (off + 1))
    exact setCells_sim (l := l) q (k.set p)
theorem foldl_set (off : Nat) : ∀ (l : List Value) (k : Nat) (cs : Array Value),
    ((l.zipIdx k).foldl (fun (cs : Array Value) (x : Value × Nat) => cs.setIfInBounds (off + x.2) x.1) cs).toList = setV cs.toList l (off + k)
  | [], k, cs => rfl
  | c :: l, k, cs => by
    simp only [List.zipIdx_cons, List.foldl_cons, setV]
    rw [foldl_set off l (k + 1) _]
    simp [Nat.add_assoc]
theorem setV_length : ∀ (l : List Value) (cs : List Value) (off : Nat), (setV cs l off).length = cs.length
  | [], _, _ => rfl
  | c :: l, cs, off => by rw [setV, setV_length l]; simp

/-- Parts and their places. -/
def PRs (ρ : Ren) : List (Nat × AV) → List (Nat × Value) → Prop
  | [], l => l = []
  | x :: xs, l => ∃ y ys, l = y :: ys ∧ x.1 = y.1 ∧ VR ρ x.2 y.2 ∧ PRs ρ xs ys
theorem opdps_sim {ρ : Ren} {ev : Operand → Option AV} {ec : Operand → Value} (he : ∀ x v, ev x = some v → VR ρ v (ec x)) : ∀ {l : List (Nat × Operand)} {vs : List (Nat × AV)}, opdps ev l = some vs → PRs ρ vs (l.map fun (i, x) => (i, ec x))
  | [], vs, h => by simp only [opdps] at h; injection h with h; subst h; simp only [PRs, List.map_nil]
  | (i, x) :: l, vs, h => by
    simp only [opdps] at h
    cases e : ev x with
    | none => rw [e] at h; cases h
    | some y =>
      simp only [e] at h
      cases e2 : opdps ev l with
      | none => simp only [e2] at h; cases h
      | some r =>
        simp only [e2] at h; injection h with h; subst h
        simp only [PRs, List.map_cons]; exact ⟨_, _, rfl, rfl, he x y e, opdps_sim he e2⟩

theorem fill_sim {ρ : Ren} {place : Nat → Option (Nat × Nat)} : ∀ {ps : List (Nat × AV)} {qs : List (Nat × Value)} {cs l : List AV} {ds : Array Value}, PRs ρ ps qs → VRs ρ cs ds.toList → fillIn place cs ps = some l →
    ∃ es, Instr.fill place ds qs = some es ∧ VRs ρ l es.toList
  | [], qs, cs, l, ds, h, k, e => by
    simp only [PRs] at h; subst h
    simp only [fillIn] at e; injection e with e; subst e
    exact ⟨ds, rfl, k⟩
  | (i, v) :: ps, qs, cs, l, ds, h, k, e => by
    simp only [PRs] at h
    obtain ⟨⟨i', v'⟩, ys, rfl, hi, hv, hr⟩ := h
    simp only at hi hv; subst hi
    simp only [fillIn] at e
    cases e1 : place i with
    | none => simp only [e1] at e; cases e
    | some p =>
      obtain ⟨off, size⟩ := p
      simp only [e1] at e
      cases e2 : (Nat.beq v.cells.length size && Nat.ble (off + v.cells.length) cs.length) with
      | false => simp only [e2] at e; cases e
      | true =>
        simp only [e2] at e
        obtain ⟨a, b⟩ := and_true.1 e2
        have a := beqN_true.1 a; have b := ble_true.1 b
        have hc := hv.cells
        have l1 := hc.length
        have l2 := k.length
        simp only [Array.length_toList] at l1 l2
        have hset : VRs ρ (setCells cs v.cells off) (v'.cells.zipIdx.foldl (fun (cs : Array Value) (x : Value × Nat) => cs.setIfInBounds (off + x.2) x.1) ds).toList := by
          rw [← Array.foldl_toList, Array.toList_zipIdx, foldl_set off _ 0 ds]
          exact setCells_sim hc k
        obtain ⟨es, g1, g2⟩ := fill_sim hr hset e
        refine ⟨es, ?_, g2⟩
        simp only [Instr.fill, e1]
        rw [if_neg (by simp; omega)]
        exact g1

theorem placesT_sim {P : Program} : ∀ {fs : List Field} {pl : List (Nat × Nat)}, placesT P fs = some pl → fs.mapM (fun f => (P.info? f.type).map fun i => (f.offset, i.size)) = some pl
  | [], pl, h => by simp only [placesT] at h; injection h with h; subst h; rfl
  | f :: fs, pl, h => by
    simp only [placesT, sizeT] at h
    cases e : P.info? f.type with
    | none => simp only [e] at h; cases h
    | some i =>
      simp only [e] at h
      cases e2 : placesT P fs with
      | none => simp only [e2] at h; cases h
      | some r =>
        simp only [e2] at h; injection h with h; subst h
        simp [List.mapM_cons, e, placesT_sim e2]

theorem zero_cells {P : Program} (ρ : Ren) {t : TypeId} {z : AV} (h : zeroT P t = some z) : ∃ i v, P.info? t = some i ∧ i.zero = some v ∧ VR ρ z v := by
  unfold zeroT at h
  cases e : P.info? t with
  | none => rw [e] at h; cases h
  | some i =>
    simp only [e] at h
    cases e2 : i.zero with
    | none => simp only [e2] at h; cases h
    | some v => simp only [e2] at h; exact ⟨i, v, rfl, e2, ofValue_sim ρ h⟩

section
variable {P : Program} {B : Nat} {ρ : Ren} {w : World} {s s1 : AS} {x : AV} {call : Caller} {t : Tr AV} {ev : Operand → Value} {o : Oper}

theorem build_sim {ty : TypeId} {ps : List (Nat × AV)} {qs : List (Nat × Value)} (hp : PRs ρ ps qs) (h : build P ty ps = some x) : ∃ cells, P.built ty qs = some cells ∧ VR ρ x (.agg cells) := by
  unfold build at h
  cases ez : zeroT P ty with
  | none => simp only [ez] at h; cases h
  | some z =>
    obtain ⟨i, v, h1, h2, h3⟩ := zero_cells ρ ez
    simp only [ez] at h
    cases eu : P.underlying ty with
    | none => simp only [eu] at h; cases h
    | some d =>
      cases d <;> simp only [eu] at h <;> first | (cases h; done) | skip
      case array n e =>
        cases ek : sizeT P e with
        | none => simp only [ek] at h; cases h
        | some k =>
          simp only [ek] at h
          cases ef : fillIn (fun i => some (i * k, k)) z.cells ps with
          | none => simp only [ef] at h; cases h
          | some l =>
            simp only [ef] at h; injection h with h; subst h
            obtain ⟨es, g1, g2⟩ := fill_sim hp h3.cells ef
            unfold sizeT at ek
            cases ei : P.info? e with
            | none => rw [ei] at ek; cases ek
            | some ie =>
              simp only [ei] at ek; injection ek with ek; subst ek
              refine ⟨es, ?_, by simp only [VR]; exact ⟨_, rfl, g2⟩⟩
              simp only [Program.built, h1, eu, h2, ei]; exact g1
      case struct fs =>
        cases ek : placesT P fs.toList with
        | none => simp only [ek] at h; cases h
        | some pl =>
          simp only [ek] at h
          cases ef : fillIn (fun i => pl[i]?) z.cells ps with
          | none => simp only [ef] at h; cases h
          | some l =>
            simp only [ef] at h; injection h with h; subst h
            obtain ⟨es, g1, g2⟩ := fill_sim hp h3.cells ef
            refine ⟨es, ?_, by simp only [VR]; exact ⟨_, rfl, g2⟩⟩
            simp only [Program.built, h1, eu, h2, placesT_sim ek]
            simpa using g1

theorem sim_kBuild {ty : TypeId} {parts : Array (Nat × Operand)} (he : ∀ x v, opd t x = some v → VR ρ v (ev x)) (r : Rel B ρ s.h w) (h : kBuild P ty parts.toList call t s = .ok x s1) (ho : o.op = .build ty parts) : SimOp P B ρ s s1 w x (execOp ev o) := by
  unfold kBuild at h
  obtain ⟨ps, h1, h2⟩ := withO_inv h
  obtain ⟨h3, rfl⟩ := lift_inv h2
  have hp := opdps_sim he h1
  obtain ⟨cells, g1, g2⟩ := build_sim (P := P) hp h3
  refine ⟨ρ, w, .value (.agg cells), Ext.refl _ _ _, ?_, g2, r, Below.refl _ _⟩
  have g1' : P.built ty (parts.map fun (i, x) => (i, ev x)).toList = some cells := by rw [Array.toList_map]; exact g1
  simp only [execOp, ho, Sem.run_bind, run_build w ty _ cells g1', Result.andThen_ok]
  rfl

theorem repeatTo_sim {z : List AV} {vs : List Value} (h : VRs ρ z vs) : ∀ n, VRs ρ (repeatTo n z) (List.replicate n vs).flatten
  | 0 => by simp [repeatTo, VRs]
  | n + 1 => by simp only [repeatTo, List.replicate_succ, List.flatten_cons]; exact h.append (repeatTo_sim h n)
theorem repeat_get {vs : List Value} : ∀ (n i : Nat), i < n * vs.length → (List.replicate n vs).flatten[i]? = vs[i % vs.length]?
  | 0, i, h => by omega
  | n + 1, i, h => by
    rw [List.replicate_succ, List.flatten_cons]
    by_cases q : i < vs.length
    · rw [List.getElem?_append_left q, Nat.mod_eq_of_lt q]
    · have hs : (n + 1) * vs.length = n * vs.length + vs.length := by rw [Nat.succ_mul]
      rw [List.getElem?_append_right (by omega), repeat_get n _ (by omega)]
      rw [← Nat.mod_eq_sub_mod (by omega)]
theorem pattern_eq {zs : Array Value} {n : Nat} : (Array.range (n * zs.size)).map (fun i => zs[i % zs.size]!) = (List.replicate n zs.toList).flatten.toArray := by
  apply Array.ext_getElem?
  intro i
  have hlen : (List.replicate n zs.toList).flatten.length = n * zs.size := by simp
  by_cases q : i < n * zs.size
  · have hz : 0 < zs.size := by
      rcases Nat.eq_zero_or_pos zs.size with h0 | h0
      · rw [h0] at q; omega
      · exact h0
    have hm : i % zs.size < zs.size := Nat.mod_lt _ hz
    have hr : (List.replicate n zs.toList).flatten.toArray[i]? = zs.toList[i % zs.toList.length]? := by
      rw [List.getElem?_toArray]; exact repeat_get n i (by rw [Array.length_toList]; exact q)
    rw [hr]
    simp [q, getElem!_pos zs (i % zs.size) hm, Array.getElem?_eq_getElem hm]
  · have hr : (List.replicate n zs.toList).flatten.toArray[i]? = none := by
      rw [List.getElem?_toArray]; exact List.getElem?_eq_none (by rw [hlen]; omega)
    rw [hr, Array.getElem?_eq_none (by simp; omega)]

theorem buildSlice_sim {ty : TypeId} {len : Nat} {ps : List (Nat × AV)} {qs : Array (Nat × Value)} (hp : PRs ρ ps qs.toList) (r : Rel B ρ s.h w) (hf : Free s.nx s1.nx ρ) (h : buildSlice P ty len ps s = .ok x s1) :
    SimV P B ρ s s1 w x (Instr.buildSlice ty len qs) := by
  unfold buildSlice at h
  cases eu : P.underlying ty with
  | none => simp only [eu] at h; cases h
  | some d =>
    cases d <;> simp only [eu] at h <;> first | (cases h; done) | skip
    rename_i e
    simp only [bind_eq, pure_eq] at h
    obtain ⟨k, s2, h1, h2⟩ := M.bind_inv h
    obtain ⟨h1', rfl⟩ := lift_inv h1
    obtain ⟨z, s3, h3, h4⟩ := M.bind_inv h2
    obtain ⟨h3', rfl⟩ := lift_inv h3
    obtain ⟨u, s4, h5, h6⟩ := M.bind_inv h4
    have h5' : (Nat.ble (len * k) 1048576 && Nat.beq z.cells.length k) = true ∧ s4 = s3 := by
      cases hb : (Nat.ble (len * k) 1048576 && Nat.beq z.cells.length k) with
      | false => rw [hb] at h5; cases h5
      | true => rw [hb] at h5; cases h5; exact ⟨rfl, rfl⟩
    obtain ⟨h5', rfl⟩ := h5'
    obtain ⟨l, s5, h7, h8⟩ := M.bind_inv h6
    obtain ⟨h7', rfl⟩ := lift_inv h7
    obtain ⟨n, s6, h9, h10⟩ := M.bind_inv h8
    obtain ⟨rfl, rfl⟩ := pure_inv h10
    obtain ⟨a, b⟩ := and_true.1 h5'
    have a := ble_true.1 a; have b := beqN_true.1 b
    obtain ⟨vz, g1, g2⟩ := run_zero_of (P := P) (w := w) ρ h3'
    have hlen := g2.cells.length
    simp only [Array.length_toList] at hlen
    have hcells : (Array.range (len * k)).map (fun i => (if len * k = 0 then (#[] : Array Value) else vz.cells)[i % (if len * k = 0 then (#[] : Array Value) else vz.cells).size]!) = (List.replicate len vz.cells.toList).flatten.toArray := by
      by_cases q : len * k = 0
      · rw [q]
        have : (List.replicate len vz.cells.toList).flatten = [] := by
          apply List.length_eq_zero_iff.1
          have e1 : (List.replicate len vz.cells.toList).flatten.length = len * vz.cells.size := by simp
          rw [e1, ← hlen, b]; exact q
        simp [this]
      · simp only [if_neg q]
        have : k = vz.cells.size := by omega
        subst this
        exact pattern_eq
    obtain ⟨es, f1, f2⟩ := fill_sim (ds := (List.replicate len vz.cells.toList).flatten.toArray) hp (by simpa using repeatTo_sim g2.cells len) h7'
    obtain ⟨rfl, n1, σ, e1, e2, e3, e4⟩ := newRow_sim (P := P) e [] r hf h9 f2
    refine ⟨σ, _, .slice (some ⟨w.heap.size, 0, none⟩) len len, e1, ?_, ?_, e4, (Grew.alloc w _).below r.size⟩
    · have hes : (es.toList ++ []).toArray = es := by simp
      rw [hes] at e3 e4 ⊢
      have hgt : ¬ (len * k > 2 ^ 24) := by omega
      simp only [Instr.buildSlice, Sem.run_bind, run_underlying_of eu, Result.andThen_ok, run_size_of h1']
      rw [if_neg hgt]
      by_cases q : len * k = 0
      · rw [if_pos q]
        simp only [if_pos q] at hcells
        simp only [Sem.run_bind, Sem.run_pure, Result.andThen_ok, hcells, f1, e3]
      · rw [if_neg q]
        simp only [if_neg q] at hcells
        simp only [Sem.run_bind, Sem.run_pure, Result.andThen_ok, g1, hcells, f1, e3]
    · simp only [VR]; exact ⟨_, _, e2, rfl⟩

theorem sim_kBuildSlice {ty : TypeId} {len : Nat} {parts : Array (Nat × Operand)} (he : ∀ x v, opd t x = some v → VR ρ v (ev x)) (r : Rel B ρ s.h w) (hf : Free s.nx s1.nx ρ) (h : kBuildSlice P ty len parts.toList call t s = .ok x s1) (ho : o.op = .buildSlice ty len parts) : SimOp P B ρ s s1 w x (execOp ev o) := by
  unfold kBuildSlice at h
  obtain ⟨ps, h1, h2⟩ := withO_inv h
  have hp : PRs ρ ps (parts.map fun (i, x) => (i, ev x)).toList := by rw [Array.toList_map]; exact opdps_sim he h1
  have := (buildSlice_sim (P := P) hp r hf h2).op
  simpa only [execOp, ho] using this
end
end Go.Rn
