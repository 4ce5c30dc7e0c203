/- Rows that are made, grown, copied; the builtins. -/
import Derived.Test.YtcjmdcndalcomaaGreatDoorRnSim6
import Derived.IntWalk
namespace Go.Rn
open Go.RowKit

/-- A row that is not asked for any more may be written. -/
theorem Rel.dropAt {B : Nat} {ρ : Ren} {h : Tr AObj} {w w' : World} (r : Rel B ρ h w) {n : Nat} {p : AObj} {b N : Nat} (ht : n < top) (hg : h.get n = some p) (hp : p.plain = true) (hr : ρ n = some (b, N)) (hw : OnlyAt b w w') :
    Rel B ρ (h.put n none) w' ∧ ∀ m q, m < top → (h.put n none).get m = some q → ∀ M, ρ m ≠ some (b, M) := by
  have g : ∀ m, m < top → (h.put n none).get m = if m = n then none else h.get m := fun m hm => Tr.get_put _ _ _ _ ht hm
  have hfree : ∀ m q, m < top → (h.put n none).get m = some q → ∀ M, ρ m ≠ some (b, M) := by
    intro m q hm hq M e
    rw [g m hm] at hq
    by_cases e2 : m = n
    · rw [if_pos e2] at hq; cases hq
    · rw [if_neg e2] at hq; exact e2 (r.one m n q p b M N hm ht hq hg e hr)
  refine ⟨?_, hfree⟩
  have hl : h.get n ≠ some .lent := by intro e; rw [hg] at e; cases e; simp [AObj.plain] at hp
  have r2 := r.drop ht hl
  refine ⟨?_, r2.one, ?_, by rw [hw.size]; exact r.size, r2.lone⟩
  · intro m q hm hq
    obtain ⟨b1, N1, o1, h1, h2, h3, h4⟩ := r2.is m q hm hq
    exact ⟨b1, N1, o1, h1, (hw.block b1 fun e => hfree m q hm hq N1 (by rw [h1, e])).trans h2, h3, h4⟩
  · intro i m es ex left cur hi hq
    obtain ⟨hm, hlent, u⟩ := r2.iter i m es ex left cur hi hq
    exact ⟨hm, hlent, u.keep hw.block (hfree i _ hi hq) (hfree m _ hm hlent)⟩

section
variable {P : Program} {B : Nat} {ρ : Ren} {w : World} {s s1 : AS} {x : AV} {call : Caller} {t : Tr AV} {ev : Operand → Value} {o : Oper}

theorem wrap_small {n : Nat} (h : n < 2 ^ 63) : IntKind.i64.wrap (n : Int) = n := by
  exact IntWalk.i64_in _ (by omega)

theorem makeSlice_sim {ty : TypeId} {l c : AV} {vl vc : Value} (hl : VR ρ l vl) (hc : VR ρ c vc) (r : Rel B ρ s.h w) (hf : Free s.nx s1.nx ρ) (h : makeSlice P ty l c s = .ok x s1) : SimV P B ρ s s1 w x (Instr.makeSlice ty vl vc) := by
  unfold makeSlice at h
  cases e1 : P.underlying ty with
  | none => simp only [e1] at h; cases h
  | some d =>
    cases d <;> simp only [e1] at h <;> first | (cases h; done) | skip
    rename_i e
    obtain ⟨il, h1, h⟩ := withO_inv h
    obtain ⟨ic, h2, h⟩ := withO_inv h
    obtain ⟨i, h3, h⟩ := withO_inv h
    obtain ⟨nc, h4, h⟩ := withO_inv h
    obtain ⟨nl, h5, h⟩ := withO_inv h
    obtain ⟨z, h6, h⟩ := withO_inv h
    obtain ⟨h7, h⟩ := withB_inv h
    obtain ⟨n, s2, h8, h9⟩ := M.bind_inv h
    obtain ⟨rfl, rfl⟩ := pure_inv h9
    obtain ⟨q1, q2⟩ := and_true.1 h7
    obtain ⟨q3, q4⟩ := and_true.1 q2
    obtain ⟨q5, q6⟩ := and_true.1 q4
    have q1 := ble_true.1 q1
    have q3 := ble_true.1 q3
    obtain ⟨k1, _, rfl⟩ := hl.int_inv h1
    obtain ⟨k2, _, rfl⟩ := hc.int_inv h2
    obtain ⟨rfl, hc1⟩ := within_some h4
    obtain ⟨rfl, hl1⟩ := within_some h5
    unfold room at hc1 q1
    obtain ⟨vz, g1, g2⟩ := run_zero_of (P := P) (w := w) ρ h6
    obtain ⟨ht, rfl, rfl⟩ := newN_inv h8
    have hnone : ρ s.nx = none := hf s.nx (Nat.le_refl _) (Nat.lt_succ_self _)
    have hz := g2.cells.length
    simp only [Array.length_toList] at hz
    -- the cells
    have hcells : (Array.range (nc * i.size)).map (fun j => (if nc * i.size = 0 then (#[] : Array Value) else vz.cells)[j % (if nc * i.size = 0 then (#[] : Array Value) else vz.cells).size]!) = (Array.range (nc * i.size)).map (fun j => vz.cells[j % vz.cells.size]!) := by
      by_cases q : nc * i.size = 0
      · rw [q]; simp
      · simp only [if_neg q]
    refine ⟨updR ρ s.nx (w.heap.size, nc * i.size), { w with heap := w.heap.push (.cells ((Array.range (nc * i.size)).map (fun j => vz.cells[j % vz.cells.size]!)) e) }, .slice (some ⟨w.heap.size, 0, none⟩) nl nc, Ext.upd hnone, ?_, ?_, ?_, (Grew.alloc w _).below r.size⟩
    · have w1 : IntKind.i64.wrap (nl : Int) = nl := wrap_small (by omega)
      have w2 : IntKind.i64.wrap (nc : Int) = nc := wrap_small (by omega)
      have t1 : (decide ((nc : Int) < 0) || decide ((i.bytes : Int) * (nc : Int) > 2 ^ 48)) = false := by
        have : ¬ ((nc : Int) < 0) := by omega
        have h2 : ¬ ((i.bytes : Int) * (nc : Int) > 2 ^ 48) := by
          have : (i.bytes : Int) * (nc : Int) = ((nc * i.bytes : Nat) : Int) := by rw [Nat.mul_comm]; simp
          rw [this]; omega
        rw [decide_eq_false this, decide_eq_false h2]; rfl
      have t2 : ¬ ((nl : Int) < 0) := by omega
      have t3 : ¬ ((nl : Int) > (nc : Int)) := by omega
      simp only [Instr.makeSlice, Sem.run_bind, run_underlying_of e1, Result.andThen_ok, asInt, asIntOf, Sem.run_pure, run_info_of h3, w1, w2]
      have hcond : ¬ (((decide ((nc : Int) < 0) || decide ((i.bytes : Int) * (nc : Int) > 2 ^ 48)) = true) ∨ ((nl : Int) < 0) ∨ ((nl : Int) > (nc : Int))) := by
        rw [t1]; rintro (e | e | e)
        · cases e
        · exact t2 e
        · exact t3 e
      have hcond' : ((decide ((nc : Int) < 0) || decide ((i.bytes : Int) * (nc : Int) > 2 ^ 48)) || decide ((nl : Int) < 0) || decide ((nl : Int) > (nc : Int))) = false := by
        rw [t1]; simp [t2, t3]
      simp only [hcond', Bool.false_eq_true, if_false, Sem.run_bind, run_askRoom, Result.andThen_ok, Int.toNat_natCast, run_size_of (show sizeT P e = some i.size by simp [sizeT, h3])]
      by_cases q : nc * i.size = 0
      · simp only [if_pos q] at hcells ⊢
        simp only [Sem.run_bind, Sem.run_pure, Result.andThen_ok, hcells]
        rfl
      · simp only [if_neg q] at hcells ⊢
        simp only [Sem.run_bind, g1, Sem.run_pure, Result.andThen_ok]
        rfl
    · simp only [VR]; exact ⟨_, _, updR_self _ _ _, rfl⟩
    · refine r.new ht hnone rfl ⟨_, e, rfl, by simp, Nat.le_refl _, fun j hj => ?_⟩
      have hzpos : 0 < z.cells.length := by
        rcases Nat.eq_zero_or_pos z.cells.length with h0 | h0
        · rw [h0] at q5
          have : Nat.beq (nc * i.size) 0 = true := by
            cases hb : Nat.beq (nc * i.size) 0 with
            | true => rfl
            | false => rw [hb] at q5; simp at q5
          have := beqN_true.1 this; omega
        · exact h0
      have hm : j % z.cells.length < z.cells.length := Nat.mod_lt _ hzpos
      obtain ⟨a, ha⟩ : ∃ a, z.cells[j % z.cells.length]? = some a := ⟨_, List.getElem?_eq_getElem hm⟩
      obtain ⟨v, hv, hr⟩ := g2.cells.get _ a ha
      refine ⟨a, v, ?_, List.all_eq_true.1 q6 a (List.mem_of_getElem? ha), ?_, hr.mono (updR_le hnone)⟩
      · unfold cellAt; rw [Tr.get_nil]; exact ha
      · have hm2 : j % vz.cells.size < vz.cells.size := by rw [← hz]; exact hm
        have hv' : vz.cells[j % vz.cells.size]? = some v := by rw [← hz]; simpa using hv
        simp only [Array.getElem?_map, Array.getElem?_range, if_pos hj, Option.map_some]
        rw [getElem!_pos vz.cells _ hm2]
        rw [Array.getElem?_eq_getElem hm2] at hv'
        injection hv' with hv'; rw [hv']

theorem sim_kMakeSlice {ty : TypeId} {l c : Operand} (he : ∀ x v, opd t x = some v → VR ρ v (ev x)) (r : Rel B ρ s.h w) (hf : Free s.nx s1.nx ρ) (h : kMakeSlice P ty l c call t s = .ok x s1) (ho : o.op = .makeSlice ty l c) : SimOp P B ρ s s1 w x (execOp ev o) := by
  unfold kMakeSlice at h
  obtain ⟨a, h1, h2⟩ := withO_inv h
  obtain ⟨b, h3, h4⟩ := withO_inv h2
  have := (makeSlice_sim (P := P) (he l a h1) (he c b h3) r hf h4).op
  simpa only [execOp, ho] using this

theorem firstCells_sim {size n : Nat} {a : AV} {v : Value} {l : List AV} (ha : VR ρ a v) (fi : Fine s) (r : Rel B ρ s.h w) (h : firstCells size n a s = .ok l s1) :
    s1.h = s.h ∧ s1.nx = s.nx ∧ ∃ arr : Array Value, (Builtin.firstCells size n v).run P w = .ok arr w ∧ VRs ρ l arr.toList := by
  cases a with
  | slice p len cap =>
    cases p with
    | none =>
      have h' : (M.pure [] : M (List AV)) s = .ok l s1 := by
        cases len <;> cases cap <;> exact h
      obtain ⟨rfl, rfl⟩ := pure_inv h'
      obtain ⟨rfl, rfl, rfl⟩ := slice_none ha
      exact ⟨rfl, rfl, #[], rfl, by simp [VRs]⟩
    | some p =>
      obtain ⟨m, i⟩ := p
      by_cases hc : cap = .lost
      · subst hc
        simp only [VR] at ha
        obtain ⟨rfl, b, N, q, c, e, rfl⟩ := ha
        obtain ⟨h1, h2⟩ := withB_inv (show (withB (Nat.beq n 0) <| (M.pure [] : M (List AV))) s = .ok l s1 from h)
        obtain ⟨rfl, rfl⟩ := pure_inv h2
        have := beqN_true.1 h1; subst this
        refine ⟨rfl, rfl, #[], ?_, by simp [VRs]⟩
        simp [Builtin.firstCells, loadCells, loadCellsFrom]
      · rw [firstCells_some hc] at h
        have : ∃ b N c, ρ m = some (b, N) ∧ v = .slice (some ⟨b, i, none⟩) len c := by
          cases cap with
          | known c => simp only [VR] at ha; obtain ⟨b, N, e, rfl⟩ := ha; exact ⟨b, N, c, e, rfl⟩
          | atLeast lo e0 => simp only [VR] at ha; obtain ⟨b, N, c, e, rfl, _⟩ := ha; exact ⟨b, N, c, e, rfl⟩
          | lost => exact absurd rfl hc
        obtain ⟨b, N, c, e, rfl⟩ := this
        obtain ⟨a1, a2, a3, a4, vs, a5, a6, _⟩ := readCells_sim (P := P) fi r h e
        exact ⟨a1, a2, vs.toArray, by simpa [Builtin.firstCells] using a5, by simpa using a6⟩
  | str q =>
    have h' : (M.pure ((byteCells q).take n) : M (List AV)) s = .ok l s1 := h
    obtain ⟨rfl, rfl⟩ := pure_inv h'
    simp only [VR] at ha; subst ha
    refine ⟨rfl, rfl, (q.extract 0 n).data.map fun b => .int .u8 b.toNat, rfl, ?_⟩
    refine VRs.of_get _ _ ?_ (fun i a b ha hb => ?_)
    · simp [byteCells, ByteArray.data_extract]
    · obtain ⟨⟨bs⟩⟩ := q
      simp only [byteCells] at ha
      rw [← List.map_take, List.getElem?_map] at ha
      have hb' : ((bs.take n).map fun b => Value.int .u8 b.toNat)[i]? = some b := by
        have e : ((ByteArray.extract ⟨⟨bs⟩⟩ 0 n).data.map fun b => Value.int .u8 b.toNat).toList = (bs.take n).map fun b => Value.int .u8 b.toNat := by
          simp [ByteArray.data_extract, List.extract]
        rw [← e]; exact hb
      rw [List.getElem?_map] at hb'
      cases hq : (bs.take n)[i]? with
      | none => rw [hq] at hb'; cases hb'
      | some y =>
        rw [hq] at ha hb'
        simp only [Option.map_some, Option.some.injEq] at ha hb'
        rw [← ha, ← hb']; simp [VR]
  | _ => cases h

theorem lenOf_sim {a : AV} {v : Value} {n : Nat} (ha : VR ρ a v) (h : lenOf a = some n) : (Builtin.lenOf v).run P w = .ok n w := by
  cases a with
  | slice p len cap =>
    simp only [lenOf] at h; injection h with h; subst h
    cases p with
    | none => obtain ⟨rfl, rfl, rfl⟩ := slice_none ha; rfl
    | some p => obtain ⟨m, i⟩ := p; obtain ⟨_, _, _, _, _, rfl⟩ := slice_some ha; rfl
  | str q => simp only [lenOf] at h; injection h with h; subst h; simp only [VR] at ha; subst ha; rfl
  | _ => cases h

theorem growBy_le (need_ : Nat) : ∀ (k c : Nat), c ≤ need_ → Builtin.growBy need_ k c ≤ need_ + need_ + 800
  | 0, c, h => by simp only [Builtin.growBy]; omega
  | k + 1, c, h => by
    simp only [Builtin.growBy]
    by_cases q : c ≥ need_
    · rw [if_pos q]; omega
    · rw [if_neg q]
      by_cases q2 : c + (c + 768) / 4 ≤ need_
      · exact growBy_le need_ k _ q2
      · have : ∀ k, Builtin.growBy need_ k (c + (c + 768) / 4) = c + (c + 768) / 4 := by
          intro k
          cases k with
          | zero => rfl
          | succ k => simp only [Builtin.growBy]; rw [if_pos (by omega)]
        rw [this]; omega
theorem nextcap_le {need_ old : Nat} (h : old < need_) : Builtin.nextslicecap need_ old ≤ 2 * need_ + 4096 := by
  unfold Builtin.nextslicecap
  split
  · omega
  · split
    · omega
    · have := growBy_le need_ 4 old (by omega); omega

/-- What an append comes to that makes a new row. -/
theorem grow_run {elem : TypeId} {i : TypeInfo} {sv xv : Value} {base : Option Addr} {len c n : Nat} {xt : Option TypeId} {args : Array TypeId} {sT : TypeId} {old new : Array Value} {zv : Value}
    (hs : sv = .slice base len c) (hu : P.underlying sT = some (.slice elem)) (ha0 : args[0]? = some sT) (ha1 : args[1]? = xt) (hx : notInt P xt = true) (hi : P.info? elem = some i)
    (hn : (Builtin.lenOf xv).run P w = .ok n w) (hlt : c < len + n) (hroom : 2 * (len + n) * i.bytes + 4096 * i.bytes ≤ room) (hb : i.bytes ≠ 0)
    (ho : (Builtin.firstCells i.size len sv).run P { w with drawn := w.drawn + 1 } = .ok old { w with drawn := w.drawn + 1 }) (hw : (Builtin.firstCells i.size n xv).run P { w with drawn := w.drawn + 1 } = .ok new { w with drawn := w.drawn + 1 })
    (hz : ∀ w' : World, (zeroValue elem).run P w' = .ok zv w') :
    ∃ rest : List Value, ∃ nc, len + n ≤ nc ∧ rest.length = (nc - (len + n)) * zv.cells.size ∧ (Builtin.append_ args 0 #[sv, xv]).run P w =
      .ok (.slice (some ⟨w.heap.size, 0, none⟩) (len + n) nc) { w with heap := w.heap.push (.cells ((old ++ new).toList ++ rest).toArray elem), drawn := w.drawn + 1 } := by
  subst hs
  have hcap := nextcap_le hlt
  have hmul : Builtin.nextslicecap (len + n) c * i.bytes ≤ 2 ^ 48 := by
    have := Nat.mul_le_mul_right i.bytes hcap
    have e : (2 * (len + n) + 4096) * i.bytes = 2 * (len + n) * i.bytes + 4096 * i.bytes := Nat.add_mul _ _ _
    unfold room at hroom
    omega
  have hnc : ∃ nc, len + n ≤ nc ∧ (choose (.appendCap (len + n) c elem)).run P w = .ok nc { w with drawn := w.drawn + 1 } := by
    refine ⟨len + n + w.tape w.drawn (.appendCap (len + n) c elem) % (2 ^ 63 - (len + n)), by omega, ?_⟩
    rw [run_choose]
    simp [Question.forced, Question.cut]
  obtain ⟨nc, hnc1, hnc2⟩ := hnc
  refine ⟨(Builtin.zeroCells zv.cells (nc - (len + n))).toList, nc, hnc1, by simp [Builtin.zeroCells], ?_⟩
  have hle : ¬ (len + n ≤ c) := by omega
  have hni : ¬ (((len + n : Nat) : Int) > IntKind.i64.max ∧ (False ∨ i.bytes = 0)) := by
    rintro ⟨_, e | e⟩
    · cases e
    · exact hb e
  have hbig : ¬ (Builtin.nextslicecap (len + n) c * i.bytes > 2 ^ 48) := by omega
  have hrow : ∀ w' : World, (Go.newRow elem (old ++ new ++ Builtin.zeroCells zv.cells (nc - (len + n)))).run P w' = .ok ⟨w'.heap.size, 0, none⟩ { w' with heap := w'.heap.push (.cells ((old ++ new).toList ++ (Builtin.zeroCells zv.cells (nc - (len + n))).toList).toArray elem) } := by
    intro w'
    have e : ((old ++ new).toList ++ (Builtin.zeroCells zv.cells (nc - (len + n))).toList).toArray = old ++ new ++ Builtin.zeroCells zv.cells (nc - (len + n)) := by
      rw [← Array.toList_append]
    rw [e]; rfl
  unfold notInt at hx
  cases xt with
  | none =>
    simp only [Builtin.append_, ha0, ha1]
    simp only [show (#[Value.slice base len c, xv] : Array Value)[0]? = some (.slice base len c) from rfl, show (#[Value.slice base len c, xv] : Array Value)[1]? = some xv from rfl]
    simp only [Sem.run_bind, run_underlying_of hu, Result.andThen_ok, run_size_of (show sizeT P elem = some i.size by simp [sizeT, hi]), Sem.run_pure, Bool.false_eq_true, if_false, hn, if_neg hle, run_info_of hi]
    rw [if_neg hni]
    simp only [Sem.run_bind, run_info_of hi, Result.andThen_ok]
    rw [if_neg hbig]
    simp only [Sem.run_bind, hnc2, Result.andThen_ok, run_info_of hi, run_askRoom, ho, Bool.not_false, if_true, hw, hz, hrow, Sem.run_pure]
  | some q =>
    simp only at hx
    cases e : P.underlying q with
    | none => rw [e] at hx; cases hx
    | some d =>
      rw [e] at hx
      cases d <;> first
        | (cases hx; done)
        | (simp only [Builtin.append_, ha0, ha1]
           simp only [show (#[Value.slice base len c, xv] : Array Value)[0]? = some (.slice base len c) from rfl, show (#[Value.slice base len c, xv] : Array Value)[1]? = some xv from rfl]
           simp only [Sem.run_bind, run_underlying_of hu, Result.andThen_ok, run_size_of (show sizeT P elem = some i.size by simp [sizeT, hi]), Sem.run_pure, run_underlying_of e, Bool.false_eq_true, if_false, hn, if_neg hle, run_info_of hi]
           rw [if_neg hni]
           simp only [Sem.run_bind, run_info_of hi, Result.andThen_ok]
           rw [if_neg hbig]
           simp only [Sem.run_bind, hnc2, Result.andThen_ok, run_info_of hi, run_askRoom, ho, Bool.not_false, if_true, hw, hz, hrow, Sem.run_pure])
end
end Go.Rn
