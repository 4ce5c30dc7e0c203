/- More operations: conversions, addresses, parts, slices of rows, what is made. -/
import Derived.Test.YtcjmdcndalcomaaGreatDoorRnSim4
import Derived.Laws.BytesString
namespace Go.Rn
open Go.RowKit

section
variable {P : Program} {B : Nat} {ρ : Ren} {w : World} {s s1 : AS} {x : AV} {call : Caller} {t : Tr AV} {ev : Operand → Value} {o : Oper}

theorem foldl_push (ns : List Int) : ∀ (b : ByteArray), ns.foldl (fun r n => r.push (UInt8.ofNat n.toNat)) b = ⟨(b.data.toList ++ ns.map (fun n => UInt8.ofNat n.toNat)).toArray⟩ := by
  induction ns with
  | nil => intro b; obtain ⟨⟨l⟩⟩ := b; simp
  | cons n ns ih =>
    intro b
    rw [List.foldl_cons, ih]
    obtain ⟨⟨l⟩⟩ := b
    simp [ByteArray.push]

theorem bytesOf_sim : ∀ {l : List AV} {bs : List UInt8} {vs : List Value}, bytesOf l = some bs → VRs ρ l vs → ∃ ns : List Int, vs = ns.map (Value.int .u8) ∧ bs = ns.map fun n => UInt8.ofNat n.toNat
  | [], bs, vs, h, k => by
    simp only [bytesOf] at h; injection h with h; subst h
    simp only [VRs] at k; subst k
    exact ⟨[], rfl, rfl⟩
  | y :: l, bs, vs, h, k => by
    cases y <;> (try simp only [bytesOf] at h) <;> first | (cases h; done) | skip
    rename_i kd n
    cases kd <;> simp only [bytesOf] at h <;> first | (cases h; done) | skip
    cases e : bytesOf l with
    | none => rw [e] at h; cases h
    | some r =>
      simp only [e] at h; injection h with h; subst h
      simp only [VRs, VR] at k
      obtain ⟨v, ys, rfl, rfl, k2⟩ := k
      obtain ⟨ns, rfl, rfl⟩ := bytesOf_sim e k2
      exact ⟨n :: ns, rfl, rfl⟩

theorem firstCells_some {size n m i len : Nat} {c : Cap} (h : c ≠ .lost) : firstCells size n (.slice (some (m, i)) len c) = readCells m i (n * size) := by
  cases len <;> cases c <;> first | rfl | exact absurd rfl h

theorem toText_inv {src dst : TypeId} {a : AV} {n : Nat} (h : toText P src dst a n s = .ok x s1) :
    ∃ e, P.underlying src = some (.slice e) ∧ P.underlying dst = some .string ∧
      (withB (isByte P e) <| (firstCells 1 n a).bind fun l => withO (bytesOf l) fun b => M.pure (.str ⟨b.toArray⟩)) s = .ok x s1 := by
  unfold toText at h
  generalize P.underlying src = u at h ⊢
  generalize P.underlying dst = v at h ⊢
  rcases u with _ | d1
  · cases h
  · cases d1 <;> first | (cases h; done) | skip
    rcases v with _ | d2
    · cases h
    · cases d2 <;> first | (cases h; done) | skip
      exact ⟨_, rfl, rfl, h⟩

theorem sim_kConvert {src dst : TypeId} {y : Operand} (he : ∀ x v, opd t x = some v → VR ρ v (ev x)) (fi : Fine s) (r : Rel B ρ s.h w) (h : kConvert P src dst y call t s = .ok x s1) (ho : o.op = .convert src dst y) : SimOp P B ρ s s1 w x (execOp ev o) := by
  unfold kConvert at h
  obtain ⟨a, h1, h2⟩ := withO_inv h
  have ha := he y a h1
  have plain : lift (convertT P src dst a) s = .ok x s1 → SimOp P B ρ s s1 w x (execOp ev o) := by
    intro h2
    obtain ⟨h3, rfl⟩ := lift_inv h2
    have : ∃ q, (convert src dst (ev y)).run P w = .ok q w ∧ VR ρ x q := by
      unfold convertT at h3
      split at h3 <;> first | (cases h3; done) | skip
      · rename_i d k n e1 e2 _
        simp only [VR] at ha; rw [ha]; injection h3 with h3; subst h3
        refine ⟨.int d (d.wrap n), ?_, by simp [VR]⟩
        simp [convert, run_underlying_of e1, run_underlying_of e2, Conv.intToInt]
      · rename_i d q e1 e2 _
        simp only [VR] at ha; rw [ha]; injection h3 with h3; subst h3
        refine ⟨.string q, ?_, by simp [VR]⟩
        cases d <;> simp [convert, run_underlying_of e1, run_underlying_of e2]
    obtain ⟨q, g1, g2⟩ := this
    exact ⟨ρ, w, .value q, Ext.refl _ _ _, by simp [execOp, ho, g1], g2, r, Below.refl _ _⟩
  cases a <;> simp only [] at h2 <;> first | exact plain h2 | skip
  rename_i p n c
  obtain ⟨e, e1, e2, h2⟩ := toText_inv h2
  obtain ⟨h3, h4⟩ := withB_inv h2
  have e3 : P.underlying e = some (.int .u8) := by
    unfold isByte at h3
    split at h3
    · assumption
    · cases h3
  obtain ⟨l, s2, h5, h6⟩ := M.bind_inv h4
  obtain ⟨bs, h7, h8⟩ := withO_inv h6
  obtain ⟨rfl, rfl⟩ := pure_inv h8
  cases p with
  | none =>
    obtain ⟨rfl, rfl, hv⟩ := slice_none ha
    have h5' : (M.pure [] : M (List AV)) s = .ok l s1 := h5
    obtain ⟨rfl, rfl⟩ := pure_inv h5'
    simp only [bytesOf] at h7; injection h7 with h7; subst h7
    refine ⟨ρ, w, .value (.string .empty), Ext.refl _ _ _, ?_, ?_, r, Below.refl _ _⟩
    · simp [execOp, ho, hv, run_convert_bytes_string w src dst e none 0 0 e1 e3 e2, Conv.bytesToString]
    · simp only [VR]; rfl
  | some p =>
    obtain ⟨m, i⟩ := p
    cases c with
    | lost =>
      simp only [VR] at ha
      obtain ⟨rfl, b, N, q, c, e4, hv⟩ := ha
      obtain ⟨_, h5'⟩ := withB_inv (show (withB (Nat.beq 0 0) <| (M.pure [] : M (List AV))) s = .ok l s1 from h5)
      obtain ⟨rfl, rfl⟩ := pure_inv h5'
      simp only [bytesOf] at h7; injection h7 with h7; subst h7
      refine ⟨ρ, w, .value (.string .empty), Ext.refl _ _ _, ?_, by simp only [VR]; rfl, r, Below.refl _ _⟩
      have := run_bytesToString (P := P) w ⟨b, q, none⟩ 0 c [] (by rfl)
      simp [execOp, ho, hv, run_convert_bytes_string w src dst e _ 0 c e1 e3 e2, this]
    | known c0 =>
      have h5' : readCells m i (n * 1) s = .ok l s1 := by rw [firstCells_some (by simp)] at h5; exact h5
      rw [Nat.mul_one] at h5'
      simp only [VR] at ha
      obtain ⟨b, N, e4, hv⟩ := ha
      obtain ⟨a1, a2, a3, a4, vs, a5, a6, a7⟩ := readCells_sim (P := P) fi r h5' e4
      obtain ⟨ns, rfl, rfl⟩ := bytesOf_sim h7 a6
      have := run_bytesToString (P := P) w ⟨b, i, none⟩ n c0 ns a5
      refine ⟨ρ, w, .value (.string (ns.foldl (fun r n => r.push (UInt8.ofNat n.toNat)) ByteArray.empty)), Ext.refl _ _ _, ?_, ?_, by rw [a1]; exact r, Below.refl _ _⟩
      · simp [execOp, ho, hv, run_convert_bytes_string w src dst e _ n c0 e1 e3 e2, this]
      · simp only [VR]; rw [foldl_push]; rfl
    | atLeast lo e5 =>
      have h5' : readCells m i (n * 1) s = .ok l s1 := by rw [firstCells_some (by simp)] at h5; exact h5
      rw [Nat.mul_one] at h5'
      simp only [VR] at ha
      obtain ⟨b, N, c0, e4, hv, _⟩ := ha
      obtain ⟨a1, a2, a3, a4, vs, a5, a6, a7⟩ := readCells_sim (P := P) fi r h5' e4
      obtain ⟨ns, rfl, rfl⟩ := bytesOf_sim h7 a6
      have := run_bytesToString (P := P) w ⟨b, i, none⟩ n c0 ns a5
      refine ⟨ρ, w, .value (.string (ns.foldl (fun r n => r.push (UInt8.ofNat n.toNat)) ByteArray.empty)), Ext.refl _ _ _, ?_, ?_, by rw [a1]; exact r, Below.refl _ _⟩
      · simp [execOp, ho, hv, run_convert_bytes_string w src dst e _ n c0 e1 e3 e2, this]
      · simp only [VR]; rw [foldl_push]; rfl

theorem sim_kMakeInterface {ty : TypeId} {y : Operand} (he : ∀ x v, opd t x = some v → VR ρ v (ev x)) (r : Rel B ρ s.h w) (h : kMakeInterface P ty y call t s = .ok x s1) (ho : o.op = .makeInterface ty y) : SimOp P B ρ s s1 w x (execOp ev o) := by
  unfold kMakeInterface at h
  obtain ⟨a, h1, h2⟩ := withO_inv h
  obtain ⟨h3, rfl⟩ := lift_inv h2
  unfold ifaceOf at h3
  cases e : P.underlying ty with
  | none => rw [e] at h3; cases h3
  | some d =>
    rw [e] at h3
    refine ⟨ρ, w, .value (.iface ty (ev y)), Ext.refl _ _ _, ?_, ?_, r, Below.refl _ _⟩
    · cases d <;> first | (cases h3; done) | simp [execOp, ho, Instr.makeInterface, run_underlying_of e]
    · cases d <;> first | (cases h3; done) | (injection h3 with h3; subst h3; simp only [VR]; exact ⟨_, rfl, he y a h1⟩)

theorem sim_kMakeFunc {fn : Fn} {first captured : Array Operand} (he : ∀ x v, opd t x = some v → VR ρ v (ev x)) (r : Rel B ρ s.h w) (h : kMakeFunc fn first.toList captured.toList call t s = .ok x s1) (ho : o.op = .makeFunc fn first captured) : SimOp P B ρ s s1 w x (execOp ev o) := by
  unfold kMakeFunc at h
  obtain ⟨h0, h1⟩ := withB_inv h
  obtain ⟨f, h2, h3⟩ := withO_inv h1
  obtain ⟨c, h4, h5⟩ := withO_inv h3
  obtain ⟨rfl, rfl⟩ := pure_inv h5
  refine ⟨ρ, w, .value (.func fn (first.map ev) (captured.map ev)), Ext.refl _ _ _, ?_, ?_, r, Below.refl _ _⟩
  · simp [execOp, ho, Instr.makeFunc]
  · simp only [VR]
    refine ⟨by cases fn <;> first | rfl | (simp [isFn] at h0), _, _, rfl, ?_, ?_⟩
    · rw [Array.toList_map]; exact opds_sim he h2
    · rw [Array.toList_map]; exact opds_sim he h4

theorem new_map (r : Rel B ρ s.h w) (hf : Free s.nx s1.nx ρ) {n : Nat} (h : newN (.map [] 0) s = .ok n s1) :
    n = s.nx ∧ Ext s.nx s1.nx ρ (updR ρ n (w.heap.size, 0)) ∧ Rel B (updR ρ n (w.heap.size, 0)) s1.h { w with heap := w.heap.push (.map #[] 0) } := by
  obtain ⟨ht, rfl, rfl⟩ := newN_inv h
  have hnone : ρ s.nx = none := hf s.nx (Nat.le_refl _) (Nat.lt_succ_self _)
  refine ⟨rfl, Ext.upd hnone, r.new ht hnone rfl ⟨#[], rfl, rfl, rfl⟩⟩

theorem sim_kMakeMap {ty : TypeId} {q : Option Operand} (he : ∀ x v, opd t x = some v → VR ρ v (ev x)) (r : Rel B ρ s.h w) (hf : Free s.nx s1.nx ρ) (h : kMakeMap P ty q call t s = .ok x s1) (ho : o.op = .makeMap ty q) : SimOp P B ρ s s1 w x (execOp ev o) := by
  unfold kMakeMap at h
  obtain ⟨u, s2, h1, h2⟩ := M.bind_inv h
  obtain ⟨n, s3, h3, h4⟩ := M.bind_inv h2
  obtain ⟨rfl, rfl⟩ := pure_inv h4
  cases q with
  | none =>
    obtain ⟨_, rfl⟩ := pure_inv h1
    obtain ⟨rfl, e1, e2⟩ := new_map r hf h3
    refine ⟨_, _, .value (.map (some w.heap.size)), e1, ?_, ?_, e2, (Grew.alloc w _).below r.size⟩
    · simp [execOp, ho, Instr.makeMap]
    · simp only [VR]; exact ⟨_, _, updR_self _ _ _, rfl⟩
  | some y =>
    obtain ⟨v, g1, g2⟩ := withO_inv h1
    obtain ⟨i, g3, g4⟩ := withO_inv g2
    obtain ⟨k, _, hv⟩ := (he y v g1).int_inv g3
    have : isMap P ty = true ∧ s2 = s := by
      cases hb : isMap P ty with
      | false => rw [hb] at g4; cases g4
      | true => rw [hb] at g4; cases g4; exact ⟨rfl, rfl⟩
    obtain ⟨hm, rfl⟩ := this
    obtain ⟨rfl, e1, e2⟩ := new_map r hf h3
    refine ⟨_, _, .value (.map (some w.heap.size)), e1, ?_, ?_, e2, (Grew.alloc w _).below r.size⟩
    · unfold isMap at hm
      split at hm
      · rename_i a b e
        simp [execOp, ho, Instr.makeMap, run_underlying_of e, hv, asInt, asIntOf]
      · cases hm
    · simp only [VR]; exact ⟨_, _, updR_self _ _ _, rfl⟩

theorem within_some {i : Int} {len n : Nat} (h : within i len = some n) : i = (n : Int) ∧ n < len := by
  unfold within at h
  cases i with
  | negSucc k => cases h
  | ofNat k =>
    cases hb : Nat.blt k len with
    | false => simp only [hb] at h; cases h
    | true =>
      simp only [hb] at h; injection h with h; subst h
      exact ⟨rfl, by rw [← blt_eq]; exact hb⟩

theorem fieldAddr_sim {ty : TypeId} {a : AV} {v : Value} {f : Nat} (ha : VR ρ a v) (h : fieldAddr P ty a f = some x) : ∃ q, (Instr.fieldAt ty v f).run P w = .ok q w ∧ VR ρ x q := by
  unfold fieldAddr at h
  split at h <;> first | (cases h; done) | skip
  rename_i fs e
  cases e1 : fs[f]? with
  | none => rw [e1] at h; cases h
  | some fd =>
    simp only [e1] at h
    cases e2 : sizeT P fd.type with
    | none => rw [e2] at h; cases h
    | some k =>
      simp only [e2] at h
      cases e3 : Nat.beq k 0 with
      | true => rw [e3] at h; cases h
      | false =>
        simp only [e3] at h
        have hk : ¬ k = 0 := by rw [← beq_eq, e3]; simp
        split at h <;> first | (cases h; done) | skip
        rename_i n i
        injection h with h; subst h
        simp only [VR] at ha
        obtain ⟨b, N, e4, rfl⟩ := ha
        refine ⟨.pointer (some ⟨b, i + fd.offset, none⟩), ?_, ?_⟩
        · simp [Instr.fieldAt, run_underlying_of e, e1, Instr.sureAddr, fieldPlace, run_size_of e2, hk, Addr.add_flat]
        · simp only [VR]; exact ⟨b, N, e4, rfl⟩

theorem sim_kFieldAddr {ty : TypeId} {y : Operand} {f : Nat} (he : ∀ x v, opd t x = some v → VR ρ v (ev x)) (r : Rel B ρ s.h w) (h : kFieldAddr P ty y f call t s = .ok x s1) (ho : o.op = .fieldAddr ty y f) : SimOp P B ρ s s1 w x (execOp ev o) := by
  unfold kFieldAddr at h
  obtain ⟨a, h1, h2⟩ := withO_inv h
  obtain ⟨h3, rfl⟩ := lift_inv h2
  obtain ⟨q, g1, g2⟩ := fieldAddr_sim (P := P) (w := w) (he y a h1) h3
  exact ⟨ρ, w, .value q, Ext.refl _ _ _, by simp [execOp, ho, g1], g2, r, Below.refl _ _⟩

theorem sim_kField {ty : TypeId} {y : Operand} {f : Nat} (he : ∀ x v, opd t x = some v → VR ρ v (ev x)) (r : Rel B ρ s.h w) (h : kField P ty y f call t s = .ok x s1) (ho : o.op = .field ty y f) : SimOp P B ρ s s1 w x (execOp ev o) := by
  unfold kField at h
  obtain ⟨a, h1, h2⟩ := withO_inv h
  obtain ⟨h3, rfl⟩ := lift_inv h2
  have ha := he y a h1
  unfold fieldOf at h3
  split at h3 <;> first | (cases h3; done) | skip
  rename_i fs cs e
  cases e1 : fs[f]? with
  | none => rw [e1] at h3; cases h3
  | some fd =>
    simp only [e1] at h3
    simp only [VR] at ha
    obtain ⟨ds, hv, hc⟩ := ha
    obtain ⟨q, g1, g2⟩ := partT_sim (P := P) (w := w) hc h3
    exact ⟨ρ, w, .value q, Ext.refl _ _ _, by simp [execOp, ho, hv, Instr.field, run_underlying_of e, e1, asAgg, g1], g2, r, Below.refl _ _⟩

theorem sim_kIndexAddr {ty : TypeId} {y z : Operand} (he : ∀ x v, opd t x = some v → VR ρ v (ev x)) (r : Rel B ρ s.h w) (h : kIndexAddr P ty y z call t s = .ok x s1) (ho : o.op = .indexAddr ty y z) : SimOp P B ρ s s1 w x (execOp ev o) := by
  unfold kIndexAddr at h
  obtain ⟨a, h1, h2⟩ := withO_inv h
  obtain ⟨ix, h3, h4⟩ := withO_inv h2
  obtain ⟨h5, rfl⟩ := lift_inv h4
  have ha := he y a h1
  unfold indexAddr at h5
  cases ei : intOf ix with
  | none => rw [ei] at h5; cases h5
  | some i =>
    simp only [ei] at h5
    obtain ⟨k, _, hi⟩ := (he z ix h3).int_inv ei
    have : ∃ q, (Instr.indexAt ty (ev y) (ev z)).run P w = .ok q w ∧ VR ρ x q := by
      rw [hi]
      split at h5 <;> first | (cases h5; done) | skip
      · rename_i len e n off e1
        split at h5 <;> first | (cases h5; done) | skip
        rename_i j m e2 e3
        injection h5 with h5; subst h5
        obtain ⟨rfl, hj⟩ := within_some e2
        simp only [VR] at ha
        obtain ⟨b, N, e4, hv⟩ := ha
        rw [hv]
        refine ⟨.pointer (some ⟨b, off + j * m, none⟩), ?_, by simp only [VR]; exact ⟨b, N, e4, rfl⟩⟩
        have hr : (0 : Int) ≤ (j : Int) ∧ (j : Int) < (len : Int) := ⟨by omega, by omega⟩
        simp [Instr.indexAt, asIntOf, run_underlying_of e1, Instr.sureAddr, hr, run_size_of e3, Addr.add_flat, hj]
      · rename_i e n off len cap e1
        split at h5 <;> first | (cases h5; done) | skip
        rename_i j m e2 e3
        injection h5 with h5; subst h5
        obtain ⟨rfl, hj⟩ := within_some e2
        have hr : (0 : Int) ≤ (j : Int) ∧ (j : Int) < (len : Int) := ⟨by omega, by omega⟩
        have fin : ∀ b N c, ρ n = some (b, N) → ev y = .slice (some ⟨b, off, none⟩) len c → ∃ q, (Instr.indexAt ty (ev y) (.int k j)).run P w = .ok q w ∧ VR ρ (.ptr (some (n, off + j * m))) q := by
          intro b N c e4 hv
          rw [hv]
          refine ⟨.pointer (some ⟨b, off + j * m, none⟩), ?_, by simp only [VR]; exact ⟨b, N, e4, rfl⟩⟩
          simp [Instr.indexAt, asIntOf, run_underlying_of e1, hr, run_size_of e3, Addr.add_flat, hj]
        cases cap with
        | known c => simp only [VR] at ha; obtain ⟨b, N, e4, hv⟩ := ha; exact fin b N c e4 hv
        | atLeast lo e5 => simp only [VR] at ha; obtain ⟨b, N, c, e4, hv, _⟩ := ha; exact fin b N c e4 hv
        | lost => simp only [VR] at ha; omega
    obtain ⟨q, g1, g2⟩ := this
    exact ⟨ρ, w, .value q, Ext.refl _ _ _, by simp [execOp, ho, g1], g2, r, Below.refl _ _⟩

theorem sim_kIndex {ty : TypeId} {y z : Operand} (he : ∀ x v, opd t x = some v → VR ρ v (ev x)) (r : Rel B ρ s.h w) (h : kIndex P ty y z call t s = .ok x s1) (ho : o.op = .index ty y z) : SimOp P B ρ s s1 w x (execOp ev o) := by
  unfold kIndex at h
  obtain ⟨a, h1, h2⟩ := withO_inv h
  obtain ⟨ix, h3, h4⟩ := withO_inv h2
  obtain ⟨h5, rfl⟩ := lift_inv h4
  have ha := he y a h1
  unfold indexOf at h5
  cases ei : intOf ix with
  | none => rw [ei] at h5; cases h5
  | some i =>
    simp only [ei] at h5
    obtain ⟨k, _, hi⟩ := (he z ix h3).int_inv ei
    have : ∃ q, (Instr.index ty (ev y) (ev z)).run P w = .ok q w ∧ VR ρ x q := by
      rw [hi]
      split at h5 <;> first | (cases h5; done) | skip
      · rename_i len e cs e1
        split at h5 <;> first | (cases h5; done) | skip
        rename_i j m e2 e3
        obtain ⟨rfl, hj⟩ := within_some e2
        simp only [VR] at ha
        obtain ⟨ds, hv, hc⟩ := ha
        rw [hv]
        obtain ⟨q, g1, g2⟩ := partT_sim (P := P) (w := w) hc h5
        have hr : (0 : Int) ≤ (j : Int) ∧ (j : Int) < (len : Int) := ⟨by omega, by omega⟩
        refine ⟨q, ?_, g2⟩
        simp [Instr.index, asIntOf, run_underlying_of e1, hr, run_size_of e3, g1, hj]
      · rename_i q e1
        split at h5 <;> first | (cases h5; done) | skip
        rename_i j e2
        split at h5 <;> first | (cases h5; done) | skip
        rename_i b e3
        injection h5 with h5; subst h5
        obtain ⟨rfl, hj⟩ := within_some e2
        simp only [VR] at ha
        rw [ha]
        refine ⟨.int .u8 b.toNat, ?_, by simp [VR]⟩
        have hb : q[j]? = some b := by
          obtain ⟨⟨l⟩⟩ := q
          have e3' : l[j]? = some b := e3
          have hlt : j < l.length := (List.getElem?_eq_some_iff.1 e3').1
          have : (ByteArray.mk ⟨l⟩)[j]? = some ((ByteArray.mk ⟨l⟩)[j]'hj) := getElem?_pos _ _ _
          rw [this]
          have hx : (ByteArray.mk ⟨l⟩)[j]'hj = l[j]'hlt := rfl
          rw [hx, ← List.getElem?_eq_getElem hlt, e3']
        simp [Instr.index, asIntOf, run_underlying_of e1, hb]
    obtain ⟨q, g1, g2⟩ := this
    exact ⟨ρ, w, .value q, Ext.refl _ _ _, by simp [execOp, ho, g1], g2, r, Below.refl _ _⟩

theorem sim_kAssert {xt ty : TypeId} {ok : Bool} {y : Operand} (he : ∀ x v, opd t x = some v → VR ρ v (ev x)) (r : Rel B ρ s.h w) (h : kAssert P ty ok y call t s = .ok x s1) (ho : o.op = .typeAssert y xt ty ok) : SimOp P B ρ s s1 w x (execOp ev o) := by
  unfold kAssert at h
  obtain ⟨a, h1, h2⟩ := withO_inv h
  obtain ⟨h3, rfl⟩ := lift_inv h2
  have ha := he y a h1
  have : ∃ q, (Instr.typeAssert (ev y) xt ty ok).run P w = .ok q w ∧ VR ρ x q := by
    unfold assertT at h3
    cases e : P.underlying ty with
    | none => rw [e] at h3; cases h3
    | some d =>
      simp only [e] at h3
      have notIface : ∀ ms, d ≠ .interface ms := by intro ms e2; subst e2; cases h3
      have h3' : assertV P ty ok a = some x := by
        cases d <;> first | exact h3 | exact absurd rfl (notIface _)
      clear h3
      cases a <;> simp only [assertV] at h3' <;> first | (cases h3'; done) | skip
      · rename_i ti z
        simp only [VR] at ha
        obtain ⟨v, hv, hz⟩ := ha
        rw [hv]
        cases hb : Nat.beq ti ty with
        | true =>
          simp only [hb] at h3'
          have := beqN_true.1 hb; subst this
          cases ok with
          | true =>
            injection h3' with h3'; subst h3'
            refine ⟨.tuple #[v, .bool true], ?_, by simp only [VR, VRs]; exact ⟨_, rfl, _, _, rfl, hz, _, _, rfl, rfl, rfl⟩⟩
            cases d <;> first | (exfalso; exact notIface _ rfl) | (simp [Instr.typeAssert, run_underlying_of e]; done)
          | false =>
            injection h3' with h3'; subst h3'
            refine ⟨v, ?_, hz⟩
            cases d <;> first | (exfalso; exact notIface _ rfl) | (simp [Instr.typeAssert, run_underlying_of e]; done)
        | false =>
          simp only [hb] at h3'
          have hne : ¬ ti = ty := by rw [← beq_eq, hb]; simp
          cases ok with
          | false => cases h3'
          | true =>
            simp only [] at h3'
            cases ez : zeroT P ty with
            | none => rw [ez] at h3'; cases h3'
            | some z0 =>
              simp only [ez] at h3'; injection h3' with h3'; subst h3'
              obtain ⟨vz, g1, g2⟩ := run_zero_of (P := P) (w := w) ρ ez
              refine ⟨.tuple #[vz, .bool false], ?_, by simp only [VR, VRs]; exact ⟨_, rfl, _, _, rfl, g2, _, _, rfl, rfl, rfl⟩⟩
              cases d <;> first | (exfalso; exact notIface _ rfl) | (simp [Instr.typeAssert, run_underlying_of e, hne, g1]; done)
      · simp only [VR] at ha
        rw [ha]
        cases ok with
        | false => cases h3'
        | true =>
          simp only [] at h3'
          cases ez : zeroT P ty with
          | none => rw [ez] at h3'; cases h3'
          | some z0 =>
            simp only [ez] at h3'; injection h3' with h3'; subst h3'
            obtain ⟨vz, g1, g2⟩ := run_zero_of (P := P) (w := w) ρ ez
            refine ⟨.tuple #[vz, .bool false], ?_, by simp only [VR, VRs]; exact ⟨_, rfl, _, _, rfl, g2, _, _, rfl, rfl, rfl⟩⟩
            cases d <;> first | (exfalso; exact notIface _ rfl) | (simp [Instr.typeAssert, run_underlying_of e, g1]; done)
  obtain ⟨q, g1, g2⟩ := this
  exact ⟨ρ, w, .value q, Ext.refl _ _ _, by simp [execOp, ho, g1], g2, r, Below.refl _ _⟩

theorem sim_kExtract {y : Operand} {i : Nat} (he : ∀ x v, opd t x = some v → VR ρ v (ev x)) (r : Rel B ρ s.h w) (h : kExtract y i call t s = .ok x s1) (ho : o.op = .extract y i) : SimOp P B ρ s s1 w x (execOp ev o) := by
  unfold kExtract at h
  obtain ⟨a, h1, h2⟩ := withO_inv h
  obtain ⟨h3, rfl⟩ := lift_inv h2
  have ha := he y a h1
  unfold partOf at h3
  split at h3 <;> first | (cases h3; done) | skip
  rename_i l
  simp only [VR] at ha
  obtain ⟨vs, hv, hl⟩ := ha
  obtain ⟨q, g1, g2⟩ := hl.get i x h3
  have g1' : vs[i]? = some q := by simpa using g1
  exact ⟨ρ, w, .value q, Ext.refl _ _ _, by simp [execOp, ho, hv, Instr.extract, g1'], g2, r, Below.refl _ _⟩
end
end Go.Rn
