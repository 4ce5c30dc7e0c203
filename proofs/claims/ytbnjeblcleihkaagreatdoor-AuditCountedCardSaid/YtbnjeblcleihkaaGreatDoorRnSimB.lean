/- More operations: conversions, addresses, parts, slices of rows, what is made. -/
import Derived.Test.YtbnjeblcleihkaaGreatDoorRnSimA
import Derived.Laws.BytesString
import Derived.IntWalk
namespace Go.Rn
open Go.RowKit
section
variable {P : Program} {B : Base} {ρ : Ren} {w : World} {s s1 : AS} {x : AV} {call : Caller} {t : Tr AV} {ev : Operand → Value} {o : Oper}
theorem foldl_push (ns : List Int) : ∀ (b : ByteArray), ns.foldl (fun r n => r.push (UInt8.ofNat n.toNat)) b = ⟨(b.data.toList ++ ns.map (fun n => UInt8.ofNat n.toNat)).toArray⟩ := by
  induction ns with
  | nil => intro b; obtain ⟨⟨l⟩⟩ := b; simp
  | cons n ns ih =>
    intro b
    rw [List.foldl_cons, ih]
    obtain ⟨⟨l⟩⟩ := b
    simp [ByteArray.push]
theorem bytesOf_sim : ∀ {l : List AV} {bs : List UInt8} {vs : List Value}, bytesOf l = some bs → VRs ρ l vs → ∃ ns : List Int, vs = ns.map (Value.int .u8) ∧ bs = ns.map fun n => UInt8.ofNat n.toNat
  | [], bs, vs, h, k => by
    simp only [bytesOf] at h; injection h with h; subst h
    simp only [VRs] at k; subst k
    exact ⟨[], rfl, rfl⟩
  | y :: l, bs, vs, h, k => by
    cases y <;> (try simp only [bytesOf] at h) <;> first | (cases h; done) | skip
    rename_i kd n
    cases kd <;> simp only [bytesOf] at h <;> first | (cases h; done) | skip
    cases e : bytesOf l with
    | none => rw [e] at h; cases h
    | some r =>
      simp only [e] at h; injection h with h; subst h
      simp only [VRs, VR] at k
      obtain ⟨v, ys, rfl, rfl, k2⟩ := k
      obtain ⟨ns, rfl, rfl⟩ := bytesOf_sim e k2
      exact ⟨n :: ns, rfl, rfl⟩
theorem firstCells_some {size n m i len : Nat} {c : Cap} (h : c ≠ .lost) : firstCells size n (.slice (some (m, i)) len c) = readCells m i (n * size) := by
  cases len <;> cases c <;> first | rfl | exact absurd rfl h
theorem toText_inv {src dst : TypeId} {a : AV} {n : Nat} (h : toText P src dst a n s = .ok x s1) :
    ∃ e, P.underlying src = some (.slice e) ∧ P.underlying dst = some .string ∧
      (withB (isByte P e) <| (firstCells 1 n a).bind fun l => withO (bytesOf l) fun b => M.pure (.str ⟨b.toArray⟩)) s = .ok x s1 := by
  unfold toText at h
  generalize P.underlying src = u at h ⊢
  generalize P.underlying dst = v at h ⊢
  rcases u with _ | d1
  · cases h
  · cases d1 <;> first | (cases h; done) | skip
    rcases v with _ | d2
    · cases h
    · cases d2 <;> first | (cases h; done) | skip
      exact ⟨_, rfl, rfl, h⟩
theorem toText_op {src dst : TypeId} {y : Operand} {p : Option (Nat × Nat)} {n : Nat} {c : Cap} (ha : VR ρ (.slice p n c) (ev y)) (fi : Fine s) (r : Rel B ρ s.h w) (h2 : toText P src dst (.slice p n c) n s = .ok x s1) (ho : o.op = .convert src dst y) : SimOp P B ρ s s1 w x (execOp ev o) := by
  obtain ⟨e, e1, e2, h2⟩ := toText_inv h2
  obtain ⟨h3, h4⟩ := withB_inv h2
  have e3 : P.underlying e = some (.int .u8) := by
    unfold isByte at h3
    split at h3
    · assumption
    · cases h3
  obtain ⟨l, s2, h5, h6⟩ := M.bind_inv h4
  obtain ⟨bs, h7, h8⟩ := withO_inv h6
  obtain ⟨rfl, rfl⟩ := pure_inv h8
  cases p with
  | none =>
    obtain ⟨rfl, rfl, hv⟩ := slice_none ha
    have h5' : (M.pure [] : M (List AV)) s = .ok l s1 := h5
    obtain ⟨rfl, rfl⟩ := pure_inv h5'
    simp only [bytesOf] at h7; injection h7 with h7; subst h7
    refine ⟨ρ, w, .value (.string .empty), Ext.refl _ _ _, ?_, ?_, r, Bel.refl _ _⟩
    · simp [execOp, ho, hv, run_convert_bytes_string w src dst e none 0 0 e1 e3 e2, Conv.bytesToString]
    · simp only [VR]; rfl
  | some p =>
    obtain ⟨m, i⟩ := p
    cases c with
    | lost =>
      simp only [VR] at ha
      obtain ⟨rfl, b, N, q, c, e4, hv⟩ := ha
      obtain ⟨_, h5'⟩ := withB_inv (show (withB (Nat.beq 0 0) <| (M.pure [] : M (List AV))) s = .ok l s1 from h5)
      obtain ⟨rfl, rfl⟩ := pure_inv h5'
      simp only [bytesOf] at h7; injection h7 with h7; subst h7
      refine ⟨ρ, w, .value (.string .empty), Ext.refl _ _ _, ?_, by simp only [VR]; rfl, r, Bel.refl _ _⟩
      have := run_bytesToString (P := P) w ⟨b, q, none⟩ 0 c [] (by rfl)
      simp [execOp, ho, hv, run_convert_bytes_string w src dst e _ 0 c e1 e3 e2, this]
    | known c0 =>
      have h5' : readCells m i (n * 1) s = .ok l s1 := by rw [firstCells_some (by simp)] at h5; exact h5
      rw [Nat.mul_one] at h5'
      simp only [VR] at ha
      obtain ⟨b, N, e4, hv⟩ := ha
      obtain ⟨a1, a2, a3, a4, vs, a5, a6, a7⟩ := readCells_sim (P := P) fi r h5' e4
      obtain ⟨ns, rfl, rfl⟩ := bytesOf_sim h7 a6
      have := run_bytesToString (P := P) w ⟨b, i, none⟩ n c0 ns a5
      refine ⟨ρ, w, .value (.string (ns.foldl (fun r n => r.push (UInt8.ofNat n.toNat)) ByteArray.empty)), Ext.refl _ _ _, ?_, ?_, by rw [a1]; exact r, Bel.refl _ _⟩
      · simp [execOp, ho, hv, run_convert_bytes_string w src dst e _ n c0 e1 e3 e2, this]
      · simp only [VR]; rw [foldl_push]; rfl
    | atLeast lo e5 =>
      have h5' : readCells m i (n * 1) s = .ok l s1 := by rw [firstCells_some (by simp)] at h5; exact h5
      rw [Nat.mul_one] at h5'
      simp only [VR] at ha
      obtain ⟨b, N, c0, e4, hv, _⟩ := ha
      obtain ⟨a1, a2, a3, a4, vs, a5, a6, a7⟩ := readCells_sim (P := P) fi r h5' e4
      obtain ⟨ns, rfl, rfl⟩ := bytesOf_sim h7 a6
      have := run_bytesToString (P := P) w ⟨b, i, none⟩ n c0 ns a5
      refine ⟨ρ, w, .value (.string (ns.foldl (fun r n => r.push (UInt8.ofNat n.toNat)) ByteArray.empty)), Ext.refl _ _ _, ?_, ?_, by rw [a1]; exact r, Bel.refl _ _⟩
      · simp [execOp, ho, hv, run_convert_bytes_string w src dst e _ n c0 e1 e3 e2, this]
      · simp only [VR]; rw [foldl_push]; rfl
theorem gather_zero (x : AV) : ∀ (k off : Nat), gather .nil [x] k off = some (List.replicate k x)
  | 0, _ => rfl
  | k + 1, off => by
    have : cellAt .nil [x] off = some x := by
      unfold cellAt; rw [Tr.get_nil]; simp [Nat.mod_one]
    simp only [gather, this, gather_zero x k (off + 1), List.replicate_succ]
theorem bytes_zero : ∀ k : Nat, bytesOf (List.replicate k (.int .u8 0)) = some (List.replicate k 0)
  | 0 => rfl
  | k + 1 => by
    simp only [List.replicate_succ, bytesOf, bytes_zero k]
    rfl
theorem toZero_inv {src dst : TypeId} {a : AV} {n : Nat} (h : toZero P src dst a n s = .ok x s1) :
    ∃ e, P.underlying src = some (.slice e) ∧ P.underlying dst = some .string ∧ isByte P e = true ∧ zeroOf a n s = .ok x s1 := by
  unfold toZero at h
  generalize P.underlying src = u at h ⊢
  generalize P.underlying dst = v at h ⊢
  rcases u with _ | d1
  · cases h
  · cases d1 <;> first | (cases h; done) | skip
    rcases v with _ | d2
    · cases h
    · cases d2 <;> first | (cases h; done) | skip
      obtain ⟨h1, h2⟩ := withB_inv h
      exact ⟨_, rfl, rfl, h1, h2⟩
theorem zeroRow_inv {o : AObj} {n : Nat} (h : zeroRow o n = true) : ∃ m, o = .cells m .nil [.int .u8 0] ∧ Nat.ble n m = true := by
  unfold zeroRow at h
  cases o <;> first | (cases h; done) | skip
  rename_i m t z
  cases t <;> first | (cases h; done) | skip
  cases z with
  | nil => cases h
  | cons y l =>
    cases l with
    | cons _ _ => cases y <;> (try cases h) <;> (rename_i k _; cases k <;> cases h)
    | nil =>
      cases y <;> first | (cases h; done) | skip
      rename_i k v
      cases k <;> first | (cases h; done) | skip
      obtain ⟨h1, h2⟩ := and_true.1 h
      have : v = 0 := by simpa using h2
      subst this
      exact ⟨m, rfl, h1⟩
theorem toZero_text {src dst : TypeId} {p : Option (Nat × Nat)} {n : Nat} {c : Cap} {x : AV} (hn : n ≠ 0) (h : toZero P src dst (.slice p n c) n s = .ok x s1) : x = .zstr n ∧ toText P src dst (.slice p n c) n s = .ok (.str ⟨(List.replicate n (0 : UInt8)).toArray⟩) s1 := by
  obtain ⟨e, e1, e2, h3, h4⟩ := toZero_inv h
  cases p with
  | none => cases h4
  | some p =>
    obtain ⟨r0, o0⟩ := p
    cases c with
    | known c0 =>
      obtain ⟨ho, h4⟩ := withB_inv (show (withB (Nat.beq o0 0) <| (rdN r0).bind fun o => withB (zeroRow o n) <| M.pure (.zstr n)) s = .ok x s1 from h4)
      have ho' := beqN_true.1 ho
      subst ho'
      obtain ⟨ob, s1, h5, h6⟩ := M.bind_inv h4
      obtain ⟨h7, h8⟩ := withB_inv h6
      obtain ⟨rfl, rfl⟩ := pure_inv h8
      obtain ⟨m, rfl, h9⟩ := zeroRow_inv h7
      refine ⟨rfl, ?_⟩
      have hr : readCells r0 0 n s = .ok (List.replicate n (.int .u8 0)) s1 := by
        obtain ⟨k, rfl⟩ : ∃ k, n = k + 1 := ⟨n - 1, by omega⟩
        show ((rdN r0).bind fun o => match o with
          | .cells m t z => withB (Nat.ble (0 + (k + 1)) m) <| lift (gather t z (k + 1) 0)
          | .ro m t => withB (Nat.ble (0 + (k + 1)) m) <| lift (gather t [] (k + 1) 0)
          | _ => fail) s = _
        rw [M.bind_ok h5]
        show withB (Nat.ble (0 + (k + 1)) m) (lift (gather .nil [.int .u8 0] (k + 1) 0)) s1 = _
        rw [Nat.zero_add, h9, withB_true, gather_zero]
        rfl
      have hf : firstCells 1 n (.slice (some (r0, 0)) n (.known c0)) s = .ok (List.replicate n (.int .u8 0)) s1 := by
        rw [firstCells_some (by simp), Nat.mul_one]; exact hr
      have : toText P src dst (.slice (some (r0, 0)) n (.known c0)) n = (firstCells 1 n (.slice (some (r0, 0)) n (.known c0))).bind fun l => withO (bytesOf l) fun b => M.pure (.str ⟨b.toArray⟩) := by
        unfold toText
        simp only [e1, e2, h3, withB_true]
      rw [this, M.bind_ok hf, bytes_zero]
      rfl
    | _ => cases h4
theorem sim_kConvert {src dst : TypeId} {y : Operand} (he : ∀ x v, opd t x = some v → VR ρ v (ev x)) (fi : Fine s) (r : Rel B ρ s.h w) (h : kConvert P src dst y call t s = .ok x s1) (ho : o.op = .convert src dst y) : SimOp P B ρ s s1 w x (execOp ev o) := by
  unfold kConvert at h
  obtain ⟨a, h1, h2⟩ := withO_inv h
  have ha := he y a h1
  have plain : lift (convertT P src dst a) s = .ok x s1 → SimOp P B ρ s s1 w x (execOp ev o) := by
    intro h2
    obtain ⟨h3, rfl⟩ := lift_inv h2
    have : ∃ q, (convert src dst (ev y)).run P w = .ok q w ∧ VR ρ x q := by
      unfold convertT at h3
      split at h3 <;> first | (cases h3; done) | skip
      · rename_i d k n e1 e2 _
        simp only [VR] at ha; rw [ha]; injection h3 with h3; subst h3
        refine ⟨.int d (d.wrap n), ?_, by simp [VR]⟩
        simp [convert, run_underlying_of e1, run_underlying_of e2, Conv.intToInt]
      · rename_i d q e1 e2 _
        simp only [VR] at ha; rw [ha]; injection h3 with h3; subst h3
        refine ⟨.string q, ?_, by simp [VR]⟩
        cases d <;> simp [convert, run_underlying_of e1, run_underlying_of e2]
    obtain ⟨q, g1, g2⟩ := this
    exact ⟨ρ, w, .value q, Ext.refl _ _ _, by simp [execOp, ho, g1], g2, r, Bel.refl _ _⟩
  cases a <;> simp only [] at h2 <;> first | exact plain h2 | skip
  rename_i p n c
  have text : ∀ x : AV, toText P src dst (.slice p n c) n s = .ok x s1 → SimOp P B ρ s s1 w x (execOp ev o) := by
    intro x h2
    exact toText_op ha fi r h2 ho
  cases hb : Nat.blt 1048576 n with
  | false => rw [hb] at h2; exact text x h2
  | true =>
    rw [hb] at h2
    have hn : n ≠ 0 := by intro e; subst e; cases hb
    obtain ⟨rfl, h3⟩ := toZero_text hn h2
    obtain ⟨σ, w', nv, a1, a2, a3, a4, a5⟩ := text _ h3
    refine ⟨σ, w', nv, a1, a2, ?_, a4, a5⟩
    cases nv with
    | value v => simp only [VR] at a3 ⊢; exact a3
    | skip => cases a3
    | _ => cases a3
theorem sim_kMakeInterface {ty : TypeId} {y : Operand} (he : ∀ x v, opd t x = some v → VR ρ v (ev x)) (r : Rel B ρ s.h w) (h : kMakeInterface P ty y call t s = .ok x s1) (ho : o.op = .makeInterface ty y) : SimOp P B ρ s s1 w x (execOp ev o) := by
  unfold kMakeInterface at h
  obtain ⟨a, h1, h2⟩ := withO_inv h
  obtain ⟨h3, rfl⟩ := lift_inv h2
  unfold ifaceOf at h3
  cases e : P.underlying ty with
  | none => rw [e] at h3; cases h3
  | some d =>
    rw [e] at h3
    refine ⟨ρ, w, .value (.iface ty (ev y)), Ext.refl _ _ _, ?_, ?_, r, Bel.refl _ _⟩
    · cases d <;> first | (cases h3; done) | simp [execOp, ho, Instr.makeInterface, run_underlying_of e]
    · cases d <;> first | (cases h3; done) | (injection h3 with h3; subst h3; simp only [VR]; exact ⟨_, rfl, he y a h1⟩)
theorem sim_kMakeFunc {fn : Fn} {first captured : Array Operand} (he : ∀ x v, opd t x = some v → VR ρ v (ev x)) (r : Rel B ρ s.h w) (h : kMakeFunc fn first.toList captured.toList call t s = .ok x s1) (ho : o.op = .makeFunc fn first captured) : SimOp P B ρ s s1 w x (execOp ev o) := by
  unfold kMakeFunc at h
  obtain ⟨h0, h1⟩ := withB_inv h
  obtain ⟨f, h2, h3⟩ := withO_inv h1
  obtain ⟨c, h4, h5⟩ := withO_inv h3
  obtain ⟨rfl, rfl⟩ := pure_inv h5
  refine ⟨ρ, w, .value (.func fn (first.map ev) (captured.map ev)), Ext.refl _ _ _, ?_, ?_, r, Bel.refl _ _⟩
  · simp [execOp, ho, Instr.makeFunc]
  · simp only [VR]
    refine ⟨by cases fn <;> first | rfl | (simp [isFn] at h0), _, _, rfl, ?_, ?_⟩
    · rw [Array.toList_map]; exact opds_sim he h2
    · rw [Array.toList_map]; exact opds_sim he h4
theorem new_map (r : Rel B ρ s.h w) (hf : Free s.nx s1.nx ρ) {n : Nat} (h : newN (.map [] 0) s = .ok n s1) :
    n = s.nx ∧ Ext s.nx s1.nx ρ (updR ρ n (w.heap.size, 0)) ∧ Rel B (updR ρ n (w.heap.size, 0)) s1.h { w with heap := w.heap.push (.map #[] 0) } := by
  obtain ⟨ht, rfl, rfl⟩ := newN_inv h
  have hnone : ρ s.nx = none := hf s.nx (Nat.le_refl _) (Nat.lt_succ_self _)
  refine ⟨rfl, Ext.upd hnone, r.new ht hnone rfl ⟨#[], rfl, rfl, rfl⟩⟩
theorem sim_kMakeMap {ty : TypeId} {q : Option Operand} (he : ∀ x v, opd t x = some v → VR ρ v (ev x)) (r : Rel B ρ s.h w) (hf : Free s.nx s1.nx ρ) (h : kMakeMap P ty q call t s = .ok x s1) (ho : o.op = .makeMap ty q) : SimOp P B ρ s s1 w x (execOp ev o) := by
  unfold kMakeMap at h
  obtain ⟨u, s2, h1, h2⟩ := M.bind_inv h
  obtain ⟨n, s3, h3, h4⟩ := M.bind_inv h2
  obtain ⟨rfl, rfl⟩ := pure_inv h4
  cases q with
  | none =>
    obtain ⟨_, rfl⟩ := pure_inv h1
    obtain ⟨rfl, e1, e2⟩ := new_map r hf h3
    refine ⟨_, _, .value (.map (some w.heap.size)), e1, ?_, ?_, e2, (Grew.alloc w _).below r.size⟩
    · simp [execOp, ho, Instr.makeMap]
    · simp only [VR]; exact ⟨_, _, updR_self _ _ _, rfl⟩
  | some y =>
    obtain ⟨v, g1, g2⟩ := withO_inv h1
    obtain ⟨i, g3, g4⟩ := withO_inv g2
    obtain ⟨k, _, hv⟩ := (he y v g1).int_inv g3
    have : isMap P ty = true ∧ s2 = s := by
      cases hb : isMap P ty with
      | false => rw [hb] at g4; cases g4
      | true => rw [hb] at g4; cases g4; exact ⟨rfl, rfl⟩
    obtain ⟨hm, rfl⟩ := this
    obtain ⟨rfl, e1, e2⟩ := new_map r hf h3
    refine ⟨_, _, .value (.map (some w.heap.size)), e1, ?_, ?_, e2, (Grew.alloc w _).below r.size⟩
    · unfold isMap at hm
      split at hm
      · rename_i a b e
        simp [execOp, ho, Instr.makeMap, run_underlying_of e, hv, asInt, asIntOf]
      · cases hm
    · simp only [VR]; exact ⟨_, _, updR_self _ _ _, rfl⟩
theorem within_some {i : Int} {len n : Nat} (h : within i len = some n) : i = (n : Int) ∧ n < len := by
  unfold within at h
  cases i with
  | negSucc k => cases h
  | ofNat k =>
    cases hb : Nat.blt k len with
    | false => simp only [hb] at h; cases h
    | true =>
      simp only [hb] at h; injection h with h; subst h
      exact ⟨rfl, by rw [← blt_eq]; exact hb⟩
theorem fieldAddr_sim {ty : TypeId} {a : AV} {v : Value} {f : Nat} (ha : VR ρ a v) (h : fieldAddr P ty a f = some x) : ∃ q, (Instr.fieldAt ty v f).run P w = .ok q w ∧ VR ρ x q := by
  unfold fieldAddr at h
  split at h <;> first | (cases h; done) | skip
  rename_i fs e
  cases e1 : fs[f]? with
  | none => rw [e1] at h; cases h
  | some fd =>
    simp only [e1] at h
    cases e2 : sizeT P fd.type with
    | none => rw [e2] at h; cases h
    | some k =>
      simp only [e2] at h
      cases e3 : Nat.beq k 0 with
      | true => rw [e3] at h; cases h
      | false =>
        simp only [e3] at h
        have hk : ¬ k = 0 := by rw [← beq_eq, e3]; simp
        split at h <;> first | (cases h; done) | skip
        · rename_i n i
          injection h with h; subst h
          simp only [VR] at ha
          obtain ⟨b, N, e4, rfl⟩ := ha
          refine ⟨.pointer (some ⟨b, i + fd.offset, none⟩), ?_, ?_⟩
          · simp [Instr.fieldAt, run_underlying_of e, e1, Instr.sureAddr, fieldPlace, run_size_of e2, hk, Addr.add_flat]
          · simp only [VR]; exact ⟨b, N, e4, rfl⟩
        · rename_i n i
          injection h with h; subst h
          simp only [VR] at ha
          obtain ⟨b, sh, e4, rfl⟩ := ha
          refine ⟨.pointer (some ⟨b, sh + i + fd.offset, none⟩), ?_, ?_⟩
          · simp [Instr.fieldAt, run_underlying_of e, e1, Instr.sureAddr, fieldPlace, run_size_of e2, hk, Addr.add_flat]
          · simp only [VR]; exact ⟨b, sh, e4, by rw [Nat.add_assoc]⟩
theorem sim_kFieldAddr {ty : TypeId} {y : Operand} {f : Nat} (he : ∀ x v, opd t x = some v → VR ρ v (ev x)) (r : Rel B ρ s.h w) (h : kFieldAddr P ty y f call t s = .ok x s1) (ho : o.op = .fieldAddr ty y f) : SimOp P B ρ s s1 w x (execOp ev o) := by
  unfold kFieldAddr at h
  obtain ⟨a, h1, h2⟩ := withO_inv h
  obtain ⟨h3, rfl⟩ := lift_inv h2
  obtain ⟨q, g1, g2⟩ := fieldAddr_sim (P := P) (w := w) (he y a h1) h3
  exact ⟨ρ, w, .value q, Ext.refl _ _ _, by simp [execOp, ho, g1], g2, r, Bel.refl _ _⟩
theorem sim_kField {ty : TypeId} {y : Operand} {f : Nat} (he : ∀ x v, opd t x = some v → VR ρ v (ev x)) (r : Rel B ρ s.h w) (h : kField P ty y f call t s = .ok x s1) (ho : o.op = .field ty y f) : SimOp P B ρ s s1 w x (execOp ev o) := by
  unfold kField at h
  obtain ⟨a, h1, h2⟩ := withO_inv h
  obtain ⟨h3, rfl⟩ := lift_inv h2
  have ha := he y a h1
  unfold fieldOf at h3
  split at h3 <;> first | (cases h3; done) | skip
  rename_i fs cs e
  cases e1 : fs[f]? with
  | none => rw [e1] at h3; cases h3
  | some fd =>
    simp only [e1] at h3
    simp only [VR] at ha
    obtain ⟨ds, hv, hc⟩ := ha
    obtain ⟨q, g1, g2⟩ := partT_sim (P := P) (w := w) hc h3
    exact ⟨ρ, w, .value q, Ext.refl _ _ _, by simp [execOp, ho, hv, Instr.field, run_underlying_of e, e1, asAgg, g1], g2, r, Bel.refl _ _⟩
theorem sim_kIndexAddr {ty : TypeId} {y z : Operand} (he : ∀ x v, opd t x = some v → VR ρ v (ev x)) (r : Rel B ρ s.h w) (h : kIndexAddr P ty y z call t s = .ok x s1) (ho : o.op = .indexAddr ty y z) : SimOp P B ρ s s1 w x (execOp ev o) := by
  unfold kIndexAddr at h
  obtain ⟨a, h1, h2⟩ := withO_inv h
  obtain ⟨ix, h3, h4⟩ := withO_inv h2
  obtain ⟨h5, rfl⟩ := lift_inv h4
  have ha := he y a h1
  unfold indexAddr at h5
  cases ei : intOf ix with
  | none => rw [ei] at h5; cases h5
  | some i =>
    simp only [ei] at h5
    obtain ⟨k, _, hi⟩ := (he z ix h3).int_inv ei
    have : ∃ q, (Instr.indexAt ty (ev y) (ev z)).run P w = .ok q w ∧ VR ρ x q := by
      rw [hi]
      split at h5 <;> first | (cases h5; done) | skip
      · rename_i len e n off e1
        split at h5 <;> first | (cases h5; done) | skip
        rename_i j m e2 e3
        injection h5 with h5; subst h5
        obtain ⟨rfl, hj⟩ := within_some e2
        simp only [VR] at ha
        obtain ⟨b, N, e4, hv⟩ := ha
        rw [hv]
        refine ⟨.pointer (some ⟨b, off + j * m, none⟩), ?_, by simp only [VR]; exact ⟨b, N, e4, rfl⟩⟩
        have hr : (0 : Int) ≤ (j : Int) ∧ (j : Int) < (len : Int) := ⟨by omega, by omega⟩
        simp [Instr.indexAt, asIntOf, run_underlying_of e1, Instr.sureAddr, hr, run_size_of e3, Addr.add_flat, hj]
      · rename_i e n off len cap e1
        split at h5 <;> first | (cases h5; done) | skip
        rename_i j m e2 e3
        injection h5 with h5; subst h5
        obtain ⟨rfl, hj⟩ := within_some e2
        have hr : (0 : Int) ≤ (j : Int) ∧ (j : Int) < (len : Int) := ⟨by omega, by omega⟩
        have fin : ∀ b N c, ρ n = some (b, N) → ev y = .slice (some ⟨b, off, none⟩) len c → ∃ q, (Instr.indexAt ty (ev y) (.int k j)).run P w = .ok q w ∧ VR ρ (.ptr (some (n, off + j * m))) q := by
          intro b N c e4 hv
          rw [hv]
          refine ⟨.pointer (some ⟨b, off + j * m, none⟩), ?_, by simp only [VR]; exact ⟨b, N, e4, rfl⟩⟩
          simp [Instr.indexAt, asIntOf, run_underlying_of e1, hr, run_size_of e3, Addr.add_flat, hj]
        cases cap with
        | known c => simp only [VR] at ha; obtain ⟨b, N, e4, hv⟩ := ha; exact fin b N c e4 hv
        | atLeast lo e5 => simp only [VR] at ha; obtain ⟨b, N, c, e4, hv, _⟩ := ha; exact fin b N c e4 hv
        | lost => simp only [VR] at ha; omega
      · rename_i e n off len e1
        split at h5 <;> first | (cases h5; done) | skip
        rename_i j m e2 e3
        injection h5 with h5; subst h5
        obtain ⟨rfl, hj⟩ := within_some e2
        have hr : (0 : Int) ≤ (j : Int) ∧ (j : Int) < (len : Int) := ⟨by omega, by omega⟩
        simp only [VR] at ha
        obtain ⟨b, sh, c, e4, hv, _⟩ := ha
        rw [hv]
        refine ⟨.pointer (some ⟨b, sh + (off + j * m), none⟩), ?_, by simp only [VR]; exact ⟨b, sh, e4, rfl⟩⟩
        simp [Instr.indexAt, asIntOf, run_underlying_of e1, hr, run_size_of e3, Addr.add_flat, hj, Nat.add_assoc]
    obtain ⟨q, g1, g2⟩ := this
    exact ⟨ρ, w, .value q, Ext.refl _ _ _, by simp [execOp, ho, g1], g2, r, Bel.refl _ _⟩
theorem sim_kIndex {ty : TypeId} {y z : Operand} (he : ∀ x v, opd t x = some v → VR ρ v (ev x)) (r : Rel B ρ s.h w) (h : kIndex P ty y z call t s = .ok x s1) (ho : o.op = .index ty y z) : SimOp P B ρ s s1 w x (execOp ev o) := by
  unfold kIndex at h
  obtain ⟨a, h1, h2⟩ := withO_inv h
  obtain ⟨ix, h3, h4⟩ := withO_inv h2
  obtain ⟨h5, rfl⟩ := lift_inv h4
  have ha := he y a h1
  unfold indexOf at h5
  cases ei : intOf ix with
  | none => rw [ei] at h5; cases h5
  | some i =>
    simp only [ei] at h5
    obtain ⟨k, _, hi⟩ := (he z ix h3).int_inv ei
    have : ∃ q, (Instr.index ty (ev y) (ev z)).run P w = .ok q w ∧ VR ρ x q := by
      rw [hi]
      split at h5 <;> first | (cases h5; done) | skip
      · rename_i len e cs e1
        split at h5 <;> first | (cases h5; done) | skip
        rename_i j m e2 e3
        obtain ⟨rfl, hj⟩ := within_some e2
        simp only [VR] at ha
        obtain ⟨ds, hv, hc⟩ := ha
        rw [hv]
        obtain ⟨q, g1, g2⟩ := partT_sim (P := P) (w := w) hc h5
        have hr : (0 : Int) ≤ (j : Int) ∧ (j : Int) < (len : Int) := ⟨by omega, by omega⟩
        refine ⟨q, ?_, g2⟩
        simp [Instr.index, asIntOf, run_underlying_of e1, hr, run_size_of e3, g1, hj]
      · rename_i q e1
        split at h5 <;> first | (cases h5; done) | skip
        rename_i j e2
        split at h5 <;> first | (cases h5; done) | skip
        rename_i b e3
        injection h5 with h5; subst h5
        obtain ⟨rfl, hj⟩ := within_some e2
        simp only [VR] at ha
        rw [ha]
        refine ⟨.int .u8 b.toNat, ?_, by simp [VR]⟩
        have hb : q[j]? = some b := by
          obtain ⟨⟨l⟩⟩ := q
          have e3' : l[j]? = some b := e3
          have hlt : j < l.length := (List.getElem?_eq_some_iff.1 e3').1
          have : (ByteArray.mk ⟨l⟩)[j]? = some ((ByteArray.mk ⟨l⟩)[j]'hj) := getElem?_pos _ _ _
          rw [this]
          have hx : (ByteArray.mk ⟨l⟩)[j]'hj = l[j]'hlt := rfl
          rw [hx, ← List.getElem?_eq_getElem hlt, e3']
        simp [Instr.index, asIntOf, run_underlying_of e1, hb]
    obtain ⟨q, g1, g2⟩ := this
    exact ⟨ρ, w, .value q, Ext.refl _ _ _, by simp [execOp, ho, g1], g2, r, Bel.refl _ _⟩
theorem sim_kAssert {xt ty : TypeId} {ok : Bool} {y : Operand} (he : ∀ x v, opd t x = some v → VR ρ v (ev x)) (r : Rel B ρ s.h w) (h : kAssert P ty ok y call t s = .ok x s1) (ho : o.op = .typeAssert y xt ty ok) : SimOp P B ρ s s1 w x (execOp ev o) := by
  unfold kAssert at h
  obtain ⟨a, h1, h2⟩ := withO_inv h
  obtain ⟨h3, rfl⟩ := lift_inv h2
  have ha := he y a h1
  have : ∃ q, (Instr.typeAssert (ev y) xt ty ok).run P w = .ok q w ∧ VR ρ x q := by
    unfold assertT at h3
    cases e : P.underlying ty with
    | none => rw [e] at h3; cases h3
    | some d =>
      simp only [e] at h3
      have notIface : ∀ ms, d ≠ .interface ms := by intro ms e2; subst e2; cases h3
      have h3' : assertV P ty ok a = some x := by
        cases d <;> first | exact h3 | exact absurd rfl (notIface _)
      clear h3
      cases a <;> simp only [assertV] at h3' <;> first | (cases h3'; done) | skip
      · rename_i ti z
        simp only [VR] at ha
        obtain ⟨v, hv, hz⟩ := ha
        rw [hv]
        cases hb : Nat.beq ti ty with
        | true =>
          simp only [hb] at h3'
          have := beqN_true.1 hb; subst this
          cases ok with
          | true =>
            injection h3' with h3'; subst h3'
            refine ⟨.tuple #[v, .bool true], ?_, by simp only [VR, VRs]; exact ⟨_, rfl, _, _, rfl, hz, _, _, rfl, rfl, rfl⟩⟩
            cases d <;> first | (exfalso; exact notIface _ rfl) | (simp [Instr.typeAssert, run_underlying_of e]; done)
          | false =>
            injection h3' with h3'; subst h3'
            refine ⟨v, ?_, hz⟩
            cases d <;> first | (exfalso; exact notIface _ rfl) | (simp [Instr.typeAssert, run_underlying_of e]; done)
        | false =>
          simp only [hb] at h3'
          have hne : ¬ ti = ty := by rw [← beq_eq, hb]; simp
          cases ok with
          | false => cases h3'
          | true =>
            simp only [] at h3'
            cases ez : zeroT P ty with
            | none => rw [ez] at h3'; cases h3'
            | some z0 =>
              simp only [ez] at h3'; injection h3' with h3'; subst h3'
              obtain ⟨vz, g1, g2⟩ := run_zero_of (P := P) (w := w) ρ ez
              refine ⟨.tuple #[vz, .bool false], ?_, by simp only [VR, VRs]; exact ⟨_, rfl, _, _, rfl, g2, _, _, rfl, rfl, rfl⟩⟩
              cases d <;> first | (exfalso; exact notIface _ rfl) | (simp [Instr.typeAssert, run_underlying_of e, hne, g1]; done)
      · simp only [VR] at ha
        rw [ha]
        cases ok with
        | false => cases h3'
        | true =>
          simp only [] at h3'
          cases ez : zeroT P ty with
          | none => rw [ez] at h3'; cases h3'
          | some z0 =>
            simp only [ez] at h3'; injection h3' with h3'; subst h3'
            obtain ⟨vz, g1, g2⟩ := run_zero_of (P := P) (w := w) ρ ez
            refine ⟨.tuple #[vz, .bool false], ?_, by simp only [VR, VRs]; exact ⟨_, rfl, _, _, rfl, g2, _, _, rfl, rfl, rfl⟩⟩
            cases d <;> first | (exfalso; exact notIface _ rfl) | (simp [Instr.typeAssert, run_underlying_of e, g1]; done)
  obtain ⟨q, g1, g2⟩ := this
  exact ⟨ρ, w, .value q, Ext.refl _ _ _, by simp [execOp, ho, g1], g2, r, Bel.refl _ _⟩
theorem sim_kExtract {y : Operand} {i : Nat} (he : ∀ x v, opd t x = some v → VR ρ v (ev x)) (r : Rel B ρ s.h w) (h : kExtract y i call t s = .ok x s1) (ho : o.op = .extract y i) : SimOp P B ρ s s1 w x (execOp ev o) := by
  unfold kExtract at h
  obtain ⟨a, h1, h2⟩ := withO_inv h
  obtain ⟨h3, rfl⟩ := lift_inv h2
  have ha := he y a h1
  unfold partOf at h3
  split at h3 <;> first | (cases h3; done) | skip
  rename_i l
  simp only [VR] at ha
  obtain ⟨vs, hv, hl⟩ := ha
  obtain ⟨q, g1, g2⟩ := hl.get i x h3
  have g1' : vs[i]? = some q := by simpa using g1
  exact ⟨ρ, w, .value q, Ext.refl _ _ _, by simp [execOp, ho, hv, Instr.extract, g1'], g2, r, Bel.refl _ _⟩
end
end Go.Rn

namespace Go.Rn
open Go.RowKit
section
variable {P : Program} {B : Base} {ρ : Ren} {w : World} {s s1 : AS} {x : AV} {call : Caller} {t : Tr AV} {ev : Operand → Value} {o : Oper}
def OptR (ρ : Ren) : Option AV → Option Value → Prop
  | none, v => v = none
  | some a, v => ∃ u, v = some u ∧ VR ρ a u
theorem opt_sim (he : ∀ x v, opd t x = some v → VR ρ v (ev x)) {y : Option Operand} {a : Option AV} (h : opt (opd t) y = some a) : OptR ρ a (y.map ev) := by
  cases y with
  | none => simp only [opt] at h; injection h with h; subst h; rfl
  | some y =>
    simp only [opt] at h
    cases e : opd t y with
    | none => rw [e] at h; cases h
    | some v => simp only [e] at h; injection h with h; subst h; exact ⟨_, rfl, he y v e⟩
theorem bound_sim {a : AV} {v : Value} {most real n d : Nat} {code : BoundsCode} (ha : VR ρ a v) (h : bound (some a) most d = some n) (hr : most ≤ real) : (Instr.sliceBound v real code).run P w = .ok n w ∧ n ≤ most := by
  unfold bound at h
  cases e : intOf a with
  | none => simp only [e] at h; cases h
  | some i =>
    simp only [e] at h
    obtain ⟨k, _, rfl⟩ := ha.int_inv e
    obtain ⟨rfl, hn⟩ := within_some h
    have hr : (0 : Int) ≤ (n : Int) ∧ (n : Int) ≤ (real : Int) := ⟨by omega, by omega⟩
    refine ⟨?_, by omega⟩
    simp only [Instr.sliceBound, asIntOf, Sem.run_bind, Sem.run_pure, Result.andThen_ok, if_pos hr, Int.toNat_natCast]
theorem bounds_none {b : Bool} {lo hi : Option AV} {lo' hi' : Option Value} {len low real hh l : Nat} (h1 : OptR ρ lo lo') (h2 : OptR ρ hi hi') (hr : low ≤ real) (e1 : bound hi low len = some hh) (e2 : bound lo hh 0 = some l) :
    (Instr.sliceBounds b len real lo' hi' none).run P w = .ok (l, hh, real) w ∧ (hi = none ∧ hh = len ∨ hh ≤ low) ∧ l ≤ hh := by
  have g1 : ∃ c, (match hi', (none : Option Value) with
      | some v, some _ => Instr.sliceBound v real .slice3B
      | some v, none => Instr.sliceBound v real c
      | none, none => pure len
      | none, some _ => stuck "Slice: max without high" : Sem Nat).run P w = .ok hh w ∧ c = (if b then BoundsCode.sliceAcap else .sliceAlen) ∧ (hi = none ∧ hh = len ∨ hh ≤ low) := by
    cases hi with
    | none =>
      simp only [OptR] at h2; subst h2
      simp only [bound] at e1; injection e1 with e1; subst e1
      exact ⟨_, rfl, rfl, .inl ⟨rfl, rfl⟩⟩
    | some a =>
      obtain ⟨u, rfl, hu⟩ := h2
      obtain ⟨a1, a2⟩ := bound_sim (P := P) (w := w) (code := if b then BoundsCode.sliceAcap else .sliceAlen) hu e1 hr
      exact ⟨_, a1, rfl, .inr a2⟩
  obtain ⟨c, g1, rfl, g2⟩ := g1
  have g3 : (match lo' with
      | some v => Instr.sliceBound v hh (if (none : Option Value).isSome then BoundsCode.slice3C else .sliceB)
      | none => pure 0 : Sem Nat).run P w = .ok l w ∧ l ≤ hh := by
    cases lo with
    | none =>
      simp only [OptR] at h1; subst h1
      simp only [bound] at e2; injection e2 with e2; subst e2
      exact ⟨rfl, Nat.zero_le _⟩
    | some a =>
      obtain ⟨u, rfl, hu⟩ := h1
      exact bound_sim (P := P) (w := w) hu e2 (Nat.le_refl _)
  refine ⟨?_, g2, g3.2⟩
  cases hi' <;> cases lo' <;> simp_all [Instr.sliceBounds]
theorem bounds_some {b : Bool} {lo : Option AV} {lo' hi' mx' : Option Value} {len low real hh l m : Nat} {a c : AV} (h1 : OptR ρ lo lo') (h2 : OptR ρ (some a) hi') (h3 : OptR ρ (some c) mx') (hr : low ≤ real)
    (e0 : bound (some c) low 0 = some m) (e1 : bound (some a) m 0 = some hh) (e2 : bound lo hh 0 = some l) :
    (Instr.sliceBounds b len real lo' hi' mx').run P w = .ok (l, hh, m) w ∧ l ≤ hh ∧ hh ≤ m ∧ m ≤ low := by
  obtain ⟨u, rfl, hu⟩ := h2
  obtain ⟨v, rfl, hv⟩ := h3
  have q0 := fun code => bound_sim (P := P) (w := w) (code := code) hv e0 hr
  have q1 := fun code => bound_sim (P := P) (w := w) (code := code) hu e1 (Nat.le_refl _)
  cases lo with
  | none =>
    simp only [OptR] at h1; subst h1
    simp only [bound] at e2; injection e2 with e2; subst e2
    refine ⟨?_, Nat.zero_le _, (q1 .slice3B).2, (q0 .slice3B).2⟩
    simp [Instr.sliceBounds, (q0 _).1, (q1 _).1]
  | some y =>
    obtain ⟨z, rfl, hz⟩ := h1
    have q2 := fun code => bound_sim (P := P) (w := w) (code := code) hz e2 (Nat.le_refl _)
    refine ⟨?_, (q2 .slice3B).2, (q1 .slice3B).2, (q0 .slice3B).2⟩
    simp [Instr.sliceBounds, (q0 _).1, (q1 _).1, (q2 _).1]
theorem sliceAt_slice {ty e : TypeId} {v : Value} {lo hi mx : Option Value} (h : P.underlying ty = some (.slice e)) : (Instr.sliceAt ty v lo hi mx).run P w = (Instr.slice ty v lo hi mx).run P w := by
  simp [Instr.sliceAt, run_underlying_of h]
theorem sliceAt_string {ty : TypeId} {v : Value} {lo hi mx : Option Value} (h : P.underlying ty = some .string) : (Instr.sliceAt ty v lo hi mx).run P w = (Instr.slice ty v lo hi mx).run P w := by
  simp [Instr.sliceAt, run_underlying_of h]
theorem sliceOf_sim {ty : TypeId} {a : AV} {v : Value} {lo hi mx : Option AV} {lo' hi' mx' : Option Value} (ha : VR ρ a v) (h1 : OptR ρ lo lo') (h2 : OptR ρ hi hi') (h3 : OptR ρ mx mx') (h : sliceOf P ty a lo hi mx = some x) :
    ∃ q, (Instr.sliceAt ty v lo' hi' mx').run P w = .ok q w ∧ VR ρ x q := by
  unfold sliceOf at h
  split at h <;> first | (cases h; done) | skip
  · -- a text
    rename_i st e1
    simp only [VR] at ha; subst ha
    cases mx with
    | some _ => cases h
    | none =>
      simp only [OptR] at h3; subst h3
      simp only [] at h
      cases e2 : bound hi st.size st.size with
      | none => simp only [e2] at h; cases h
      | some hh =>
        simp only [e2] at h
        cases e3 : bound lo hh 0 with
        | none => simp only [e3] at h; cases h
        | some l =>
          simp only [e3] at h; injection h with h; subst h
          obtain ⟨g1, g2, g3⟩ := bounds_none (P := P) (w := w) (b := false) h1 h2 (Nat.le_refl _) e2 e3
          refine ⟨.string (st.extract l hh), ?_, by simp [VR]⟩
          rw [sliceAt_string e1]
          simp [Instr.slice, run_underlying_of e1, g1]
  · -- a slice
    rename_i e p len cap e1
    cases ek : sizeT P e with
    | none => simp only [ek] at h; cases h
    | some k =>
      simp only [ek] at h
      rw [sliceAt_slice e1]
      have hv : ∃ q real, v = .slice q len real ∧ capLow len cap ≤ real ∧ len ≤ real ∨ ∃ q real, v = .slice q len real ∧ cap = .known real := by
        cases p with
        | none => obtain ⟨rfl, rfl, rfl⟩ := slice_none ha; exact ⟨none, 0, .inr ⟨none, 0, rfl, rfl⟩⟩
        | some p =>
          obtain ⟨n, i⟩ := p
          cases cap with
          | known c => simp only [VR] at ha; obtain ⟨b, N, _, rfl⟩ := ha; exact ⟨none, 0, .inr ⟨_, c, rfl, rfl⟩⟩
          | atLeast b0 e0 => simp only [VR] at ha; obtain ⟨b, N, c, _, rfl, h5, h6, _⟩ := ha; exact ⟨_, c, .inl ⟨rfl, h5, h6⟩⟩
          | lost => simp only [VR] at ha; obtain ⟨rfl, b, N, _, c, _, rfl⟩ := ha; exact ⟨_, c, .inl ⟨rfl, by simp [capLow], Nat.zero_le _⟩⟩
      clear hv
      cases mx with
      | some mx =>
        simp only [] at h
        have hl : cap ≠ .lost := by intro e2; subst e2; cases h
        have h' : slice3 k p (capLow len cap) lo hi mx = some x := by
          cases cap <;> first | exact h | exact absurd rfl hl
        clear h
        unfold slice3 at h'
        cases e2 : bound (some mx) (capLow len cap) 0 with
        | none => simp only [e2] at h'; cases h'
        | some m =>
          simp only [e2] at h'
          cases hi with
          | none => cases h'
          | some hi =>
            simp only [] at h'
            cases e3 : bound (some hi) m 0 with
            | none => simp only [e3] at h'; cases h'
            | some hh =>
              simp only [e3] at h'
              cases e4 : bound lo hh 0 with
              | none => simp only [e4] at h'; cases h'
              | some l =>
                simp only [e4] at h'
                cases p with
                | none =>
                  obtain ⟨rfl, rfl, rfl⟩ := slice_none ha
                  simp only [] at h'; injection h' with h'; subst h'
                  obtain ⟨g1, g2, g3, g4⟩ := bounds_some (P := P) (w := w) (b := true) (len := 0) (real := 0) h1 h2 h3 (Nat.le_refl _) e2 e3 e4
                  have g4' : m ≤ 0 := g4
                  refine ⟨.slice none 0 0, ?_, ?_⟩
                  · have z1 : m = 0 := by omega
                    have z2 : hh = 0 := by omega
                    have z3 : l = 0 := by omega
                    subst z1; subst z2; subst z3
                    simp [Instr.slice, run_underlying_of e1, g1, run_size_of ek]
                  · have z1 : hh - l = 0 := by omega
                    have z2 : m - l = 0 := by omega
                    rw [z1, z2]; simp [VR]
                | some p =>
                  obtain ⟨n, i⟩ := p
                  simp only [] at h'
                  have hv : ∃ b N real, ρ n = some (b, N) ∧ v = .slice (some ⟨b, i, none⟩) len real ∧ capLow len cap ≤ real := by
                    cases cap with
                    | known c => simp only [VR] at ha; obtain ⟨b, N, e5, rfl⟩ := ha; exact ⟨b, N, c, e5, rfl, by simp [capLow]⟩
                    | atLeast b0 e0 => simp only [VR] at ha; obtain ⟨b, N, c, e5, rfl, h5, h6, _⟩ := ha; exact ⟨b, N, c, e5, rfl, h5⟩
                    | lost => exact absurd rfl hl
                  obtain ⟨b, N, real, e5, rfl, hreal⟩ := hv
                  obtain ⟨g1, g2, g3, g4⟩ := bounds_some (P := P) (w := w) (b := true) (len := len) h1 h2 h3 hreal e2 e3 e4
                  cases e6 : Nat.beq m l with
                  | true =>
                    simp only [e6] at h'; injection h' with h'; subst h'
                    have hml := beqN_true.1 e6
                    refine ⟨.slice (some ⟨b, i, none⟩) (hh - l) (m - l), ?_, by simp only [VR]; exact ⟨b, N, e5, rfl⟩⟩
                    subst hml; simp [Instr.slice, run_underlying_of e1, g1, run_size_of ek]
                  | false =>
                    simp only [e6] at h'; injection h' with h'; subst h'
                    have hne : ¬ m = l := by rw [← beq_eq, e6]; simp
                    refine ⟨.slice (some ⟨b, i + l * k, none⟩) (hh - l) (m - l), ?_, by simp only [VR]; exact ⟨b, N, e5, rfl⟩⟩
                    simp [Instr.slice, run_underlying_of e1, g1, run_size_of ek, hne, Addr.add_flat]
      | none =>
        simp only [OptR] at h3; subst h3
        simp only [] at h
        cases e3 : bound hi (capLow len cap) len with
        | none => simp only [e3] at h; cases h
        | some hh =>
          simp only [e3] at h
          cases e4 : bound lo hh 0 with
          | none => simp only [e4] at h; cases h
          | some l =>
            simp only [e4] at h
            cases p with
            | none =>
              obtain ⟨rfl, rfl, rfl⟩ := slice_none ha
              simp only [] at h; injection h with h; subst h
              obtain ⟨g1, g2, g3⟩ := bounds_none (P := P) (w := w) (b := true) (len := 0) (real := 0) h1 h2 (Nat.le_refl _) e3 e4
              have z1 : hh = 0 := by rcases g2 with ⟨_, e⟩ | e <;> omega
              have z2 : l = 0 := by omega
              subst z1; subst z2
              refine ⟨.slice none 0 0, ?_, by simp [VR]⟩
              simp [Instr.slice, run_underlying_of e1, g1, run_size_of ek]
            | some p =>
              obtain ⟨n, i⟩ := p
              cases cap with
              | known c =>
                simp only [] at h
                simp only [VR] at ha; obtain ⟨b, N, e5, rfl⟩ := ha
                obtain ⟨g1, g2, g3⟩ := bounds_none (P := P) (w := w) (b := true) (len := len) (real := c) h1 h2 (by simp [capLow]) e3 e4
                cases e6 : Nat.beq c l with
                | true =>
                  simp only [e6] at h; injection h with h; subst h
                  have hml := beqN_true.1 e6
                  refine ⟨.slice (some ⟨b, i, none⟩) (hh - l) (c - l), ?_, by simp only [VR]; exact ⟨b, N, e5, rfl⟩⟩
                  subst hml; simp [Instr.slice, run_underlying_of e1, g1, run_size_of ek]
                | false =>
                  simp only [e6] at h; injection h with h; subst h
                  have hne : ¬ c = l := by rw [← beq_eq, e6]; simp
                  refine ⟨.slice (some ⟨b, i + l * k, none⟩) (hh - l) (c - l), ?_, by simp only [VR]; exact ⟨b, N, e5, rfl⟩⟩
                  simp [Instr.slice, run_underlying_of e1, g1, run_size_of ek, hne, Addr.add_flat]
              | atLeast b0 e0 =>
                simp only [] at h
                simp only [VR] at ha; obtain ⟨b, N, c, e5, rfl, h5, h6, h7⟩ := ha
                obtain ⟨g1, g2, g3⟩ := bounds_none (P := P) (w := w) (b := true) (len := len) (real := c) h1 h2 h5 e3 e4
                have hhc : hh ≤ c := by
                  rcases g2 with ⟨_, e⟩ | e
                  · omega
                  · have e' : hh ≤ b0 := e
                    omega
                cases e6 : Nat.beq l 0 with
                | true =>
                  simp only [e6] at h; injection h with h; subst h
                  have hml := beqN_true.1 e6
                  refine ⟨.slice (some ⟨b, i, none⟩) (hh - l) (c - 0), ?_, ?_⟩
                  · subst hml; by_cases q : c = 0
                    · subst q; simp [Instr.slice, run_underlying_of e1, g1, run_size_of ek]
                    · simp [Instr.slice, run_underlying_of e1, g1, run_size_of ek, q, Addr.add_flat]
                  · simp only [VR]; exact ⟨b, N, c, e5, rfl, h5, by omega, h7⟩
                | false =>
                  simp only [e6] at h
                  cases e7 : (Nat.beq e0 k && Nat.blt l b0) with
                  | true =>
                    simp only [e7] at h; injection h with h; subst h
                    obtain ⟨q1, q2⟩ := and_true.1 e7
                    have q1 := beqN_true.1 q1; subst q1
                    rw [blt_eq] at q2
                    have hne : ¬ c = l := by omega
                    refine ⟨.slice (some ⟨b, i + l * e0, none⟩) (hh - l) (c - l), ?_, ?_⟩
                    · simp [Instr.slice, run_underlying_of e1, g1, run_size_of ek, hne, Addr.add_flat]
                    · simp only [VR]
                      refine ⟨b, N, c - l, e5, rfl, by omega, by omega, ?_⟩
                      have : l * e0 + (c - l) * e0 = c * e0 := by rw [← Nat.add_mul]; congr 1; omega
                      omega
                  | false =>
                    simp only [e7] at h
                    cases e8 : Nat.beq (hh - l) 0 with
                    | false => simp only [e8] at h; cases h
                    | true =>
                      simp only [e8] at h; injection h with h; subst h
                      have z := beqN_true.1 e8
                      by_cases q : c = l
                      · refine ⟨.slice (some ⟨b, i, none⟩) (hh - l) (c - l), ?_, ?_⟩
                        · subst q; simp [Instr.slice, run_underlying_of e1, g1, run_size_of ek]
                        · simp only [VR]; rw [z]; exact ⟨by first | rfl | trivial, b, N, _, _, e5, rfl⟩
                      · refine ⟨.slice (some ⟨b, i + l * k, none⟩) (hh - l) (c - l), ?_, ?_⟩
                        · simp [Instr.slice, run_underlying_of e1, g1, run_size_of ek, q, Addr.add_flat]
                        · simp only [VR]; rw [z]; exact ⟨by first | rfl | trivial, b, N, _, _, e5, rfl⟩
              | lost =>
                simp only [] at h
                simp only [VR] at ha; obtain ⟨rfl, b, N, j, c, e5, rfl⟩ := ha
                obtain ⟨g1, g2, g3⟩ := bounds_none (P := P) (w := w) (b := true) (len := 0) (real := c) h1 h2 (by simp [capLow]) e3 e4
                cases e6 : Nat.beq hh 0 with
                | false => simp only [e6] at h; cases h
                | true =>
                  simp only [e6] at h; injection h with h; subst h
                  have z := beqN_true.1 e6; subst z
                  have z : l = 0 := by omega
                  subst z
                  refine ⟨.slice (some ⟨b, j, none⟩) 0 c, ?_, ?_⟩
                  · by_cases q : c = 0
                    · subst q; simp [Instr.slice, run_underlying_of e1, g1, run_size_of ek]
                    · simp [Instr.slice, run_underlying_of e1, g1, run_size_of ek, q, Addr.add_flat]
                  · simp only [VR]; exact ⟨trivial, b, N, _, _, e5, rfl⟩
  · -- a row that stays as it is
    rename_i e n i len e1
    cases ek : sizeT P e with
    | none => simp only [ek] at h; cases h
    | some k =>
      simp only [ek] at h
      cases mx with
      | some _ => cases h
      | none =>
        simp only [OptR] at h3; subst h3
        simp only [] at h
        cases e3 : bound hi len len with
        | none => simp only [e3] at h; cases h
        | some hh =>
          simp only [e3] at h
          cases e4 : bound lo hh 0 with
          | none => simp only [e4] at h; cases h
          | some l =>
            simp only [e4] at h
            cases e5 : and (Nat.ble top n) (or (Nat.blt l len) (Nat.beq l 0)) with
            | false => simp only [e5] at h; cases h
            | true =>
              simp only [e5] at h; injection h with h; subst h
              obtain ⟨q1, q2⟩ := and_true.1 e5
              simp only [VR] at ha
              obtain ⟨b, sh, c, e6, rfl, e7⟩ := ha
              have hc := e7 (ble_true.1 q1)
              obtain ⟨g1, g2, g3⟩ := bounds_none (P := P) (w := w) (b := true) (len := len) (real := c) h1 h2 hc e3 e4
              have hhc : hh ≤ c := by rcases g2 with ⟨_, e⟩ | e <;> omega
              have hl : l < len ∨ l = 0 := by
                rcases (Bool.or_eq_true _ _).mp q2 with q | q
                · exact .inl (by rw [blt_eq] at q; exact q)
                · exact .inr (beqN_true.1 q)
              rw [sliceAt_slice e1]
              refine ⟨.slice (some ⟨b, sh + (i + l * k), none⟩) (hh - l) (c - l), ?_, ?_⟩
              · by_cases q : c = l
                · have z : l = 0 := by omega
                  subst z; subst q
                  simp [Instr.slice, run_underlying_of e1, g1, run_size_of ek]
                · simp [Instr.slice, run_underlying_of e1, g1, run_size_of ek, q, Addr.add_flat, Nat.add_assoc]
              · simp only [VR]; exact ⟨b, sh, c - l, e6, rfl, fun _ => by omega⟩
  · -- an array, by its address
    rename_i len e n i e1
    cases ek : sizeT P e with
    | none => simp only [ek] at h; cases h
    | some k =>
      simp only [ek] at h
      cases mx with
      | some _ => cases h
      | none =>
        simp only [OptR] at h3; subst h3
        simp only [] at h
        cases e2 : bound hi len len with
        | none => simp only [e2] at h; cases h
        | some hh =>
          simp only [e2] at h
          cases e3 : bound lo hh 0 with
          | none => simp only [e3] at h; cases h
          | some l =>
            simp only [e3] at h
            simp only [VR] at ha; obtain ⟨b, N, e5, rfl⟩ := ha
            obtain ⟨g1, g2, g3⟩ := bounds_none (P := P) (w := w) (b := false) h1 h2 (Nat.le_refl _) e2 e3
            cases e6 : Nat.beq len l with
            | true =>
              simp only [e6] at h; injection h with h; subst h
              have hml := beqN_true.1 e6
              refine ⟨.slice (some ⟨b, i, none⟩) (hh - l) (len - l), ?_, by simp only [VR]; exact ⟨b, N, e5, rfl⟩⟩
              subst hml; simp [Instr.sliceAt, run_underlying_of e1, Instr.sureAddr, g1, run_size_of ek]
            | false =>
              simp only [e6] at h; injection h with h; subst h
              have hne : ¬ len = l := by rw [← beq_eq, e6]; simp
              refine ⟨.slice (some ⟨b, i + l * k, none⟩) (hh - l) (len - l), ?_, by simp only [VR]; exact ⟨b, N, e5, rfl⟩⟩
              simp [Instr.sliceAt, run_underlying_of e1, Instr.sureAddr, g1, run_size_of ek, hne, Addr.add_flat]
theorem sim_kSlice {ty : TypeId} {y : Operand} {lo hi mx : Option Operand} (he : ∀ x v, opd t x = some v → VR ρ v (ev x)) (r : Rel B ρ s.h w) (h : kSlice P ty y lo hi mx call t s = .ok x s1) (ho : o.op = .slice ty y lo hi mx) : SimOp P B ρ s s1 w x (execOp ev o) := by
  unfold kSlice at h
  obtain ⟨a, h1, h2⟩ := withO_inv h
  obtain ⟨lo', h3, h4⟩ := withO_inv h2
  obtain ⟨hi', h5, h6⟩ := withO_inv h4
  obtain ⟨mx', h7, h8⟩ := withO_inv h6
  obtain ⟨h9, rfl⟩ := lift_inv h8
  obtain ⟨q, g1, g2⟩ := sliceOf_sim (P := P) (w := w) (he y a h1) (opt_sim he h3) (opt_sim he h5) (opt_sim he h7) h9
  exact ⟨ρ, w, .value q, Ext.refl _ _ _, by simp [execOp, ho, g1], g2, r, Bel.refl _ _⟩
end
end Go.Rn

namespace Go.Rn
open Go.RowKit
theorem Rel.dropAt {B : Base} {ρ : Ren} {h : Tr AObj} {w w' : World} (r : Rel B ρ h w) {n : Nat} {p : AObj} {b N : Nat} (ht : n < top) (hg : h.get n = some p) (hp : p.plain = true) (hro : p.isRo = false) (hr : ρ n = some (b, N)) (hw : OnlyAt b w w') :
    Rel B ρ (h.put n none) w' ∧ ∀ m q, m < top → (h.put n none).get m = some q → ∀ M, ρ m ≠ some (b, M) := by
  have g : ∀ m, m < top → (h.put n none).get m = if m = n then none else h.get m := fun m hm => Tr.get_put _ _ _ _ ht hm
  have hfree : ∀ m q, m < top → (h.put n none).get m = some q → ∀ M, ρ m ≠ some (b, M) := by
    intro m q hm hq M e
    rw [g m hm] at hq
    by_cases e2 : m = n
    · rw [if_pos e2] at hq; cases hq
    · rw [if_neg e2] at hq; exact e2 (r.one m n q p b M N hm ht hq hg (.inr hro) e hr)
  refine ⟨?_, hfree⟩
  have hl : h.get n ≠ some .lent := by intro e; rw [hg] at e; cases e; simp [AObj.plain] at hp
  have r2 := r.drop ht hl
  refine ⟨?_, r2.one, ?_, by rw [hw.size]; exact r.size, r2.lone, r.fz.of (Ren.le_refl _) (fun b1 _ hn => hw.block b1 fun e => hn n p N ht hg hro (by rw [e]; exact hr)) (fun b1 _ hn => hn.sub fun m q hm hq hqr => by
    rw [g m hm] at hq
    by_cases e : m = n
    · rw [if_pos e] at hq; cases hq
    · rw [if_neg e] at hq; exact ⟨q, hq, hqr⟩)⟩
  · intro m q hm hq
    obtain ⟨b1, N1, o1, h1, h2, h3, h4⟩ := r2.is m q hm hq
    exact ⟨b1, N1, o1, h1, (hw.block b1 fun e => hfree m q hm hq N1 (by rw [h1, e])).trans h2, h3, h4⟩
  · intro i m es ex left cur hi hq
    obtain ⟨hm, hlent, u⟩ := r2.iter i m es ex left cur hi hq
    exact ⟨hm, hlent, u.keep hw.block (hfree i _ hi hq) (hfree m _ hm hlent)⟩
section
variable {P : Program} {B : Base} {ρ : Ren} {w : World} {s s1 : AS} {x : AV} {call : Caller} {t : Tr AV} {ev : Operand → Value} {o : Oper}
theorem wrap_small {n : Nat} (h : n < 2 ^ 63) : IntKind.i64.wrap (n : Int) = n := by
  exact IntWalk.i64_in _ (by omega)
theorem makeSlice_sim {ty : TypeId} {l c : AV} {vl vc : Value} (hl : VR ρ l vl) (hc : VR ρ c vc) (r : Rel B ρ s.h w) (hf : Free s.nx s1.nx ρ) (h : makeSlice P ty l c s = .ok x s1) : SimV P B ρ s s1 w x (Instr.makeSlice ty vl vc) := by
  unfold makeSlice at h
  cases e1 : P.underlying ty with
  | none => simp only [e1] at h; cases h
  | some d =>
    cases d <;> simp only [e1] at h <;> first | (cases h; done) | skip
    rename_i e
    obtain ⟨il, h1, h⟩ := withO_inv h
    obtain ⟨ic, h2, h⟩ := withO_inv h
    obtain ⟨i, h3, h⟩ := withO_inv h
    obtain ⟨nc, h4, h⟩ := withO_inv h
    obtain ⟨nl, h5, h⟩ := withO_inv h
    obtain ⟨z, h6, h⟩ := withO_inv h
    obtain ⟨h7, h⟩ := withB_inv h
    obtain ⟨n, s2, h8, h9⟩ := M.bind_inv h
    obtain ⟨rfl, rfl⟩ := pure_inv h9
    obtain ⟨q1, q2⟩ := and_true.1 h7
    obtain ⟨q3, q4⟩ := and_true.1 q2
    obtain ⟨q5, q6⟩ := and_true.1 q4
    have q1 := ble_true.1 q1
    have q3 := ble_true.1 q3
    obtain ⟨k1, _, rfl⟩ := hl.int_inv h1
    obtain ⟨k2, _, rfl⟩ := hc.int_inv h2
    obtain ⟨rfl, hc1⟩ := within_some h4
    obtain ⟨rfl, hl1⟩ := within_some h5
    unfold room at hc1 q1
    obtain ⟨vz, g1, g2⟩ := run_zero_of (P := P) (w := w) ρ h6
    obtain ⟨ht, rfl, rfl⟩ := newN_inv h8
    have hnone : ρ s.nx = none := hf s.nx (Nat.le_refl _) (Nat.lt_succ_self _)
    have hz := g2.cells.length
    simp only [Array.length_toList] at hz
    have hcells : (Array.range (nc * i.size)).map (fun j => (if nc * i.size = 0 then (#[] : Array Value) else vz.cells)[j % (if nc * i.size = 0 then (#[] : Array Value) else vz.cells).size]!) = (Array.range (nc * i.size)).map (fun j => vz.cells[j % vz.cells.size]!) := by
      by_cases q : nc * i.size = 0
      · rw [q]; simp
      · simp only [if_neg q]
    refine ⟨updR ρ s.nx (w.heap.size, nc * i.size), { w with heap := w.heap.push (.cells ((Array.range (nc * i.size)).map (fun j => vz.cells[j % vz.cells.size]!)) e) }, .slice (some ⟨w.heap.size, 0, none⟩) nl nc, Ext.upd hnone, ?_, ?_, ?_, (Grew.alloc w _).below r.size⟩
    · have w1 : IntKind.i64.wrap (nl : Int) = nl := wrap_small (by omega)
      have w2 : IntKind.i64.wrap (nc : Int) = nc := wrap_small (by omega)
      have t1 : (decide ((nc : Int) < 0) || decide ((i.bytes : Int) * (nc : Int) > 2 ^ 48)) = false := by
        have : ¬ ((nc : Int) < 0) := by omega
        have h2 : ¬ ((i.bytes : Int) * (nc : Int) > 2 ^ 48) := by
          have : (i.bytes : Int) * (nc : Int) = ((nc * i.bytes : Nat) : Int) := by rw [Nat.mul_comm]; simp
          rw [this]; omega
        rw [decide_eq_false this, decide_eq_false h2]; rfl
      have t2 : ¬ ((nl : Int) < 0) := by omega
      have t3 : ¬ ((nl : Int) > (nc : Int)) := by omega
      simp only [Instr.makeSlice, Sem.run_bind, run_underlying_of e1, Result.andThen_ok, asInt, asIntOf, Sem.run_pure, run_info_of h3, w1, w2]
      have hcond : ¬ (((decide ((nc : Int) < 0) || decide ((i.bytes : Int) * (nc : Int) > 2 ^ 48)) = true) ∨ ((nl : Int) < 0) ∨ ((nl : Int) > (nc : Int))) := by
        rw [t1]; rintro (e | e | e)
        · cases e
        · exact t2 e
        · exact t3 e
      have hcond' : ((decide ((nc : Int) < 0) || decide ((i.bytes : Int) * (nc : Int) > 2 ^ 48)) || decide ((nl : Int) < 0) || decide ((nl : Int) > (nc : Int))) = false := by
        rw [t1]; simp [t2, t3]
      simp only [hcond', Bool.false_eq_true, if_false, Sem.run_bind, run_askRoom, Result.andThen_ok, Int.toNat_natCast, run_size_of (show sizeT P e = some i.size by simp [sizeT, h3])]
      by_cases q : nc * i.size = 0
      · simp only [if_pos q] at hcells ⊢
        simp only [Sem.run_bind, Sem.run_pure, Result.andThen_ok, hcells]
        rfl
      · simp only [if_neg q] at hcells ⊢
        simp only [Sem.run_bind, g1, Sem.run_pure, Result.andThen_ok]
        rfl
    · simp only [VR]; exact ⟨_, _, updR_self _ _ _, rfl⟩
    · refine r.new ht hnone rfl ⟨_, e, rfl, by simp, Nat.le_refl _, fun j hj => ?_⟩
      have hzpos : 0 < z.cells.length := by
        rcases Nat.eq_zero_or_pos z.cells.length with h0 | h0
        · rw [h0] at q5
          have : Nat.beq (nc * i.size) 0 = true := by
            cases hb : Nat.beq (nc * i.size) 0 with
            | true => rfl
            | false => rw [hb] at q5; simp at q5
          have := beqN_true.1 this; omega
        · exact h0
      have hm : j % z.cells.length < z.cells.length := Nat.mod_lt _ hzpos
      obtain ⟨a, ha⟩ : ∃ a, z.cells[j % z.cells.length]? = some a := ⟨_, List.getElem?_eq_getElem hm⟩
      obtain ⟨v, hv, hr⟩ := g2.cells.get _ a ha
      refine ⟨a, v, ?_, List.all_eq_true.1 q6 a (List.mem_of_getElem? ha), ?_, hr.mono (updR_le hnone)⟩
      · unfold cellAt; rw [Tr.get_nil]; exact ha
      · have hm2 : j % vz.cells.size < vz.cells.size := by rw [← hz]; exact hm
        have hv' : vz.cells[j % vz.cells.size]? = some v := by rw [← hz]; simpa using hv
        simp only [Array.getElem?_map, Array.getElem?_range, if_pos hj, Option.map_some]
        rw [getElem!_pos vz.cells _ hm2]
        rw [Array.getElem?_eq_getElem hm2] at hv'
        injection hv' with hv'; rw [hv']
theorem sim_kMakeSlice {ty : TypeId} {l c : Operand} (he : ∀ x v, opd t x = some v → VR ρ v (ev x)) (r : Rel B ρ s.h w) (hf : Free s.nx s1.nx ρ) (h : kMakeSlice P ty l c call t s = .ok x s1) (ho : o.op = .makeSlice ty l c) : SimOp P B ρ s s1 w x (execOp ev o) := by
  unfold kMakeSlice at h
  obtain ⟨a, h1, h2⟩ := withO_inv h
  obtain ⟨b, h3, h4⟩ := withO_inv h2
  have := (makeSlice_sim (P := P) (he l a h1) (he c b h3) r hf h4).op
  simpa only [execOp, ho] using this
theorem firstCells_sim {size n : Nat} {a : AV} {v : Value} {l : List AV} (ha : VR ρ a v) (fi : Fine s) (r : Rel B ρ s.h w) (h : firstCells size n a s = .ok l s1) :
    s1.h = s.h ∧ s1.nx = s.nx ∧ ∃ arr : Array Value, (Builtin.firstCells size n v).run P w = .ok arr w ∧ VRs ρ l arr.toList := by
  cases a with
  | slice p len cap =>
    cases p with
    | none =>
      have h' : (M.pure [] : M (List AV)) s = .ok l s1 := by
        cases len <;> cases cap <;> exact h
      obtain ⟨rfl, rfl⟩ := pure_inv h'
      obtain ⟨rfl, rfl, rfl⟩ := slice_none ha
      exact ⟨rfl, rfl, #[], rfl, by simp [VRs]⟩
    | some p =>
      obtain ⟨m, i⟩ := p
      by_cases hc : cap = .lost
      · subst hc
        simp only [VR] at ha
        obtain ⟨rfl, b, N, q, c, e, rfl⟩ := ha
        obtain ⟨h1, h2⟩ := withB_inv (show (withB (Nat.beq n 0) <| (M.pure [] : M (List AV))) s = .ok l s1 from h)
        obtain ⟨rfl, rfl⟩ := pure_inv h2
        have := beqN_true.1 h1; subst this
        refine ⟨rfl, rfl, #[], ?_, by simp [VRs]⟩
        simp [Builtin.firstCells, loadCells, loadCellsFrom]
      · rw [firstCells_some hc] at h
        have : ∃ b N c, ρ m = some (b, N) ∧ v = .slice (some ⟨b, i, none⟩) len c := by
          cases cap with
          | known c => simp only [VR] at ha; obtain ⟨b, N, e, rfl⟩ := ha; exact ⟨b, N, c, e, rfl⟩
          | atLeast lo e0 => simp only [VR] at ha; obtain ⟨b, N, c, e, rfl, _⟩ := ha; exact ⟨b, N, c, e, rfl⟩
          | lost => exact absurd rfl hc
        obtain ⟨b, N, c, e, rfl⟩ := this
        obtain ⟨a1, a2, a3, a4, vs, a5, a6, _⟩ := readCells_sim (P := P) fi r h e
        exact ⟨a1, a2, vs.toArray, by simpa [Builtin.firstCells] using a5, by simpa using a6⟩
  | str q =>
    have h' : (M.pure ((byteCells q).take n) : M (List AV)) s = .ok l s1 := h
    obtain ⟨rfl, rfl⟩ := pure_inv h'
    simp only [VR] at ha; subst ha
    refine ⟨rfl, rfl, (q.extract 0 n).data.map fun b => .int .u8 b.toNat, rfl, ?_⟩
    refine VRs.of_get _ _ ?_ (fun i a b ha hb => ?_)
    · simp [byteCells, ByteArray.data_extract]
    · obtain ⟨⟨bs⟩⟩ := q
      simp only [byteCells] at ha
      rw [← List.map_take, List.getElem?_map] at ha
      have hb' : ((bs.take n).map fun b => Value.int .u8 b.toNat)[i]? = some b := by
        have e : ((ByteArray.extract ⟨⟨bs⟩⟩ 0 n).data.map fun b => Value.int .u8 b.toNat).toList = (bs.take n).map fun b => Value.int .u8 b.toNat := by
          simp [ByteArray.data_extract, List.extract]
        rw [← e]; exact hb
      rw [List.getElem?_map] at hb'
      cases hq : (bs.take n)[i]? with
      | none => rw [hq] at hb'; cases hb'
      | some y =>
        rw [hq] at ha hb'
        simp only [Option.map_some, Option.some.injEq] at ha hb'
        rw [← ha, ← hb']; simp [VR]
  | _ => cases h
theorem lenOf_sim {a : AV} {v : Value} {n : Nat} (ha : VR ρ a v) (h : lenOf a = some n) : (Builtin.lenOf v).run P w = .ok n w := by
  cases a with
  | slice p len cap =>
    simp only [lenOf] at h; injection h with h; subst h
    cases p with
    | none => obtain ⟨rfl, rfl, rfl⟩ := slice_none ha; rfl
    | some p => obtain ⟨m, i⟩ := p; obtain ⟨_, _, _, _, _, rfl⟩ := slice_some ha; rfl
  | str q => simp only [lenOf] at h; injection h with h; subst h; simp only [VR] at ha; subst ha; rfl
  | _ => cases h
theorem growBy_le (need_ : Nat) : ∀ (k c : Nat), c ≤ need_ → Builtin.growBy need_ k c ≤ need_ + need_ + 800
  | 0, c, h => by simp only [Builtin.growBy]; omega
  | k + 1, c, h => by
    simp only [Builtin.growBy]
    by_cases q : c ≥ need_
    · rw [if_pos q]; omega
    · rw [if_neg q]
      by_cases q2 : c + (c + 768) / 4 ≤ need_
      · exact growBy_le need_ k _ q2
      · have : ∀ k, Builtin.growBy need_ k (c + (c + 768) / 4) = c + (c + 768) / 4 := by
          intro k
          cases k with
          | zero => rfl
          | succ k => simp only [Builtin.growBy]; rw [if_pos (by omega)]
        rw [this]; omega
theorem nextcap_le {need_ old : Nat} (h : old < need_) : Builtin.nextslicecap need_ old ≤ 2 * need_ + 4096 := by
  unfold Builtin.nextslicecap
  split
  · omega
  · split
    · omega
    · have := growBy_le need_ 4 old (by omega); omega
theorem grow_run {elem : TypeId} {i : TypeInfo} {sv xv : Value} {base : Option Addr} {len c n : Nat} {xt : Option TypeId} {args : Array TypeId} {sT : TypeId} {old new : Array Value} {zv : Value}
    (hs : sv = .slice base len c) (hu : P.underlying sT = some (.slice elem)) (ha0 : args[0]? = some sT) (ha1 : args[1]? = xt) (hx : notInt P xt = true) (hi : P.info? elem = some i)
    (hn : (Builtin.lenOf xv).run P w = .ok n w) (hlt : c < len + n) (hroom : 2 * (len + n) * i.bytes + 4096 * i.bytes ≤ room) (hb : i.bytes ≠ 0)
    (ho : (Builtin.firstCells i.size len sv).run P { w with drawn := w.drawn + 1 } = .ok old { w with drawn := w.drawn + 1 }) (hw : (Builtin.firstCells i.size n xv).run P { w with drawn := w.drawn + 1 } = .ok new { w with drawn := w.drawn + 1 })
    (hz : ∀ w' : World, (zeroValue elem).run P w' = .ok zv w') :
    ∃ rest : List Value, ∃ nc, len + n ≤ nc ∧ rest.length = (nc - (len + n)) * zv.cells.size ∧ (Builtin.append_ args 0 #[sv, xv]).run P w =
      .ok (.slice (some ⟨w.heap.size, 0, none⟩) (len + n) nc) { w with heap := w.heap.push (.cells ((old ++ new).toList ++ rest).toArray elem), drawn := w.drawn + 1 } := by
  subst hs
  have hcap := nextcap_le hlt
  have hmul : Builtin.nextslicecap (len + n) c * i.bytes ≤ 2 ^ 48 := by
    have := Nat.mul_le_mul_right i.bytes hcap
    have e : (2 * (len + n) + 4096) * i.bytes = 2 * (len + n) * i.bytes + 4096 * i.bytes := Nat.add_mul _ _ _
    unfold room at hroom
    omega
  have hnc : ∃ nc, len + n ≤ nc ∧ (choose (.appendCap (len + n) c elem)).run P w = .ok nc { w with drawn := w.drawn + 1 } := by
    refine ⟨len + n + w.tape w.drawn (.appendCap (len + n) c elem) % (2 ^ 63 - (len + n)), by omega, ?_⟩
    rw [run_choose]
    simp [Question.forced, Question.cut]
  obtain ⟨nc, hnc1, hnc2⟩ := hnc
  refine ⟨(Builtin.zeroCells zv.cells (nc - (len + n))).toList, nc, hnc1, by simp [Builtin.zeroCells], ?_⟩
  have hle : ¬ (len + n ≤ c) := by omega
  have hni : ¬ (((len + n : Nat) : Int) > IntKind.i64.max ∧ (False ∨ i.bytes = 0)) := by
    rintro ⟨_, e | e⟩
    · cases e
    · exact hb e
  have hbig : ¬ (Builtin.nextslicecap (len + n) c * i.bytes > 2 ^ 48) := by omega
  have hrow : ∀ w' : World, (Go.newRow elem (old ++ new ++ Builtin.zeroCells zv.cells (nc - (len + n)))).run P w' = .ok ⟨w'.heap.size, 0, none⟩ { w' with heap := w'.heap.push (.cells ((old ++ new).toList ++ (Builtin.zeroCells zv.cells (nc - (len + n))).toList).toArray elem) } := by
    intro w'
    have e : ((old ++ new).toList ++ (Builtin.zeroCells zv.cells (nc - (len + n))).toList).toArray = old ++ new ++ Builtin.zeroCells zv.cells (nc - (len + n)) := by
      rw [← Array.toList_append]
    rw [e]; rfl
  unfold notInt at hx
  cases xt with
  | none =>
    simp only [Builtin.append_, ha0, ha1]
    simp only [show (#[Value.slice base len c, xv] : Array Value)[0]? = some (.slice base len c) from rfl, show (#[Value.slice base len c, xv] : Array Value)[1]? = some xv from rfl]
    simp only [Sem.run_bind, run_underlying_of hu, Result.andThen_ok, run_size_of (show sizeT P elem = some i.size by simp [sizeT, hi]), Sem.run_pure, Bool.false_eq_true, if_false, hn, if_neg hle, run_info_of hi]
    rw [if_neg hni]
    simp only [Sem.run_bind, run_info_of hi, Result.andThen_ok]
    rw [if_neg hbig]
    simp only [Sem.run_bind, hnc2, Result.andThen_ok, run_info_of hi, run_askRoom, ho, Bool.not_false, if_true, hw, hz, hrow, Sem.run_pure]
  | some q =>
    simp only at hx
    cases e : P.underlying q with
    | none => rw [e] at hx; cases hx
    | some d =>
      rw [e] at hx
      cases d <;> first
        | (cases hx; done)
        | (simp only [Builtin.append_, ha0, ha1]
           simp only [show (#[Value.slice base len c, xv] : Array Value)[0]? = some (.slice base len c) from rfl, show (#[Value.slice base len c, xv] : Array Value)[1]? = some xv from rfl]
           simp only [Sem.run_bind, run_underlying_of hu, Result.andThen_ok, run_size_of (show sizeT P elem = some i.size by simp [sizeT, hi]), Sem.run_pure, run_underlying_of e, Bool.false_eq_true, if_false, hn, if_neg hle, run_info_of hi]
           rw [if_neg hni]
           simp only [Sem.run_bind, run_info_of hi, Result.andThen_ok]
           rw [if_neg hbig]
           simp only [Sem.run_bind, hnc2, Result.andThen_ok, run_info_of hi, run_askRoom, ho, Bool.not_false, if_true, hw, hz, hrow, Sem.run_pure])
end
end Go.Rn

namespace Go.Rn
open Go.RowKit
section
variable {P : Program} {B : Base} {ρ : Ren} {w : World} {s s1 : AS} {x : AV} {call : Caller} {t : Tr AV} {ev : Operand → Value} {o : Oper}
theorem fit_run {elem : TypeId} {size : Nat} {xv : Value} {base : Option Addr} {len c n : Nat} {xt : Option TypeId} {args : Array TypeId} {sT : TypeId} {new : Array Value} {w' : World}
    (hu : P.underlying sT = some (.slice elem)) (ha0 : args[0]? = some sT) (ha1 : args[1]? = xt) (hx : notInt P xt = true) (hi : sizeT P elem = some size)
    (hn : (Builtin.lenOf xv).run P w = .ok n w) (hle : len + n ≤ c) (hw : (Builtin.firstCells size n xv).run P w = .ok new w)
    (hst : (match base with | some a => storeCells (a.add (len * size)) new.toList | none => pure ()).run P w = .ok () w') :
    (Builtin.append_ args 0 #[.slice base len c, xv]).run P w = .ok (.slice base (len + n) c) w' := by
  have hnone : base = none → w' = w := by
    intro e; subst e
    have hst' : Result.ok () w = .ok () w' := hst
    injection hst' with _ e; exact e.symm
  unfold notInt at hx
  cases xt with
  | none =>
    simp only [Builtin.append_, ha0, ha1]
    simp only [show (#[Value.slice base len c, xv] : Array Value)[0]? = some (.slice base len c) from rfl, show (#[Value.slice base len c, xv] : Array Value)[1]? = some xv from rfl]
    simp only [Sem.run_bind, run_underlying_of hu, Result.andThen_ok, run_size_of hi, Sem.run_pure, Bool.false_eq_true, if_false, hn, if_pos hle, Bool.not_false, if_true, hw]
    cases base with
    | none => simp only [Sem.run_pure, hnone rfl]
    | some a => simp only [Sem.run_bind, show (storeCells (a.add (len * size)) new.toList).run P w = .ok () w' from hst, Result.andThen_ok, Sem.run_pure]
  | some q =>
    simp only at hx
    cases e : P.underlying q with
    | none => rw [e] at hx; cases hx
    | some d =>
      rw [e] at hx
      cases d <;> first
        | (cases hx; done)
        | (simp only [Builtin.append_, ha0, ha1]
           simp only [show (#[Value.slice base len c, xv] : Array Value)[0]? = some (.slice base len c) from rfl, show (#[Value.slice base len c, xv] : Array Value)[1]? = some xv from rfl]
           simp only [Sem.run_bind, run_underlying_of hu, Result.andThen_ok, run_size_of hi, Sem.run_pure, run_underlying_of e, Bool.false_eq_true, if_false, hn, if_pos hle, Bool.not_false, if_true, hw]
           cases base with
           | none => simp only [Sem.run_pure, hnone rfl]
           | some a => simp only [Sem.run_bind, show (storeCells (a.add (len * size)) new.toList).run P w = .ok () w' from hst, Result.andThen_ok, Sem.run_pure])
theorem zeroFits_some {i : TypeInfo} {elem : TypeId} (hi : P.info? elem = some i) (h : zeroFits i = true) : ∃ zv, (∀ w' : World, (zeroValue elem).run P w' = .ok zv w') ∧ zv.cells.size = i.size := by
  unfold zeroFits at h
  cases e : i.zero with
  | none => rw [e] at h; cases h
  | some v => rw [e] at h; exact ⟨v, fun w' => by simp [zeroValue, run_info_of hi, e], beqN_true.1 h⟩
theorem writeMore_sim {n off : Nat} {l : List AV} {vs : List Value} {u : Unit} {b N : Nat} (fi : Fine s) (r : Rel B ρ s.h w) (hN : off + l.length ≤ N)
    (h : writeMore n off l s = .ok u s1) (hn : ρ n = some (b, N)) (hl : VRs ρ l vs) :
    s1.nx = s.nx ∧ ∃ w', (storeCells ⟨b, off, none⟩ vs).run P w = .ok () w' ∧ Rel B ρ s1.h w' ∧ Bel B w w' := by
  cases l with
  | nil =>
    simp only [VRs] at hl; subst hl
    have h' : M.pure () s = .ok u s1 := h
    obtain ⟨_, rfl⟩ := pure_inv h'
    exact ⟨rfl, w, rfl, r, Bel.refl _ _⟩
  | cons x l =>
    unfold writeMore at h
    obtain ⟨o, s2, h1, h2⟩ := M.bind_inv h
    obtain ⟨hx, hg, hh, hnx⟩ := rdN_same h1
    have ht : n < top := Nat.lt_of_lt_of_le hx fi.nx
    obtain ⟨o', hb, hO, hB⟩ := r.block ht hg hn
    cases o with
    | cells m t z =>
      obtain ⟨q1, q2⟩ := withB_inv h2
      obtain ⟨q3, q4⟩ := and_true.1 q1
      obtain ⟨q5, q6⟩ := and_true.1 q4
      obtain ⟨_, _, _, e1, e2⟩ := wrN_same q2
      obtain ⟨c, e, rfl, hc, hm, row⟩ := hO
      have hlen : (x :: l).length = vs.length := hl.length
      have h3 : off ≤ m := ble_true.1 q3
      have h4 : max m (off + (x :: l).length) ≤ top := ble_true.1 q5
      have h5 : ∀ y ∈ x :: l, y.oneCell = true := fun y hy => List.all_eq_true.1 q6 y hy
      have hst := store_row (P := P) (off := off) (vs := vs) hb (by omega) (oneCells'_of hl h5)
      obtain ⟨g1, g2⟩ := setRow_only (cs := (c.toList.take off ++ vs ++ c.toList.drop (off + vs.length)).toArray) hb
      refine ⟨by rw [e2, hnx], _, hst, ?_, g1.below (hB rfl)⟩
      rw [e1, hh]
      refine r.put ht hg rfl rfl hn rfl g1 g2 ?_
      refine ⟨_, e, rfl, (size_set (by omega)).trans hc, ?_, ?_⟩
      · show max m (off + (x :: l).length) ≤ N
        omega
      · have h6 : max m (off + (x :: l).length) ≤ c.size := by omega
        exact Row.set (ρ := ρ) (c := c) (n := m) row hl h5 h3 rfl h6 h4
    | _ => cases h2
theorem grown_sim {elem sT : TypeId} {i : TypeInfo} {sv xv : Value} {base : Option Addr} {len c n : Nat} {xt : Option TypeId} {args : Array TypeId} {old new : List AV} {vo vn : Array Value}
    (hs : sv = .slice base len c) (hu : P.underlying sT = some (.slice elem)) (ha0 : args[0]? = some sT) (ha1 : args[1]? = xt) (hx : notInt P xt = true) (hi : P.info? elem = some i) (hz : zeroFits i = true)
    (hn : (Builtin.lenOf xv).run P w = .ok n w) (hlt : c < len + n) (r : Rel B ρ s.h w) (hf : Free s.nx s1.nx ρ) (hlo : old.length = len * i.size) (hln : new.length = n * i.size)
    (ho : (Builtin.firstCells i.size len sv).run P { w with drawn := w.drawn + 1 } = .ok vo { w with drawn := w.drawn + 1 }) (hw : (Builtin.firstCells i.size n xv).run P { w with drawn := w.drawn + 1 } = .ok vn { w with drawn := w.drawn + 1 })
    (hvo : VRs ρ old vo.toList) (hvn : VRs ρ new vn.toList) (h : grown i.size i.bytes (len + n) old new s = .ok x s1) : SimV P B ρ s s1 w x (Builtin.append_ args 0 #[sv, xv]) := by
  unfold grown at h
  obtain ⟨h1, h2⟩ := withB_inv h
  obtain ⟨m, s2, h3, h4⟩ := M.bind_inv h2
  obtain ⟨rfl, rfl⟩ := pure_inv h4
  obtain ⟨h5, h6⟩ := and_true.1 h1
  have hroom := ble_true.1 h5
  have hb : i.bytes ≠ 0 := by intro e; rw [e] at h6; simp at h6
  obtain ⟨zv, hz1, hz2⟩ := zeroFits_some (P := P) hi hz
  obtain ⟨rest, nc, g1, g2, g3⟩ := grow_run (P := P) (w := w) hs hu ha0 ha1 hx hi hn hlt hroom hb ho hw hz1
  have r1 : Rel B ρ s.h { w with drawn := w.drawn + 1 } := r.grew (Grew.drew w)
  obtain ⟨rfl, k1, σ, k2, k3, k4, k5⟩ := newRow_sim (P := P) elem rest r1 hf h3 (hvo.append hvn)
  have e : vo.toList ++ vn.toList ++ rest = (vo ++ vn).toList ++ rest := by simp
  refine ⟨σ, _, _, k2, g3, ?_, ?_, (Grew.trans (Grew.drew w) (Grew.alloc _ _)).below r.size⟩
  · simp only [VR]
    refine ⟨_, _, nc, k3, rfl, g1, g1, ?_⟩
    have e1 := hvo.length; have e2 := hvn.length
    simp only [List.length_append]
    rw [← e1, ← e2, hlo, hln, g2, hz2, Nat.zero_add, ← Nat.add_mul, ← Nat.add_mul]
    exact Nat.le_of_eq (by congr 1; omega)
  · rw [e] at k5; exact k5
theorem firstCells_length {size len : Nat} {base : Option (Nat × Nat)} {cap : Cap} {l : List AV} {v : Value} (fi : Fine s) (r : Rel B ρ s.h w) (ha : VR ρ (.slice base len cap) v) (hc : cap ≠ .lost)
    (h : firstCells size len (.slice base len cap) s = .ok l s1) : l.length = len * size := by
  cases base with
  | none =>
    obtain ⟨rfl, rfl, rfl⟩ := slice_none ha
    obtain ⟨rfl, rfl⟩ := pure_inv (show (M.pure [] : M (List AV)) s = .ok l s1 from h)
    simp
  | some p =>
    obtain ⟨m, i⟩ := p
    rw [firstCells_some hc] at h
    obtain ⟨b, N, q, k, hn, rfl⟩ := slice_some ha
    exact (readCells_sim (P := (default : Program)) fi r h hn).2.2.1
end
end Go.Rn
