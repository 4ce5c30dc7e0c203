/- What functions are known of; event.bare, kind by kind. -/
import Derived.Test.YtadcegpdegpnmaaGreatDoorSegB
import Derived.Test.YtadcegpdegpnmaaGreatDoorRnOpenD
import Derived.Test.YtadcegpdegpnmaaGreatDoorDtP
open Go Go.Rn Go.RowKit Go.Proofs
set_option maxRecDepth 100000
namespace DtS
open DtP Go.Proofs.YtadcegpdegpnmaaGreatDoor.divergeTexts
theorem hmix : Tryz.prog.follows .mixedOrders = true := by kernel_rfl
theorem globs_le : globs ≤ 270 := ble_true.1 (by kernel_rfl)
noncomputable def kn1 : List (Nat × Option AObj) := known1.map fun n => (n, heap1.get n)
theorem kn1_heap : hpOf kn1 = heap1 := by kernel_rfl
theorem hall1 (n : Nat) (o : AObj) (hn : n < top) (h : heap1.get n = some o) : n ∈ known1 := by
  rw [← kn1_heap] at h
  have hm := hpOf_mem (l := kn1) (fun p hp => by
    obtain ⟨k, hk, rfl⟩ := List.mem_map.1 hp
    have := lowAll_mem (m := top) (l := known1) (by kernel_rfl) k hk
    exact this) h
  obtain ⟨k, hk, e⟩ := List.mem_map.1 hm
  injection e with e1 _
  rw [← e1]; exact hk
theorem hns1 : ∀ n ∈ known1, n < nx0 := fun n hn => lowAll_mem (m := nx0) (l := known1) (by kernel_rfl) n hn
noncomputable section
def K1 (val : List AV → Option AV) : Caller → List AV → M AV := knownM nx0 known1 heap1 val
def evA (e : Ev) : AV := .agg [.int .u8 e.kind, .int .i64 e.thread, .int .i64 e.tx, .int .i64 e.at_, .int .i64 e.v, .int .i64 e.x, .int .u8 e.why]
/-- What event.bare answers. -/
def bareE (k a b c d x y : Int) : Option AV :=
  if k = .ofNat 1 then some (.agg [.int .u8 (.ofNat 1), .int .i64 a, .int .i64 b, .int .i64 (.ofNat 0), .int .i64 d, .int .i64 (.ofNat 0), .int .u8 (.ofNat 0)]) else if k = .ofNat 2 then some (.agg [.int .u8 (.ofNat 2), .int .i64 a, .int .i64 (.ofNat 0), .int .i64 c, .int .i64 d, .int .i64 (.ofNat 0), .int .u8 (.ofNat 0)]) else if k = .ofNat 3 then some (.agg [.int .u8 (.ofNat 3), .int .i64 a, .int .i64 (.ofNat 0), .int .i64 c, .int .i64 (.ofNat 0), .int .i64 x, .int .u8 (.ofNat 0)]) else if k = .ofNat 4 then some (.agg [.int .u8 (.ofNat 4), .int .i64 a, .int .i64 (.ofNat 0), .int .i64 c, .int .i64 (.ofNat 0), .int .i64 (.ofNat 0), .int .u8 (.ofNat 0)]) else if k = .ofNat 5 then some (.agg [.int .u8 (.ofNat 5), .int .i64 a, .int .i64 (.ofNat 0), .int .i64 (.ofNat 0), .int .i64 d, .int .i64 (.ofNat 0), .int .u8 (.ofNat 0)]) else if k = .ofNat 6 then some (.agg [.int .u8 (.ofNat 6), .int .i64 a, .int .i64 (.ofNat 0), .int .i64 c, .int .i64 (.ofNat 0), .int .i64 (.ofNat 0), .int .u8 (.ofNat 0)]) else if k = .ofNat 7 then some (.agg [.int .u8 (.ofNat 7), .int .i64 a, .int .i64 (.ofNat 0), .int .i64 (.ofNat 0), .int .i64 d, .int .i64 (.ofNat 0), .int .u8 (.ofNat 0)]) else if k = .ofNat 8 then some (.agg [.int .u8 (.ofNat 8), .int .i64 a, .int .i64 (.ofNat 0), .int .i64 c, .int .i64 (.ofNat 0), .int .i64 x, .int .u8 (.ofNat 0)]) else if k = .ofNat 9 then some (.agg [.int .u8 (.ofNat 9), .int .i64 a, .int .i64 (.ofNat 0), .int .i64 c, .int .i64 (.ofNat 0), .int .i64 (.ofNat 0), .int .u8 (.ofNat 0)]) else if k = .ofNat 10 then some (.agg [.int .u8 (.ofNat 10), .int .i64 a, .int .i64 (.ofNat 0), .int .i64 c, .int .i64 (.ofNat 0), .int .i64 (.ofNat 0), .int .u8 y]) else if k = .ofNat 11 then some (.agg [.int .u8 (.ofNat 11), .int .i64 a, .int .i64 (.ofNat 0), .int .i64 c, .int .i64 (.ofNat 0), .int .i64 (.ofNat 0), .int .u8 (.ofNat 0)]) else if k = .ofNat 12 then some (.agg [.int .u8 (.ofNat 12), .int .i64 a, .int .i64 (.ofNat 0), .int .i64 (.ofNat 0), .int .i64 (.ofNat 0), .int .i64 (.ofNat 0), .int .u8 (.ofNat 0)]) else if k = .ofNat 13 then some (.agg [.int .u8 (.ofNat 13), .int .i64 a, .int .i64 (.ofNat 0), .int .i64 (.ofNat 0), .int .i64 (.ofNat 0), .int .i64 (.ofNat 0), .int .u8 (.ofNat 0)]) else none
def bareL : List AV → Option AV
  | [.agg [.int .u8 k, .int .i64 a, .int .i64 b, .int .i64 c, .int .i64 d, .int .i64 x, .int .u8 y]] => if 0 ≤ y ∧ y ≤ 255 then bareE k a b c d x y else none
  | _ => none
def mayL : List AV → Option AV
  | [.agg [.int .u8 k, .int .i64 a, .int .i64 b, .int .i64 c, .int .i64 d, .int .i64 x, .int .u8 y], .int .i64 (.ofNat 6), .int .i64 (.ofNat 32), .int .i64 (.ofNat 32)] => if EvOk ⟨k, a, b, c, d, x, y⟩ then some (.bool (decide (MayE ⟨k, a, b, c, d, x, y⟩))) else none
  | _ => none
def showL : List AV → Option AV
  | [.agg [.int .u8 k, .int .i64 a, .int .i64 b, .int .i64 c, .int .i64 d, .int .i64 x, .int .u8 y]] => if EvOk ⟨k, a, b, c, d, x, y⟩ then some (.tuple [.str (shT ⟨k, a, b, c, d, x, y⟩), .int .i64 (shE ⟨k, a, b, c, d, x, y⟩)]) else none
  | _ => none
def itoaL : List AV → Option AV
  | [.int .i64 n] => if i64In n then some (.str (itoaB n)) else none
  | _ => none
def digL (p : Nat) : List AV → Option AV
  | [.int .i64 n] => if i64In n ∧ 0 ≤ n ∧ n < 10 ^ p ∧ 1 ≤ p then some (.str (itoaB n)) else none
  | _ => none
def ndigL (p : Nat) : List AV → Option AV
  | [.int .i64 n] => if i64In n ∧ -(10 ^ p) < n ∧ n < 10 ^ p ∧ 1 ≤ p then some (.str (itoaB n)) else none
  | _ => none
def withinL : List AV → Option AV
  | [.int .i64 n, .int .i64 a, .int .i64 b] => some (.bool (decide (a ≤ n ∧ n ≤ b)))
  | _ => none
/-- A report's text. -/
def repT (over : Bool) (place : Int) (want got : Ev) (has : Bool) : ByteArray := match over with
  | true => (⟨#[111, 118, 101, 114, 32]⟩ : ByteArray) ++ itoaB place
  | false => (((((⟨#[97, 116, 32]⟩ : ByteArray) ++ itoaB place) ++ (⟨#[32, 119, 97, 110, 116, 32]⟩ : ByteArray)) ++ shT want) ++ (⟨#[32, 103, 111, 116, 32]⟩ : ByteArray)) ++ (match has with | true => shT got | false => ⟨#[110, 111, 116, 104, 105, 110, 103]⟩)
def repL : List AV → Option AV
  | [.agg [.bool o, .int .i64 p, .int .u8 k, .int .i64 a, .int .i64 b, .int .i64 c, .int .i64 d, .int .i64 x, .int .u8 y, .int .u8 k2, .int .i64 a2, .int .i64 b2, .int .i64 c2, .int .i64 d2, .int .i64 x2, .int .u8 y2, .bool h]] =>
    if i64In p ∧ EvOk ⟨k, a, b, c, d, x, y⟩ ∧ EvOk ⟨k2, a2, b2, c2, d2, x2, y2⟩ then some (.str (repT o p ⟨k, a, b, c, d, x, y⟩ ⟨k2, a2, b2, c2, d2, x2, y2⟩ h)) else none
  | _ => none
def knL : List AV → Option AV
  | [.int .u8 k] => some (.bool (decide (1 ≤ k ∧ k ≤ 13)))
  | _ => none
def nameL : List AV → Option AV
  | [.int .u8 k] => if 13 < k then some (.str ⟨#[]⟩) else none
  | _ => none
def sp0 : Sp := updS (updS (updS (fun _ => none) 36 (K1 fmtL)) 24 (fun _ args => joinStrs args)) 39 (K1 bareL)
def spI : Sp := updS (updS (updS (updS sp0 21 (K1 itoaL)) 9 (K1 itoaL)) 23 (K1 fmtL)) 37 (K1 withinL)
def spA : Sp := updS spI 22 (K1 mayL)
def spB : Sp := updS spA 10 (K1 showL)
def spI2 : Sp := updS spI 38 (K1 knL)
def spB2 : Sp := updS spB 27 (K1 nameL)
def spC : Sp := updS spB 25 (K1 mayL)
def spCk (p : Nat) : Sp := updS spC 26 (K1 (digL p))
def spD : Sp := updS spC 26 (K1 itoaL)
def spE : Sp := updS spD 12 (K1 showL)
def spEk (p : Nat) : Sp := updS spE 11 (K1 (ndigL p))
def spF : Sp := updS spE 11 (K1 itoaL)
def spG : Sp := updS spF 5 (K1 repL)
def spH : Sp := updS spG 6 (K1 repL)
def spL : Sp := updS spH 4 (closedM nx0 known0 heap0)
end
theorem bareL_1 {th tx at_ v x why : Int} (ho : EvOk ⟨.ofNat 1, th, tx, at_, v, x, why⟩) : bareL [.agg [.int .u8 (.ofNat 1), .int .i64 th, .int .i64 tx, .int .i64 at_, .int .i64 v, .int .i64 x, .int .u8 why]] = some (.agg [.int .u8 (.ofNat 1), .int .i64 th, .int .i64 tx, .int .i64 (.ofNat 0), .int .i64 v, .int .i64 (.ofNat 0), .int .u8 (.ofNat 0)]) := by
  have hy : 0 ≤ why ∧ why ≤ 255 := ho.2.2.2.2.2.2
  show (if 0 ≤ why ∧ why ≤ 255 then bareE (.ofNat 1) th tx at_ v x why else none) = _
  rw [if_pos hy]
  rfl
theorem bareL_2 {th tx at_ v x why : Int} (ho : EvOk ⟨.ofNat 2, th, tx, at_, v, x, why⟩) : bareL [.agg [.int .u8 (.ofNat 2), .int .i64 th, .int .i64 tx, .int .i64 at_, .int .i64 v, .int .i64 x, .int .u8 why]] = some (.agg [.int .u8 (.ofNat 2), .int .i64 th, .int .i64 (.ofNat 0), .int .i64 at_, .int .i64 v, .int .i64 (.ofNat 0), .int .u8 (.ofNat 0)]) := by
  have hy : 0 ≤ why ∧ why ≤ 255 := ho.2.2.2.2.2.2
  show (if 0 ≤ why ∧ why ≤ 255 then bareE (.ofNat 2) th tx at_ v x why else none) = _
  rw [if_pos hy]
  rfl
theorem bareL_3 {th tx at_ v x why : Int} (ho : EvOk ⟨.ofNat 3, th, tx, at_, v, x, why⟩) : bareL [.agg [.int .u8 (.ofNat 3), .int .i64 th, .int .i64 tx, .int .i64 at_, .int .i64 v, .int .i64 x, .int .u8 why]] = some (.agg [.int .u8 (.ofNat 3), .int .i64 th, .int .i64 (.ofNat 0), .int .i64 at_, .int .i64 (.ofNat 0), .int .i64 x, .int .u8 (.ofNat 0)]) := by
  have hy : 0 ≤ why ∧ why ≤ 255 := ho.2.2.2.2.2.2
  show (if 0 ≤ why ∧ why ≤ 255 then bareE (.ofNat 3) th tx at_ v x why else none) = _
  rw [if_pos hy]
  rfl
theorem bareL_4 {th tx at_ v x why : Int} (ho : EvOk ⟨.ofNat 4, th, tx, at_, v, x, why⟩) : bareL [.agg [.int .u8 (.ofNat 4), .int .i64 th, .int .i64 tx, .int .i64 at_, .int .i64 v, .int .i64 x, .int .u8 why]] = some (.agg [.int .u8 (.ofNat 4), .int .i64 th, .int .i64 (.ofNat 0), .int .i64 at_, .int .i64 (.ofNat 0), .int .i64 (.ofNat 0), .int .u8 (.ofNat 0)]) := by
  have hy : 0 ≤ why ∧ why ≤ 255 := ho.2.2.2.2.2.2
  show (if 0 ≤ why ∧ why ≤ 255 then bareE (.ofNat 4) th tx at_ v x why else none) = _
  rw [if_pos hy]
  rfl
theorem bareL_5 {th tx at_ v x why : Int} (ho : EvOk ⟨.ofNat 5, th, tx, at_, v, x, why⟩) : bareL [.agg [.int .u8 (.ofNat 5), .int .i64 th, .int .i64 tx, .int .i64 at_, .int .i64 v, .int .i64 x, .int .u8 why]] = some (.agg [.int .u8 (.ofNat 5), .int .i64 th, .int .i64 (.ofNat 0), .int .i64 (.ofNat 0), .int .i64 v, .int .i64 (.ofNat 0), .int .u8 (.ofNat 0)]) := by
  have hy : 0 ≤ why ∧ why ≤ 255 := ho.2.2.2.2.2.2
  show (if 0 ≤ why ∧ why ≤ 255 then bareE (.ofNat 5) th tx at_ v x why else none) = _
  rw [if_pos hy]
  rfl
theorem bareL_6 {th tx at_ v x why : Int} (ho : EvOk ⟨.ofNat 6, th, tx, at_, v, x, why⟩) : bareL [.agg [.int .u8 (.ofNat 6), .int .i64 th, .int .i64 tx, .int .i64 at_, .int .i64 v, .int .i64 x, .int .u8 why]] = some (.agg [.int .u8 (.ofNat 6), .int .i64 th, .int .i64 (.ofNat 0), .int .i64 at_, .int .i64 (.ofNat 0), .int .i64 (.ofNat 0), .int .u8 (.ofNat 0)]) := by
  have hy : 0 ≤ why ∧ why ≤ 255 := ho.2.2.2.2.2.2
  show (if 0 ≤ why ∧ why ≤ 255 then bareE (.ofNat 6) th tx at_ v x why else none) = _
  rw [if_pos hy]
  rfl
theorem bareL_7 {th tx at_ v x why : Int} (ho : EvOk ⟨.ofNat 7, th, tx, at_, v, x, why⟩) : bareL [.agg [.int .u8 (.ofNat 7), .int .i64 th, .int .i64 tx, .int .i64 at_, .int .i64 v, .int .i64 x, .int .u8 why]] = some (.agg [.int .u8 (.ofNat 7), .int .i64 th, .int .i64 (.ofNat 0), .int .i64 (.ofNat 0), .int .i64 v, .int .i64 (.ofNat 0), .int .u8 (.ofNat 0)]) := by
  have hy : 0 ≤ why ∧ why ≤ 255 := ho.2.2.2.2.2.2
  show (if 0 ≤ why ∧ why ≤ 255 then bareE (.ofNat 7) th tx at_ v x why else none) = _
  rw [if_pos hy]
  rfl
theorem bareL_8 {th tx at_ v x why : Int} (ho : EvOk ⟨.ofNat 8, th, tx, at_, v, x, why⟩) : bareL [.agg [.int .u8 (.ofNat 8), .int .i64 th, .int .i64 tx, .int .i64 at_, .int .i64 v, .int .i64 x, .int .u8 why]] = some (.agg [.int .u8 (.ofNat 8), .int .i64 th, .int .i64 (.ofNat 0), .int .i64 at_, .int .i64 (.ofNat 0), .int .i64 x, .int .u8 (.ofNat 0)]) := by
  have hy : 0 ≤ why ∧ why ≤ 255 := ho.2.2.2.2.2.2
  show (if 0 ≤ why ∧ why ≤ 255 then bareE (.ofNat 8) th tx at_ v x why else none) = _
  rw [if_pos hy]
  rfl
theorem bareL_9 {th tx at_ v x why : Int} (ho : EvOk ⟨.ofNat 9, th, tx, at_, v, x, why⟩) : bareL [.agg [.int .u8 (.ofNat 9), .int .i64 th, .int .i64 tx, .int .i64 at_, .int .i64 v, .int .i64 x, .int .u8 why]] = some (.agg [.int .u8 (.ofNat 9), .int .i64 th, .int .i64 (.ofNat 0), .int .i64 at_, .int .i64 (.ofNat 0), .int .i64 (.ofNat 0), .int .u8 (.ofNat 0)]) := by
  have hy : 0 ≤ why ∧ why ≤ 255 := ho.2.2.2.2.2.2
  show (if 0 ≤ why ∧ why ≤ 255 then bareE (.ofNat 9) th tx at_ v x why else none) = _
  rw [if_pos hy]
  rfl
theorem bareL_10 {th tx at_ v x why : Int} (ho : EvOk ⟨.ofNat 10, th, tx, at_, v, x, why⟩) : bareL [.agg [.int .u8 (.ofNat 10), .int .i64 th, .int .i64 tx, .int .i64 at_, .int .i64 v, .int .i64 x, .int .u8 why]] = some (.agg [.int .u8 (.ofNat 10), .int .i64 th, .int .i64 (.ofNat 0), .int .i64 at_, .int .i64 (.ofNat 0), .int .i64 (.ofNat 0), .int .u8 why]) := by
  have hy : 0 ≤ why ∧ why ≤ 255 := ho.2.2.2.2.2.2
  show (if 0 ≤ why ∧ why ≤ 255 then bareE (.ofNat 10) th tx at_ v x why else none) = _
  rw [if_pos hy]
  rfl
theorem bareL_11 {th tx at_ v x why : Int} (ho : EvOk ⟨.ofNat 11, th, tx, at_, v, x, why⟩) : bareL [.agg [.int .u8 (.ofNat 11), .int .i64 th, .int .i64 tx, .int .i64 at_, .int .i64 v, .int .i64 x, .int .u8 why]] = some (.agg [.int .u8 (.ofNat 11), .int .i64 th, .int .i64 (.ofNat 0), .int .i64 at_, .int .i64 (.ofNat 0), .int .i64 (.ofNat 0), .int .u8 (.ofNat 0)]) := by
  have hy : 0 ≤ why ∧ why ≤ 255 := ho.2.2.2.2.2.2
  show (if 0 ≤ why ∧ why ≤ 255 then bareE (.ofNat 11) th tx at_ v x why else none) = _
  rw [if_pos hy]
  rfl
theorem bareL_12 {th tx at_ v x why : Int} (ho : EvOk ⟨.ofNat 12, th, tx, at_, v, x, why⟩) : bareL [.agg [.int .u8 (.ofNat 12), .int .i64 th, .int .i64 tx, .int .i64 at_, .int .i64 v, .int .i64 x, .int .u8 why]] = some (.agg [.int .u8 (.ofNat 12), .int .i64 th, .int .i64 (.ofNat 0), .int .i64 (.ofNat 0), .int .i64 (.ofNat 0), .int .i64 (.ofNat 0), .int .u8 (.ofNat 0)]) := by
  have hy : 0 ≤ why ∧ why ≤ 255 := ho.2.2.2.2.2.2
  show (if 0 ≤ why ∧ why ≤ 255 then bareE (.ofNat 12) th tx at_ v x why else none) = _
  rw [if_pos hy]
  rfl
theorem bareL_13 {th tx at_ v x why : Int} (ho : EvOk ⟨.ofNat 13, th, tx, at_, v, x, why⟩) : bareL [.agg [.int .u8 (.ofNat 13), .int .i64 th, .int .i64 tx, .int .i64 at_, .int .i64 v, .int .i64 x, .int .u8 why]] = some (.agg [.int .u8 (.ofNat 13), .int .i64 th, .int .i64 (.ofNat 0), .int .i64 (.ofNat 0), .int .i64 (.ofNat 0), .int .i64 (.ofNat 0), .int .u8 (.ofNat 0)]) := by
  have hy : 0 ≤ why ∧ why ≤ 255 := ho.2.2.2.2.2.2
  show (if 0 ≤ why ∧ why ≤ 255 then bareE (.ofNat 13) th tx at_ v x why else none) = _
  rw [if_pos hy]
  rfl
theorem mayL_t {k a b c d x y : Int} (ho : EvOk ⟨k, a, b, c, d, x, y⟩) (h : MayE ⟨k, a, b, c, d, x, y⟩) : mayL [.agg [.int .u8 k, .int .i64 a, .int .i64 b, .int .i64 c, .int .i64 d, .int .i64 x, .int .u8 y], .int .i64 (.ofNat 6), .int .i64 (.ofNat 32), .int .i64 (.ofNat 32)] = some (.bool true) := by
  show (if EvOk ⟨k, a, b, c, d, x, y⟩ then some (AV.bool (decide (MayE ⟨k, a, b, c, d, x, y⟩))) else none) = _
  rw [if_pos ho, decide_eq_true h]
theorem mayL_f {k a b c d x y : Int} (ho : EvOk ⟨k, a, b, c, d, x, y⟩) (h : ¬ MayE ⟨k, a, b, c, d, x, y⟩) : mayL [.agg [.int .u8 k, .int .i64 a, .int .i64 b, .int .i64 c, .int .i64 d, .int .i64 x, .int .u8 y], .int .i64 (.ofNat 6), .int .i64 (.ofNat 32), .int .i64 (.ofNat 32)] = some (.bool false) := by
  show (if EvOk ⟨k, a, b, c, d, x, y⟩ then some (AV.bool (decide (MayE ⟨k, a, b, c, d, x, y⟩))) else none) = _
  rw [if_pos ho, decide_eq_false h]
theorem showL_ok {e : Ev} (ho : EvOk e) : showL [.agg [.int .u8 e.kind, .int .i64 e.thread, .int .i64 e.tx, .int .i64 e.at_, .int .i64 e.v, .int .i64 e.x, .int .u8 e.why]] = some (.tuple [.str (shT e), .int .i64 (shE e)]) := by
  show (if EvOk e then some (AV.tuple [.str (shT e), .int .i64 (shE e)]) else none) = _
  rw [if_pos ho]
theorem itoaL_ok {n : Int} (h : i64In n) : itoaL [.int .i64 n] = some (.str (itoaB n)) := by
  show (if i64In n then some (AV.str (itoaB n)) else none) = _
  rw [if_pos h]
theorem fmtL_ok {n m : Int} (e : n = m) (h : i64In m) : fmtL [.int .i64 n, .int .i64 (.ofNat 10)] = some (.str (itoaB m)) := by
  subst e
  show (if i64In n then some (AV.str (itoaB n)) else none) = _
  rw [if_pos h]
theorem k1_says {F : Nat → Option (List AV)} {sp : Sp} {g : FuncId} {val : List AV → Option AV} (h : sp g = some (K1 val)) {args : List AV} {v : AV} {n : Nat} {s : AS} (hv : val args = some v) (hk : chkB nx0 heap1 known1 s = true) : arunI Tryz.prog sp F (n + 1) (.fn g) args s = .ok v (chkS nx0 heap1 known1 s) := known_says h hv hk
theorem knL_t {k : Int} (h : 1 ≤ k ∧ k ≤ 13) : knL [.int .u8 k] = some (.bool true) := by
  show some (AV.bool (decide (1 ≤ k ∧ k ≤ 13))) = _
  rw [decide_eq_true h]
theorem knL_f {k : Int} (h : ¬ (1 ≤ k ∧ k ≤ 13)) : knL [.int .u8 k] = some (.bool false) := by
  show some (AV.bool (decide (1 ≤ k ∧ k ≤ 13))) = _
  rw [decide_eq_false h]
theorem nameL_big {k : Int} (h : 13 < k) : nameL [.int .u8 k] = some (.str ⟨#[]⟩) := if_pos h
theorem show_yes {e : Ev} {t t2 : ByteArray} (h : MayE e) (ht : textE e = t) (h2 : t2 = t := by rfl) : (AV.tuple [.str t2, .int .i64 (.ofNat 0)]) = .tuple [.str (shT e), .int .i64 (shE e)] := by
  subst h2; rw [shT_yes h, shE_yes h, ht]; rfl
theorem show_no {e : Ev} (h : ¬ MayE e) : (AV.tuple [.str ⟨#[]⟩, .int .i64 (.ofNat 4)]) = .tuple [.str (shT e), .int .i64 (shE e)] := by
  rw [shT_no h, shE_no h]; rfl
theorem withinL_t {n a b : Int} (h : a ≤ n ∧ n ≤ b) : withinL [.int .i64 n, .int .i64 a, .int .i64 b] = some (.bool true) := by
  show some (AV.bool (decide (a ≤ n ∧ n ≤ b))) = _
  rw [decide_eq_true h]
theorem withinL_f {n a b : Int} (h : ¬ (a ≤ n ∧ n ≤ b)) : withinL [.int .i64 n, .int .i64 a, .int .i64 b] = some (.bool false) := by
  show some (AV.bool (decide (a ≤ n ∧ n ≤ b))) = _
  rw [decide_eq_false h]
end DtS
