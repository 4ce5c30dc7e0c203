/-
  Proved here: what functions are known of (event.bare, May and others), and the words of the law.
  Conditions: none.
-/
import Derived.Test.YtbnjeblcleihkaaGreatDoorSegB
import Derived.Test.YtbnjeblcleihkaaGreatDoorRnOpenD
import Derived.Test.YtbnjeblcleihkaaGreatDoorRnOpenC
import Derived.Test.YtbnjeblcleihkaaGreatDoorRnTz
open Go Go.Rn Go.RowKit Go.Proofs
set_option maxRecDepth 100000
namespace AcS
open Go.Proofs.YtbnjeblcleihkaaGreatDoor.auditCounted
theorem hmix : Tryz.prog.follows .mixedOrders = true := by kernel_rfl
theorem globs_le : globs ≤ 270 := ble_true.1 (by kernel_rfl)
noncomputable def kn1 : List (Nat × Option AObj) := known0.map fun n => (n, heap0.get n)
theorem kn1_heap : hpOf kn1 = heap0 := by kernel_rfl
theorem kn1_st : stOf kn1 270 = ⟨heap0, nx0, 0, [], []⟩ := by
  show (⟨hpOf kn1, 270, 0, [], []⟩ : AS) = _
  rw [kn1_heap]; rfl
theorem hall1 (n : Nat) (o : AObj) (hn : n < top) (h : heap0.get n = some o) : n ∈ known0 := by
  rw [← kn1_heap] at h
  have hm := hpOf_mem (l := kn1) (fun p hp => by
    obtain ⟨k, hk, rfl⟩ := List.mem_map.1 hp
    have := lowAll_mem (m := top) (l := known0) (by kernel_rfl) k hk
    exact this) h
  obtain ⟨k, hk, e⟩ := List.mem_map.1 hm
  injection e with e1 _
  rw [← e1]; exact hk
theorem hns1 : ∀ n ∈ known0, n < nx0 := fun n hn => lowAll_mem (m := nx0) (l := known0) (by kernel_rfl) n hn
structure Ev where
  kind : Int
  thread : Int
  tx : Int
  at_ : Int
  v : Int
  x : Int
  why : Int
def EvOk (e : Ev) : Prop := (0 ≤ e.kind ∧ e.kind ≤ 255) ∧ i64In e.thread ∧ i64In e.tx ∧ i64In e.at_ ∧ i64In e.v ∧ i64In e.x ∧ (0 ≤ e.why ∧ e.why ≤ 255)
instance (e : Ev) : Decidable (EvOk e) := by unfold EvOk; infer_instance
/-- May an event be? -/
def MayQ (k th tx at_ v x why T V S : Int) : Prop := (1 ≤ T ∧ T ≤ 6) ∧ (1 ≤ V ∧ V ≤ 32) ∧ (1 ≤ S ∧ S ≤ V) ∧ 1 ≤ k ∧ k ≤ 13 ∧ (k ≠ 10 ∨ (1 ≤ why ∧ why ≤ 6)) ∧ 0 ≤ th ∧ th < T ∧ 0 ≤ tx ∧ tx ≤ 5 ∧ 0 ≤ v ∧ v ≤ 1099511627776 ∧ (k ≠ 5 ∨ 1 ≤ v) ∧ 0 ≤ at_ ∧ (k = 3 ∨ k = 8 ∨ at_ < S) ∧ ((k ≠ 3 ∧ k ≠ 8) ∨ at_ < V) ∧ (k ≠ 10 ∨ why ≠ 6 ∨ at_ ≤ 0) ∧ (k = 1 ∨ tx = 0) ∧ ((k ≠ 1 ∧ k ≠ 5 ∧ k ≠ 7 ∧ k ≠ 12 ∧ k ≠ 13) ∨ at_ = 0) ∧ (k = 1 ∨ k = 2 ∨ k = 5 ∨ k = 7 ∨ v = 0) ∧ (k = 3 ∨ k = 8 ∨ x = 0) ∧ (k = 10 ∨ why = 0)
instance (k th tx at_ v x why T V S : Int) : Decidable (MayQ k th tx at_ v x why T V S) := by unfold MayQ; infer_instance
noncomputable section
def K1 (val : List AV → Option AV) : Caller → List AV → M AV := knownM nx0 known0 heap0 val
/-- What event.bare answers. -/
def bareE (k a b c d x y : Int) : Option AV :=
  if k = .ofNat 1 then some (.agg [.int .u8 (.ofNat 1), .int .i64 a, .int .i64 b, .int .i64 (.ofNat 0), .int .i64 d, .int .i64 (.ofNat 0), .int .u8 (.ofNat 0)]) else if k = .ofNat 2 then some (.agg [.int .u8 (.ofNat 2), .int .i64 a, .int .i64 (.ofNat 0), .int .i64 c, .int .i64 d, .int .i64 (.ofNat 0), .int .u8 (.ofNat 0)]) else if k = .ofNat 3 then some (.agg [.int .u8 (.ofNat 3), .int .i64 a, .int .i64 (.ofNat 0), .int .i64 c, .int .i64 (.ofNat 0), .int .i64 x, .int .u8 (.ofNat 0)]) else if k = .ofNat 4 then some (.agg [.int .u8 (.ofNat 4), .int .i64 a, .int .i64 (.ofNat 0), .int .i64 c, .int .i64 (.ofNat 0), .int .i64 (.ofNat 0), .int .u8 (.ofNat 0)]) else if k = .ofNat 5 then some (.agg [.int .u8 (.ofNat 5), .int .i64 a, .int .i64 (.ofNat 0), .int .i64 (.ofNat 0), .int .i64 d, .int .i64 (.ofNat 0), .int .u8 (.ofNat 0)]) else if k = .ofNat 6 then some (.agg [.int .u8 (.ofNat 6), .int .i64 a, .int .i64 (.ofNat 0), .int .i64 c, .int .i64 (.ofNat 0), .int .i64 (.ofNat 0), .int .u8 (.ofNat 0)]) else if k = .ofNat 7 then some (.agg [.int .u8 (.ofNat 7), .int .i64 a, .int .i64 (.ofNat 0), .int .i64 (.ofNat 0), .int .i64 d, .int .i64 (.ofNat 0), .int .u8 (.ofNat 0)]) else if k = .ofNat 8 then some (.agg [.int .u8 (.ofNat 8), .int .i64 a, .int .i64 (.ofNat 0), .int .i64 c, .int .i64 (.ofNat 0), .int .i64 x, .int .u8 (.ofNat 0)]) else if k = .ofNat 9 then some (.agg [.int .u8 (.ofNat 9), .int .i64 a, .int .i64 (.ofNat 0), .int .i64 c, .int .i64 (.ofNat 0), .int .i64 (.ofNat 0), .int .u8 (.ofNat 0)]) else if k = .ofNat 10 then some (.agg [.int .u8 (.ofNat 10), .int .i64 a, .int .i64 (.ofNat 0), .int .i64 c, .int .i64 (.ofNat 0), .int .i64 (.ofNat 0), .int .u8 y]) else if k = .ofNat 11 then some (.agg [.int .u8 (.ofNat 11), .int .i64 a, .int .i64 (.ofNat 0), .int .i64 c, .int .i64 (.ofNat 0), .int .i64 (.ofNat 0), .int .u8 (.ofNat 0)]) else if k = .ofNat 12 then some (.agg [.int .u8 (.ofNat 12), .int .i64 a, .int .i64 (.ofNat 0), .int .i64 (.ofNat 0), .int .i64 (.ofNat 0), .int .i64 (.ofNat 0), .int .u8 (.ofNat 0)]) else if k = .ofNat 13 then some (.agg [.int .u8 (.ofNat 13), .int .i64 a, .int .i64 (.ofNat 0), .int .i64 (.ofNat 0), .int .i64 (.ofNat 0), .int .i64 (.ofNat 0), .int .u8 (.ofNat 0)]) else none
def bareL : List AV → Option AV
  | [.agg [.int .u8 k, .int .i64 a, .int .i64 b, .int .i64 c, .int .i64 d, .int .i64 x, .int .u8 y]] => if 0 ≤ y ∧ y ≤ 255 then bareE k a b c d x y else none
  | _ => none
def mayL : List AV → Option AV
  | [.agg [.int .u8 k, .int .i64 a, .int .i64 b, .int .i64 c, .int .i64 d, .int .i64 x, .int .u8 y], .int .i64 T, .int .i64 V, .int .i64 S] => if EvOk ⟨k, a, b, c, d, x, y⟩ ∧ i64In T ∧ i64In V ∧ i64In S then some (.bool (decide (MayQ k a b c d x y T V S))) else none
  | _ => none
def withinL : List AV → Option AV
  | [.int .i64 n, .int .i64 a, .int .i64 b] => some (.bool (decide (a ≤ n ∧ n ≤ b)))
  | _ => none
def knL : List AV → Option AV
  | [.int .u8 k] => some (.bool (decide (1 ≤ k ∧ k ≤ 13)))
  | _ => none
def tzL : List AV → Option AV
  | [.int .u32 x] => if 0 ≤ x ∧ x < 4294967296 then some (.int .i64 (tzI x)) else none
  | _ => none
def spT : Sp := updS (fun _ => none) 78 (K1 tzL)
def spB : Sp := updS spT 39 (K1 bareL)
def spI : Sp := updS spB 37 (K1 withinL)
def spI2 : Sp := updS spI 38 (K1 knL)
def worksL : List AV → Option AV
  | [] => some (.bool true)
  | _ => none
def spM0 : Sp := updS spI 13 (K1 mayL)
def spM : Sp := updS spM0 4 (K1 worksL)
def tabT := tabUp (fun _ => none) 78 tzL
def tabB := tabUp tabT 39 bareL
def tabI := tabUp tabB 37 withinL
def tabI2 := tabUp tabI 38 knL
def tabM0 := tabUp tabI 13 mayL
def tabM := tabUp tabM0 4 worksL
def env (sp : Sp) (tab : FuncId → Option (List AV → Option AV)) (F : Nat → Option (List AV)) : Env := ⟨Tryz.prog, sp, F, tab, fun _ => false, chkB nx0 heap0 known0, chkS nx0 heap0 known0, 270, true⟩
def envE (sp : Sp) (tab : FuncId → Option (List AV → Option AV)) (F : Nat → Option (List AV)) : Env := ⟨Tryz.prog, sp, F, tab, fun _ => false, chkB nx0 heap0 known0, chkS nx0 heap0 known0, 270, false⟩
end
theorem k1_says {F : Nat → Option (List AV)} {sp : Sp} {g : FuncId} {val : List AV → Option AV} (h : sp g = some (K1 val)) {args : List AV} {v : AV} {n : Nat} {s : AS} (hv : val args = some v) (hk : chkB nx0 heap0 known0 s = true) : arunI Tryz.prog sp F (n + 1) (.fn g) args s = .ok v (chkS nx0 heap0 known0 s) := known_says h hv hk
theorem env_ok {sp : Sp} {tab : FuncId → Option (List AV → Option AV)} (h : TabOk K1 sp tab) {F : Nat → Option (List AV)} : (env sp tab F).Ok :=
  ⟨fun g _ _ _ _ _ e hv hk => k1_says (h g _ e) hv hk, fun g e => by cases e⟩
theorem envE_ok {sp : Sp} {tab : FuncId → Option (List AV → Option AV)} (h : TabOk K1 sp tab) {F : Nat → Option (List AV)} : (envE sp tab F).Ok :=
  ⟨fun g _ _ _ _ _ e hv hk => k1_says (h g _ e) hv hk, fun g e => by cases e⟩
theorem okT : TabOk K1 spT tabT := TabOk.nil.up 78 tzL
theorem okB : TabOk K1 spB tabB := okT.up 39 bareL
theorem okI : TabOk K1 spI tabI := okB.up 37 withinL
theorem okI2 : TabOk K1 spI2 tabI2 := okI.up 38 knL
theorem okM : TabOk K1 spM tabM := (okI.up 13 mayL).up 4 worksL
theorem withinL_p (n a b : Int) : withinL [.int .i64 n, .int .i64 a, .int .i64 b] = some (.bool (decide (a ≤ n ∧ n ≤ b))) := rfl
theorem knL_p (k : Int) : knL [.int .u8 k] = some (.bool (decide (1 ≤ k ∧ k ≤ 13))) := rfl
theorem tzL_p {x : Int} (h : 0 ≤ x ∧ x < 4294967296) : tzL [.int .u32 x] = some (.int .i64 (tzI x)) := if_pos h
theorem mayL_p (k th tx at_ v x why T V S : Int) (h : EvOk ⟨k, th, tx, at_, v, x, why⟩ ∧ i64In T ∧ i64In V ∧ i64In S) : mayL [.agg [.int .u8 k, .int .i64 th, .int .i64 tx, .int .i64 at_, .int .i64 v, .int .i64 x, .int .u8 why], .int .i64 T, .int .i64 V, .int .i64 S] = some (.bool (decide (MayQ k th tx at_ v x why T V S))) := if_pos h
theorem mT (k th tx at_ v x why T V S : Int) (h : (1 ≤ T ∧ T ≤ 6) ∧ (1 ≤ V ∧ V ≤ 32) ∧ (1 ≤ S ∧ S ≤ V) ∧ 1 ≤ k ∧ k ≤ 13 ∧ (k ≠ 10 ∨ (1 ≤ why ∧ why ≤ 6)) ∧ 0 ≤ th ∧ th < T ∧ 0 ≤ tx ∧ tx ≤ 5 ∧ 0 ≤ v ∧ v ≤ 1099511627776 ∧ (k ≠ 5 ∨ 1 ≤ v) ∧ 0 ≤ at_ ∧ (k = 3 ∨ k = 8 ∨ at_ < S) ∧ ((k ≠ 3 ∧ k ≠ 8) ∨ at_ < V) ∧ (k ≠ 10 ∨ why ≠ 6 ∨ at_ ≤ 0) ∧ (k = 1 ∨ tx = 0) ∧ ((k ≠ 1 ∧ k ≠ 5 ∧ k ≠ 7 ∧ k ≠ 12 ∧ k ≠ 13) ∨ at_ = 0) ∧ (k = 1 ∨ k = 2 ∨ k = 5 ∨ k = 7 ∨ v = 0) ∧ (k = 3 ∨ k = 8 ∨ x = 0) ∧ (k = 10 ∨ why = 0)) : AV.bool true = AV.bool (decide (MayQ k th tx at_ v x why T V S)) := (congrArg AV.bool (decide_eq_true h)).symm
theorem mF (k th tx at_ v x why T V S : Int) (h : ¬ ((1 ≤ T ∧ T ≤ 6) ∧ (1 ≤ V ∧ V ≤ 32) ∧ (1 ≤ S ∧ S ≤ V) ∧ 1 ≤ k ∧ k ≤ 13 ∧ (k ≠ 10 ∨ (1 ≤ why ∧ why ≤ 6)) ∧ 0 ≤ th ∧ th < T ∧ 0 ≤ tx ∧ tx ≤ 5 ∧ 0 ≤ v ∧ v ≤ 1099511627776 ∧ (k ≠ 5 ∨ 1 ≤ v) ∧ 0 ≤ at_ ∧ (k = 3 ∨ k = 8 ∨ at_ < S) ∧ ((k ≠ 3 ∧ k ≠ 8) ∨ at_ < V) ∧ (k ≠ 10 ∨ why ≠ 6 ∨ at_ ≤ 0) ∧ (k = 1 ∨ tx = 0) ∧ ((k ≠ 1 ∧ k ≠ 5 ∧ k ≠ 7 ∧ k ≠ 12 ∧ k ≠ 13) ∨ at_ = 0) ∧ (k = 1 ∨ k = 2 ∨ k = 5 ∨ k = 7 ∨ v = 0) ∧ (k = 3 ∨ k = 8 ∨ x = 0) ∧ (k = 10 ∨ why = 0))) : AV.bool false = AV.bool (decide (MayQ k th tx at_ v x why T V S)) := (congrArg AV.bool (decide_eq_false h)).symm
theorem bareL_1 (th tx at_ v x why : Int) (hy : 0 ≤ why ∧ why ≤ 255) : bareL [.agg [.int .u8 (.ofNat 1), .int .i64 th, .int .i64 tx, .int .i64 at_, .int .i64 v, .int .i64 x, .int .u8 why]] = some (.agg [.int .u8 (.ofNat 1), .int .i64 th, .int .i64 tx, .int .i64 (.ofNat 0), .int .i64 v, .int .i64 (.ofNat 0), .int .u8 (.ofNat 0)]) := by
  show (if 0 ≤ why ∧ why ≤ 255 then bareE (.ofNat 1) th tx at_ v x why else none) = _
  rw [if_pos hy]; unfold bareE; rw [if_pos rfl]
theorem bareL_2 (th tx at_ v x why : Int) (hy : 0 ≤ why ∧ why ≤ 255) : bareL [.agg [.int .u8 (.ofNat 2), .int .i64 th, .int .i64 tx, .int .i64 at_, .int .i64 v, .int .i64 x, .int .u8 why]] = some (.agg [.int .u8 (.ofNat 2), .int .i64 th, .int .i64 (.ofNat 0), .int .i64 at_, .int .i64 v, .int .i64 (.ofNat 0), .int .u8 (.ofNat 0)]) := by
  show (if 0 ≤ why ∧ why ≤ 255 then bareE (.ofNat 2) th tx at_ v x why else none) = _
  rw [if_pos hy]; unfold bareE; rw [if_neg (show ¬ (Int.ofNat 2 = Int.ofNat 1) by decide), if_pos rfl]
theorem bareL_3 (th tx at_ v x why : Int) (hy : 0 ≤ why ∧ why ≤ 255) : bareL [.agg [.int .u8 (.ofNat 3), .int .i64 th, .int .i64 tx, .int .i64 at_, .int .i64 v, .int .i64 x, .int .u8 why]] = some (.agg [.int .u8 (.ofNat 3), .int .i64 th, .int .i64 (.ofNat 0), .int .i64 at_, .int .i64 (.ofNat 0), .int .i64 x, .int .u8 (.ofNat 0)]) := by
  show (if 0 ≤ why ∧ why ≤ 255 then bareE (.ofNat 3) th tx at_ v x why else none) = _
  rw [if_pos hy]; unfold bareE; rw [if_neg (show ¬ (Int.ofNat 3 = Int.ofNat 1) by decide), if_neg (show ¬ (Int.ofNat 3 = Int.ofNat 2) by decide), if_pos rfl]
theorem bareL_4 (th tx at_ v x why : Int) (hy : 0 ≤ why ∧ why ≤ 255) : bareL [.agg [.int .u8 (.ofNat 4), .int .i64 th, .int .i64 tx, .int .i64 at_, .int .i64 v, .int .i64 x, .int .u8 why]] = some (.agg [.int .u8 (.ofNat 4), .int .i64 th, .int .i64 (.ofNat 0), .int .i64 at_, .int .i64 (.ofNat 0), .int .i64 (.ofNat 0), .int .u8 (.ofNat 0)]) := by
  show (if 0 ≤ why ∧ why ≤ 255 then bareE (.ofNat 4) th tx at_ v x why else none) = _
  rw [if_pos hy]; unfold bareE; rw [if_neg (show ¬ (Int.ofNat 4 = Int.ofNat 1) by decide), if_neg (show ¬ (Int.ofNat 4 = Int.ofNat 2) by decide), if_neg (show ¬ (Int.ofNat 4 = Int.ofNat 3) by decide), if_pos rfl]
theorem bareL_5 (th tx at_ v x why : Int) (hy : 0 ≤ why ∧ why ≤ 255) : bareL [.agg [.int .u8 (.ofNat 5), .int .i64 th, .int .i64 tx, .int .i64 at_, .int .i64 v, .int .i64 x, .int .u8 why]] = some (.agg [.int .u8 (.ofNat 5), .int .i64 th, .int .i64 (.ofNat 0), .int .i64 (.ofNat 0), .int .i64 v, .int .i64 (.ofNat 0), .int .u8 (.ofNat 0)]) := by
  show (if 0 ≤ why ∧ why ≤ 255 then bareE (.ofNat 5) th tx at_ v x why else none) = _
  rw [if_pos hy]; unfold bareE; rw [if_neg (show ¬ (Int.ofNat 5 = Int.ofNat 1) by decide), if_neg (show ¬ (Int.ofNat 5 = Int.ofNat 2) by decide), if_neg (show ¬ (Int.ofNat 5 = Int.ofNat 3) by decide), if_neg (show ¬ (Int.ofNat 5 = Int.ofNat 4) by decide), if_pos rfl]
theorem bareL_6 (th tx at_ v x why : Int) (hy : 0 ≤ why ∧ why ≤ 255) : bareL [.agg [.int .u8 (.ofNat 6), .int .i64 th, .int .i64 tx, .int .i64 at_, .int .i64 v, .int .i64 x, .int .u8 why]] = some (.agg [.int .u8 (.ofNat 6), .int .i64 th, .int .i64 (.ofNat 0), .int .i64 at_, .int .i64 (.ofNat 0), .int .i64 (.ofNat 0), .int .u8 (.ofNat 0)]) := by
  show (if 0 ≤ why ∧ why ≤ 255 then bareE (.ofNat 6) th tx at_ v x why else none) = _
  rw [if_pos hy]; unfold bareE; rw [if_neg (show ¬ (Int.ofNat 6 = Int.ofNat 1) by decide), if_neg (show ¬ (Int.ofNat 6 = Int.ofNat 2) by decide), if_neg (show ¬ (Int.ofNat 6 = Int.ofNat 3) by decide), if_neg (show ¬ (Int.ofNat 6 = Int.ofNat 4) by decide), if_neg (show ¬ (Int.ofNat 6 = Int.ofNat 5) by decide), if_pos rfl]
theorem bareL_7 (th tx at_ v x why : Int) (hy : 0 ≤ why ∧ why ≤ 255) : bareL [.agg [.int .u8 (.ofNat 7), .int .i64 th, .int .i64 tx, .int .i64 at_, .int .i64 v, .int .i64 x, .int .u8 why]] = some (.agg [.int .u8 (.ofNat 7), .int .i64 th, .int .i64 (.ofNat 0), .int .i64 (.ofNat 0), .int .i64 v, .int .i64 (.ofNat 0), .int .u8 (.ofNat 0)]) := by
  show (if 0 ≤ why ∧ why ≤ 255 then bareE (.ofNat 7) th tx at_ v x why else none) = _
  rw [if_pos hy]; unfold bareE; rw [if_neg (show ¬ (Int.ofNat 7 = Int.ofNat 1) by decide), if_neg (show ¬ (Int.ofNat 7 = Int.ofNat 2) by decide), if_neg (show ¬ (Int.ofNat 7 = Int.ofNat 3) by decide), if_neg (show ¬ (Int.ofNat 7 = Int.ofNat 4) by decide), if_neg (show ¬ (Int.ofNat 7 = Int.ofNat 5) by decide), if_neg (show ¬ (Int.ofNat 7 = Int.ofNat 6) by decide), if_pos rfl]
theorem bareL_8 (th tx at_ v x why : Int) (hy : 0 ≤ why ∧ why ≤ 255) : bareL [.agg [.int .u8 (.ofNat 8), .int .i64 th, .int .i64 tx, .int .i64 at_, .int .i64 v, .int .i64 x, .int .u8 why]] = some (.agg [.int .u8 (.ofNat 8), .int .i64 th, .int .i64 (.ofNat 0), .int .i64 at_, .int .i64 (.ofNat 0), .int .i64 x, .int .u8 (.ofNat 0)]) := by
  show (if 0 ≤ why ∧ why ≤ 255 then bareE (.ofNat 8) th tx at_ v x why else none) = _
  rw [if_pos hy]; unfold bareE; rw [if_neg (show ¬ (Int.ofNat 8 = Int.ofNat 1) by decide), if_neg (show ¬ (Int.ofNat 8 = Int.ofNat 2) by decide), if_neg (show ¬ (Int.ofNat 8 = Int.ofNat 3) by decide), if_neg (show ¬ (Int.ofNat 8 = Int.ofNat 4) by decide), if_neg (show ¬ (Int.ofNat 8 = Int.ofNat 5) by decide), if_neg (show ¬ (Int.ofNat 8 = Int.ofNat 6) by decide), if_neg (show ¬ (Int.ofNat 8 = Int.ofNat 7) by decide), if_pos rfl]
theorem bareL_9 (th tx at_ v x why : Int) (hy : 0 ≤ why ∧ why ≤ 255) : bareL [.agg [.int .u8 (.ofNat 9), .int .i64 th, .int .i64 tx, .int .i64 at_, .int .i64 v, .int .i64 x, .int .u8 why]] = some (.agg [.int .u8 (.ofNat 9), .int .i64 th, .int .i64 (.ofNat 0), .int .i64 at_, .int .i64 (.ofNat 0), .int .i64 (.ofNat 0), .int .u8 (.ofNat 0)]) := by
  show (if 0 ≤ why ∧ why ≤ 255 then bareE (.ofNat 9) th tx at_ v x why else none) = _
  rw [if_pos hy]; unfold bareE; rw [if_neg (show ¬ (Int.ofNat 9 = Int.ofNat 1) by decide), if_neg (show ¬ (Int.ofNat 9 = Int.ofNat 2) by decide), if_neg (show ¬ (Int.ofNat 9 = Int.ofNat 3) by decide), if_neg (show ¬ (Int.ofNat 9 = Int.ofNat 4) by decide), if_neg (show ¬ (Int.ofNat 9 = Int.ofNat 5) by decide), if_neg (show ¬ (Int.ofNat 9 = Int.ofNat 6) by decide), if_neg (show ¬ (Int.ofNat 9 = Int.ofNat 7) by decide), if_neg (show ¬ (Int.ofNat 9 = Int.ofNat 8) by decide), if_pos rfl]
theorem bareL_10 (th tx at_ v x why : Int) (hy : 0 ≤ why ∧ why ≤ 255) : bareL [.agg [.int .u8 (.ofNat 10), .int .i64 th, .int .i64 tx, .int .i64 at_, .int .i64 v, .int .i64 x, .int .u8 why]] = some (.agg [.int .u8 (.ofNat 10), .int .i64 th, .int .i64 (.ofNat 0), .int .i64 at_, .int .i64 (.ofNat 0), .int .i64 (.ofNat 0), .int .u8 why]) := by
  show (if 0 ≤ why ∧ why ≤ 255 then bareE (.ofNat 10) th tx at_ v x why else none) = _
  rw [if_pos hy]; unfold bareE; rw [if_neg (show ¬ (Int.ofNat 10 = Int.ofNat 1) by decide), if_neg (show ¬ (Int.ofNat 10 = Int.ofNat 2) by decide), if_neg (show ¬ (Int.ofNat 10 = Int.ofNat 3) by decide), if_neg (show ¬ (Int.ofNat 10 = Int.ofNat 4) by decide), if_neg (show ¬ (Int.ofNat 10 = Int.ofNat 5) by decide), if_neg (show ¬ (Int.ofNat 10 = Int.ofNat 6) by decide), if_neg (show ¬ (Int.ofNat 10 = Int.ofNat 7) by decide), if_neg (show ¬ (Int.ofNat 10 = Int.ofNat 8) by decide), if_neg (show ¬ (Int.ofNat 10 = Int.ofNat 9) by decide), if_pos rfl]
theorem bareL_11 (th tx at_ v x why : Int) (hy : 0 ≤ why ∧ why ≤ 255) : bareL [.agg [.int .u8 (.ofNat 11), .int .i64 th, .int .i64 tx, .int .i64 at_, .int .i64 v, .int .i64 x, .int .u8 why]] = some (.agg [.int .u8 (.ofNat 11), .int .i64 th, .int .i64 (.ofNat 0), .int .i64 at_, .int .i64 (.ofNat 0), .int .i64 (.ofNat 0), .int .u8 (.ofNat 0)]) := by
  show (if 0 ≤ why ∧ why ≤ 255 then bareE (.ofNat 11) th tx at_ v x why else none) = _
  rw [if_pos hy]; unfold bareE; rw [if_neg (show ¬ (Int.ofNat 11 = Int.ofNat 1) by decide), if_neg (show ¬ (Int.ofNat 11 = Int.ofNat 2) by decide), if_neg (show ¬ (Int.ofNat 11 = Int.ofNat 3) by decide), if_neg (show ¬ (Int.ofNat 11 = Int.ofNat 4) by decide), if_neg (show ¬ (Int.ofNat 11 = Int.ofNat 5) by decide), if_neg (show ¬ (Int.ofNat 11 = Int.ofNat 6) by decide), if_neg (show ¬ (Int.ofNat 11 = Int.ofNat 7) by decide), if_neg (show ¬ (Int.ofNat 11 = Int.ofNat 8) by decide), if_neg (show ¬ (Int.ofNat 11 = Int.ofNat 9) by decide), if_neg (show ¬ (Int.ofNat 11 = Int.ofNat 10) by decide), if_pos rfl]
theorem bareL_12 (th tx at_ v x why : Int) (hy : 0 ≤ why ∧ why ≤ 255) : bareL [.agg [.int .u8 (.ofNat 12), .int .i64 th, .int .i64 tx, .int .i64 at_, .int .i64 v, .int .i64 x, .int .u8 why]] = some (.agg [.int .u8 (.ofNat 12), .int .i64 th, .int .i64 (.ofNat 0), .int .i64 (.ofNat 0), .int .i64 (.ofNat 0), .int .i64 (.ofNat 0), .int .u8 (.ofNat 0)]) := by
  show (if 0 ≤ why ∧ why ≤ 255 then bareE (.ofNat 12) th tx at_ v x why else none) = _
  rw [if_pos hy]; unfold bareE; rw [if_neg (show ¬ (Int.ofNat 12 = Int.ofNat 1) by decide), if_neg (show ¬ (Int.ofNat 12 = Int.ofNat 2) by decide), if_neg (show ¬ (Int.ofNat 12 = Int.ofNat 3) by decide), if_neg (show ¬ (Int.ofNat 12 = Int.ofNat 4) by decide), if_neg (show ¬ (Int.ofNat 12 = Int.ofNat 5) by decide), if_neg (show ¬ (Int.ofNat 12 = Int.ofNat 6) by decide), if_neg (show ¬ (Int.ofNat 12 = Int.ofNat 7) by decide), if_neg (show ¬ (Int.ofNat 12 = Int.ofNat 8) by decide), if_neg (show ¬ (Int.ofNat 12 = Int.ofNat 9) by decide), if_neg (show ¬ (Int.ofNat 12 = Int.ofNat 10) by decide), if_neg (show ¬ (Int.ofNat 12 = Int.ofNat 11) by decide), if_pos rfl]
theorem bareL_13 (th tx at_ v x why : Int) (hy : 0 ≤ why ∧ why ≤ 255) : bareL [.agg [.int .u8 (.ofNat 13), .int .i64 th, .int .i64 tx, .int .i64 at_, .int .i64 v, .int .i64 x, .int .u8 why]] = some (.agg [.int .u8 (.ofNat 13), .int .i64 th, .int .i64 (.ofNat 0), .int .i64 (.ofNat 0), .int .i64 (.ofNat 0), .int .i64 (.ofNat 0), .int .u8 (.ofNat 0)]) := by
  show (if 0 ≤ why ∧ why ≤ 255 then bareE (.ofNat 13) th tx at_ v x why else none) = _
  rw [if_pos hy]; unfold bareE; rw [if_neg (show ¬ (Int.ofNat 13 = Int.ofNat 1) by decide), if_neg (show ¬ (Int.ofNat 13 = Int.ofNat 2) by decide), if_neg (show ¬ (Int.ofNat 13 = Int.ofNat 3) by decide), if_neg (show ¬ (Int.ofNat 13 = Int.ofNat 4) by decide), if_neg (show ¬ (Int.ofNat 13 = Int.ofNat 5) by decide), if_neg (show ¬ (Int.ofNat 13 = Int.ofNat 6) by decide), if_neg (show ¬ (Int.ofNat 13 = Int.ofNat 7) by decide), if_neg (show ¬ (Int.ofNat 13 = Int.ofNat 8) by decide), if_neg (show ¬ (Int.ofNat 13 = Int.ofNat 9) by decide), if_neg (show ¬ (Int.ofNat 13 = Int.ofNat 10) by decide), if_neg (show ¬ (Int.ofNat 13 = Int.ofNat 11) by decide), if_neg (show ¬ (Int.ofNat 13 = Int.ofNat 12) by decide), if_pos rfl]
theorem ax {A : Prop} (z n : Int) (h1 : 0 ≤ z) (h2 : z < n) (x : A) : 0 ≤ z ∧ z < n ∧ A := ⟨h1, h2, x⟩
theorem bT : AV.bool true = AV.bool true := rfl
theorem oF (h : False) : False := h
theorem w_i64 {A : Prop} (e : Int) (h : -9223372036854775808 ≤ e ∧ e ≤ 9223372036854775807) (x : A) : AV.int .i64 (IntKind.wrap .i64 e) = AV.int .i64 e ∧ A := ⟨congrArg (AV.int .i64) (wrap_i64_in h), x⟩
theorem w_u8 {A : Prop} (e : Int) (h : 0 ≤ e ∧ e ≤ 255) (x : A) : AV.int .u8 (IntKind.wrap .u8 e) = AV.int .u8 e ∧ A := ⟨congrArg (AV.int .u8) (wrap_u8_in h), x⟩
theorem w_u64 {A : Prop} (e : Int) (h : 0 ≤ e ∧ e ≤ 18446744073709551615) (x : A) : AV.int .u64 (IntKind.wrap .u64 e) = AV.int .u64 e ∧ A := ⟨congrArg (AV.int .u64) (wrap_u64_in h), x⟩
end AcS
namespace AcB
open AcS Go.Proofs.YtbnjeblcleihkaaGreatDoor.auditCounted
set_option maxHeartbeats 4000000 in
theorem bare1 (a b c d x y : Int) : valOf (arun Tryz.prog (fun _ => 0) 8 (.fn 39) [.agg [.int .u8 (.ofNat 1), .int .i64 a, .int .i64 b, .int .i64 c, .int .i64 d, .int .i64 x, .int .u8 y]] ⟨heap0, nx0, 0, [], []⟩) = some (.agg [.int .u8 (.ofNat 1), .int .i64 a, .int .i64 b, .int .i64 (.ofNat 0), .int .i64 d, .int .i64 (.ofNat 0), .int .u8 (.ofNat 0)]) := by kernel_rfl
set_option maxHeartbeats 4000000 in
theorem bare2 (a b c d x y : Int) : valOf (arun Tryz.prog (fun _ => 0) 8 (.fn 39) [.agg [.int .u8 (.ofNat 2), .int .i64 a, .int .i64 b, .int .i64 c, .int .i64 d, .int .i64 x, .int .u8 y]] ⟨heap0, nx0, 0, [], []⟩) = some (.agg [.int .u8 (.ofNat 2), .int .i64 a, .int .i64 (.ofNat 0), .int .i64 c, .int .i64 d, .int .i64 (.ofNat 0), .int .u8 (.ofNat 0)]) := by kernel_rfl
set_option maxHeartbeats 4000000 in
theorem bare3 (a b c d x y : Int) : valOf (arun Tryz.prog (fun _ => 0) 8 (.fn 39) [.agg [.int .u8 (.ofNat 3), .int .i64 a, .int .i64 b, .int .i64 c, .int .i64 d, .int .i64 x, .int .u8 y]] ⟨heap0, nx0, 0, [], []⟩) = some (.agg [.int .u8 (.ofNat 3), .int .i64 a, .int .i64 (.ofNat 0), .int .i64 c, .int .i64 (.ofNat 0), .int .i64 x, .int .u8 (.ofNat 0)]) := by kernel_rfl
set_option maxHeartbeats 4000000 in
theorem bare4 (a b c d x y : Int) : valOf (arun Tryz.prog (fun _ => 0) 8 (.fn 39) [.agg [.int .u8 (.ofNat 4), .int .i64 a, .int .i64 b, .int .i64 c, .int .i64 d, .int .i64 x, .int .u8 y]] ⟨heap0, nx0, 0, [], []⟩) = some (.agg [.int .u8 (.ofNat 4), .int .i64 a, .int .i64 (.ofNat 0), .int .i64 c, .int .i64 (.ofNat 0), .int .i64 (.ofNat 0), .int .u8 (.ofNat 0)]) := by kernel_rfl
set_option maxHeartbeats 4000000 in
theorem bare5 (a b c d x y : Int) : valOf (arun Tryz.prog (fun _ => 0) 8 (.fn 39) [.agg [.int .u8 (.ofNat 5), .int .i64 a, .int .i64 b, .int .i64 c, .int .i64 d, .int .i64 x, .int .u8 y]] ⟨heap0, nx0, 0, [], []⟩) = some (.agg [.int .u8 (.ofNat 5), .int .i64 a, .int .i64 (.ofNat 0), .int .i64 (.ofNat 0), .int .i64 d, .int .i64 (.ofNat 0), .int .u8 (.ofNat 0)]) := by kernel_rfl
set_option maxHeartbeats 4000000 in
theorem bare6 (a b c d x y : Int) : valOf (arun Tryz.prog (fun _ => 0) 8 (.fn 39) [.agg [.int .u8 (.ofNat 6), .int .i64 a, .int .i64 b, .int .i64 c, .int .i64 d, .int .i64 x, .int .u8 y]] ⟨heap0, nx0, 0, [], []⟩) = some (.agg [.int .u8 (.ofNat 6), .int .i64 a, .int .i64 (.ofNat 0), .int .i64 c, .int .i64 (.ofNat 0), .int .i64 (.ofNat 0), .int .u8 (.ofNat 0)]) := by kernel_rfl
set_option maxHeartbeats 4000000 in
theorem bare7 (a b c d x y : Int) : valOf (arun Tryz.prog (fun _ => 0) 8 (.fn 39) [.agg [.int .u8 (.ofNat 7), .int .i64 a, .int .i64 b, .int .i64 c, .int .i64 d, .int .i64 x, .int .u8 y]] ⟨heap0, nx0, 0, [], []⟩) = some (.agg [.int .u8 (.ofNat 7), .int .i64 a, .int .i64 (.ofNat 0), .int .i64 (.ofNat 0), .int .i64 d, .int .i64 (.ofNat 0), .int .u8 (.ofNat 0)]) := by kernel_rfl
set_option maxHeartbeats 4000000 in
theorem bare8 (a b c d x y : Int) : valOf (arun Tryz.prog (fun _ => 0) 8 (.fn 39) [.agg [.int .u8 (.ofNat 8), .int .i64 a, .int .i64 b, .int .i64 c, .int .i64 d, .int .i64 x, .int .u8 y]] ⟨heap0, nx0, 0, [], []⟩) = some (.agg [.int .u8 (.ofNat 8), .int .i64 a, .int .i64 (.ofNat 0), .int .i64 c, .int .i64 (.ofNat 0), .int .i64 x, .int .u8 (.ofNat 0)]) := by kernel_rfl
set_option maxHeartbeats 4000000 in
theorem bare9 (a b c d x y : Int) : valOf (arun Tryz.prog (fun _ => 0) 8 (.fn 39) [.agg [.int .u8 (.ofNat 9), .int .i64 a, .int .i64 b, .int .i64 c, .int .i64 d, .int .i64 x, .int .u8 y]] ⟨heap0, nx0, 0, [], []⟩) = some (.agg [.int .u8 (.ofNat 9), .int .i64 a, .int .i64 (.ofNat 0), .int .i64 c, .int .i64 (.ofNat 0), .int .i64 (.ofNat 0), .int .u8 (.ofNat 0)]) := by kernel_rfl
set_option maxHeartbeats 4000000 in
theorem bare10 (a b c d x y : Int) : valOf (arun Tryz.prog (fun _ => 0) 8 (.fn 39) [.agg [.int .u8 (.ofNat 10), .int .i64 a, .int .i64 b, .int .i64 c, .int .i64 d, .int .i64 x, .int .u8 y]] ⟨heap0, nx0, 0, [], []⟩) = some (.agg [.int .u8 (.ofNat 10), .int .i64 a, .int .i64 (.ofNat 0), .int .i64 c, .int .i64 (.ofNat 0), .int .i64 (.ofNat 0), .int .u8 (IntKind.wrap .u8 (IntKind.wrap .i64 y))]) := by kernel_rfl
set_option maxHeartbeats 4000000 in
theorem bare11 (a b c d x y : Int) : valOf (arun Tryz.prog (fun _ => 0) 8 (.fn 39) [.agg [.int .u8 (.ofNat 11), .int .i64 a, .int .i64 b, .int .i64 c, .int .i64 d, .int .i64 x, .int .u8 y]] ⟨heap0, nx0, 0, [], []⟩) = some (.agg [.int .u8 (.ofNat 11), .int .i64 a, .int .i64 (.ofNat 0), .int .i64 c, .int .i64 (.ofNat 0), .int .i64 (.ofNat 0), .int .u8 (.ofNat 0)]) := by kernel_rfl
set_option maxHeartbeats 4000000 in
theorem bare12 (a b c d x y : Int) : valOf (arun Tryz.prog (fun _ => 0) 8 (.fn 39) [.agg [.int .u8 (.ofNat 12), .int .i64 a, .int .i64 b, .int .i64 c, .int .i64 d, .int .i64 x, .int .u8 y]] ⟨heap0, nx0, 0, [], []⟩) = some (.agg [.int .u8 (.ofNat 12), .int .i64 a, .int .i64 (.ofNat 0), .int .i64 (.ofNat 0), .int .i64 (.ofNat 0), .int .i64 (.ofNat 0), .int .u8 (.ofNat 0)]) := by kernel_rfl
set_option maxHeartbeats 4000000 in
theorem bare13 (a b c d x y : Int) : valOf (arun Tryz.prog (fun _ => 0) 8 (.fn 39) [.agg [.int .u8 (.ofNat 13), .int .i64 a, .int .i64 b, .int .i64 c, .int .i64 d, .int .i64 x, .int .u8 y]] ⟨heap0, nx0, 0, [], []⟩) = some (.agg [.int .u8 (.ofNat 13), .int .i64 a, .int .i64 (.ofNat 0), .int .i64 (.ofNat 0), .int .i64 (.ofNat 0), .int .i64 (.ofNat 0), .int .u8 (.ofNat 0)]) := by kernel_rfl
theorem ev_plain {k a b c d x y : Int} (ρ σ : Ren) (v : Value) (h : VR ρ (.agg [.int .u8 k, .int .i64 a, .int .i64 b, .int .i64 c, .int .i64 d, .int .i64 x, .int .u8 y]) v) : VR σ (.agg [.int .u8 k, .int .i64 a, .int .i64 b, .int .i64 c, .int .i64 d, .int .i64 x, .int .u8 y]) v := by simpa only [VR, VRs] using h
theorem ev_plains {k a b c d x y : Int} (ρ σ : Ren) (vs : List Value) (h : VRs ρ [.agg [.int .u8 k, .int .i64 a, .int .i64 b, .int .i64 c, .int .i64 d, .int .i64 x, .int .u8 y]] vs) : VRs σ [.agg [.int .u8 k, .int .i64 a, .int .i64 b, .int .i64 c, .int .i64 d, .int .i64 x, .int .u8 y]] vs := by simpa only [VR, VRs] using h
set_option maxHeartbeats 4000000 in
theorem bare_val (args : List AV) (v : AV) (h : bareL args = some v) : (∀ (ρ σ : Ren) vs, VRs ρ args vs → VRs σ args vs) ∧ (∀ (ρ σ : Ren) x, VR ρ v x → VR σ v x) ∧ valOf (arun Tryz.prog (fun _ => 0) 8 (.fn 39) args ⟨heap0, nx0, 0, [], []⟩) = some v := by
  unfold bareL at h
  split at h
  · rename_i k a b c d x y
    by_cases hy : 0 ≤ y ∧ y ≤ 255
    · rw [if_pos hy] at h
      refine ⟨ev_plains, ?_⟩
      unfold bareE at h
      by_cases h1 : k = .ofNat 1
      · subst h1; rw [if_pos rfl] at h; injection h with h; subst h; exact ⟨ev_plain, (bare1 a b c d x y)⟩
      by_cases h2 : k = .ofNat 2
      · subst h2; rw [if_neg (show ¬ (Int.ofNat 2 = Int.ofNat 1) by decide), if_pos rfl] at h; injection h with h; subst h; exact ⟨ev_plain, (bare2 a b c d x y)⟩
      by_cases h3 : k = .ofNat 3
      · subst h3; rw [if_neg (show ¬ (Int.ofNat 3 = Int.ofNat 1) by decide), if_neg (show ¬ (Int.ofNat 3 = Int.ofNat 2) by decide), if_pos rfl] at h; injection h with h; subst h; exact ⟨ev_plain, (bare3 a b c d x y)⟩
      by_cases h4 : k = .ofNat 4
      · subst h4; rw [if_neg (show ¬ (Int.ofNat 4 = Int.ofNat 1) by decide), if_neg (show ¬ (Int.ofNat 4 = Int.ofNat 2) by decide), if_neg (show ¬ (Int.ofNat 4 = Int.ofNat 3) by decide), if_pos rfl] at h; injection h with h; subst h; exact ⟨ev_plain, (bare4 a b c d x y)⟩
      by_cases h5 : k = .ofNat 5
      · subst h5; rw [if_neg (show ¬ (Int.ofNat 5 = Int.ofNat 1) by decide), if_neg (show ¬ (Int.ofNat 5 = Int.ofNat 2) by decide), if_neg (show ¬ (Int.ofNat 5 = Int.ofNat 3) by decide), if_neg (show ¬ (Int.ofNat 5 = Int.ofNat 4) by decide), if_pos rfl] at h; injection h with h; subst h; exact ⟨ev_plain, (bare5 a b c d x y)⟩
      by_cases h6 : k = .ofNat 6
      · subst h6; rw [if_neg (show ¬ (Int.ofNat 6 = Int.ofNat 1) by decide), if_neg (show ¬ (Int.ofNat 6 = Int.ofNat 2) by decide), if_neg (show ¬ (Int.ofNat 6 = Int.ofNat 3) by decide), if_neg (show ¬ (Int.ofNat 6 = Int.ofNat 4) by decide), if_neg (show ¬ (Int.ofNat 6 = Int.ofNat 5) by decide), if_pos rfl] at h; injection h with h; subst h; exact ⟨ev_plain, (bare6 a b c d x y)⟩
      by_cases h7 : k = .ofNat 7
      · subst h7; rw [if_neg (show ¬ (Int.ofNat 7 = Int.ofNat 1) by decide), if_neg (show ¬ (Int.ofNat 7 = Int.ofNat 2) by decide), if_neg (show ¬ (Int.ofNat 7 = Int.ofNat 3) by decide), if_neg (show ¬ (Int.ofNat 7 = Int.ofNat 4) by decide), if_neg (show ¬ (Int.ofNat 7 = Int.ofNat 5) by decide), if_neg (show ¬ (Int.ofNat 7 = Int.ofNat 6) by decide), if_pos rfl] at h; injection h with h; subst h; exact ⟨ev_plain, (bare7 a b c d x y)⟩
      by_cases h8 : k = .ofNat 8
      · subst h8; rw [if_neg (show ¬ (Int.ofNat 8 = Int.ofNat 1) by decide), if_neg (show ¬ (Int.ofNat 8 = Int.ofNat 2) by decide), if_neg (show ¬ (Int.ofNat 8 = Int.ofNat 3) by decide), if_neg (show ¬ (Int.ofNat 8 = Int.ofNat 4) by decide), if_neg (show ¬ (Int.ofNat 8 = Int.ofNat 5) by decide), if_neg (show ¬ (Int.ofNat 8 = Int.ofNat 6) by decide), if_neg (show ¬ (Int.ofNat 8 = Int.ofNat 7) by decide), if_pos rfl] at h; injection h with h; subst h; exact ⟨ev_plain, (bare8 a b c d x y)⟩
      by_cases h9 : k = .ofNat 9
      · subst h9; rw [if_neg (show ¬ (Int.ofNat 9 = Int.ofNat 1) by decide), if_neg (show ¬ (Int.ofNat 9 = Int.ofNat 2) by decide), if_neg (show ¬ (Int.ofNat 9 = Int.ofNat 3) by decide), if_neg (show ¬ (Int.ofNat 9 = Int.ofNat 4) by decide), if_neg (show ¬ (Int.ofNat 9 = Int.ofNat 5) by decide), if_neg (show ¬ (Int.ofNat 9 = Int.ofNat 6) by decide), if_neg (show ¬ (Int.ofNat 9 = Int.ofNat 7) by decide), if_neg (show ¬ (Int.ofNat 9 = Int.ofNat 8) by decide), if_pos rfl] at h; injection h with h; subst h; exact ⟨ev_plain, (bare9 a b c d x y)⟩
      by_cases h10 : k = .ofNat 10
      · subst h10; rw [if_neg (show ¬ (Int.ofNat 10 = Int.ofNat 1) by decide), if_neg (show ¬ (Int.ofNat 10 = Int.ofNat 2) by decide), if_neg (show ¬ (Int.ofNat 10 = Int.ofNat 3) by decide), if_neg (show ¬ (Int.ofNat 10 = Int.ofNat 4) by decide), if_neg (show ¬ (Int.ofNat 10 = Int.ofNat 5) by decide), if_neg (show ¬ (Int.ofNat 10 = Int.ofNat 6) by decide), if_neg (show ¬ (Int.ofNat 10 = Int.ofNat 7) by decide), if_neg (show ¬ (Int.ofNat 10 = Int.ofNat 8) by decide), if_neg (show ¬ (Int.ofNat 10 = Int.ofNat 9) by decide), if_pos rfl] at h; injection h with h; subst h; exact ⟨ev_plain, (by rw [bare10, wrap_u8_i64 hy, wrap_u8_in hy])⟩
      by_cases h11 : k = .ofNat 11
      · subst h11; rw [if_neg (show ¬ (Int.ofNat 11 = Int.ofNat 1) by decide), if_neg (show ¬ (Int.ofNat 11 = Int.ofNat 2) by decide), if_neg (show ¬ (Int.ofNat 11 = Int.ofNat 3) by decide), if_neg (show ¬ (Int.ofNat 11 = Int.ofNat 4) by decide), if_neg (show ¬ (Int.ofNat 11 = Int.ofNat 5) by decide), if_neg (show ¬ (Int.ofNat 11 = Int.ofNat 6) by decide), if_neg (show ¬ (Int.ofNat 11 = Int.ofNat 7) by decide), if_neg (show ¬ (Int.ofNat 11 = Int.ofNat 8) by decide), if_neg (show ¬ (Int.ofNat 11 = Int.ofNat 9) by decide), if_neg (show ¬ (Int.ofNat 11 = Int.ofNat 10) by decide), if_pos rfl] at h; injection h with h; subst h; exact ⟨ev_plain, (bare11 a b c d x y)⟩
      by_cases h12 : k = .ofNat 12
      · subst h12; rw [if_neg (show ¬ (Int.ofNat 12 = Int.ofNat 1) by decide), if_neg (show ¬ (Int.ofNat 12 = Int.ofNat 2) by decide), if_neg (show ¬ (Int.ofNat 12 = Int.ofNat 3) by decide), if_neg (show ¬ (Int.ofNat 12 = Int.ofNat 4) by decide), if_neg (show ¬ (Int.ofNat 12 = Int.ofNat 5) by decide), if_neg (show ¬ (Int.ofNat 12 = Int.ofNat 6) by decide), if_neg (show ¬ (Int.ofNat 12 = Int.ofNat 7) by decide), if_neg (show ¬ (Int.ofNat 12 = Int.ofNat 8) by decide), if_neg (show ¬ (Int.ofNat 12 = Int.ofNat 9) by decide), if_neg (show ¬ (Int.ofNat 12 = Int.ofNat 10) by decide), if_neg (show ¬ (Int.ofNat 12 = Int.ofNat 11) by decide), if_pos rfl] at h; injection h with h; subst h; exact ⟨ev_plain, (bare12 a b c d x y)⟩
      by_cases h13 : k = .ofNat 13
      · subst h13; rw [if_neg (show ¬ (Int.ofNat 13 = Int.ofNat 1) by decide), if_neg (show ¬ (Int.ofNat 13 = Int.ofNat 2) by decide), if_neg (show ¬ (Int.ofNat 13 = Int.ofNat 3) by decide), if_neg (show ¬ (Int.ofNat 13 = Int.ofNat 4) by decide), if_neg (show ¬ (Int.ofNat 13 = Int.ofNat 5) by decide), if_neg (show ¬ (Int.ofNat 13 = Int.ofNat 6) by decide), if_neg (show ¬ (Int.ofNat 13 = Int.ofNat 7) by decide), if_neg (show ¬ (Int.ofNat 13 = Int.ofNat 8) by decide), if_neg (show ¬ (Int.ofNat 13 = Int.ofNat 9) by decide), if_neg (show ¬ (Int.ofNat 13 = Int.ofNat 10) by decide), if_neg (show ¬ (Int.ofNat 13 = Int.ofNat 11) by decide), if_neg (show ¬ (Int.ofNat 13 = Int.ofNat 12) by decide), if_pos rfl] at h; injection h with h; subst h; exact ⟨ev_plain, (bare13 a b c d x y)⟩
      rw [if_neg h1, if_neg h2, if_neg h3, if_neg h4, if_neg h5, if_neg h6, if_neg h7, if_neg h8, if_neg h9, if_neg h10, if_neg h11, if_neg h12, if_neg h13] at h; cases h
    · rw [if_neg hy] at h; cases h
  · cases h
end AcB
namespace AcM
open AcS Go.Proofs.YtbnjeblcleihkaaGreatDoor.auditCounted
def MayS (k : Int) : Prop := ∀ {B : Base} {F : Nat → Option (List AV)} (hc : CallSim Tryz.prog B (arunI Tryz.prog spI F 6)) (hl : ∀ t a, Local (arunI Tryz.prog spI F 6 t a)) {th tx at_ v x why T V S : Int} (ho : EvOk (⟨k, th, tx, at_, v, x, why⟩ : Ev) ∧ i64In T ∧ i64In V ∧ i64In S), Sim Tryz.prog B 270 (Fin Tryz.prog Tryz.f13.results.toList fun y _ => y = .bool (decide (MayQ k th tx at_ v x why T V S))) ⟨13, (trOf [(0, (.agg [(.int .u8 k), (.int .i64 th), (.int .i64 tx), (.int .i64 at_), (.int .i64 v), (.int .i64 x), (.int .u8 why)])), (1, (.int .i64 T)), (2, (.int .i64 V)), (3, (.int .i64 S))]), 90, [.code (cAt Tryz.prog 13 [])], [], none⟩ (stOf (kn1) 270)
set_option maxHeartbeats 8000000 in
theorem may_0 : MayS 0 := by
 intro B F hc hl th tx at_ v x why T V S ho
 have ho' := ho; simp only [EvOk, i64In] at ho'
 exact wp_sim (env_ok okI) rfl hmix hc hl 900 ((fun (q1 : Pl) => (.st 6 (.rg (.go 2 (.kp ((1 : Int) ≤ T ∧ T ≤ (6 : Int)) inferInstance (.go 4 (.kp ((1 : Int) ≤ V ∧ V ≤ (32 : Int)) inferInstance (.go 6 (.kp ((1 : Int) ≤ S ∧ S ≤ V) inferInstance (.go 5 (.il (.rt 5 (.go 2 q1)))) (.go 8 q1))) (.go 15 q1))) (.go 20 q1)))))) (.en (.rt 4 .no))) (And.intro (withinL_p T (1 : Int) (6 : Int)) (tfk ((1 : Int) ≤ T ∧ T ≤ (6 : Int)) (fun _ => (And.intro (withinL_p V (1 : Int) (32 : Int)) (tfk ((1 : Int) ≤ V ∧ V ≤ (32 : Int)) (fun _ => (And.intro (withinL_p S (1 : Int) V) (tfk ((1 : Int) ≤ S ∧ S ≤ V) (fun _ => (mF 0 th tx at_ v x why T V S (by omega))) (fun _ => (mF 0 th tx at_ v x why T V S (by omega)))))) (fun _ => (mF 0 th tx at_ v x why T V S (by omega)))))) (fun _ => (mF 0 th tx at_ v x why T V S (by omega)))))
set_option maxHeartbeats 8000000 in
theorem may_1 : MayS 1 := by
 intro B F hc hl th tx at_ v x why T V S ho
 have ho' := ho; simp only [EvOk, i64In] at ho'
 exact wp_sim (env_ok okI) rfl hmix hc hl 900 ((fun (q1 : Pl) => ((fun (q2 : Pl) => (.st 6 (.rg (.go 2 (.kp ((1 : Int) ≤ T ∧ T ≤ (6 : Int)) inferInstance (.go 4 (.kp ((1 : Int) ≤ V ∧ V ≤ (32 : Int)) inferInstance (.go 6 (.kp ((1 : Int) ≤ S ∧ S ≤ V) inferInstance (.go 5 (.il (.rt 5 (.go 2 (.en (.st 23 (.rg (.go 4 (.vl (.int .i64 (T - 1)) (.kp ((0 : Int) ≤ th ∧ th ≤ (T - 1)) inferInstance (.go 4 (.kp ((0 : Int) ≤ tx ∧ tx ≤ (5 : Int)) inferInstance (.go 6 (.kp ((0 : Int) ≤ v ∧ v ≤ (1099511627776 : Int)) inferInstance (.go 6 (.vl (.int .i64 (S - 1)) (.kp ((0 : Int) ≤ at_ ∧ at_ ≤ (S - 1)) inferInstance (.go 4 (.kn (.agg [(.int .u8 (.ofNat 1)), (.int .i64 th), (.int .i64 tx), (.int .i64 (.ofNat 0)), (.int .i64 v), (.int .i64 (.ofNat 0)), (.int .u8 (.ofNat 0))]) (.ef (.go 2 q1) (.go 2 q1)))) (.go 8 q1)))) (.go 16 q1))) (.go 23 q1))) (.go 28 q1))))))))))) (.go 8 q2))) (.go 15 q2))) (.go 20 q2)))))) (.en (.rt 4 .no)))) (.en (.rt 1 .no))) (And.intro (withinL_p T (1 : Int) (6 : Int)) (tfk ((1 : Int) ≤ T ∧ T ≤ (6 : Int)) (fun _ => (And.intro (withinL_p V (1 : Int) (32 : Int)) (tfk ((1 : Int) ≤ V ∧ V ≤ (32 : Int)) (fun _ => (And.intro (withinL_p S (1 : Int) V) (tfk ((1 : Int) ≤ S ∧ S ≤ V) (fun _ => (w_i64 (T - 1) (by omega) (And.intro (withinL_p th (0 : Int) (T - 1)) (tfk ((0 : Int) ≤ th ∧ th ≤ (T - 1)) (fun _ => (And.intro (withinL_p tx (0 : Int) (5 : Int)) (tfk ((0 : Int) ≤ tx ∧ tx ≤ (5 : Int)) (fun _ => (And.intro (withinL_p v (0 : Int) (1099511627776 : Int)) (tfk ((0 : Int) ≤ v ∧ v ≤ (1099511627776 : Int)) (fun _ => (w_i64 (S - 1) (by omega) (And.intro (withinL_p at_ (0 : Int) (S - 1)) (tfk ((0 : Int) ≤ at_ ∧ at_ ≤ (S - 1)) (fun _ => (And.intro (bareL_1 th tx at_ v x why (by omega)) (te7 1 1 th th tx tx at_ 0 v v x 0 why 0 (fun _ => (mT 1 th tx at_ v x why T V S (by omega))) (fun _ => (mF 1 th tx at_ v x why T V S (by omega)))))) (fun _ => (mF 1 th tx at_ v x why T V S (by omega))))))) (fun _ => (mF 1 th tx at_ v x why T V S (by omega)))))) (fun _ => (mF 1 th tx at_ v x why T V S (by omega)))))) (fun _ => (mF 1 th tx at_ v x why T V S (by omega))))))) (fun _ => (mF 1 th tx at_ v x why T V S (by omega)))))) (fun _ => (mF 1 th tx at_ v x why T V S (by omega)))))) (fun _ => (mF 1 th tx at_ v x why T V S (by omega)))))
set_option maxHeartbeats 8000000 in
theorem may_2 : MayS 2 := by
 intro B F hc hl th tx at_ v x why T V S ho
 have ho' := ho; simp only [EvOk, i64In] at ho'
 exact wp_sim (env_ok okI) rfl hmix hc hl 900 ((fun (q1 : Pl) => ((fun (q2 : Pl) => (.st 6 (.rg (.go 2 (.kp ((1 : Int) ≤ T ∧ T ≤ (6 : Int)) inferInstance (.go 4 (.kp ((1 : Int) ≤ V ∧ V ≤ (32 : Int)) inferInstance (.go 6 (.kp ((1 : Int) ≤ S ∧ S ≤ V) inferInstance (.go 5 (.il (.rt 5 (.go 2 (.en (.st 23 (.rg (.go 4 (.vl (.int .i64 (T - 1)) (.kp ((0 : Int) ≤ th ∧ th ≤ (T - 1)) inferInstance (.go 4 (.kp ((0 : Int) ≤ tx ∧ tx ≤ (5 : Int)) inferInstance (.go 6 (.kp ((0 : Int) ≤ v ∧ v ≤ (1099511627776 : Int)) inferInstance (.go 6 (.vl (.int .i64 (S - 1)) (.kp ((0 : Int) ≤ at_ ∧ at_ ≤ (S - 1)) inferInstance (.go 4 (.kn (.agg [(.int .u8 (.ofNat 2)), (.int .i64 th), (.int .i64 (.ofNat 0)), (.int .i64 at_), (.int .i64 v), (.int .i64 (.ofNat 0)), (.int .u8 (.ofNat 0))]) (.ef (.go 2 q1) (.go 2 q1)))) (.go 8 q1)))) (.go 16 q1))) (.go 23 q1))) (.go 28 q1))))))))))) (.go 8 q2))) (.go 15 q2))) (.go 20 q2)))))) (.en (.rt 4 .no)))) (.en (.rt 1 .no))) (And.intro (withinL_p T (1 : Int) (6 : Int)) (tfk ((1 : Int) ≤ T ∧ T ≤ (6 : Int)) (fun _ => (And.intro (withinL_p V (1 : Int) (32 : Int)) (tfk ((1 : Int) ≤ V ∧ V ≤ (32 : Int)) (fun _ => (And.intro (withinL_p S (1 : Int) V) (tfk ((1 : Int) ≤ S ∧ S ≤ V) (fun _ => (w_i64 (T - 1) (by omega) (And.intro (withinL_p th (0 : Int) (T - 1)) (tfk ((0 : Int) ≤ th ∧ th ≤ (T - 1)) (fun _ => (And.intro (withinL_p tx (0 : Int) (5 : Int)) (tfk ((0 : Int) ≤ tx ∧ tx ≤ (5 : Int)) (fun _ => (And.intro (withinL_p v (0 : Int) (1099511627776 : Int)) (tfk ((0 : Int) ≤ v ∧ v ≤ (1099511627776 : Int)) (fun _ => (w_i64 (S - 1) (by omega) (And.intro (withinL_p at_ (0 : Int) (S - 1)) (tfk ((0 : Int) ≤ at_ ∧ at_ ≤ (S - 1)) (fun _ => (And.intro (bareL_2 th tx at_ v x why (by omega)) (te7 2 2 th th tx 0 at_ at_ v v x 0 why 0 (fun _ => (mT 2 th tx at_ v x why T V S (by omega))) (fun _ => (mF 2 th tx at_ v x why T V S (by omega)))))) (fun _ => (mF 2 th tx at_ v x why T V S (by omega))))))) (fun _ => (mF 2 th tx at_ v x why T V S (by omega)))))) (fun _ => (mF 2 th tx at_ v x why T V S (by omega)))))) (fun _ => (mF 2 th tx at_ v x why T V S (by omega))))))) (fun _ => (mF 2 th tx at_ v x why T V S (by omega)))))) (fun _ => (mF 2 th tx at_ v x why T V S (by omega)))))) (fun _ => (mF 2 th tx at_ v x why T V S (by omega)))))
set_option maxHeartbeats 8000000 in
theorem may_3 : MayS 3 := by
 intro B F hc hl th tx at_ v x why T V S ho
 have ho' := ho; simp only [EvOk, i64In] at ho'
 exact wp_sim (env_ok okI) rfl hmix hc hl 900 ((fun (q1 : Pl) => ((fun (q2 : Pl) => (.st 6 (.rg (.go 2 (.kp ((1 : Int) ≤ T ∧ T ≤ (6 : Int)) inferInstance (.go 4 (.kp ((1 : Int) ≤ V ∧ V ≤ (32 : Int)) inferInstance (.go 6 (.kp ((1 : Int) ≤ S ∧ S ≤ V) inferInstance (.go 5 (.il (.rt 5 (.go 2 (.en (.st 20 (.rg (.go 4 (.vl (.int .i64 (T - 1)) (.kp ((0 : Int) ≤ th ∧ th ≤ (T - 1)) inferInstance (.go 4 (.kp ((0 : Int) ≤ tx ∧ tx ≤ (5 : Int)) inferInstance (.go 6 (.kp ((0 : Int) ≤ v ∧ v ≤ (1099511627776 : Int)) inferInstance (.go 6 (.vl (.int .i64 (V - 1)) (.kp ((0 : Int) ≤ at_ ∧ at_ ≤ (V - 1)) inferInstance (.go 4 (.kn (.agg [(.int .u8 (.ofNat 3)), (.int .i64 th), (.int .i64 (.ofNat 0)), (.int .i64 at_), (.int .i64 (.ofNat 0)), (.int .i64 x), (.int .u8 (.ofNat 0))]) (.ef (.go 2 q1) (.go 2 q1)))) (.go 8 q1)))) (.go 16 q1))) (.go 23 q1))) (.go 28 q1))))))))))) (.go 8 q2))) (.go 15 q2))) (.go 20 q2)))))) (.en (.rt 4 .no)))) (.en (.rt 1 .no))) (And.intro (withinL_p T (1 : Int) (6 : Int)) (tfk ((1 : Int) ≤ T ∧ T ≤ (6 : Int)) (fun _ => (And.intro (withinL_p V (1 : Int) (32 : Int)) (tfk ((1 : Int) ≤ V ∧ V ≤ (32 : Int)) (fun _ => (And.intro (withinL_p S (1 : Int) V) (tfk ((1 : Int) ≤ S ∧ S ≤ V) (fun _ => (w_i64 (T - 1) (by omega) (And.intro (withinL_p th (0 : Int) (T - 1)) (tfk ((0 : Int) ≤ th ∧ th ≤ (T - 1)) (fun _ => (And.intro (withinL_p tx (0 : Int) (5 : Int)) (tfk ((0 : Int) ≤ tx ∧ tx ≤ (5 : Int)) (fun _ => (And.intro (withinL_p v (0 : Int) (1099511627776 : Int)) (tfk ((0 : Int) ≤ v ∧ v ≤ (1099511627776 : Int)) (fun _ => (w_i64 (V - 1) (by omega) (And.intro (withinL_p at_ (0 : Int) (V - 1)) (tfk ((0 : Int) ≤ at_ ∧ at_ ≤ (V - 1)) (fun _ => (And.intro (bareL_3 th tx at_ v x why (by omega)) (te7 3 3 th th tx 0 at_ at_ v 0 x x why 0 (fun _ => (mT 3 th tx at_ v x why T V S (by omega))) (fun _ => (mF 3 th tx at_ v x why T V S (by omega)))))) (fun _ => (mF 3 th tx at_ v x why T V S (by omega))))))) (fun _ => (mF 3 th tx at_ v x why T V S (by omega)))))) (fun _ => (mF 3 th tx at_ v x why T V S (by omega)))))) (fun _ => (mF 3 th tx at_ v x why T V S (by omega))))))) (fun _ => (mF 3 th tx at_ v x why T V S (by omega)))))) (fun _ => (mF 3 th tx at_ v x why T V S (by omega)))))) (fun _ => (mF 3 th tx at_ v x why T V S (by omega)))))
set_option maxHeartbeats 8000000 in
theorem may_4 : MayS 4 := by
 intro B F hc hl th tx at_ v x why T V S ho
 have ho' := ho; simp only [EvOk, i64In] at ho'
 exact wp_sim (env_ok okI) rfl hmix hc hl 900 ((fun (q1 : Pl) => ((fun (q2 : Pl) => (.st 6 (.rg (.go 2 (.kp ((1 : Int) ≤ T ∧ T ≤ (6 : Int)) inferInstance (.go 4 (.kp ((1 : Int) ≤ V ∧ V ≤ (32 : Int)) inferInstance (.go 6 (.kp ((1 : Int) ≤ S ∧ S ≤ V) inferInstance (.go 5 (.il (.rt 5 (.go 2 (.en (.st 23 (.rg (.go 4 (.vl (.int .i64 (T - 1)) (.kp ((0 : Int) ≤ th ∧ th ≤ (T - 1)) inferInstance (.go 4 (.kp ((0 : Int) ≤ tx ∧ tx ≤ (5 : Int)) inferInstance (.go 6 (.kp ((0 : Int) ≤ v ∧ v ≤ (1099511627776 : Int)) inferInstance (.go 6 (.vl (.int .i64 (S - 1)) (.kp ((0 : Int) ≤ at_ ∧ at_ ≤ (S - 1)) inferInstance (.go 4 (.kn (.agg [(.int .u8 (.ofNat 4)), (.int .i64 th), (.int .i64 (.ofNat 0)), (.int .i64 at_), (.int .i64 (.ofNat 0)), (.int .i64 (.ofNat 0)), (.int .u8 (.ofNat 0))]) (.ef (.go 2 q1) (.go 2 q1)))) (.go 8 q1)))) (.go 16 q1))) (.go 23 q1))) (.go 28 q1))))))))))) (.go 8 q2))) (.go 15 q2))) (.go 20 q2)))))) (.en (.rt 4 .no)))) (.en (.rt 1 .no))) (And.intro (withinL_p T (1 : Int) (6 : Int)) (tfk ((1 : Int) ≤ T ∧ T ≤ (6 : Int)) (fun _ => (And.intro (withinL_p V (1 : Int) (32 : Int)) (tfk ((1 : Int) ≤ V ∧ V ≤ (32 : Int)) (fun _ => (And.intro (withinL_p S (1 : Int) V) (tfk ((1 : Int) ≤ S ∧ S ≤ V) (fun _ => (w_i64 (T - 1) (by omega) (And.intro (withinL_p th (0 : Int) (T - 1)) (tfk ((0 : Int) ≤ th ∧ th ≤ (T - 1)) (fun _ => (And.intro (withinL_p tx (0 : Int) (5 : Int)) (tfk ((0 : Int) ≤ tx ∧ tx ≤ (5 : Int)) (fun _ => (And.intro (withinL_p v (0 : Int) (1099511627776 : Int)) (tfk ((0 : Int) ≤ v ∧ v ≤ (1099511627776 : Int)) (fun _ => (w_i64 (S - 1) (by omega) (And.intro (withinL_p at_ (0 : Int) (S - 1)) (tfk ((0 : Int) ≤ at_ ∧ at_ ≤ (S - 1)) (fun _ => (And.intro (bareL_4 th tx at_ v x why (by omega)) (te7 4 4 th th tx 0 at_ at_ v 0 x 0 why 0 (fun _ => (mT 4 th tx at_ v x why T V S (by omega))) (fun _ => (mF 4 th tx at_ v x why T V S (by omega)))))) (fun _ => (mF 4 th tx at_ v x why T V S (by omega))))))) (fun _ => (mF 4 th tx at_ v x why T V S (by omega)))))) (fun _ => (mF 4 th tx at_ v x why T V S (by omega)))))) (fun _ => (mF 4 th tx at_ v x why T V S (by omega))))))) (fun _ => (mF 4 th tx at_ v x why T V S (by omega)))))) (fun _ => (mF 4 th tx at_ v x why T V S (by omega)))))) (fun _ => (mF 4 th tx at_ v x why T V S (by omega)))))
set_option maxHeartbeats 8000000 in
theorem may_5 : MayS 5 := by
 intro B F hc hl th tx at_ v x why T V S ho
 have ho' := ho; simp only [EvOk, i64In] at ho'
 exact wp_sim (env_ok okI) rfl hmix hc hl 900 ((fun (q1 : Pl) => ((fun (q2 : Pl) => (.st 6 (.rg (.go 2 (.kp ((1 : Int) ≤ T ∧ T ≤ (6 : Int)) inferInstance (.go 4 (.kp ((1 : Int) ≤ V ∧ V ≤ (32 : Int)) inferInstance (.go 6 (.kp ((1 : Int) ≤ S ∧ S ≤ V) inferInstance (.go 5 (.il (.rt 5 (.go 2 (.en (.st 14 (.rg (.go 4 (.vl (.int .i64 (T - 1)) (.kp ((0 : Int) ≤ th ∧ th ≤ (T - 1)) inferInstance (.go 4 (.kp ((0 : Int) ≤ tx ∧ tx ≤ (5 : Int)) inferInstance (.go 6 (.kp ((1 : Int) ≤ v ∧ v ≤ (1099511627776 : Int)) inferInstance (.go 6 (.vl (.int .i64 (S - 1)) (.kp ((0 : Int) ≤ at_ ∧ at_ ≤ (S - 1)) inferInstance (.go 4 (.kn (.agg [(.int .u8 (.ofNat 5)), (.int .i64 th), (.int .i64 (.ofNat 0)), (.int .i64 (.ofNat 0)), (.int .i64 v), (.int .i64 (.ofNat 0)), (.int .u8 (.ofNat 0))]) (.ef (.go 2 q1) (.go 2 q1)))) (.go 8 q1)))) (.go 16 q1))) (.go 23 q1))) (.go 28 q1))))))))))) (.go 8 q2))) (.go 15 q2))) (.go 20 q2)))))) (.en (.rt 4 .no)))) (.en (.rt 1 .no))) (And.intro (withinL_p T (1 : Int) (6 : Int)) (tfk ((1 : Int) ≤ T ∧ T ≤ (6 : Int)) (fun _ => (And.intro (withinL_p V (1 : Int) (32 : Int)) (tfk ((1 : Int) ≤ V ∧ V ≤ (32 : Int)) (fun _ => (And.intro (withinL_p S (1 : Int) V) (tfk ((1 : Int) ≤ S ∧ S ≤ V) (fun _ => (w_i64 (T - 1) (by omega) (And.intro (withinL_p th (0 : Int) (T - 1)) (tfk ((0 : Int) ≤ th ∧ th ≤ (T - 1)) (fun _ => (And.intro (withinL_p tx (0 : Int) (5 : Int)) (tfk ((0 : Int) ≤ tx ∧ tx ≤ (5 : Int)) (fun _ => (And.intro (withinL_p v (1 : Int) (1099511627776 : Int)) (tfk ((1 : Int) ≤ v ∧ v ≤ (1099511627776 : Int)) (fun _ => (w_i64 (S - 1) (by omega) (And.intro (withinL_p at_ (0 : Int) (S - 1)) (tfk ((0 : Int) ≤ at_ ∧ at_ ≤ (S - 1)) (fun _ => (And.intro (bareL_5 th tx at_ v x why (by omega)) (te7 5 5 th th tx 0 at_ 0 v v x 0 why 0 (fun _ => (mT 5 th tx at_ v x why T V S (by omega))) (fun _ => (mF 5 th tx at_ v x why T V S (by omega)))))) (fun _ => (mF 5 th tx at_ v x why T V S (by omega))))))) (fun _ => (mF 5 th tx at_ v x why T V S (by omega)))))) (fun _ => (mF 5 th tx at_ v x why T V S (by omega)))))) (fun _ => (mF 5 th tx at_ v x why T V S (by omega))))))) (fun _ => (mF 5 th tx at_ v x why T V S (by omega)))))) (fun _ => (mF 5 th tx at_ v x why T V S (by omega)))))) (fun _ => (mF 5 th tx at_ v x why T V S (by omega)))))
set_option maxHeartbeats 8000000 in
theorem may_6 : MayS 6 := by
 intro B F hc hl th tx at_ v x why T V S ho
 have ho' := ho; simp only [EvOk, i64In] at ho'
 exact wp_sim (env_ok okI) rfl hmix hc hl 900 ((fun (q1 : Pl) => ((fun (q2 : Pl) => (.st 6 (.rg (.go 2 (.kp ((1 : Int) ≤ T ∧ T ≤ (6 : Int)) inferInstance (.go 4 (.kp ((1 : Int) ≤ V ∧ V ≤ (32 : Int)) inferInstance (.go 6 (.kp ((1 : Int) ≤ S ∧ S ≤ V) inferInstance (.go 5 (.il (.rt 5 (.go 2 (.en (.st 23 (.rg (.go 4 (.vl (.int .i64 (T - 1)) (.kp ((0 : Int) ≤ th ∧ th ≤ (T - 1)) inferInstance (.go 4 (.kp ((0 : Int) ≤ tx ∧ tx ≤ (5 : Int)) inferInstance (.go 6 (.kp ((0 : Int) ≤ v ∧ v ≤ (1099511627776 : Int)) inferInstance (.go 6 (.vl (.int .i64 (S - 1)) (.kp ((0 : Int) ≤ at_ ∧ at_ ≤ (S - 1)) inferInstance (.go 4 (.kn (.agg [(.int .u8 (.ofNat 6)), (.int .i64 th), (.int .i64 (.ofNat 0)), (.int .i64 at_), (.int .i64 (.ofNat 0)), (.int .i64 (.ofNat 0)), (.int .u8 (.ofNat 0))]) (.ef (.go 2 q1) (.go 2 q1)))) (.go 8 q1)))) (.go 16 q1))) (.go 23 q1))) (.go 28 q1))))))))))) (.go 8 q2))) (.go 15 q2))) (.go 20 q2)))))) (.en (.rt 4 .no)))) (.en (.rt 1 .no))) (And.intro (withinL_p T (1 : Int) (6 : Int)) (tfk ((1 : Int) ≤ T ∧ T ≤ (6 : Int)) (fun _ => (And.intro (withinL_p V (1 : Int) (32 : Int)) (tfk ((1 : Int) ≤ V ∧ V ≤ (32 : Int)) (fun _ => (And.intro (withinL_p S (1 : Int) V) (tfk ((1 : Int) ≤ S ∧ S ≤ V) (fun _ => (w_i64 (T - 1) (by omega) (And.intro (withinL_p th (0 : Int) (T - 1)) (tfk ((0 : Int) ≤ th ∧ th ≤ (T - 1)) (fun _ => (And.intro (withinL_p tx (0 : Int) (5 : Int)) (tfk ((0 : Int) ≤ tx ∧ tx ≤ (5 : Int)) (fun _ => (And.intro (withinL_p v (0 : Int) (1099511627776 : Int)) (tfk ((0 : Int) ≤ v ∧ v ≤ (1099511627776 : Int)) (fun _ => (w_i64 (S - 1) (by omega) (And.intro (withinL_p at_ (0 : Int) (S - 1)) (tfk ((0 : Int) ≤ at_ ∧ at_ ≤ (S - 1)) (fun _ => (And.intro (bareL_6 th tx at_ v x why (by omega)) (te7 6 6 th th tx 0 at_ at_ v 0 x 0 why 0 (fun _ => (mT 6 th tx at_ v x why T V S (by omega))) (fun _ => (mF 6 th tx at_ v x why T V S (by omega)))))) (fun _ => (mF 6 th tx at_ v x why T V S (by omega))))))) (fun _ => (mF 6 th tx at_ v x why T V S (by omega)))))) (fun _ => (mF 6 th tx at_ v x why T V S (by omega)))))) (fun _ => (mF 6 th tx at_ v x why T V S (by omega))))))) (fun _ => (mF 6 th tx at_ v x why T V S (by omega)))))) (fun _ => (mF 6 th tx at_ v x why T V S (by omega)))))) (fun _ => (mF 6 th tx at_ v x why T V S (by omega)))))
set_option maxHeartbeats 8000000 in
theorem may_7 : MayS 7 := by
 intro B F hc hl th tx at_ v x why T V S ho
 have ho' := ho; simp only [EvOk, i64In] at ho'
 exact wp_sim (env_ok okI) rfl hmix hc hl 900 ((fun (q1 : Pl) => ((fun (q2 : Pl) => (.st 6 (.rg (.go 2 (.kp ((1 : Int) ≤ T ∧ T ≤ (6 : Int)) inferInstance (.go 4 (.kp ((1 : Int) ≤ V ∧ V ≤ (32 : Int)) inferInstance (.go 6 (.kp ((1 : Int) ≤ S ∧ S ≤ V) inferInstance (.go 5 (.il (.rt 5 (.go 2 (.en (.st 23 (.rg (.go 4 (.vl (.int .i64 (T - 1)) (.kp ((0 : Int) ≤ th ∧ th ≤ (T - 1)) inferInstance (.go 4 (.kp ((0 : Int) ≤ tx ∧ tx ≤ (5 : Int)) inferInstance (.go 6 (.kp ((0 : Int) ≤ v ∧ v ≤ (1099511627776 : Int)) inferInstance (.go 6 (.vl (.int .i64 (S - 1)) (.kp ((0 : Int) ≤ at_ ∧ at_ ≤ (S - 1)) inferInstance (.go 4 (.kn (.agg [(.int .u8 (.ofNat 7)), (.int .i64 th), (.int .i64 (.ofNat 0)), (.int .i64 (.ofNat 0)), (.int .i64 v), (.int .i64 (.ofNat 0)), (.int .u8 (.ofNat 0))]) (.ef (.go 2 q1) (.go 2 q1)))) (.go 8 q1)))) (.go 16 q1))) (.go 23 q1))) (.go 28 q1))))))))))) (.go 8 q2))) (.go 15 q2))) (.go 20 q2)))))) (.en (.rt 4 .no)))) (.en (.rt 1 .no))) (And.intro (withinL_p T (1 : Int) (6 : Int)) (tfk ((1 : Int) ≤ T ∧ T ≤ (6 : Int)) (fun _ => (And.intro (withinL_p V (1 : Int) (32 : Int)) (tfk ((1 : Int) ≤ V ∧ V ≤ (32 : Int)) (fun _ => (And.intro (withinL_p S (1 : Int) V) (tfk ((1 : Int) ≤ S ∧ S ≤ V) (fun _ => (w_i64 (T - 1) (by omega) (And.intro (withinL_p th (0 : Int) (T - 1)) (tfk ((0 : Int) ≤ th ∧ th ≤ (T - 1)) (fun _ => (And.intro (withinL_p tx (0 : Int) (5 : Int)) (tfk ((0 : Int) ≤ tx ∧ tx ≤ (5 : Int)) (fun _ => (And.intro (withinL_p v (0 : Int) (1099511627776 : Int)) (tfk ((0 : Int) ≤ v ∧ v ≤ (1099511627776 : Int)) (fun _ => (w_i64 (S - 1) (by omega) (And.intro (withinL_p at_ (0 : Int) (S - 1)) (tfk ((0 : Int) ≤ at_ ∧ at_ ≤ (S - 1)) (fun _ => (And.intro (bareL_7 th tx at_ v x why (by omega)) (te7 7 7 th th tx 0 at_ 0 v v x 0 why 0 (fun _ => (mT 7 th tx at_ v x why T V S (by omega))) (fun _ => (mF 7 th tx at_ v x why T V S (by omega)))))) (fun _ => (mF 7 th tx at_ v x why T V S (by omega))))))) (fun _ => (mF 7 th tx at_ v x why T V S (by omega)))))) (fun _ => (mF 7 th tx at_ v x why T V S (by omega)))))) (fun _ => (mF 7 th tx at_ v x why T V S (by omega))))))) (fun _ => (mF 7 th tx at_ v x why T V S (by omega)))))) (fun _ => (mF 7 th tx at_ v x why T V S (by omega)))))) (fun _ => (mF 7 th tx at_ v x why T V S (by omega)))))
set_option maxHeartbeats 8000000 in
theorem may_8 : MayS 8 := by
 intro B F hc hl th tx at_ v x why T V S ho
 have ho' := ho; simp only [EvOk, i64In] at ho'
 exact wp_sim (env_ok okI) rfl hmix hc hl 900 ((fun (q1 : Pl) => ((fun (q2 : Pl) => (.st 6 (.rg (.go 2 (.kp ((1 : Int) ≤ T ∧ T ≤ (6 : Int)) inferInstance (.go 4 (.kp ((1 : Int) ≤ V ∧ V ≤ (32 : Int)) inferInstance (.go 6 (.kp ((1 : Int) ≤ S ∧ S ≤ V) inferInstance (.go 5 (.il (.rt 5 (.go 2 (.en (.st 20 (.rg (.go 4 (.vl (.int .i64 (T - 1)) (.kp ((0 : Int) ≤ th ∧ th ≤ (T - 1)) inferInstance (.go 4 (.kp ((0 : Int) ≤ tx ∧ tx ≤ (5 : Int)) inferInstance (.go 6 (.kp ((0 : Int) ≤ v ∧ v ≤ (1099511627776 : Int)) inferInstance (.go 6 (.vl (.int .i64 (V - 1)) (.kp ((0 : Int) ≤ at_ ∧ at_ ≤ (V - 1)) inferInstance (.go 4 (.kn (.agg [(.int .u8 (.ofNat 8)), (.int .i64 th), (.int .i64 (.ofNat 0)), (.int .i64 at_), (.int .i64 (.ofNat 0)), (.int .i64 x), (.int .u8 (.ofNat 0))]) (.ef (.go 2 q1) (.go 2 q1)))) (.go 8 q1)))) (.go 16 q1))) (.go 23 q1))) (.go 28 q1))))))))))) (.go 8 q2))) (.go 15 q2))) (.go 20 q2)))))) (.en (.rt 4 .no)))) (.en (.rt 1 .no))) (And.intro (withinL_p T (1 : Int) (6 : Int)) (tfk ((1 : Int) ≤ T ∧ T ≤ (6 : Int)) (fun _ => (And.intro (withinL_p V (1 : Int) (32 : Int)) (tfk ((1 : Int) ≤ V ∧ V ≤ (32 : Int)) (fun _ => (And.intro (withinL_p S (1 : Int) V) (tfk ((1 : Int) ≤ S ∧ S ≤ V) (fun _ => (w_i64 (T - 1) (by omega) (And.intro (withinL_p th (0 : Int) (T - 1)) (tfk ((0 : Int) ≤ th ∧ th ≤ (T - 1)) (fun _ => (And.intro (withinL_p tx (0 : Int) (5 : Int)) (tfk ((0 : Int) ≤ tx ∧ tx ≤ (5 : Int)) (fun _ => (And.intro (withinL_p v (0 : Int) (1099511627776 : Int)) (tfk ((0 : Int) ≤ v ∧ v ≤ (1099511627776 : Int)) (fun _ => (w_i64 (V - 1) (by omega) (And.intro (withinL_p at_ (0 : Int) (V - 1)) (tfk ((0 : Int) ≤ at_ ∧ at_ ≤ (V - 1)) (fun _ => (And.intro (bareL_8 th tx at_ v x why (by omega)) (te7 8 8 th th tx 0 at_ at_ v 0 x x why 0 (fun _ => (mT 8 th tx at_ v x why T V S (by omega))) (fun _ => (mF 8 th tx at_ v x why T V S (by omega)))))) (fun _ => (mF 8 th tx at_ v x why T V S (by omega))))))) (fun _ => (mF 8 th tx at_ v x why T V S (by omega)))))) (fun _ => (mF 8 th tx at_ v x why T V S (by omega)))))) (fun _ => (mF 8 th tx at_ v x why T V S (by omega))))))) (fun _ => (mF 8 th tx at_ v x why T V S (by omega)))))) (fun _ => (mF 8 th tx at_ v x why T V S (by omega)))))) (fun _ => (mF 8 th tx at_ v x why T V S (by omega)))))
set_option maxHeartbeats 8000000 in
theorem may_9 : MayS 9 := by
 intro B F hc hl th tx at_ v x why T V S ho
 have ho' := ho; simp only [EvOk, i64In] at ho'
 exact wp_sim (env_ok okI) rfl hmix hc hl 900 ((fun (q1 : Pl) => ((fun (q2 : Pl) => (.st 6 (.rg (.go 2 (.kp ((1 : Int) ≤ T ∧ T ≤ (6 : Int)) inferInstance (.go 4 (.kp ((1 : Int) ≤ V ∧ V ≤ (32 : Int)) inferInstance (.go 6 (.kp ((1 : Int) ≤ S ∧ S ≤ V) inferInstance (.go 5 (.il (.rt 5 (.go 2 (.en (.st 23 (.rg (.go 4 (.vl (.int .i64 (T - 1)) (.kp ((0 : Int) ≤ th ∧ th ≤ (T - 1)) inferInstance (.go 4 (.kp ((0 : Int) ≤ tx ∧ tx ≤ (5 : Int)) inferInstance (.go 6 (.kp ((0 : Int) ≤ v ∧ v ≤ (1099511627776 : Int)) inferInstance (.go 6 (.vl (.int .i64 (S - 1)) (.kp ((0 : Int) ≤ at_ ∧ at_ ≤ (S - 1)) inferInstance (.go 4 (.kn (.agg [(.int .u8 (.ofNat 9)), (.int .i64 th), (.int .i64 (.ofNat 0)), (.int .i64 at_), (.int .i64 (.ofNat 0)), (.int .i64 (.ofNat 0)), (.int .u8 (.ofNat 0))]) (.ef (.go 2 q1) (.go 2 q1)))) (.go 8 q1)))) (.go 16 q1))) (.go 23 q1))) (.go 28 q1))))))))))) (.go 8 q2))) (.go 15 q2))) (.go 20 q2)))))) (.en (.rt 4 .no)))) (.en (.rt 1 .no))) (And.intro (withinL_p T (1 : Int) (6 : Int)) (tfk ((1 : Int) ≤ T ∧ T ≤ (6 : Int)) (fun _ => (And.intro (withinL_p V (1 : Int) (32 : Int)) (tfk ((1 : Int) ≤ V ∧ V ≤ (32 : Int)) (fun _ => (And.intro (withinL_p S (1 : Int) V) (tfk ((1 : Int) ≤ S ∧ S ≤ V) (fun _ => (w_i64 (T - 1) (by omega) (And.intro (withinL_p th (0 : Int) (T - 1)) (tfk ((0 : Int) ≤ th ∧ th ≤ (T - 1)) (fun _ => (And.intro (withinL_p tx (0 : Int) (5 : Int)) (tfk ((0 : Int) ≤ tx ∧ tx ≤ (5 : Int)) (fun _ => (And.intro (withinL_p v (0 : Int) (1099511627776 : Int)) (tfk ((0 : Int) ≤ v ∧ v ≤ (1099511627776 : Int)) (fun _ => (w_i64 (S - 1) (by omega) (And.intro (withinL_p at_ (0 : Int) (S - 1)) (tfk ((0 : Int) ≤ at_ ∧ at_ ≤ (S - 1)) (fun _ => (And.intro (bareL_9 th tx at_ v x why (by omega)) (te7 9 9 th th tx 0 at_ at_ v 0 x 0 why 0 (fun _ => (mT 9 th tx at_ v x why T V S (by omega))) (fun _ => (mF 9 th tx at_ v x why T V S (by omega)))))) (fun _ => (mF 9 th tx at_ v x why T V S (by omega))))))) (fun _ => (mF 9 th tx at_ v x why T V S (by omega)))))) (fun _ => (mF 9 th tx at_ v x why T V S (by omega)))))) (fun _ => (mF 9 th tx at_ v x why T V S (by omega))))))) (fun _ => (mF 9 th tx at_ v x why T V S (by omega)))))) (fun _ => (mF 9 th tx at_ v x why T V S (by omega)))))) (fun _ => (mF 9 th tx at_ v x why T V S (by omega)))))
set_option maxHeartbeats 8000000 in
theorem may_10 : MayS 10 := by
 intro B F hc hl th tx at_ v x why T V S ho
 have ho' := ho; simp only [EvOk, i64In] at ho'
 exact wp_sim (env_ok okI) rfl hmix hc hl 900 ((fun (q1 : Pl) => ((fun (q2 : Pl) => ((fun (q3 : Pl) => (.st 6 (.rg (.go 2 (.kp ((1 : Int) ≤ T ∧ T ≤ (6 : Int)) inferInstance (.go 4 (.kp ((1 : Int) ≤ V ∧ V ≤ (32 : Int)) inferInstance (.go 6 (.kp ((1 : Int) ≤ S ∧ S ≤ V) inferInstance (.go 5 (.il (.rt 5 (.go 2 (.en (.st 22 (.rg (.go 2 (.fk (.en (.st 3 (.rg (.go 2 (.fk (.go 5 q1) (.go 3 (.fk (.go 1 q1) (.go 1 (.en (.st 4 (.rg (.go 4 (.vl (.int .i64 (T - 1)) (.kp ((0 : Int) ≤ th ∧ th ≤ (T - 1)) inferInstance (.go 4 (.kp ((0 : Int) ≤ tx ∧ tx ≤ (5 : Int)) inferInstance (.go 6 (.kp ((0 : Int) ≤ v ∧ v ≤ (1099511627776 : Int)) inferInstance (.go 7 (.kp ((0 : Int) ≤ at_ ∧ at_ ≤ (0 : Int)) inferInstance q3 (.go 8 q2))) (.go 16 q2))) (.go 23 q2))) (.go 28 q2))))))))))))))) (.en (.st 3 (.rg (.go 2 (.fk (.go 5 q1) (.go 3 (.fk (.go 1 q1) (.go 1 (.en (.st 4 (.rg (.go 4 (.vl (.int .i64 (T - 1)) (.kp ((0 : Int) ≤ th ∧ th ≤ (T - 1)) inferInstance (.go 4 (.kp ((0 : Int) ≤ tx ∧ tx ≤ (5 : Int)) inferInstance (.go 6 (.kp ((0 : Int) ≤ v ∧ v ≤ (1099511627776 : Int)) inferInstance (.go 6 (.vl (.int .i64 (S - 1)) (.kp ((0 : Int) ≤ at_ ∧ at_ ≤ (S - 1)) inferInstance q3 (.go 8 q2)))) (.go 16 q2))) (.go 23 q2))) (.go 28 q2)))))))))))))))))))))))) (.go 8 q1))) (.go 15 q1))) (.go 20 q1)))))) (.go 4 (.kn (.agg [(.int .u8 (.ofNat 10)), (.int .i64 th), (.int .i64 (.ofNat 0)), (.int .i64 at_), (.int .i64 (.ofNat 0)), (.int .i64 (.ofNat 0)), (.int .u8 why)]) (.ef (.go 2 q2) (.go 2 q2)))))) (.en (.rt 1 .no)))) (.en (.rt 4 .no))) (And.intro (withinL_p T (1 : Int) (6 : Int)) (tfk ((1 : Int) ≤ T ∧ T ≤ (6 : Int)) (fun _ => (And.intro (withinL_p V (1 : Int) (32 : Int)) (tfk ((1 : Int) ≤ V ∧ V ≤ (32 : Int)) (fun _ => (And.intro (withinL_p S (1 : Int) V) (tfk ((1 : Int) ≤ S ∧ S ≤ V) (fun _ => (tfk (why = 6) (fun _ => (tfk (why < 1) (fun _ => (mF 10 th tx at_ v x why T V S (by omega))) (fun _ => (tfk (why > 6) (fun _ => (mF 10 th tx at_ v x why T V S (by omega))) (fun _ => (w_i64 (T - 1) (by omega) (And.intro (withinL_p th (0 : Int) (T - 1)) (tfk ((0 : Int) ≤ th ∧ th ≤ (T - 1)) (fun _ => (And.intro (withinL_p tx (0 : Int) (5 : Int)) (tfk ((0 : Int) ≤ tx ∧ tx ≤ (5 : Int)) (fun _ => (And.intro (withinL_p v (0 : Int) (1099511627776 : Int)) (tfk ((0 : Int) ≤ v ∧ v ≤ (1099511627776 : Int)) (fun _ => (And.intro (withinL_p at_ (0 : Int) (0 : Int)) (tfk ((0 : Int) ≤ at_ ∧ at_ ≤ (0 : Int)) (fun _ => (And.intro (bareL_10 th tx at_ v x why (by omega)) (te7 10 10 th th tx 0 at_ at_ v 0 x 0 why why (fun _ => (mT 10 th tx at_ v x why T V S (by omega))) (fun _ => (mF 10 th tx at_ v x why T V S (by omega)))))) (fun _ => (mF 10 th tx at_ v x why T V S (by omega)))))) (fun _ => (mF 10 th tx at_ v x why T V S (by omega)))))) (fun _ => (mF 10 th tx at_ v x why T V S (by omega)))))) (fun _ => (mF 10 th tx at_ v x why T V S (by omega))))))))))) (fun _ => (tfk (why < 1) (fun _ => (mF 10 th tx at_ v x why T V S (by omega))) (fun _ => (tfk (why > 6) (fun _ => (mF 10 th tx at_ v x why T V S (by omega))) (fun _ => (w_i64 (T - 1) (by omega) (And.intro (withinL_p th (0 : Int) (T - 1)) (tfk ((0 : Int) ≤ th ∧ th ≤ (T - 1)) (fun _ => (And.intro (withinL_p tx (0 : Int) (5 : Int)) (tfk ((0 : Int) ≤ tx ∧ tx ≤ (5 : Int)) (fun _ => (And.intro (withinL_p v (0 : Int) (1099511627776 : Int)) (tfk ((0 : Int) ≤ v ∧ v ≤ (1099511627776 : Int)) (fun _ => (w_i64 (S - 1) (by omega) (And.intro (withinL_p at_ (0 : Int) (S - 1)) (tfk ((0 : Int) ≤ at_ ∧ at_ ≤ (S - 1)) (fun _ => (And.intro (bareL_10 th tx at_ v x why (by omega)) (te7 10 10 th th tx 0 at_ at_ v 0 x 0 why why (fun _ => (mT 10 th tx at_ v x why T V S (by omega))) (fun _ => (mF 10 th tx at_ v x why T V S (by omega)))))) (fun _ => (mF 10 th tx at_ v x why T V S (by omega))))))) (fun _ => (mF 10 th tx at_ v x why T V S (by omega)))))) (fun _ => (mF 10 th tx at_ v x why T V S (by omega)))))) (fun _ => (mF 10 th tx at_ v x why T V S (by omega))))))))))))) (fun _ => (mF 10 th tx at_ v x why T V S (by omega)))))) (fun _ => (mF 10 th tx at_ v x why T V S (by omega)))))) (fun _ => (mF 10 th tx at_ v x why T V S (by omega)))))
set_option maxHeartbeats 8000000 in
theorem may_11 : MayS 11 := by
 intro B F hc hl th tx at_ v x why T V S ho
 have ho' := ho; simp only [EvOk, i64In] at ho'
 exact wp_sim (env_ok okI) rfl hmix hc hl 900 ((fun (q1 : Pl) => ((fun (q2 : Pl) => (.st 6 (.rg (.go 2 (.kp ((1 : Int) ≤ T ∧ T ≤ (6 : Int)) inferInstance (.go 4 (.kp ((1 : Int) ≤ V ∧ V ≤ (32 : Int)) inferInstance (.go 6 (.kp ((1 : Int) ≤ S ∧ S ≤ V) inferInstance (.go 5 (.il (.rt 5 (.go 2 (.en (.st 23 (.rg (.go 4 (.vl (.int .i64 (T - 1)) (.kp ((0 : Int) ≤ th ∧ th ≤ (T - 1)) inferInstance (.go 4 (.kp ((0 : Int) ≤ tx ∧ tx ≤ (5 : Int)) inferInstance (.go 6 (.kp ((0 : Int) ≤ v ∧ v ≤ (1099511627776 : Int)) inferInstance (.go 6 (.vl (.int .i64 (S - 1)) (.kp ((0 : Int) ≤ at_ ∧ at_ ≤ (S - 1)) inferInstance (.go 4 (.kn (.agg [(.int .u8 (.ofNat 11)), (.int .i64 th), (.int .i64 (.ofNat 0)), (.int .i64 at_), (.int .i64 (.ofNat 0)), (.int .i64 (.ofNat 0)), (.int .u8 (.ofNat 0))]) (.ef (.go 2 q1) (.go 2 q1)))) (.go 8 q1)))) (.go 16 q1))) (.go 23 q1))) (.go 28 q1))))))))))) (.go 8 q2))) (.go 15 q2))) (.go 20 q2)))))) (.en (.rt 4 .no)))) (.en (.rt 1 .no))) (And.intro (withinL_p T (1 : Int) (6 : Int)) (tfk ((1 : Int) ≤ T ∧ T ≤ (6 : Int)) (fun _ => (And.intro (withinL_p V (1 : Int) (32 : Int)) (tfk ((1 : Int) ≤ V ∧ V ≤ (32 : Int)) (fun _ => (And.intro (withinL_p S (1 : Int) V) (tfk ((1 : Int) ≤ S ∧ S ≤ V) (fun _ => (w_i64 (T - 1) (by omega) (And.intro (withinL_p th (0 : Int) (T - 1)) (tfk ((0 : Int) ≤ th ∧ th ≤ (T - 1)) (fun _ => (And.intro (withinL_p tx (0 : Int) (5 : Int)) (tfk ((0 : Int) ≤ tx ∧ tx ≤ (5 : Int)) (fun _ => (And.intro (withinL_p v (0 : Int) (1099511627776 : Int)) (tfk ((0 : Int) ≤ v ∧ v ≤ (1099511627776 : Int)) (fun _ => (w_i64 (S - 1) (by omega) (And.intro (withinL_p at_ (0 : Int) (S - 1)) (tfk ((0 : Int) ≤ at_ ∧ at_ ≤ (S - 1)) (fun _ => (And.intro (bareL_11 th tx at_ v x why (by omega)) (te7 11 11 th th tx 0 at_ at_ v 0 x 0 why 0 (fun _ => (mT 11 th tx at_ v x why T V S (by omega))) (fun _ => (mF 11 th tx at_ v x why T V S (by omega)))))) (fun _ => (mF 11 th tx at_ v x why T V S (by omega))))))) (fun _ => (mF 11 th tx at_ v x why T V S (by omega)))))) (fun _ => (mF 11 th tx at_ v x why T V S (by omega)))))) (fun _ => (mF 11 th tx at_ v x why T V S (by omega))))))) (fun _ => (mF 11 th tx at_ v x why T V S (by omega)))))) (fun _ => (mF 11 th tx at_ v x why T V S (by omega)))))) (fun _ => (mF 11 th tx at_ v x why T V S (by omega)))))
set_option maxHeartbeats 8000000 in
theorem may_12 : MayS 12 := by
 intro B F hc hl th tx at_ v x why T V S ho
 have ho' := ho; simp only [EvOk, i64In] at ho'
 exact wp_sim (env_ok okI) rfl hmix hc hl 900 ((fun (q1 : Pl) => ((fun (q2 : Pl) => (.st 6 (.rg (.go 2 (.kp ((1 : Int) ≤ T ∧ T ≤ (6 : Int)) inferInstance (.go 4 (.kp ((1 : Int) ≤ V ∧ V ≤ (32 : Int)) inferInstance (.go 6 (.kp ((1 : Int) ≤ S ∧ S ≤ V) inferInstance (.go 5 (.il (.rt 5 (.go 2 (.en (.st 23 (.rg (.go 4 (.vl (.int .i64 (T - 1)) (.kp ((0 : Int) ≤ th ∧ th ≤ (T - 1)) inferInstance (.go 4 (.kp ((0 : Int) ≤ tx ∧ tx ≤ (5 : Int)) inferInstance (.go 6 (.kp ((0 : Int) ≤ v ∧ v ≤ (1099511627776 : Int)) inferInstance (.go 6 (.vl (.int .i64 (S - 1)) (.kp ((0 : Int) ≤ at_ ∧ at_ ≤ (S - 1)) inferInstance (.go 4 (.kn (.agg [(.int .u8 (.ofNat 12)), (.int .i64 th), (.int .i64 (.ofNat 0)), (.int .i64 (.ofNat 0)), (.int .i64 (.ofNat 0)), (.int .i64 (.ofNat 0)), (.int .u8 (.ofNat 0))]) (.ef (.go 2 q1) (.go 2 q1)))) (.go 8 q1)))) (.go 16 q1))) (.go 23 q1))) (.go 28 q1))))))))))) (.go 8 q2))) (.go 15 q2))) (.go 20 q2)))))) (.en (.rt 4 .no)))) (.en (.rt 1 .no))) (And.intro (withinL_p T (1 : Int) (6 : Int)) (tfk ((1 : Int) ≤ T ∧ T ≤ (6 : Int)) (fun _ => (And.intro (withinL_p V (1 : Int) (32 : Int)) (tfk ((1 : Int) ≤ V ∧ V ≤ (32 : Int)) (fun _ => (And.intro (withinL_p S (1 : Int) V) (tfk ((1 : Int) ≤ S ∧ S ≤ V) (fun _ => (w_i64 (T - 1) (by omega) (And.intro (withinL_p th (0 : Int) (T - 1)) (tfk ((0 : Int) ≤ th ∧ th ≤ (T - 1)) (fun _ => (And.intro (withinL_p tx (0 : Int) (5 : Int)) (tfk ((0 : Int) ≤ tx ∧ tx ≤ (5 : Int)) (fun _ => (And.intro (withinL_p v (0 : Int) (1099511627776 : Int)) (tfk ((0 : Int) ≤ v ∧ v ≤ (1099511627776 : Int)) (fun _ => (w_i64 (S - 1) (by omega) (And.intro (withinL_p at_ (0 : Int) (S - 1)) (tfk ((0 : Int) ≤ at_ ∧ at_ ≤ (S - 1)) (fun _ => (And.intro (bareL_12 th tx at_ v x why (by omega)) (te7 12 12 th th tx 0 at_ 0 v 0 x 0 why 0 (fun _ => (mT 12 th tx at_ v x why T V S (by omega))) (fun _ => (mF 12 th tx at_ v x why T V S (by omega)))))) (fun _ => (mF 12 th tx at_ v x why T V S (by omega))))))) (fun _ => (mF 12 th tx at_ v x why T V S (by omega)))))) (fun _ => (mF 12 th tx at_ v x why T V S (by omega)))))) (fun _ => (mF 12 th tx at_ v x why T V S (by omega))))))) (fun _ => (mF 12 th tx at_ v x why T V S (by omega)))))) (fun _ => (mF 12 th tx at_ v x why T V S (by omega)))))) (fun _ => (mF 12 th tx at_ v x why T V S (by omega)))))
set_option maxHeartbeats 8000000 in
theorem may_13 : MayS 13 := by
 intro B F hc hl th tx at_ v x why T V S ho
 have ho' := ho; simp only [EvOk, i64In] at ho'
 exact wp_sim (env_ok okI) rfl hmix hc hl 900 ((fun (q1 : Pl) => ((fun (q2 : Pl) => (.st 6 (.rg (.go 2 (.kp ((1 : Int) ≤ T ∧ T ≤ (6 : Int)) inferInstance (.go 4 (.kp ((1 : Int) ≤ V ∧ V ≤ (32 : Int)) inferInstance (.go 6 (.kp ((1 : Int) ≤ S ∧ S ≤ V) inferInstance (.go 5 (.il (.rt 5 (.go 2 (.en (.st 23 (.rg (.go 4 (.vl (.int .i64 (T - 1)) (.kp ((0 : Int) ≤ th ∧ th ≤ (T - 1)) inferInstance (.go 4 (.kp ((0 : Int) ≤ tx ∧ tx ≤ (5 : Int)) inferInstance (.go 6 (.kp ((0 : Int) ≤ v ∧ v ≤ (1099511627776 : Int)) inferInstance (.go 6 (.vl (.int .i64 (S - 1)) (.kp ((0 : Int) ≤ at_ ∧ at_ ≤ (S - 1)) inferInstance (.go 4 (.kn (.agg [(.int .u8 (.ofNat 13)), (.int .i64 th), (.int .i64 (.ofNat 0)), (.int .i64 (.ofNat 0)), (.int .i64 (.ofNat 0)), (.int .i64 (.ofNat 0)), (.int .u8 (.ofNat 0))]) (.ef (.go 2 q1) (.go 2 q1)))) (.go 8 q1)))) (.go 16 q1))) (.go 23 q1))) (.go 28 q1))))))))))) (.go 8 q2))) (.go 15 q2))) (.go 20 q2)))))) (.en (.rt 4 .no)))) (.en (.rt 1 .no))) (And.intro (withinL_p T (1 : Int) (6 : Int)) (tfk ((1 : Int) ≤ T ∧ T ≤ (6 : Int)) (fun _ => (And.intro (withinL_p V (1 : Int) (32 : Int)) (tfk ((1 : Int) ≤ V ∧ V ≤ (32 : Int)) (fun _ => (And.intro (withinL_p S (1 : Int) V) (tfk ((1 : Int) ≤ S ∧ S ≤ V) (fun _ => (w_i64 (T - 1) (by omega) (And.intro (withinL_p th (0 : Int) (T - 1)) (tfk ((0 : Int) ≤ th ∧ th ≤ (T - 1)) (fun _ => (And.intro (withinL_p tx (0 : Int) (5 : Int)) (tfk ((0 : Int) ≤ tx ∧ tx ≤ (5 : Int)) (fun _ => (And.intro (withinL_p v (0 : Int) (1099511627776 : Int)) (tfk ((0 : Int) ≤ v ∧ v ≤ (1099511627776 : Int)) (fun _ => (w_i64 (S - 1) (by omega) (And.intro (withinL_p at_ (0 : Int) (S - 1)) (tfk ((0 : Int) ≤ at_ ∧ at_ ≤ (S - 1)) (fun _ => (And.intro (bareL_13 th tx at_ v x why (by omega)) (te7 13 13 th th tx 0 at_ 0 v 0 x 0 why 0 (fun _ => (mT 13 th tx at_ v x why T V S (by omega))) (fun _ => (mF 13 th tx at_ v x why T V S (by omega)))))) (fun _ => (mF 13 th tx at_ v x why T V S (by omega))))))) (fun _ => (mF 13 th tx at_ v x why T V S (by omega)))))) (fun _ => (mF 13 th tx at_ v x why T V S (by omega)))))) (fun _ => (mF 13 th tx at_ v x why T V S (by omega))))))) (fun _ => (mF 13 th tx at_ v x why T V S (by omega)))))) (fun _ => (mF 13 th tx at_ v x why T V S (by omega)))))) (fun _ => (mF 13 th tx at_ v x why T V S (by omega)))))
set_option maxHeartbeats 8000000 in
theorem may_k {B : Base} {F : Nat → Option (List AV)} (hc : CallSim Tryz.prog B (arunI Tryz.prog spI2 F 6)) (hl : ∀ t a, Local (arunI Tryz.prog spI2 F 6 t a)) {k : Int} (hk : 13 < k) {th tx at_ v x why T V S : Int} (ho : EvOk (⟨k, th, tx, at_, v, x, why⟩ : Ev) ∧ i64In T ∧ i64In V ∧ i64In S) :
  Sim Tryz.prog B 270 (Fin Tryz.prog Tryz.f13.results.toList fun y _ => y = .bool (decide (MayQ k th tx at_ v x why T V S))) ⟨13, (trOf [(0, (.agg [(.int .u8 k), (.int .i64 th), (.int .i64 tx), (.int .i64 at_), (.int .i64 v), (.int .i64 x), (.int .u8 why)])), (1, (.int .i64 T)), (2, (.int .i64 V)), (3, (.int .i64 S))]), 90, [.code (cAt Tryz.prog 13 [])], [], none⟩ (stOf (kn1) 270) := by
 have ho' := ho; simp only [EvOk, i64In] at ho'
 exact wp_sim (env_ok okI2) rfl hmix hc hl 900 ((fun (q1 : Pl) => (.st 6 (.rg (.go 2 (.kp ((1 : Int) ≤ T ∧ T ≤ (6 : Int)) inferInstance (.go 4 (.kp ((1 : Int) ≤ V ∧ V ≤ (32 : Int)) inferInstance (.go 6 (.kp ((1 : Int) ≤ S ∧ S ≤ V) inferInstance (.go 5 (.kp ((1 : Int) ≤ k ∧ k ≤ (13 : Int)) inferInstance (.no) (.go 2 q1))) (.go 8 q1))) (.go 15 q1))) (.go 20 q1)))))) (.en (.rt 4 .no))) (And.intro (withinL_p T (1 : Int) (6 : Int)) (tfk ((1 : Int) ≤ T ∧ T ≤ (6 : Int)) (fun _ => (And.intro (withinL_p V (1 : Int) (32 : Int)) (tfk ((1 : Int) ≤ V ∧ V ≤ (32 : Int)) (fun _ => (And.intro (withinL_p S (1 : Int) V) (tfk ((1 : Int) ≤ S ∧ S ≤ V) (fun _ => (And.intro (knL_p k) (tfk ((1 : Int) ≤ k ∧ k ≤ (13 : Int)) (fun _ => (oF (by omega))) (fun _ => (mF k th tx at_ v x why T V S (by omega)))))) (fun _ => (mF k th tx at_ v x why T V S (by omega)))))) (fun _ => (mF k th tx at_ v x why T V S (by omega)))))) (fun _ => (mF k th tx at_ v x why T V S (by omega)))))
end AcM
namespace AcW
open AcS Go.Proofs.YtbnjeblcleihkaaGreatDoor.auditCounted
structure Th where
  at_ : Int
  commits : Int
  rv : Int
  wv : Int
  stripe : Int
  v : Int
  read : Int
  owned : Int
  stored : Int
  check : Int
  locked : Int
  var_ : Int
  full : Bool
deriving Inhabited
structure Sr where
  owner : Int
  version : Int
deriving Inhabited
noncomputable section
def encTh (t : Th) : List AV := [.int .i64 t.at_, .int .i64 t.commits, .int .i64 t.rv, .int .i64 t.wv, .int .i64 t.stripe, .int .i64 t.v, .int .u32 t.read, .int .u32 t.owned, .int .u32 t.stored, .int .u32 t.check, .int .i64 t.locked, .int .i64 t.var_, .bool t.full]
def encSr (t : Sr) : List AV := [.int .i64 t.owner, .int .i64 t.version]
def headL (begun i : Int) : List (Nat × AV) := [(1, (.ptr (some (270, 0)))), (3, (.ptr (some (274, 0)))), (5, (.int .i64 (begun))), (6, (.int .i64 (i)))]
def headO (nm o len nT nS : Nat) (T V S : Int) (ths : List Th) (srs : List Sr) (clock evn : Int) : List (Nat × Option AObj) := kn1 ++ [(270, some (.cells 4 (Tr.fill [(.int .i64 (T)), (.int .i64 (V)), (.int .i64 (S)), (.rslice nm o len)] 0 .nil) [])), (271, (some (rowT encTh ths))), (273, (some (rowT encSr srs))), (274, some (.cells 5 (Tr.fill [(.int .i64 (V)), (.int .i64 (clock)), (.int .i64 (evn)), (.slice (some (271, 0)) (nT) (.known nT)), (.slice (some (273, 0)) (nS) (.known nS))] 0 .nil) []))]
def frL (l : List (Nat × AV)) : AF := ⟨3, trOf l, 119, [.code (cAt Tryz.prog 3 [1, 1, 1, 1, 1, 0, 1, 0, 0]), .inLoop (cAt Tryz.prog 3 [1, 1, 1, 1, 1, 0, 1, 0, 0]), .inBlock 0, .code (cAt Tryz.prog 3 [1, 1, 1, 1, 1, 1])], [], none⟩
end
theorem okTh : EncOk 13 encTh := ⟨fun _ => rfl, fun _ => rfl, fun _ => rfl⟩
theorem okSr : EncOk 2 encSr := ⟨fun _ => rfl, fun _ => rfl, fun _ => rfl⟩
/-- What always holds of a thread. -/
def ThOk (S : Nat) (t : Th) : Prop := 0 ≤ t.at_ ∧ 0 ≤ t.commits ∧ t.commits ≤ 6 ∧ (t.at_ ≠ 0 → t.commits ≤ 5) ∧ 0 ≤ t.stripe ∧ t.stripe < (S : Int) ∧ 0 ≤ t.read ∧ t.read < 4294967296 ∧ 0 ≤ t.owned ∧ t.owned < 4294967296 ∧ 0 ≤ t.stored ∧ t.stored < 4294967296 ∧ 0 ≤ t.check ∧ t.check < 4294967296
/-- What an event does to its thread. -/
def Step (k tx : Int) (c c' : Th) : Prop := (k = 1 → c.at_ = 0 ∧ tx = c.commits ∧ c'.at_ ≠ 0 ∧ c'.commits = c.commits) ∧ (k ≠ 1 → c.at_ ≠ 0 ∧ (c'.commits = c.commits ∨ c'.commits = c.commits + 1 ∧ c'.at_ = 0))
theorem thI {S : Nat} {t : Th} (h : ThOk S t) : 0 ≤ t.at_ ∧ 0 ≤ t.commits ∧ t.commits ≤ 6 ∧ (t.at_ ≠ 0 → t.commits ≤ 5) ∧ 0 ≤ t.stripe ∧ t.stripe < (S : Int) ∧ 0 ≤ t.read ∧ t.read < 4294967296 ∧ 0 ≤ t.owned ∧ t.owned < 4294967296 ∧ 0 ≤ t.stored ∧ t.stored < 4294967296 ∧ 0 ≤ t.check ∧ t.check < 4294967296 := h
theorem mayI {k th tx at_ v x why T V S : Int} (h : MayQ k th tx at_ v x why T V S) : (1 ≤ T ∧ T ≤ 6) ∧ (1 ≤ V ∧ V ≤ 32) ∧ (1 ≤ S ∧ S ≤ V) ∧ 1 ≤ k ∧ k ≤ 13 ∧ (k ≠ 10 ∨ (1 ≤ why ∧ why ≤ 6)) ∧ 0 ≤ th ∧ th < T ∧ 0 ≤ tx ∧ tx ≤ 5 ∧ 0 ≤ v ∧ v ≤ 1099511627776 ∧ (k ≠ 5 ∨ 1 ≤ v) ∧ 0 ≤ at_ ∧ (k = 3 ∨ k = 8 ∨ at_ < S) ∧ ((k ≠ 3 ∧ k ≠ 8) ∨ at_ < V) ∧ (k ≠ 10 ∨ why ≠ 6 ∨ at_ ≤ 0) ∧ (k = 1 ∨ tx = 0) ∧ ((k ≠ 1 ∧ k ≠ 5 ∧ k ≠ 7 ∧ k ≠ 12 ∧ k ≠ 13) ∨ at_ = 0) ∧ (k = 1 ∨ k = 2 ∨ k = 5 ∨ k = 7 ∨ v = 0) ∧ (k = 3 ∨ k = 8 ∨ x = 0) ∧ (k = 10 ∨ why = 0) := h
theorem stP (k tx : Int) (c : Th) (a m : Int) {c' : Th} (ha : c'.at_ = a) (hm : c'.commits = m) (h : (k = 1 → c.at_ = 0 ∧ tx = c.commits ∧ a ≠ 0 ∧ m = c.commits) ∧ (k ≠ 1 → c.at_ ≠ 0 ∧ (m = c.commits ∨ m = c.commits + 1 ∧ a = 0))) : Step k tx c c' := by subst ha; subst hm; exact h
theorem thP (S : Nat) (a m s r o q k : Int) {t : Th} (h1 : t.at_ = a) (h2 : t.commits = m) (h3 : t.stripe = s) (h4 : t.read = r) (h5 : t.owned = o) (h6 : t.stored = q) (h7 : t.check = k) (h : 0 ≤ a ∧ 0 ≤ m ∧ m ≤ 6 ∧ (a ≠ 0 → m ≤ 5) ∧ 0 ≤ s ∧ s < (S : Int) ∧ 0 ≤ r ∧ r < 4294967296 ∧ 0 ≤ o ∧ o < 4294967296 ∧ 0 ≤ q ∧ q < 4294967296 ∧ 0 ≤ k ∧ k < 4294967296) : ThOk S t := by subst h1 h2 h3 h4 h5 h6 h7; exact h
theorem bit_rng {op : BinOp} {a b : Int} (h : isBit op = true) : 0 ≤ bitV op .u32 a b ∧ bitV op .u32 a b < 4294967296 := by
  have hw : ∀ n : Int, 0 ≤ IntKind.wrap .u32 n ∧ IntKind.wrap .u32 n < 4294967296 := fun n => by
    have e : IntKind.wrap .u32 n = n % 4294967296 := by simp [IntKind.wrap, IntKind.signed, IntKind.bits]
    rw [e]; omega
  cases op <;> first | (cases h; done) | exact hw _
theorem frz_sub {F : Nat → Option (List AV)} {n off k : Nat} {cs : List AV} (h : frzAt F n off k = some cs) (j m : Nat) (hj : j + m ≤ k) : frzAt F n (off + j) m = some ((cs.drop j).take m) := by
  unfold frzAt at h ⊢
  cases e : F n with
  | none => rw [e] at h; cases h
  | some l =>
    rw [e] at h
    simp only at h ⊢
    split at h
    · rename_i hb
      injection h with h; subst h
      have hb := ble_true.1 hb
      rw [show Nat.ble (off + j + m) l.length = true from ble_true.2 (by omega)]
      simp only
      congr 1
      rw [List.drop_take, List.take_take, List.drop_drop, Nat.min_eq_left (by omega)]
    · cases h
/-- The loop's head behind an event. -/
def NextC (nm o len nT nS : Nat) (T V S : Int) (ths : List Th) (srs : List Sr) (c : Th) (begun i evn k th tx : Int) : CutT := fun fr s _ => ∃ (c' : Th) (srs' : List Sr) (clock' begun' : Int), fr = frL (headL begun' (i + 1)) ∧ s = stOf (headO nm o len nT nS T V S (ths.set th.toNat c') srs' clock' (evn + 1)) 275 ∧
  ThOk nS c' ∧ srs'.length = srs.length ∧ Step k tx c c' ∧ (0 ≤ th ∧ th < (nT : Int) ∧ 0 ≤ tx ∧ tx ≤ 5 ∧ evn < 1048576) ∧ begun' = (if k = 1 then begun + 1 else begun)
theorem head_ent {nm o len nT nS : Nat} {T V S : Int} {ths : List Th} {srs : List Sr} {clock evn begun i : Int} (hnm : top ≤ nm) (hT : ths.length * 13 ≤ top) (hS : srs.length * 2 ≤ top) : EntP 275 (headL begun i) (headO nm o len nT nS T V S ths srs clock evn) := by
  intro r r1 r2
  have hp : ∀ n k : Nat, n < 275 → VEnt r (.ptr (some (n, k))) (.ptr (some (n, k))) := fun n k h => VEnt.ptr (r1 n h)
  refine ⟨fun p hp' => ?_, fun p hp' x hx => ?_⟩
  · simp only [headL, List.mem_cons, List.not_mem_nil, or_false] at hp'
    rcases hp' with rfl | rfl | rfl | rfl
    · exact hp _ _ (by decide)
    · exact hp _ _ (by decide)
    · exact VEnt.int _ _
    · exact VEnt.int _ _
  · rcases List.mem_append.1 hp' with hp' | hp'
    · exact ents_low (nx := 275) r1 (by as_aux_lemma => kernel_rfl) p hp' x hx
    · simp only [List.mem_cons, List.not_mem_nil, or_false] at hp'
      rcases hp' with rfl | rfl | rfl | rfl
      · injection hx with hx; subst hx
        exact OEnt.cells (l := [.int .i64 T, .int .i64 V, .int .i64 S, .rslice nm o len]) (m := [.int .i64 T, .int .i64 V, .int .i64 S, .rslice nm o len]) (by unfold top; simp) ⟨VEnt.int _ _, VEnt.int _ _, VEnt.int _ _, VEnt.rslice (r2 nm hnm), trivial⟩ rfl
      · injection hx with hx; subst hx
        exact OEnt.rowT (fun x => ⟨okTh.flat x, okTh.one x⟩) (by rw [rows_len okTh.len]; exact hT)
      · injection hx with hx; subst hx
        exact OEnt.rowT (fun x => ⟨okSr.flat x, okSr.one x⟩) (by rw [rows_len okSr.len]; exact hS)
      · injection hx with hx; subst hx
        exact OEnt.cells (l := [.int .i64 V, .int .i64 clock, .int .i64 evn, .slice (some (271, 0)) nT (.known nT), .slice (some (273, 0)) nS (.known nS)]) (m := [.int .i64 V, .int .i64 clock, .int .i64 evn, .slice (some (271, 0)) nT (.known nT), .slice (some (273, 0)) nS (.known nS)]) (by unfold top; simp) ⟨VEnt.int _ _, VEnt.int _ _, VEnt.int _ _, VEnt.slice (r1 _ (by decide)), VEnt.slice (r1 _ (by decide)), trivial⟩ rfl
theorem leafI (nm o len nT nS : Nat) (T V S : Int) (ths : List Th) (srs : List Sr) (c : Th) (begun i evn th tx : Int) (hnm : top ≤ nm) (hlT : ths.length * 13 ≤ top) (hlS : srs.length * 2 ≤ top) (k : Int) (c' : Th) (srs' : List Sr) (clock' begun' : Int) (h1 : ThOk nS c') (h2 : srs'.length = srs.length) (h3 : Step k tx c c') (h5 : 0 ≤ th ∧ th < (nT : Int) ∧ 0 ≤ tx ∧ tx ≤ 5 ∧ evn < 1048576) (h4 : begun' = (if k = 1 then begun + 1 else begun)) :
    ((headL begun' (i + 1)).map (fun q => some q.2) = (headL begun' (i + 1)).map (fun q => some q.2)) ∧ ((headO nm o len nT nS T V S (ths.set th.toNat c') srs' clock' (evn + 1)).map (fun q => q.2) = (headO nm o len nT nS T V S (ths.set th.toNat c') srs' clock' (evn + 1)).map (fun q => q.2)) ∧ EntP 275 (headL begun' (i + 1)) (headO nm o len nT nS T V S (ths.set th.toNat c') srs' clock' (evn + 1)) ∧
    NextC nm o len nT nS T V S ths srs c begun i evn k th tx (frL (headL begun' (i + 1))) (stOf (headO nm o len nT nS T V S (ths.set th.toNat c') srs' clock' (evn + 1)) 275) .no :=
  ⟨rfl, rfl, head_ent hnm (by rw [List.length_set]; exact hlT) (by rw [h2]; exact hlS), c', srs', clock', begun', rfl, rfl, h1, h2, h3, h5, h4⟩
def NextS (k : Int) : Prop := ∀ {B : Base} {F : Nat → Option (List AV)} (hc : CallSim Tryz.prog B (arunI Tryz.prog spM F 6)) (hl : ∀ t a, Local (arunI Tryz.prog spM F 6 t a)) {nm o len nT nS : Nat} {T V S : Int} {ths : List Th} {srs : List Sr} {c : Th} {clock evn begun i th tx at_ v x why : Int} (ho : EvOk (⟨k, th, tx, at_, v, x, why⟩ : Ev)) (hnm : top ≤ nm) (hlen : len ≤ 2000) (hi : 0 ≤ i ∧ i < (len : Int)) (hb : 0 ≤ begun ∧ begun ≤ i) (hev : frzAt F nm (o + i.toNat * 7) 7 = some [(.int .u8 k), (.int .i64 th), (.int .i64 tx), (.int .i64 at_), (.int .i64 v), (.int .i64 x), (.int .u8 why)]) (hV : 1 ≤ V ∧ V ≤ 32) (hnT : ths.length = nT) (hnS : srs.length = nS) (hT6 : nT ≤ 6) (hS32 : nS ≤ 32) (hevn : 0 ≤ evn ∧ evn ≤ 1048576) (hok : ∀ t ∈ ths, ThOk nS t) (hC : 0 ≤ th ∧ th < ((nT : Nat) : Int) → ths[th.toNat]? = some c) (H : ∀ fr s p, NextC nm o len nT nS T V S ths srs c begun i evn k th tx fr s p → Sim Tryz.prog B 270 (Fin Tryz.prog Tryz.f3.results.toList fun y _ => y = .bool true) fr s), Sim Tryz.prog B 270 (Fin Tryz.prog Tryz.f3.results.toList fun y _ => y = .bool true) (frL (headL begun i)) (stOf (headO nm o len nT nS T V S ths srs clock evn) 275)
end AcW
open Go Go.Rn Go.RowKit
namespace AcT
open AcS AcW
/-- One more try of a transaction. -/
def bumpL (l : List Int) (tx : Nat) : List Int :=
  let m := l ++ List.replicate (tx + 1 - l.length) 0
  m.set tx (m.getD tx 0 + 1)
def triesF (n : Int) (l : List Int) (e : Ev) : List Int := if e.kind = 1 ∧ e.thread = n ∧ 0 ≤ e.tx ∧ e.tx < 6 then bumpL l e.tx.toNat else l
def triesL (n : Int) (l : List Ev) : List Int := l.foldl (triesF n) []
/-- Of a thread, and its tries. -/
def TI (t : Th) (l : List Int) : Prop := ((l.length : Int) = t.commits ∨ (l.length : Int) = t.commits + 1) ∧ (t.at_ ≠ 0 → (l.length : Int) = t.commits + 1) ∧ ∀ x ∈ l, 1 ≤ x
def total (nT : Nat) (l : List Ev) : Int := ((List.range nT).map fun n : Nat => (triesL (n : Int) l).sum).sum
def Inv (nT nS : Nat) (l : List Ev) (ths : List Th) (begun : Int) : Prop := (∀ t ∈ ths, ThOk nS t) ∧ (∀ (n : Nat) t, ths[n]? = some t → TI t (triesL (n : Int) l)) ∧ begun = total nT l
theorem triesL_snoc (n : Int) (l : List Ev) (e : Ev) : triesL n (l ++ [e]) = triesF n (triesL n l) e := by
  unfold triesL
  rw [List.foldl_append]; rfl
theorem bumpL_len (l : List Int) (tx : Nat) : (bumpL l tx).length = max l.length (tx + 1) := by
  unfold bumpL
  simp only [List.length_set, List.length_append, List.length_replicate]
  omega
theorem bumpL_end (l : List Int) : bumpL l l.length = l ++ [1] := by
  unfold bumpL
  simp
theorem bumpL_old {l : List Int} {tx : Nat} (h : tx < l.length) : bumpL l tx = l.set tx (l.getD tx 0 + 1) := by
  unfold bumpL
  have : tx + 1 - l.length = 0 := by omega
  rw [this]
  simp
theorem sum_set {l : List Int} {i : Nat} (h : i < l.length) (x : Int) : (l.set i x).sum = l.sum - l.getD i 0 + x := by
  induction l generalizing i with
  | nil => simp at h
  | cons y l ih =>
    cases i with
    | zero => simp; omega
    | succ i =>
      simp only [List.length_cons] at h
      simp only [List.set_cons_succ, List.sum_cons, List.getD_cons_succ]
      rw [ih (by omega)]; omega
/-- The tries of the event's own thread. -/
theorem TI_own {k tx : Int} {c c' : Th} {l : List Int} {nS : Nat} (hc : ThOk nS c) (hs : Step k tx c c') (h : TI c l) (h0 : 0 ≤ tx) (h5 : tx ≤ 5) : TI c' (if k = 1 then bumpL l tx.toNat else l) ∧ (if k = 1 then bumpL l tx.toNat else l).sum = l.sum + (if k = 1 then 1 else 0) := by
  obtain ⟨h1, h2, h3⟩ := h
  obtain ⟨_, hc0, hc6, _⟩ := hc
  by_cases hk : k = 1
  · obtain ⟨a1, a2, a3, a4⟩ := hs.1 hk
    rw [if_pos hk, if_pos hk]
    rcases h1 with h1 | h1
    · have e : tx.toNat = l.length := by omega
      rw [e, bumpL_end]
      refine ⟨⟨by simp; omega, fun _ => by simp; omega, fun x hx => ?_⟩, by simp⟩
      rcases List.mem_append.1 hx with hx | hx
      · exact h3 x hx
      · simp at hx; omega
    · have e : tx.toNat < l.length := by omega
      rw [bumpL_old e]
      have hm : l.getD tx.toNat 0 ∈ l := by
        rw [List.getD_eq_getElem?_getD, List.getElem?_eq_getElem e]
        exact List.getElem_mem e
      refine ⟨⟨by simp; omega, fun _ => by simp; omega, fun x hx => ?_⟩, by rw [sum_set e]; omega⟩
      rcases List.mem_or_eq_of_mem_set hx with hx | hx
      · exact h3 x hx
      · have := h3 _ hm; omega
  · obtain ⟨a1, a2⟩ := hs.2 hk
    rw [if_neg hk, if_neg hk]
    have h4 := h2 a1
    refine ⟨?_, by omega⟩
    rcases a2 with a2 | ⟨a2, a3⟩
    · exact ⟨.inr (by omega), fun _ => by omega, h3⟩
    · exact ⟨.inl (by omega), fun q => absurd a3 q, h3⟩
theorem sum_one {f g : Nat → Int} {d : Int} {k : Nat} : ∀ {n : Nat}, k < n → g k = f k + d → (∀ j, j ≠ k → g j = f j) → ((List.range n).map g).sum = ((List.range n).map f).sum + d
  | 0, h, _, _ => by omega
  | n + 1, h, h1, h2 => by
    rw [List.range_succ, List.map_append, List.map_append, List.sum_append, List.sum_append]
    simp only [List.map_cons, List.map_nil, List.sum_cons, List.sum_nil]
    by_cases q : k = n
    · subst q
      have : (List.range k).map g = (List.range k).map f := List.map_congr_left fun j hj => h2 j (by have := List.mem_range.1 hj; omega)
      rw [this, h1]; omega
    · rw [sum_one (n := n) (by omega) h1 h2, h2 n (by omega)]; omega
theorem Inv.step {nT nS : Nat} {l : List Ev} {ths : List Th} {begun : Int} (h : Inv nT nS l ths begun) (hT : ths.length = nT) {e : Ev} {c c' : Th} (hc : ths[e.thread.toNat]? = some c) (hs : Step e.kind e.tx c c') (hc' : ThOk nS c') (h0 : 0 ≤ e.thread) (h1 : e.thread < (nT : Int)) (h2 : 0 ≤ e.tx) (h3 : e.tx ≤ 5) : Inv nT nS (l ++ [e]) (ths.set e.thread.toNat c') (if e.kind = 1 then begun + 1 else begun) := by
  obtain ⟨i1, i2, i3⟩ := h
  have hth : ((e.thread.toNat : Nat) : Int) = e.thread := Int.toNat_of_nonneg h0
  have hcm := i1 c (List.mem_of_getElem? hc)
  have own := TI_own hcm hs (i2 _ _ hc) h2 h3
  have ho : triesL ((e.thread.toNat : Nat) : Int) (l ++ [e]) = if e.kind = 1 then bumpL (triesL ((e.thread.toNat : Nat) : Int) l) e.tx.toNat else triesL ((e.thread.toNat : Nat) : Int) l := by
    rw [triesL_snoc]
    unfold triesF
    by_cases hk : e.kind = 1
    · rw [if_pos ⟨hk, hth.symm, h2, by omega⟩, if_pos hk]
    · rw [if_neg (fun q => hk q.1), if_neg hk]
  have hn : ∀ j : Nat, j ≠ e.thread.toNat → triesL (j : Int) (l ++ [e]) = triesL (j : Int) l := by
    intro j hj
    rw [triesL_snoc]
    unfold triesF
    rw [if_neg (fun q => hj (by omega))]
  refine ⟨fun t ht => ?_, fun n t hn' => ?_, ?_⟩
  · rcases List.mem_or_eq_of_mem_set ht with ht | ht
    · exact i1 t ht
    · subst ht; exact hc'
  · by_cases q : n = e.thread.toNat
    · subst q
      have hlt := (List.getElem?_eq_some_iff.1 hc).1
      rw [List.getElem?_set_self hlt] at hn'
      injection hn' with hn'; subst hn'
      rw [ho]; exact own.1
    · rw [List.getElem?_set_ne (fun e => q e.symm)] at hn'
      rw [hn n q]; exact i2 n t hn'
  · have hlt : e.thread.toNat < nT := by omega
    have := sum_one (f := fun n : Nat => (triesL (n : Int) l).sum) (g := fun n : Nat => (triesL (n : Int) (l ++ [e])).sum) (d := if e.kind = 1 then 1 else 0) hlt (by show (triesL _ (l ++ [e])).sum = _; rw [ho]; exact own.2) (fun j hj => by show (triesL _ (l ++ [e])).sum = _; rw [hn j hj])
    unfold total
    rw [this, i3]
    unfold total
    by_cases hk : e.kind = 1
    · rw [if_pos hk, if_pos hk]
    · rw [if_neg hk, if_neg hk]; omega
end AcT
