/- Plain: what an event is, which may be, its text. -/
import Derived.Test.YtadcegpdegpnmaaGreatDoorRnOpenD
namespace DtP
open Go Go.Rn
structure Ev where
  kind : Int
  thread : Int
  tx : Int
  at_ : Int
  v : Int
  x : Int
  why : Int
def EvOk (e : Ev) : Prop := (0 ≤ e.kind ∧ e.kind ≤ 255) ∧ i64In e.thread ∧ i64In e.tx ∧ i64In e.at_ ∧ i64In e.v ∧ i64In e.x ∧ (0 ≤ e.why ∧ e.why ≤ 255)
instance (e : Ev) : Decidable (EvOk e) := by unfold EvOk; infer_instance
def MayE (e : Ev) : Prop := 1 ≤ e.kind ∧ e.kind ≤ 13 ∧ (e.kind ≠ 10 ∨ (1 ≤ e.why ∧ e.why ≤ 6)) ∧ 0 ≤ e.thread ∧ e.thread ≤ 5 ∧ 0 ≤ e.tx ∧ e.tx ≤ 5 ∧ 0 ≤ e.v ∧ e.v ≤ 1099511627776 ∧ (e.kind ≠ 5 ∨ 1 ≤ e.v) ∧ 0 ≤ e.at_ ∧ e.at_ ≤ 31 ∧ (e.kind ≠ 10 ∨ e.why ≠ 6 ∨ e.at_ ≤ 0) ∧
  (e.kind = 1 ∨ e.tx = 0) ∧ ((e.kind ≠ 1 ∧ e.kind ≠ 5 ∧ e.kind ≠ 7 ∧ e.kind ≠ 12 ∧ e.kind ≠ 13) ∨ e.at_ = 0) ∧ (e.kind = 1 ∨ e.kind = 2 ∨ e.kind = 5 ∨ e.kind = 7 ∨ e.v = 0) ∧ (e.kind = 3 ∨ e.kind = 8 ∨ e.x = 0) ∧ (e.kind = 10 ∨ e.why = 0)
instance (e : Ev) : Decidable (MayE e) := by unfold MayE; infer_instance
noncomputable section
def text1 (e : Ev) : ByteArray := (((((((itoaB e.thread) ++ (⟨#[32]⟩ : ByteArray)) ++ (⟨#[98, 101, 103, 105, 110]⟩ : ByteArray)) ++ (⟨#[32]⟩ : ByteArray)) ++ (itoaB e.tx)) ++ (⟨#[32]⟩ : ByteArray)) ++ (itoaB e.v))
def text2 (e : Ev) : ByteArray := (((((((itoaB e.thread) ++ (⟨#[32]⟩ : ByteArray)) ++ (⟨#[108, 111, 111, 107]⟩ : ByteArray)) ++ (⟨#[32]⟩ : ByteArray)) ++ (itoaB e.at_)) ++ (⟨#[32]⟩ : ByteArray)) ++ (itoaB e.v))
def text3 (e : Ev) : ByteArray := (((((((itoaB e.thread) ++ (⟨#[32]⟩ : ByteArray)) ++ (⟨#[108, 111, 97, 100]⟩ : ByteArray)) ++ (⟨#[32]⟩ : ByteArray)) ++ (itoaB e.at_)) ++ (⟨#[32]⟩ : ByteArray)) ++ (itoaB e.x))
def text4 (e : Ev) : ByteArray := (((((itoaB e.thread) ++ (⟨#[32]⟩ : ByteArray)) ++ (⟨#[108, 111, 99, 107]⟩ : ByteArray)) ++ (⟨#[32]⟩ : ByteArray)) ++ (itoaB e.at_))
def text5 (e : Ev) : ByteArray := (((((itoaB e.thread) ++ (⟨#[32]⟩ : ByteArray)) ++ (⟨#[98, 117, 109, 112]⟩ : ByteArray)) ++ (⟨#[32]⟩ : ByteArray)) ++ (itoaB e.v))
def text6 (e : Ev) : ByteArray := (((((itoaB e.thread) ++ (⟨#[32]⟩ : ByteArray)) ++ (⟨#[99, 104, 101, 99, 107]⟩ : ByteArray)) ++ (⟨#[32]⟩ : ByteArray)) ++ (itoaB e.at_))
def text7 (e : Ev) : ByteArray := (((((itoaB e.thread) ++ (⟨#[32]⟩ : ByteArray)) ++ (⟨#[99, 111, 109, 109, 105, 116]⟩ : ByteArray)) ++ (⟨#[32]⟩ : ByteArray)) ++ (itoaB e.v))
def text8 (e : Ev) : ByteArray := (((((((itoaB e.thread) ++ (⟨#[32]⟩ : ByteArray)) ++ (⟨#[115, 116, 111, 114, 101]⟩ : ByteArray)) ++ (⟨#[32]⟩ : ByteArray)) ++ (itoaB e.at_)) ++ (⟨#[32]⟩ : ByteArray)) ++ (itoaB e.x))
def text9 (e : Ev) : ByteArray := (((((itoaB e.thread) ++ (⟨#[32]⟩ : ByteArray)) ++ (⟨#[102, 114, 101, 101]⟩ : ByteArray)) ++ (⟨#[32]⟩ : ByteArray)) ++ (itoaB e.at_))
def text10 (e : Ev) : ByteArray := (((((((itoaB e.thread) ++ (⟨#[32]⟩ : ByteArray)) ++ (⟨#[97, 98, 111, 114, 116]⟩ : ByteArray)) ++ (⟨#[32]⟩ : ByteArray)) ++ (itoaB e.why)) ++ (⟨#[32]⟩ : ByteArray)) ++ (itoaB e.at_))
def text11 (e : Ev) : ByteArray := (((((itoaB e.thread) ++ (⟨#[32]⟩ : ByteArray)) ++ (⟨#[117, 110, 100, 111]⟩ : ByteArray)) ++ (⟨#[32]⟩ : ByteArray)) ++ (itoaB e.at_))
def text12 (e : Ev) : ByteArray := (((itoaB e.thread) ++ (⟨#[32]⟩ : ByteArray)) ++ (⟨#[119, 97, 105, 116]⟩ : ByteArray))
def text13 (e : Ev) : ByteArray := (((itoaB e.thread) ++ (⟨#[32]⟩ : ByteArray)) ++ (⟨#[119, 97, 107, 101]⟩ : ByteArray))
/-- An event's text, if it may be. -/
def textE (e : Ev) : ByteArray := if e.kind = 1 then text1 e else if e.kind = 2 then text2 e else if e.kind = 3 then text3 e else if e.kind = 4 then text4 e else if e.kind = 5 then text5 e else if e.kind = 6 then text6 e else if e.kind = 7 then text7 e else if e.kind = 8 then text8 e else if e.kind = 9 then text9 e else if e.kind = 10 then text10 e else if e.kind = 11 then text11 e else if e.kind = 12 then text12 e else if e.kind = 13 then text13 e else ⟨#[]⟩
def shT (e : Ev) : ByteArray := if MayE e then textE e else ⟨#[]⟩
def shE (e : Ev) : Int := if MayE e then 0 else 4
end
theorem textE_1 {th tx at_ v x why : Int} : textE ⟨.ofNat 1, th, tx, at_, v, x, why⟩ = text1 ⟨.ofNat 1, th, tx, at_, v, x, why⟩ := rfl
theorem textE_2 {th tx at_ v x why : Int} : textE ⟨.ofNat 2, th, tx, at_, v, x, why⟩ = text2 ⟨.ofNat 2, th, tx, at_, v, x, why⟩ := rfl
theorem textE_3 {th tx at_ v x why : Int} : textE ⟨.ofNat 3, th, tx, at_, v, x, why⟩ = text3 ⟨.ofNat 3, th, tx, at_, v, x, why⟩ := rfl
theorem textE_4 {th tx at_ v x why : Int} : textE ⟨.ofNat 4, th, tx, at_, v, x, why⟩ = text4 ⟨.ofNat 4, th, tx, at_, v, x, why⟩ := rfl
theorem textE_5 {th tx at_ v x why : Int} : textE ⟨.ofNat 5, th, tx, at_, v, x, why⟩ = text5 ⟨.ofNat 5, th, tx, at_, v, x, why⟩ := rfl
theorem textE_6 {th tx at_ v x why : Int} : textE ⟨.ofNat 6, th, tx, at_, v, x, why⟩ = text6 ⟨.ofNat 6, th, tx, at_, v, x, why⟩ := rfl
theorem textE_7 {th tx at_ v x why : Int} : textE ⟨.ofNat 7, th, tx, at_, v, x, why⟩ = text7 ⟨.ofNat 7, th, tx, at_, v, x, why⟩ := rfl
theorem textE_8 {th tx at_ v x why : Int} : textE ⟨.ofNat 8, th, tx, at_, v, x, why⟩ = text8 ⟨.ofNat 8, th, tx, at_, v, x, why⟩ := rfl
theorem textE_9 {th tx at_ v x why : Int} : textE ⟨.ofNat 9, th, tx, at_, v, x, why⟩ = text9 ⟨.ofNat 9, th, tx, at_, v, x, why⟩ := rfl
theorem textE_10 {th tx at_ v x why : Int} : textE ⟨.ofNat 10, th, tx, at_, v, x, why⟩ = text10 ⟨.ofNat 10, th, tx, at_, v, x, why⟩ := rfl
theorem textE_11 {th tx at_ v x why : Int} : textE ⟨.ofNat 11, th, tx, at_, v, x, why⟩ = text11 ⟨.ofNat 11, th, tx, at_, v, x, why⟩ := rfl
theorem textE_12 {th tx at_ v x why : Int} : textE ⟨.ofNat 12, th, tx, at_, v, x, why⟩ = text12 ⟨.ofNat 12, th, tx, at_, v, x, why⟩ := rfl
theorem textE_13 {th tx at_ v x why : Int} : textE ⟨.ofNat 13, th, tx, at_, v, x, why⟩ = text13 ⟨.ofNat 13, th, tx, at_, v, x, why⟩ := rfl
theorem shT_yes {e : Ev} (h : MayE e) : shT e = textE e := by unfold shT; rw [if_pos h]
theorem shT_no {e : Ev} (h : ¬ MayE e) : shT e = ⟨#[]⟩ := by unfold shT; rw [if_neg h]
theorem shE_yes {e : Ev} (h : MayE e) : shE e = 0 := by unfold shE; rw [if_pos h]
theorem shE_no {e : Ev} (h : ¬ MayE e) : shE e = 4 := by unfold shE; rw [if_neg h]
theorem small_i64 {n : Int} (h0 : 0 ≤ n) (h1 : n ≤ 1099511627776) : i64In n := by unfold i64In; omega
theorem lit_le (l : List UInt8) : (⟨l.toArray⟩ : ByteArray).size ≤ l.length := by rw [lit_size]; exact Nat.le_refl _
theorem textE_size {e : Ev} (ho : EvOk e) (h : MayE e) : (textE e).size ≤ 200 := by
  have hs : ∀ n, i64In n → (itoaB n).size ≤ 20 := fun n h => itoaB_size h
  obtain ⟨_, o1, o2, o3, o4, o5, o6⟩ := ho
  have w : i64In e.why := by unfold i64In; omega
  unfold textE
  by_cases q1 : e.kind = 1
  · rw [if_pos q1]; exact Nat.le_trans (cat_size (cat_size (cat_size (cat_size (cat_size (cat_size (hs _ o1) (lit_le [32])) (lit_le [98, 101, 103, 105, 110])) (lit_le [32])) (hs _ o2)) (lit_le [32])) (hs _ o4)) (by decide)
  rw [if_neg q1]
  by_cases q2 : e.kind = 2
  · rw [if_pos q2]; exact Nat.le_trans (cat_size (cat_size (cat_size (cat_size (cat_size (cat_size (hs _ o1) (lit_le [32])) (lit_le [108, 111, 111, 107])) (lit_le [32])) (hs _ o3)) (lit_le [32])) (hs _ o4)) (by decide)
  rw [if_neg q2]
  by_cases q3 : e.kind = 3
  · rw [if_pos q3]; exact Nat.le_trans (cat_size (cat_size (cat_size (cat_size (cat_size (cat_size (hs _ o1) (lit_le [32])) (lit_le [108, 111, 97, 100])) (lit_le [32])) (hs _ o3)) (lit_le [32])) (hs _ o5)) (by decide)
  rw [if_neg q3]
  by_cases q4 : e.kind = 4
  · rw [if_pos q4]; exact Nat.le_trans (cat_size (cat_size (cat_size (cat_size (hs _ o1) (lit_le [32])) (lit_le [108, 111, 99, 107])) (lit_le [32])) (hs _ o3)) (by decide)
  rw [if_neg q4]
  by_cases q5 : e.kind = 5
  · rw [if_pos q5]; exact Nat.le_trans (cat_size (cat_size (cat_size (cat_size (hs _ o1) (lit_le [32])) (lit_le [98, 117, 109, 112])) (lit_le [32])) (hs _ o4)) (by decide)
  rw [if_neg q5]
  by_cases q6 : e.kind = 6
  · rw [if_pos q6]; exact Nat.le_trans (cat_size (cat_size (cat_size (cat_size (hs _ o1) (lit_le [32])) (lit_le [99, 104, 101, 99, 107])) (lit_le [32])) (hs _ o3)) (by decide)
  rw [if_neg q6]
  by_cases q7 : e.kind = 7
  · rw [if_pos q7]; exact Nat.le_trans (cat_size (cat_size (cat_size (cat_size (hs _ o1) (lit_le [32])) (lit_le [99, 111, 109, 109, 105, 116])) (lit_le [32])) (hs _ o4)) (by decide)
  rw [if_neg q7]
  by_cases q8 : e.kind = 8
  · rw [if_pos q8]; exact Nat.le_trans (cat_size (cat_size (cat_size (cat_size (cat_size (cat_size (hs _ o1) (lit_le [32])) (lit_le [115, 116, 111, 114, 101])) (lit_le [32])) (hs _ o3)) (lit_le [32])) (hs _ o5)) (by decide)
  rw [if_neg q8]
  by_cases q9 : e.kind = 9
  · rw [if_pos q9]; exact Nat.le_trans (cat_size (cat_size (cat_size (cat_size (hs _ o1) (lit_le [32])) (lit_le [102, 114, 101, 101])) (lit_le [32])) (hs _ o3)) (by decide)
  rw [if_neg q9]
  by_cases q10 : e.kind = 10
  · rw [if_pos q10]; exact Nat.le_trans (cat_size (cat_size (cat_size (cat_size (cat_size (cat_size (hs _ o1) (lit_le [32])) (lit_le [97, 98, 111, 114, 116])) (lit_le [32])) (hs _ w)) (lit_le [32])) (hs _ o3)) (by decide)
  rw [if_neg q10]
  by_cases q11 : e.kind = 11
  · rw [if_pos q11]; exact Nat.le_trans (cat_size (cat_size (cat_size (cat_size (hs _ o1) (lit_le [32])) (lit_le [117, 110, 100, 111])) (lit_le [32])) (hs _ o3)) (by decide)
  rw [if_neg q11]
  by_cases q12 : e.kind = 12
  · rw [if_pos q12]; exact Nat.le_trans (cat_size (cat_size (hs _ o1) (lit_le [32])) (lit_le [119, 97, 105, 116])) (by decide)
  rw [if_neg q12]
  by_cases q13 : e.kind = 13
  · rw [if_pos q13]; exact Nat.le_trans (cat_size (cat_size (hs _ o1) (lit_le [32])) (lit_le [119, 97, 107, 101])) (by decide)
  rw [if_neg q13]
  exact Nat.zero_le _
theorem shT_size {e : Ev} (ho : EvOk e) : (shT e).size ≤ 200 := by
  by_cases h : MayE e
  · rw [shT_yes h]; exact textE_size ho h
  · rw [shT_no h]; exact Nat.zero_le _
end DtP
