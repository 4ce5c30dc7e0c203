/- event.bare, kind by kind, reckoned by the kernel. -/
import Derived.Test.YtadcegpdegpnmaaGreatDoorDtS
import Derived.Test.YtadcegpdegpnmaaGreatDoorRnOpenC
open Go Go.Rn Go.RowKit Go.Proofs
set_option maxRecDepth 100000
namespace DtB
open DtP DtS Go.Proofs.YtadcegpdegpnmaaGreatDoor.divergeTexts
set_option maxHeartbeats 4000000 in
theorem bare1 (a b c d x y : Int) : valOf (arun Tryz.prog (fun _ => 0) 8 (.fn 39) [.agg [.int .u8 (.ofNat 1), .int .i64 a, .int .i64 b, .int .i64 c, .int .i64 d, .int .i64 x, .int .u8 y]] ⟨heap1, nx0, 0, [], []⟩) = some (.agg [.int .u8 (.ofNat 1), .int .i64 a, .int .i64 b, .int .i64 (.ofNat 0), .int .i64 d, .int .i64 (.ofNat 0), .int .u8 (.ofNat 0)]) := by kernel_rfl
set_option maxHeartbeats 4000000 in
theorem bare2 (a b c d x y : Int) : valOf (arun Tryz.prog (fun _ => 0) 8 (.fn 39) [.agg [.int .u8 (.ofNat 2), .int .i64 a, .int .i64 b, .int .i64 c, .int .i64 d, .int .i64 x, .int .u8 y]] ⟨heap1, nx0, 0, [], []⟩) = some (.agg [.int .u8 (.ofNat 2), .int .i64 a, .int .i64 (.ofNat 0), .int .i64 c, .int .i64 d, .int .i64 (.ofNat 0), .int .u8 (.ofNat 0)]) := by kernel_rfl
set_option maxHeartbeats 4000000 in
theorem bare3 (a b c d x y : Int) : valOf (arun Tryz.prog (fun _ => 0) 8 (.fn 39) [.agg [.int .u8 (.ofNat 3), .int .i64 a, .int .i64 b, .int .i64 c, .int .i64 d, .int .i64 x, .int .u8 y]] ⟨heap1, nx0, 0, [], []⟩) = some (.agg [.int .u8 (.ofNat 3), .int .i64 a, .int .i64 (.ofNat 0), .int .i64 c, .int .i64 (.ofNat 0), .int .i64 x, .int .u8 (.ofNat 0)]) := by kernel_rfl
set_option maxHeartbeats 4000000 in
theorem bare4 (a b c d x y : Int) : valOf (arun Tryz.prog (fun _ => 0) 8 (.fn 39) [.agg [.int .u8 (.ofNat 4), .int .i64 a, .int .i64 b, .int .i64 c, .int .i64 d, .int .i64 x, .int .u8 y]] ⟨heap1, nx0, 0, [], []⟩) = some (.agg [.int .u8 (.ofNat 4), .int .i64 a, .int .i64 (.ofNat 0), .int .i64 c, .int .i64 (.ofNat 0), .int .i64 (.ofNat 0), .int .u8 (.ofNat 0)]) := by kernel_rfl
set_option maxHeartbeats 4000000 in
theorem bare5 (a b c d x y : Int) : valOf (arun Tryz.prog (fun _ => 0) 8 (.fn 39) [.agg [.int .u8 (.ofNat 5), .int .i64 a, .int .i64 b, .int .i64 c, .int .i64 d, .int .i64 x, .int .u8 y]] ⟨heap1, nx0, 0, [], []⟩) = some (.agg [.int .u8 (.ofNat 5), .int .i64 a, .int .i64 (.ofNat 0), .int .i64 (.ofNat 0), .int .i64 d, .int .i64 (.ofNat 0), .int .u8 (.ofNat 0)]) := by kernel_rfl
set_option maxHeartbeats 4000000 in
theorem bare6 (a b c d x y : Int) : valOf (arun Tryz.prog (fun _ => 0) 8 (.fn 39) [.agg [.int .u8 (.ofNat 6), .int .i64 a, .int .i64 b, .int .i64 c, .int .i64 d, .int .i64 x, .int .u8 y]] ⟨heap1, nx0, 0, [], []⟩) = some (.agg [.int .u8 (.ofNat 6), .int .i64 a, .int .i64 (.ofNat 0), .int .i64 c, .int .i64 (.ofNat 0), .int .i64 (.ofNat 0), .int .u8 (.ofNat 0)]) := by kernel_rfl
set_option maxHeartbeats 4000000 in
theorem bare7 (a b c d x y : Int) : valOf (arun Tryz.prog (fun _ => 0) 8 (.fn 39) [.agg [.int .u8 (.ofNat 7), .int .i64 a, .int .i64 b, .int .i64 c, .int .i64 d, .int .i64 x, .int .u8 y]] ⟨heap1, nx0, 0, [], []⟩) = some (.agg [.int .u8 (.ofNat 7), .int .i64 a, .int .i64 (.ofNat 0), .int .i64 (.ofNat 0), .int .i64 d, .int .i64 (.ofNat 0), .int .u8 (.ofNat 0)]) := by kernel_rfl
set_option maxHeartbeats 4000000 in
theorem bare8 (a b c d x y : Int) : valOf (arun Tryz.prog (fun _ => 0) 8 (.fn 39) [.agg [.int .u8 (.ofNat 8), .int .i64 a, .int .i64 b, .int .i64 c, .int .i64 d, .int .i64 x, .int .u8 y]] ⟨heap1, nx0, 0, [], []⟩) = some (.agg [.int .u8 (.ofNat 8), .int .i64 a, .int .i64 (.ofNat 0), .int .i64 c, .int .i64 (.ofNat 0), .int .i64 x, .int .u8 (.ofNat 0)]) := by kernel_rfl
set_option maxHeartbeats 4000000 in
theorem bare9 (a b c d x y : Int) : valOf (arun Tryz.prog (fun _ => 0) 8 (.fn 39) [.agg [.int .u8 (.ofNat 9), .int .i64 a, .int .i64 b, .int .i64 c, .int .i64 d, .int .i64 x, .int .u8 y]] ⟨heap1, nx0, 0, [], []⟩) = some (.agg [.int .u8 (.ofNat 9), .int .i64 a, .int .i64 (.ofNat 0), .int .i64 c, .int .i64 (.ofNat 0), .int .i64 (.ofNat 0), .int .u8 (.ofNat 0)]) := by kernel_rfl
set_option maxHeartbeats 4000000 in
theorem bare10 (a b c d x y : Int) : valOf (arun Tryz.prog (fun _ => 0) 8 (.fn 39) [.agg [.int .u8 (.ofNat 10), .int .i64 a, .int .i64 b, .int .i64 c, .int .i64 d, .int .i64 x, .int .u8 y]] ⟨heap1, nx0, 0, [], []⟩) = some (.agg [.int .u8 (.ofNat 10), .int .i64 a, .int .i64 (.ofNat 0), .int .i64 c, .int .i64 (.ofNat 0), .int .i64 (.ofNat 0), .int .u8 (IntKind.wrap .u8 (IntKind.wrap .i64 y))]) := by kernel_rfl
set_option maxHeartbeats 4000000 in
theorem bare11 (a b c d x y : Int) : valOf (arun Tryz.prog (fun _ => 0) 8 (.fn 39) [.agg [.int .u8 (.ofNat 11), .int .i64 a, .int .i64 b, .int .i64 c, .int .i64 d, .int .i64 x, .int .u8 y]] ⟨heap1, nx0, 0, [], []⟩) = some (.agg [.int .u8 (.ofNat 11), .int .i64 a, .int .i64 (.ofNat 0), .int .i64 c, .int .i64 (.ofNat 0), .int .i64 (.ofNat 0), .int .u8 (.ofNat 0)]) := by kernel_rfl
set_option maxHeartbeats 4000000 in
theorem bare12 (a b c d x y : Int) : valOf (arun Tryz.prog (fun _ => 0) 8 (.fn 39) [.agg [.int .u8 (.ofNat 12), .int .i64 a, .int .i64 b, .int .i64 c, .int .i64 d, .int .i64 x, .int .u8 y]] ⟨heap1, nx0, 0, [], []⟩) = some (.agg [.int .u8 (.ofNat 12), .int .i64 a, .int .i64 (.ofNat 0), .int .i64 (.ofNat 0), .int .i64 (.ofNat 0), .int .i64 (.ofNat 0), .int .u8 (.ofNat 0)]) := by kernel_rfl
set_option maxHeartbeats 4000000 in
theorem bare13 (a b c d x y : Int) : valOf (arun Tryz.prog (fun _ => 0) 8 (.fn 39) [.agg [.int .u8 (.ofNat 13), .int .i64 a, .int .i64 b, .int .i64 c, .int .i64 d, .int .i64 x, .int .u8 y]] ⟨heap1, nx0, 0, [], []⟩) = some (.agg [.int .u8 (.ofNat 13), .int .i64 a, .int .i64 (.ofNat 0), .int .i64 (.ofNat 0), .int .i64 (.ofNat 0), .int .i64 (.ofNat 0), .int .u8 (.ofNat 0)]) := by kernel_rfl
theorem ev_plain {k a b c d x y : Int} (ρ σ : Ren) (v : Value) (h : VR ρ (.agg [.int .u8 k, .int .i64 a, .int .i64 b, .int .i64 c, .int .i64 d, .int .i64 x, .int .u8 y]) v) : VR σ (.agg [.int .u8 k, .int .i64 a, .int .i64 b, .int .i64 c, .int .i64 d, .int .i64 x, .int .u8 y]) v := by simpa only [VR, VRs] using h
theorem ev_plains {k a b c d x y : Int} (ρ σ : Ren) (vs : List Value) (h : VRs ρ [.agg [.int .u8 k, .int .i64 a, .int .i64 b, .int .i64 c, .int .i64 d, .int .i64 x, .int .u8 y]] vs) : VRs σ [.agg [.int .u8 k, .int .i64 a, .int .i64 b, .int .i64 c, .int .i64 d, .int .i64 x, .int .u8 y]] vs := by simpa only [VR, VRs] using h
set_option maxHeartbeats 4000000 in
theorem bare_val (args : List AV) (v : AV) (h : bareL args = some v) : (∀ (ρ σ : Ren) vs, VRs ρ args vs → VRs σ args vs) ∧ (∀ (ρ σ : Ren) x, VR ρ v x → VR σ v x) ∧ valOf (arun Tryz.prog (fun _ => 0) 8 (.fn 39) args ⟨heap1, nx0, 0, [], []⟩) = some v := by
  unfold bareL at h
  split at h
  · rename_i k a b c d x y
    by_cases hy : 0 ≤ y ∧ y ≤ 255
    · rw [if_pos hy] at h
      refine ⟨ev_plains, ?_⟩
      unfold bareE at h
      by_cases h1 : k = .ofNat 1
      · subst h1; rw [if_pos rfl] at h; injection h with h; subst h; exact ⟨ev_plain, (bare1 a b c d x y)⟩
      by_cases h2 : k = .ofNat 2
      · subst h2; rw [if_neg (show ¬ (Int.ofNat 2 = Int.ofNat 1) by decide), if_pos rfl] at h; injection h with h; subst h; exact ⟨ev_plain, (bare2 a b c d x y)⟩
      by_cases h3 : k = .ofNat 3
      · subst h3; rw [if_neg (show ¬ (Int.ofNat 3 = Int.ofNat 1) by decide), if_neg (show ¬ (Int.ofNat 3 = Int.ofNat 2) by decide), if_pos rfl] at h; injection h with h; subst h; exact ⟨ev_plain, (bare3 a b c d x y)⟩
      by_cases h4 : k = .ofNat 4
      · subst h4; rw [if_neg (show ¬ (Int.ofNat 4 = Int.ofNat 1) by decide), if_neg (show ¬ (Int.ofNat 4 = Int.ofNat 2) by decide), if_neg (show ¬ (Int.ofNat 4 = Int.ofNat 3) by decide), if_pos rfl] at h; injection h with h; subst h; exact ⟨ev_plain, (bare4 a b c d x y)⟩
      by_cases h5 : k = .ofNat 5
      · subst h5; rw [if_neg (show ¬ (Int.ofNat 5 = Int.ofNat 1) by decide), if_neg (show ¬ (Int.ofNat 5 = Int.ofNat 2) by decide), if_neg (show ¬ (Int.ofNat 5 = Int.ofNat 3) by decide), if_neg (show ¬ (Int.ofNat 5 = Int.ofNat 4) by decide), if_pos rfl] at h; injection h with h; subst h; exact ⟨ev_plain, (bare5 a b c d x y)⟩
      by_cases h6 : k = .ofNat 6
      · subst h6; rw [if_neg (show ¬ (Int.ofNat 6 = Int.ofNat 1) by decide), if_neg (show ¬ (Int.ofNat 6 = Int.ofNat 2) by decide), if_neg (show ¬ (Int.ofNat 6 = Int.ofNat 3) by decide), if_neg (show ¬ (Int.ofNat 6 = Int.ofNat 4) by decide), if_neg (show ¬ (Int.ofNat 6 = Int.ofNat 5) by decide), if_pos rfl] at h; injection h with h; subst h; exact ⟨ev_plain, (bare6 a b c d x y)⟩
      by_cases h7 : k = .ofNat 7
      · subst h7; rw [if_neg (show ¬ (Int.ofNat 7 = Int.ofNat 1) by decide), if_neg (show ¬ (Int.ofNat 7 = Int.ofNat 2) by decide), if_neg (show ¬ (Int.ofNat 7 = Int.ofNat 3) by decide), if_neg (show ¬ (Int.ofNat 7 = Int.ofNat 4) by decide), if_neg (show ¬ (Int.ofNat 7 = Int.ofNat 5) by decide), if_neg (show ¬ (Int.ofNat 7 = Int.ofNat 6) by decide), if_pos rfl] at h; injection h with h; subst h; exact ⟨ev_plain, (bare7 a b c d x y)⟩
      by_cases h8 : k = .ofNat 8
      · subst h8; rw [if_neg (show ¬ (Int.ofNat 8 = Int.ofNat 1) by decide), if_neg (show ¬ (Int.ofNat 8 = Int.ofNat 2) by decide), if_neg (show ¬ (Int.ofNat 8 = Int.ofNat 3) by decide), if_neg (show ¬ (Int.ofNat 8 = Int.ofNat 4) by decide), if_neg (show ¬ (Int.ofNat 8 = Int.ofNat 5) by decide), if_neg (show ¬ (Int.ofNat 8 = Int.ofNat 6) by decide), if_neg (show ¬ (Int.ofNat 8 = Int.ofNat 7) by decide), if_pos rfl] at h; injection h with h; subst h; exact ⟨ev_plain, (bare8 a b c d x y)⟩
      by_cases h9 : k = .ofNat 9
      · subst h9; rw [if_neg (show ¬ (Int.ofNat 9 = Int.ofNat 1) by decide), if_neg (show ¬ (Int.ofNat 9 = Int.ofNat 2) by decide), if_neg (show ¬ (Int.ofNat 9 = Int.ofNat 3) by decide), if_neg (show ¬ (Int.ofNat 9 = Int.ofNat 4) by decide), if_neg (show ¬ (Int.ofNat 9 = Int.ofNat 5) by decide), if_neg (show ¬ (Int.ofNat 9 = Int.ofNat 6) by decide), if_neg (show ¬ (Int.ofNat 9 = Int.ofNat 7) by decide), if_neg (show ¬ (Int.ofNat 9 = Int.ofNat 8) by decide), if_pos rfl] at h; injection h with h; subst h; exact ⟨ev_plain, (bare9 a b c d x y)⟩
      by_cases h10 : k = .ofNat 10
      · subst h10; rw [if_neg (show ¬ (Int.ofNat 10 = Int.ofNat 1) by decide), if_neg (show ¬ (Int.ofNat 10 = Int.ofNat 2) by decide), if_neg (show ¬ (Int.ofNat 10 = Int.ofNat 3) by decide), if_neg (show ¬ (Int.ofNat 10 = Int.ofNat 4) by decide), if_neg (show ¬ (Int.ofNat 10 = Int.ofNat 5) by decide), if_neg (show ¬ (Int.ofNat 10 = Int.ofNat 6) by decide), if_neg (show ¬ (Int.ofNat 10 = Int.ofNat 7) by decide), if_neg (show ¬ (Int.ofNat 10 = Int.ofNat 8) by decide), if_neg (show ¬ (Int.ofNat 10 = Int.ofNat 9) by decide), if_pos rfl] at h; injection h with h; subst h; exact ⟨ev_plain, (by rw [bare10, wrap_u8_i64 hy, wrap_u8_in hy])⟩
      by_cases h11 : k = .ofNat 11
      · subst h11; rw [if_neg (show ¬ (Int.ofNat 11 = Int.ofNat 1) by decide), if_neg (show ¬ (Int.ofNat 11 = Int.ofNat 2) by decide), if_neg (show ¬ (Int.ofNat 11 = Int.ofNat 3) by decide), if_neg (show ¬ (Int.ofNat 11 = Int.ofNat 4) by decide), if_neg (show ¬ (Int.ofNat 11 = Int.ofNat 5) by decide), if_neg (show ¬ (Int.ofNat 11 = Int.ofNat 6) by decide), if_neg (show ¬ (Int.ofNat 11 = Int.ofNat 7) by decide), if_neg (show ¬ (Int.ofNat 11 = Int.ofNat 8) by decide), if_neg (show ¬ (Int.ofNat 11 = Int.ofNat 9) by decide), if_neg (show ¬ (Int.ofNat 11 = Int.ofNat 10) by decide), if_pos rfl] at h; injection h with h; subst h; exact ⟨ev_plain, (bare11 a b c d x y)⟩
      by_cases h12 : k = .ofNat 12
      · subst h12; rw [if_neg (show ¬ (Int.ofNat 12 = Int.ofNat 1) by decide), if_neg (show ¬ (Int.ofNat 12 = Int.ofNat 2) by decide), if_neg (show ¬ (Int.ofNat 12 = Int.ofNat 3) by decide), if_neg (show ¬ (Int.ofNat 12 = Int.ofNat 4) by decide), if_neg (show ¬ (Int.ofNat 12 = Int.ofNat 5) by decide), if_neg (show ¬ (Int.ofNat 12 = Int.ofNat 6) by decide), if_neg (show ¬ (Int.ofNat 12 = Int.ofNat 7) by decide), if_neg (show ¬ (Int.ofNat 12 = Int.ofNat 8) by decide), if_neg (show ¬ (Int.ofNat 12 = Int.ofNat 9) by decide), if_neg (show ¬ (Int.ofNat 12 = Int.ofNat 10) by decide), if_neg (show ¬ (Int.ofNat 12 = Int.ofNat 11) by decide), if_pos rfl] at h; injection h with h; subst h; exact ⟨ev_plain, (bare12 a b c d x y)⟩
      by_cases h13 : k = .ofNat 13
      · subst h13; rw [if_neg (show ¬ (Int.ofNat 13 = Int.ofNat 1) by decide), if_neg (show ¬ (Int.ofNat 13 = Int.ofNat 2) by decide), if_neg (show ¬ (Int.ofNat 13 = Int.ofNat 3) by decide), if_neg (show ¬ (Int.ofNat 13 = Int.ofNat 4) by decide), if_neg (show ¬ (Int.ofNat 13 = Int.ofNat 5) by decide), if_neg (show ¬ (Int.ofNat 13 = Int.ofNat 6) by decide), if_neg (show ¬ (Int.ofNat 13 = Int.ofNat 7) by decide), if_neg (show ¬ (Int.ofNat 13 = Int.ofNat 8) by decide), if_neg (show ¬ (Int.ofNat 13 = Int.ofNat 9) by decide), if_neg (show ¬ (Int.ofNat 13 = Int.ofNat 10) by decide), if_neg (show ¬ (Int.ofNat 13 = Int.ofNat 11) by decide), if_neg (show ¬ (Int.ofNat 13 = Int.ofNat 12) by decide), if_pos rfl] at h; injection h with h; subst h; exact ⟨ev_plain, (bare13 a b c d x y)⟩
      rw [if_neg h1, if_neg h2, if_neg h3, if_neg h4, if_neg h5, if_neg h6, if_neg h7, if_neg h8, if_neg h9, if_neg h10, if_neg h11, if_neg h12, if_neg h13] at h; cases h
    · rw [if_neg hy] at h; cases h
  · cases h
end DtB
