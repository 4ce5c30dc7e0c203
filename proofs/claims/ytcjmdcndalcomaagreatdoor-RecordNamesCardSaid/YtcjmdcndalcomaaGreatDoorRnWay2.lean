/- maps.clone, as it is done under names. -/
import Derived.Test.YtcjmdcndalcomaaGreatDoorRnMach8
import GoSem.Extern.MapsClone
namespace Go.Rn
open Go.RowKit

theorem clone_sim {P : Program} {B : Nat} {ρ : Ren} {w : World} {s s1 : AS} {args : List AV} {vs : Array Value} {x : AV} (fi : Fine s) (r : Rel B ρ s.h w) (hf : Free s.nx s1.nx ρ) (hv : VRs ρ args vs.toList) (h : cloneMap args s = .ok x s1) :
    SimV P B ρ s s1 w x (Extern.MapsClone.clone vs) := by
  unfold cloneMap at h
  split at h
  · rename_i t m
    obtain ⟨vs⟩ := vs
    simp only [VRs, VR] at hv
    obtain ⟨v, l, rfl, ⟨y, rfl, b, N, hm, rfl⟩, rfl⟩ := hv
    obtain ⟨ob, s2, h1, h2⟩ := M.bind_inv h
    obtain ⟨hx, hg, hh, hnx⟩ := rdN_same h1
    have ht : m < top := Nat.lt_of_lt_of_le hx fi.nx
    obtain ⟨o', hb, hO, hB⟩ := r.block ht hg hm
    have fin : ∀ (ob' : AObj) (l : Array MapEntry) (clock : Nat), ob'.plain = true → w.heap[b]? = some (.map l clock) → (∀ σ N', ρ.le σ → OR σ N' ob' (.map l clock)) →
        ((newN ob').bind fun n => M.pure (.iface t (.map (some n)))) s2 = .ok x s1 → SimV P B ρ s s1 w x (Extern.MapsClone.clone ⟨[.iface t (.map (some b))]⟩) := by
      intro ob' l clock hp hb' hO' h3
      obtain ⟨n, s3, h4, h5⟩ := M.bind_inv h3
      obtain ⟨rfl, rfl⟩ := pure_inv h5
      obtain ⟨ht2, rfl, rfl⟩ := newN_inv h4
      have hnone : ρ s2.nx = none := hf s2.nx (by omega) (Nat.lt_succ_self _)
      refine ⟨updR ρ s2.nx (w.heap.size, 1), { w with heap := w.heap.push (.map l clock) }, .iface t (.map (some w.heap.size)), ?_, ?_, ?_, ?_, (Grew.alloc w _).below r.size⟩
      · rw [← hnx]; exact Ext.upd hnone
      · have e : Extern.MapsClone.clone ⟨[.iface t (.map (some b))]⟩ = (getObj b >>= fun o => match o with
            | .map entries clock => (newObj (.map entries clock) >>= fun n => pure (.iface t (.map (some n))))
            | _ => stuck "maps.clone: a map expected") := rfl
        rw [e]
        simp [MapKept.run_getObj_map hb', newObj, Sem.run]
      · simp only [VR]; exact ⟨_, rfl, _, _, updR_self _ _ _, rfl⟩
      · show Rel B _ (s2.h.put s2.nx (some ob')) _
        rw [hh]
        exact r.new ht2 hnone hp (hO' _ _ (updR_le hnone))
    cases ob with
    | map es clock =>
      obtain ⟨l, rfl, hc, he⟩ := hO
      exact fin (.map es clock) l clock rfl hb (fun σ N' hle => ⟨l, rfl, hc, he.mono hle⟩) h2
    | mapAny es =>
      obtain ⟨l, clock, rfl, ka, hbo, he⟩ := hO
      exact fin (.mapAny es) l clock rfl hb (fun σ N' hle => ⟨l, clock, rfl, ka, hbo, he.mono hle⟩) h2
    | _ => cases h2
  · cases h
end Go.Rn
