import Derived.Test.YtadcegpdegpnmaaGreatDoorDtV
open Go Go.Rn Go.RowKit Go.Proofs
set_option maxRecDepth 100000
namespace DtN
open DtP DtS DtV Go.Proofs.YtadcegpdegpnmaaGreatDoor.divergeTexts
set_option maxHeartbeats 8000000 in
theorem may_0 {B : Base} {F : Nat → Option (List AV)} (hc : CallSim Tryz.prog B (arunI Tryz.prog spB F 6)) (hl : ∀ t a, Local (arunI Tryz.prog spB F 6 t a)) {th tx at_ v x why : Int} (ho : EvOk (⟨0, th, tx, at_, v, x, why⟩ : Ev)) :
    Sim Tryz.prog B 270 (Fin Tryz.prog Tryz.f25.results.toList fun y _ => y = .bool (decide (MayE (⟨0, th, tx, at_, v, x, why⟩ : Ev)))) ⟨25, (trOf [(0, (.agg [(.int .u8 (.ofNat 0)), (.int .i64 (th)), (.int .i64 (tx)), (.int .i64 (at_)), (.int .i64 (v)), (.int .i64 (x)), (.int .u8 (why))])), (1, (.int .i64 (.ofNat 6))), (2, (.int .i64 (.ofNat 32))), (3, (.int .i64 (.ofNat 32)))]), 122, [.code (cAt Tryz.prog 25 [])], [], none⟩ (stOf (kn1) 270) := by
 have ho' := ho; simp only [EvOk, i64In] at ho'
 exact wp_sim (env_ok okB) rfl hmix hc hl 400 (.st 9 (.rg (.go 2 (.il (.rt 10 (.go 43 (.en (.rt 4 .no))))))))
  (mF 0 th tx at_ v x why (by omega))
set_option maxHeartbeats 8000000 in
theorem may_1 {B : Base} {F : Nat → Option (List AV)} (hc : CallSim Tryz.prog B (arunI Tryz.prog spB F 6)) (hl : ∀ t a, Local (arunI Tryz.prog spB F 6 t a)) {th tx at_ v x why : Int} (ho : EvOk (⟨1, th, tx, at_, v, x, why⟩ : Ev)) :
    Sim Tryz.prog B 270 (Fin Tryz.prog Tryz.f25.results.toList fun y _ => y = .bool (decide (MayE (⟨1, th, tx, at_, v, x, why⟩ : Ev)))) ⟨25, (trOf [(0, (.agg [(.int .u8 (.ofNat 1)), (.int .i64 (th)), (.int .i64 (tx)), (.int .i64 (at_)), (.int .i64 (v)), (.int .i64 (x)), (.int .u8 (why))])), (1, (.int .i64 (.ofNat 6))), (2, (.int .i64 (.ofNat 32))), (3, (.int .i64 (.ofNat 32)))]), 122, [.code (cAt Tryz.prog 25 [])], [], none⟩ (stOf (kn1) 270) := by
 have ho' := ho; simp only [EvOk, i64In] at ho'
 exact wp_sim (env_ok okB) rfl hmix hc hl 400 (.st 9 (.rg (.go 2 (.il (.rt 10 (.go 4 (.fk (.go 38 (.en (.rt 4 .no))) (.go 5 (.fk (.go 32 (.en (.rt 4 .no))) (.go 3 (.il (.rt 16 (.go 1 (.ef (.go 4 (.fk (.go 21 (.en (.rt 4 .no))) (.go 4 (.fk (.go 16 (.en (.rt 4 .no))) (.go 4 (.fk (.go 11 (.en (.rt 4 .no))) (.go 4 (.fk (.go 6 (.en (.rt 4 .no))) (.go 4 (.fk (.go 1 (.en (.rt 4 .no))) (.go 1 (.en (.st 21 (.rg (.go 3 (.fk (.go 1 (.en (.rt 1 .no))) (.go 1 (.en (.rt 1 .no))))))))))))))))))) (.go 26 (.en (.rt 4 .no)))))))))))))))))
  (tfk (th < 0) (fun h1 => (mF 1 th tx at_ v x why (by omega)))
  (fun h1 => (tfk (th ≥ 6) (fun h2 => (mF 1 th tx at_ v x why (by omega)))
  (fun h2 => (te7 1 1 th th tx tx 0 at_ v v 0 x 0 why (fun h3 => (tfk (tx < 0) (fun h4 => (mF 1 th tx at_ v x why (by omega)))
  (fun h4 => (tfk (tx ≥ 6) (fun h5 => (mF 1 th tx at_ v x why (by omega)))
  (fun h5 => (tfk (v < 0) (fun h6 => (mF 1 th tx at_ v x why (by omega)))
  (fun h6 => (tfk (v > 1099511627776) (fun h7 => (mF 1 th tx at_ v x why (by omega)))
  (fun h7 => (tfk (at_ < 0) (fun h8 => (mF 1 th tx at_ v x why (by omega)))
  (fun h8 => (tfk (at_ < 32) (fun h9 => (mT 1 th tx at_ v x why (by omega)))
  (fun h9 => (mF 1 th tx at_ v x why (by omega)))))))))))))))
  (fun h3 => (mF 1 th tx at_ v x why (by omega))))))))
set_option maxHeartbeats 8000000 in
theorem may_2 {B : Base} {F : Nat → Option (List AV)} (hc : CallSim Tryz.prog B (arunI Tryz.prog spB F 6)) (hl : ∀ t a, Local (arunI Tryz.prog spB F 6 t a)) {th tx at_ v x why : Int} (ho : EvOk (⟨2, th, tx, at_, v, x, why⟩ : Ev)) :
    Sim Tryz.prog B 270 (Fin Tryz.prog Tryz.f25.results.toList fun y _ => y = .bool (decide (MayE (⟨2, th, tx, at_, v, x, why⟩ : Ev)))) ⟨25, (trOf [(0, (.agg [(.int .u8 (.ofNat 2)), (.int .i64 (th)), (.int .i64 (tx)), (.int .i64 (at_)), (.int .i64 (v)), (.int .i64 (x)), (.int .u8 (why))])), (1, (.int .i64 (.ofNat 6))), (2, (.int .i64 (.ofNat 32))), (3, (.int .i64 (.ofNat 32)))]), 122, [.code (cAt Tryz.prog 25 [])], [], none⟩ (stOf (kn1) 270) := by
 have ho' := ho; simp only [EvOk, i64In] at ho'
 exact wp_sim (env_ok okB) rfl hmix hc hl 400 (.st 9 (.rg (.go 2 (.il (.rt 10 (.go 4 (.fk (.go 38 (.en (.rt 4 .no))) (.go 5 (.fk (.go 32 (.en (.rt 4 .no))) (.go 3 (.il (.rt 19 (.go 1 (.ef (.go 4 (.fk (.go 21 (.en (.rt 4 .no))) (.go 4 (.fk (.go 16 (.en (.rt 4 .no))) (.go 4 (.fk (.go 11 (.en (.rt 4 .no))) (.go 4 (.fk (.go 6 (.en (.rt 4 .no))) (.go 4 (.fk (.go 1 (.en (.rt 4 .no))) (.go 1 (.en (.st 21 (.rg (.go 3 (.fk (.go 1 (.en (.rt 1 .no))) (.go 1 (.en (.rt 1 .no))))))))))))))))))) (.go 26 (.en (.rt 4 .no)))))))))))))))))
  (tfk (th < 0) (fun h1 => (mF 2 th tx at_ v x why (by omega)))
  (fun h1 => (tfk (th ≥ 6) (fun h2 => (mF 2 th tx at_ v x why (by omega)))
  (fun h2 => (te7 2 2 th th 0 tx at_ at_ v v 0 x 0 why (fun h3 => (tfk (tx < 0) (fun h4 => (mF 2 th tx at_ v x why (by omega)))
  (fun h4 => (tfk (tx ≥ 6) (fun h5 => (mF 2 th tx at_ v x why (by omega)))
  (fun h5 => (tfk (v < 0) (fun h6 => (mF 2 th tx at_ v x why (by omega)))
  (fun h6 => (tfk (v > 1099511627776) (fun h7 => (mF 2 th tx at_ v x why (by omega)))
  (fun h7 => (tfk (at_ < 0) (fun h8 => (mF 2 th tx at_ v x why (by omega)))
  (fun h8 => (tfk (at_ < 32) (fun h9 => (mT 2 th tx at_ v x why (by omega)))
  (fun h9 => (mF 2 th tx at_ v x why (by omega)))))))))))))))
  (fun h3 => (mF 2 th tx at_ v x why (by omega))))))))
set_option maxHeartbeats 8000000 in
theorem may_3 {B : Base} {F : Nat → Option (List AV)} (hc : CallSim Tryz.prog B (arunI Tryz.prog spB F 6)) (hl : ∀ t a, Local (arunI Tryz.prog spB F 6 t a)) {th tx at_ v x why : Int} (ho : EvOk (⟨3, th, tx, at_, v, x, why⟩ : Ev)) :
    Sim Tryz.prog B 270 (Fin Tryz.prog Tryz.f25.results.toList fun y _ => y = .bool (decide (MayE (⟨3, th, tx, at_, v, x, why⟩ : Ev)))) ⟨25, (trOf [(0, (.agg [(.int .u8 (.ofNat 3)), (.int .i64 (th)), (.int .i64 (tx)), (.int .i64 (at_)), (.int .i64 (v)), (.int .i64 (x)), (.int .u8 (why))])), (1, (.int .i64 (.ofNat 6))), (2, (.int .i64 (.ofNat 32))), (3, (.int .i64 (.ofNat 32)))]), 122, [.code (cAt Tryz.prog 25 [])], [], none⟩ (stOf (kn1) 270) := by
 have ho' := ho; simp only [EvOk, i64In] at ho'
 exact wp_sim (env_ok okB) rfl hmix hc hl 400 (.st 9 (.rg (.go 2 (.il (.rt 10 (.go 4 (.fk (.go 38 (.en (.rt 4 .no))) (.go 5 (.fk (.go 32 (.en (.rt 4 .no))) (.go 3 (.il (.rt 25 (.go 1 (.ef (.go 4 (.fk (.go 21 (.en (.rt 4 .no))) (.go 4 (.fk (.go 16 (.en (.rt 4 .no))) (.go 4 (.fk (.go 11 (.en (.rt 4 .no))) (.go 4 (.fk (.go 6 (.en (.rt 4 .no))) (.go 4 (.fk (.go 1 (.en (.rt 4 .no))) (.go 1 (.en (.st 13 (.rg (.go 3 (.fk (.go 1 (.en (.rt 1 .no))) (.go 1 (.en (.rt 1 .no))))))))))))))))))) (.go 26 (.en (.rt 4 .no)))))))))))))))))
  (tfk (th < 0) (fun h1 => (mF 3 th tx at_ v x why (by omega)))
  (fun h1 => (tfk (th ≥ 6) (fun h2 => (mF 3 th tx at_ v x why (by omega)))
  (fun h2 => (te7 3 3 th th 0 tx at_ at_ 0 v x x 0 why (fun h3 => (tfk (tx < 0) (fun h4 => (mF 3 th tx at_ v x why (by omega)))
  (fun h4 => (tfk (tx ≥ 6) (fun h5 => (mF 3 th tx at_ v x why (by omega)))
  (fun h5 => (tfk (v < 0) (fun h6 => (mF 3 th tx at_ v x why (by omega)))
  (fun h6 => (tfk (v > 1099511627776) (fun h7 => (mF 3 th tx at_ v x why (by omega)))
  (fun h7 => (tfk (at_ < 0) (fun h8 => (mF 3 th tx at_ v x why (by omega)))
  (fun h8 => (tfk (at_ < 32) (fun h9 => (mT 3 th tx at_ v x why (by omega)))
  (fun h9 => (mF 3 th tx at_ v x why (by omega)))))))))))))))
  (fun h3 => (mF 3 th tx at_ v x why (by omega))))))))
set_option maxHeartbeats 8000000 in
theorem may_4 {B : Base} {F : Nat → Option (List AV)} (hc : CallSim Tryz.prog B (arunI Tryz.prog spB F 6)) (hl : ∀ t a, Local (arunI Tryz.prog spB F 6 t a)) {th tx at_ v x why : Int} (ho : EvOk (⟨4, th, tx, at_, v, x, why⟩ : Ev)) :
    Sim Tryz.prog B 270 (Fin Tryz.prog Tryz.f25.results.toList fun y _ => y = .bool (decide (MayE (⟨4, th, tx, at_, v, x, why⟩ : Ev)))) ⟨25, (trOf [(0, (.agg [(.int .u8 (.ofNat 4)), (.int .i64 (th)), (.int .i64 (tx)), (.int .i64 (at_)), (.int .i64 (v)), (.int .i64 (x)), (.int .u8 (why))])), (1, (.int .i64 (.ofNat 6))), (2, (.int .i64 (.ofNat 32))), (3, (.int .i64 (.ofNat 32)))]), 122, [.code (cAt Tryz.prog 25 [])], [], none⟩ (stOf (kn1) 270) := by
 have ho' := ho; simp only [EvOk, i64In] at ho'
 exact wp_sim (env_ok okB) rfl hmix hc hl 400 (.st 9 (.rg (.go 2 (.il (.rt 10 (.go 4 (.fk (.go 38 (.en (.rt 4 .no))) (.go 5 (.fk (.go 32 (.en (.rt 4 .no))) (.go 3 (.il (.rt 31 (.go 1 (.ef (.go 4 (.fk (.go 21 (.en (.rt 4 .no))) (.go 4 (.fk (.go 16 (.en (.rt 4 .no))) (.go 4 (.fk (.go 11 (.en (.rt 4 .no))) (.go 4 (.fk (.go 6 (.en (.rt 4 .no))) (.go 4 (.fk (.go 1 (.en (.rt 4 .no))) (.go 1 (.en (.st 21 (.rg (.go 3 (.fk (.go 1 (.en (.rt 1 .no))) (.go 1 (.en (.rt 1 .no))))))))))))))))))) (.go 26 (.en (.rt 4 .no)))))))))))))))))
  (tfk (th < 0) (fun h1 => (mF 4 th tx at_ v x why (by omega)))
  (fun h1 => (tfk (th ≥ 6) (fun h2 => (mF 4 th tx at_ v x why (by omega)))
  (fun h2 => (te7 4 4 th th 0 tx at_ at_ 0 v 0 x 0 why (fun h3 => (tfk (tx < 0) (fun h4 => (mF 4 th tx at_ v x why (by omega)))
  (fun h4 => (tfk (tx ≥ 6) (fun h5 => (mF 4 th tx at_ v x why (by omega)))
  (fun h5 => (tfk (v < 0) (fun h6 => (mF 4 th tx at_ v x why (by omega)))
  (fun h6 => (tfk (v > 1099511627776) (fun h7 => (mF 4 th tx at_ v x why (by omega)))
  (fun h7 => (tfk (at_ < 0) (fun h8 => (mF 4 th tx at_ v x why (by omega)))
  (fun h8 => (tfk (at_ < 32) (fun h9 => (mT 4 th tx at_ v x why (by omega)))
  (fun h9 => (mF 4 th tx at_ v x why (by omega)))))))))))))))
  (fun h3 => (mF 4 th tx at_ v x why (by omega))))))))
set_option maxHeartbeats 8000000 in
theorem may_5 {B : Base} {F : Nat → Option (List AV)} (hc : CallSim Tryz.prog B (arunI Tryz.prog spB F 6)) (hl : ∀ t a, Local (arunI Tryz.prog spB F 6 t a)) {th tx at_ v x why : Int} (ho : EvOk (⟨5, th, tx, at_, v, x, why⟩ : Ev)) :
    Sim Tryz.prog B 270 (Fin Tryz.prog Tryz.f25.results.toList fun y _ => y = .bool (decide (MayE (⟨5, th, tx, at_, v, x, why⟩ : Ev)))) ⟨25, (trOf [(0, (.agg [(.int .u8 (.ofNat 5)), (.int .i64 (th)), (.int .i64 (tx)), (.int .i64 (at_)), (.int .i64 (v)), (.int .i64 (x)), (.int .u8 (why))])), (1, (.int .i64 (.ofNat 6))), (2, (.int .i64 (.ofNat 32))), (3, (.int .i64 (.ofNat 32)))]), 122, [.code (cAt Tryz.prog 25 [])], [], none⟩ (stOf (kn1) 270) := by
 have ho' := ho; simp only [EvOk, i64In] at ho'
 exact wp_sim (env_ok okB) rfl hmix hc hl 400 (.st 9 (.rg (.go 2 (.il (.rt 10 (.go 4 (.fk (.go 38 (.en (.rt 4 .no))) (.go 5 (.fk (.go 32 (.en (.rt 4 .no))) (.go 3 (.il (.rt 43 (.go 1 (.ef (.go 4 (.fk (.go 21 (.en (.rt 4 .no))) (.go 4 (.fk (.go 16 (.en (.rt 4 .no))) (.go 4 (.fk (.go 11 (.en (.rt 4 .no))) (.go 4 (.fk (.go 6 (.en (.rt 4 .no))) (.go 4 (.fk (.go 1 (.en (.rt 4 .no))) (.go 1 (.en (.st 16 (.rg (.go 2 (.fk (.go 1 (.en (.rt 1 .no))) (.go 1 (.en (.rt 1 .no))))))))))))))))))) (.go 26 (.en (.rt 4 .no)))))))))))))))))
  (tfk (th < 0) (fun h1 => (mF 5 th tx at_ v x why (by omega)))
  (fun h1 => (tfk (th ≥ 6) (fun h2 => (mF 5 th tx at_ v x why (by omega)))
  (fun h2 => (te7 5 5 th th 0 tx 0 at_ v v 0 x 0 why (fun h3 => (tfk (tx < 0) (fun h4 => (mF 5 th tx at_ v x why (by omega)))
  (fun h4 => (tfk (tx ≥ 6) (fun h5 => (mF 5 th tx at_ v x why (by omega)))
  (fun h5 => (tfk (v < 0) (fun h6 => (mF 5 th tx at_ v x why (by omega)))
  (fun h6 => (tfk (v > 1099511627776) (fun h7 => (mF 5 th tx at_ v x why (by omega)))
  (fun h7 => (tfk (at_ < 0) (fun h8 => (mF 5 th tx at_ v x why (by omega)))
  (fun h8 => (tfk (v ≥ 1) (fun h9 => (mT 5 th tx at_ v x why (by omega)))
  (fun h9 => (mF 5 th tx at_ v x why (by omega)))))))))))))))
  (fun h3 => (mF 5 th tx at_ v x why (by omega))))))))
set_option maxHeartbeats 8000000 in
theorem may_6 {B : Base} {F : Nat → Option (List AV)} (hc : CallSim Tryz.prog B (arunI Tryz.prog spB F 6)) (hl : ∀ t a, Local (arunI Tryz.prog spB F 6 t a)) {th tx at_ v x why : Int} (ho : EvOk (⟨6, th, tx, at_, v, x, why⟩ : Ev)) :
    Sim Tryz.prog B 270 (Fin Tryz.prog Tryz.f25.results.toList fun y _ => y = .bool (decide (MayE (⟨6, th, tx, at_, v, x, why⟩ : Ev)))) ⟨25, (trOf [(0, (.agg [(.int .u8 (.ofNat 6)), (.int .i64 (th)), (.int .i64 (tx)), (.int .i64 (at_)), (.int .i64 (v)), (.int .i64 (x)), (.int .u8 (why))])), (1, (.int .i64 (.ofNat 6))), (2, (.int .i64 (.ofNat 32))), (3, (.int .i64 (.ofNat 32)))]), 122, [.code (cAt Tryz.prog 25 [])], [], none⟩ (stOf (kn1) 270) := by
 have ho' := ho; simp only [EvOk, i64In] at ho'
 exact wp_sim (env_ok okB) rfl hmix hc hl 400 (.st 9 (.rg (.go 2 (.il (.rt 10 (.go 4 (.fk (.go 38 (.en (.rt 4 .no))) (.go 5 (.fk (.go 32 (.en (.rt 4 .no))) (.go 3 (.il (.rt 34 (.go 1 (.ef (.go 4 (.fk (.go 21 (.en (.rt 4 .no))) (.go 4 (.fk (.go 16 (.en (.rt 4 .no))) (.go 4 (.fk (.go 11 (.en (.rt 4 .no))) (.go 4 (.fk (.go 6 (.en (.rt 4 .no))) (.go 4 (.fk (.go 1 (.en (.rt 4 .no))) (.go 1 (.en (.st 21 (.rg (.go 3 (.fk (.go 1 (.en (.rt 1 .no))) (.go 1 (.en (.rt 1 .no))))))))))))))))))) (.go 26 (.en (.rt 4 .no)))))))))))))))))
  (tfk (th < 0) (fun h1 => (mF 6 th tx at_ v x why (by omega)))
  (fun h1 => (tfk (th ≥ 6) (fun h2 => (mF 6 th tx at_ v x why (by omega)))
  (fun h2 => (te7 6 6 th th 0 tx at_ at_ 0 v 0 x 0 why (fun h3 => (tfk (tx < 0) (fun h4 => (mF 6 th tx at_ v x why (by omega)))
  (fun h4 => (tfk (tx ≥ 6) (fun h5 => (mF 6 th tx at_ v x why (by omega)))
  (fun h5 => (tfk (v < 0) (fun h6 => (mF 6 th tx at_ v x why (by omega)))
  (fun h6 => (tfk (v > 1099511627776) (fun h7 => (mF 6 th tx at_ v x why (by omega)))
  (fun h7 => (tfk (at_ < 0) (fun h8 => (mF 6 th tx at_ v x why (by omega)))
  (fun h8 => (tfk (at_ < 32) (fun h9 => (mT 6 th tx at_ v x why (by omega)))
  (fun h9 => (mF 6 th tx at_ v x why (by omega)))))))))))))))
  (fun h3 => (mF 6 th tx at_ v x why (by omega))))))))
set_option maxHeartbeats 8000000 in
theorem may_7 {B : Base} {F : Nat → Option (List AV)} (hc : CallSim Tryz.prog B (arunI Tryz.prog spB F 6)) (hl : ∀ t a, Local (arunI Tryz.prog spB F 6 t a)) {th tx at_ v x why : Int} (ho : EvOk (⟨7, th, tx, at_, v, x, why⟩ : Ev)) :
    Sim Tryz.prog B 270 (Fin Tryz.prog Tryz.f25.results.toList fun y _ => y = .bool (decide (MayE (⟨7, th, tx, at_, v, x, why⟩ : Ev)))) ⟨25, (trOf [(0, (.agg [(.int .u8 (.ofNat 7)), (.int .i64 (th)), (.int .i64 (tx)), (.int .i64 (at_)), (.int .i64 (v)), (.int .i64 (x)), (.int .u8 (why))])), (1, (.int .i64 (.ofNat 6))), (2, (.int .i64 (.ofNat 32))), (3, (.int .i64 (.ofNat 32)))]), 122, [.code (cAt Tryz.prog 25 [])], [], none⟩ (stOf (kn1) 270) := by
 have ho' := ho; simp only [EvOk, i64In] at ho'
 exact wp_sim (env_ok okB) rfl hmix hc hl 400 (.st 9 (.rg (.go 2 (.il (.rt 10 (.go 4 (.fk (.go 38 (.en (.rt 4 .no))) (.go 5 (.fk (.go 32 (.en (.rt 4 .no))) (.go 3 (.il (.rt 43 (.go 1 (.ef (.go 4 (.fk (.go 21 (.en (.rt 4 .no))) (.go 4 (.fk (.go 16 (.en (.rt 4 .no))) (.go 4 (.fk (.go 11 (.en (.rt 4 .no))) (.go 4 (.fk (.go 6 (.en (.rt 4 .no))) (.go 4 (.fk (.go 1 (.en (.rt 4 .no))) (.go 1 (.en (.st 21 (.rg (.go 3 (.fk (.go 1 (.en (.rt 1 .no))) (.go 1 (.en (.rt 1 .no))))))))))))))))))) (.go 26 (.en (.rt 4 .no)))))))))))))))))
  (tfk (th < 0) (fun h1 => (mF 7 th tx at_ v x why (by omega)))
  (fun h1 => (tfk (th ≥ 6) (fun h2 => (mF 7 th tx at_ v x why (by omega)))
  (fun h2 => (te7 7 7 th th 0 tx 0 at_ v v 0 x 0 why (fun h3 => (tfk (tx < 0) (fun h4 => (mF 7 th tx at_ v x why (by omega)))
  (fun h4 => (tfk (tx ≥ 6) (fun h5 => (mF 7 th tx at_ v x why (by omega)))
  (fun h5 => (tfk (v < 0) (fun h6 => (mF 7 th tx at_ v x why (by omega)))
  (fun h6 => (tfk (v > 1099511627776) (fun h7 => (mF 7 th tx at_ v x why (by omega)))
  (fun h7 => (tfk (at_ < 0) (fun h8 => (mF 7 th tx at_ v x why (by omega)))
  (fun h8 => (tfk (at_ < 32) (fun h9 => (mT 7 th tx at_ v x why (by omega)))
  (fun h9 => (mF 7 th tx at_ v x why (by omega)))))))))))))))
  (fun h3 => (mF 7 th tx at_ v x why (by omega))))))))
set_option maxHeartbeats 8000000 in
theorem may_8 {B : Base} {F : Nat → Option (List AV)} (hc : CallSim Tryz.prog B (arunI Tryz.prog spB F 6)) (hl : ∀ t a, Local (arunI Tryz.prog spB F 6 t a)) {th tx at_ v x why : Int} (ho : EvOk (⟨8, th, tx, at_, v, x, why⟩ : Ev)) :
    Sim Tryz.prog B 270 (Fin Tryz.prog Tryz.f25.results.toList fun y _ => y = .bool (decide (MayE (⟨8, th, tx, at_, v, x, why⟩ : Ev)))) ⟨25, (trOf [(0, (.agg [(.int .u8 (.ofNat 8)), (.int .i64 (th)), (.int .i64 (tx)), (.int .i64 (at_)), (.int .i64 (v)), (.int .i64 (x)), (.int .u8 (why))])), (1, (.int .i64 (.ofNat 6))), (2, (.int .i64 (.ofNat 32))), (3, (.int .i64 (.ofNat 32)))]), 122, [.code (cAt Tryz.prog 25 [])], [], none⟩ (stOf (kn1) 270) := by
 have ho' := ho; simp only [EvOk, i64In] at ho'
 exact wp_sim (env_ok okB) rfl hmix hc hl 400 (.st 9 (.rg (.go 2 (.il (.rt 10 (.go 4 (.fk (.go 38 (.en (.rt 4 .no))) (.go 5 (.fk (.go 32 (.en (.rt 4 .no))) (.go 3 (.il (.rt 25 (.go 1 (.ef (.go 4 (.fk (.go 21 (.en (.rt 4 .no))) (.go 4 (.fk (.go 16 (.en (.rt 4 .no))) (.go 4 (.fk (.go 11 (.en (.rt 4 .no))) (.go 4 (.fk (.go 6 (.en (.rt 4 .no))) (.go 4 (.fk (.go 1 (.en (.rt 4 .no))) (.go 1 (.en (.st 13 (.rg (.go 3 (.fk (.go 1 (.en (.rt 1 .no))) (.go 1 (.en (.rt 1 .no))))))))))))))))))) (.go 26 (.en (.rt 4 .no)))))))))))))))))
  (tfk (th < 0) (fun h1 => (mF 8 th tx at_ v x why (by omega)))
  (fun h1 => (tfk (th ≥ 6) (fun h2 => (mF 8 th tx at_ v x why (by omega)))
  (fun h2 => (te7 8 8 th th 0 tx at_ at_ 0 v x x 0 why (fun h3 => (tfk (tx < 0) (fun h4 => (mF 8 th tx at_ v x why (by omega)))
  (fun h4 => (tfk (tx ≥ 6) (fun h5 => (mF 8 th tx at_ v x why (by omega)))
  (fun h5 => (tfk (v < 0) (fun h6 => (mF 8 th tx at_ v x why (by omega)))
  (fun h6 => (tfk (v > 1099511627776) (fun h7 => (mF 8 th tx at_ v x why (by omega)))
  (fun h7 => (tfk (at_ < 0) (fun h8 => (mF 8 th tx at_ v x why (by omega)))
  (fun h8 => (tfk (at_ < 32) (fun h9 => (mT 8 th tx at_ v x why (by omega)))
  (fun h9 => (mF 8 th tx at_ v x why (by omega)))))))))))))))
  (fun h3 => (mF 8 th tx at_ v x why (by omega))))))))
set_option maxHeartbeats 8000000 in
theorem may_9 {B : Base} {F : Nat → Option (List AV)} (hc : CallSim Tryz.prog B (arunI Tryz.prog spB F 6)) (hl : ∀ t a, Local (arunI Tryz.prog spB F 6 t a)) {th tx at_ v x why : Int} (ho : EvOk (⟨9, th, tx, at_, v, x, why⟩ : Ev)) :
    Sim Tryz.prog B 270 (Fin Tryz.prog Tryz.f25.results.toList fun y _ => y = .bool (decide (MayE (⟨9, th, tx, at_, v, x, why⟩ : Ev)))) ⟨25, (trOf [(0, (.agg [(.int .u8 (.ofNat 9)), (.int .i64 (th)), (.int .i64 (tx)), (.int .i64 (at_)), (.int .i64 (v)), (.int .i64 (x)), (.int .u8 (why))])), (1, (.int .i64 (.ofNat 6))), (2, (.int .i64 (.ofNat 32))), (3, (.int .i64 (.ofNat 32)))]), 122, [.code (cAt Tryz.prog 25 [])], [], none⟩ (stOf (kn1) 270) := by
 have ho' := ho; simp only [EvOk, i64In] at ho'
 exact wp_sim (env_ok okB) rfl hmix hc hl 400 (.st 9 (.rg (.go 2 (.il (.rt 10 (.go 4 (.fk (.go 38 (.en (.rt 4 .no))) (.go 5 (.fk (.go 32 (.en (.rt 4 .no))) (.go 3 (.il (.rt 37 (.go 1 (.ef (.go 4 (.fk (.go 21 (.en (.rt 4 .no))) (.go 4 (.fk (.go 16 (.en (.rt 4 .no))) (.go 4 (.fk (.go 11 (.en (.rt 4 .no))) (.go 4 (.fk (.go 6 (.en (.rt 4 .no))) (.go 4 (.fk (.go 1 (.en (.rt 4 .no))) (.go 1 (.en (.st 21 (.rg (.go 3 (.fk (.go 1 (.en (.rt 1 .no))) (.go 1 (.en (.rt 1 .no))))))))))))))))))) (.go 26 (.en (.rt 4 .no)))))))))))))))))
  (tfk (th < 0) (fun h1 => (mF 9 th tx at_ v x why (by omega)))
  (fun h1 => (tfk (th ≥ 6) (fun h2 => (mF 9 th tx at_ v x why (by omega)))
  (fun h2 => (te7 9 9 th th 0 tx at_ at_ 0 v 0 x 0 why (fun h3 => (tfk (tx < 0) (fun h4 => (mF 9 th tx at_ v x why (by omega)))
  (fun h4 => (tfk (tx ≥ 6) (fun h5 => (mF 9 th tx at_ v x why (by omega)))
  (fun h5 => (tfk (v < 0) (fun h6 => (mF 9 th tx at_ v x why (by omega)))
  (fun h6 => (tfk (v > 1099511627776) (fun h7 => (mF 9 th tx at_ v x why (by omega)))
  (fun h7 => (tfk (at_ < 0) (fun h8 => (mF 9 th tx at_ v x why (by omega)))
  (fun h8 => (tfk (at_ < 32) (fun h9 => (mT 9 th tx at_ v x why (by omega)))
  (fun h9 => (mF 9 th tx at_ v x why (by omega)))))))))))))))
  (fun h3 => (mF 9 th tx at_ v x why (by omega))))))))
set_option maxHeartbeats 8000000 in
theorem may_10 {B : Base} {F : Nat → Option (List AV)} (hc : CallSim Tryz.prog B (arunI Tryz.prog spB F 6)) (hl : ∀ t a, Local (arunI Tryz.prog spB F 6 t a)) {th tx at_ v x why : Int} (ho : EvOk (⟨10, th, tx, at_, v, x, why⟩ : Ev)) :
    Sim Tryz.prog B 270 (Fin Tryz.prog Tryz.f25.results.toList fun y _ => y = .bool (decide (MayE (⟨10, th, tx, at_, v, x, why⟩ : Ev)))) ⟨25, (trOf [(0, (.agg [(.int .u8 (.ofNat 10)), (.int .i64 (th)), (.int .i64 (tx)), (.int .i64 (at_)), (.int .i64 (v)), (.int .i64 (x)), (.int .u8 (why))])), (1, (.int .i64 (.ofNat 6))), (2, (.int .i64 (.ofNat 32))), (3, (.int .i64 (.ofNat 32)))]), 122, [.code (cAt Tryz.prog 25 [])], [], none⟩ (stOf (kn1) 270) := by
 have ho' := ho; simp only [EvOk, i64In] at ho'
 exact wp_sim (env_ok okB) rfl hmix hc hl 400 (.st 9 (.rg (.go 2 (.il (.rt 10 (.go 4 (.fk (.go 38 (.en (.rt 4 .no))) (.go 5 (.fk (.go 32 (.en (.rt 4 .no))) (.go 3 (.il (.rt 46 (.go 1 (.ef (.go 4 (.fk (.go 21 (.en (.rt 4 .no))) (.go 4 (.fk (.go 16 (.en (.rt 4 .no))) (.go 4 (.fk (.go 11 (.en (.rt 4 .no))) (.go 4 (.fk (.go 6 (.en (.rt 4 .no))) (.go 4 (.fk (.go 1 (.en (.rt 4 .no))) (.go 1 (.en (.st 19 (.rg (.go 2 (.fk (.go 3 (.fk (.go 5 (.fk (.go 4 (.fk (.go 7 (.en (.rt 1 .no))) (.go 3 (.fk (.go 3 (.en (.rt 1 .no))) (.go 3 (.en (.rt 1 .no))))))) (.go 12 (.en (.rt 1 .no))))) (.go 18 (.en (.rt 1 .no))))) (.go 22 (.en (.rt 1 .no))))))))))))))))))) (.go 26 (.en (.rt 4 .no)))))))))))))))))
  (tfk (th < 0) (fun h1 => (mF 10 th tx at_ v x why (by omega)))
  (fun h1 => (tfk (th ≥ 6) (fun h2 => (mF 10 th tx at_ v x why (by omega)))
  (fun h2 => (te7 10 10 th th 0 tx at_ at_ 0 v 0 x why why (fun h3 => (tfk (tx < 0) (fun h4 => (mF 10 th tx at_ v x why (by omega)))
  (fun h4 => (tfk (tx ≥ 6) (fun h5 => (mF 10 th tx at_ v x why (by omega)))
  (fun h5 => (tfk (v < 0) (fun h6 => (mF 10 th tx at_ v x why (by omega)))
  (fun h6 => (tfk (v > 1099511627776) (fun h7 => (mF 10 th tx at_ v x why (by omega)))
  (fun h7 => (tfk (at_ < 0) (fun h8 => (mF 10 th tx at_ v x why (by omega)))
  (fun h8 => (tfk (why ≥ 1) (fun h9 => (tfk (why ≤ 6) (fun h10 => (tfk (at_ < 32) (fun h11 => (tfk (why ≠ 6) (fun h12 => (mT 10 th tx at_ v x why (by omega)))
  (fun h12 => (tfk (at_ = 0) (fun h13 => (mT 10 th tx at_ v x why (by omega)))
  (fun h13 => (mF 10 th tx at_ v x why (by omega)))))))
  (fun h11 => (mF 10 th tx at_ v x why (by omega)))))
  (fun h10 => (mF 10 th tx at_ v x why (by omega)))))
  (fun h9 => (mF 10 th tx at_ v x why (by omega)))))))))))))))
  (fun h3 => (mF 10 th tx at_ v x why (by omega))))))))
set_option maxHeartbeats 8000000 in
theorem may_11 {B : Base} {F : Nat → Option (List AV)} (hc : CallSim Tryz.prog B (arunI Tryz.prog spB F 6)) (hl : ∀ t a, Local (arunI Tryz.prog spB F 6 t a)) {th tx at_ v x why : Int} (ho : EvOk (⟨11, th, tx, at_, v, x, why⟩ : Ev)) :
    Sim Tryz.prog B 270 (Fin Tryz.prog Tryz.f25.results.toList fun y _ => y = .bool (decide (MayE (⟨11, th, tx, at_, v, x, why⟩ : Ev)))) ⟨25, (trOf [(0, (.agg [(.int .u8 (.ofNat 11)), (.int .i64 (th)), (.int .i64 (tx)), (.int .i64 (at_)), (.int .i64 (v)), (.int .i64 (x)), (.int .u8 (why))])), (1, (.int .i64 (.ofNat 6))), (2, (.int .i64 (.ofNat 32))), (3, (.int .i64 (.ofNat 32)))]), 122, [.code (cAt Tryz.prog 25 [])], [], none⟩ (stOf (kn1) 270) := by
 have ho' := ho; simp only [EvOk, i64In] at ho'
 exact wp_sim (env_ok okB) rfl hmix hc hl 400 (.st 9 (.rg (.go 2 (.il (.rt 10 (.go 4 (.fk (.go 38 (.en (.rt 4 .no))) (.go 5 (.fk (.go 32 (.en (.rt 4 .no))) (.go 3 (.il (.rt 37 (.go 1 (.ef (.go 4 (.fk (.go 21 (.en (.rt 4 .no))) (.go 4 (.fk (.go 16 (.en (.rt 4 .no))) (.go 4 (.fk (.go 11 (.en (.rt 4 .no))) (.go 4 (.fk (.go 6 (.en (.rt 4 .no))) (.go 4 (.fk (.go 1 (.en (.rt 4 .no))) (.go 1 (.en (.st 21 (.rg (.go 3 (.fk (.go 1 (.en (.rt 1 .no))) (.go 1 (.en (.rt 1 .no))))))))))))))))))) (.go 26 (.en (.rt 4 .no)))))))))))))))))
  (tfk (th < 0) (fun h1 => (mF 11 th tx at_ v x why (by omega)))
  (fun h1 => (tfk (th ≥ 6) (fun h2 => (mF 11 th tx at_ v x why (by omega)))
  (fun h2 => (te7 11 11 th th 0 tx at_ at_ 0 v 0 x 0 why (fun h3 => (tfk (tx < 0) (fun h4 => (mF 11 th tx at_ v x why (by omega)))
  (fun h4 => (tfk (tx ≥ 6) (fun h5 => (mF 11 th tx at_ v x why (by omega)))
  (fun h5 => (tfk (v < 0) (fun h6 => (mF 11 th tx at_ v x why (by omega)))
  (fun h6 => (tfk (v > 1099511627776) (fun h7 => (mF 11 th tx at_ v x why (by omega)))
  (fun h7 => (tfk (at_ < 0) (fun h8 => (mF 11 th tx at_ v x why (by omega)))
  (fun h8 => (tfk (at_ < 32) (fun h9 => (mT 11 th tx at_ v x why (by omega)))
  (fun h9 => (mF 11 th tx at_ v x why (by omega)))))))))))))))
  (fun h3 => (mF 11 th tx at_ v x why (by omega))))))))
set_option maxHeartbeats 8000000 in
theorem may_12 {B : Base} {F : Nat → Option (List AV)} (hc : CallSim Tryz.prog B (arunI Tryz.prog spB F 6)) (hl : ∀ t a, Local (arunI Tryz.prog spB F 6 t a)) {th tx at_ v x why : Int} (ho : EvOk (⟨12, th, tx, at_, v, x, why⟩ : Ev)) :
    Sim Tryz.prog B 270 (Fin Tryz.prog Tryz.f25.results.toList fun y _ => y = .bool (decide (MayE (⟨12, th, tx, at_, v, x, why⟩ : Ev)))) ⟨25, (trOf [(0, (.agg [(.int .u8 (.ofNat 12)), (.int .i64 (th)), (.int .i64 (tx)), (.int .i64 (at_)), (.int .i64 (v)), (.int .i64 (x)), (.int .u8 (why))])), (1, (.int .i64 (.ofNat 6))), (2, (.int .i64 (.ofNat 32))), (3, (.int .i64 (.ofNat 32)))]), 122, [.code (cAt Tryz.prog 25 [])], [], none⟩ (stOf (kn1) 270) := by
 have ho' := ho; simp only [EvOk, i64In] at ho'
 exact wp_sim (env_ok okB) rfl hmix hc hl 400 (.st 9 (.rg (.go 2 (.il (.rt 10 (.go 4 (.fk (.go 38 (.en (.rt 4 .no))) (.go 5 (.fk (.go 32 (.en (.rt 4 .no))) (.go 3 (.il (.rt 46 (.go 1 (.ef (.go 4 (.fk (.go 21 (.en (.rt 4 .no))) (.go 4 (.fk (.go 16 (.en (.rt 4 .no))) (.go 4 (.fk (.go 11 (.en (.rt 4 .no))) (.go 4 (.fk (.go 6 (.en (.rt 4 .no))) (.go 4 (.fk (.go 1 (.en (.rt 4 .no))) (.go 1 (.en (.st 21 (.rg (.go 3 (.fk (.go 1 (.en (.rt 1 .no))) (.go 1 (.en (.rt 1 .no))))))))))))))))))) (.go 26 (.en (.rt 4 .no)))))))))))))))))
  (tfk (th < 0) (fun h1 => (mF 12 th tx at_ v x why (by omega)))
  (fun h1 => (tfk (th ≥ 6) (fun h2 => (mF 12 th tx at_ v x why (by omega)))
  (fun h2 => (te7 12 12 th th 0 tx 0 at_ 0 v 0 x 0 why (fun h3 => (tfk (tx < 0) (fun h4 => (mF 12 th tx at_ v x why (by omega)))
  (fun h4 => (tfk (tx ≥ 6) (fun h5 => (mF 12 th tx at_ v x why (by omega)))
  (fun h5 => (tfk (v < 0) (fun h6 => (mF 12 th tx at_ v x why (by omega)))
  (fun h6 => (tfk (v > 1099511627776) (fun h7 => (mF 12 th tx at_ v x why (by omega)))
  (fun h7 => (tfk (at_ < 0) (fun h8 => (mF 12 th tx at_ v x why (by omega)))
  (fun h8 => (tfk (at_ < 32) (fun h9 => (mT 12 th tx at_ v x why (by omega)))
  (fun h9 => (mF 12 th tx at_ v x why (by omega)))))))))))))))
  (fun h3 => (mF 12 th tx at_ v x why (by omega))))))))
set_option maxHeartbeats 8000000 in
theorem may_13 {B : Base} {F : Nat → Option (List AV)} (hc : CallSim Tryz.prog B (arunI Tryz.prog spB F 6)) (hl : ∀ t a, Local (arunI Tryz.prog spB F 6 t a)) {th tx at_ v x why : Int} (ho : EvOk (⟨13, th, tx, at_, v, x, why⟩ : Ev)) :
    Sim Tryz.prog B 270 (Fin Tryz.prog Tryz.f25.results.toList fun y _ => y = .bool (decide (MayE (⟨13, th, tx, at_, v, x, why⟩ : Ev)))) ⟨25, (trOf [(0, (.agg [(.int .u8 (.ofNat 13)), (.int .i64 (th)), (.int .i64 (tx)), (.int .i64 (at_)), (.int .i64 (v)), (.int .i64 (x)), (.int .u8 (why))])), (1, (.int .i64 (.ofNat 6))), (2, (.int .i64 (.ofNat 32))), (3, (.int .i64 (.ofNat 32)))]), 122, [.code (cAt Tryz.prog 25 [])], [], none⟩ (stOf (kn1) 270) := by
 have ho' := ho; simp only [EvOk, i64In] at ho'
 exact wp_sim (env_ok okB) rfl hmix hc hl 400 (.st 9 (.rg (.go 2 (.il (.rt 10 (.go 4 (.fk (.go 38 (.en (.rt 4 .no))) (.go 5 (.fk (.go 32 (.en (.rt 4 .no))) (.go 3 (.il (.rt 46 (.go 1 (.ef (.go 4 (.fk (.go 21 (.en (.rt 4 .no))) (.go 4 (.fk (.go 16 (.en (.rt 4 .no))) (.go 4 (.fk (.go 11 (.en (.rt 4 .no))) (.go 4 (.fk (.go 6 (.en (.rt 4 .no))) (.go 4 (.fk (.go 1 (.en (.rt 4 .no))) (.go 1 (.en (.st 21 (.rg (.go 3 (.fk (.go 1 (.en (.rt 1 .no))) (.go 1 (.en (.rt 1 .no))))))))))))))))))) (.go 26 (.en (.rt 4 .no)))))))))))))))))
  (tfk (th < 0) (fun h1 => (mF 13 th tx at_ v x why (by omega)))
  (fun h1 => (tfk (th ≥ 6) (fun h2 => (mF 13 th tx at_ v x why (by omega)))
  (fun h2 => (te7 13 13 th th 0 tx 0 at_ 0 v 0 x 0 why (fun h3 => (tfk (tx < 0) (fun h4 => (mF 13 th tx at_ v x why (by omega)))
  (fun h4 => (tfk (tx ≥ 6) (fun h5 => (mF 13 th tx at_ v x why (by omega)))
  (fun h5 => (tfk (v < 0) (fun h6 => (mF 13 th tx at_ v x why (by omega)))
  (fun h6 => (tfk (v > 1099511627776) (fun h7 => (mF 13 th tx at_ v x why (by omega)))
  (fun h7 => (tfk (at_ < 0) (fun h8 => (mF 13 th tx at_ v x why (by omega)))
  (fun h8 => (tfk (at_ < 32) (fun h9 => (mT 13 th tx at_ v x why (by omega)))
  (fun h9 => (mF 13 th tx at_ v x why (by omega)))))))))))))))
  (fun h3 => (mF 13 th tx at_ v x why (by omega))))))))
set_option maxHeartbeats 8000000 in
theorem may_k {B : Base} {F : Nat → Option (List AV)} (hc : CallSim Tryz.prog B (arunI Tryz.prog spB2 F 6)) (hl : ∀ t a, Local (arunI Tryz.prog spB2 F 6 t a)) {k : Int} (hk : 13 < k) {th tx at_ v x why : Int} (ho : EvOk (⟨k, th, tx, at_, v, x, why⟩ : Ev)) :
    Sim Tryz.prog B 270 (Fin Tryz.prog Tryz.f25.results.toList fun y _ => y = .bool (decide (MayE (⟨k, th, tx, at_, v, x, why⟩ : Ev)))) ⟨25, (trOf [(0, (.agg [(.int .u8 (k)), (.int .i64 (th)), (.int .i64 (tx)), (.int .i64 (at_)), (.int .i64 (v)), (.int .i64 (x)), (.int .u8 (why))])), (1, (.int .i64 (.ofNat 6))), (2, (.int .i64 (.ofNat 32))), (3, (.int .i64 (.ofNat 32)))]), 122, [.code (cAt Tryz.prog 25 [])], [], none⟩ (stOf (kn1) 270) := by
 have ho' := ho; simp only [EvOk, i64In] at ho'
 exact wp_sim (env_ok okB2) rfl hmix hc hl 400 (.st 9 (.rg (.go 2 (.kn (.str ⟨#[]⟩) (.go 43 (.en (.rt 4 .no)))))))
  (And.intro (nameL_big hk)
  (mF k th tx at_ v x why (by omega)))
end DtN
