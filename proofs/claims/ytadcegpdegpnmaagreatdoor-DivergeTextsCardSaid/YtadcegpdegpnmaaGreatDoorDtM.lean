import Derived.Test.YtadcegpdegpnmaaGreatDoorDtV
open Go Go.Rn Go.RowKit Go.Proofs
set_option maxRecDepth 100000
namespace DtM
open DtP DtS DtV Go.Proofs.YtadcegpdegpnmaaGreatDoor.divergeTexts
set_option maxHeartbeats 8000000 in
theorem may_0 {B : Base} {F : Nat → Option (List AV)} (hc : CallSim Tryz.prog B (arunI Tryz.prog spI F 6)) (hl : ∀ t a, Local (arunI Tryz.prog spI F 6 t a)) {th tx at_ v x why : Int} (ho : EvOk (⟨0, th, tx, at_, v, x, why⟩ : Ev)) :
    Sim Tryz.prog B 270 (Fin Tryz.prog Tryz.f22.results.toList fun y _ => y = .bool (decide (MayE (⟨0, th, tx, at_, v, x, why⟩ : Ev)))) ⟨22, (trOf [(0, (.agg [(.int .u8 (.ofNat 0)), (.int .i64 (th)), (.int .i64 (tx)), (.int .i64 (at_)), (.int .i64 (v)), (.int .i64 (x)), (.int .u8 (why))])), (1, (.int .i64 (.ofNat 6))), (2, (.int .i64 (.ofNat 32))), (3, (.int .i64 (.ofNat 32)))]), 90, [.code (cAt Tryz.prog 22 [])], [], none⟩ (stOf (kn1) 270) := by
 have ho' := ho; simp only [EvOk, i64In] at ho'
 exact wp_sim (env_ok okI) rfl hmix hc hl 400 (.st 6 (.rg (.go 2 (.kn (.bool true) (.go 4 (.kn (.bool true) (.go 6 (.kn (.bool true) (.go 5 (.il (.rt 5 (.go 2 (.en (.rt 4 .no))))))))))))))
  (And.intro (withinL_t (n := 6) (a := 1) (b := 6) (by decide))
  (And.intro (withinL_t (n := 32) (a := 1) (b := 32) (by decide))
  (And.intro (withinL_t (n := 32) (a := 1) (b := 32) (by decide))
  (mF 0 th tx at_ v x why (by omega)))))
set_option maxHeartbeats 8000000 in
theorem may_1 {B : Base} {F : Nat → Option (List AV)} (hc : CallSim Tryz.prog B (arunI Tryz.prog spI F 6)) (hl : ∀ t a, Local (arunI Tryz.prog spI F 6 t a)) {th tx at_ v x why : Int} (ho : EvOk (⟨1, th, tx, at_, v, x, why⟩ : Ev)) :
    Sim Tryz.prog B 270 (Fin Tryz.prog Tryz.f22.results.toList fun y _ => y = .bool (decide (MayE (⟨1, th, tx, at_, v, x, why⟩ : Ev)))) ⟨22, (trOf [(0, (.agg [(.int .u8 (.ofNat 1)), (.int .i64 (th)), (.int .i64 (tx)), (.int .i64 (at_)), (.int .i64 (v)), (.int .i64 (x)), (.int .u8 (why))])), (1, (.int .i64 (.ofNat 6))), (2, (.int .i64 (.ofNat 32))), (3, (.int .i64 (.ofNat 32)))]), 90, [.code (cAt Tryz.prog 22 [])], [], none⟩ (stOf (kn1) 270) := by
 have ho' := ho; simp only [EvOk, i64In] at ho'
 exact wp_sim (env_ok okI) rfl hmix hc hl 400 (.st 6 (.rg (.go 2 (.kn (.bool true) (.go 4 (.kn (.bool true) (.go 6 (.kn (.bool true) (.go 5 (.il (.rt 5 (.go 2 (.en (.st 23 (.rg (.go 5 (.kp ((0 : Int) ≤ th ∧ th ≤ (5 : Int)) inferInstance (.go 4 (.kp ((0 : Int) ≤ tx ∧ tx ≤ (5 : Int)) inferInstance (.go 6 (.kp ((0 : Int) ≤ v ∧ v ≤ (1099511627776 : Int)) inferInstance (.go 7 (.kp ((0 : Int) ≤ at_ ∧ at_ ≤ (31 : Int)) inferInstance (.go 4 (.kn (.agg [(.int .u8 (.ofNat 1)), (.int .i64 (th)), (.int .i64 (tx)), (.int .i64 (.ofNat 0)), (.int .i64 (v)), (.int .i64 (.ofNat 0)), (.int .u8 (.ofNat 0))]) (.ef (.go 2 (.en (.rt 1 .no))) (.go 2 (.en (.rt 1 .no)))))) (.go 8 (.en (.rt 1 .no))))) (.go 16 (.en (.rt 1 .no))))) (.go 23 (.en (.rt 1 .no))))) (.go 28 (.en (.rt 1 .no))))))))))))))))))))
  (And.intro (withinL_t (n := 6) (a := 1) (b := 6) (by decide))
  (And.intro (withinL_t (n := 32) (a := 1) (b := 32) (by decide))
  (And.intro (withinL_t (n := 32) (a := 1) (b := 32) (by decide))
  (And.intro (withinL_p th (0 : Int) (5 : Int)) (tfk ((0 : Int) ≤ th ∧ th ≤ (5 : Int)) (fun h1 => (And.intro (withinL_p tx (0 : Int) (5 : Int)) (tfk ((0 : Int) ≤ tx ∧ tx ≤ (5 : Int)) (fun h2 => (And.intro (withinL_p v (0 : Int) (1099511627776 : Int)) (tfk ((0 : Int) ≤ v ∧ v ≤ (1099511627776 : Int)) (fun h3 => (And.intro (withinL_p at_ (0 : Int) (31 : Int)) (tfk ((0 : Int) ≤ at_ ∧ at_ ≤ (31 : Int)) (fun h4 => (And.intro (bareL_1 ho)
  (te7 1 1 th th tx tx at_ 0 v v x 0 why 0 (fun h5 => (mT 1 th tx at_ v x why (by omega)))
  (fun h5 => (mF 1 th tx at_ v x why (by omega))))))
  (fun h4 => (mF 1 th tx at_ v x why (by omega))))))
  (fun h3 => (mF 1 th tx at_ v x why (by omega))))))
  (fun h2 => (mF 1 th tx at_ v x why (by omega))))))
  (fun h1 => (mF 1 th tx at_ v x why (by omega))))))))
set_option maxHeartbeats 8000000 in
theorem may_2 {B : Base} {F : Nat → Option (List AV)} (hc : CallSim Tryz.prog B (arunI Tryz.prog spI F 6)) (hl : ∀ t a, Local (arunI Tryz.prog spI F 6 t a)) {th tx at_ v x why : Int} (ho : EvOk (⟨2, th, tx, at_, v, x, why⟩ : Ev)) :
    Sim Tryz.prog B 270 (Fin Tryz.prog Tryz.f22.results.toList fun y _ => y = .bool (decide (MayE (⟨2, th, tx, at_, v, x, why⟩ : Ev)))) ⟨22, (trOf [(0, (.agg [(.int .u8 (.ofNat 2)), (.int .i64 (th)), (.int .i64 (tx)), (.int .i64 (at_)), (.int .i64 (v)), (.int .i64 (x)), (.int .u8 (why))])), (1, (.int .i64 (.ofNat 6))), (2, (.int .i64 (.ofNat 32))), (3, (.int .i64 (.ofNat 32)))]), 90, [.code (cAt Tryz.prog 22 [])], [], none⟩ (stOf (kn1) 270) := by
 have ho' := ho; simp only [EvOk, i64In] at ho'
 exact wp_sim (env_ok okI) rfl hmix hc hl 400 (.st 6 (.rg (.go 2 (.kn (.bool true) (.go 4 (.kn (.bool true) (.go 6 (.kn (.bool true) (.go 5 (.il (.rt 5 (.go 2 (.en (.st 23 (.rg (.go 5 (.kp ((0 : Int) ≤ th ∧ th ≤ (5 : Int)) inferInstance (.go 4 (.kp ((0 : Int) ≤ tx ∧ tx ≤ (5 : Int)) inferInstance (.go 6 (.kp ((0 : Int) ≤ v ∧ v ≤ (1099511627776 : Int)) inferInstance (.go 7 (.kp ((0 : Int) ≤ at_ ∧ at_ ≤ (31 : Int)) inferInstance (.go 4 (.kn (.agg [(.int .u8 (.ofNat 2)), (.int .i64 (th)), (.int .i64 (.ofNat 0)), (.int .i64 (at_)), (.int .i64 (v)), (.int .i64 (.ofNat 0)), (.int .u8 (.ofNat 0))]) (.ef (.go 2 (.en (.rt 1 .no))) (.go 2 (.en (.rt 1 .no)))))) (.go 8 (.en (.rt 1 .no))))) (.go 16 (.en (.rt 1 .no))))) (.go 23 (.en (.rt 1 .no))))) (.go 28 (.en (.rt 1 .no))))))))))))))))))))
  (And.intro (withinL_t (n := 6) (a := 1) (b := 6) (by decide))
  (And.intro (withinL_t (n := 32) (a := 1) (b := 32) (by decide))
  (And.intro (withinL_t (n := 32) (a := 1) (b := 32) (by decide))
  (And.intro (withinL_p th (0 : Int) (5 : Int)) (tfk ((0 : Int) ≤ th ∧ th ≤ (5 : Int)) (fun h1 => (And.intro (withinL_p tx (0 : Int) (5 : Int)) (tfk ((0 : Int) ≤ tx ∧ tx ≤ (5 : Int)) (fun h2 => (And.intro (withinL_p v (0 : Int) (1099511627776 : Int)) (tfk ((0 : Int) ≤ v ∧ v ≤ (1099511627776 : Int)) (fun h3 => (And.intro (withinL_p at_ (0 : Int) (31 : Int)) (tfk ((0 : Int) ≤ at_ ∧ at_ ≤ (31 : Int)) (fun h4 => (And.intro (bareL_2 ho)
  (te7 2 2 th th tx 0 at_ at_ v v x 0 why 0 (fun h5 => (mT 2 th tx at_ v x why (by omega)))
  (fun h5 => (mF 2 th tx at_ v x why (by omega))))))
  (fun h4 => (mF 2 th tx at_ v x why (by omega))))))
  (fun h3 => (mF 2 th tx at_ v x why (by omega))))))
  (fun h2 => (mF 2 th tx at_ v x why (by omega))))))
  (fun h1 => (mF 2 th tx at_ v x why (by omega))))))))
set_option maxHeartbeats 8000000 in
theorem may_3 {B : Base} {F : Nat → Option (List AV)} (hc : CallSim Tryz.prog B (arunI Tryz.prog spI F 6)) (hl : ∀ t a, Local (arunI Tryz.prog spI F 6 t a)) {th tx at_ v x why : Int} (ho : EvOk (⟨3, th, tx, at_, v, x, why⟩ : Ev)) :
    Sim Tryz.prog B 270 (Fin Tryz.prog Tryz.f22.results.toList fun y _ => y = .bool (decide (MayE (⟨3, th, tx, at_, v, x, why⟩ : Ev)))) ⟨22, (trOf [(0, (.agg [(.int .u8 (.ofNat 3)), (.int .i64 (th)), (.int .i64 (tx)), (.int .i64 (at_)), (.int .i64 (v)), (.int .i64 (x)), (.int .u8 (why))])), (1, (.int .i64 (.ofNat 6))), (2, (.int .i64 (.ofNat 32))), (3, (.int .i64 (.ofNat 32)))]), 90, [.code (cAt Tryz.prog 22 [])], [], none⟩ (stOf (kn1) 270) := by
 have ho' := ho; simp only [EvOk, i64In] at ho'
 exact wp_sim (env_ok okI) rfl hmix hc hl 400 (.st 6 (.rg (.go 2 (.kn (.bool true) (.go 4 (.kn (.bool true) (.go 6 (.kn (.bool true) (.go 5 (.il (.rt 5 (.go 2 (.en (.st 20 (.rg (.go 5 (.kp ((0 : Int) ≤ th ∧ th ≤ (5 : Int)) inferInstance (.go 4 (.kp ((0 : Int) ≤ tx ∧ tx ≤ (5 : Int)) inferInstance (.go 6 (.kp ((0 : Int) ≤ v ∧ v ≤ (1099511627776 : Int)) inferInstance (.go 7 (.kp ((0 : Int) ≤ at_ ∧ at_ ≤ (31 : Int)) inferInstance (.go 4 (.kn (.agg [(.int .u8 (.ofNat 3)), (.int .i64 (th)), (.int .i64 (.ofNat 0)), (.int .i64 (at_)), (.int .i64 (.ofNat 0)), (.int .i64 (x)), (.int .u8 (.ofNat 0))]) (.ef (.go 2 (.en (.rt 1 .no))) (.go 2 (.en (.rt 1 .no)))))) (.go 8 (.en (.rt 1 .no))))) (.go 16 (.en (.rt 1 .no))))) (.go 23 (.en (.rt 1 .no))))) (.go 28 (.en (.rt 1 .no))))))))))))))))))))
  (And.intro (withinL_t (n := 6) (a := 1) (b := 6) (by decide))
  (And.intro (withinL_t (n := 32) (a := 1) (b := 32) (by decide))
  (And.intro (withinL_t (n := 32) (a := 1) (b := 32) (by decide))
  (And.intro (withinL_p th (0 : Int) (5 : Int)) (tfk ((0 : Int) ≤ th ∧ th ≤ (5 : Int)) (fun h1 => (And.intro (withinL_p tx (0 : Int) (5 : Int)) (tfk ((0 : Int) ≤ tx ∧ tx ≤ (5 : Int)) (fun h2 => (And.intro (withinL_p v (0 : Int) (1099511627776 : Int)) (tfk ((0 : Int) ≤ v ∧ v ≤ (1099511627776 : Int)) (fun h3 => (And.intro (withinL_p at_ (0 : Int) (31 : Int)) (tfk ((0 : Int) ≤ at_ ∧ at_ ≤ (31 : Int)) (fun h4 => (And.intro (bareL_3 ho)
  (te7 3 3 th th tx 0 at_ at_ v 0 x x why 0 (fun h5 => (mT 3 th tx at_ v x why (by omega)))
  (fun h5 => (mF 3 th tx at_ v x why (by omega))))))
  (fun h4 => (mF 3 th tx at_ v x why (by omega))))))
  (fun h3 => (mF 3 th tx at_ v x why (by omega))))))
  (fun h2 => (mF 3 th tx at_ v x why (by omega))))))
  (fun h1 => (mF 3 th tx at_ v x why (by omega))))))))
set_option maxHeartbeats 8000000 in
theorem may_4 {B : Base} {F : Nat → Option (List AV)} (hc : CallSim Tryz.prog B (arunI Tryz.prog spI F 6)) (hl : ∀ t a, Local (arunI Tryz.prog spI F 6 t a)) {th tx at_ v x why : Int} (ho : EvOk (⟨4, th, tx, at_, v, x, why⟩ : Ev)) :
    Sim Tryz.prog B 270 (Fin Tryz.prog Tryz.f22.results.toList fun y _ => y = .bool (decide (MayE (⟨4, th, tx, at_, v, x, why⟩ : Ev)))) ⟨22, (trOf [(0, (.agg [(.int .u8 (.ofNat 4)), (.int .i64 (th)), (.int .i64 (tx)), (.int .i64 (at_)), (.int .i64 (v)), (.int .i64 (x)), (.int .u8 (why))])), (1, (.int .i64 (.ofNat 6))), (2, (.int .i64 (.ofNat 32))), (3, (.int .i64 (.ofNat 32)))]), 90, [.code (cAt Tryz.prog 22 [])], [], none⟩ (stOf (kn1) 270) := by
 have ho' := ho; simp only [EvOk, i64In] at ho'
 exact wp_sim (env_ok okI) rfl hmix hc hl 400 (.st 6 (.rg (.go 2 (.kn (.bool true) (.go 4 (.kn (.bool true) (.go 6 (.kn (.bool true) (.go 5 (.il (.rt 5 (.go 2 (.en (.st 23 (.rg (.go 5 (.kp ((0 : Int) ≤ th ∧ th ≤ (5 : Int)) inferInstance (.go 4 (.kp ((0 : Int) ≤ tx ∧ tx ≤ (5 : Int)) inferInstance (.go 6 (.kp ((0 : Int) ≤ v ∧ v ≤ (1099511627776 : Int)) inferInstance (.go 7 (.kp ((0 : Int) ≤ at_ ∧ at_ ≤ (31 : Int)) inferInstance (.go 4 (.kn (.agg [(.int .u8 (.ofNat 4)), (.int .i64 (th)), (.int .i64 (.ofNat 0)), (.int .i64 (at_)), (.int .i64 (.ofNat 0)), (.int .i64 (.ofNat 0)), (.int .u8 (.ofNat 0))]) (.ef (.go 2 (.en (.rt 1 .no))) (.go 2 (.en (.rt 1 .no)))))) (.go 8 (.en (.rt 1 .no))))) (.go 16 (.en (.rt 1 .no))))) (.go 23 (.en (.rt 1 .no))))) (.go 28 (.en (.rt 1 .no))))))))))))))))))))
  (And.intro (withinL_t (n := 6) (a := 1) (b := 6) (by decide))
  (And.intro (withinL_t (n := 32) (a := 1) (b := 32) (by decide))
  (And.intro (withinL_t (n := 32) (a := 1) (b := 32) (by decide))
  (And.intro (withinL_p th (0 : Int) (5 : Int)) (tfk ((0 : Int) ≤ th ∧ th ≤ (5 : Int)) (fun h1 => (And.intro (withinL_p tx (0 : Int) (5 : Int)) (tfk ((0 : Int) ≤ tx ∧ tx ≤ (5 : Int)) (fun h2 => (And.intro (withinL_p v (0 : Int) (1099511627776 : Int)) (tfk ((0 : Int) ≤ v ∧ v ≤ (1099511627776 : Int)) (fun h3 => (And.intro (withinL_p at_ (0 : Int) (31 : Int)) (tfk ((0 : Int) ≤ at_ ∧ at_ ≤ (31 : Int)) (fun h4 => (And.intro (bareL_4 ho)
  (te7 4 4 th th tx 0 at_ at_ v 0 x 0 why 0 (fun h5 => (mT 4 th tx at_ v x why (by omega)))
  (fun h5 => (mF 4 th tx at_ v x why (by omega))))))
  (fun h4 => (mF 4 th tx at_ v x why (by omega))))))
  (fun h3 => (mF 4 th tx at_ v x why (by omega))))))
  (fun h2 => (mF 4 th tx at_ v x why (by omega))))))
  (fun h1 => (mF 4 th tx at_ v x why (by omega))))))))
set_option maxHeartbeats 8000000 in
theorem may_5 {B : Base} {F : Nat → Option (List AV)} (hc : CallSim Tryz.prog B (arunI Tryz.prog spI F 6)) (hl : ∀ t a, Local (arunI Tryz.prog spI F 6 t a)) {th tx at_ v x why : Int} (ho : EvOk (⟨5, th, tx, at_, v, x, why⟩ : Ev)) :
    Sim Tryz.prog B 270 (Fin Tryz.prog Tryz.f22.results.toList fun y _ => y = .bool (decide (MayE (⟨5, th, tx, at_, v, x, why⟩ : Ev)))) ⟨22, (trOf [(0, (.agg [(.int .u8 (.ofNat 5)), (.int .i64 (th)), (.int .i64 (tx)), (.int .i64 (at_)), (.int .i64 (v)), (.int .i64 (x)), (.int .u8 (why))])), (1, (.int .i64 (.ofNat 6))), (2, (.int .i64 (.ofNat 32))), (3, (.int .i64 (.ofNat 32)))]), 90, [.code (cAt Tryz.prog 22 [])], [], none⟩ (stOf (kn1) 270) := by
 have ho' := ho; simp only [EvOk, i64In] at ho'
 exact wp_sim (env_ok okI) rfl hmix hc hl 400 (.st 6 (.rg (.go 2 (.kn (.bool true) (.go 4 (.kn (.bool true) (.go 6 (.kn (.bool true) (.go 5 (.il (.rt 5 (.go 2 (.en (.st 14 (.rg (.go 5 (.kp ((0 : Int) ≤ th ∧ th ≤ (5 : Int)) inferInstance (.go 4 (.kp ((0 : Int) ≤ tx ∧ tx ≤ (5 : Int)) inferInstance (.go 6 (.kp ((1 : Int) ≤ v ∧ v ≤ (1099511627776 : Int)) inferInstance (.go 7 (.kp ((0 : Int) ≤ at_ ∧ at_ ≤ (31 : Int)) inferInstance (.go 4 (.kn (.agg [(.int .u8 (.ofNat 5)), (.int .i64 (th)), (.int .i64 (.ofNat 0)), (.int .i64 (.ofNat 0)), (.int .i64 (v)), (.int .i64 (.ofNat 0)), (.int .u8 (.ofNat 0))]) (.ef (.go 2 (.en (.rt 1 .no))) (.go 2 (.en (.rt 1 .no)))))) (.go 8 (.en (.rt 1 .no))))) (.go 16 (.en (.rt 1 .no))))) (.go 23 (.en (.rt 1 .no))))) (.go 28 (.en (.rt 1 .no))))))))))))))))))))
  (And.intro (withinL_t (n := 6) (a := 1) (b := 6) (by decide))
  (And.intro (withinL_t (n := 32) (a := 1) (b := 32) (by decide))
  (And.intro (withinL_t (n := 32) (a := 1) (b := 32) (by decide))
  (And.intro (withinL_p th (0 : Int) (5 : Int)) (tfk ((0 : Int) ≤ th ∧ th ≤ (5 : Int)) (fun h1 => (And.intro (withinL_p tx (0 : Int) (5 : Int)) (tfk ((0 : Int) ≤ tx ∧ tx ≤ (5 : Int)) (fun h2 => (And.intro (withinL_p v (1 : Int) (1099511627776 : Int)) (tfk ((1 : Int) ≤ v ∧ v ≤ (1099511627776 : Int)) (fun h3 => (And.intro (withinL_p at_ (0 : Int) (31 : Int)) (tfk ((0 : Int) ≤ at_ ∧ at_ ≤ (31 : Int)) (fun h4 => (And.intro (bareL_5 ho)
  (te7 5 5 th th tx 0 at_ 0 v v x 0 why 0 (fun h5 => (mT 5 th tx at_ v x why (by omega)))
  (fun h5 => (mF 5 th tx at_ v x why (by omega))))))
  (fun h4 => (mF 5 th tx at_ v x why (by omega))))))
  (fun h3 => (mF 5 th tx at_ v x why (by omega))))))
  (fun h2 => (mF 5 th tx at_ v x why (by omega))))))
  (fun h1 => (mF 5 th tx at_ v x why (by omega))))))))
set_option maxHeartbeats 8000000 in
theorem may_6 {B : Base} {F : Nat → Option (List AV)} (hc : CallSim Tryz.prog B (arunI Tryz.prog spI F 6)) (hl : ∀ t a, Local (arunI Tryz.prog spI F 6 t a)) {th tx at_ v x why : Int} (ho : EvOk (⟨6, th, tx, at_, v, x, why⟩ : Ev)) :
    Sim Tryz.prog B 270 (Fin Tryz.prog Tryz.f22.results.toList fun y _ => y = .bool (decide (MayE (⟨6, th, tx, at_, v, x, why⟩ : Ev)))) ⟨22, (trOf [(0, (.agg [(.int .u8 (.ofNat 6)), (.int .i64 (th)), (.int .i64 (tx)), (.int .i64 (at_)), (.int .i64 (v)), (.int .i64 (x)), (.int .u8 (why))])), (1, (.int .i64 (.ofNat 6))), (2, (.int .i64 (.ofNat 32))), (3, (.int .i64 (.ofNat 32)))]), 90, [.code (cAt Tryz.prog 22 [])], [], none⟩ (stOf (kn1) 270) := by
 have ho' := ho; simp only [EvOk, i64In] at ho'
 exact wp_sim (env_ok okI) rfl hmix hc hl 400 (.st 6 (.rg (.go 2 (.kn (.bool true) (.go 4 (.kn (.bool true) (.go 6 (.kn (.bool true) (.go 5 (.il (.rt 5 (.go 2 (.en (.st 23 (.rg (.go 5 (.kp ((0 : Int) ≤ th ∧ th ≤ (5 : Int)) inferInstance (.go 4 (.kp ((0 : Int) ≤ tx ∧ tx ≤ (5 : Int)) inferInstance (.go 6 (.kp ((0 : Int) ≤ v ∧ v ≤ (1099511627776 : Int)) inferInstance (.go 7 (.kp ((0 : Int) ≤ at_ ∧ at_ ≤ (31 : Int)) inferInstance (.go 4 (.kn (.agg [(.int .u8 (.ofNat 6)), (.int .i64 (th)), (.int .i64 (.ofNat 0)), (.int .i64 (at_)), (.int .i64 (.ofNat 0)), (.int .i64 (.ofNat 0)), (.int .u8 (.ofNat 0))]) (.ef (.go 2 (.en (.rt 1 .no))) (.go 2 (.en (.rt 1 .no)))))) (.go 8 (.en (.rt 1 .no))))) (.go 16 (.en (.rt 1 .no))))) (.go 23 (.en (.rt 1 .no))))) (.go 28 (.en (.rt 1 .no))))))))))))))))))))
  (And.intro (withinL_t (n := 6) (a := 1) (b := 6) (by decide))
  (And.intro (withinL_t (n := 32) (a := 1) (b := 32) (by decide))
  (And.intro (withinL_t (n := 32) (a := 1) (b := 32) (by decide))
  (And.intro (withinL_p th (0 : Int) (5 : Int)) (tfk ((0 : Int) ≤ th ∧ th ≤ (5 : Int)) (fun h1 => (And.intro (withinL_p tx (0 : Int) (5 : Int)) (tfk ((0 : Int) ≤ tx ∧ tx ≤ (5 : Int)) (fun h2 => (And.intro (withinL_p v (0 : Int) (1099511627776 : Int)) (tfk ((0 : Int) ≤ v ∧ v ≤ (1099511627776 : Int)) (fun h3 => (And.intro (withinL_p at_ (0 : Int) (31 : Int)) (tfk ((0 : Int) ≤ at_ ∧ at_ ≤ (31 : Int)) (fun h4 => (And.intro (bareL_6 ho)
  (te7 6 6 th th tx 0 at_ at_ v 0 x 0 why 0 (fun h5 => (mT 6 th tx at_ v x why (by omega)))
  (fun h5 => (mF 6 th tx at_ v x why (by omega))))))
  (fun h4 => (mF 6 th tx at_ v x why (by omega))))))
  (fun h3 => (mF 6 th tx at_ v x why (by omega))))))
  (fun h2 => (mF 6 th tx at_ v x why (by omega))))))
  (fun h1 => (mF 6 th tx at_ v x why (by omega))))))))
set_option maxHeartbeats 8000000 in
theorem may_7 {B : Base} {F : Nat → Option (List AV)} (hc : CallSim Tryz.prog B (arunI Tryz.prog spI F 6)) (hl : ∀ t a, Local (arunI Tryz.prog spI F 6 t a)) {th tx at_ v x why : Int} (ho : EvOk (⟨7, th, tx, at_, v, x, why⟩ : Ev)) :
    Sim Tryz.prog B 270 (Fin Tryz.prog Tryz.f22.results.toList fun y _ => y = .bool (decide (MayE (⟨7, th, tx, at_, v, x, why⟩ : Ev)))) ⟨22, (trOf [(0, (.agg [(.int .u8 (.ofNat 7)), (.int .i64 (th)), (.int .i64 (tx)), (.int .i64 (at_)), (.int .i64 (v)), (.int .i64 (x)), (.int .u8 (why))])), (1, (.int .i64 (.ofNat 6))), (2, (.int .i64 (.ofNat 32))), (3, (.int .i64 (.ofNat 32)))]), 90, [.code (cAt Tryz.prog 22 [])], [], none⟩ (stOf (kn1) 270) := by
 have ho' := ho; simp only [EvOk, i64In] at ho'
 exact wp_sim (env_ok okI) rfl hmix hc hl 400 (.st 6 (.rg (.go 2 (.kn (.bool true) (.go 4 (.kn (.bool true) (.go 6 (.kn (.bool true) (.go 5 (.il (.rt 5 (.go 2 (.en (.st 23 (.rg (.go 5 (.kp ((0 : Int) ≤ th ∧ th ≤ (5 : Int)) inferInstance (.go 4 (.kp ((0 : Int) ≤ tx ∧ tx ≤ (5 : Int)) inferInstance (.go 6 (.kp ((0 : Int) ≤ v ∧ v ≤ (1099511627776 : Int)) inferInstance (.go 7 (.kp ((0 : Int) ≤ at_ ∧ at_ ≤ (31 : Int)) inferInstance (.go 4 (.kn (.agg [(.int .u8 (.ofNat 7)), (.int .i64 (th)), (.int .i64 (.ofNat 0)), (.int .i64 (.ofNat 0)), (.int .i64 (v)), (.int .i64 (.ofNat 0)), (.int .u8 (.ofNat 0))]) (.ef (.go 2 (.en (.rt 1 .no))) (.go 2 (.en (.rt 1 .no)))))) (.go 8 (.en (.rt 1 .no))))) (.go 16 (.en (.rt 1 .no))))) (.go 23 (.en (.rt 1 .no))))) (.go 28 (.en (.rt 1 .no))))))))))))))))))))
  (And.intro (withinL_t (n := 6) (a := 1) (b := 6) (by decide))
  (And.intro (withinL_t (n := 32) (a := 1) (b := 32) (by decide))
  (And.intro (withinL_t (n := 32) (a := 1) (b := 32) (by decide))
  (And.intro (withinL_p th (0 : Int) (5 : Int)) (tfk ((0 : Int) ≤ th ∧ th ≤ (5 : Int)) (fun h1 => (And.intro (withinL_p tx (0 : Int) (5 : Int)) (tfk ((0 : Int) ≤ tx ∧ tx ≤ (5 : Int)) (fun h2 => (And.intro (withinL_p v (0 : Int) (1099511627776 : Int)) (tfk ((0 : Int) ≤ v ∧ v ≤ (1099511627776 : Int)) (fun h3 => (And.intro (withinL_p at_ (0 : Int) (31 : Int)) (tfk ((0 : Int) ≤ at_ ∧ at_ ≤ (31 : Int)) (fun h4 => (And.intro (bareL_7 ho)
  (te7 7 7 th th tx 0 at_ 0 v v x 0 why 0 (fun h5 => (mT 7 th tx at_ v x why (by omega)))
  (fun h5 => (mF 7 th tx at_ v x why (by omega))))))
  (fun h4 => (mF 7 th tx at_ v x why (by omega))))))
  (fun h3 => (mF 7 th tx at_ v x why (by omega))))))
  (fun h2 => (mF 7 th tx at_ v x why (by omega))))))
  (fun h1 => (mF 7 th tx at_ v x why (by omega))))))))
set_option maxHeartbeats 8000000 in
theorem may_8 {B : Base} {F : Nat → Option (List AV)} (hc : CallSim Tryz.prog B (arunI Tryz.prog spI F 6)) (hl : ∀ t a, Local (arunI Tryz.prog spI F 6 t a)) {th tx at_ v x why : Int} (ho : EvOk (⟨8, th, tx, at_, v, x, why⟩ : Ev)) :
    Sim Tryz.prog B 270 (Fin Tryz.prog Tryz.f22.results.toList fun y _ => y = .bool (decide (MayE (⟨8, th, tx, at_, v, x, why⟩ : Ev)))) ⟨22, (trOf [(0, (.agg [(.int .u8 (.ofNat 8)), (.int .i64 (th)), (.int .i64 (tx)), (.int .i64 (at_)), (.int .i64 (v)), (.int .i64 (x)), (.int .u8 (why))])), (1, (.int .i64 (.ofNat 6))), (2, (.int .i64 (.ofNat 32))), (3, (.int .i64 (.ofNat 32)))]), 90, [.code (cAt Tryz.prog 22 [])], [], none⟩ (stOf (kn1) 270) := by
 have ho' := ho; simp only [EvOk, i64In] at ho'
 exact wp_sim (env_ok okI) rfl hmix hc hl 400 (.st 6 (.rg (.go 2 (.kn (.bool true) (.go 4 (.kn (.bool true) (.go 6 (.kn (.bool true) (.go 5 (.il (.rt 5 (.go 2 (.en (.st 20 (.rg (.go 5 (.kp ((0 : Int) ≤ th ∧ th ≤ (5 : Int)) inferInstance (.go 4 (.kp ((0 : Int) ≤ tx ∧ tx ≤ (5 : Int)) inferInstance (.go 6 (.kp ((0 : Int) ≤ v ∧ v ≤ (1099511627776 : Int)) inferInstance (.go 7 (.kp ((0 : Int) ≤ at_ ∧ at_ ≤ (31 : Int)) inferInstance (.go 4 (.kn (.agg [(.int .u8 (.ofNat 8)), (.int .i64 (th)), (.int .i64 (.ofNat 0)), (.int .i64 (at_)), (.int .i64 (.ofNat 0)), (.int .i64 (x)), (.int .u8 (.ofNat 0))]) (.ef (.go 2 (.en (.rt 1 .no))) (.go 2 (.en (.rt 1 .no)))))) (.go 8 (.en (.rt 1 .no))))) (.go 16 (.en (.rt 1 .no))))) (.go 23 (.en (.rt 1 .no))))) (.go 28 (.en (.rt 1 .no))))))))))))))))))))
  (And.intro (withinL_t (n := 6) (a := 1) (b := 6) (by decide))
  (And.intro (withinL_t (n := 32) (a := 1) (b := 32) (by decide))
  (And.intro (withinL_t (n := 32) (a := 1) (b := 32) (by decide))
  (And.intro (withinL_p th (0 : Int) (5 : Int)) (tfk ((0 : Int) ≤ th ∧ th ≤ (5 : Int)) (fun h1 => (And.intro (withinL_p tx (0 : Int) (5 : Int)) (tfk ((0 : Int) ≤ tx ∧ tx ≤ (5 : Int)) (fun h2 => (And.intro (withinL_p v (0 : Int) (1099511627776 : Int)) (tfk ((0 : Int) ≤ v ∧ v ≤ (1099511627776 : Int)) (fun h3 => (And.intro (withinL_p at_ (0 : Int) (31 : Int)) (tfk ((0 : Int) ≤ at_ ∧ at_ ≤ (31 : Int)) (fun h4 => (And.intro (bareL_8 ho)
  (te7 8 8 th th tx 0 at_ at_ v 0 x x why 0 (fun h5 => (mT 8 th tx at_ v x why (by omega)))
  (fun h5 => (mF 8 th tx at_ v x why (by omega))))))
  (fun h4 => (mF 8 th tx at_ v x why (by omega))))))
  (fun h3 => (mF 8 th tx at_ v x why (by omega))))))
  (fun h2 => (mF 8 th tx at_ v x why (by omega))))))
  (fun h1 => (mF 8 th tx at_ v x why (by omega))))))))
set_option maxHeartbeats 8000000 in
theorem may_9 {B : Base} {F : Nat → Option (List AV)} (hc : CallSim Tryz.prog B (arunI Tryz.prog spI F 6)) (hl : ∀ t a, Local (arunI Tryz.prog spI F 6 t a)) {th tx at_ v x why : Int} (ho : EvOk (⟨9, th, tx, at_, v, x, why⟩ : Ev)) :
    Sim Tryz.prog B 270 (Fin Tryz.prog Tryz.f22.results.toList fun y _ => y = .bool (decide (MayE (⟨9, th, tx, at_, v, x, why⟩ : Ev)))) ⟨22, (trOf [(0, (.agg [(.int .u8 (.ofNat 9)), (.int .i64 (th)), (.int .i64 (tx)), (.int .i64 (at_)), (.int .i64 (v)), (.int .i64 (x)), (.int .u8 (why))])), (1, (.int .i64 (.ofNat 6))), (2, (.int .i64 (.ofNat 32))), (3, (.int .i64 (.ofNat 32)))]), 90, [.code (cAt Tryz.prog 22 [])], [], none⟩ (stOf (kn1) 270) := by
 have ho' := ho; simp only [EvOk, i64In] at ho'
 exact wp_sim (env_ok okI) rfl hmix hc hl 400 (.st 6 (.rg (.go 2 (.kn (.bool true) (.go 4 (.kn (.bool true) (.go 6 (.kn (.bool true) (.go 5 (.il (.rt 5 (.go 2 (.en (.st 23 (.rg (.go 5 (.kp ((0 : Int) ≤ th ∧ th ≤ (5 : Int)) inferInstance (.go 4 (.kp ((0 : Int) ≤ tx ∧ tx ≤ (5 : Int)) inferInstance (.go 6 (.kp ((0 : Int) ≤ v ∧ v ≤ (1099511627776 : Int)) inferInstance (.go 7 (.kp ((0 : Int) ≤ at_ ∧ at_ ≤ (31 : Int)) inferInstance (.go 4 (.kn (.agg [(.int .u8 (.ofNat 9)), (.int .i64 (th)), (.int .i64 (.ofNat 0)), (.int .i64 (at_)), (.int .i64 (.ofNat 0)), (.int .i64 (.ofNat 0)), (.int .u8 (.ofNat 0))]) (.ef (.go 2 (.en (.rt 1 .no))) (.go 2 (.en (.rt 1 .no)))))) (.go 8 (.en (.rt 1 .no))))) (.go 16 (.en (.rt 1 .no))))) (.go 23 (.en (.rt 1 .no))))) (.go 28 (.en (.rt 1 .no))))))))))))))))))))
  (And.intro (withinL_t (n := 6) (a := 1) (b := 6) (by decide))
  (And.intro (withinL_t (n := 32) (a := 1) (b := 32) (by decide))
  (And.intro (withinL_t (n := 32) (a := 1) (b := 32) (by decide))
  (And.intro (withinL_p th (0 : Int) (5 : Int)) (tfk ((0 : Int) ≤ th ∧ th ≤ (5 : Int)) (fun h1 => (And.intro (withinL_p tx (0 : Int) (5 : Int)) (tfk ((0 : Int) ≤ tx ∧ tx ≤ (5 : Int)) (fun h2 => (And.intro (withinL_p v (0 : Int) (1099511627776 : Int)) (tfk ((0 : Int) ≤ v ∧ v ≤ (1099511627776 : Int)) (fun h3 => (And.intro (withinL_p at_ (0 : Int) (31 : Int)) (tfk ((0 : Int) ≤ at_ ∧ at_ ≤ (31 : Int)) (fun h4 => (And.intro (bareL_9 ho)
  (te7 9 9 th th tx 0 at_ at_ v 0 x 0 why 0 (fun h5 => (mT 9 th tx at_ v x why (by omega)))
  (fun h5 => (mF 9 th tx at_ v x why (by omega))))))
  (fun h4 => (mF 9 th tx at_ v x why (by omega))))))
  (fun h3 => (mF 9 th tx at_ v x why (by omega))))))
  (fun h2 => (mF 9 th tx at_ v x why (by omega))))))
  (fun h1 => (mF 9 th tx at_ v x why (by omega))))))))
set_option maxHeartbeats 8000000 in
theorem may_10 {B : Base} {F : Nat → Option (List AV)} (hc : CallSim Tryz.prog B (arunI Tryz.prog spI F 6)) (hl : ∀ t a, Local (arunI Tryz.prog spI F 6 t a)) {th tx at_ v x why : Int} (ho : EvOk (⟨10, th, tx, at_, v, x, why⟩ : Ev)) :
    Sim Tryz.prog B 270 (Fin Tryz.prog Tryz.f22.results.toList fun y _ => y = .bool (decide (MayE (⟨10, th, tx, at_, v, x, why⟩ : Ev)))) ⟨22, (trOf [(0, (.agg [(.int .u8 (.ofNat 10)), (.int .i64 (th)), (.int .i64 (tx)), (.int .i64 (at_)), (.int .i64 (v)), (.int .i64 (x)), (.int .u8 (why))])), (1, (.int .i64 (.ofNat 6))), (2, (.int .i64 (.ofNat 32))), (3, (.int .i64 (.ofNat 32)))]), 90, [.code (cAt Tryz.prog 22 [])], [], none⟩ (stOf (kn1) 270) := by
 have ho' := ho; simp only [EvOk, i64In] at ho'
 exact wp_sim (env_ok okI) rfl hmix hc hl 400 (.st 6 (.rg (.go 2 (.kn (.bool true) (.go 4 (.kn (.bool true) (.go 6 (.kn (.bool true) (.go 5 (.il (.rt 5 (.go 2 (.en (.st 22 (.rg (.go 2 (.fk (.en (.st 3 (.rg (.go 2 (.fk (.go 5 (.en (.rt 4 .no))) (.go 3 (.fk (.go 1 (.en (.rt 4 .no))) (.go 1 (.en (.st 4 (.rg (.go 5 (.kp ((0 : Int) ≤ th ∧ th ≤ (5 : Int)) inferInstance (.go 4 (.kp ((0 : Int) ≤ tx ∧ tx ≤ (5 : Int)) inferInstance (.go 6 (.kp ((0 : Int) ≤ v ∧ v ≤ (1099511627776 : Int)) inferInstance (.go 7 (.kp ((0 : Int) ≤ at_ ∧ at_ ≤ (0 : Int)) inferInstance (.go 4 (.kn (.agg [(.int .u8 (.ofNat 10)), (.int .i64 (th)), (.int .i64 (.ofNat 0)), (.int .i64 (at_)), (.int .i64 (.ofNat 0)), (.int .i64 (.ofNat 0)), (.int .u8 (why))]) (.ef (.go 2 (.en (.rt 1 .no))) (.go 2 (.en (.rt 1 .no)))))) (.go 8 (.en (.rt 1 .no))))) (.go 16 (.en (.rt 1 .no))))) (.go 23 (.en (.rt 1 .no))))) (.go 28 (.en (.rt 1 .no)))))))))))))))) (.en (.st 3 (.rg (.go 2 (.fk (.go 5 (.en (.rt 4 .no))) (.go 3 (.fk (.go 1 (.en (.rt 4 .no))) (.go 1 (.en (.st 4 (.rg (.go 5 (.kp ((0 : Int) ≤ th ∧ th ≤ (5 : Int)) inferInstance (.go 4 (.kp ((0 : Int) ≤ tx ∧ tx ≤ (5 : Int)) inferInstance (.go 6 (.kp ((0 : Int) ≤ v ∧ v ≤ (1099511627776 : Int)) inferInstance (.go 7 (.kp ((0 : Int) ≤ at_ ∧ at_ ≤ (31 : Int)) inferInstance (.go 4 (.kn (.agg [(.int .u8 (.ofNat 10)), (.int .i64 (th)), (.int .i64 (.ofNat 0)), (.int .i64 (at_)), (.int .i64 (.ofNat 0)), (.int .i64 (.ofNat 0)), (.int .u8 (why))]) (.ef (.go 2 (.en (.rt 1 .no))) (.go 2 (.en (.rt 1 .no)))))) (.go 8 (.en (.rt 1 .no))))) (.go 16 (.en (.rt 1 .no))))) (.go 23 (.en (.rt 1 .no))))) (.go 28 (.en (.rt 1 .no)))))))))))))))))))))))))))))))))
  (And.intro (withinL_t (n := 6) (a := 1) (b := 6) (by decide))
  (And.intro (withinL_t (n := 32) (a := 1) (b := 32) (by decide))
  (And.intro (withinL_t (n := 32) (a := 1) (b := 32) (by decide))
  (tfk (why = 6) (fun h1 => (tfk (why < 1) (fun h2 => (mF 10 th tx at_ v x why (by omega)))
  (fun h2 => (tfk (why > 6) (fun h3 => (mF 10 th tx at_ v x why (by omega)))
  (fun h3 => (And.intro (withinL_p th (0 : Int) (5 : Int)) (tfk ((0 : Int) ≤ th ∧ th ≤ (5 : Int)) (fun h4 => (And.intro (withinL_p tx (0 : Int) (5 : Int)) (tfk ((0 : Int) ≤ tx ∧ tx ≤ (5 : Int)) (fun h5 => (And.intro (withinL_p v (0 : Int) (1099511627776 : Int)) (tfk ((0 : Int) ≤ v ∧ v ≤ (1099511627776 : Int)) (fun h6 => (And.intro (withinL_p at_ (0 : Int) (0 : Int)) (tfk ((0 : Int) ≤ at_ ∧ at_ ≤ (0 : Int)) (fun h7 => (And.intro (bareL_10 ho)
  (te7 10 10 th th tx 0 at_ at_ v 0 x 0 why why (fun h8 => (mT 10 th tx at_ v x why (by omega)))
  (fun h8 => (mF 10 th tx at_ v x why (by omega))))))
  (fun h7 => (mF 10 th tx at_ v x why (by omega))))))
  (fun h6 => (mF 10 th tx at_ v x why (by omega))))))
  (fun h5 => (mF 10 th tx at_ v x why (by omega))))))
  (fun h4 => (mF 10 th tx at_ v x why (by omega))))))))))
  (fun h1 => (tfk (why < 1) (fun h9 => (mF 10 th tx at_ v x why (by omega)))
  (fun h9 => (tfk (why > 6) (fun h10 => (mF 10 th tx at_ v x why (by omega)))
  (fun h10 => (And.intro (withinL_p th (0 : Int) (5 : Int)) (tfk ((0 : Int) ≤ th ∧ th ≤ (5 : Int)) (fun h11 => (And.intro (withinL_p tx (0 : Int) (5 : Int)) (tfk ((0 : Int) ≤ tx ∧ tx ≤ (5 : Int)) (fun h12 => (And.intro (withinL_p v (0 : Int) (1099511627776 : Int)) (tfk ((0 : Int) ≤ v ∧ v ≤ (1099511627776 : Int)) (fun h13 => (And.intro (withinL_p at_ (0 : Int) (31 : Int)) (tfk ((0 : Int) ≤ at_ ∧ at_ ≤ (31 : Int)) (fun h14 => (And.intro (bareL_10 ho)
  (te7 10 10 th th tx 0 at_ at_ v 0 x 0 why why (fun h15 => (mT 10 th tx at_ v x why (by omega)))
  (fun h15 => (mF 10 th tx at_ v x why (by omega))))))
  (fun h14 => (mF 10 th tx at_ v x why (by omega))))))
  (fun h13 => (mF 10 th tx at_ v x why (by omega))))))
  (fun h12 => (mF 10 th tx at_ v x why (by omega))))))
  (fun h11 => (mF 10 th tx at_ v x why (by omega))))))))))))))
set_option maxHeartbeats 8000000 in
theorem may_11 {B : Base} {F : Nat → Option (List AV)} (hc : CallSim Tryz.prog B (arunI Tryz.prog spI F 6)) (hl : ∀ t a, Local (arunI Tryz.prog spI F 6 t a)) {th tx at_ v x why : Int} (ho : EvOk (⟨11, th, tx, at_, v, x, why⟩ : Ev)) :
    Sim Tryz.prog B 270 (Fin Tryz.prog Tryz.f22.results.toList fun y _ => y = .bool (decide (MayE (⟨11, th, tx, at_, v, x, why⟩ : Ev)))) ⟨22, (trOf [(0, (.agg [(.int .u8 (.ofNat 11)), (.int .i64 (th)), (.int .i64 (tx)), (.int .i64 (at_)), (.int .i64 (v)), (.int .i64 (x)), (.int .u8 (why))])), (1, (.int .i64 (.ofNat 6))), (2, (.int .i64 (.ofNat 32))), (3, (.int .i64 (.ofNat 32)))]), 90, [.code (cAt Tryz.prog 22 [])], [], none⟩ (stOf (kn1) 270) := by
 have ho' := ho; simp only [EvOk, i64In] at ho'
 exact wp_sim (env_ok okI) rfl hmix hc hl 400 (.st 6 (.rg (.go 2 (.kn (.bool true) (.go 4 (.kn (.bool true) (.go 6 (.kn (.bool true) (.go 5 (.il (.rt 5 (.go 2 (.en (.st 23 (.rg (.go 5 (.kp ((0 : Int) ≤ th ∧ th ≤ (5 : Int)) inferInstance (.go 4 (.kp ((0 : Int) ≤ tx ∧ tx ≤ (5 : Int)) inferInstance (.go 6 (.kp ((0 : Int) ≤ v ∧ v ≤ (1099511627776 : Int)) inferInstance (.go 7 (.kp ((0 : Int) ≤ at_ ∧ at_ ≤ (31 : Int)) inferInstance (.go 4 (.kn (.agg [(.int .u8 (.ofNat 11)), (.int .i64 (th)), (.int .i64 (.ofNat 0)), (.int .i64 (at_)), (.int .i64 (.ofNat 0)), (.int .i64 (.ofNat 0)), (.int .u8 (.ofNat 0))]) (.ef (.go 2 (.en (.rt 1 .no))) (.go 2 (.en (.rt 1 .no)))))) (.go 8 (.en (.rt 1 .no))))) (.go 16 (.en (.rt 1 .no))))) (.go 23 (.en (.rt 1 .no))))) (.go 28 (.en (.rt 1 .no))))))))))))))))))))
  (And.intro (withinL_t (n := 6) (a := 1) (b := 6) (by decide))
  (And.intro (withinL_t (n := 32) (a := 1) (b := 32) (by decide))
  (And.intro (withinL_t (n := 32) (a := 1) (b := 32) (by decide))
  (And.intro (withinL_p th (0 : Int) (5 : Int)) (tfk ((0 : Int) ≤ th ∧ th ≤ (5 : Int)) (fun h1 => (And.intro (withinL_p tx (0 : Int) (5 : Int)) (tfk ((0 : Int) ≤ tx ∧ tx ≤ (5 : Int)) (fun h2 => (And.intro (withinL_p v (0 : Int) (1099511627776 : Int)) (tfk ((0 : Int) ≤ v ∧ v ≤ (1099511627776 : Int)) (fun h3 => (And.intro (withinL_p at_ (0 : Int) (31 : Int)) (tfk ((0 : Int) ≤ at_ ∧ at_ ≤ (31 : Int)) (fun h4 => (And.intro (bareL_11 ho)
  (te7 11 11 th th tx 0 at_ at_ v 0 x 0 why 0 (fun h5 => (mT 11 th tx at_ v x why (by omega)))
  (fun h5 => (mF 11 th tx at_ v x why (by omega))))))
  (fun h4 => (mF 11 th tx at_ v x why (by omega))))))
  (fun h3 => (mF 11 th tx at_ v x why (by omega))))))
  (fun h2 => (mF 11 th tx at_ v x why (by omega))))))
  (fun h1 => (mF 11 th tx at_ v x why (by omega))))))))
set_option maxHeartbeats 8000000 in
theorem may_12 {B : Base} {F : Nat → Option (List AV)} (hc : CallSim Tryz.prog B (arunI Tryz.prog spI F 6)) (hl : ∀ t a, Local (arunI Tryz.prog spI F 6 t a)) {th tx at_ v x why : Int} (ho : EvOk (⟨12, th, tx, at_, v, x, why⟩ : Ev)) :
    Sim Tryz.prog B 270 (Fin Tryz.prog Tryz.f22.results.toList fun y _ => y = .bool (decide (MayE (⟨12, th, tx, at_, v, x, why⟩ : Ev)))) ⟨22, (trOf [(0, (.agg [(.int .u8 (.ofNat 12)), (.int .i64 (th)), (.int .i64 (tx)), (.int .i64 (at_)), (.int .i64 (v)), (.int .i64 (x)), (.int .u8 (why))])), (1, (.int .i64 (.ofNat 6))), (2, (.int .i64 (.ofNat 32))), (3, (.int .i64 (.ofNat 32)))]), 90, [.code (cAt Tryz.prog 22 [])], [], none⟩ (stOf (kn1) 270) := by
 have ho' := ho; simp only [EvOk, i64In] at ho'
 exact wp_sim (env_ok okI) rfl hmix hc hl 400 (.st 6 (.rg (.go 2 (.kn (.bool true) (.go 4 (.kn (.bool true) (.go 6 (.kn (.bool true) (.go 5 (.il (.rt 5 (.go 2 (.en (.st 23 (.rg (.go 5 (.kp ((0 : Int) ≤ th ∧ th ≤ (5 : Int)) inferInstance (.go 4 (.kp ((0 : Int) ≤ tx ∧ tx ≤ (5 : Int)) inferInstance (.go 6 (.kp ((0 : Int) ≤ v ∧ v ≤ (1099511627776 : Int)) inferInstance (.go 7 (.kp ((0 : Int) ≤ at_ ∧ at_ ≤ (31 : Int)) inferInstance (.go 4 (.kn (.agg [(.int .u8 (.ofNat 12)), (.int .i64 (th)), (.int .i64 (.ofNat 0)), (.int .i64 (.ofNat 0)), (.int .i64 (.ofNat 0)), (.int .i64 (.ofNat 0)), (.int .u8 (.ofNat 0))]) (.ef (.go 2 (.en (.rt 1 .no))) (.go 2 (.en (.rt 1 .no)))))) (.go 8 (.en (.rt 1 .no))))) (.go 16 (.en (.rt 1 .no))))) (.go 23 (.en (.rt 1 .no))))) (.go 28 (.en (.rt 1 .no))))))))))))))))))))
  (And.intro (withinL_t (n := 6) (a := 1) (b := 6) (by decide))
  (And.intro (withinL_t (n := 32) (a := 1) (b := 32) (by decide))
  (And.intro (withinL_t (n := 32) (a := 1) (b := 32) (by decide))
  (And.intro (withinL_p th (0 : Int) (5 : Int)) (tfk ((0 : Int) ≤ th ∧ th ≤ (5 : Int)) (fun h1 => (And.intro (withinL_p tx (0 : Int) (5 : Int)) (tfk ((0 : Int) ≤ tx ∧ tx ≤ (5 : Int)) (fun h2 => (And.intro (withinL_p v (0 : Int) (1099511627776 : Int)) (tfk ((0 : Int) ≤ v ∧ v ≤ (1099511627776 : Int)) (fun h3 => (And.intro (withinL_p at_ (0 : Int) (31 : Int)) (tfk ((0 : Int) ≤ at_ ∧ at_ ≤ (31 : Int)) (fun h4 => (And.intro (bareL_12 ho)
  (te7 12 12 th th tx 0 at_ 0 v 0 x 0 why 0 (fun h5 => (mT 12 th tx at_ v x why (by omega)))
  (fun h5 => (mF 12 th tx at_ v x why (by omega))))))
  (fun h4 => (mF 12 th tx at_ v x why (by omega))))))
  (fun h3 => (mF 12 th tx at_ v x why (by omega))))))
  (fun h2 => (mF 12 th tx at_ v x why (by omega))))))
  (fun h1 => (mF 12 th tx at_ v x why (by omega))))))))
set_option maxHeartbeats 8000000 in
theorem may_13 {B : Base} {F : Nat → Option (List AV)} (hc : CallSim Tryz.prog B (arunI Tryz.prog spI F 6)) (hl : ∀ t a, Local (arunI Tryz.prog spI F 6 t a)) {th tx at_ v x why : Int} (ho : EvOk (⟨13, th, tx, at_, v, x, why⟩ : Ev)) :
    Sim Tryz.prog B 270 (Fin Tryz.prog Tryz.f22.results.toList fun y _ => y = .bool (decide (MayE (⟨13, th, tx, at_, v, x, why⟩ : Ev)))) ⟨22, (trOf [(0, (.agg [(.int .u8 (.ofNat 13)), (.int .i64 (th)), (.int .i64 (tx)), (.int .i64 (at_)), (.int .i64 (v)), (.int .i64 (x)), (.int .u8 (why))])), (1, (.int .i64 (.ofNat 6))), (2, (.int .i64 (.ofNat 32))), (3, (.int .i64 (.ofNat 32)))]), 90, [.code (cAt Tryz.prog 22 [])], [], none⟩ (stOf (kn1) 270) := by
 have ho' := ho; simp only [EvOk, i64In] at ho'
 exact wp_sim (env_ok okI) rfl hmix hc hl 400 (.st 6 (.rg (.go 2 (.kn (.bool true) (.go 4 (.kn (.bool true) (.go 6 (.kn (.bool true) (.go 5 (.il (.rt 5 (.go 2 (.en (.st 23 (.rg (.go 5 (.kp ((0 : Int) ≤ th ∧ th ≤ (5 : Int)) inferInstance (.go 4 (.kp ((0 : Int) ≤ tx ∧ tx ≤ (5 : Int)) inferInstance (.go 6 (.kp ((0 : Int) ≤ v ∧ v ≤ (1099511627776 : Int)) inferInstance (.go 7 (.kp ((0 : Int) ≤ at_ ∧ at_ ≤ (31 : Int)) inferInstance (.go 4 (.kn (.agg [(.int .u8 (.ofNat 13)), (.int .i64 (th)), (.int .i64 (.ofNat 0)), (.int .i64 (.ofNat 0)), (.int .i64 (.ofNat 0)), (.int .i64 (.ofNat 0)), (.int .u8 (.ofNat 0))]) (.ef (.go 2 (.en (.rt 1 .no))) (.go 2 (.en (.rt 1 .no)))))) (.go 8 (.en (.rt 1 .no))))) (.go 16 (.en (.rt 1 .no))))) (.go 23 (.en (.rt 1 .no))))) (.go 28 (.en (.rt 1 .no))))))))))))))))))))
  (And.intro (withinL_t (n := 6) (a := 1) (b := 6) (by decide))
  (And.intro (withinL_t (n := 32) (a := 1) (b := 32) (by decide))
  (And.intro (withinL_t (n := 32) (a := 1) (b := 32) (by decide))
  (And.intro (withinL_p th (0 : Int) (5 : Int)) (tfk ((0 : Int) ≤ th ∧ th ≤ (5 : Int)) (fun h1 => (And.intro (withinL_p tx (0 : Int) (5 : Int)) (tfk ((0 : Int) ≤ tx ∧ tx ≤ (5 : Int)) (fun h2 => (And.intro (withinL_p v (0 : Int) (1099511627776 : Int)) (tfk ((0 : Int) ≤ v ∧ v ≤ (1099511627776 : Int)) (fun h3 => (And.intro (withinL_p at_ (0 : Int) (31 : Int)) (tfk ((0 : Int) ≤ at_ ∧ at_ ≤ (31 : Int)) (fun h4 => (And.intro (bareL_13 ho)
  (te7 13 13 th th tx 0 at_ 0 v 0 x 0 why 0 (fun h5 => (mT 13 th tx at_ v x why (by omega)))
  (fun h5 => (mF 13 th tx at_ v x why (by omega))))))
  (fun h4 => (mF 13 th tx at_ v x why (by omega))))))
  (fun h3 => (mF 13 th tx at_ v x why (by omega))))))
  (fun h2 => (mF 13 th tx at_ v x why (by omega))))))
  (fun h1 => (mF 13 th tx at_ v x why (by omega))))))))
set_option maxHeartbeats 8000000 in
theorem may_k {B : Base} {F : Nat → Option (List AV)} (hc : CallSim Tryz.prog B (arunI Tryz.prog spI2 F 6)) (hl : ∀ t a, Local (arunI Tryz.prog spI2 F 6 t a)) {k : Int} (hk : 13 < k) {th tx at_ v x why : Int} (ho : EvOk (⟨k, th, tx, at_, v, x, why⟩ : Ev)) :
    Sim Tryz.prog B 270 (Fin Tryz.prog Tryz.f22.results.toList fun y _ => y = .bool (decide (MayE (⟨k, th, tx, at_, v, x, why⟩ : Ev)))) ⟨22, (trOf [(0, (.agg [(.int .u8 (k)), (.int .i64 (th)), (.int .i64 (tx)), (.int .i64 (at_)), (.int .i64 (v)), (.int .i64 (x)), (.int .u8 (why))])), (1, (.int .i64 (.ofNat 6))), (2, (.int .i64 (.ofNat 32))), (3, (.int .i64 (.ofNat 32)))]), 90, [.code (cAt Tryz.prog 22 [])], [], none⟩ (stOf (kn1) 270) := by
 have ho' := ho; simp only [EvOk, i64In] at ho'
 exact wp_sim (env_ok okI2) rfl hmix hc hl 400 (.st 6 (.rg (.go 2 (.kn (.bool true) (.go 4 (.kn (.bool true) (.go 6 (.kn (.bool true) (.go 5 (.kp ((1 : Int) ≤ k ∧ k ≤ (13 : Int)) inferInstance (.no) (.go 2 (.en (.rt 4 .no)))))))))))))
  (And.intro (withinL_t (n := 6) (a := 1) (b := 6) (by decide))
  (And.intro (withinL_t (n := 32) (a := 1) (b := 32) (by decide))
  (And.intro (withinL_t (n := 32) (a := 1) (b := 32) (by decide))
  (And.intro (knL_p k) (tfk ((1 : Int) ≤ k ∧ k ≤ (13 : Int)) (fun h1 => (show False by omega))
  (fun h1 => (mF k th tx at_ v x why (by omega))))))))
end DtM
