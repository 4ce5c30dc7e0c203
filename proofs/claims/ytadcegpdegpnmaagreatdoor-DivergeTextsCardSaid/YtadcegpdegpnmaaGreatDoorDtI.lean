import Derived.Test.YtadcegpdegpnmaaGreatDoorDtV
open Go Go.Rn Go.RowKit Go.Proofs
set_option maxRecDepth 100000
namespace DtI
open DtP DtS DtV Go.Proofs.YtadcegpdegpnmaaGreatDoor.divergeTexts
set_option maxHeartbeats 8000000 in
theorem show_1 {B : Base} {F : Nat → Option (List AV)} (hc : CallSim Tryz.prog B (arunI Tryz.prog spD F 6)) (hl : ∀ t a, Local (arunI Tryz.prog spD F 6 t a)) {th tx at_ v x why : Int} (ho : EvOk (⟨1, th, tx, at_, v, x, why⟩ : Ev)) (hM : MayE (⟨1, th, tx, at_, v, x, why⟩ : Ev)) :
    Sim Tryz.prog B 270 (Fin Tryz.prog Tryz.f12.results.toList fun y _ => y = .tuple [.str (shT (⟨1, th, tx, at_, v, x, why⟩ : Ev)), .int .i64 (shE (⟨1, th, tx, at_, v, x, why⟩ : Ev))]) ⟨12, (trOf [(0, (.agg [(.int .u8 (.ofNat 1)), (.int .i64 (th)), (.int .i64 (tx)), (.int .i64 (at_)), (.int .i64 (v)), (.int .i64 (x)), (.int .u8 (why))]))]), 79, [.code (cAt Tryz.prog 12 [])], [], none⟩ (stOf (kn1) 270) := by
 have ho' := ho; simp only [EvOk, i64In] at ho'
 have hM' := hM; simp only [MayE, _root_.true_or, _root_.or_true, _root_.true_and, _root_.and_true] at hM'
 exact wp_sim (env_ok okD) rfl hmix hc hl 400 (.st 4 (.rg (.go 1 (.kn (.bool true) (.go 1 (.en (.st 3 (.rg (.go 2 (.kn (.str (itoaB th)) (.ca 20 1 (.go 2 (.il (.rt 10 (.ca 21 5 (.go 1 (.en (.st 23 (.rg (.go 1 (.ca 26 1 (.go 4 (.kn (.str (itoaB tx)) (.ca 27 20 (.go 1 (.en (.st 10 (.rg (.go 1 (.ca 47 1 (.go 4 (.kn (.str (itoaB v)) (.ca 48 20 (.go 1 (.en (.rt 11 .no))))))))))))))))))))))))))))))))))))
  (And.intro (mayL_t ho hM)
  (have hin1 : i64In th := by unfold i64In; omega;
  (And.intro (itoaL_ok hin1)
  (And.intro (itoaB_size hin1) (And.intro (show ByteArray.size ⟨#[32]⟩ ≤ 1 from Nat.le_refl _)
  (And.intro (cat_size (itoaB_size hin1) (show ByteArray.size ⟨#[32]⟩ ≤ 1 from Nat.le_refl _)) (And.intro (show ByteArray.size ⟨#[98, 101, 103, 105, 110]⟩ ≤ 5 from Nat.le_refl _)
  (And.intro (cat_size (cat_size (itoaB_size hin1) (show ByteArray.size ⟨#[32]⟩ ≤ 1 from Nat.le_refl _)) (show ByteArray.size ⟨#[98, 101, 103, 105, 110]⟩ ≤ 5 from Nat.le_refl _)) (And.intro (show ByteArray.size ⟨#[32]⟩ ≤ 1 from Nat.le_refl _)
  (have hin2 : i64In tx := by unfold i64In; omega;
  (And.intro (itoaL_ok hin2)
  (And.intro (cat_size (cat_size (cat_size (itoaB_size hin1) (show ByteArray.size ⟨#[32]⟩ ≤ 1 from Nat.le_refl _)) (show ByteArray.size ⟨#[98, 101, 103, 105, 110]⟩ ≤ 5 from Nat.le_refl _)) (show ByteArray.size ⟨#[32]⟩ ≤ 1 from Nat.le_refl _)) (And.intro (itoaB_size hin2)
  (And.intro (cat_size (cat_size (cat_size (cat_size (itoaB_size hin1) (show ByteArray.size ⟨#[32]⟩ ≤ 1 from Nat.le_refl _)) (show ByteArray.size ⟨#[98, 101, 103, 105, 110]⟩ ≤ 5 from Nat.le_refl _)) (show ByteArray.size ⟨#[32]⟩ ≤ 1 from Nat.le_refl _)) (itoaB_size hin2)) (And.intro (show ByteArray.size ⟨#[32]⟩ ≤ 1 from Nat.le_refl _)
  (have hin3 : i64In v := by unfold i64In; omega;
  (And.intro (itoaL_ok hin3)
  (And.intro (cat_size (cat_size (cat_size (cat_size (cat_size (itoaB_size hin1) (show ByteArray.size ⟨#[32]⟩ ≤ 1 from Nat.le_refl _)) (show ByteArray.size ⟨#[98, 101, 103, 105, 110]⟩ ≤ 5 from Nat.le_refl _)) (show ByteArray.size ⟨#[32]⟩ ≤ 1 from Nat.le_refl _)) (itoaB_size hin2)) (show ByteArray.size ⟨#[32]⟩ ≤ 1 from Nat.le_refl _)) (And.intro (itoaB_size hin3)
  (show_yes hM (textE_1.trans (show text1 (⟨1, th, tx, at_, v, x, why⟩ : Ev) = (((((((itoaB th) ++ (⟨#[32]⟩ : ByteArray)) ++ (⟨#[98, 101, 103, 105, 110]⟩ : ByteArray)) ++ (⟨#[32]⟩ : ByteArray)) ++ (itoaB tx)) ++ (⟨#[32]⟩ : ByteArray)) ++ (itoaB v)) from rfl))))))))))))))))))))))
set_option maxHeartbeats 8000000 in
theorem show_2 {B : Base} {F : Nat → Option (List AV)} (hc : CallSim Tryz.prog B (arunI Tryz.prog spD F 6)) (hl : ∀ t a, Local (arunI Tryz.prog spD F 6 t a)) {th tx at_ v x why : Int} (ho : EvOk (⟨2, th, tx, at_, v, x, why⟩ : Ev)) (hM : MayE (⟨2, th, tx, at_, v, x, why⟩ : Ev)) :
    Sim Tryz.prog B 270 (Fin Tryz.prog Tryz.f12.results.toList fun y _ => y = .tuple [.str (shT (⟨2, th, tx, at_, v, x, why⟩ : Ev)), .int .i64 (shE (⟨2, th, tx, at_, v, x, why⟩ : Ev))]) ⟨12, (trOf [(0, (.agg [(.int .u8 (.ofNat 2)), (.int .i64 (th)), (.int .i64 (tx)), (.int .i64 (at_)), (.int .i64 (v)), (.int .i64 (x)), (.int .u8 (why))]))]), 79, [.code (cAt Tryz.prog 12 [])], [], none⟩ (stOf (kn1) 270) := by
 have ho' := ho; simp only [EvOk, i64In] at ho'
 have hM' := hM; simp only [MayE, _root_.true_or, _root_.or_true, _root_.true_and, _root_.and_true] at hM'
 exact wp_sim (env_ok okD) rfl hmix hc hl 400 (.st 4 (.rg (.go 1 (.kn (.bool true) (.go 1 (.en (.st 3 (.rg (.go 2 (.kn (.str (itoaB th)) (.ca 20 1 (.go 2 (.il (.rt 10 (.ca 21 4 (.go 1 (.en (.st 26 (.rg (.go 1 (.ca 25 1 (.go 4 (.kn (.str (itoaB at_)) (.ca 26 20 (.go 1 (.en (.st 10 (.rg (.go 1 (.ca 46 1 (.go 4 (.kn (.str (itoaB v)) (.ca 47 20 (.go 1 (.en (.rt 11 .no))))))))))))))))))))))))))))))))))))
  (And.intro (mayL_t ho hM)
  (have hin1 : i64In th := by unfold i64In; omega;
  (And.intro (itoaL_ok hin1)
  (And.intro (itoaB_size hin1) (And.intro (show ByteArray.size ⟨#[32]⟩ ≤ 1 from Nat.le_refl _)
  (And.intro (cat_size (itoaB_size hin1) (show ByteArray.size ⟨#[32]⟩ ≤ 1 from Nat.le_refl _)) (And.intro (show ByteArray.size ⟨#[108, 111, 111, 107]⟩ ≤ 4 from Nat.le_refl _)
  (And.intro (cat_size (cat_size (itoaB_size hin1) (show ByteArray.size ⟨#[32]⟩ ≤ 1 from Nat.le_refl _)) (show ByteArray.size ⟨#[108, 111, 111, 107]⟩ ≤ 4 from Nat.le_refl _)) (And.intro (show ByteArray.size ⟨#[32]⟩ ≤ 1 from Nat.le_refl _)
  (have hin2 : i64In at_ := by unfold i64In; omega;
  (And.intro (itoaL_ok hin2)
  (And.intro (cat_size (cat_size (cat_size (itoaB_size hin1) (show ByteArray.size ⟨#[32]⟩ ≤ 1 from Nat.le_refl _)) (show ByteArray.size ⟨#[108, 111, 111, 107]⟩ ≤ 4 from Nat.le_refl _)) (show ByteArray.size ⟨#[32]⟩ ≤ 1 from Nat.le_refl _)) (And.intro (itoaB_size hin2)
  (And.intro (cat_size (cat_size (cat_size (cat_size (itoaB_size hin1) (show ByteArray.size ⟨#[32]⟩ ≤ 1 from Nat.le_refl _)) (show ByteArray.size ⟨#[108, 111, 111, 107]⟩ ≤ 4 from Nat.le_refl _)) (show ByteArray.size ⟨#[32]⟩ ≤ 1 from Nat.le_refl _)) (itoaB_size hin2)) (And.intro (show ByteArray.size ⟨#[32]⟩ ≤ 1 from Nat.le_refl _)
  (have hin3 : i64In v := by unfold i64In; omega;
  (And.intro (itoaL_ok hin3)
  (And.intro (cat_size (cat_size (cat_size (cat_size (cat_size (itoaB_size hin1) (show ByteArray.size ⟨#[32]⟩ ≤ 1 from Nat.le_refl _)) (show ByteArray.size ⟨#[108, 111, 111, 107]⟩ ≤ 4 from Nat.le_refl _)) (show ByteArray.size ⟨#[32]⟩ ≤ 1 from Nat.le_refl _)) (itoaB_size hin2)) (show ByteArray.size ⟨#[32]⟩ ≤ 1 from Nat.le_refl _)) (And.intro (itoaB_size hin3)
  (show_yes hM (textE_2.trans (show text2 (⟨2, th, tx, at_, v, x, why⟩ : Ev) = (((((((itoaB th) ++ (⟨#[32]⟩ : ByteArray)) ++ (⟨#[108, 111, 111, 107]⟩ : ByteArray)) ++ (⟨#[32]⟩ : ByteArray)) ++ (itoaB at_)) ++ (⟨#[32]⟩ : ByteArray)) ++ (itoaB v)) from rfl))))))))))))))))))))))
set_option maxHeartbeats 8000000 in
theorem show_3 {B : Base} {F : Nat → Option (List AV)} (hc : CallSim Tryz.prog B (arunI Tryz.prog spD F 6)) (hl : ∀ t a, Local (arunI Tryz.prog spD F 6 t a)) {th tx at_ v x why : Int} (ho : EvOk (⟨3, th, tx, at_, v, x, why⟩ : Ev)) (hM : MayE (⟨3, th, tx, at_, v, x, why⟩ : Ev)) :
    Sim Tryz.prog B 270 (Fin Tryz.prog Tryz.f12.results.toList fun y _ => y = .tuple [.str (shT (⟨3, th, tx, at_, v, x, why⟩ : Ev)), .int .i64 (shE (⟨3, th, tx, at_, v, x, why⟩ : Ev))]) ⟨12, (trOf [(0, (.agg [(.int .u8 (.ofNat 3)), (.int .i64 (th)), (.int .i64 (tx)), (.int .i64 (at_)), (.int .i64 (v)), (.int .i64 (x)), (.int .u8 (why))]))]), 79, [.code (cAt Tryz.prog 12 [])], [], none⟩ (stOf (kn1) 270) := by
 have ho' := ho; simp only [EvOk, i64In] at ho'
 have hM' := hM; simp only [MayE, _root_.true_or, _root_.or_true, _root_.true_and, _root_.and_true] at hM'
 exact wp_sim (env_ok okD) rfl hmix hc hl 400 (.st 4 (.rg (.go 1 (.kn (.bool true) (.go 1 (.en (.st 3 (.rg (.go 2 (.kn (.str (itoaB th)) (.ca 20 1 (.go 2 (.il (.rt 10 (.ca 21 4 (.go 1 (.en (.st 32 (.rg (.go 1 (.ca 25 1 (.go 4 (.kn (.str (itoaB at_)) (.ca 26 20 (.go 1 (.en (.st 10 (.rg (.go 1 (.ca 46 1 (.go 4 (.kn (.str (itoaB x)) (.ca 47 20 (.go 1 (.en (.rt 11 .no))))))))))))))))))))))))))))))))))))
  (And.intro (mayL_t ho hM)
  (have hin1 : i64In th := by unfold i64In; omega;
  (And.intro (itoaL_ok hin1)
  (And.intro (itoaB_size hin1) (And.intro (show ByteArray.size ⟨#[32]⟩ ≤ 1 from Nat.le_refl _)
  (And.intro (cat_size (itoaB_size hin1) (show ByteArray.size ⟨#[32]⟩ ≤ 1 from Nat.le_refl _)) (And.intro (show ByteArray.size ⟨#[108, 111, 97, 100]⟩ ≤ 4 from Nat.le_refl _)
  (And.intro (cat_size (cat_size (itoaB_size hin1) (show ByteArray.size ⟨#[32]⟩ ≤ 1 from Nat.le_refl _)) (show ByteArray.size ⟨#[108, 111, 97, 100]⟩ ≤ 4 from Nat.le_refl _)) (And.intro (show ByteArray.size ⟨#[32]⟩ ≤ 1 from Nat.le_refl _)
  (have hin2 : i64In at_ := by unfold i64In; omega;
  (And.intro (itoaL_ok hin2)
  (And.intro (cat_size (cat_size (cat_size (itoaB_size hin1) (show ByteArray.size ⟨#[32]⟩ ≤ 1 from Nat.le_refl _)) (show ByteArray.size ⟨#[108, 111, 97, 100]⟩ ≤ 4 from Nat.le_refl _)) (show ByteArray.size ⟨#[32]⟩ ≤ 1 from Nat.le_refl _)) (And.intro (itoaB_size hin2)
  (And.intro (cat_size (cat_size (cat_size (cat_size (itoaB_size hin1) (show ByteArray.size ⟨#[32]⟩ ≤ 1 from Nat.le_refl _)) (show ByteArray.size ⟨#[108, 111, 97, 100]⟩ ≤ 4 from Nat.le_refl _)) (show ByteArray.size ⟨#[32]⟩ ≤ 1 from Nat.le_refl _)) (itoaB_size hin2)) (And.intro (show ByteArray.size ⟨#[32]⟩ ≤ 1 from Nat.le_refl _)
  (have hin3 : i64In x := by unfold i64In; omega;
  (And.intro (itoaL_ok hin3)
  (And.intro (cat_size (cat_size (cat_size (cat_size (cat_size (itoaB_size hin1) (show ByteArray.size ⟨#[32]⟩ ≤ 1 from Nat.le_refl _)) (show ByteArray.size ⟨#[108, 111, 97, 100]⟩ ≤ 4 from Nat.le_refl _)) (show ByteArray.size ⟨#[32]⟩ ≤ 1 from Nat.le_refl _)) (itoaB_size hin2)) (show ByteArray.size ⟨#[32]⟩ ≤ 1 from Nat.le_refl _)) (And.intro (itoaB_size hin3)
  (show_yes hM (textE_3.trans (show text3 (⟨3, th, tx, at_, v, x, why⟩ : Ev) = (((((((itoaB th) ++ (⟨#[32]⟩ : ByteArray)) ++ (⟨#[108, 111, 97, 100]⟩ : ByteArray)) ++ (⟨#[32]⟩ : ByteArray)) ++ (itoaB at_)) ++ (⟨#[32]⟩ : ByteArray)) ++ (itoaB x)) from rfl))))))))))))))))))))))
set_option maxHeartbeats 8000000 in
theorem show_4 {B : Base} {F : Nat → Option (List AV)} (hc : CallSim Tryz.prog B (arunI Tryz.prog spD F 6)) (hl : ∀ t a, Local (arunI Tryz.prog spD F 6 t a)) {th tx at_ v x why : Int} (ho : EvOk (⟨4, th, tx, at_, v, x, why⟩ : Ev)) (hM : MayE (⟨4, th, tx, at_, v, x, why⟩ : Ev)) :
    Sim Tryz.prog B 270 (Fin Tryz.prog Tryz.f12.results.toList fun y _ => y = .tuple [.str (shT (⟨4, th, tx, at_, v, x, why⟩ : Ev)), .int .i64 (shE (⟨4, th, tx, at_, v, x, why⟩ : Ev))]) ⟨12, (trOf [(0, (.agg [(.int .u8 (.ofNat 4)), (.int .i64 (th)), (.int .i64 (tx)), (.int .i64 (at_)), (.int .i64 (v)), (.int .i64 (x)), (.int .u8 (why))]))]), 79, [.code (cAt Tryz.prog 12 [])], [], none⟩ (stOf (kn1) 270) := by
 have ho' := ho; simp only [EvOk, i64In] at ho'
 have hM' := hM; simp only [MayE, _root_.true_or, _root_.or_true, _root_.true_and, _root_.and_true] at hM'
 exact wp_sim (env_ok okD) rfl hmix hc hl 400 (.st 4 (.rg (.go 1 (.kn (.bool true) (.go 1 (.en (.st 3 (.rg (.go 2 (.kn (.str (itoaB th)) (.ca 20 1 (.go 2 (.il (.rt 10 (.ca 21 4 (.go 1 (.en (.st 38 (.rg (.go 1 (.ca 25 1 (.go 4 (.kn (.str (itoaB at_)) (.ca 26 20 (.go 1 (.en (.rt 11 .no)))))))))))))))))))))))))))
  (And.intro (mayL_t ho hM)
  (have hin1 : i64In th := by unfold i64In; omega;
  (And.intro (itoaL_ok hin1)
  (And.intro (itoaB_size hin1) (And.intro (show ByteArray.size ⟨#[32]⟩ ≤ 1 from Nat.le_refl _)
  (And.intro (cat_size (itoaB_size hin1) (show ByteArray.size ⟨#[32]⟩ ≤ 1 from Nat.le_refl _)) (And.intro (show ByteArray.size ⟨#[108, 111, 99, 107]⟩ ≤ 4 from Nat.le_refl _)
  (And.intro (cat_size (cat_size (itoaB_size hin1) (show ByteArray.size ⟨#[32]⟩ ≤ 1 from Nat.le_refl _)) (show ByteArray.size ⟨#[108, 111, 99, 107]⟩ ≤ 4 from Nat.le_refl _)) (And.intro (show ByteArray.size ⟨#[32]⟩ ≤ 1 from Nat.le_refl _)
  (have hin2 : i64In at_ := by unfold i64In; omega;
  (And.intro (itoaL_ok hin2)
  (And.intro (cat_size (cat_size (cat_size (itoaB_size hin1) (show ByteArray.size ⟨#[32]⟩ ≤ 1 from Nat.le_refl _)) (show ByteArray.size ⟨#[108, 111, 99, 107]⟩ ≤ 4 from Nat.le_refl _)) (show ByteArray.size ⟨#[32]⟩ ≤ 1 from Nat.le_refl _)) (And.intro (itoaB_size hin2)
  (show_yes hM (textE_4.trans (show text4 (⟨4, th, tx, at_, v, x, why⟩ : Ev) = (((((itoaB th) ++ (⟨#[32]⟩ : ByteArray)) ++ (⟨#[108, 111, 99, 107]⟩ : ByteArray)) ++ (⟨#[32]⟩ : ByteArray)) ++ (itoaB at_)) from rfl))))))))))))))))
set_option maxHeartbeats 8000000 in
theorem show_5 {B : Base} {F : Nat → Option (List AV)} (hc : CallSim Tryz.prog B (arunI Tryz.prog spD F 6)) (hl : ∀ t a, Local (arunI Tryz.prog spD F 6 t a)) {th tx at_ v x why : Int} (ho : EvOk (⟨5, th, tx, at_, v, x, why⟩ : Ev)) (hM : MayE (⟨5, th, tx, at_, v, x, why⟩ : Ev)) :
    Sim Tryz.prog B 270 (Fin Tryz.prog Tryz.f12.results.toList fun y _ => y = .tuple [.str (shT (⟨5, th, tx, at_, v, x, why⟩ : Ev)), .int .i64 (shE (⟨5, th, tx, at_, v, x, why⟩ : Ev))]) ⟨12, (trOf [(0, (.agg [(.int .u8 (.ofNat 5)), (.int .i64 (th)), (.int .i64 (tx)), (.int .i64 (at_)), (.int .i64 (v)), (.int .i64 (x)), (.int .u8 (why))]))]), 79, [.code (cAt Tryz.prog 12 [])], [], none⟩ (stOf (kn1) 270) := by
 have ho' := ho; simp only [EvOk, i64In] at ho'
 have hM' := hM; simp only [MayE, _root_.true_or, _root_.or_true, _root_.true_and, _root_.and_true] at hM'
 exact wp_sim (env_ok okD) rfl hmix hc hl 400 (.st 4 (.rg (.go 1 (.kn (.bool true) (.go 1 (.en (.st 3 (.rg (.go 2 (.kn (.str (itoaB th)) (.ca 20 1 (.go 2 (.il (.rt 10 (.ca 21 4 (.go 1 (.en (.st 50 (.rg (.go 1 (.ca 25 1 (.go 4 (.kn (.str (itoaB v)) (.ca 26 20 (.go 1 (.en (.rt 11 .no)))))))))))))))))))))))))))
  (And.intro (mayL_t ho hM)
  (have hin1 : i64In th := by unfold i64In; omega;
  (And.intro (itoaL_ok hin1)
  (And.intro (itoaB_size hin1) (And.intro (show ByteArray.size ⟨#[32]⟩ ≤ 1 from Nat.le_refl _)
  (And.intro (cat_size (itoaB_size hin1) (show ByteArray.size ⟨#[32]⟩ ≤ 1 from Nat.le_refl _)) (And.intro (show ByteArray.size ⟨#[98, 117, 109, 112]⟩ ≤ 4 from Nat.le_refl _)
  (And.intro (cat_size (cat_size (itoaB_size hin1) (show ByteArray.size ⟨#[32]⟩ ≤ 1 from Nat.le_refl _)) (show ByteArray.size ⟨#[98, 117, 109, 112]⟩ ≤ 4 from Nat.le_refl _)) (And.intro (show ByteArray.size ⟨#[32]⟩ ≤ 1 from Nat.le_refl _)
  (have hin2 : i64In v := by unfold i64In; omega;
  (And.intro (itoaL_ok hin2)
  (And.intro (cat_size (cat_size (cat_size (itoaB_size hin1) (show ByteArray.size ⟨#[32]⟩ ≤ 1 from Nat.le_refl _)) (show ByteArray.size ⟨#[98, 117, 109, 112]⟩ ≤ 4 from Nat.le_refl _)) (show ByteArray.size ⟨#[32]⟩ ≤ 1 from Nat.le_refl _)) (And.intro (itoaB_size hin2)
  (show_yes hM (textE_5.trans (show text5 (⟨5, th, tx, at_, v, x, why⟩ : Ev) = (((((itoaB th) ++ (⟨#[32]⟩ : ByteArray)) ++ (⟨#[98, 117, 109, 112]⟩ : ByteArray)) ++ (⟨#[32]⟩ : ByteArray)) ++ (itoaB v)) from rfl))))))))))))))))
set_option maxHeartbeats 8000000 in
theorem show_6 {B : Base} {F : Nat → Option (List AV)} (hc : CallSim Tryz.prog B (arunI Tryz.prog spD F 6)) (hl : ∀ t a, Local (arunI Tryz.prog spD F 6 t a)) {th tx at_ v x why : Int} (ho : EvOk (⟨6, th, tx, at_, v, x, why⟩ : Ev)) (hM : MayE (⟨6, th, tx, at_, v, x, why⟩ : Ev)) :
    Sim Tryz.prog B 270 (Fin Tryz.prog Tryz.f12.results.toList fun y _ => y = .tuple [.str (shT (⟨6, th, tx, at_, v, x, why⟩ : Ev)), .int .i64 (shE (⟨6, th, tx, at_, v, x, why⟩ : Ev))]) ⟨12, (trOf [(0, (.agg [(.int .u8 (.ofNat 6)), (.int .i64 (th)), (.int .i64 (tx)), (.int .i64 (at_)), (.int .i64 (v)), (.int .i64 (x)), (.int .u8 (why))]))]), 79, [.code (cAt Tryz.prog 12 [])], [], none⟩ (stOf (kn1) 270) := by
 have ho' := ho; simp only [EvOk, i64In] at ho'
 have hM' := hM; simp only [MayE, _root_.true_or, _root_.or_true, _root_.true_and, _root_.and_true] at hM'
 exact wp_sim (env_ok okD) rfl hmix hc hl 400 (.st 4 (.rg (.go 1 (.kn (.bool true) (.go 1 (.en (.st 3 (.rg (.go 2 (.kn (.str (itoaB th)) (.ca 20 1 (.go 2 (.il (.rt 10 (.ca 21 5 (.go 1 (.en (.st 41 (.rg (.go 1 (.ca 26 1 (.go 4 (.kn (.str (itoaB at_)) (.ca 27 20 (.go 1 (.en (.rt 11 .no)))))))))))))))))))))))))))
  (And.intro (mayL_t ho hM)
  (have hin1 : i64In th := by unfold i64In; omega;
  (And.intro (itoaL_ok hin1)
  (And.intro (itoaB_size hin1) (And.intro (show ByteArray.size ⟨#[32]⟩ ≤ 1 from Nat.le_refl _)
  (And.intro (cat_size (itoaB_size hin1) (show ByteArray.size ⟨#[32]⟩ ≤ 1 from Nat.le_refl _)) (And.intro (show ByteArray.size ⟨#[99, 104, 101, 99, 107]⟩ ≤ 5 from Nat.le_refl _)
  (And.intro (cat_size (cat_size (itoaB_size hin1) (show ByteArray.size ⟨#[32]⟩ ≤ 1 from Nat.le_refl _)) (show ByteArray.size ⟨#[99, 104, 101, 99, 107]⟩ ≤ 5 from Nat.le_refl _)) (And.intro (show ByteArray.size ⟨#[32]⟩ ≤ 1 from Nat.le_refl _)
  (have hin2 : i64In at_ := by unfold i64In; omega;
  (And.intro (itoaL_ok hin2)
  (And.intro (cat_size (cat_size (cat_size (itoaB_size hin1) (show ByteArray.size ⟨#[32]⟩ ≤ 1 from Nat.le_refl _)) (show ByteArray.size ⟨#[99, 104, 101, 99, 107]⟩ ≤ 5 from Nat.le_refl _)) (show ByteArray.size ⟨#[32]⟩ ≤ 1 from Nat.le_refl _)) (And.intro (itoaB_size hin2)
  (show_yes hM (textE_6.trans (show text6 (⟨6, th, tx, at_, v, x, why⟩ : Ev) = (((((itoaB th) ++ (⟨#[32]⟩ : ByteArray)) ++ (⟨#[99, 104, 101, 99, 107]⟩ : ByteArray)) ++ (⟨#[32]⟩ : ByteArray)) ++ (itoaB at_)) from rfl))))))))))))))))
set_option maxHeartbeats 8000000 in
theorem show_7 {B : Base} {F : Nat → Option (List AV)} (hc : CallSim Tryz.prog B (arunI Tryz.prog spD F 6)) (hl : ∀ t a, Local (arunI Tryz.prog spD F 6 t a)) {th tx at_ v x why : Int} (ho : EvOk (⟨7, th, tx, at_, v, x, why⟩ : Ev)) (hM : MayE (⟨7, th, tx, at_, v, x, why⟩ : Ev)) :
    Sim Tryz.prog B 270 (Fin Tryz.prog Tryz.f12.results.toList fun y _ => y = .tuple [.str (shT (⟨7, th, tx, at_, v, x, why⟩ : Ev)), .int .i64 (shE (⟨7, th, tx, at_, v, x, why⟩ : Ev))]) ⟨12, (trOf [(0, (.agg [(.int .u8 (.ofNat 7)), (.int .i64 (th)), (.int .i64 (tx)), (.int .i64 (at_)), (.int .i64 (v)), (.int .i64 (x)), (.int .u8 (why))]))]), 79, [.code (cAt Tryz.prog 12 [])], [], none⟩ (stOf (kn1) 270) := by
 have ho' := ho; simp only [EvOk, i64In] at ho'
 have hM' := hM; simp only [MayE, _root_.true_or, _root_.or_true, _root_.true_and, _root_.and_true] at hM'
 exact wp_sim (env_ok okD) rfl hmix hc hl 400 (.st 4 (.rg (.go 1 (.kn (.bool true) (.go 1 (.en (.st 3 (.rg (.go 2 (.kn (.str (itoaB th)) (.ca 20 1 (.go 2 (.il (.rt 10 (.ca 21 6 (.go 1 (.en (.st 50 (.rg (.go 1 (.ca 27 1 (.go 4 (.kn (.str (itoaB v)) (.ca 28 20 (.go 1 (.en (.rt 11 .no)))))))))))))))))))))))))))
  (And.intro (mayL_t ho hM)
  (have hin1 : i64In th := by unfold i64In; omega;
  (And.intro (itoaL_ok hin1)
  (And.intro (itoaB_size hin1) (And.intro (show ByteArray.size ⟨#[32]⟩ ≤ 1 from Nat.le_refl _)
  (And.intro (cat_size (itoaB_size hin1) (show ByteArray.size ⟨#[32]⟩ ≤ 1 from Nat.le_refl _)) (And.intro (show ByteArray.size ⟨#[99, 111, 109, 109, 105, 116]⟩ ≤ 6 from Nat.le_refl _)
  (And.intro (cat_size (cat_size (itoaB_size hin1) (show ByteArray.size ⟨#[32]⟩ ≤ 1 from Nat.le_refl _)) (show ByteArray.size ⟨#[99, 111, 109, 109, 105, 116]⟩ ≤ 6 from Nat.le_refl _)) (And.intro (show ByteArray.size ⟨#[32]⟩ ≤ 1 from Nat.le_refl _)
  (have hin2 : i64In v := by unfold i64In; omega;
  (And.intro (itoaL_ok hin2)
  (And.intro (cat_size (cat_size (cat_size (itoaB_size hin1) (show ByteArray.size ⟨#[32]⟩ ≤ 1 from Nat.le_refl _)) (show ByteArray.size ⟨#[99, 111, 109, 109, 105, 116]⟩ ≤ 6 from Nat.le_refl _)) (show ByteArray.size ⟨#[32]⟩ ≤ 1 from Nat.le_refl _)) (And.intro (itoaB_size hin2)
  (show_yes hM (textE_7.trans (show text7 (⟨7, th, tx, at_, v, x, why⟩ : Ev) = (((((itoaB th) ++ (⟨#[32]⟩ : ByteArray)) ++ (⟨#[99, 111, 109, 109, 105, 116]⟩ : ByteArray)) ++ (⟨#[32]⟩ : ByteArray)) ++ (itoaB v)) from rfl))))))))))))))))
set_option maxHeartbeats 8000000 in
theorem show_8 {B : Base} {F : Nat → Option (List AV)} (hc : CallSim Tryz.prog B (arunI Tryz.prog spD F 6)) (hl : ∀ t a, Local (arunI Tryz.prog spD F 6 t a)) {th tx at_ v x why : Int} (ho : EvOk (⟨8, th, tx, at_, v, x, why⟩ : Ev)) (hM : MayE (⟨8, th, tx, at_, v, x, why⟩ : Ev)) :
    Sim Tryz.prog B 270 (Fin Tryz.prog Tryz.f12.results.toList fun y _ => y = .tuple [.str (shT (⟨8, th, tx, at_, v, x, why⟩ : Ev)), .int .i64 (shE (⟨8, th, tx, at_, v, x, why⟩ : Ev))]) ⟨12, (trOf [(0, (.agg [(.int .u8 (.ofNat 8)), (.int .i64 (th)), (.int .i64 (tx)), (.int .i64 (at_)), (.int .i64 (v)), (.int .i64 (x)), (.int .u8 (why))]))]), 79, [.code (cAt Tryz.prog 12 [])], [], none⟩ (stOf (kn1) 270) := by
 have ho' := ho; simp only [EvOk, i64In] at ho'
 have hM' := hM; simp only [MayE, _root_.true_or, _root_.or_true, _root_.true_and, _root_.and_true] at hM'
 exact wp_sim (env_ok okD) rfl hmix hc hl 400 (.st 4 (.rg (.go 1 (.kn (.bool true) (.go 1 (.en (.st 3 (.rg (.go 2 (.kn (.str (itoaB th)) (.ca 20 1 (.go 2 (.il (.rt 10 (.ca 21 5 (.go 1 (.en (.st 32 (.rg (.go 1 (.ca 26 1 (.go 4 (.kn (.str (itoaB at_)) (.ca 27 20 (.go 1 (.en (.st 10 (.rg (.go 1 (.ca 47 1 (.go 4 (.kn (.str (itoaB x)) (.ca 48 20 (.go 1 (.en (.rt 11 .no))))))))))))))))))))))))))))))))))))
  (And.intro (mayL_t ho hM)
  (have hin1 : i64In th := by unfold i64In; omega;
  (And.intro (itoaL_ok hin1)
  (And.intro (itoaB_size hin1) (And.intro (show ByteArray.size ⟨#[32]⟩ ≤ 1 from Nat.le_refl _)
  (And.intro (cat_size (itoaB_size hin1) (show ByteArray.size ⟨#[32]⟩ ≤ 1 from Nat.le_refl _)) (And.intro (show ByteArray.size ⟨#[115, 116, 111, 114, 101]⟩ ≤ 5 from Nat.le_refl _)
  (And.intro (cat_size (cat_size (itoaB_size hin1) (show ByteArray.size ⟨#[32]⟩ ≤ 1 from Nat.le_refl _)) (show ByteArray.size ⟨#[115, 116, 111, 114, 101]⟩ ≤ 5 from Nat.le_refl _)) (And.intro (show ByteArray.size ⟨#[32]⟩ ≤ 1 from Nat.le_refl _)
  (have hin2 : i64In at_ := by unfold i64In; omega;
  (And.intro (itoaL_ok hin2)
  (And.intro (cat_size (cat_size (cat_size (itoaB_size hin1) (show ByteArray.size ⟨#[32]⟩ ≤ 1 from Nat.le_refl _)) (show ByteArray.size ⟨#[115, 116, 111, 114, 101]⟩ ≤ 5 from Nat.le_refl _)) (show ByteArray.size ⟨#[32]⟩ ≤ 1 from Nat.le_refl _)) (And.intro (itoaB_size hin2)
  (And.intro (cat_size (cat_size (cat_size (cat_size (itoaB_size hin1) (show ByteArray.size ⟨#[32]⟩ ≤ 1 from Nat.le_refl _)) (show ByteArray.size ⟨#[115, 116, 111, 114, 101]⟩ ≤ 5 from Nat.le_refl _)) (show ByteArray.size ⟨#[32]⟩ ≤ 1 from Nat.le_refl _)) (itoaB_size hin2)) (And.intro (show ByteArray.size ⟨#[32]⟩ ≤ 1 from Nat.le_refl _)
  (have hin3 : i64In x := by unfold i64In; omega;
  (And.intro (itoaL_ok hin3)
  (And.intro (cat_size (cat_size (cat_size (cat_size (cat_size (itoaB_size hin1) (show ByteArray.size ⟨#[32]⟩ ≤ 1 from Nat.le_refl _)) (show ByteArray.size ⟨#[115, 116, 111, 114, 101]⟩ ≤ 5 from Nat.le_refl _)) (show ByteArray.size ⟨#[32]⟩ ≤ 1 from Nat.le_refl _)) (itoaB_size hin2)) (show ByteArray.size ⟨#[32]⟩ ≤ 1 from Nat.le_refl _)) (And.intro (itoaB_size hin3)
  (show_yes hM (textE_8.trans (show text8 (⟨8, th, tx, at_, v, x, why⟩ : Ev) = (((((((itoaB th) ++ (⟨#[32]⟩ : ByteArray)) ++ (⟨#[115, 116, 111, 114, 101]⟩ : ByteArray)) ++ (⟨#[32]⟩ : ByteArray)) ++ (itoaB at_)) ++ (⟨#[32]⟩ : ByteArray)) ++ (itoaB x)) from rfl))))))))))))))))))))))
set_option maxHeartbeats 8000000 in
theorem show_9 {B : Base} {F : Nat → Option (List AV)} (hc : CallSim Tryz.prog B (arunI Tryz.prog spD F 6)) (hl : ∀ t a, Local (arunI Tryz.prog spD F 6 t a)) {th tx at_ v x why : Int} (ho : EvOk (⟨9, th, tx, at_, v, x, why⟩ : Ev)) (hM : MayE (⟨9, th, tx, at_, v, x, why⟩ : Ev)) :
    Sim Tryz.prog B 270 (Fin Tryz.prog Tryz.f12.results.toList fun y _ => y = .tuple [.str (shT (⟨9, th, tx, at_, v, x, why⟩ : Ev)), .int .i64 (shE (⟨9, th, tx, at_, v, x, why⟩ : Ev))]) ⟨12, (trOf [(0, (.agg [(.int .u8 (.ofNat 9)), (.int .i64 (th)), (.int .i64 (tx)), (.int .i64 (at_)), (.int .i64 (v)), (.int .i64 (x)), (.int .u8 (why))]))]), 79, [.code (cAt Tryz.prog 12 [])], [], none⟩ (stOf (kn1) 270) := by
 have ho' := ho; simp only [EvOk, i64In] at ho'
 have hM' := hM; simp only [MayE, _root_.true_or, _root_.or_true, _root_.true_and, _root_.and_true] at hM'
 exact wp_sim (env_ok okD) rfl hmix hc hl 400 (.st 4 (.rg (.go 1 (.kn (.bool true) (.go 1 (.en (.st 3 (.rg (.go 2 (.kn (.str (itoaB th)) (.ca 20 1 (.go 2 (.il (.rt 10 (.ca 21 4 (.go 1 (.en (.st 44 (.rg (.go 1 (.ca 25 1 (.go 4 (.kn (.str (itoaB at_)) (.ca 26 20 (.go 1 (.en (.rt 11 .no)))))))))))))))))))))))))))
  (And.intro (mayL_t ho hM)
  (have hin1 : i64In th := by unfold i64In; omega;
  (And.intro (itoaL_ok hin1)
  (And.intro (itoaB_size hin1) (And.intro (show ByteArray.size ⟨#[32]⟩ ≤ 1 from Nat.le_refl _)
  (And.intro (cat_size (itoaB_size hin1) (show ByteArray.size ⟨#[32]⟩ ≤ 1 from Nat.le_refl _)) (And.intro (show ByteArray.size ⟨#[102, 114, 101, 101]⟩ ≤ 4 from Nat.le_refl _)
  (And.intro (cat_size (cat_size (itoaB_size hin1) (show ByteArray.size ⟨#[32]⟩ ≤ 1 from Nat.le_refl _)) (show ByteArray.size ⟨#[102, 114, 101, 101]⟩ ≤ 4 from Nat.le_refl _)) (And.intro (show ByteArray.size ⟨#[32]⟩ ≤ 1 from Nat.le_refl _)
  (have hin2 : i64In at_ := by unfold i64In; omega;
  (And.intro (itoaL_ok hin2)
  (And.intro (cat_size (cat_size (cat_size (itoaB_size hin1) (show ByteArray.size ⟨#[32]⟩ ≤ 1 from Nat.le_refl _)) (show ByteArray.size ⟨#[102, 114, 101, 101]⟩ ≤ 4 from Nat.le_refl _)) (show ByteArray.size ⟨#[32]⟩ ≤ 1 from Nat.le_refl _)) (And.intro (itoaB_size hin2)
  (show_yes hM (textE_9.trans (show text9 (⟨9, th, tx, at_, v, x, why⟩ : Ev) = (((((itoaB th) ++ (⟨#[32]⟩ : ByteArray)) ++ (⟨#[102, 114, 101, 101]⟩ : ByteArray)) ++ (⟨#[32]⟩ : ByteArray)) ++ (itoaB at_)) from rfl))))))))))))))))
set_option maxHeartbeats 8000000 in
theorem show_10 {B : Base} {F : Nat → Option (List AV)} (hc : CallSim Tryz.prog B (arunI Tryz.prog spD F 6)) (hl : ∀ t a, Local (arunI Tryz.prog spD F 6 t a)) {th tx at_ v x why : Int} (ho : EvOk (⟨10, th, tx, at_, v, x, why⟩ : Ev)) (hM : MayE (⟨10, th, tx, at_, v, x, why⟩ : Ev)) :
    Sim Tryz.prog B 270 (Fin Tryz.prog Tryz.f12.results.toList fun y _ => y = .tuple [.str (shT (⟨10, th, tx, at_, v, x, why⟩ : Ev)), .int .i64 (shE (⟨10, th, tx, at_, v, x, why⟩ : Ev))]) ⟨12, (trOf [(0, (.agg [(.int .u8 (.ofNat 10)), (.int .i64 (th)), (.int .i64 (tx)), (.int .i64 (at_)), (.int .i64 (v)), (.int .i64 (x)), (.int .u8 (why))]))]), 79, [.code (cAt Tryz.prog 12 [])], [], none⟩ (stOf (kn1) 270) := by
 have ho' := ho; simp only [EvOk, i64In] at ho'
 have hM' := hM; simp only [MayE, _root_.true_or, _root_.or_true, _root_.true_and, _root_.and_true] at hM'
 exact wp_sim (env_ok okD) rfl hmix hc hl 400 (.st 4 (.rg (.go 1 (.kn (.bool true) (.go 1 (.en (.st 3 (.rg (.go 2 (.kn (.str (itoaB th)) (.ca 20 1 (.go 2 (.il (.rt 10 (.ca 21 5 (.go 1 (.en (.st 39 (.rg (.go 2 (.vl (.int .i64 why) (.go 4 (.en (.st 13 (.rg (.go 1 (.ca 26 1 (.go 4 (.kn (.str (itoaB why)) (.ca 27 20 (.go 1 (.en (.st 10 (.rg (.go 1 (.ca 47 1 (.go 4 (.kn (.str (itoaB at_)) (.ca 48 20 (.go 1 (.en (.rt 11 .no))))))))))))))))))))))))))))))))))))))))))
  (And.intro (mayL_t ho hM)
  (have hin1 : i64In th := by unfold i64In; omega;
  (And.intro (itoaL_ok hin1)
  (And.intro (itoaB_size hin1) (And.intro (show ByteArray.size ⟨#[32]⟩ ≤ 1 from Nat.le_refl _)
  (And.intro (cat_size (itoaB_size hin1) (show ByteArray.size ⟨#[32]⟩ ≤ 1 from Nat.le_refl _)) (And.intro (show ByteArray.size ⟨#[97, 98, 111, 114, 116]⟩ ≤ 5 from Nat.le_refl _)
  (And.intro (congrArg (AV.int .i64) (show IntKind.wrap .i64 why = why from wrap_i64_in (by omega)))
  (And.intro (cat_size (cat_size (itoaB_size hin1) (show ByteArray.size ⟨#[32]⟩ ≤ 1 from Nat.le_refl _)) (show ByteArray.size ⟨#[97, 98, 111, 114, 116]⟩ ≤ 5 from Nat.le_refl _)) (And.intro (show ByteArray.size ⟨#[32]⟩ ≤ 1 from Nat.le_refl _)
  (have hin2 : i64In why := by unfold i64In; omega;
  (And.intro (itoaL_ok hin2)
  (And.intro (cat_size (cat_size (cat_size (itoaB_size hin1) (show ByteArray.size ⟨#[32]⟩ ≤ 1 from Nat.le_refl _)) (show ByteArray.size ⟨#[97, 98, 111, 114, 116]⟩ ≤ 5 from Nat.le_refl _)) (show ByteArray.size ⟨#[32]⟩ ≤ 1 from Nat.le_refl _)) (And.intro (itoaB_size hin2)
  (And.intro (cat_size (cat_size (cat_size (cat_size (itoaB_size hin1) (show ByteArray.size ⟨#[32]⟩ ≤ 1 from Nat.le_refl _)) (show ByteArray.size ⟨#[97, 98, 111, 114, 116]⟩ ≤ 5 from Nat.le_refl _)) (show ByteArray.size ⟨#[32]⟩ ≤ 1 from Nat.le_refl _)) (itoaB_size hin2)) (And.intro (show ByteArray.size ⟨#[32]⟩ ≤ 1 from Nat.le_refl _)
  (have hin3 : i64In at_ := by unfold i64In; omega;
  (And.intro (itoaL_ok hin3)
  (And.intro (cat_size (cat_size (cat_size (cat_size (cat_size (itoaB_size hin1) (show ByteArray.size ⟨#[32]⟩ ≤ 1 from Nat.le_refl _)) (show ByteArray.size ⟨#[97, 98, 111, 114, 116]⟩ ≤ 5 from Nat.le_refl _)) (show ByteArray.size ⟨#[32]⟩ ≤ 1 from Nat.le_refl _)) (itoaB_size hin2)) (show ByteArray.size ⟨#[32]⟩ ≤ 1 from Nat.le_refl _)) (And.intro (itoaB_size hin3)
  (show_yes hM (textE_10.trans (show text10 (⟨10, th, tx, at_, v, x, why⟩ : Ev) = (((((((itoaB th) ++ (⟨#[32]⟩ : ByteArray)) ++ (⟨#[97, 98, 111, 114, 116]⟩ : ByteArray)) ++ (⟨#[32]⟩ : ByteArray)) ++ (itoaB why)) ++ (⟨#[32]⟩ : ByteArray)) ++ (itoaB at_)) from rfl)))))))))))))))))))))))
set_option maxHeartbeats 8000000 in
theorem show_11 {B : Base} {F : Nat → Option (List AV)} (hc : CallSim Tryz.prog B (arunI Tryz.prog spD F 6)) (hl : ∀ t a, Local (arunI Tryz.prog spD F 6 t a)) {th tx at_ v x why : Int} (ho : EvOk (⟨11, th, tx, at_, v, x, why⟩ : Ev)) (hM : MayE (⟨11, th, tx, at_, v, x, why⟩ : Ev)) :
    Sim Tryz.prog B 270 (Fin Tryz.prog Tryz.f12.results.toList fun y _ => y = .tuple [.str (shT (⟨11, th, tx, at_, v, x, why⟩ : Ev)), .int .i64 (shE (⟨11, th, tx, at_, v, x, why⟩ : Ev))]) ⟨12, (trOf [(0, (.agg [(.int .u8 (.ofNat 11)), (.int .i64 (th)), (.int .i64 (tx)), (.int .i64 (at_)), (.int .i64 (v)), (.int .i64 (x)), (.int .u8 (why))]))]), 79, [.code (cAt Tryz.prog 12 [])], [], none⟩ (stOf (kn1) 270) := by
 have ho' := ho; simp only [EvOk, i64In] at ho'
 have hM' := hM; simp only [MayE, _root_.true_or, _root_.or_true, _root_.true_and, _root_.and_true] at hM'
 exact wp_sim (env_ok okD) rfl hmix hc hl 400 (.st 4 (.rg (.go 1 (.kn (.bool true) (.go 1 (.en (.st 3 (.rg (.go 2 (.kn (.str (itoaB th)) (.ca 20 1 (.go 2 (.il (.rt 10 (.ca 21 4 (.go 1 (.en (.st 44 (.rg (.go 1 (.ca 25 1 (.go 4 (.kn (.str (itoaB at_)) (.ca 26 20 (.go 1 (.en (.rt 11 .no)))))))))))))))))))))))))))
  (And.intro (mayL_t ho hM)
  (have hin1 : i64In th := by unfold i64In; omega;
  (And.intro (itoaL_ok hin1)
  (And.intro (itoaB_size hin1) (And.intro (show ByteArray.size ⟨#[32]⟩ ≤ 1 from Nat.le_refl _)
  (And.intro (cat_size (itoaB_size hin1) (show ByteArray.size ⟨#[32]⟩ ≤ 1 from Nat.le_refl _)) (And.intro (show ByteArray.size ⟨#[117, 110, 100, 111]⟩ ≤ 4 from Nat.le_refl _)
  (And.intro (cat_size (cat_size (itoaB_size hin1) (show ByteArray.size ⟨#[32]⟩ ≤ 1 from Nat.le_refl _)) (show ByteArray.size ⟨#[117, 110, 100, 111]⟩ ≤ 4 from Nat.le_refl _)) (And.intro (show ByteArray.size ⟨#[32]⟩ ≤ 1 from Nat.le_refl _)
  (have hin2 : i64In at_ := by unfold i64In; omega;
  (And.intro (itoaL_ok hin2)
  (And.intro (cat_size (cat_size (cat_size (itoaB_size hin1) (show ByteArray.size ⟨#[32]⟩ ≤ 1 from Nat.le_refl _)) (show ByteArray.size ⟨#[117, 110, 100, 111]⟩ ≤ 4 from Nat.le_refl _)) (show ByteArray.size ⟨#[32]⟩ ≤ 1 from Nat.le_refl _)) (And.intro (itoaB_size hin2)
  (show_yes hM (textE_11.trans (show text11 (⟨11, th, tx, at_, v, x, why⟩ : Ev) = (((((itoaB th) ++ (⟨#[32]⟩ : ByteArray)) ++ (⟨#[117, 110, 100, 111]⟩ : ByteArray)) ++ (⟨#[32]⟩ : ByteArray)) ++ (itoaB at_)) from rfl))))))))))))))))
set_option maxHeartbeats 8000000 in
theorem show_12 {B : Base} {F : Nat → Option (List AV)} (hc : CallSim Tryz.prog B (arunI Tryz.prog spD F 6)) (hl : ∀ t a, Local (arunI Tryz.prog spD F 6 t a)) {th tx at_ v x why : Int} (ho : EvOk (⟨12, th, tx, at_, v, x, why⟩ : Ev)) (hM : MayE (⟨12, th, tx, at_, v, x, why⟩ : Ev)) :
    Sim Tryz.prog B 270 (Fin Tryz.prog Tryz.f12.results.toList fun y _ => y = .tuple [.str (shT (⟨12, th, tx, at_, v, x, why⟩ : Ev)), .int .i64 (shE (⟨12, th, tx, at_, v, x, why⟩ : Ev))]) ⟨12, (trOf [(0, (.agg [(.int .u8 (.ofNat 12)), (.int .i64 (th)), (.int .i64 (tx)), (.int .i64 (at_)), (.int .i64 (v)), (.int .i64 (x)), (.int .u8 (why))]))]), 79, [.code (cAt Tryz.prog 12 [])], [], none⟩ (stOf (kn1) 270) := by
 have ho' := ho; simp only [EvOk, i64In] at ho'
 have hM' := hM; simp only [MayE, _root_.true_or, _root_.or_true, _root_.true_and, _root_.and_true] at hM'
 exact wp_sim (env_ok okD) rfl hmix hc hl 400 (.st 4 (.rg (.go 1 (.kn (.bool true) (.go 1 (.en (.st 3 (.rg (.go 2 (.kn (.str (itoaB th)) (.ca 20 1 (.go 2 (.il (.rt 10 (.ca 21 4 (.go 1 (.en (.rt 54 .no))))))))))))))))))
  (And.intro (mayL_t ho hM)
  (have hin1 : i64In th := by unfold i64In; omega;
  (And.intro (itoaL_ok hin1)
  (And.intro (itoaB_size hin1) (And.intro (show ByteArray.size ⟨#[32]⟩ ≤ 1 from Nat.le_refl _)
  (And.intro (cat_size (itoaB_size hin1) (show ByteArray.size ⟨#[32]⟩ ≤ 1 from Nat.le_refl _)) (And.intro (show ByteArray.size ⟨#[119, 97, 105, 116]⟩ ≤ 4 from Nat.le_refl _)
  (show_yes hM (textE_12.trans (show text12 (⟨12, th, tx, at_, v, x, why⟩ : Ev) = (((itoaB th) ++ (⟨#[32]⟩ : ByteArray)) ++ (⟨#[119, 97, 105, 116]⟩ : ByteArray)) from rfl))))))))))
set_option maxHeartbeats 8000000 in
theorem show_13 {B : Base} {F : Nat → Option (List AV)} (hc : CallSim Tryz.prog B (arunI Tryz.prog spD F 6)) (hl : ∀ t a, Local (arunI Tryz.prog spD F 6 t a)) {th tx at_ v x why : Int} (ho : EvOk (⟨13, th, tx, at_, v, x, why⟩ : Ev)) (hM : MayE (⟨13, th, tx, at_, v, x, why⟩ : Ev)) :
    Sim Tryz.prog B 270 (Fin Tryz.prog Tryz.f12.results.toList fun y _ => y = .tuple [.str (shT (⟨13, th, tx, at_, v, x, why⟩ : Ev)), .int .i64 (shE (⟨13, th, tx, at_, v, x, why⟩ : Ev))]) ⟨12, (trOf [(0, (.agg [(.int .u8 (.ofNat 13)), (.int .i64 (th)), (.int .i64 (tx)), (.int .i64 (at_)), (.int .i64 (v)), (.int .i64 (x)), (.int .u8 (why))]))]), 79, [.code (cAt Tryz.prog 12 [])], [], none⟩ (stOf (kn1) 270) := by
 have ho' := ho; simp only [EvOk, i64In] at ho'
 have hM' := hM; simp only [MayE, _root_.true_or, _root_.or_true, _root_.true_and, _root_.and_true] at hM'
 exact wp_sim (env_ok okD) rfl hmix hc hl 400 (.st 4 (.rg (.go 1 (.kn (.bool true) (.go 1 (.en (.st 3 (.rg (.go 2 (.kn (.str (itoaB th)) (.ca 20 1 (.go 2 (.il (.rt 10 (.ca 21 4 (.go 1 (.en (.rt 54 .no))))))))))))))))))
  (And.intro (mayL_t ho hM)
  (have hin1 : i64In th := by unfold i64In; omega;
  (And.intro (itoaL_ok hin1)
  (And.intro (itoaB_size hin1) (And.intro (show ByteArray.size ⟨#[32]⟩ ≤ 1 from Nat.le_refl _)
  (And.intro (cat_size (itoaB_size hin1) (show ByteArray.size ⟨#[32]⟩ ≤ 1 from Nat.le_refl _)) (And.intro (show ByteArray.size ⟨#[119, 97, 107, 101]⟩ ≤ 4 from Nat.le_refl _)
  (show_yes hM (textE_13.trans (show text13 (⟨13, th, tx, at_, v, x, why⟩ : Ev) = (((itoaB th) ++ (⟨#[32]⟩ : ByteArray)) ++ (⟨#[119, 97, 107, 101]⟩ : ByteArray)) from rfl))))))))))
set_option maxHeartbeats 8000000 in
theorem show_k {B : Base} {F : Nat → Option (List AV)} (hc : CallSim Tryz.prog B (arunI Tryz.prog spD F 6)) (hl : ∀ t a, Local (arunI Tryz.prog spD F 6 t a)) {k : Int} {th tx at_ v x why : Int} (ho : EvOk (⟨k, th, tx, at_, v, x, why⟩ : Ev)) (hM : ¬ MayE (⟨k, th, tx, at_, v, x, why⟩ : Ev)) :
    Sim Tryz.prog B 270 (Fin Tryz.prog Tryz.f12.results.toList fun y _ => y = .tuple [.str (shT (⟨k, th, tx, at_, v, x, why⟩ : Ev)), .int .i64 (shE (⟨k, th, tx, at_, v, x, why⟩ : Ev))]) ⟨12, (trOf [(0, (.agg [(.int .u8 (k)), (.int .i64 (th)), (.int .i64 (tx)), (.int .i64 (at_)), (.int .i64 (v)), (.int .i64 (x)), (.int .u8 (why))]))]), 79, [.code (cAt Tryz.prog 12 [])], [], none⟩ (stOf (kn1) 270) := by
 have ho' := ho; simp only [EvOk, i64In] at ho'
 exact wp_sim (env_ok okD) rfl hmix hc hl 400 (.st 4 (.rg (.go 1 (.kn (.bool false) (.go 1 (.en (.rt 4 .no)))))))
  (And.intro (mayL_f ho hM)
  (show_no hM))
end DtI
