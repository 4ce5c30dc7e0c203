/-
  Proved here: the law, from its start to its answer.
  Conditions: none.
-/
import Derived.Test.YtbnjeblcleihkaaGreatDoorAcGa
import Derived.Test.YtbnjeblcleihkaaGreatDoorRnOpenD
import Derived.Test.YtbnjeblcleihkaaGreatDoorRnOpenB
import Derived.Test.YtbnjeblcleihkaaGreatDoorAcGc
import Derived.Test.YtbnjeblcleihkaaGreatDoorAcGb
open Go Go.Rn Go.RowKit Go.Proofs
set_option maxRecDepth 100000
namespace AcR
open AcS AcW Go.Proofs.YtbnjeblcleihkaaGreatDoor.auditCounted
noncomputable section
def sr0 : Sr := ⟨-1, 0⟩
def th0 : Th := ⟨0, 0, 0, 0, 0, 0, 0, 0, 0, 0, 0, 0, false⟩
def stripesO (S : Nat) : Option AObj := some (.cells (S * 2) (Tr.fill ((List.replicate S sr0).map encSr).flatten 0 .nil) [.int .i64 0, .int .i64 0])
def hR (X0 X1 : Option AObj) : Tr AObj := hpOf (kn1 ++ [(270, X0), (271, X1), (272, some (.cells 2 (Tr.fill [.int .i64 (-1), .int .i64 0] 0 .nil) []))])
def PostR (X0 X1 : Option AObj) (S : Nat) (v : AV) (st : AS) : Prop := v = .slice (some (273, 0)) S (.known S) ∧ st.h = putH (hR X0 X1) [(273, stripesO S)] ∧ st.nx = 274 ∧ st.mark = 273 ∧ allInB [272, 273] st.rd = true ∧ allInB [273] st.wr = true
def planR (S k : Nat) : Pl := .st 8 (.rg (.go 2 (.vl (.int .u64 (.ofNat 1)) (.go 1 (.vl (.int .u64 (.ofNat S)) (.il (.st 6 (.rg (.go 2 (.il (.rt 25 (.go 5 (.en (.rt 3 (.go 5 (.en (.st 6 (.rg (.go 1 (.vl (.int .i64 (.ofNat S)) (.go 2 (.en (.rt k .no)))))))))))))))))))))))
end
noncomputable def planQ {S : Nat} (_ : 1 ≤ S ∧ S ≤ 32) : Pl := planR S ([0, 13, 22, 31, 31, 40, 40, 40, 40, 49, 49, 49, 49, 49, 49, 49, 49, 58, 58, 58, 58, 58, 58, 58, 58, 58, 58, 58, 58, 58, 58, 58, 58].getD S 0)
theorem repI (X0 X1 : Option AObj) (S : Nat) : AV.int .u64 (.ofNat 1) = .int .u64 (.ofNat 1) ∧ AV.int .u64 (.ofNat S) = .int .u64 (.ofNat S) ∧ AV.int .i64 (.ofNat S) = .int .i64 (.ofNat S) ∧ AV.slice (some (273, 0)) S (.known S) = .slice (some (273, 0)) S (.known S) ∧ putH (hR X0 X1) [(273, stripesO S)] = putH (hR X0 X1) [(273, stripesO S)] ∧ 274 = 274 ∧ 273 = 273 ∧ true = true ∧ true = true := ⟨rfl, rfl, rfl, rfl, rfl, rfl, rfl, rfl, rfl⟩
set_option maxHeartbeats 8000000 in
theorem rep_ev {F : Nat → Option (List AV)} {X0 X1 : Option AObj} {S : Nat} (hS : 1 ≤ S ∧ S ≤ 32) : EvV (envE spM tabM F) 4 Tryz.f12.results.toList (PostR X0 X1 S) ⟨12, fillArgs [.slice (some (272, 0)) 1 (.known 1), .int .i64 (.ofNat S)], max Tryz.f12.ntmps 2, [.code (cAt Tryz.prog 12 [])], [], none⟩ ⟨hR X0 X1, 273, 273, [], []⟩ := by
 have h : S = 1 ∨ S = 2 ∨ S = 3 ∨ S = 4 ∨ S = 5 ∨ S = 6 ∨ S = 7 ∨ S = 8 ∨ S = 9 ∨ S = 10 ∨ S = 11 ∨ S = 12 ∨ S = 13 ∨ S = 14 ∨ S = 15 ∨ S = 16 ∨ S = 17 ∨ S = 18 ∨ S = 19 ∨ S = 20 ∨ S = 21 ∨ S = 22 ∨ S = 23 ∨ S = 24 ∨ S = 25 ∨ S = 26 ∨ S = 27 ∨ S = 28 ∨ S = 29 ∨ S = 30 ∨ S = 31 ∨ S = 32 := by omega
 have T := repI X0 X1 S
 rcases h with rfl | rfl | rfl | rfl | rfl | rfl | rfl | rfl | rfl | rfl | rfl | rfl | rfl | rfl | rfl | rfl | rfl | rfl | rfl | rfl | rfl | rfl | rfl | rfl | rfl | rfl | rfl | rfl | rfl | rfl | rfl | rfl
 all_goals exact wp_ev (C := fun _ _ _ => False) (envE_ok okM) rfl (fun _ _ _ h => h.elim) 2000 (planQ hS) T
theorem rep_two {F : Nat → Option (List AV)} {S : Nat} (hS : 1 ≤ S ∧ S ≤ 32) (X0 X1 : Option AObj) : TwoW False (env spM tabM F) 5 12 [.slice (some (272, 0)) 1 (.known 1), .int .i64 (.ofNat S)] ⟨hR X0 X1, 273, 273, [], []⟩ (.slice (some (273, 0)) S (.known S)) [(273, stripesO S)] (.slice (some (273, 0)) S (.known S)) [(273, stripesO S)] 274 [272, 273] [273] := by
 obtain ⟨v1, s2, q1, q2⟩ := EvV.call (E := envE spM tabM F) Tryz.func12 (cAt_body Tryz.func12 (by as_aux_lemma => kernel_rfl)) (rep_ev (F := F) (X0 := X0) (X1 := X1) hS)
 obtain ⟨h2, nx2, mark2, rd2, wr2⟩ := s2
 obtain ⟨rfl, b1, b2, b3, b4, b5⟩ := q2
 simp only at b1 b2 b3 b4 b5
 subst b1; subst b2; subst b3
 exact ⟨rd2, wr2, allInB_mem b4, allInB_mem b5, .inr q1⟩
end AcR
namespace AcN
open AcS AcW AcR Go.Proofs.YtbnjeblcleihkaaGreatDoor.auditCounted
noncomputable section
def headA (a : AV) (nT nS : Nat) (T V S : Int) (ths : List Th) (srs : List Sr) (clock evn : Int) : List (Nat × Option AObj) := kn1 ++ [(270, some (.cells 4 (Tr.fill [.int .i64 T, .int .i64 V, .int .i64 S, a] 0 .nil) [])), (271, some (rowT encTh ths)), (273, some (rowT encSr srs)), (274, some (.cells 5 (Tr.fill [.int .i64 V, .int .i64 clock, .int .i64 evn, .slice (some (271, 0)) nT (.known nT), .slice (some (273, 0)) nS (.known nS)] 0 .nil) []))]
def CH (a : AV) (nT nS : Nat) (T V S : Int) (ths : List Th) (srs : List Sr) (clock evn : Int) : CutT := fun fr s _ => fr = frL (headL 0 0) ∧ s = stOf (headA a nT nS T V S ths srs clock evn) 275
def zTh : List AV := [(.int .i64 0), (.int .i64 0), (.int .i64 0), (.int .i64 0), (.int .i64 0), (.int .i64 0), (.int .u32 0), (.int .u32 0), (.int .u32 0), (.int .u32 0), (.int .i64 0), (.int .i64 0), (.bool false)]
def freshO (a : AV) (nT nS : Nat) (T V S : Int) : List (Nat × Option AObj) := kn1 ++ [(270, some (.cells 4 (Tr.fill [.int .i64 T, .int .i64 V, .int .i64 S, a] 0 .nil) [])), (271, some (.cells (nT * 13) .nil zTh)), (273, stripesO nS), (274, some (.cells 5 (Tr.fill [.int .i64 V, .int .i64 0, .int .i64 0, .slice (some (271, 0)) nT (.known nT), .slice (some (273, 0)) nS (.known nS)] 0 .nil) []))]
end
theorem OEnt.same {n : Nat} {t t' : Tr AV} {z z' : List AV} (h : ∀ i, i < n → cellAt t z i = cellAt t' z' i) : OEnt id (.cells n t z) (.cells n t' z') := by
  intro ρ N ob k
  obtain ⟨c, e, rfl, k1, k2, k3⟩ := k
  refine ⟨c, e, rfl, k1, k2, fun i hi => ?_⟩
  obtain ⟨x, v, a1, a2, a3, a4⟩ := k3 i hi
  exact ⟨x, v, by rw [← h i hi]; exact a1, a2, a3, a4⟩
theorem same_of {n : Nat} {t t' : Tr AV} {z z' : List AV} (h : (List.range n).map (cellAt t z) = (List.range n).map (cellAt t' z')) : ∀ i, i < n → cellAt t z i = cellAt t' z' i := by
  intro i hi
  have := congrArg (fun l => l[i]?) h
  simp only [List.getElem?_map, List.getElem?_range hi, Option.map_some, Option.some.injEq] at this
  exact this
theorem kn1_plain : kn1.all (fun p => match p.2 with | some y => y.plain | none => true) = true := by kernel_rfl
theorem kn1_low : kn1.all (fun p => Nat.blt p.1 270) = true := by kernel_rfl
theorem weakL (a : AV) (nT nS : Nat) (T V S : Int) (hT : (List.range (nT * 13)).map (cellAt .nil zTh) = (List.range (nT * 13)).map (cellAt (Tr.fill ((List.replicate nT th0).map encTh).flatten 0 .nil) [])) (hS : 1 ≤ nS ∧ nS ≤ 32) : Weak 270 275 (headL 0 0) (freshO a nT nS T V S) (headL 0 0) (headA a nT nS T V S (List.replicate nT th0) (List.replicate nS sr0) 0 0) 275 := by
  have low : ∀ n, n < 275 → n < top := fun n h => by unfold top; omega
  have ent : ∀ x : AV, VEnt id x x := fun x ρ v h => h
  have same : ∀ x : AObj, OEnt id x x := fun x ρ N o h => h
  refine ⟨id, fun k _ => rfl, fun k h1 h2 => ⟨h1, h2⟩, fun k _ => rfl, by unfold top; decide, fun p hp => ⟨?_, p.2, hp, ent _⟩, fun p hp => ?_, fun p _ q _ _ _ e => e⟩
  · simp only [headL, List.mem_cons, List.not_mem_nil, or_false] at hp
    rcases hp with rfl | rfl | rfl | rfl <;> exact low _ (by decide)
  · rcases List.mem_append.1 hp with hp' | hp'
    · have h1 : p.1 < 270 := by simpa using List.all_eq_true.1 kn1_low p hp'
      refine ⟨low _ (by omega), fun y hy => ⟨low _ (by show p.1 < 275; omega), ?_, y, ?_, fun h => h, same _⟩⟩
      · have := List.all_eq_true.1 kn1_plain p hp'
        rw [hy] at this; exact this
      · show (p.1, some y) ∈ _
        rw [← hy]; exact List.mem_append.2 (.inl hp')
    · simp only [List.mem_cons, List.not_mem_nil, or_false] at hp'
      rcases hp' with rfl | rfl | rfl | rfl
      · refine ⟨low 270 (by decide), fun y hy => ?_⟩
        injection hy with hy; subst hy
        exact ⟨low 270 (by decide), rfl, _, List.mem_append.2 (.inr (by simp)), fun h => h, same _⟩
      · refine ⟨low 271 (by decide), fun y hy => ?_⟩
        injection hy with hy; subst hy
        refine ⟨low 271 (by decide), rfl, .cells (nT * 13) .nil zTh, List.mem_append.2 (.inr (by simp)), fun h => h, ?_⟩
        unfold rowT
        rw [rows_len okTh.len, List.length_replicate]
        exact OEnt.same (same_of hT)
      · refine ⟨low 273 (by decide), fun y hy => ?_⟩
        injection hy with hy; subst hy
        refine ⟨low 273 (by decide), rfl, .cells (nS * 2) (Tr.fill ((List.replicate nS sr0).map encSr).flatten 0 .nil) [.int .i64 0, .int .i64 0], List.mem_append.2 (.inr (by simp [stripesO])), fun h => h, ?_⟩
        have hlen : ((List.replicate nS sr0).map encSr).flatten.length = nS * 2 := by rw [rows_len okSr.len, List.length_replicate]
        unfold rowT
        rw [hlen]
        refine OEnt.same fun i hi => ?_
        unfold cellAt
        rw [fill_get _ (by rw [hlen]; unfold top; omega) i (by rw [hlen]; exact hi)]
        have : i < ((List.replicate nS sr0).map encSr).flatten.length := by rw [hlen]; exact hi
        rw [List.getElem?_eq_getElem this]
      · refine ⟨low 274 (by decide), fun y hy => ?_⟩
        injection hy with hy; subst hy
        exact ⟨low 274 (by decide), rfl, _, List.mem_append.2 (.inr (by simp)), fun h => h, same _⟩
theorem zth {n : Nat} (h : n < 7) : (List.range (n * 13)).map (cellAt .nil zTh) = (List.range (n * 13)).map (cellAt (Tr.fill ((List.replicate n th0).map encTh).flatten 0 .nil) []) := by
  obtain rfl | rfl | rfl | rfl | rfl | rfl | rfl : n = 0 ∨ n = 1 ∨ n = 2 ∨ n = 3 ∨ n = 4 ∨ n = 5 ∨ n = 6 := by omega
  all_goals kernel_rfl
theorem rnL (a : AV) (nT nS : Nat) (T V S : Int) (hT : (List.range (nT * 13)).map (cellAt .nil zTh) = (List.range (nT * 13)).map (cellAt (Tr.fill ((List.replicate nT th0).map encTh).flatten 0 .nil) [])) (hS : 1 ≤ nS ∧ nS ≤ 32) :
    (headL 0 0).map (fun q => some q.2) = (headL 0 0).map (fun q => some q.2) ∧ (freshO a nT nS T V S).map (fun q => q.2) = (freshO a nT nS T V S).map (fun q => q.2) ∧ Weak 270 275 (headL 0 0) (freshO a nT nS T V S) (headL 0 0) (headA a nT nS T V S (List.replicate nT th0) (List.replicate nS sr0) 0 0) 275 ∧ CH a nT nS T V S (List.replicate nT th0) (List.replicate nS sr0) 0 0 (frL (headL 0 0)) (stOf (headA a nT nS T V S (List.replicate nT th0) (List.replicate nS sr0) 0 0) 275) .no := ⟨rfl, rfl, weakL a nT nS T V S hT hS, rfl, rfl⟩
noncomputable def pl_start {n : Nat} (_ : n < 7) (nm : Nat) (o : Nat) (len : Nat) (nS : Nat) (V : Int) (nS : Nat) (nS : Nat) (nS : Nat) : Pl := (.st 4 (.rg (.kn (.bool true) (.go 5 (.fk (.no) (.go 1 (.en (.st 3 (.rg (.go 6 (.il (.st 4 (.rg (.go 8 (.fk (.no) (.go 3 (.fk (.no) (.go 3 (.fk (.no) (.go 4 (.fk (.no) (.go 1 (.en (.st 3 (.rg (.go 6 (.c2 (False) (.slice (some (273, 0)) (nS) (.known nS)) [(273, stripesO nS)] (.slice (some (273, 0)) (nS) (.known nS)) [(273, stripesO nS)] 274 [272, 273] [273] (.no) (.go 4 (.en (.rt 1 (.go 5 (.en (.st 12 (.rn [(1, (.ptr (some (270, 0)))), (3, (.ptr (some (274, 0)))), (5, (.int .i64 (.ofNat 0))), (6, (.int .i64 (.ofNat 0)))] (kn1 ++ [(270, some (.cells 4 (Tr.fill [(.int .i64 (.ofNat n)), (.int .i64 V), (.int .i64 (((nS : Nat) : Int))), (.rslice nm o len)] 0 .nil) [])), (271, (some (.cells (n * 13) .nil zTh))), (273, (stripesO nS)), (274, some (.cells 5 (Tr.fill [(.int .i64 V), (.int .i64 (.ofNat 0)), (.int .i64 (.ofNat 0)), (.slice (some (271, 0)) (n) (.known n)), (.slice (some (273, 0)) (nS) (.known nS))] 0 .nil) []))]) (headL 0 0) (headA (.rslice nm o len) n nS n V ((nS : Nat) : Int) (List.replicate n th0) (List.replicate nS sr0) 0 0) 275 275 .no))))))))))))))))))))))))))))))))))
set_option maxHeartbeats 8000000 in
theorem start {n : Nat} {B : Base} {F : Nat → Option (List AV)} (hc : CallSim Tryz.prog B (arunI Tryz.prog spM F 6)) (hl : ∀ t a, Local (arunI Tryz.prog spM F 6 t a)) (h6 : n < 7) {nm o len nS : Nat} {T V S : Int} (hnm : top ≤ nm) (hlen : len ≤ 2000) (hV : 1 ≤ V ∧ V ≤ 32) (hSV : ((nS : Nat) : Int) ≤ V) (hS : 1 ≤ nS ∧ nS ≤ 32)
  (H : Sim Tryz.prog B 270 (Fin Tryz.prog Tryz.f3.results.toList fun y _ => y = .bool true) (frL (headL 0 0)) (stOf (headA (.rslice nm o len) n nS n V ((nS : Nat) : Int) (List.replicate n th0) (List.replicate nS sr0) 0 0) 275)) : Sim Tryz.prog B 270 (Fin Tryz.prog Tryz.f3.results.toList fun y _ => y = .bool true) ⟨3, fillArgs [(.agg [(.int .i64 (.ofNat n)), (.int .i64 V), (.int .i64 (((nS : Nat) : Int))), (.rslice nm o len)])], 119, [.code (cAt Tryz.prog 3 [])], [], none⟩ (stOf kn1 270) := by
  have T := (And.intro (rfl : worksL [] = some (.bool true)) (tfk (((len : Nat) : Int) > 2000) (fun h1 => (oF (by omega))) (fun h1 => (tfk (V < 1) (fun h2 => (oF (by omega))) (fun h2 => (tfk (V > 32) (fun h3 => (oF (by omega))) (fun h3 => (tfk (((nS : Nat) : Int) < 1) (fun h4 => (oF (by omega))) (fun h4 => (tfk (((nS : Nat) : Int) > V) (fun h5 => (oF (by omega))) (fun h5 => (And.intro (rep_two (F := F) hS (some (.cells 4 (Tr.fill [(.int .i64 (.ofNat n)), (.int .i64 V), (.int .i64 (((nS : Nat) : Int))), (.rslice nm o len)] 0 .nil) [])) ((some (.cells (n * 13) .nil zTh)))) (And.intro (fun (h6 : False) => (oF (by omega))) (rnL (.rslice nm o len) n nS n V ((nS : Nat) : Int) (zth h6) hS))))))))))))))
  have HC : ∀ fr s p, (CH (.rslice nm o len) n nS n V ((nS : Nat) : Int) (List.replicate n th0) (List.replicate nS sr0) 0 0) fr s p → Sim Tryz.prog B 270 (Fin Tryz.prog Tryz.f3.results.toList fun y _ => y = .bool true) fr s := fun fr s p hC => by obtain ⟨rfl, rfl⟩ := hC; exact H
  obtain rfl | rfl | rfl | rfl | rfl | rfl | rfl : n = 0 ∨ n = 1 ∨ n = 2 ∨ n = 3 ∨ n = 4 ∨ n = 5 ∨ n = 6 := by omega
  all_goals exact wp_cut (env_ok okM) rfl hmix hc hl (ble_true.1 (by kernel_rfl)) rfl HC 2000 (pl_start h6 nm o len nS V nS nS nS) T
set_option maxHeartbeats 8000000 in
theorem bad {B : Base} {F : Nat → Option (List AV)} (hc : CallSim Tryz.prog B (arunI Tryz.prog spM F 6)) (hl : ∀ t a, Local (arunI Tryz.prog spM F 6 t a)) {nm o len nS : Nat} {T V S : Int} (hnm : top ≤ nm) (hlen : len ≤ 2000) (hbad : T < 0 ∨ T > 6 ∨ V < 1 ∨ V > 32 ∨ S < 1 ∨ S > V) : Sim Tryz.prog B 270 (Fin Tryz.prog Tryz.f3.results.toList fun y _ => y = .bool true) ⟨3, fillArgs [(.agg [(.int .i64 T), (.int .i64 V), (.int .i64 S), (.rslice nm o len)])], 119, [.code (cAt Tryz.prog 3 [])], [], none⟩ (stOf kn1 270) := by
 exact wp_sim (env_ok okM) rfl hmix hc hl 2000 ((fun (q1 : Pl) => (.st 4 (.rg (.kn (.bool true) (.go 5 (.fk (.no) (.go 1 (.en (.st 3 (.rg (.go 6 (.il (.st 4 (.rg (.go 1 (.fk (.go 21 q1) (.go 2 (.fk (.go 18 q1) (.go 3 (.fk (.go 14 q1) (.go 3 (.fk (.go 10 q1) (.go 3 (.fk (.go 6 q1) (.go 4 (.fk (.go 1 q1) (.no))))))))))))))))))))))))))) (.en (.rt 4 (.go 5 (.en (.rt 7 .no)))))) (And.intro (rfl : worksL [] = some (.bool true)) (tfk (((len : Nat) : Int) > 2000) (fun _ => (oF (by omega))) (fun _ => (tfk (T < 0) (fun _ => bT) (fun _ => (tfk (T > 6) (fun _ => bT) (fun _ => (tfk (V < 1) (fun _ => bT) (fun _ => (tfk (V > 32) (fun _ => bT) (fun _ => (tfk (S < 1) (fun _ => bT) (fun _ => (tfk (S > V) (fun _ => bT) (fun _ => (oF (by omega)))))))))))))))))
noncomputable def pl_startn {n : Nat} (_ : n < 7) (nS : Nat) (V : Int) (nS : Nat) (nS : Nat) (nS : Nat) : Pl := (.st 4 (.rg (.kn (.bool true) (.go 7 (.en (.st 3 (.rg (.go 6 (.il (.st 4 (.rg (.go 8 (.fk (.no) (.go 3 (.fk (.no) (.go 3 (.fk (.no) (.go 4 (.fk (.no) (.go 1 (.en (.st 3 (.rg (.go 6 (.c2 (False) (.slice (some (273, 0)) (nS) (.known nS)) [(273, stripesO nS)] (.slice (some (273, 0)) (nS) (.known nS)) [(273, stripesO nS)] 274 [272, 273] [273] (.no) (.go 4 (.en (.rt 1 (.go 5 (.en (.st 12 (.rn [(1, (.ptr (some (270, 0)))), (3, (.ptr (some (274, 0)))), (5, (.int .i64 (.ofNat 0))), (6, (.int .i64 (.ofNat 0)))] (kn1 ++ [(270, some (.cells 4 (Tr.fill [(.int .i64 (.ofNat n)), (.int .i64 V), (.int .i64 (((nS : Nat) : Int))), (.slice none 0 (.known 0))] 0 .nil) [])), (271, (some (.cells (n * 13) .nil zTh))), (273, (stripesO nS)), (274, some (.cells 5 (Tr.fill [(.int .i64 V), (.int .i64 (.ofNat 0)), (.int .i64 (.ofNat 0)), (.slice (some (271, 0)) (n) (.known n)), (.slice (some (273, 0)) (nS) (.known nS))] 0 .nil) []))]) (headL 0 0) (headA (.slice none 0 (.known 0)) n nS n V ((nS : Nat) : Int) (List.replicate n th0) (List.replicate nS sr0) 0 0) 275 275 .no))))))))))))))))))))))))))))))))
set_option maxHeartbeats 8000000 in
theorem startn {n : Nat} {B : Base} {F : Nat → Option (List AV)} (hc : CallSim Tryz.prog B (arunI Tryz.prog spM F 6)) (hl : ∀ t a, Local (arunI Tryz.prog spM F 6 t a)) (h6 : n < 7) {nm o len nS : Nat} {T V S : Int} (hV : 1 ≤ V ∧ V ≤ 32) (hSV : ((nS : Nat) : Int) ≤ V) (hS : 1 ≤ nS ∧ nS ≤ 32)
  (H : Sim Tryz.prog B 270 (Fin Tryz.prog Tryz.f3.results.toList fun y _ => y = .bool true) (frL (headL 0 0)) (stOf (headA (.slice none 0 (.known 0)) n nS n V ((nS : Nat) : Int) (List.replicate n th0) (List.replicate nS sr0) 0 0) 275)) : Sim Tryz.prog B 270 (Fin Tryz.prog Tryz.f3.results.toList fun y _ => y = .bool true) ⟨3, fillArgs [(.agg [(.int .i64 (.ofNat n)), (.int .i64 V), (.int .i64 (((nS : Nat) : Int))), (.slice none 0 (.known 0))])], 119, [.code (cAt Tryz.prog 3 [])], [], none⟩ (stOf kn1 270) := by
  have T := (And.intro (rfl : worksL [] = some (.bool true)) (tfk (V < 1) (fun h1 => (oF (by omega))) (fun h1 => (tfk (V > 32) (fun h2 => (oF (by omega))) (fun h2 => (tfk (((nS : Nat) : Int) < 1) (fun h3 => (oF (by omega))) (fun h3 => (tfk (((nS : Nat) : Int) > V) (fun h4 => (oF (by omega))) (fun h4 => (And.intro (rep_two (F := F) hS (some (.cells 4 (Tr.fill [(.int .i64 (.ofNat n)), (.int .i64 V), (.int .i64 (((nS : Nat) : Int))), (.slice none 0 (.known 0))] 0 .nil) [])) ((some (.cells (n * 13) .nil zTh)))) (And.intro (fun (h5 : False) => (oF (by omega))) (rnL (.slice none 0 (.known 0)) n nS n V ((nS : Nat) : Int) (zth h6) hS))))))))))))
  have HC : ∀ fr s p, (CH (.slice none 0 (.known 0)) n nS n V ((nS : Nat) : Int) (List.replicate n th0) (List.replicate nS sr0) 0 0) fr s p → Sim Tryz.prog B 270 (Fin Tryz.prog Tryz.f3.results.toList fun y _ => y = .bool true) fr s := fun fr s p hC => by obtain ⟨rfl, rfl⟩ := hC; exact H
  obtain rfl | rfl | rfl | rfl | rfl | rfl | rfl : n = 0 ∨ n = 1 ∨ n = 2 ∨ n = 3 ∨ n = 4 ∨ n = 5 ∨ n = 6 := by omega
  all_goals exact wp_cut (env_ok okM) rfl hmix hc hl (ble_true.1 (by kernel_rfl)) rfl HC 2000 (pl_startn h6 nS V nS nS nS) T
set_option maxHeartbeats 8000000 in
theorem badn {B : Base} {F : Nat → Option (List AV)} (hc : CallSim Tryz.prog B (arunI Tryz.prog spM F 6)) (hl : ∀ t a, Local (arunI Tryz.prog spM F 6 t a)) {nm o len nS : Nat} {T V S : Int} (hbad : T < 0 ∨ T > 6 ∨ V < 1 ∨ V > 32 ∨ S < 1 ∨ S > V) : Sim Tryz.prog B 270 (Fin Tryz.prog Tryz.f3.results.toList fun y _ => y = .bool true) ⟨3, fillArgs [(.agg [(.int .i64 T), (.int .i64 V), (.int .i64 S), (.slice none 0 (.known 0))])], 119, [.code (cAt Tryz.prog 3 [])], [], none⟩ (stOf kn1 270) := by
 exact wp_sim (env_ok okM) rfl hmix hc hl 2000 ((fun (q1 : Pl) => (.st 4 (.rg (.kn (.bool true) (.go 7 (.en (.st 3 (.rg (.go 6 (.il (.st 4 (.rg (.go 1 (.fk (.go 21 q1) (.go 2 (.fk (.go 18 q1) (.go 3 (.fk (.go 14 q1) (.go 3 (.fk (.go 10 q1) (.go 3 (.fk (.go 6 q1) (.go 4 (.fk (.go 1 q1) (.no))))))))))))))))))))))))) (.en (.rt 4 (.go 5 (.en (.rt 7 .no)))))) (And.intro (rfl : worksL [] = some (.bool true)) (tfk (T < 0) (fun _ => bT) (fun _ => (tfk (T > 6) (fun _ => bT) (fun _ => (tfk (V < 1) (fun _ => bT) (fun _ => (tfk (V > 32) (fun _ => bT) (fun _ => (tfk (S < 1) (fun _ => bT) (fun _ => (tfk (S > V) (fun _ => bT) (fun _ => (oF (by omega)))))))))))))))
set_option maxHeartbeats 8000000 in
theorem long {B : Base} {F : Nat → Option (List AV)} (hc : CallSim Tryz.prog B (arunI Tryz.prog spM F 6)) (hl : ∀ t a, Local (arunI Tryz.prog spM F 6 t a)) {nm o len nS : Nat} {T V S : Int} (hlong : 2000 < len) : Sim Tryz.prog B 270 (Fin Tryz.prog Tryz.f3.results.toList fun y _ => y = .bool true) ⟨3, fillArgs [(.agg [(.int .i64 T), (.int .i64 V), (.int .i64 S), (.rslice nm o len)])], 119, [.code (cAt Tryz.prog 3 [])], [], none⟩ (stOf kn1 270) := by
 exact wp_sim (env_ok okM) rfl hmix hc hl 2000 (.st 4 (.rg (.kn (.bool true) (.go 5 (.fk (.go 1 (.en (.st 2 (.rg (.kn (.bool true) (.go 1 (.en (.rt 1 .no)))))))) (.no)))))) (And.intro (rfl : worksL [] = some (.bool true)) (tfk (((len : Nat) : Int) > 2000) (fun _ => (And.intro (rfl : worksL [] = some (.bool true)) bT)) (fun _ => (oF (by omega)))))
end AcN
namespace AcP
open AcS AcW AcT AcY AcR AcN AcG Go.Proofs.YtbnjeblcleihkaaGreatDoor.auditCounted
noncomputable section
def spZ (F : Nat → Option (List AV)) : Sp := updS spM 7 (genM F (triesV F))
def obM (a : AV) (nT nS : Nat) (V S : Int) (ths : List Th) (clock evn : Int) (row : List AV) (L : Nat → List Int) : List (Nat × Option AObj) := [(270, some (.cells 4 (Tr.fill [.int .i64 ((nT : Nat) : Int), .int .i64 V, .int .i64 S, a] 0 .nil) [])), (271, some (rowT encTh ths)), (274, some (.cells 5 (Tr.fill [.int .i64 V, .int .i64 clock, .int .i64 evn, .slice (some (271, 0)) nT (.known nT), .slice (some (273, 0)) nS (.known nS)] 0 .nil) [])), (275, some (rowT encV row)), (276, objL (L 0)), (277, objL (L 1)), (278, objL (L 2)), (279, objL (L 3)), (280, objL (L 4)), (281, objL (L 5))]
def upd (L : Nat → List Int) (n : Nat) (x : List Int) : Nat → List Int := fun k => bif Nat.beq k n then x else L k
def LA (A : List (List Int)) (n : Nat) : List Int := A.getD n []
def slM (nT : Nat) (begun n : Int) : List (Nat × AV) := [(1, (.ptr (some (270, 0)))), (3, (.ptr (some (274, 0)))), (5, (.int .i64 (begun))), (7, (.slice (some (275, 0)) (nT) (.known nT))), (8, (.int .i64 (n)))]
def slI (nT : Nat) (begun n k : Int) : List (Nat × AV) := [(1, (.ptr (some (270, 0)))), (3, (.ptr (some (274, 0)))), (5, (.int .i64 (begun))), (7, (.slice (some (275, 0)) (nT) (.known nT))), (8, (.int .i64 (n))), (9, (.int .i64 (k)))]
def frM (l : List (Nat × AV)) : AF := ⟨3, trOf l, 119, [.code (cAt Tryz.prog 3 [1, 1, 1, 1, 1, 1, 1, 0, 1, 0, 0]), .inLoop (cAt Tryz.prog 3 [1, 1, 1, 1, 1, 1, 1, 0, 1, 0, 0]), .inBlock 2, .code (cAt Tryz.prog 3 [1, 1, 1, 1, 1, 1, 1, 1])], [], none⟩
def frI (l : List (Nat × AV)) : AF := ⟨3, trOf l, 119, [.code (cAt Tryz.prog 3 [1, 1, 1, 1, 1, 1, 1, 0, 1, 0, 0, 1, 0, 0, 1, 1, 0, 0]), .inLoop (cAt Tryz.prog 3 [1, 1, 1, 1, 1, 1, 1, 0, 1, 0, 0, 1, 0, 0, 1, 1, 0, 0]), .inBlock 4, .inBlock 3, .code (cAt Tryz.prog 3 [1, 1, 1, 1, 1, 1, 1, 0, 1, 0, 0, 1, 1]), .inLoop (cAt Tryz.prog 3 [1, 1, 1, 1, 1, 1, 1, 0, 1, 0, 0]), .inBlock 2, .code (cAt Tryz.prog 3 [1, 1, 1, 1, 1, 1, 1, 1])], [], none⟩
def CM (f : List (Nat × AV) → AF) (l : List (Nat × AV)) (o : List (Nat × Option AObj)) : CutT := fun fr s _ => fr = f l ∧ s = stOf o 282
def stZ (a : AV) (nT nS : Nat) (V S : Int) (ths : List Th) (srs : List Sr) (clock evn : Int) (A : List (List Int)) : AS := ⟨putO (stOf (headA a nT nS ((nT : Nat) : Int) V S ths srs clock evn) 275).h 275 ((outT nT A).obs 275), 282, 0, [], []⟩
end
theorem okZ {F : Nat → Option (List AV)} : TabOk K1 (spZ F) tabM := okM.other 7 _ (by kernel_rfl)
theorem tries_cu {F : Nat → Option (List AV)} {a : AV} {nT nS : Nat} {V S : Int} {ths : List Th} {srs : List Sr} {clock evn : Int} {A : List (List Int)} (h : TrR F [.agg [.int .i64 (Int.ofNat nT), .int .i64 V, .int .i64 S, a]] (outT nT A)) (ha : hi1 F a) :
    arunI Tryz.prog (spZ F) F 6 (.fn 7) [.agg [.int .i64 (Int.ofNat nT), .int .i64 V, .int .i64 S, a]] (stOf (headA a nT nS ((nT : Nat) : Int) V S ths srs clock evn) 275) = .ok (.slice (some (275, 0)) nT (.known nT)) (stZ a nT nS V S ths srs clock evn A) := by
  have hsp : spZ F 7 = some (genM F (triesV F)) := updS_self _ _ _
  show fnI Tryz.prog (spZ F) 7 (arunI Tryz.prog (spZ F) F 5) _ _ = _
  rw [fnI_sp hsp]
  refine (genM_ok (triesV_ok h) (fun y hy => ?_) ?_)
  · rcases List.mem_singleton.1 hy with rfl
    refine .inr ⟨_, .inl rfl, fun z hz => ?_⟩
    simp only [List.mem_cons, List.not_mem_nil, or_false] at hz
    rcases hz with rfl | rfl | rfl | rfl
    · exact .inl rfl
    · exact .inl rfl
    · exact .inl rfl
    · exact ha
  · exact ble_true.1 (by as_aux_lemma => kernel_rfl)
theorem obM_low (a : AV) (nT nS : Nat) (V S : Int) (ths : List Th) (clock evn : Int) (row : List AV) (L : Nat → List Int) : ∀ p ∈ obM a nT nS V S ths clock evn row L, p.1 < top ∧ ∀ y, p.2 = some y → y.plain = true := by
  have low : ∀ n, n < 282 → n < top := fun n h => by unfold top; omega
  have hr : ∀ (n : Nat) (L : List Int), n < 282 → (n, objL L).1 < top ∧ ∀ y, (n, objL L).2 = some y → y.plain = true := fun n L hn => ⟨low n hn, fun y hy => by
    have hy' : objL L = some y := hy
    cases L with
    | nil => cases hy'
    | cons x l => injection hy' with hy'; subst hy'; rfl⟩
  intro p hp
  simp only [obM, List.mem_cons, List.not_mem_nil, or_false] at hp
  rcases hp with rfl | rfl | rfl | rfl | rfl | rfl | rfl | rfl | rfl | rfl
  · exact ⟨low 270 (by decide), fun y hy => by injection hy with hy; subst hy; rfl⟩
  · exact ⟨low 271 (by decide), fun y hy => by injection hy with hy; subst hy; rfl⟩
  · exact ⟨low 274 (by decide), fun y hy => by injection hy with hy; subst hy; rfl⟩
  · exact ⟨low 275 (by decide), fun y hy => by injection hy with hy; subst hy; rfl⟩
  · exact hr _ _ (by decide)
  · exact hr _ _ (by decide)
  · exact hr _ _ (by decide)
  · exact hr _ _ (by decide)
  · exact hr _ _ (by decide)
  · exact hr _ _ (by decide)
theorem weakSame {lo nx : Nat} {l : List (Nat × AV)} {o : List (Nat × Option AObj)} (hnx : nx ≤ top) (hl : ∀ p ∈ l, p.1 < top) (ho : ∀ p ∈ o, p.1 < top ∧ ∀ y, p.2 = some y → y.plain = true) : Weak lo nx l o l o nx :=
  ⟨id, fun _ _ => rfl, fun _ h1 h2 => ⟨h1, h2⟩, fun _ _ => rfl, hnx, fun p hp => ⟨hl p hp, p.2, hp, fun _ _ h => h⟩, fun p hp => ⟨(ho p hp).1, fun y hy => ⟨(ho p hp).1, (ho p hp).2 y hy, y, by show (p.1, some y) ∈ o; rw [← hy]; exact hp, fun h => h, fun _ _ _ h => h⟩⟩, fun _ _ _ _ _ _ e => e⟩
theorem slM_low {nT : Nat} {begun n : Int} : ∀ p ∈ slM nT begun n, p.1 < top := fun p hp => by
  have : p.1 < 100 := by
    simp only [slM, List.mem_cons, List.not_mem_nil, or_false] at hp
    rcases hp with rfl | rfl | rfl | rfl | rfl <;> (dsimp only; omega)
  unfold top; omega
theorem slI_low {nT : Nat} {begun n k : Int} : ∀ p ∈ slI nT begun n k, p.1 < top := fun p hp => by
  have : p.1 < 100 := by
    simp only [slI, List.mem_cons, List.not_mem_nil, or_false] at hp
    rcases hp with rfl | rfl | rfl | rfl | rfl | rfl <;> (dsimp only; omega)
  unfold top; omega
theorem rnM' {l : List (Nat × AV)} {f : List (Nat × AV) → AF} {o : List (Nat × Option AObj)} (hl : ∀ p ∈ l, p.1 < top) (ho : ∀ p ∈ o, p.1 < top ∧ ∀ y, p.2 = some y → y.plain = true) : l.map (fun q => some q.2) = l.map (fun q => some q.2) ∧ o.map (fun q => q.2) = o.map (fun q => q.2) ∧ Weak 270 282 l o l o 282 ∧ CM f l o (f l) (stOf o 282) .no := ⟨rfl, rfl, weakSame (by unfold top; decide) hl ho, rfl, rfl⟩
set_option maxHeartbeats 8000000 in
theorem midR {B : Base} {F : Nat → Option (List AV)} (hc : CallSim Tryz.prog B (arunI Tryz.prog (spZ F) F 6)) (hl : ∀ t a, Local (arunI Tryz.prog (spZ F) F 6 t a)) {a : AV} {nm o len nT nS : Nat} {V S : Int} {ths : List Th} {srs : List Sr} {clock evn begun i : Int} {A : List (List Int)} (hi : (len : Int) ≤ i) (hTr : TrR F [.agg [.int .i64 (Int.ofNat nT), .int .i64 V, .int .i64 S, (.rslice nm o len)]] (outT nT A)) (ha : hi1 F (.rslice nm o len)) (hnm : top ≤ nm)
  (H : Sim Tryz.prog B 270 (Fin Tryz.prog Tryz.f3.results.toList fun y _ => y = .bool true) (frM (slM nT begun 0)) (stOf (obM (.rslice nm o len) nT nS V S ths clock evn (cellsF 276 A) (LA A)) 282)) : Sim Tryz.prog B 270 (Fin Tryz.prog Tryz.f3.results.toList fun y _ => y = .bool true) (frL (headL begun i)) (stOf (headA (.rslice nm o len) nT nS ((nT : Nat) : Int) V S ths srs clock evn) 275) := by
 exact wp_cut (C := (CM frM (slM nT begun 0) (obM (.rslice nm o len) nT nS V S ths clock evn (cellsF 276 A) (LA A)))) (env_ok okZ) rfl hmix hc hl (ble_true.1 (by kernel_rfl)) rfl (fun fr s p hC => by obtain ⟨rfl, rfl⟩ := hC; exact H) 2000 (.st 2 (.rg (.go 4 (.fk (.no) (.en (.st 3 (.rg (.go 1 (.cu (.slice (some (275, 0)) (nT) (.known nT)) (stZ (.rslice nm o len) nT nS V S ths srs clock evn A) (.go 1 (.en (.st 5 (.rn (slM nT begun 0) (obM (.rslice nm o len) nT nS V S ths clock evn (cellsF 276 A) (LA A)) (slM nT begun 0) (obM (.rslice nm o len) nT nS V S ths clock evn (cellsF 276 A) (LA A)) 282 282 .no)))))))))))))
  (tfk (i < ((len : Nat) : Int)) (fun h1 => (show False by omega))
  (fun h1 => (And.intro (tries_cu (nS := nS) (ths := ths) (srs := srs) (clock := clock) (evn := evn) hTr ha)
  (rnM' (f := frM) (l := slM nT begun 0) slM_low (obM_low (.rslice nm o len) nT nS V S ths clock evn (cellsF 276 A) (LA A))))))
set_option maxHeartbeats 8000000 in
theorem midN {B : Base} {F : Nat → Option (List AV)} (hc : CallSim Tryz.prog B (arunI Tryz.prog (spZ F) F 6)) (hl : ∀ t a, Local (arunI Tryz.prog (spZ F) F 6 t a)) {a : AV} {nm o len nT nS : Nat} {V S : Int} {ths : List Th} {srs : List Sr} {clock evn begun i : Int} {A : List (List Int)} (hi : (0 : Int) ≤ i) (hTr : TrR F [.agg [.int .i64 (Int.ofNat nT), .int .i64 V, .int .i64 S, (.slice none 0 (.known 0))]] (outT nT A)) (ha : hi1 F (.slice none 0 (.known 0)))
  (H : Sim Tryz.prog B 270 (Fin Tryz.prog Tryz.f3.results.toList fun y _ => y = .bool true) (frM (slM nT begun 0)) (stOf (obM (.slice none 0 (.known 0)) nT nS V S ths clock evn (cellsF 276 A) (LA A)) 282)) : Sim Tryz.prog B 270 (Fin Tryz.prog Tryz.f3.results.toList fun y _ => y = .bool true) (frL (headL begun i)) (stOf (headA (.slice none 0 (.known 0)) nT nS ((nT : Nat) : Int) V S ths srs clock evn) 275) := by
 exact wp_cut (C := (CM frM (slM nT begun 0) (obM (.slice none 0 (.known 0)) nT nS V S ths clock evn (cellsF 276 A) (LA A)))) (env_ok okZ) rfl hmix hc hl (ble_true.1 (by kernel_rfl)) rfl (fun fr s p hC => by obtain ⟨rfl, rfl⟩ := hC; exact H) 2000 (.st 2 (.rg (.go 4 (.fk (.no) (.en (.st 3 (.rg (.go 1 (.cu (.slice (some (275, 0)) (nT) (.known nT)) (stZ (.slice none 0 (.known 0)) nT nS V S ths srs clock evn A) (.go 1 (.en (.st 5 (.rn (slM nT begun 0) (obM (.slice none 0 (.known 0)) nT nS V S ths clock evn (cellsF 276 A) (LA A)) (slM nT begun 0) (obM (.slice none 0 (.known 0)) nT nS V S ths clock evn (cellsF 276 A) (LA A)) 282 282 .no)))))))))))))
  (tfk (i < 0) (fun h1 => (show False by omega))
  (fun h1 => (And.intro (tries_cu (nS := nS) (ths := ths) (srs := srs) (clock := clock) (evn := evn) hTr ha)
  (rnM' (f := frM) (l := slM nT begun 0) slM_low (obM_low (.slice none 0 (.known 0)) nT nS V S ths clock evn (cellsF 276 A) (LA A))))))
set_option maxHeartbeats 8000000 in
theorem fin {B : Base} {F : Nat → Option (List AV)} (hc : CallSim Tryz.prog B (arunI Tryz.prog (spZ F) F 6)) (hl : ∀ t a, Local (arunI Tryz.prog (spZ F) F 6 t a)) {a : AV} {nm o len nT nS : Nat} {V S : Int} {ths : List Th} {srs : List Sr} {clock evn begun i : Int} {row : List AV} {L : Nat → List Int} {c : Th} {k y x0 : Int} {l0 : List Int} {n : Int} (hn : (nT : Int) ≤ n) (hb : begun = 0) : Sim Tryz.prog B 270 (Fin Tryz.prog Tryz.f3.results.toList fun y _ => y = .bool true) (frM (slM nT begun n)) (stOf (obM a nT nS V S ths clock evn row L) 282) := by
 exact wp_sim (env_ok okZ) rfl hmix hc hl 2000 (.st 2 (.rg (.go 3 (.fk (.no) (.en (.st 3 (.rg (.go 4 (.fk (.go 2 (.fk (.go 2 (.en (.rt 1 .no))) (.no))) (.no))))))))))
  (tfk (n < ((nT : Nat) : Int)) (fun h1 => (show False by omega))
  (fun h1 => (tfk (((nT : Nat) : Int) = ((nT : Nat) : Int)) (fun h2 => (tfk (begun = 0) (fun h3 => (rfl : AV.bool true = AV.bool true))
  (fun h3 => (show False by omega))))
  (fun h2 => (show False by omega)))))
noncomputable def pl_inN {n nT : Nat} (_ : n < nT) (a : AV) (nS : Nat) (V S clock evn begun : Int) (ths : List Th) (row : List AV) (L : Nat → List Int) (c : Th) (k y x0 : Int) (l0 : List Int) : Pl := (.st 2 (.rg (.go 3 (.fk (.en (.st 6 (.rg (.go 2 (.ix (.ld [(.slice none 0 (.known 0))] (.go 3 (.il (.st 4 (.rg (.go 13 (.fk (.go 1 (.en (.rt 4 (.go 13 (.en (.st 6 (.rn (slI nT begun n 0) (obM a nT nS V S ths clock evn row (upd L n [])) (slI nT begun n 0) (obM a nT nS V S ths clock evn row (upd L n [])) 282 282 .no))))))) (.go 1 (.en (.st 3 (.rg (.go 5 (.ix (.go 1 (.ld [(.int .i64 (c.commits))] (.go 1 (.en (.rt 1 (.fk (.go 3 (.ix (.ld [(.slice none 0 (.known 0))] (.go 3 (.il (.st 4 (.rg (.go 13 (.fk (.go 1 (.en (.rt 4 (.go 3 (.en (.rt 4 .no)))))) (.go 1 (.en (.st 3 (.rg (.go 5 (.ix (.go 1 (.ld [(.int .i64 (c.commits))] (.go 1 (.en (.rt 1 (.vl (.int .i64 (c.commits + 1)) (.fk (.go 1 (.en (.rt 4 .no))) (.go 1 (.en (.st 6 (.rn (slI nT begun n 0) (obM a nT nS V S ths clock evn row (upd L n [])) (slI nT begun n 0) (obM a nT nS V S ths clock evn row (upd L n [])) 282 282 .no)))))))))))))))))))))))))) (.go 12 (.en (.st 6 (.rn (slI nT begun n 0) (obM a nT nS V S ths clock evn row (upd L n [])) (slI nT begun n 0) (obM a nT nS V S ths clock evn row (upd L n [])) 282 282 .no)))))))))))))))))))))))))))) (.en (.st 3 (.rg (.go 4 (.fk (.go 2 (.fk (.go 2 (.en (.rt 1 .no))) (.go 2 (.en (.rt 1 .no))))) (.go 5 (.en (.rt 1 .no))))))))))))
set_option maxHeartbeats 8000000 in
theorem inN {B : Base} {F : Nat → Option (List AV)} (hc : CallSim Tryz.prog B (arunI Tryz.prog (spZ F) F 6)) (hl : ∀ t a, Local (arunI Tryz.prog (spZ F) F 6 t a)) {a : AV} {nm o len nT nS : Nat} {V S : Int} {ths : List Th} {srs : List Sr} {clock evn begun i : Int} {row : List AV} {L : Nat → List Int} {c : Th} {k y x0 : Int} {l0 : List Int} {n : Nat} (h6 : n < 6) (hn : n < nT) (hT : nT ≤ 6) (hlO : row.length * 1 ≤ top) (hlT : ths.length * 13 ≤ top) (hnT : ths.length = nT) (hrow : row[n]? = some (.slice none 0 (.known 0))) (hcm : ths[n]? = some c) (hco : 0 ≤ c.commits ∧ c.commits ≤ 6) (hlen : (0 : Int) = c.commits ∨ (0 : Int) = c.commits + 1)
  (H : Sim Tryz.prog B 270 (Fin Tryz.prog Tryz.f3.results.toList fun y _ => y = .bool true) (frI (slI nT begun n 0)) (stOf (obM a nT nS V S ths clock evn row (upd L n [])) 282)) : Sim Tryz.prog B 270 (Fin Tryz.prog Tryz.f3.results.toList fun y _ => y = .bool true) (frM (slM nT begun n)) (stOf (obM a nT nS V S ths clock evn row (upd L n [])) 282) := by
  have T := (tfk ((n : Int) < ((nT : Nat) : Int)) (fun h1 => (And.intro (show (0 : Int) ≤ (n : Int) from (by omega)) (And.intro (show (n : Int) < ((nT : Nat) : Int) from (by omega))
    (And.intro (row_ld lenV hlO hrow 0 1 rfl)
    (tfk ((n : Int) ≥ ((nT : Nat) : Int)) (fun h2 => (rnM' (f := frI) (l := slI nT begun n 0) slI_low (obM_low a nT nS V S ths clock evn row (upd L n []))))
    (fun h2 => (And.intro (show (0 : Int) ≤ (n : Int) from (by omega)) (And.intro (show (n : Int) < ((nT : Nat) : Int) from (by omega))
    (And.intro (row_ld okTh.len hlT hcm 1 1 rfl)
    (tfk ((0 : Int) ≠ c.commits) (fun h3 => (And.intro (show (0 : Int) ≤ (n : Int) from (by omega)) (And.intro (show (n : Int) < ((nT : Nat) : Int) from (by omega))
    (And.intro (row_ld lenV hlO hrow 0 1 rfl)
    (tfk ((n : Int) ≥ ((nT : Nat) : Int)) (fun h4 => (show AV.bool false = AV.bool true from (False.elim (by omega))))
    (fun h4 => (And.intro (show (0 : Int) ≤ (n : Int) from (by omega)) (And.intro (show (n : Int) < ((nT : Nat) : Int) from (by omega))
    (And.intro (row_ld okTh.len hlT hcm 1 1 rfl)
    (And.intro (congrArg (AV.int .i64) (show IntKind.wrap .i64 (c.commits + 1) = (c.commits + 1) from wrap_i64_in (by omega)))
    (tfk ((0 : Int) ≠ (c.commits + 1)) (fun h5 => (show AV.bool false = AV.bool true from (False.elim (by omega))))
    (fun h5 => (rnM' (f := frI) (l := slI nT begun n 0) slI_low (obM_low a nT nS V S ths clock evn row (upd L n [])))))))))))))))
    (fun h3 => (rnM' (f := frI) (l := slI nT begun n 0) slI_low (obM_low a nT nS V S ths clock evn row (upd L n []))))))))))))))
    (fun h1 => (tfk (((nT : Nat) : Int) = ((nT : Nat) : Int)) (fun h6 => (tfk (begun = 0) (fun h7 => (rfl : AV.bool true = AV.bool true))
    (fun h7 => (show AV.bool false = AV.bool true from (False.elim (by omega))))))
    (fun h6 => (show AV.bool false = AV.bool true from (False.elim (by omega)))))))
  have HC : ∀ fr s p, (CM frI (slI nT begun n 0) (obM a nT nS V S ths clock evn row (upd L n []))) fr s p → Sim Tryz.prog B 270 (Fin Tryz.prog Tryz.f3.results.toList fun y _ => y = .bool true) fr s := fun fr s p hC => by obtain ⟨rfl, rfl⟩ := hC; exact H
  obtain rfl | rfl | rfl | rfl | rfl | rfl : n = 0 ∨ n = 1 ∨ n = 2 ∨ n = 3 ∨ n = 4 ∨ n = 5 := by omega
  all_goals exact wp_cut (env_ok okZ) rfl hmix hc hl (ble_true.1 (by kernel_rfl)) rfl HC 2000 (pl_inN hn a nS V S clock evn begun ths row L c k y x0 l0) T
noncomputable def pl_inC {n nT : Nat} (_ : n < nT) (a : AV) (nS : Nat) (V S clock evn begun : Int) (ths : List Th) (row : List AV) (L : Nat → List Int) (c : Th) (k y x0 : Int) (l0 : List Int) : Pl := (.st 2 (.rg (.go 3 (.fk (.en (.st 6 (.rg (.go 2 (.ix (.ld [(.slice (some ((276 + n), 0)) ((x0 :: l0).length) (.atLeast (x0 :: l0).length 1))] (.go 3 (.il (.st 4 (.rg (.go 13 (.fk (.go 1 (.en (.rt 4 (.fk (.go 3 (.ix (.ld [(.slice (some ((276 + n), 0)) ((x0 :: l0).length) (.atLeast (x0 :: l0).length 1))] (.go 3 (.il (.st 4 (.rg (.go 13 (.fk (.go 1 (.en (.rt 4 (.go 1 (.fk (.go 1 (.en (.rt 4 .no))) (.go 1 (.en (.st 6 (.rn (slI nT begun n 0) (obM a nT nS V S ths clock evn row (upd L n (x0 :: l0))) (slI nT begun n 0) (obM a nT nS V S ths clock evn row (upd L n (x0 :: l0))) 282 282 .no))))))))) (.go 1 (.en (.st 3 (.rg (.go 5 (.ix (.go 1 (.ld [(.int .i64 (c.commits))] (.go 1 (.en (.rt 1 (.vl (.int .i64 (c.commits + 1)) (.fk (.go 1 (.en (.rt 4 .no))) (.go 1 (.en (.st 6 (.rn (slI nT begun n 0) (obM a nT nS V S ths clock evn row (upd L n (x0 :: l0))) (slI nT begun n 0) (obM a nT nS V S ths clock evn row (upd L n (x0 :: l0))) 282 282 .no)))))))))))))))))))))))))) (.go 12 (.en (.st 6 (.rn (slI nT begun n 0) (obM a nT nS V S ths clock evn row (upd L n (x0 :: l0))) (slI nT begun n 0) (obM a nT nS V S ths clock evn row (upd L n (x0 :: l0))) 282 282 .no)))))))) (.go 1 (.en (.st 3 (.rg (.go 5 (.ix (.go 1 (.ld [(.int .i64 (c.commits))] (.go 1 (.en (.rt 1 (.fk (.go 3 (.ix (.ld [(.slice (some ((276 + n), 0)) ((x0 :: l0).length) (.atLeast (x0 :: l0).length 1))] (.go 3 (.il (.st 4 (.rg (.go 13 (.fk (.go 1 (.en (.rt 4 (.go 1 (.fk (.go 1 (.en (.rt 4 .no))) (.go 1 (.en (.st 6 (.rn (slI nT begun n 0) (obM a nT nS V S ths clock evn row (upd L n (x0 :: l0))) (slI nT begun n 0) (obM a nT nS V S ths clock evn row (upd L n (x0 :: l0))) 282 282 .no))))))))) (.go 1 (.en (.st 3 (.rg (.go 5 (.ix (.go 1 (.ld [(.int .i64 (c.commits))] (.go 1 (.en (.rt 1 (.vl (.int .i64 (c.commits + 1)) (.fk (.go 1 (.en (.rt 4 .no))) (.go 1 (.en (.st 6 (.rn (slI nT begun n 0) (obM a nT nS V S ths clock evn row (upd L n (x0 :: l0))) (slI nT begun n 0) (obM a nT nS V S ths clock evn row (upd L n (x0 :: l0))) 282 282 .no)))))))))))))))))))))))))) (.go 12 (.en (.st 6 (.rn (slI nT begun n 0) (obM a nT nS V S ths clock evn row (upd L n (x0 :: l0))) (slI nT begun n 0) (obM a nT nS V S ths clock evn row (upd L n (x0 :: l0))) 282 282 .no)))))))))))))))))))))))))))) (.en (.st 3 (.rg (.go 4 (.fk (.go 2 (.fk (.go 2 (.en (.rt 1 .no))) (.go 2 (.en (.rt 1 .no))))) (.go 5 (.en (.rt 1 .no))))))))))))
set_option maxHeartbeats 8000000 in
theorem inC {B : Base} {F : Nat → Option (List AV)} (hc : CallSim Tryz.prog B (arunI Tryz.prog (spZ F) F 6)) (hl : ∀ t a, Local (arunI Tryz.prog (spZ F) F 6 t a)) {a : AV} {nm o len nT nS : Nat} {V S : Int} {ths : List Th} {srs : List Sr} {clock evn begun i : Int} {row : List AV} {L : Nat → List Int} {c : Th} {k y x0 : Int} {l0 : List Int} {n : Nat} (h6 : n < 6) (hn : n < nT) (hT : nT ≤ 6) (hlO : row.length * 1 ≤ top) (hlT : ths.length * 13 ≤ top) (hnT : ths.length = nT) (hrow : row[n]? = some (.slice (some ((276 + n), 0)) ((x0 :: l0).length) (.atLeast (x0 :: l0).length 1))) (hcm : ths[n]? = some c) (hco : 0 ≤ c.commits ∧ c.commits ≤ 6) (hlen : ((x0 :: l0).length : Int) = c.commits ∨ ((x0 :: l0).length : Int) = c.commits + 1)
  (H : Sim Tryz.prog B 270 (Fin Tryz.prog Tryz.f3.results.toList fun y _ => y = .bool true) (frI (slI nT begun n 0)) (stOf (obM a nT nS V S ths clock evn row (upd L n (x0 :: l0))) 282)) : Sim Tryz.prog B 270 (Fin Tryz.prog Tryz.f3.results.toList fun y _ => y = .bool true) (frM (slM nT begun n)) (stOf (obM a nT nS V S ths clock evn row (upd L n (x0 :: l0))) 282) := by
  have T := (tfk ((n : Int) < ((nT : Nat) : Int)) (fun h1 => (And.intro (show (0 : Int) ≤ (n : Int) from (by omega)) (And.intro (show (n : Int) < ((nT : Nat) : Int) from (by omega))
    (And.intro (row_ld lenV hlO hrow 0 1 rfl)
    (tfk ((n : Int) ≥ ((nT : Nat) : Int)) (fun h2 => (tfk ((((x0 :: l0).length : Nat) : Int) ≠ 0) (fun h3 => (And.intro (show (0 : Int) ≤ (n : Int) from (by omega)) (And.intro (show (n : Int) < ((nT : Nat) : Int) from (by omega))
    (And.intro (row_ld lenV hlO hrow 0 1 rfl)
    (tfk ((n : Int) ≥ ((nT : Nat) : Int)) (fun h4 => (tfk ((((x0 :: l0).length : Nat) : Int) ≠ 1) (fun h5 => (show AV.bool false = AV.bool true from (False.elim (by omega))))
    (fun h5 => (rnM' (f := frI) (l := slI nT begun n 0) slI_low (obM_low a nT nS V S ths clock evn row (upd L n (x0 :: l0)))))))
    (fun h4 => (And.intro (show (0 : Int) ≤ (n : Int) from (by omega)) (And.intro (show (n : Int) < ((nT : Nat) : Int) from (by omega))
    (And.intro (row_ld okTh.len hlT hcm 1 1 rfl)
    (And.intro (congrArg (AV.int .i64) (show IntKind.wrap .i64 (c.commits + 1) = (c.commits + 1) from wrap_i64_in (by omega)))
    (tfk ((((x0 :: l0).length : Nat) : Int) ≠ (c.commits + 1)) (fun h6 => (show AV.bool false = AV.bool true from (False.elim (by omega))))
    (fun h6 => (rnM' (f := frI) (l := slI nT begun n 0) slI_low (obM_low a nT nS V S ths clock evn row (upd L n (x0 :: l0))))))))))))))))
    (fun h3 => (rnM' (f := frI) (l := slI nT begun n 0) slI_low (obM_low a nT nS V S ths clock evn row (upd L n (x0 :: l0)))))))
    (fun h2 => (And.intro (show (0 : Int) ≤ (n : Int) from (by omega)) (And.intro (show (n : Int) < ((nT : Nat) : Int) from (by omega))
    (And.intro (row_ld okTh.len hlT hcm 1 1 rfl)
    (tfk ((((x0 :: l0).length : Nat) : Int) ≠ c.commits) (fun h7 => (And.intro (show (0 : Int) ≤ (n : Int) from (by omega)) (And.intro (show (n : Int) < ((nT : Nat) : Int) from (by omega))
    (And.intro (row_ld lenV hlO hrow 0 1 rfl)
    (tfk ((n : Int) ≥ ((nT : Nat) : Int)) (fun h8 => (tfk ((((x0 :: l0).length : Nat) : Int) ≠ 1) (fun h9 => (show AV.bool false = AV.bool true from (False.elim (by omega))))
    (fun h9 => (rnM' (f := frI) (l := slI nT begun n 0) slI_low (obM_low a nT nS V S ths clock evn row (upd L n (x0 :: l0)))))))
    (fun h8 => (And.intro (show (0 : Int) ≤ (n : Int) from (by omega)) (And.intro (show (n : Int) < ((nT : Nat) : Int) from (by omega))
    (And.intro (row_ld okTh.len hlT hcm 1 1 rfl)
    (And.intro (congrArg (AV.int .i64) (show IntKind.wrap .i64 (c.commits + 1) = (c.commits + 1) from wrap_i64_in (by omega)))
    (tfk ((((x0 :: l0).length : Nat) : Int) ≠ (c.commits + 1)) (fun h10 => (show AV.bool false = AV.bool true from (False.elim (by omega))))
    (fun h10 => (rnM' (f := frI) (l := slI nT begun n 0) slI_low (obM_low a nT nS V S ths clock evn row (upd L n (x0 :: l0))))))))))))))))
    (fun h7 => (rnM' (f := frI) (l := slI nT begun n 0) slI_low (obM_low a nT nS V S ths clock evn row (upd L n (x0 :: l0)))))))))))))))
    (fun h1 => (tfk (((nT : Nat) : Int) = ((nT : Nat) : Int)) (fun h11 => (tfk (begun = 0) (fun h12 => (rfl : AV.bool true = AV.bool true))
    (fun h12 => (show AV.bool false = AV.bool true from (False.elim (by omega))))))
    (fun h11 => (show AV.bool false = AV.bool true from (False.elim (by omega)))))))
  have HC : ∀ fr s p, (CM frI (slI nT begun n 0) (obM a nT nS V S ths clock evn row (upd L n (x0 :: l0)))) fr s p → Sim Tryz.prog B 270 (Fin Tryz.prog Tryz.f3.results.toList fun y _ => y = .bool true) fr s := fun fr s p hC => by obtain ⟨rfl, rfl⟩ := hC; exact H
  obtain rfl | rfl | rfl | rfl | rfl | rfl : n = 0 ∨ n = 1 ∨ n = 2 ∨ n = 3 ∨ n = 4 ∨ n = 5 := by omega
  all_goals exact wp_cut (env_ok okZ) rfl hmix hc hl (ble_true.1 (by kernel_rfl)) rfl HC 2000 (pl_inC hn a nS V S clock evn begun ths row L c k y x0 l0) T
noncomputable def pl_exN {n nT : Nat} (_ : n < nT) (a : AV) (nS : Nat) (V S clock evn begun : Int) (ths : List Th) (row : List AV) (L : Nat → List Int) (c : Th) (k y x0 : Int) (l0 : List Int) : Pl := (.st 2 (.rg (.go 3 (.ix (.ld [(.slice none 0 (.known 0))] (.go 1 (.fk (.no) (.en (.st 5 (.rn (slM nT begun (n + 1)) (obM a nT nS V S ths clock evn row (upd L n [])) (slM nT begun (n + 1)) (obM a nT nS V S ths clock evn row (upd L n [])) 282 282 .no))))))))))
set_option maxHeartbeats 8000000 in
theorem exN {B : Base} {F : Nat → Option (List AV)} (hc : CallSim Tryz.prog B (arunI Tryz.prog (spZ F) F 6)) (hl : ∀ t a, Local (arunI Tryz.prog (spZ F) F 6 t a)) {a : AV} {nm o len nT nS : Nat} {V S : Int} {ths : List Th} {srs : List Sr} {clock evn begun i : Int} {row : List AV} {L : Nat → List Int} {c : Th} {k y x0 : Int} {l0 : List Int} {n : Nat} (h6 : n < 6) (hn : n < nT) (hT : nT ≤ 6) (hlO : row.length * 1 ≤ top) (hrow : row[n]? = some (.slice none 0 (.known 0))) (hk : (0 : Int) ≤ k)
  (H : Sim Tryz.prog B 270 (Fin Tryz.prog Tryz.f3.results.toList fun y _ => y = .bool true) (frM (slM nT begun (n + 1))) (stOf (obM a nT nS V S ths clock evn row (upd L n [])) 282)) : Sim Tryz.prog B 270 (Fin Tryz.prog Tryz.f3.results.toList fun y _ => y = .bool true) (frI (slI nT begun n k)) (stOf (obM a nT nS V S ths clock evn row (upd L n [])) 282) := by
  have T := (And.intro (show (0 : Int) ≤ (n : Int) from (by omega)) (And.intro (show (n : Int) < ((nT : Nat) : Int) from (by omega))
    (And.intro (row_ld lenV hlO hrow 0 1 rfl)
    (tfk (k < 0) (fun h1 => (show False by omega))
    (fun h1 => (rnM' (f := frM) (l := slM nT begun (n + 1)) slM_low (obM_low a nT nS V S ths clock evn row (upd L n []))))))))
  have HC : ∀ fr s p, (CM frM (slM nT begun (n + 1)) (obM a nT nS V S ths clock evn row (upd L n []))) fr s p → Sim Tryz.prog B 270 (Fin Tryz.prog Tryz.f3.results.toList fun y _ => y = .bool true) fr s := fun fr s p hC => by obtain ⟨rfl, rfl⟩ := hC; exact H
  obtain rfl | rfl | rfl | rfl | rfl | rfl : n = 0 ∨ n = 1 ∨ n = 2 ∨ n = 3 ∨ n = 4 ∨ n = 5 := by omega
  all_goals exact wp_cut (env_ok okZ) rfl hmix hc hl (ble_true.1 (by kernel_rfl)) rfl HC 2000 (pl_exN hn a nS V S clock evn begun ths row L c k y x0 l0) T
noncomputable def pl_exC {n nT : Nat} (_ : n < nT) (a : AV) (nS : Nat) (V S clock evn begun : Int) (ths : List Th) (row : List AV) (L : Nat → List Int) (c : Th) (k y x0 : Int) (l0 : List Int) : Pl := (.st 2 (.rg (.go 3 (.ix (.ld [(.slice (some ((276 + n), 0)) ((x0 :: l0).length) (.atLeast (x0 :: l0).length 1))] (.go 1 (.fk (.no) (.en (.st 5 (.rn (slM nT begun (n + 1)) (obM a nT nS V S ths clock evn row (upd L n (x0 :: l0))) (slM nT begun (n + 1)) (obM a nT nS V S ths clock evn row (upd L n (x0 :: l0))) 282 282 .no))))))))))
set_option maxHeartbeats 8000000 in
theorem exC {B : Base} {F : Nat → Option (List AV)} (hc : CallSim Tryz.prog B (arunI Tryz.prog (spZ F) F 6)) (hl : ∀ t a, Local (arunI Tryz.prog (spZ F) F 6 t a)) {a : AV} {nm o len nT nS : Nat} {V S : Int} {ths : List Th} {srs : List Sr} {clock evn begun i : Int} {row : List AV} {L : Nat → List Int} {c : Th} {k y x0 : Int} {l0 : List Int} {n : Nat} (h6 : n < 6) (hn : n < nT) (hT : nT ≤ 6) (hlO : row.length * 1 ≤ top) (hrow : row[n]? = some (.slice (some ((276 + n), 0)) ((x0 :: l0).length) (.atLeast (x0 :: l0).length 1))) (hk : ((x0 :: l0).length : Int) ≤ k)
  (H : Sim Tryz.prog B 270 (Fin Tryz.prog Tryz.f3.results.toList fun y _ => y = .bool true) (frM (slM nT begun (n + 1))) (stOf (obM a nT nS V S ths clock evn row (upd L n (x0 :: l0))) 282)) : Sim Tryz.prog B 270 (Fin Tryz.prog Tryz.f3.results.toList fun y _ => y = .bool true) (frI (slI nT begun n k)) (stOf (obM a nT nS V S ths clock evn row (upd L n (x0 :: l0))) 282) := by
  have T := (And.intro (show (0 : Int) ≤ (n : Int) from (by omega)) (And.intro (show (n : Int) < ((nT : Nat) : Int) from (by omega))
    (And.intro (row_ld lenV hlO hrow 0 1 rfl)
    (tfk (k < (((x0 :: l0).length : Nat) : Int)) (fun h1 => (show False by omega))
    (fun h1 => (rnM' (f := frM) (l := slM nT begun (n + 1)) slM_low (obM_low a nT nS V S ths clock evn row (upd L n (x0 :: l0)))))))))
  have HC : ∀ fr s p, (CM frM (slM nT begun (n + 1)) (obM a nT nS V S ths clock evn row (upd L n (x0 :: l0)))) fr s p → Sim Tryz.prog B 270 (Fin Tryz.prog Tryz.f3.results.toList fun y _ => y = .bool true) fr s := fun fr s p hC => by obtain ⟨rfl, rfl⟩ := hC; exact H
  obtain rfl | rfl | rfl | rfl | rfl | rfl : n = 0 ∨ n = 1 ∨ n = 2 ∨ n = 3 ∨ n = 4 ∨ n = 5 := by omega
  all_goals exact wp_cut (env_ok okZ) rfl hmix hc hl (ble_true.1 (by kernel_rfl)) rfl HC 2000 (pl_exC hn a nS V S clock evn begun ths row L c k y x0 l0) T
noncomputable def pl_go {n nT : Nat} (_ : n < nT) (a : AV) (nS : Nat) (V S clock evn begun : Int) (ths : List Th) (row : List AV) (L : Nat → List Int) (c : Th) (k y x0 : Int) (l0 : List Int) : Pl := (.st 2 (.rg (.go 3 (.ix (.ld [(.slice (some ((276 + n), 0)) ((x0 :: l0).length) (.atLeast (x0 :: l0).length 1))] (.go 1 (.fk (.en (.st 6 (.rg (.go 2 (.ix (.ld [(.slice (some ((276 + n), 0)) ((x0 :: l0).length) (.atLeast (x0 :: l0).length 1))] (.go 1 (.ix (.ld [(.int .i64 (y))] (.fk (.no) (.en (.st 2 (.rg (.go 3 (.ix (.ld [(.slice (some ((276 + n), 0)) ((x0 :: l0).length) (.atLeast (x0 :: l0).length 1))] (.go 1 (.ix (.ld [(.int .i64 (y))] (.vl (.int .i64 (begun - y)) (.go 1 (.en (.st 1 (.rg (.go 1 (.vl (.int .i64 (k + 1)) (.go 1 (.en (.st 1 (.rn (slI nT (begun - y) n (k + 1)) (obM a nT nS V S ths clock evn row (upd L n (x0 :: l0))) (slI nT (begun - y) n (k + 1)) (obM a nT nS V S ths clock evn row (upd L n (x0 :: l0))) 282 282 .no)))))))))))))))))))))))))))))) (.no))))))))
set_option maxHeartbeats 8000000 in
theorem go {B : Base} {F : Nat → Option (List AV)} (hc : CallSim Tryz.prog B (arunI Tryz.prog (spZ F) F 6)) (hl : ∀ t a, Local (arunI Tryz.prog (spZ F) F 6 t a)) {a : AV} {nm o len nT nS : Nat} {V S : Int} {ths : List Th} {srs : List Sr} {clock evn begun i : Int} {row : List AV} {L : Nat → List Int} {c : Th} {k y x0 : Int} {l0 : List Int} {n : Nat} (h6 : n < 6) (hn : n < nT) (hT : nT ≤ 6) (hlO : row.length * 1 ≤ top) (hlL : (x0 :: l0).length * 1 ≤ top) (hrow : row[n]? = some (.slice (some ((276 + n), 0)) ((x0 :: l0).length) (.atLeast (x0 :: l0).length 1))) (hk : 0 ≤ k ∧ k < ((x0 :: l0).length : Int)) (hk6 : (x0 :: l0).length ≤ 6) (hy : (x0 :: l0)[k.toNat]? = some y) (hy1 : 1 ≤ y ∧ y ≤ 2000) (hb : 0 ≤ begun ∧ begun ≤ 2000)
  (H : Sim Tryz.prog B 270 (Fin Tryz.prog Tryz.f3.results.toList fun y _ => y = .bool true) (frI (slI nT (begun - y) n (k + 1))) (stOf (obM a nT nS V S ths clock evn row (upd L n (x0 :: l0))) 282)) : Sim Tryz.prog B 270 (Fin Tryz.prog Tryz.f3.results.toList fun y _ => y = .bool true) (frI (slI nT begun n k)) (stOf (obM a nT nS V S ths clock evn row (upd L n (x0 :: l0))) 282) := by
  have T := (And.intro (show (0 : Int) ≤ (n : Int) from (by omega)) (And.intro (show (n : Int) < ((nT : Nat) : Int) from (by omega))
    (And.intro (row_ld lenV hlO hrow 0 1 rfl)
    (tfk (k < (((x0 :: l0).length : Nat) : Int)) (fun h1 => (And.intro (show (0 : Int) ≤ (n : Int) from (by omega)) (And.intro (show (n : Int) < ((nT : Nat) : Int) from (by omega))
    (And.intro (row_ld lenV hlO hrow 0 1 rfl)
    (And.intro (show (0 : Int) ≤ k from (by omega)) (And.intro (show k < (((x0 :: l0).length : Nat) : Int) from (by omega))
    (And.intro (row_ld okI.len hlL hy 0 1 rfl)
    (tfk (y < 1) (fun h2 => (show False by omega))
    (fun h2 => (And.intro (show (0 : Int) ≤ (n : Int) from (by omega)) (And.intro (show (n : Int) < ((nT : Nat) : Int) from (by omega))
    (And.intro (row_ld lenV hlO hrow 0 1 rfl)
    (And.intro (show (0 : Int) ≤ k from (by omega)) (And.intro (show k < (((x0 :: l0).length : Nat) : Int) from (by omega))
    (And.intro (row_ld okI.len hlL hy 0 1 rfl)
    (And.intro (congrArg (AV.int .i64) (show IntKind.wrap .i64 (begun - y) = (begun - y) from wrap_i64_in (by omega)))
    (And.intro (congrArg (AV.int .i64) (show IntKind.wrap .i64 (k + 1) = (k + 1) from wrap_i64_in (by omega)))
    (rnM' (f := frI) (l := slI nT (begun - y) n (k + 1)) slI_low (obM_low a nT nS V S ths clock evn row (upd L n (x0 :: l0)))))))))))))))))))))
    (fun h1 => (show False by omega))))))
  have HC : ∀ fr s p, (CM frI (slI nT (begun - y) n (k + 1)) (obM a nT nS V S ths clock evn row (upd L n (x0 :: l0)))) fr s p → Sim Tryz.prog B 270 (Fin Tryz.prog Tryz.f3.results.toList fun y _ => y = .bool true) fr s := fun fr s p hC => by obtain ⟨rfl, rfl⟩ := hC; exact H
  obtain rfl | rfl | rfl | rfl | rfl | rfl : n = 0 ∨ n = 1 ∨ n = 2 ∨ n = 3 ∨ n = 4 ∨ n = 5 := by omega
  all_goals exact wp_cut (env_ok okZ) rfl hmix hc hl (ble_true.1 (by kernel_rfl)) rfl HC 2000 (pl_go hn a nS V S clock evn begun ths row L c k y x0 l0) T
end AcP
namespace AcJ
open AcS AcW AcT AcY AcR AcN AcG AcP AcL AcQ Go.Proofs.YtbnjeblcleihkaaGreatDoor.auditCounted
theorem drop_at {α : Type} : ∀ {l : List α} {k : Nat} {y : α}, l[k]? = some y → l.drop k = y :: l.drop (k + 1)
  | [], _, _, h => by simp at h
  | x :: l, 0, y, h => by simp at h; subst h; rfl
  | x :: l, k + 1, y, h => by
    have h : l[k]? = some y := by simpa using h
    show l.drop k = y :: l.drop (k + 1)
    exact drop_at h
theorem sum_nn : ∀ {l : List Int}, (∀ x ∈ l, 1 ≤ x) → 0 ≤ l.sum
  | [], _ => by simp
  | x :: l, h => by
    have h1 := h x (by simp)
    have h2 := sum_nn (l := l) fun y hy => h y (by simp [hy])
    rw [List.sum_cons]; omega
theorem sum_suf {l : List Int} (h : ∀ x ∈ l, 1 ≤ x) : ∀ k : Nat, 0 ≤ (l.drop k).sum ∧ (l.drop k).sum ≤ l.sum := by
  intro k
  refine ⟨sum_nn fun x hx => h x (List.mem_of_mem_drop hx), ?_⟩
  have e : (l.take k).sum + (l.drop k).sum = l.sum := by rw [← List.sum_append, List.take_append_drop]
  have := sum_nn (l := l.take k) fun x hx => h x (List.mem_of_mem_take hx)
  omega
theorem inner {B : Base} {F : Nat → Option (List AV)} (hc : CallSim Tryz.prog B (arunI Tryz.prog (spZ F) F 6)) (hl : ∀ t a, Local (arunI Tryz.prog (spZ F) F 6 t a)) {a : AV} {nT nS : Nat} {V S : Int} {ths : List Th} {clock evn : Int} {row : List AV} {L : Nat → List Int} {x0 : Int} {l0 : List Int} {rest : Int} {n : Nat} (h6 : n < 6) (hn : n < nT) (hT : nT ≤ 6) (hlO : row.length * 1 ≤ top) (hrow : row[n]? = some (.slice (some (276 + n, 0)) (x0 :: l0).length (.atLeast (x0 :: l0).length 1))) (hk6 : (x0 :: l0).length ≤ 6) (hge : ∀ x ∈ x0 :: l0, 1 ≤ x) (hr : 0 ≤ rest) (hb : (x0 :: l0).sum + rest ≤ 2000)
  (H : Sim Tryz.prog B 270 (Fin Tryz.prog Tryz.f3.results.toList fun y _ => y = .bool true) (frM (slM nT rest (n + 1))) (stOf (obM a nT nS V S ths clock evn row (upd L n (x0 :: l0))) 282)) : ∀ (m k : Nat), k + m = (x0 :: l0).length → Sim Tryz.prog B 270 (Fin Tryz.prog Tryz.f3.results.toList fun y _ => y = .bool true) (frI (slI nT (((x0 :: l0).drop k).sum + rest) n (k : Int))) (stOf (obM a nT nS V S ths clock evn row (upd L n (x0 :: l0))) 282) := by
  intro m
  induction m with
  | zero =>
    intro k hk
    have e : (x0 :: l0).drop k = [] := List.drop_eq_nil_of_le (by omega)
    rw [e, List.sum_nil, Int.zero_add]
    exact exC (srs := []) (i := 0) (nm := 0) (o := 0) (len := 0) (c := default) (y := 0) hc hl h6 hn hT hlO hrow (by omega) H
  | succ m ih =>
    intro k hk
    obtain ⟨y, hy⟩ := getEx (l := x0 :: l0) (n := k) (by omega)
    have hd : (x0 :: l0).drop k = y :: (x0 :: l0).drop (k + 1) := drop_at hy
    have h1 := hge y (List.mem_of_getElem? hy)
    have h2 := sum_suf hge k
    have h3 := sum_suf hge (k + 1)
    have hI := ih (k + 1) (by omega)
    rw [hd] at h2 ⊢
    rw [List.sum_cons] at h2 ⊢
    have e : ((k + 1 : Nat) : Int) = (k : Int) + 1 := by omega
    rw [e] at hI
    refine go (srs := []) (i := 0) (nm := 0) (o := 0) (len := 0) (c := default) hc hl h6 hn hT hlO (by unfold top; omega) hrow (k := (k : Int)) (y := y) ⟨by omega, by omega⟩ hk6 hy ⟨h1, by omega⟩ ⟨by omega, by omega⟩ ?_
    rw [show y + ((x0 :: l0).drop (k + 1)).sum + rest - y = ((x0 :: l0).drop (k + 1)).sum + rest by omega]
    exact hI
theorem updA {A : List (List Int)} {n : Nat} {L : List Int} (h : A[n]? = some L) : LA A = upd (LA A) n L := by
  funext k
  unfold upd
  cases e : Nat.beq k n with
  | false => rfl
  | true =>
    rw [Nat.eq_of_beq_eq_true e]
    show A.getD n [] = L
    rw [List.getD_eq_getElem?_getD, h]; rfl
theorem step {B : Base} {F : Nat → Option (List AV)} (hc : CallSim Tryz.prog B (arunI Tryz.prog (spZ F) F 6)) (hl : ∀ t a, Local (arunI Tryz.prog (spZ F) F 6 t a)) {a : AV} {nT nS : Nat} {V S : Int} {ths : List Th} {clock evn : Int} {A : List (List Int)} {L : List Int} {c : Th} {rest : Int} {n : Nat} (hn : n < nT) (hT : nT ≤ 6) (hA : A.length = nT) (hlT : ths.length * 13 ≤ top) (hnT : ths.length = nT) (hAn : A[n]? = some L) (hcm : ths[n]? = some c) (hco : 0 ≤ c.commits ∧ c.commits ≤ 6) (hlen : (L.length : Int) = c.commits ∨ (L.length : Int) = c.commits + 1) (hk6 : L.length ≤ 6) (hge : ∀ x ∈ L, 1 ≤ x) (hr : 0 ≤ rest) (hb : L.sum + rest ≤ 2000)
  (H : Sim Tryz.prog B 270 (Fin Tryz.prog Tryz.f3.results.toList fun y _ => y = .bool true) (frM (slM nT rest (n + 1))) (stOf (obM a nT nS V S ths clock evn (cellsF 276 A) (LA A)) 282)) : Sim Tryz.prog B 270 (Fin Tryz.prog Tryz.f3.results.toList fun y _ => y = .bool true) (frM (slM nT (L.sum + rest) n)) (stOf (obM a nT nS V S ths clock evn (cellsF 276 A) (LA A)) 282) := by
  have hlO : (cellsF 276 A).length * 1 ≤ top := by rw [cellsF_len]; unfold top; omega
  have hrow : (cellsF 276 A)[n]? = some (cellL (276 + n) L) := cellsF_at hAn
  have h6 : n < 6 := by omega
  rw [updA hAn] at H ⊢
  cases L with
  | nil =>
    rw [List.sum_nil, Int.zero_add]
    exact inN (srs := []) (i := 0) (nm := 0) (o := 0) (len := 0) (k := 0) (y := 0) (x0 := 0) (l0 := []) hc hl h6 hn hT hlO hlT hnT hrow hcm hco (by simpa using hlen) (exN (srs := []) (i := 0) (nm := 0) (o := 0) (len := 0) (c := c) (y := 0) (x0 := 0) (l0 := []) hc hl h6 hn hT hlO hrow (Int.le_refl 0) H)
  | cons x0 l0 =>
    refine inC (srs := []) (i := 0) (nm := 0) (o := 0) (len := 0) (k := 0) (y := 0) hc hl h6 hn hT hlO hlT hnT hrow hcm hco hlen ?_
    exact inner hc hl h6 hn hT hlO hrow hk6 hge hr hb H (x0 :: l0).length 0 (by omega)
def sums (A : List (List Int)) (n : Nat) : Int := ((A.drop n).map List.sum).sum
theorem sums_nn {A : List (List Int)} (h : ∀ l ∈ A, ∀ x ∈ l, 1 ≤ x) (n : Nat) : 0 ≤ sums A n := by
  unfold sums
  generalize hd : A.drop n = D
  have hD : ∀ l ∈ D, ∀ x ∈ l, 1 ≤ x := fun l hl => h l (List.mem_of_mem_drop (hd ▸ hl))
  clear hd
  induction D with
  | nil => simp
  | cons l D ih =>
    rw [List.map_cons, List.sum_cons]
    have := sum_nn (hD l (by simp))
    have := ih fun l' hl' => hD l' (by simp [hl'])
    omega
theorem outer {B : Base} {F : Nat → Option (List AV)} (hc : CallSim Tryz.prog B (arunI Tryz.prog (spZ F) F 6)) (hl : ∀ t a, Local (arunI Tryz.prog (spZ F) F 6 t a)) {a : AV} {nT nS : Nat} {V S : Int} {ths : List Th} {clock evn : Int} {A : List (List Int)} (hT : nT ≤ 6) (hA : A.length = nT) (hnT : ths.length = nT) (hge : ∀ l ∈ A, ∀ x ∈ l, 1 ≤ x) (h6 : ∀ l ∈ A, l.length ≤ 6) (hco : ∀ (n : Nat) c, ths[n]? = some c → ∃ L, A[n]? = some L ∧ (0 ≤ c.commits ∧ c.commits ≤ 6) ∧ ((L.length : Int) = c.commits ∨ (L.length : Int) = c.commits + 1)) : ∀ (m n : Nat), n + m = nT → sums A n ≤ 2000 → Sim Tryz.prog B 270 (Fin Tryz.prog Tryz.f3.results.toList fun y _ => y = .bool true) (frM (slM nT (sums A n) (n : Int))) (stOf (obM a nT nS V S ths clock evn (cellsF 276 A) (LA A)) 282) := by
  intro m
  induction m with
  | zero =>
    intro n hn hs
    have e : sums A n = 0 := by
      unfold sums
      rw [List.drop_eq_nil_of_le (by omega)]; rfl
    exact fin (srs := []) (i := 0) (nm := 0) (o := 0) (len := 0) (k := 0) (y := 0) (x0 := 0) (l0 := []) (c := default) hc hl (by omega) e
  | succ m ih =>
    intro n hn hs
    obtain ⟨c, hcm⟩ := getEx (l := ths) (n := n) (by omega)
    obtain ⟨L, hAn, hcc, hlen⟩ := hco n c hcm
    have hd : sums A n = L.sum + sums A (n + 1) := by
      unfold sums
      rw [drop_at hAn, List.map_cons, List.sum_cons]
    have hnn := sums_nn hge (n + 1)
    have hmem := List.mem_of_getElem? hAn
    have hsn := sum_nn (hge L hmem)
    have H := ih (n + 1) (by omega) (by omega)
    have e : ((n + 1 : Nat) : Int) = (n : Int) + 1 := by omega
    rw [e] at H
    rw [hd]
    have hlT : ths.length * 13 ≤ top := by unfold top; omega
    exact step hc hl (by omega) hT hA hlT hnT hAn hcm hcc hlen (h6 L hmem) (hge L hmem) hnn (by omega) H
end AcJ
namespace AcH
open AcS AcW AcT AcY AcR AcN AcG AcP AcL AcQ AcJ Go.Proofs.YtbnjeblcleihkaaGreatDoor.auditCounted
theorem th0_ok {nS : Nat} (h : 1 ≤ nS) : ThOk nS th0 := by
  have : (0 : Int) < (nS : Int) := by omega
  exact ⟨by decide, by decide, by decide, fun h => absurd rfl h, by decide, this, by decide, by decide, by decide, by decide, by decide, by decide, by decide, by decide⟩
theorem total_nil (nT : Nat) : total nT [] = 0 := by
  unfold total
  induction nT with
  | zero => rfl
  | succ n ih =>
    rw [List.range_succ, List.map_append, List.sum_append, ih]; rfl
theorem inv0 {nT nS : Nat} (h : 1 ≤ nS) : Inv nT nS [] (List.replicate nT th0) 0 := by
  refine ⟨fun t ht => ?_, fun n t ht => ?_, (total_nil nT).symm⟩
  · rw [(List.mem_replicate.1 ht).2]; exact th0_ok h
  · rw [List.getElem?_replicate] at ht
    split at ht
    · injection ht with ht; subst ht
      exact ⟨.inl rfl, fun h => absurd rfl h, fun x hx => by cases hx⟩
    · cases ht
theorem sums_total (nT : Nat) (l : List Ev) : sums (triesA nT l) 0 = total nT l := by
  unfold sums total triesA
  rw [List.drop_zero, List.map_map]; rfl
/-- Behind the call of Tries. -/
theorem tail {B : Base} {F : Nat → Option (List AV)} (hcZ : CallSim Tryz.prog B (arunI Tryz.prog (spZ F) F 6)) (hlZ : ∀ t a, Local (arunI Tryz.prog (spZ F) F 6 t a)) {a : AV} {nT nS : Nat} {V S : Int} {ths : List Th} {clock evn begun : Int} {evs : List Ev} (hT : nT ≤ 6) (hI : Inv nT nS evs ths begun) (hths : ths.length = nT) (hb : begun ≤ 2000) :
    Sim Tryz.prog B 270 (Fin Tryz.prog Tryz.f3.results.toList fun y _ => y = .bool true) (frM (slM nT begun 0)) (stOf (obM a nT nS V S ths clock evn (cellsF 276 (triesA nT evs)) (LA (triesA nT evs))) 282) := by
  obtain ⟨i1, i2, i3⟩ := hI
  have hA : (triesA nT evs).length = nT := triesA_len
  have hs : sums (triesA nT evs) 0 = begun := by rw [sums_total, i3]
  have hTI : ∀ l ∈ triesA nT evs, ∀ x ∈ l, 1 ≤ x := by
    intro l hl
    obtain ⟨n, hn, rfl⟩ := List.mem_map.1 hl
    have hn := List.mem_range.1 hn
    obtain ⟨t, ht⟩ := getEx (l := ths) (n := n) (by omega)
    exact (i2 n t ht).2.2
  have := outer (a := a) (nS := nS) (V := V) (S := S) (clock := clock) (evn := evn) hcZ hlZ hT hA hths hTI (fun l hl => (triesA_mem hl).1) (fun n c hc => ?_) nT 0 (by omega) (by omega)
  · rw [hs] at this
    exact this
  · have hn : n < nT := by
      have := (List.getElem?_eq_some_iff.1 hc).1
      omega
    have hok := i1 c (List.mem_of_getElem? hc)
    exact ⟨_, triesA_get hn, ⟨hok.2.1, hok.2.2.1⟩, (i2 n c hc).1⟩
theorem law_row {B : Base} {F : Nat → Option (List AV)} (hc : CallSim Tryz.prog B (arunI Tryz.prog spM F 6)) (hl : ∀ t a, Local (arunI Tryz.prog spM F 6 t a)) (hcZ : CallSim Tryz.prog B (arunI Tryz.prog (spZ F) F 6)) (hlZ : ∀ t a, Local (arunI Tryz.prog (spZ F) F 6 t a)) {nm o len : Nat} {T V S : Int} {evs : List Ev} (hlen : evs.length = len) (hnm : top ≤ nm) (hrow : ∀ (j : Nat) e, evs[j]? = some e → EvOk e ∧ frzAt F nm (o + j * 7) 7 = some (evCells e)) (hi : hi1 F (.rslice nm o len)) :
    Sim Tryz.prog B 270 (Fin Tryz.prog Tryz.f3.results.toList fun y _ => y = .bool true) ⟨3, fillArgs [.agg [.int .i64 T, .int .i64 V, .int .i64 S, .rslice nm o len]], 119, [.code (cAt Tryz.prog 3 [])], [], none⟩ (stOf kn1 270) := by
  by_cases h2 : 2000 < len
  · exact long (nS := 0) hc hl h2
  by_cases hg : (0 ≤ T ∧ T ≤ 6) ∧ (1 ≤ V ∧ V ≤ 32) ∧ (1 ≤ S ∧ S ≤ V)
  · obtain ⟨⟨t1, t2⟩, hV, s1, s2⟩ := hg
    obtain ⟨nS, rfl⟩ : ∃ n : Nat, S = (n : Int) := ⟨S.toNat, by omega⟩
    have hS : 1 ≤ nS ∧ nS ≤ 32 := by omega
    have key : ∀ nT : Nat, nT ≤ 6 → Sim Tryz.prog B 270 (Fin Tryz.prog Tryz.f3.results.toList fun y _ => y = .bool true) (frL (headL 0 0)) (stOf (headA (.rslice nm o len) nT nS ((nT : Nat) : Int) V ((nS : Nat) : Int) (List.replicate nT th0) (List.replicate nS sr0) 0 0) 275) := by
      intro nT hT
      have H := loop1 (T := (nT : Int)) (S := (nS : Int)) (nT := nT) (nS := nS) hc hl hlen (by omega) hnm hrow hV hT hS.2 (fun ths srs clock evn begun hI hths hsrs hb0 hb1 => by
        have hTr : TrR F [.agg [.int .i64 (Int.ofNat nT), .int .i64 V, .int .i64 (nS : Int), .rslice nm o len]] (outT nT (triesA nT evs)) := TrR.row nT V _ nm o len evs hT (by omega) hnm hlen fun j e he => (hrow j e he).2
        exact midR (a := .bool true) hcZ hlZ (Int.le_refl _) hTr hi hnm (tail hcZ hlZ hT hI hths (by omega))) len 0 (List.replicate nT th0) (List.replicate nS sr0) 0 0 0 (by omega) (by rw [List.take_zero]; exact inv0 hS.1) (by simp) (by simp) (by decide) (by decide) (by decide) (by decide)
      exact H
    obtain ⟨nT, rfl⟩ : ∃ n : Nat, T = (n : Int) := ⟨T.toNat, by omega⟩
    exact start (n := nT) (T := 0) (S := 0) hc hl (by omega) hnm (by omega) hV s2 hS (key nT (by omega))
  · exact bad (nS := 0) hc hl hnm (by omega) (by omega)
theorem law_nil {B : Base} {F : Nat → Option (List AV)} (hc : CallSim Tryz.prog B (arunI Tryz.prog spM F 6)) (hl : ∀ t a, Local (arunI Tryz.prog spM F 6 t a)) (hcZ : CallSim Tryz.prog B (arunI Tryz.prog (spZ F) F 6)) (hlZ : ∀ t a, Local (arunI Tryz.prog (spZ F) F 6 t a)) {T V S : Int} : Sim Tryz.prog B 270 (Fin Tryz.prog Tryz.f3.results.toList fun y _ => y = .bool true) ⟨3, fillArgs [.agg [.int .i64 T, .int .i64 V, .int .i64 S, .slice none 0 (.known 0)]], 119, [.code (cAt Tryz.prog 3 [])], [], none⟩ (stOf kn1 270) := by
  by_cases hg : (0 ≤ T ∧ T ≤ 6) ∧ (1 ≤ V ∧ V ≤ 32) ∧ (1 ≤ S ∧ S ≤ V)
  · obtain ⟨⟨t1, t2⟩, hV, s1, s2⟩ := hg
    obtain ⟨nS, rfl⟩ : ∃ n : Nat, S = (n : Int) := ⟨S.toNat, by omega⟩
    have hS : 1 ≤ nS ∧ nS ≤ 32 := by omega
    have key : ∀ nT : Nat, nT ≤ 6 → Sim Tryz.prog B 270 (Fin Tryz.prog Tryz.f3.results.toList fun y _ => y = .bool true) (frL (headL 0 0)) (stOf (headA (.slice none 0 (.known 0)) nT nS ((nT : Nat) : Int) V ((nS : Nat) : Int) (List.replicate nT th0) (List.replicate nS sr0) 0 0) 275) := by
      intro nT hT
      have hTr : TrR F [.agg [.int .i64 (Int.ofNat nT), .int .i64 V, .int .i64 (nS : Int), .slice none 0 (.known 0)]] (outT nT (triesA nT [])) := TrR.nil nT V _ hT
      exact midN (a := .bool true) (nm := 0) (o := 0) (len := 0) hcZ hlZ (Int.le_refl 0) hTr (.inr ⟨.nil, rfl, .inl rfl⟩) (tail (evs := []) hcZ hlZ hT (inv0 hS.1) (by simp) (by decide))
    obtain ⟨nT, rfl⟩ : ∃ n : Nat, T = (n : Int) := ⟨T.toNat, by omega⟩
    exact startn (n := nT) (T := 0) (S := 0) (nm := 0) (o := 0) (len := 0) hc hl (by omega) hV s2 hS (key nT (by omega))
  · exact badn (nm := 0) (o := 0) (len := 0) (nS := 0) hc hl (by omega)
end AcH
