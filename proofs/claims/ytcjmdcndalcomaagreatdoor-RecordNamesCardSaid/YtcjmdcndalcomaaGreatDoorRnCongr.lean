/- An operation asks for its own slots alone. -/
import Derived.Test.YtcjmdcndalcomaaGreatDoorRnOrder
namespace Go.Rn
open Go.RowKit

section
variable {P : Program} {call : Caller} {t u : Tr AV}

theorem opds_congr {f g : Operand → Option AV} : ∀ {l : List Operand}, (∀ y ∈ l, f y = g y) → opds f l = opds g l
  | [], _ => rfl
  | y :: l, h => by simp only [opds, h y List.mem_cons_self, opds_congr fun z hz => h z (List.mem_cons_of_mem _ hz)]
theorem opdps_congr {f g : Operand → Option AV} : ∀ {l : List (Nat × Operand)}, (∀ y ∈ l, f y.2 = g y.2) → opdps f l = opdps g l
  | [], _ => rfl
  | (i, y) :: l, h => by simp only [opdps, h (i, y) List.mem_cons_self, opdps_congr fun z hz => h z (List.mem_cons_of_mem _ hz)]
theorem opt_congr {f g : Operand → Option AV} {y : Option Operand} (h : ∀ z, y = some z → f z = g z) : opt f y = opt g y := by
  cases y with
  | none => rfl
  | some z => simp only [opt, h z rfl]

theorem opB_congr {op : Op} (h : ∀ y ∈ op.operands, opd t y = opd u y) : (opB P op).val call t = (opB P op).val call u := by
  cases op
  case move y => show kMove y call t = kMove y call u; simp only [kMove, h y (by simp [Op.operands])]
  case assign y => show kMove y call t = kMove y call u; simp only [kMove, h y (by simp [Op.operands])]
  case pick c p q => show kPick c p q call t = kPick c p q call u; simp only [kPick, h c (by simp [Op.operands]), h p (by simp [Op.operands]), h q (by simp [Op.operands])]
  case alloc e => rfl
  case box e y => show kBox y call t = kBox y call u; simp only [kBox, h y (by simp [Op.operands])]
  case build ty parts =>
    show kBuild P ty parts.toList call t = kBuild P ty parts.toList call u
    simp only [kBuild, opdps_congr (f := opd t) (g := opd u) (l := parts.toList) fun y hy => h y.2 (by simp only [Op.operands, List.mem_toArray]; exact List.mem_map_of_mem hy)]
  case buildSlice ty len parts =>
    show kBuildSlice P ty len parts.toList call t = kBuildSlice P ty len parts.toList call u
    simp only [kBuildSlice, opdps_congr (f := opd t) (g := opd u) (l := parts.toList) fun y hy => h y.2 (by simp only [Op.operands, List.mem_toArray]; exact List.mem_map_of_mem hy)]
  case load ty y => show kLoad P ty y call t = kLoad P ty y call u; simp only [kLoad, h y (by simp [Op.operands])]
  case store ty y z => show kStore P ty y z call t = kStore P ty y z call u; simp only [kStore, h y (by simp [Op.operands]), h z (by simp [Op.operands])]
  case nilCheck y => show kNilCheck y call t = kNilCheck y call u; simp only [kNilCheck, h y (by simp [Op.operands])]
  case binOp op ty y z v => show kBin P op ty y z call t = kBin P op ty y z call u; simp only [kBin, h y (by simp [Op.operands]), h z (by simp [Op.operands])]
  case unOp op ty y => show kUn op y call t = kUn op y call u; simp only [kUn, h y (by simp [Op.operands])]
  case convert src dst y => show kConvert P src dst y call t = kConvert P src dst y call u; simp only [kConvert, h y (by simp [Op.operands])]
  case makeInterface ty y => show kMakeInterface P ty y call t = kMakeInterface P ty y call u; simp only [kMakeInterface, h y (by simp [Op.operands])]
  case makeFunc fn first captured =>
    show kMakeFunc fn first.toList captured.toList call t = kMakeFunc fn first.toList captured.toList call u
    simp only [kMakeFunc, opds_congr (f := opd t) (g := opd u) (l := first.toList) fun y hy => h y (by simp only [Op.operands, Array.mem_append]; exact .inl (Array.mem_toList_iff.1 hy)),
      opds_congr (f := opd t) (g := opd u) (l := captured.toList) fun y hy => h y (by simp only [Op.operands, Array.mem_append]; exact .inr (Array.mem_toList_iff.1 hy))]
  case makeMap ty y =>
    cases y with
    | none => rfl
    | some y => show kMakeMap P ty (some y) call t = kMakeMap P ty (some y) call u; simp only [kMakeMap, h y (by simp [Op.operands])]
  case makeSlice ty l c => show kMakeSlice P ty l c call t = kMakeSlice P ty l c call u; simp only [kMakeSlice, h l (by simp [Op.operands]), h c (by simp [Op.operands])]
  case slice ty y lo hi mx =>
    show kSlice P ty y lo hi mx call t = kSlice P ty y lo hi mx call u
    simp only [kSlice, h y (by simp [Op.operands]), opt_congr (f := opd t) (g := opd u) (y := lo) (fun z hz => h z (by simp [Op.operands, hz])), opt_congr (f := opd t) (g := opd u) (y := hi) (fun z hz => h z (by simp [Op.operands, hz])),
      opt_congr (f := opd t) (g := opd u) (y := mx) (fun z hz => h z (by simp [Op.operands, hz]))]
  case fieldAddr ty y f => show kFieldAddr P ty y f call t = kFieldAddr P ty y f call u; simp only [kFieldAddr, h y (by simp [Op.operands])]
  case field ty y f => show kField P ty y f call t = kField P ty y f call u; simp only [kField, h y (by simp [Op.operands])]
  case indexAddr ty y z => show kIndexAddr P ty y z call t = kIndexAddr P ty y z call u; simp only [kIndexAddr, h y (by simp [Op.operands]), h z (by simp [Op.operands])]
  case index ty y z => show kIndex P ty y z call t = kIndex P ty y z call u; simp only [kIndex, h y (by simp [Op.operands]), h z (by simp [Op.operands])]
  case lookup ty y z ok => show kLookup P ty y z ok call t = kLookup P ty y z ok call u; simp only [kLookup, h y (by simp [Op.operands]), h z (by simp [Op.operands])]
  case mapUpdate ty m k y => show kMapPut P ty m k y call t = kMapPut P ty m k y call u; simp only [kMapPut, h m (by simp [Op.operands]), h k (by simp [Op.operands]), h y (by simp [Op.operands])]
  case insert ty m k y => show kMapPut P ty m k y call t = kMapPut P ty m k y call u; simp only [kMapPut, h m (by simp [Op.operands]), h k (by simp [Op.operands]), h y (by simp [Op.operands])]
  case typeAssert y xt asserted ok => show kAssert P asserted ok y call t = kAssert P asserted ok y call u; simp only [kAssert, h y (by simp [Op.operands])]
  case range ty y => show kRange P ty y call t = kRange P ty y call u; simp only [kRange, h y (by simp [Op.operands])]
  case entry y => show kEntry y call t = kEntry y call u; simp only [kEntry, h y (by simp [Op.operands])]
  case extract y i => show kExtract y i call t = kExtract y i call u; simp only [kExtract, h y (by simp [Op.operands])]
  case call c =>
    obtain ⟨callee, args, ts⟩ := c
    have ha : ∀ (cl : Callee), (∀ y ∈ (Op.call ⟨cl, args, ts⟩).operands, opd t y = opd u y) → opds (opd t) args.toList = opds (opd u) args.toList := fun cl hh =>
      opds_congr fun y hy => hh y (by simp only [Op.operands, Call.operands, Array.mem_append]; exact .inr (Array.mem_toList_iff.1 hy))
    cases callee with
    | builtin b => show kBuiltin P b ts args.toList call t = kBuiltin P b ts args.toList call u; simp only [kBuiltin, ha _ h]
    | value f => show kCall f args.toList call t = kCall f args.toList call u; simp only [kCall, ha _ h, h f (by simp [Op.operands, Call.operands])]
    | invoke r name => show kInvoke P r name args.toList call t = kInvoke P r name args.toList call u; simp only [kInvoke, ha _ h, h r (by simp [Op.operands, Call.operands])]
  all_goals rfl

theorem opd_same {y : Operand} (h : ∀ d, y = .tmp d → t.get d = u.get d) : opd t y = opd u y := by
  cases y with
  | tmp d => show some (@Option.rec AV (fun _ => AV) aundef (fun v => v) (t.get d)) = some (@Option.rec AV (fun _ => AV) aundef (fun v => v) (u.get d)); rw [h d rfl]
  | _ => rfl

/-- What an operation does to the slots hangs on those that it looks at. -/
theorem aone_congr {nt : Nat} {ops : Array Oper} {o : Oper} (h : ∀ d ∈ o.looksAt ops, t.get d = u.get d) {s s1 : AS} {t1 : Tr AV} (hr : aone P call nt ops o t s = .ok t1 s1) :
    ∃ v, aput nt t o.dst v = some t1 ∧ ∀ u1, aput nt u o.dst v = some u1 → aone P call nt ops o u s = .ok u1 s1 := by
  have hop : (opB P o.op).val call t = (opB P o.op).val call u := opB_congr fun y hy => opd_same fun d hd => h d (by
    unfold Oper.looksAt
    refine List.mem_append_left _ (List.mem_filterMap.2 ⟨y, Array.mem_toList_iff.2 hy, by rw [hd]⟩))
  have main : kOp (opB P o.op) o.dst call nt t s = .ok t1 s1 → ∃ v, aput nt t o.dst v = some t1 ∧ ∀ u1, aput nt u o.dst v = some u1 → kOp (opB P o.op) o.dst call nt u s = .ok u1 s1 := by
    intro hk
    unfold kOp at hk
    obtain ⟨v, s2, h1, h2⟩ := M.bind_inv hk
    obtain ⟨h3, rfl⟩ := lift_inv h2
    refine ⟨v, h3, fun u1 hu => ?_⟩
    unfold kOp
    rw [← hop, M.bind_ok h1]
    unfold lift
    rw [hu]
  unfold aone slotB at hr ⊢
  cases hg : o.guard with
  | none =>
    rw [hg] at hr
    exact main hr
  | some g =>
    rw [hg] at hr
    have hr' : kOpIf ops g (opB P o.op) o.dst call nt t s = .ok t1 s1 := hr
    have hw : awanted ops g t = awanted ops g u := by
      unfold awanted ayielded
      cases e1 : ops[g.1]? with
      | none => rfl
      | some q =>
        simp only
        cases e2 : q.dst with
        | none => rfl
        | some d =>
          simp only
          rw [h d (by
            unfold Oper.looksAt
            refine List.mem_append_right _ ?_
            rw [hg]
            simp [e1, e2])]
    show ∃ v, aput nt t o.dst v = some t1 ∧ ∀ u1, aput nt u o.dst v = some u1 → kOpIf ops g (opB P o.op) o.dst call nt u s = .ok u1 s1
    unfold kOpIf at hr' ⊢
    rw [← hw]
    cases q : awanted ops g t with
    | true => rw [q] at hr'; exact main hr'
    | false =>
      rw [q] at hr'
      obtain ⟨h3, rfl⟩ := lift_inv (show lift (aput nt t o.dst aundef) s = .ok t1 s1 from hr')
      refine ⟨aundef, h3, fun u1 hu => ?_⟩
      show lift (aput nt u o.dst aundef) s1 = .ok u1 s1
      unfold lift
      rw [hu]
end
end Go.Rn
