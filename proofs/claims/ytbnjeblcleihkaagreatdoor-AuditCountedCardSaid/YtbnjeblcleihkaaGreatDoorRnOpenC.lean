/- Regions op by op, from above: what is still to be done of a region, and what comes behind it; for any goal that may be put off. -/
import Derived.Test.YtbnjeblcleihkaaGreatDoorRnOpenB
import Derived.Test.YtbnjeblcleihkaaGreatDoorRnSegA
import Derived.Test.YtbnjeblcleihkaaGreatDoorRnWayA
namespace Go.Rn
open Go.RowKit
noncomputable section
def outT {α : Type} [Inhabited α] : R α → α
  | .ok t _ => t
  | .bad => default
def outS {α : Type} : R α → AS
  | .ok _ s => s
  | .bad => ⟨.nil, 0, 0, [], []⟩
def isOk {α : Type} : R α → Bool
  | .ok _ _ => true
  | .bad => false
instance : Inhabited (Tr AV) := ⟨.nil⟩
def updC (o : Option AObj) (L : List AV) (off : Nat) : Option AObj :=
  match o with
  | some (.cells m t z) => some (.cells m (Tr.fill L off t) z)
  | o => o
def Chunk (P : Program) (call : Caller) (G : AF → AS → Prop) : Prop := ∀ (k : Nat) (fr fr1 : AF) (s s1 : AS), arow P call k fr s = .ok (.go fr1) s1 → G fr1 s1 → G fr s
def Ev (P : Program) (call : Caller) (R : AF → Option Code → AS → Prop) (fr : AF) (s : AS) : Prop := ∃ k fr1 j s1, arow P call k fr s = .ok (.leave fr1 j) s1 ∧ R fr1 j s1
def GSim (P : Program) (B : Base) (nx0 : Nat) (Q : Tr AV → List Nat → Option Code → AS → Prop) (fr : AF) (s : AS) : Prop := nx0 ≤ s.nx → Sim P B nx0 Q fr s
def RegG (P : Program) (call : Caller) (G : AF → AS → Prop) (f nt : Nat) (K : List Item) (ops : Array Oper) (i : Nat) (t : Tr AV) (s : AS) : Prop :=
  ∃ t1 s1, runOps P call nt ops i (ops.size - i) t s = .ok t1 s1 ∧ G ⟨f, t1, nt, K, [], none⟩ s1
def RegD (P : Program) (call : Caller) (G : AF → AS → Prop) (f nt : Nat) (K : List Item) (ops : Array Oper) (acc : List Met) (i : Nat) (t : Tr AV) (s : AS) : Prop :=
  ∃ t1 ms s1, runD P call nt ops i (ops.size - i) t s = .ok (t1, ms) s1 ∧ metOk (Region.before ops) (acc ++ ms) (acc ++ ms) = true ∧ G ⟨f, t1, nt, K, [], none⟩ s1
def putL : Tr AV → List (Nat × AV) → Tr AV
  | t, [] => t
  | t, p :: l => putL (t.put p.1 (some p.2)) l
def putH : Tr AObj → List (Nat × Option AObj) → Tr AObj
  | t, [] => t
  | t, p :: l => putH (t.put p.1 p.2) l
def updA (s : AS) (L : List (Nat × Option AObj)) (nx1 : Nat) (rd wr : List Nat) : AS := ⟨putH s.h L, nx1, s.mark, rd ++ s.rd, wr ++ s.wr⟩
def outV : R AV → AV
  | .ok x _ => x
  | .bad => .nilIface
def aloneS (s : AS) : AS := ⟨s.h, s.nx, s.nx, [], []⟩
def backS (s s1 : AS) : AS := ⟨s1.h, s1.nx, s.mark, below s.mark s1.rd ++ s.rd, below s.mark s1.wr ++ s.wr⟩
def metS (i : Nat) (s s1 : AS) : Met := ⟨i, below s.nx s1.rd, below s.nx s1.wr, s.nx, s1.nx⟩
end
section
variable {P : Program} {B : Base} {nx0 : Nat} {Q : Tr AV → List Nat → Option Code → AS → Prop} {s s1 : AS} {call : Caller} {t : Tr AV} {ops : Array Oper} {f nt i : Nat} {K : List Item} {G : AF → AS → Prop} {acc : List Met}
theorem isOk_eq {α : Type} [Inhabited α] {r : R α} (h : isOk r = true) : r = .ok (outT r) (outS r) := by
  cases r with
  | bad => cases h
  | ok a s => rfl
theorem Chunk.sim (hmix : P.follows .mixedOrders = true) (hc : CallSim P B call) (hl : ∀ t a, Local (call t a)) : Chunk P call (GSim P B nx0 Q) := by
  intro k fr fr1 s s1 h H h0 ρ w b a cs hfr hat hf
  have le := (Local.arow P hl k fr).le hat.fine h
  exact Sim.chunk hmix hc hl h h0 (H (Nat.le_trans h0 le)) ρ w b a cs hfr hat hf
theorem arow_more : ∀ {k m : Nat} {fr fr1 : AF} {s s1 : AS}, arow P call k fr s = .ok (.go fr1) s1 → arow P call (k + m) fr s = arow P call m fr1 s1
  | 0, m, fr, fr1, s, s1, h => by cases h; rw [Nat.zero_add]
  | k + 1, m, fr, fr1, s, s1, h => by
    obtain ⟨y, s2, h1, h2⟩ := M.bind_inv (show ((astep P call fr).bind fun x => @Stp.rec (fun _ => M Stp) (arow P call k) (fun fr j => M.pure (.leave fr j)) x) s = .ok _ s1 from h)
    cases y with
    | go fr' =>
      rw [show k + 1 + m = (k + m) + 1 by omega, arow_go h1]
      exact arow_more h2
    | leave fr' j' => cases h2
theorem Chunk.ev {R : AF → Option Code → AS → Prop} : Chunk P call (Ev P call R) := by
  intro k fr fr1 s s1 h ⟨m, fr2, j, s2, h1, h2⟩
  exact ⟨k + m, fr2, j, s2, by rw [arow_more h]; exact h1, h2⟩
theorem Chunk.reg (hG : Chunk P call G) {c : Code} {id : Nat} (hcode : c = .region id (opsOf c) false) (H : RegG P call G f nt K (opsOf c) 0 t s) : G ⟨f, t, nt, .code c :: K, [], none⟩ s := by
  obtain ⟨t1, s1, h, H⟩ := H
  refine hG 1 _ _ _ s1 (arow_go ?_) H
  have ht : ((opsOf c).toList.drop 0).take ((opsOf c).size - 0) = (opsOf c).toList := by rw [List.drop_zero, Nat.sub_zero, ← Array.length_toList, List.take_length]
  unfold runOps at h
  rw [ht] at h
  rw [hcode]
  show ((aops P call nt (opsOf c) (opsOf c).toList t).bind fun t => M.pure (Stp.go ⟨f, t, nt, K, [], none⟩)) s = _
  rw [M.bind_ok h]
  rfl
theorem Chunk.regD (hG : Chunk P call G) {c : Code} {id : Nat} (hcode : c = .region id (opsOf c) true) (H : RegD P call G f nt K (opsOf c) [] 0 t s) : G ⟨f, t, nt, .code c :: K, [], none⟩ s := by
  obtain ⟨t1, ms, s1, h, hm, H⟩ := H
  rw [List.nil_append] at hm
  refine hG 1 _ _ _ s1 (arow_go ?_) H
  have ht : ((opsOf c).toList.drop 0).take ((opsOf c).size - 0) = (opsOf c).toList := by rw [List.drop_zero, Nat.sub_zero, ← Array.length_toList, List.take_length]
  unfold runD at h
  rw [ht] at h
  rw [hcode]
  show ((aregionD P call nt (opsOf c) t).bind fun t => M.pure (Stp.go ⟨f, t, nt, K, [], none⟩)) s = _
  have : aregionD P call nt (opsOf c) t s = .ok t1 s1 := by
    unfold aregionD
    rw [M.bind_ok h]
    show withB (metOk (Region.before (opsOf c)) ms ms) (M.pure t1) s1 = _
    rw [hm, withB_true]
    rfl
  rw [M.bind_ok this]
  rfl
theorem RegG.done (h : Nat.ble ops.size i = true) (H : G ⟨f, t, nt, K, [], none⟩ s) : RegG P call G f nt K ops i t s := by
  refine ⟨t, s, ?_, H⟩
  rw [show ops.size - i = 0 by have := ble_true.1 h; omega]
  unfold runOps
  rw [List.take_zero]
  rfl
theorem RegD.done (h : (Nat.ble ops.size i && metOk (Region.before ops) acc acc) = true) (H : G ⟨f, t, nt, K, [], none⟩ s) : RegD P call G f nt K ops acc i t s := by
  obtain ⟨h1, h2⟩ := and_true.1 h
  refine ⟨t, [], s, ?_, by rw [List.append_nil]; exact h2, H⟩
  rw [show ops.size - i = 0 by have := ble_true.1 h1; omega]
  unfold runD
  rw [List.take_zero]
  rfl
theorem RegG.many (n : Nat) (h : (Nat.ble (i + n) ops.size && isOk (runOps P call nt ops i n t s)) = true) (H : RegG P call G f nt K ops (i + n) (outT (runOps P call nt ops i n t s)) (outS (runOps P call nt ops i n t s))) : RegG P call G f nt K ops i t s := by
  obtain ⟨hn, hok⟩ := and_true.1 h
  obtain ⟨t1, s1, h1, h2⟩ := H
  have hle := ble_true.1 hn
  refine ⟨t1, s1, ?_, h2⟩
  rw [show ops.size - i = n + (ops.size - (i + n)) by omega]
  exact runOps_add (isOk_eq hok) h1
theorem RegG.manyP (n : Nat) (l : List (Nat × AV)) (L : List (Nat × Option AObj)) (nx1 : Nat) (rd wr : List Nat) (h : (Nat.ble (i + n) ops.size, runOps P call nt ops i n t s) = (true, .ok (putL t l) (updA s L nx1 rd wr))) (H : RegG P call G f nt K ops (i + n) (putL t l) (updA s L nx1 rd wr)) : RegG P call G f nt K ops i t s := by
  injection h with hn hok
  obtain ⟨t1, s1, h1, h2⟩ := H
  have hle := ble_true.1 hn
  refine ⟨t1, s1, ?_, h2⟩
  rw [show ops.size - i = n + (ops.size - (i + n)) by omega]
  exact runOps_add hok h1
theorem RegG.manyT (n : Nat) (l : List (Nat × AV)) (h : (Nat.ble (i + n) ops.size, runOps P call nt ops i n t s) = (true, .ok (putL t l) s)) (H : RegG P call G f nt K ops (i + n) (putL t l) s) : RegG P call G f nt K ops i t s := by
  injection h with hn hok
  obtain ⟨t1, s1, h1, h2⟩ := H
  have hle := ble_true.1 hn
  refine ⟨t1, s1, ?_, h2⟩
  rw [show ops.size - i = n + (ops.size - (i + n)) by omega]
  exact runOps_add hok h1
theorem RegD.manyP (n : Nat) (l : List (Nat × AV)) (L : List (Nat × Option AObj)) (nx1 : Nat) (rd wr : List Nat) (ms : List Met) (h : (Nat.ble (i + n) ops.size, runD P call nt ops i n t s) = (true, .ok (putL t l, ms) (updA s L nx1 rd wr))) (H : RegD P call G f nt K ops (acc ++ ms) (i + n) (putL t l) (updA s L nx1 rd wr)) : RegD P call G f nt K ops acc i t s := by
  injection h with hn hok
  obtain ⟨t1, ms2, s1, h1, h2, h3⟩ := H
  have hle := ble_true.1 hn
  refine ⟨t1, _, s1, ?_, by rw [← List.append_assoc]; exact h2, h3⟩
  rw [show ops.size - i = n + (ops.size - (i + n)) by omega]
  exact runD_add rfl (by omega) hok h1
theorem RegD.manyT (n : Nat) (l : List (Nat × AV)) (ms : List Met) (h : (Nat.ble (i + n) ops.size, runD P call nt ops i n t s) = (true, .ok (putL t l, ms) s)) (H : RegD P call G f nt K ops (acc ++ ms) (i + n) (putL t l) s) : RegD P call G f nt K ops acc i t s := by
  injection h with hn hok
  obtain ⟨t1, ms2, s1, h1, h2, h3⟩ := H
  have hle := ble_true.1 hn
  refine ⟨t1, _, s1, ?_, by rw [← List.append_assoc]; exact h2, h3⟩
  rw [show ops.size - i = n + (ops.size - (i + n)) by omega]
  exact runD_add rfl (by omega) hok h1
theorem RegG.step {t1 : Tr AV} (hn : Nat.blt i ops.size = true) (h : runOps P call nt ops i 1 t s = .ok t1 s1) (H : RegG P call G f nt K ops (i + 1) t1 s1) : RegG P call G f nt K ops i t s := by
  obtain ⟨t2, s2, h1, h2⟩ := H
  have hlt := (blt_eq _ _).mp hn
  refine ⟨t2, s2, ?_, h2⟩
  rw [show ops.size - i = 1 + (ops.size - (i + 1)) by omega]
  exact runOps_add h h1
theorem RegD.step {t1 : Tr AV} {ms : List Met} (hn : Nat.blt i ops.size = true) (h : runD P call nt ops i 1 t s = .ok (t1, ms) s1) (H : RegD P call G f nt K ops (acc ++ ms) (i + 1) t1 s1) : RegD P call G f nt K ops acc i t s := by
  obtain ⟨t2, ms2, s2, h1, h2, h3⟩ := H
  have hlt := (blt_eq _ _).mp hn
  refine ⟨t2, _, s2, ?_, by rw [← List.append_assoc]; exact h2, h3⟩
  rw [show ops.size - i = 1 + (ops.size - (i + 1)) by omega]
  exact runD_add rfl (by omega) h h1
theorem opIs_lt {op : Op} {d : Option Tmp} {g : Option (Nat × Bool)} (h : opIs ops i = some (op, d, g)) : Nat.blt i ops.size = true := by
  obtain ⟨o, e, _⟩ := opIs_inv h
  rw [blt_eq]
  exact (Array.getElem?_eq_some_iff.1 e).1
noncomputable def wants (ops : Array Oper) (g : Option (Nat × Bool)) (t : Tr AV) : Bool :=
  match g with
  | none => true
  | some g => aknown ops t g.1 && awanted ops g t
theorem one_of {op : Op} {d : Option Tmp} {g : Option (Nat × Bool)} {v : AV} {t1 : Tr AV} (ho : opIs ops i = some (op, d, g)) (hw : wants ops g t = true) (h : (opB P op).val call t s = .ok v s1) (hp : aput nt t d v = some t1) : runOps P call nt ops i 1 t s = .ok t1 s1 := by
  cases g with
  | none => exact op1 ho h hp
  | some g =>
    obtain ⟨h1, h2⟩ := and_true.1 (show (aknown ops t g.1 && awanted ops g t) = true from hw)
    exact op1w ho h1 h2 h hp
theorem oneD_of {op : Op} {d : Option Tmp} {g : Option (Nat × Bool)} {v : AV} {t1 : Tr AV} (ho : opIs ops i = some (op, d, g)) (hw : wants ops g t = true) (h : (opB P op).val call t (aloneS s) = .ok v s1) (hp : aput nt t d v = some t1) : runD P call nt ops i 1 t s = .ok (t1, [metS i s s1]) (backS s s1) := by
  obtain ⟨o, e, rfl, rfl, e3⟩ := opIs_inv ho
  unfold runD
  have hl : (ops.toList.drop i).take 1 = [o] := by
    have h1 : ops.toList[i]? = some o := by rw [Array.getElem?_toList]; exact e
    obtain ⟨hi, e⟩ := List.getElem?_eq_some_iff.1 h1
    rw [List.drop_eq_getElem_cons hi, e]; rfl
  rw [hl]
  have ha : aone P call nt ops o t (aloneS s) = .ok t1 s1 := by
    unfold aone slotB
    rw [e3]
    cases g with
    | none =>
      show kOp (opB P o.op) o.dst call nt t _ = _
      unfold kOp
      rw [M.bind_ok h, hp]
      rfl
    | some g =>
      obtain ⟨h1, h2⟩ := and_true.1 (show (aknown ops t g.1 && awanted ops g t) = true from hw)
      show kOpIf ops g (opB P o.op) o.dst call nt t _ = _
      unfold kOpIf
      rw [h1, h2, withB_true]
      show ((opB P o.op).val call t).bind (fun v => lift (aput nt t o.dst v)) _ = _
      rw [M.bind_ok h, hp]
      rfl
  have hal : alone i (aone P call nt ops o t) s = .ok (t1, metS i s s1) (backS s s1) := by
    obtain ⟨hh, nx, mark, rd, wr⟩ := s
    obtain ⟨h1', nx1, mark1, rd1, wr1⟩ := s1
    unfold alone
    simp only [forced_eq]
    show (@R.rec _ (fun _ => R (Tr AV × Met)) .bad (fun a s1 => _) (aone P call nt ops o t (aloneS ⟨hh, nx, mark, rd, wr⟩))) = _
    rw [ha]
    rfl
  show ((alone i (aone P call nt ops o t)).bind fun x => (aopsD P call nt ops [] (i + 1) x.1).bind fun y => M.pure (y.1, x.2 :: y.2)) s = _
  rw [M.bind_ok hal]
  rfl
theorem RegG.opU {op : Op} {d : Tmp} {v : AV} {g : Option (Nat × Bool)} {s2 : AS} (h : (opB P op).val call t s = .ok v s1) (h0 : (opIs ops i, wants ops g t, Nat.blt d nt, s1) = (some (op, some d, g), true, true, s2)) (H : RegG P call G f nt K ops (i + 1) (t.put d (some v)) s2) : RegG P call G f nt K ops i t s := by
  injection h0 with ho h0
  injection h0 with hw h0
  injection h0 with hd h0
  subst h0
  exact RegG.step (opIs_lt ho) (one_of ho hw h (by unfold aput; simp only [hd])) H
theorem RegD.opU {op : Op} {d : Tmp} {v : AV} {g : Option (Nat × Bool)} {s2 : AS} {m : Met} (h : (opB P op).val call t (aloneS s) = .ok v s1) (h0 : (opIs ops i, wants ops g t, Nat.blt d nt, metS i s s1, backS s s1) = (some (op, some d, g), true, true, m, s2)) (H : RegD P call G f nt K ops (acc ++ [m]) (i + 1) (t.put d (some v)) s2) : RegD P call G f nt K ops acc i t s := by
  injection h0 with ho h0
  injection h0 with hw h0
  injection h0 with hd h0
  injection h0 with hm h0
  subst hm; subst h0
  exact RegD.step (opIs_lt ho) (oneD_of ho hw h (by unfold aput; simp only [hd])) H
theorem RegG.opQ {op : Op} {d : Tmp} {v : AV} {g : Option (Nat × Bool)} (h : (opB P op).val call t s = .ok v s1) (h0 : (opIs ops i, wants ops g t, Nat.blt d nt, s1) = (some (op, some d, g), true, true, s)) (H : RegG P call G f nt K ops (i + 1) (t.put d (some v)) s) : RegG P call G f nt K ops i t s := RegG.opU h h0 H
theorem RegD.opQ {op : Op} {d : Tmp} {v : AV} {g : Option (Nat × Bool)} (m : Met) (h : (opB P op).val call t (aloneS s) = .ok v s1) (h0 : (opIs ops i, wants ops g t, Nat.blt d nt, metS i s s1, backS s s1) = (some (op, some d, g), true, true, m, s)) (H : RegD P call G f nt K ops (acc ++ [m]) (i + 1) (t.put d (some v)) s) : RegD P call G f nt K ops acc i t s := RegD.opU h h0 H
theorem RegG.op {op : Op} {d : Tmp} {v : AV} {g : Option (Nat × Bool)} (h0 : (opIs ops i, wants ops g t, Nat.blt d nt) = (some (op, some d, g), true, true)) (h : (opB P op).val call t s = .ok v s1) (H : RegG P call G f nt K ops (i + 1) (t.put d (some v)) s1) : RegG P call G f nt K ops i t s := by
  injection h0 with ho h0
  injection h0 with hw hd
  exact RegG.step (opIs_lt ho) (one_of ho hw h (by unfold aput; simp only [hd])) H
def cmpB : BinOp → Int → Int → Option Bool
  | .lss, a, b => some (decide (a < b))
  | .leq, a, b => some (decide (a ≤ b))
  | .gtr, a, b => some (decide (a > b))
  | .geq, a, b => some (decide (a ≥ b))
  | .eql, a, b => some (a == b)
  | .neq, a, b => some (!(a == b))
  | _, _, _ => none
theorem op_cmp {op : BinOp} {ty yt : TypeId} {x y : Operand} {k : IntKind} {a b : Int} {r : Bool} (hx : opd t x = some (.int k a)) (hy : opd t y = some (.int k b)) (h : cmpB op a b = some r) : (opB P (.binOp op ty x y yt)).val call t s = .ok (.bool r) s := by
  cases op <;> simp only [cmpB, Option.some.injEq, reduceCtorEq] at h <;> exact bin_cmp hx hy rfl rfl (by subst h; rfl)
theorem RegG.cmp {op : BinOp} {ty yt : TypeId} {x y : Operand} {d : Tmp} {k : IntKind} {a b : Int} {p : Prop} {g : Option (Nat × Bool)} [hp : Decidable p] (hop : cmpB op a b = some (decide p)) (h0 : (opIs ops i, wants ops g t, Nat.blt d nt, opd t x, opd t y) = (some (.binOp op ty x y yt, some d, g), true, true, some (.int k a), some (.int k b)))
    (H1 : p → RegG P call G f nt K ops (i + 1) (t.put d (some (.bool true))) s) (H2 : ¬ p → RegG P call G f nt K ops (i + 1) (t.put d (some (.bool false))) s) : RegG P call G f nt K ops i t s := by
  injection h0 with ho h0
  injection h0 with hw h0
  injection h0 with hd h0
  injection h0 with hx hy
  refine RegG.op (by rw [ho, hw, hd]) (op_cmp hx hy hop) ?_
  by_cases q : p
  · rw [decide_eq_true q]; exact H1 q
  · rw [decide_eq_false q]; exact H2 q
theorem c_lss (a b : Int) : cmpB .lss a b = some (decide (a < b)) := rfl
theorem c_leq (a b : Int) : cmpB .leq a b = some (decide (a ≤ b)) := rfl
theorem c_gtr (a b : Int) : cmpB .gtr a b = some (decide (a > b)) := rfl
theorem c_geq (a b : Int) : cmpB .geq a b = some (decide (a ≥ b)) := rfl
theorem c_eql (a b : Int) : cmpB .eql a b = some (decide (a = b)) := by
  show some (a == b) = _
  by_cases h : a = b
  · subst h; simp
  · simp [h]
theorem c_neq (a b : Int) : cmpB .neq a b = some (decide (a ≠ b)) := by
  show some (!(a == b)) = _
  by_cases h : a = b
  · subst h; simp
  · simp [h]
theorem callE_ok {sp : Sp} {F : Nat → Option (List AV)} {n g : Nat} {fn : Func} {body : Code} {fo : Operand} {args : Array Operand} {ts : Array TypeId} {vs : List AV} {fr1 : AF} {j : Option Code} {x : AV} {s2 : AS} {k : Nat} (h0 : (opd t fo, opds (opd t) args.toList) = (some (.func (.func g) [] []), some vs)) (hsp : sp g = none) (hfn : P.funcs[g]? = some fn) (hbody : fn.body = some body) (hname : (fn.name == "runtime.NumGoroutine") = false) (hmax : Nat.ble (max fn.ntmps vs.length) top = true)
    (h1 : arow P (arunI P sp F n) k ⟨g, fillArgs vs, max fn.ntmps vs.length, [.code body], [], none⟩ s = .ok (.leave fr1 j) s1) (h2 : finish P fn.results.toList fr1 j s1 = .ok x s2) : (opB P (.call ⟨.value fo, args, ts⟩)).val (arunI P sp F (n + 1)) t s = .ok x s2 := by
  injection h0 with hf ha
  show kCall fo args.toList (arunI P sp F (n + 1)) t s = _
  unfold kCall
  rw [ha, withO_some, hf, withO_some]
  show arunI P sp F (n + 1) (.fn g) ([] ++ vs ++ []) s = _
  rw [List.nil_append, List.append_nil]
  show fnI P sp g (arunI P sp F n) vs s = _
  rw [fnI_text hsp hfn hbody hname]
  unfold kBodyI
  rw [hmax, withB_true, M.bind_ok (leaveM_ok h1)]
  exact h2
theorem GSim.start (h : Nat.ble nx0 s.nx = true) {fr : AF} (H : GSim P B nx0 Q fr s) : Sim P B nx0 Q fr s := H (ble_true.1 h)
theorem cAt_body {g : FuncId} {fn : Func} (h : P.funcs[g]? = some fn) (hb : fn.body.isSome = true) : fn.body = some (cAt P g []) := by
  unfold cAt bodyOf
  rw [h]
  simp only [subCode]
  cases e : fn.body with
  | none => rw [e] at hb; cases hb
  | some c => rfl
theorem getEx {α : Type} {l : List α} {n : Nat} (h : n < l.length) : ∃ x, l[n]? = some x := ⟨l[n]'h, List.getElem?_eq_getElem h⟩
theorem op_appendG {α : Type} {enc : α → List AV} {ts : Array TypeId} {ty e : TypeId} {i : TypeInfo} {x y : Operand} {l : List α} {c : α} {n m : Nat}
    (hx : opd t x = some (.slice (some (n, 0)) l.length (.atLeast l.length i.size))) (hy : opd t y = some (.slice (some (m, 0)) 1 (.known 1))) (h0 : ts[0]? = some ty) (hu : P.underlying ty = some (.slice e)) (hi : P.info? e = some i)
    (hz : (zeroFits i && notInt P ts[1]?) = true) (hn : s.h.get n = some (rowT enc l)) (hm : s.h.get m = some (.cells (enc c).length (Tr.fill (enc c) 0 .nil) [])) (hlow : (Nat.blt n s.nx && (Nat.blt m s.nx && Nat.blt s.nx top)) = true) (hmk : s.mark = 0) (hnm : Nat.beq n m = false)
    (henc : ∀ x : α, (enc x).length = i.size ∧ (enc x).all AV.oneCell = true) (hb : Nat.beq i.bytes 0 = false) (hroom : 2 * (l.length + 1) * i.bytes + 4096 * i.bytes ≤ room) (hsz : (l.length + 1) * i.size ≤ top) :
    (opB P (.call ⟨.builtin .append, #[x, y], ts⟩)).val call t s = .ok (.slice (some (s.nx, 0)) (l.length + 1) (.atLeast (l.length + 1) i.size)) { s with h := (s.h.put n none).put s.nx (some (rowT enc (l ++ [c]))), nx := s.nx + 1 } := by
  obtain ⟨q1, q2⟩ := and_true.1 hlow
  obtain ⟨q2, q3⟩ := and_true.1 q2
  have hn' : n < s.nx := (blt_eq _ _).mp q1
  have hm' : m < s.nx := (blt_eq _ _).mp q2
  have ht' : s.nx < top := (blt_eq _ _).mp q3
  have hne : m ≠ n := by intro e; subst e; simp at hnm
  have hflat : ∀ l : List α, (l.map enc).flatten.length = l.length * i.size := by
    intro l
    induction l with
    | nil => simp
    | cons x l ih => simp only [List.map_cons, List.flatten_cons, List.length_append, ih, (henc x).1, List.length_cons, Nat.add_mul, Nat.one_mul]; omega
  have hone : ∀ l : List α, (l.map enc).flatten.all AV.oneCell = true := by
    intro l
    induction l with
    | nil => rfl
    | cons x l ih => simp only [List.map_cons, List.flatten_cons, List.all_append, ih, (henc x).2, Bool.and_true]
  show kBuiltin P .append ts [x, y] call t s = _
  unfold kBuiltin
  have hops : opds (opd t) [x, y] = some [.slice (some (n, 0)) l.length (.atLeast l.length i.size), .slice (some (m, 0)) 1 (.known 1)] := by
    simp only [opds, hx, hy]
  rw [hops, withO_some]
  show appendTo P ts (.slice (some (n, 0)) l.length (.atLeast l.length i.size)) (.slice (some (m, 0)) 1 (.known 1)) s = _
  unfold appendTo
  rw [h0, withO_some]
  simp only [hu]
  rw [hi, withO_some, hz, withB_true]
  show (withO (lenOf (.slice (some (m, 0)) 1 (.known 1))) fun n_1 => (firstCells i.size n_1 (.slice (some (m, 0)) 1 (.known 1))).bind fun new => withB (Nat.beq new.length (n_1 * i.size)) <| appendRow i.size i.bytes (some (n, 0)) l.length (.atLeast l.length i.size) n_1 new) s = _
  show ((firstCells i.size 1 (.slice (some (m, 0)) 1 (.known 1))).bind fun new => withB (Nat.beq new.length (1 * i.size)) <| appendRow i.size i.bytes (some (n, 0)) l.length (.atLeast l.length i.size) 1 new) s = _
  have hf : firstCells i.size 1 (.slice (some (m, 0)) 1 (.known 1)) s = .ok (enc c) s := by
    rw [firstCells_some (by simp), Nat.one_mul]
    rw [readCells_fill (l := enc c) (z := []) hm' hm hmk (by rw [(henc c).1]; have : i.size ≤ (l.length + 1) * i.size := Nat.le_mul_of_pos_left _ (Nat.succ_pos _); omega) (by rw [(henc c).1]; omega)]
    rw [List.drop_zero, ← (henc c).1, List.take_length]
  rw [M.bind_ok hf, (henc c).1, Nat.one_mul, beqN_true.2 rfl, withB_true]
  show (withB (Nat.beq i.size i.size) <| match Nat.ble (l.length + 1) l.length with
    | true => match (some (n, 0) : Option (Nat × Nat)) with
      | some (m, o) => (writeMore m (o + l.length * i.size) (enc c)).bind fun _ => M.pure (.slice (some (m, o)) (l.length + 1) (.atLeast l.length i.size))
      | none => fail
    | false => match (some (n, 0) : Option (Nat × Nat)) with
      | some (m, 0) => (readCells m 0 (l.length * i.size)).bind fun old => (rdN m).bind fun o => withB o.isCells <| (wrN m none).bind fun _ => grown i.size i.bytes (l.length + 1) old (enc c)
      | _ => fail) s = _
  have hble : Nat.ble (l.length + 1) l.length = false := by
    cases q : Nat.ble (l.length + 1) l.length with
    | false => rfl
    | true => have := ble_true.1 q; omega
  rw [beqN_true.2 rfl, withB_true]
  simp only [hble]
  have hlt : (l.map enc).flatten.length ≤ top := by rw [hflat]; rw [Nat.add_mul] at hsz; omega
  have hr : readCells n 0 (l.length * i.size) s = .ok (l.map enc).flatten s := by
    rw [readCells_fill (l := (l.map enc).flatten) (z := []) hn' hn hmk hlt (by rw [hflat]; omega), List.drop_zero, ← hflat, List.take_length]
  rw [M.bind_ok hr, M.bind_ok (rdN_of hn' hn hmk)]
  show ((wrN n none).bind fun _ => grown i.size i.bytes (l.length + 1) (l.map enc).flatten (enc c)) s = _
  rw [M.bind_ok (wrN_of (o := none) hn' hn rfl (Nat.lt_trans hn' ht') hmk)]
  unfold grown
  rw [show (and (Nat.ble (2 * (l.length + 1) * i.bytes + 4096 * i.bytes) room) (not (Nat.beq i.bytes 0))) = true from and_true.2 ⟨ble_true.2 hroom, by rw [hb]; rfl⟩, withB_true]
  have happ : (l.map enc).flatten ++ enc c = ((l ++ [c]).map enc).flatten := by simp
  rw [happ]
  exact (M.bind_ok (newRow_of (s := { s with h := s.h.put n none }) (by rw [hflat]; simpa using hsz) (hone _) ht')).trans rfl
theorem op_appendS {α : Type} {enc : α → List AV} {ts : Array TypeId} {ty e : TypeId} {x y : Operand} {l : List α} {c : α} {n m K1 by_ : Nat}
    (h0 : (opd t x, opd t y, ts[0]?, P.underlying ty, (P.info? e).map (fun i => (i.size, i.bytes, zeroFits i)), notInt P ts[1]?) = (some (.slice (some (n, 0)) l.length (.atLeast l.length K1)), some (.slice (some (m, 0)) 1 (.known 1)), some ty, some (.slice e), some (K1, by_, true), true))
    (hn : s.h.get n = some (rowT enc l)) (hm : s.h.get m = some (.cells (enc c).length (Tr.fill (enc c) 0 .nil) [])) (hlow : (Nat.blt n s.nx && (Nat.blt m s.nx && Nat.blt s.nx top), Nat.beq s.mark 0, Nat.beq n m, Nat.beq by_ 0) = (true, true, false, false))
    (henc : ∀ x : α, (enc x).length = K1 ∧ (enc x).all AV.oneCell = true) (hroom : 2 * (l.length + 1) * by_ + 4096 * by_ ≤ room) (hsz : (l.length + 1) * K1 ≤ top) :
    (opB P (.call ⟨.builtin .append, #[x, y], ts⟩)).val call t s = .ok (.slice (some (s.nx, 0)) (l ++ [c]).length (.atLeast (l ++ [c]).length K1)) { s with h := (s.h.put n none).put s.nx (some (rowT enc (l ++ [c]))), nx := s.nx + 1 } := by
  injection h0 with hx h0
  injection h0 with hy h0
  injection h0 with h1 h0
  injection h0 with hu h0
  injection h0 with hi hz
  injection hlow with hl hlow
  injection hlow with hmk hlow
  injection hlow with hnm hb
  cases hi' : P.info? e with
  | none => rw [hi'] at hi; cases hi
  | some i =>
    rw [hi'] at hi
    simp only [Option.map_some, Option.some.injEq, Prod.mk.injEq] at hi
    obtain ⟨q1, q2, q3⟩ := hi
    subst q1; subst q2
    have hl' : (l ++ [c]).length = l.length + 1 := by simp
    rw [hl']
    exact op_appendG hx hy h1 hu hi' (by rw [q3, hz]; rfl) hn hm hl (beqN_true.1 hmk) hnm henc hb hroom hsz
end
end Go.Rn

namespace Go.Rn
open Go.RowKit
theorem setP_comm {α : Type} (u v : Option α) : ∀ (p q : List Bool) (t : Tr α), p ≠ q → Tr.setP u p (Tr.setP v q t) = Tr.setP v q (Tr.setP u p t)
  | [], [], _, h => absurd rfl h
  | [], b :: q, t, _ => by
    cases t with
    | nil => cases b <;> rfl
    | node l x r => cases b <;> rfl
  | a :: p, [], t, _ => by
    cases t with
    | nil => cases a <;> rfl
    | node l x r => cases a <;> rfl
  | a :: p, b :: q, t, h => by
    have ih : ∀ t : Tr α, a = b → Tr.setP u p (Tr.setP v q t) = Tr.setP v q (Tr.setP u p t) := fun t e => setP_comm u v p q t (fun e2 => h (by rw [e, e2]))
    cases t with
    | nil => cases a <;> cases b <;> simp [Tr.setP_nil, Tr.setP_node, ih]
    | node l x r => cases a <;> cases b <;> simp [Tr.setP_node, ih]
theorem setP_same {α : Type} (u v : Option α) : ∀ (p : List Bool) (t : Tr α), Tr.setP u p (Tr.setP v p t) = Tr.setP u p t
  | [], t => by cases t <;> rfl
  | a :: p, t => by
    cases t with
    | nil => cases a <;> simp [Tr.setP_nil, Tr.setP_node, setP_same u v p]
    | node l x r => cases a <;> simp [Tr.setP_node, setP_same u v p]
theorem put_comm {α : Type} (t : Tr α) (n m : Nat) (u v : Option α) (hn : n < top) (h : n ≠ m) : (t.put m v).put n u = (t.put n u).put m v :=
  setP_comm u v _ _ t (fun e => path_ne hn (fun e2 => h e2.symm) e.symm)
theorem put_same {α : Type} (t : Tr α) (n : Nat) (u v : Option α) : (t.put n v).put n u = t.put n u := setP_same u v _ t
theorem fill_put {α : Type} {x : α} : ∀ (l : List α) (i : Nat) (t : Tr α) (n : Nat), n < i → n < top → (Tr.fill l i t).put n (some x) = Tr.fill l i (t.put n (some x))
  | [], _, _, _, _, _ => rfl
  | y :: l, i, t, n, h, hn => by
    show (Tr.fill l (i + 1) (t.put i (some y))).put n (some x) = Tr.fill l (i + 1) ((t.put n (some x)).put i (some y))
    rw [fill_put l (i + 1) _ n (by omega) hn, put_comm t n i _ _ hn (by omega)]
theorem fill_set1 {α : Type} {x : α} : ∀ (l : List α) (i k : Nat) (t : Tr α), k < l.length → i + k < top → (Tr.fill l i t).put (i + k) (some x) = Tr.fill (l.set k x) i t
  | [], _, _, _, h, _ => by simp at h
  | y :: l, i, 0, t, _, h => by
    show (Tr.fill l (i + 1) (t.put i (some y))).put i (some x) = Tr.fill l (i + 1) (t.put i (some x))
    rw [fill_put l (i + 1) _ i (by omega) h, put_same]
  | y :: l, i, k + 1, t, h, ht => by
    show (Tr.fill l (i + 1) (t.put i (some y))).put (i + (k + 1)) (some x) = Tr.fill (l.set k x) (i + 1) (t.put i (some y))
    rw [show i + (k + 1) = i + 1 + k by omega]
    exact fill_set1 l (i + 1) k _ (by simpa using h) (by omega)
def setL {α : Type} : List α → Nat → List α → List α
  | l, _, [] => l
  | l, k, x :: r => setL (l.set k x) (k + 1) r
theorem fill_setL {α : Type} : ∀ (r l : List α) (k : Nat), k + r.length ≤ l.length → l.length ≤ top → Tr.fill r k (Tr.fill l 0 .nil) = Tr.fill (setL l k r) 0 .nil
  | [], _, _, _, _ => rfl
  | x :: r, l, k, h, ht => by
    simp only [List.length_cons] at h
    show Tr.fill r (k + 1) ((Tr.fill l 0 .nil).put k (some x)) = Tr.fill (setL (l.set k x) (k + 1) r) 0 .nil
    have := fill_set1 (x := x) l 0 k .nil (by omega) (by omega)
    rw [Nat.zero_add] at this
    rw [this]
    exact fill_setL r (l.set k x) (k + 1) (by rw [List.length_set]; omega) (by rw [List.length_set]; exact ht)
theorem setL_at {α : Type} : ∀ (r l : List α) (k i : Nat), k + r.length ≤ l.length → (setL l k r)[i]? = if k ≤ i ∧ i < k + r.length then r[i - k]? else l[i]?
  | [], l, k, i, _ => by
    show l[i]? = _
    simp; intro h1 h2; omega
  | x :: r, l, k, i, h => by
    simp only [List.length_cons] at h ⊢
    show (setL (l.set k x) (k + 1) r)[i]? = _
    rw [setL_at r (l.set k x) (k + 1) i (by rw [List.length_set]; omega)]
    by_cases e : i = k
    · subst e
      rw [if_neg (by omega), if_pos (by omega), Nat.sub_self, List.getElem?_set]
      simp; omega
    · by_cases q : k + 1 ≤ i ∧ i < k + 1 + r.length
      · rw [if_pos q, if_pos (by omega)]
        obtain ⟨j, rfl⟩ : ∃ j, i = k + 1 + j := ⟨i - (k + 1), by omega⟩
        rw [show k + 1 + j - (k + 1) = j by omega, show k + 1 + j - k = j + 1 by omega]
        simp
      · rw [if_neg q, if_neg (by omega), List.getElem?_set_ne (by omega)]
theorem flat_at {K : Nat} {β : Type} : ∀ {L : List (List β)} {i j : Nat}, (∀ c ∈ L, c.length = K) → i < L.length → j < K → ∀ {c : List β}, L[i]? = some c → L.flatten[i * K + j]? = c[j]?
  | [], _, _, _, h, _, _, _ => by simp at h
  | x :: L, 0, j, hL, _, hj, c, hc => by
    simp at hc; subst hc
    have hx := hL x List.mem_cons_self
    rw [List.flatten_cons, Nat.zero_mul, Nat.zero_add, List.getElem?_append_left (by omega)]
  | x :: L, i + 1, j, hL, hi, hj, c, hc => by
    have hx := hL x List.mem_cons_self
    rw [List.flatten_cons, List.getElem?_append_right (by rw [hx, Nat.add_mul]; omega), hx, show (i + 1) * K + j - K = i * K + j by rw [Nat.add_mul]; omega]
    exact flat_at (fun c hc => hL c (List.mem_cons_of_mem _ hc)) (by simpa using hi) hj (by simpa using hc)
theorem flat_set {α : Type} {K : Nat} {enc : α → List AV} (he : ∀ x, (enc x).length = K) {l : List α} {i j : Nat} {c c' : α} {r : List AV} (hc : l[i]? = some c) (hr : enc c' = setL (enc c) j r) (hj : j + r.length ≤ K) : setL (l.map enc).flatten (i * K + j) r = ((l.set i c').map enc).flatten := by
  have hi := (List.getElem?_eq_some_iff.1 hc).1
  have hall : ∀ (l : List α), ∀ c ∈ l.map enc, c.length = K := fun l c hc => by obtain ⟨x, _, rfl⟩ := List.mem_map.1 hc; exact he x
  have hfl : ∀ l : List α, (l.map enc).flatten.length = l.length * K := fun l => by rw [flatten_len (hall l), List.length_map]
  have hmul : i * K + K ≤ l.length * K := by have := Nat.mul_le_mul_right K hi; rw [Nat.succ_mul] at this; exact this
  apply List.ext_getElem?
  intro m
  rw [setL_at _ _ _ _ (by rw [hfl]; omega)]
  by_cases hm : m < l.length * K
  · have hK : 0 < K := by
      cases K with
      | zero => simp at hm
      | succ k => omega
    have hq : m / K < l.length := by rw [Nat.div_lt_iff_lt_mul hK]; exact hm
    have hdm : m = m / K * K + m % K := by rw [Nat.mul_comm]; exact (Nat.div_add_mod m K).symm
    have hmod : m % K < K := Nat.mod_lt _ hK
    have hold : (l.map enc).flatten[m]? = (enc (l[m / K]'hq))[m % K]? := by
      conv => lhs; rw [hdm]
      exact flat_at (hall l) (by rw [List.length_map]; exact hq) hmod (by rw [List.getElem?_map, List.getElem?_eq_getElem hq]; rfl)
    have hq' : m / K < (l.set i c').length := by rw [List.length_set]; exact hq
    have hnew : ((l.set i c').map enc).flatten[m]? = (enc ((l.set i c')[m / K]'hq'))[m % K]? := by
      conv => lhs; rw [hdm]
      exact flat_at (hall _) (by rw [List.length_map]; exact hq') hmod (by rw [List.getElem?_map, List.getElem?_eq_getElem hq']; rfl)
    rw [hnew, hold]
    by_cases e : m / K = i
    · have hci : l[m / K]'hq = c := by
        have : l[m / K]? = some c := by rw [e]; exact hc
        rw [List.getElem?_eq_getElem hq] at this; injection this
      have hcs : (l.set i c')[m / K]'hq' = c' := by simp [e]
      rw [hcs, hci, hr, setL_at _ _ _ _ (by rw [he]; exact hj)]
      have hdm2 : m = i * K + m % K := by rw [e] at hdm; exact hdm
      by_cases q : j ≤ m % K ∧ m % K < j + r.length
      · rw [if_pos (by omega), if_pos q]
        congr 1
        omega
      · rw [if_neg (by intro q2; apply q; omega), if_neg q]
    · have hcs : (l.set i c')[m / K]'hq' = l[m / K]'hq := by
        rw [List.getElem_set_ne (fun e2 => e e2.symm)]
      rw [hcs, if_neg]
      intro q
      apply e
      have h1 : m < (i + 1) * K := by rw [Nat.add_mul]; omega
      have h2 : i * K ≤ m := by omega
      have h3 := (Nat.le_div_iff_mul_le hK).2 h2
      have h4 := (Nat.div_lt_iff_lt_mul hK).2 h1
      omega
  · rw [if_neg (by omega), List.getElem?_eq_none (by rw [hfl]; omega), List.getElem?_eq_none (by rw [hfl, List.length_set]; omega)]
noncomputable section
def rdS (n : Nat) (s : AS) : AS := @Bool.rec (fun _ => AS) s ⟨s.h, s.nx, s.mark, n :: s.rd, s.wr⟩ (Nat.blt n s.mark)
def wrS (n : Nat) (o : Option AObj) (s : AS) : AS := @Bool.rec (fun _ => AS) ⟨s.h.put n o, s.nx, s.mark, s.rd, s.wr⟩ ⟨s.h.put n o, s.nx, s.mark, n :: s.rd, n :: s.wr⟩ (Nat.blt n s.mark)
end
section
variable {P : Program} {s : AS} {call : Caller} {t : Tr AV}
theorem rdN_any {n : Nat} {o : AObj} (h1 : Nat.blt n s.nx = true) (h2 : s.h.get n = some o) : rdN n s = .ok o (rdS n s) := by
  obtain ⟨hh, nx, mark, rd, wr⟩ := s
  have e1 : Nat.blt n nx = true := h1
  have e2 : hh.get n = some o := h2
  show @Bool.rec (fun _ => R AObj) .bad (@Option.rec AObj (fun _ => R AObj) .bad (fun o => @Bool.rec (fun _ => R AObj) (.ok o ⟨hh, nx, mark, rd, wr⟩) (.ok o ⟨hh, nx, mark, n :: rd, wr⟩) (Nat.blt n mark)) (hh.get n)) (Nat.blt n nx) = _
  rw [e1, e2]
  show @Bool.rec (fun _ => R AObj) (.ok o ⟨hh, nx, mark, rd, wr⟩) (.ok o ⟨hh, nx, mark, n :: rd, wr⟩) (Nat.blt n mark) = .ok o (@Bool.rec (fun _ => AS) ⟨hh, nx, mark, rd, wr⟩ ⟨hh, nx, mark, n :: rd, wr⟩ (Nat.blt n mark))
  cases Nat.blt n mark <;> rfl
theorem rdS_h (n : Nat) (s : AS) : (rdS n s).h = s.h ∧ (rdS n s).nx = s.nx ∧ (rdS n s).mark = s.mark := by
  unfold rdS
  cases Nat.blt n s.mark <;> exact ⟨rfl, rfl, rfl⟩
theorem wrN_any {n : Nat} {o : Option AObj} {p : AObj} (h1 : Nat.blt n s.nx = true) (h2 : s.h.get n = some p) (h3 : p.isRo = false) (ht : Nat.blt n top = true) : wrN n o s = .ok () (wrS n o s) := by
  obtain ⟨hh, nx, mark, rd, wr⟩ := s
  have e1 : (Nat.blt n nx && Nat.blt n top) = true := and_true.2 ⟨h1, ht⟩
  have e2 : hh.get n = some p := h2
  show @Bool.rec (fun _ => R Unit) .bad (@Option.rec AObj (fun _ => R Unit) .bad (fun p => @Bool.rec (fun _ => R Unit) (@Bool.rec (fun _ => R Unit) (.ok () ⟨hh.put n o, nx, mark, rd, wr⟩) (.ok () ⟨hh.put n o, nx, mark, n :: rd, n :: wr⟩) (Nat.blt n mark)) .bad p.isRo) (hh.get n)) (Nat.blt n nx && Nat.blt n top) = _
  rw [e1, e2]
  show @Bool.rec (fun _ => R Unit) (@Bool.rec (fun _ => R Unit) (.ok () ⟨hh.put n o, nx, mark, rd, wr⟩) (.ok () ⟨hh.put n o, nx, mark, n :: rd, n :: wr⟩) (Nat.blt n mark)) .bad p.isRo = _
  rw [h3]
  show @Bool.rec (fun _ => R Unit) (.ok () ⟨hh.put n o, nx, mark, rd, wr⟩) (.ok () ⟨hh.put n o, nx, mark, n :: rd, n :: wr⟩) (Nat.blt n mark) = .ok () (@Bool.rec (fun _ => AS) ⟨hh.put n o, nx, mark, rd, wr⟩ ⟨hh.put n o, nx, mark, n :: rd, n :: wr⟩ (Nat.blt n mark))
  cases Nat.blt n mark <;> rfl
theorem rows_len {α : Type} {K : Nat} {enc : α → List AV} (he : ∀ x, (enc x).length = K) (l : List α) : (l.map enc).flatten.length = l.length * K := by
  rw [flatten_len (K := K) (fun c hc => by obtain ⟨x, _, rfl⟩ := List.mem_map.1 hc; exact he x), List.length_map]
theorem rows_at {α : Type} {K : Nat} {enc : α → List AV} (he : ∀ x, (enc x).length = K) {l : List α} {i j k : Nat} {c : α} (hc : l[i]? = some c) (hj : j + k ≤ K) : i * K + j + k ≤ (l.map enc).flatten.length ∧ ((l.map enc).flatten.drop (i * K + j)).take k = ((enc c).drop j).take k := by
  have hi := (List.getElem?_eq_some_iff.1 hc).1
  have hmul : i * K + K ≤ l.length * K := by have := Nat.mul_le_mul_right K hi; rw [Nat.succ_mul] at this; exact this
  refine ⟨by rw [rows_len he]; omega, ?_⟩
  apply List.ext_getElem?
  intro m
  rw [List.getElem?_take, List.getElem?_take]
  split
  · rename_i hm
    rw [List.getElem?_drop, List.getElem?_drop, Nat.add_assoc]
    exact flat_at (fun c hc => by obtain ⟨x, _, rfl⟩ := List.mem_map.1 hc; exact he x) (by rw [List.length_map]; exact hi) (by omega) (by rw [List.getElem?_map, hc]; rfl)
  · rfl
theorem set_here {α : Type} {l : List α} {i : Nat} {c c' : α} (h : l[i]? = some c) : (l.set i c')[i]? = some c' := by
  have hi := (List.getElem?_eq_some_iff.1 h).1
  rw [List.getElem?_set_self hi]
noncomputable def bitV (op : BinOp) (k : IntKind) (a b : Int) : Int :=
  match op with
  | .and => k.wrap (BitVec.ofInt k.bits a &&& BitVec.ofInt k.bits b).toNat
  | .or => k.wrap (BitVec.ofInt k.bits a ||| BitVec.ofInt k.bits b).toNat
  | .xor => k.wrap (BitVec.ofInt k.bits a ^^^ BitVec.ofInt k.bits b).toNat
  | .andNot => k.wrap (BitVec.ofInt k.bits a &&& ~~~BitVec.ofInt k.bits b).toNat
  | .shl => k.wrap (a * 2 ^ min b.toNat k.bits)
  | .shr => a.fdiv (2 ^ min b.toNat k.bits)
  | _ => 0
def isBit : BinOp → Bool
  | .and | .or | .xor | .andNot => true
  | _ => false
theorem op_shift {op : BinOp} {ty yt : TypeId} {x y : Operand} {k k' : IntKind} {a b : Int} (h0 : (opd t x, opd t y, isShift op) = (some (.int k a), some (.int k' b), true)) (hb : 0 ≤ b) : (opB P (.binOp op ty x y yt)).val call t s = .ok (.int k (bitV op k a b)) s := by
  injection h0 with hx h0
  injection h0 with hy hs
  show kBin P op ty x y call t s = _
  unfold kBin
  have hd : decide (b < 0) = false := decide_eq_false (by omega)
  cases op <;> first | (cases hs; done) | skip
  all_goals
    rw [hx, hy, withO_some, withO_some]
    show (withB true <| lift (binOpT P _ ty (.int k a) (.int k' b))) s = _
    rw [withB_true]
    unfold binOpT
    simp only [isShift]
    unfold shiftOp
    rw [hd]
    rfl
end
end Go.Rn

namespace Go.Rn
open Go.RowKit
noncomputable section
def valOf (r : R AV) : Option AV := match r with | .ok x _ => some x | .bad => none
def knownM (nx0 : Nat) (ns : List Nat) (h0 : Tr AObj) (val : List AV → Option AV) : Caller → List AV → M AV := fun _ args =>
  (checkAll nx0 h0 ns).bind fun _ => withO (val args) fun v => M.pure v
end
theorem valOf_ok {r : R AV} {x : AV} (h : valOf r = some x) : ∃ s, r = .ok x s := by
  cases r with
  | bad => cases h
  | ok y s => injection h with h; subst h; exact ⟨s, rfl⟩
theorem Local.knownM (nx0 : Nat) (ns : List Nat) (h0 : Tr AObj) (val : List AV → Option AV) (call : Caller) (args : List AV) : Local (knownM nx0 ns h0 val call args) :=
  Local.bind (Local.checkAll nx0 h0 ns) (fun _ => Local.withO fun _ _ => Local.pure _)
theorem knownM_sim {P : Program} {B : Base} {f nx0 k : Nat} {ns : List Nat} {h0 : Tr AObj} {val : List AV → Option AV} {fn : Func} {body : Code} {ρ : Ren} {w : World} {s s1 : AS} (hP : ProgOk P) (hfn : P.funcs[f]? = some fn) (hbody : fn.body = some body) (hname : (fn.name == "runtime.NumGoroutine") = false)
    (hg0 : globs ≤ nx0) (ht0 : nx0 ≤ top) (hall : ∀ n o, n < top → h0.get n = some o → n ∈ ns) (hns : ∀ n ∈ ns, n < nx0)
    (hval : ∀ args v, val args = some v → (∀ (ρ σ : Ren) vs, VRs ρ args vs → VRs σ args vs) ∧ (∀ (ρ σ : Ren) x, VR ρ v x → VR σ v x) ∧ valOf (arun P (fun _ => 0) k (.fn f) args ⟨h0, nx0, 0, [], []⟩) = some v)
    {call : Caller} {args : List AV} {x : AV} {vs : Array Value} (r : Rel B ρ s.h w) (hg : RenG ρ) (h : knownM nx0 ns h0 val call args s = .ok x s1) (hv : VRs ρ args vs.toList) : Back P ((callFunc f vs).run P w) (Came B ρ s s1 w x) := by
  obtain ⟨u, s2, h2, h3⟩ := M.bind_inv (show ((checkAll nx0 h0 ns).bind fun _ => withO (val args) fun v => M.pure v) s = .ok x s1 from h)
  obtain ⟨v, h4, h5⟩ := withO_inv h3
  obtain ⟨rfl, rfl⟩ := pure_inv h5
  obtain ⟨a1, a2, a3⟩ := checkAll_inv h2
  obtain ⟨q1, q2, q3⟩ := hval _ _ h4
  obtain ⟨t1, ht1⟩ := valOf_ok q3
  have S : Start nx0 h0 (fun k => if k < nx0 then ρ k else none) w := by
    refine ⟨fun k hk => ?_, fun k hk => ?_, fun n o hn ho => ?_⟩
    · obtain ⟨N, e⟩ := hg k hk
      exact ⟨N, by rw [if_pos (Nat.lt_of_lt_of_le hk hg0)]; exact e⟩
    · show (if k < nx0 then ρ k else none) = none
      rw [if_neg (by omega)]
    · have hin := hall n o hn ho
      obtain ⟨c1, p1, p2, c2, c3, c4⟩ := a3 n hin
      rw [ho] at c3; cases c3
      obtain ⟨b, N, o', i1, i2, i3, _⟩ := r.is n p1 hn c2
      obtain ⟨j1, j2⟩ := roSame_sim c4 i3
      exact ⟨j1, b, N, o', by show (if n < nx0 then ρ n else none) = _; rw [if_pos (hns n hin)]; exact i1, i2, j2⟩
  have fi : Fine (⟨h0, nx0, 0, [], []⟩ : AS) := ⟨Nat.zero_le _, ht0⟩
  have hb := (arun_sim hP (noWays P (baseOf w)) k).fn f args _ ⟨h0, nx0, 0, [], []⟩ t1 _ w vs fi S.rel S.g (fun k h1 _ => S.free k h1) ht1 (q1 _ _ _ hv)
  rw [callFunc_run hfn hbody hname] at hb ⊢
  refine Calls.mono hb fun e w' => ?_
  rintro ⟨y, rfl, σ, _, hx, _, hbel⟩
  have hb' := hbel.below
  have gr : Grew w w' := ⟨hb'.os, hb'.tape, hb'.output, hb'.size, fun k hk => hb'.block k hk⟩
  exact ⟨y, rfl, ρ, by rw [a2]; exact Ext.refl _ _ _, q2 _ _ _ hx, by rw [a1]; exact r.grew gr, gr.below r.size⟩
end Go.Rn
