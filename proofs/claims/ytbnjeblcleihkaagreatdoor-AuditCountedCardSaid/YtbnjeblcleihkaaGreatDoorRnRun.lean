/- The machine, under names: regions, code, calls, rounds of a range over a function. -/
import Derived.Test.YtbnjeblcleihkaaGreatDoorRnOps
import Derived.Orders
namespace Go.Rn
noncomputable section
structure AF where
  fn : FuncId
  tmps : Tr AV
  nt : Nat
  todo : List Item
  defers : List Nat
  round : Option Nat
def aput (nt : Nat) (t : Tr AV) (dst : Option Tmp) (v : AV) : Option (Tr AV) :=
  @Option.rec Tmp (fun _ => Option (Tr AV)) (some t) (fun d => @Bool.rec (fun _ => Option (Tr AV)) none (some (t.put d (some v))) (Nat.blt d nt)) dst
def ayielded (ops : Array Oper) (t : Tr AV) (j : Nat) : Option Bool :=
  match ops[j]? with
  | none => none
  | some o => match o.dst with
    | none => none
    | some d => match t.get d with
      | some (.bool b) => some b
      | _ => none
def awanted (ops : Array Oper) (g : Nat × Bool) (t : Tr AV) : Bool :=
  match ayielded ops t g.1 with
  | some b => b == g.2
  | none => false
def aknown (ops : Array Oper) (t : Tr AV) (j : Nat) : Bool :=
  match ops[j]? with
  | none => true
  | some o => match o.dst with
    | none => true
    | some d => (t.get d).isSome
abbrev SlotM := Caller → Nat → Tr AV → M (Tr AV)
def kOp (f : Box OpM) (dst : Option Tmp) : SlotM := fun call nt t => (f.val call t).bind fun v => lift (aput nt t dst v)
def kOpIf (ops : Array Oper) (g : Nat × Bool) (f : Box OpM) (dst : Option Tmp) : SlotM := fun call nt t =>
  withB (aknown ops t g.1) <| @Bool.rec (fun _ => M (Tr AV)) (lift (aput nt t dst aundef)) ((f.val call t).bind fun v => lift (aput nt t dst v)) (awanted ops g t)
def slotB (P : Program) (ops : Array Oper) (o : Oper) : Box SlotM :=
  match o.guard with
  | none => .mk (kOp (opB P o.op) o.dst)
  | some g => .mk (kOpIf ops g (opB P o.op) o.dst)
def aone (P : Program) (call : Caller) (nt : Nat) (ops : Array Oper) (o : Oper) (t : Tr AV) : M (Tr AV) := (slotB P ops o).val call nt t
def aops (P : Program) (call : Caller) (nt : Nat) (ops : Array Oper) (l : List Oper) : Tr AV → M (Tr AV) :=
  @List.rec Oper (fun _ => Tr AV → M (Tr AV)) (fun t => M.pure t) (fun o _ ih t => (aone P call nt ops o t).bind ih) l
structure Met where
  i : Nat
  rd : List Nat
  wr : List Nat
  lo : Nat
  hi : Nat
def belowOf (m : Nat) (l : List Nat) : List Nat :=
  @List.rec Nat (fun _ => List Nat) [] (fun x _ ih => @Bool.rec (fun _ => List Nat) ih (List.cons x ih) (Nat.ble m x |> not)) l
def below (m : Nat) (l : List Nat) : List Nat := @Bool.rec (fun _ => List Nat) (belowOf m l) [] (Nat.beq m 0)
def alone {α : Type} (i : Nat) (m : M α) : M (α × Met) := fun s =>
  @AS.rec (fun _ => R (α × Met)) (fun h nx mark rd wr => forced nx fun lo =>
    @R.rec α (fun _ => R (α × Met)) .bad (fun a s1 =>
      @AS.rec (fun _ => R (α × Met)) (fun h1 nx1 _ rd1 wr1 => forced nx1 fun hi =>
        .ok (a, ⟨i, below lo rd1, below lo wr1, lo, hi⟩) ⟨h1, hi, mark, below mark rd1 ++ rd, below mark wr1 ++ wr⟩) s1)
      (m ⟨h, lo, lo, [], []⟩)) s
def aopsD (P : Program) (call : Caller) (nt : Nat) (ops : Array Oper) : List Oper → Nat → Tr AV → M (Tr AV × List Met)
  | [], _, t => M.pure (t, [])
  | o :: l, i, t => (alone i (aone P call nt ops o t)).bind fun x => (aopsD P call nt ops l (i + 1) x.1).bind fun y => M.pure (y.1, x.2 :: y.2)
def memN (n : Nat) : List Nat → Bool
  | [] => false
  | x :: l => match Nat.beq x n with
    | true => true
    | false => memN n l
def meets : List Nat → List Nat → Bool
  | [], _ => false
  | x :: l, m => match memN x m with
    | true => true
    | false => meets l m
def hasIn (lo hi : Nat) : List Nat → Bool
  | [] => false
  | x :: l => match Nat.ble lo x && Nat.blt x hi with
    | true => true
    | false => hasIn lo hi l
def apartM (x y : Met) : Bool := !(meets x.wr y.rd) && (!(hasIn x.lo x.hi y.rd))
def quietM (x : Met) : Bool := match x.wr with
  | [] => Nat.ble x.hi x.lo
  | _ => false
def againstAll (b : Array Nat) (x : Met) : List Met → Bool
  | [] => true
  | y :: l => match Nat.beq x.i y.i || (apartM x y || !loose b x.i y.i) with
    | true => againstAll b x l
    | false => false
def metOk (b : Array Nat) (all : List Met) : List Met → Bool
  | [] => true
  | x :: l => match quietM x || againstAll b x all with
    | true => metOk b all l
    | false => false
def aregionD (P : Program) (call : Caller) (nt : Nat) (ops : Array Oper) (t : Tr AV) : M (Tr AV) :=
  (aopsD P call nt ops ops.toList 0 t).bind fun x => withB (metOk (Region.before ops) x.2 x.2) <| M.pure x.1
inductive Stp where
  | go (fr : AF)
  | leave (fr : AF) (jump : Option Code)
def getLoop (l : Nat) : M AObj := (rdN l).bind fun o => match o with
  | .loop a b c d e f g h i => M.pure (.loop a b c d e f g h i)
  | _ => fail
abbrev StepM := Caller → FuncId → Tr AV → Nat → List Nat → Option Nat → List Item → M Stp
def sPop : StepM := fun _ fn t nt d r k => M.pure (.go ⟨fn, t, nt, k, d, r⟩)
def sPush (l : List Item) : StepM := fun _ fn t nt d r k => M.pure (.go ⟨fn, t, nt, l ++ k, d, r⟩)
def sCond (c : Operand) (a b : Code) : StepM := fun _ fn t nt d r k =>
  withO (opd t c) fun v => withO (boolOf v) fun v => M.pure (.go ⟨fn, t, nt, .code (@Bool.rec (fun _ => Code) b a v) :: k, d, r⟩)
def sExit (id : Nat) : StepM := fun _ fn t nt d r k => match exitTo id k with
  | some k' => M.pure (.go ⟨fn, t, nt, k', d, r⟩)
  | none => M.pure (.leave ⟨fn, t, nt, .code (.exit id) :: k, d, r⟩ (some (.exit id)))
def sGoto (l : Nat) : StepM := fun _ fn t nt d r k => match gotoIn l k with
  | some k' => M.pure (.go ⟨fn, t, nt, k', d, r⟩)
  | none => M.pure (.leave ⟨fn, t, nt, .code (.goto l) :: k, d, r⟩ (some (.goto l)))
def sRet : StepM := fun _ fn t nt d r k => M.pure (.leave ⟨fn, t, nt, .code .ret :: k, d, r⟩ (some .ret))
def sRegion (P : Program) (ops : Array Oper) : StepM := fun call fn t nt d r k =>
  (aops P call nt ops ops.toList t).bind fun t => M.pure (.go ⟨fn, t, nt, k, d, r⟩)
def sRegionD (P : Program) (ops : Array Oper) : StepM := fun call fn t nt d r k =>
  (aregionD P call nt ops t).bind fun t => M.pure (.go ⟨fn, t, nt, k, d, r⟩)
def notBusy : LoopState → Bool
  | .busy => false
  | _ => true
def loopOver (l : Nat) : M (Option Code) := (getLoop l).bind fun o => match o with
  | .loop st pend fn t nt ps a b dd =>
    withB (notBusy st) <| (wrN l (some (.loop .exhausted pend fn t nt ps a b dd))).bind fun _ => M.pure pend
  | _ => fail
def andThen (p : Option Code) (k : List Item) : List Item :=
  match p with
  | none => k
  | some c => .code c :: k
def sRange (f : Operand) (params : List Tmp) (assign body : Code) : StepM := fun call fn t nt d r k =>
  match r with
  | none =>
    (newN .defs).bind fun df => (newN (.loop .ready none fn t nt params assign body df)).bind fun l =>
    withO (opd t f) fun g => (callV call g [.yield l]).bind fun _ => (loopOver l).bind fun p =>
    M.pure (.go ⟨fn, t, nt, andThen p k, df :: d, r⟩)
  | some l0 => (getLoop l0).bind fun o => match o with
    | .loop _ _ _ _ _ _ _ _ df =>
      (newN (.loop .ready none fn t nt params assign body df)).bind fun l =>
      withO (opd t f) fun g => (callV call g [.yield l]).bind fun _ => (loopOver l).bind fun p =>
      M.pure (.go ⟨fn, t, nt, andThen p k, d, r⟩)
    | _ => fail
def sBegin : StepM := fun _ fn t nt d r k =>
  match r with
  | none => fail
  | some l => (getLoop l).bind fun o => match o with
    | .loop .ready pend fn1 t1 nt1 ps a b df =>
      (wrN l (some (.loop .busy pend fn1 t1 nt1 ps a b df))).bind fun _ => M.pure (.go ⟨fn, t, nt, k, d, r⟩)
    | _ => fail
def sFail : StepM := fun _ _ _ _ _ _ _ => fail
def codeB (P : Program) (c : Code) : Box StepM :=
  match c with
  | .skip => .mk sPop
  | .label _ => .mk sPop
  | .seq a b => .mk (sPush [.code a, .code b])
  | .cond c a b => .mk (sCond c a b)
  | .block id b => .mk (sPush [.code b, .inBlock id])
  | .loop b => .mk (sPush [.code b, .inLoop b])
  | .scope b => .mk (sPush [.code b, .inScope b])
  | .exit id => .mk (sExit id)
  | .goto l => .mk (sGoto l)
  | .ret => .mk sRet
  | .region _ ops false => .mk (sRegion P ops)
  | .region _ ops true => .mk (sRegionD P ops)
  | .rangeFunc f params a b => .mk (sRange f params.toList a b)
  | .refuse _ => .mk sFail
def itemB (P : Program) (it : Item) : Box StepM :=
  match it with
  | .code c => codeB P c
  | .inBlock _ => .mk sPop
  | .inScope _ => .mk sPop
  | .inLoop b => .mk (sPush [.code b, .inLoop b])
  | .beginRound => .mk sBegin
  | _ => .mk sFail
def astep (P : Program) (call : Caller) (fr : AF) : M Stp :=
  @AF.rec (fun _ => M Stp) (fun fn t nt todo d r =>
    @List.rec Item (fun _ => M Stp) (M.pure (.leave ⟨fn, t, nt, [], d, r⟩ none)) (fun it k _ => (itemB P it).val call fn t nt d r k) todo) fr
def aloop (P : Program) (call : Caller) (n : Nat) : AF → M Stp :=
  @Nat.rec (fun _ => AF → M Stp) (astep P call) (fun _ ih fr => (ih fr).bind fun x => @Stp.rec (fun _ => M Stp) ih (fun fr j => M.pure (.leave fr j)) x) n
def agrow (P : Program) (call : Caller) (n : Nat) : Nat → AF → M Stp :=
  @Nat.rec (fun _ => Nat → AF → M Stp) (fun _ _ => fail)
    (fun _ ih k fr => (aloop P call k fr).bind fun x => @Stp.rec (fun _ => M Stp) (fun fr => ih (Nat.succ k) fr) (fun fr j => M.pure (.leave fr j)) x) n
def resultOf (P : Program) (t : Tr AV) : ResultVar → M AV
  | .tmp i => lift (t.get i)
  | .cell a ty => do
    let a ← lift (match t.get a with
      | some x => addrOf x
      | none => none)
    loadVar P ty a.1 a.2
def resultsOf (P : Program) (t : Tr AV) : List ResultVar → M (List AV)
  | [] => pure []
  | r :: l => do
    let v ← resultOf P t r
    let vs ← resultsOf P t l
    pure (v :: vs)
def dropDefs : List Nat → M Unit
  | [] => pure ()
  | d :: l => do
    match ← rdN d with
    | .defs => do
      wrN d none
      dropDefs l
    | _ => fail
def fillArgs (l : List AV) : Tr AV := Tr.fill l 0 .nil
def setParams : List Tmp → List AV → Tr AV → Tr AV
  | p :: ps, v :: vs, t => setParams ps vs (t.put p (some v))
  | _, _, t => t
def asksNext (fr : AF) : Option (Operand × Oper × Array Oper × List Oper × List Item) :=
  match fr.todo with
  | .code (.region _ ops false) :: k => match ops.toList with
    | o :: rest => match o.guard, o.op with
      | none, .next it false => some (it, o, ops, rest, k)
      | _, _ => none
    | [] => none
  | _ => none
def picks {α : Type} : List α → List (α × List α)
  | [] => []
  | x :: l => (x, l) :: (picks l).map fun (y, r) => (y, x :: r)
def mapOf (exact : Bool) (es : List (AV × AV)) : AObj :=
  match exact with
  | true => .map es es.length
  | false => .mapAny es
def nextIs (P : Program) (call : Caller) (fr : AF) (n : Nat) (ob : AObj) (o : Oper) (ops : Array Oper) (rest : List Oper) (k : List Item) (v : AV) : M AF := do
  wrN n (some ob)
  let t ← lift (aput fr.nt fr.tmps o.dst v)
  let t ← aops P call fr.nt ops rest t
  pure { fr with tmps := t, todo := k }
def nextOver (P : Program) (call : Caller) (fr : AF) (n m : Nat) (es : List (AV × AV)) (exact : Bool) (o : Oper) (ops : Array Oper) (rest : List Oper) (k : List Item) : M AF := do
  wrN n none
  wrN m (some (mapOf exact es))
  let t ← lift (aput fr.nt fr.tmps o.dst (.tuple [.bool false]))
  let t ← aops P call fr.nt ops rest t
  pure { fr with tmps := t, todo := k }
def getIter (fr : AF) (it : Operand) : M (Nat × AObj) := do
  match ← lift (opd fr.tmps it) with
  | .ptr (some (n, 0)) => do
    let o ← rdN n
    pure (n, o)
  | _ => fail
def collect {α β : Type} (f : α → Option (List β)) : List α → Option (List β)
  | [] => some []
  | x :: l => match f x with
    | none => none
    | some a => match collect f l with
      | none => none
      | some b => some (a ++ b)
def nframe (P : Program) (call : Caller) : Nat → AF → AS → Option (List ((AF × Option Code) × AS))
  | 0, _, _ => none
  | f + 1, fr, s =>
    match asksNext fr with
    | some (it, o, ops, rest, k) =>
      match getIter fr it s with
      | .ok (n, .iter m es exact left _) s =>
        match left with
        | [] => match nextOver P call fr n m es exact o ops rest k s with
          | .ok fr s => nframe P call f fr s
          | .bad => none
        | _ :: _ => collect (fun (x : (AV × AV) × List (AV × AV)) =>
            match nextIs P call fr n (.iter m es exact x.2 (some x.1)) o ops rest k (.tuple [.bool true, x.1.1, x.1.2]) s with
            | .ok fr s => nframe P call f fr s
            | .bad => none) (picks left)
      | _ => none
    | none => match astep P call fr s with
      | .ok (.go fr) s => nframe P call f fr s
      | .ok (.leave fr j) s => some [((fr, j), s)]
      | .bad => none
def finish (P : Program) (rs : List ResultVar) (fr : AF) (j : Option Code) : M AV := do
  need (match j with | none | some .ret => true | _ => false)
  dropDefs fr.defers
  let vs ← resultsOf P fr.tmps rs
  match vs with
  | [v] => pure v
  | _ => pure (.tuple vs)
def finishAll (P : Program) (rs : List ResultVar) : List ((AF × Option Code) × AS) → Option (List (AV × AS))
  | [] => some []
  | ((fr, j), s) :: l => match finish P rs fr j s with
    | .bad => none
    | .ok v s1 => match finishAll P rs l with
      | none => none
      | some r => some ((v, s1) :: r)
def keyBelow (a b : AV × AV) : Bool :=
  match a.1, b.1 with
  | .int _ x, .int _ y => decide (x < y)
  | _, _ => false
def sortIn (x : AV × AV) : List (AV × AV) → List (AV × AV)
  | [] => [x]
  | y :: l => match keyBelow y x with
    | true => y :: sortIn x l
    | false => x :: y :: l
def sortEs : List (AV × AV) → List (AV × AV)
  | [] => []
  | x :: l => sortIn x (sortEs l)
def keyIn (k : AV) : List (AV × AV) → Bool
  | [] => false
  | (x, _) :: l => match sameKey k x with
    | some false => keyIn k l
    | _ => true
def keysOk : List (AV × AV) → Bool
  | [] => true
  | (x, _) :: l => match keyIn x l with
    | true => false
    | false => keysOk l
def allKeysOk : List (Nat × List (AV × AV)) → Bool
  | [] => true
  | (_, es) :: l => match keysOk es with
    | true => allKeysOk l
    | false => false
def addName (n : Nat) (l : List Nat) : List Nat :=
  match memN n l with
  | true => l
  | false => n :: l
def namesOf : List Nat → List Nat
  | [] => []
  | x :: l => addName x (namesOf l)
def esOf (s : AS) (n : Nat) : Option (List (AV × AV)) :=
  match s.h.get n with
  | some (.map es _) => some es
  | some (.mapAny es) => some es
  | _ => none
def flatInt : AV → Bool
  | .int _ _ => true
  | _ => false
inductive Ret where
  | none
  | nil
  | row (n : Nat) (l : List AV) (len e : Nat)
def retOf (lo : Nat) (s : AS) : AV → Option Ret
  | .tuple [] => some .none
  | .slice none 0 (.known 0) => some .nil
  | .slice (some (n, 0)) len (.atLeast c e) => match s.h.get n with
    | some (.cells k t z) => match gather t z k 0 with
      | some l => match (Nat.ble lo n && Nat.blt n s.nx) && (l.all flatInt && (Nat.ble len c && Nat.ble l.length top)) with
        | true => some (.row n l len e)
        | false => none
      | none => none
    | _ => none
  | _ => none
def sameEs : List (AV × AV) → List (AV × AV) → Bool
  | [], [] => true
  | a :: l, b :: m => match sameBits a.1 b.1 && sameBits a.2 b.2 with
    | true => sameEs l m
    | false => false
  | _, _ => false
def sameRet : Ret → Ret → Bool
  | .none, .none => true
  | .nil, .nil => true
  | .row a l n e, .row b m k f => Nat.beq a b && (sameAll l m && (Nat.beq n k && Nat.beq e f))
  | _, _ => false
def headOf : AV → AV
  | .tuple (x :: _) => x
  | v => v
def restOf : AV → Option (List AV)
  | .tuple (_ :: l) => some l
  | _ => none
def sameRest : Option (List AV) → Option (List AV) → Bool
  | none, none => true
  | some l, some m => sameAll l m
  | _, _ => false
def joinRest : Option (List AV) → AV → AV
  | none, x => x
  | some l, x => .tuple (x :: l)
def hasEs (s : AS) : List (Nat × List (AV × AV)) → Bool
  | [] => true
  | (n, es) :: l => match esOf s n with
    | none => false
    | some fs => match sameEs (sortEs fs) es with
      | true => hasEs s l
      | false => false
def fits (lo : Nat) (ns : List Nat) (es : List (Nat × List (AV × AV))) (r : Ret) (rest : Option (List AV)) : List (AV × AS) → Bool
  | [] => true
  | (v, s) :: l => match (below lo s.wr).all (fun n => memN n ns) && hasEs s es with
    | false => false
    | true => match retOf lo s (headOf v) with
      | none => false
      | some q => match sameRet q r && sameRest (restOf v) rest with
        | true => fits lo ns es r rest l
        | false => false
def entriesOf (s : AS) : List Nat → Option (List (Nat × List (AV × AV)))
  | [] => some []
  | n :: l => match esOf s n with
    | none => none
    | some es => match entriesOf s l with
      | none => none
      | some r => some ((n, sortEs es) :: r)
def putEs : List (Nat × List (AV × AV)) → M Unit
  | [] => pure ()
  | (n, es) :: l => do
    let _ ← mapObj n
    wrN n (some (.mapAny es))
    putEs l
def rdsOf : List (AV × AS) → List Nat
  | [] => []
  | (_, s) :: l => s.rd ++ rdsOf l
def noteAll : List Nat → M Unit
  | [] => pure ()
  | n :: l => do
    let _ ← rdN n
    noteAll l
structure Plan where
  note : List Nat
  es : List (Nat × List (AV × AV))
  ret : Ret
  rest : Option (List AV)
  lo : Nat
  skip : Nat
def nxOf : List (AV × AS) → Nat
  | [] => 0
  | (_, s) :: l => max s.nx (nxOf l)
def skipN : Nat → M Unit
  | 0 => M.pure ()
  | k + 1 => (newN .defs).bind fun n => (wrN n none).bind fun _ => skipN k
def planOf (lo : Nat) (outs : List (AV × AS)) : Option Plan :=
  match outs with
  | [] => none
  | (v, s1) :: l =>
    match entriesOf s1 (namesOf (below lo s1.wr)), retOf lo s1 (headOf v) with
    | some es, some r => match fits lo (namesOf (below lo s1.wr)) es r (restOf v) ((v, s1) :: l) && allKeysOk es with
      | false => none
      | true => some ⟨below lo (rdsOf ((v, s1) :: l)), es, r, restOf v, lo, nxOf ((v, s1) :: l) - lo⟩
    | _, _ => none
def retM (lo : Nat) (r : Ret) : M AV :=
  match r with
  | .none => M.pure (.tuple [])
  | .nil => M.pure (.slice none 0 (.known 0))
  | .row n c len e => (skipN (n - lo)).bind fun _ => (newRow c).bind fun m => withB (Nat.beq m n) <| M.pure (.slice (some (n, 0)) len (.atLeast len e))
def doPlan (p : Plan) : M AV := (noteAll p.note).bind fun _ => (putEs p.es).bind fun _ => (retM p.lo p.ret).bind fun v => (skipN p.skip).bind fun _ => M.pure (joinRest p.rest v)
def ajoinAll (P : Program) (call : Caller) (f ntmps : Nat) (rs : List ResultVar) (body : Code) (args : List AV) : AS → Option (List (AV × AS)) := fun s =>
  match nframe P call 100000 ⟨f, fillArgs args, max ntmps args.length, [.code body], [], none⟩ s with
  | some l => finishAll P rs l
  | none => none
def ajoin (P : Program) (call : Caller) (f ntmps : Nat) (rs : List ResultVar) (body : Code) (args : List AV) : M AV := fun s =>
  match Nat.ble (max ntmps args.length) top with
  | false => .bad
  | true => match ajoinAll P call f ntmps rs body args ⟨s.h, s.nx, s.nx, [], []⟩ with
    | none => .bad
    | some outs => match planOf s.nx outs with
      | none => .bad
      | some p => doPlan p s
def depth : Nat := 24
def cloneMap : List AV → M AV
  | [.iface t (.map (some r))] => do
    match ← rdN r with
    | .map es clock => do
      let n ← newN (.map es clock)
      pure (.iface t (.map (some n)))
    | .mapAny es => do
      let n ← newN (.mapAny es)
      pure (.iface t (.map (some n)))
    | _ => fail
  | _ => fail
def textsOf : List AV → Option (List (List UInt8))
  | [] => some []
  | .str s :: l => match textsOf l with
    | none => none
    | some r => some (s.data.toList :: r)
  | _ :: _ => none
def joinTexts (sep : List UInt8) : List (List UInt8) → List UInt8
  | [] => []
  | [x] => x
  | x :: l => x ++ (sep ++ joinTexts sep l)
def joinStrs : List AV → M AV
  | [.slice a n c, .str sep] => do
    need (Nat.ble n (capLow n c))
    let l ← firstCells 1 n (.slice a n c)
    let ts ← lift (textsOf l)
    need (Nat.ble ((joinTexts sep.data.toList ts).length + n) 1048576)
    pure (.str ⟨(joinTexts sep.data.toList ts).toArray⟩)
  | _ => fail
def kBody (P : Program) (f ntmps : Nat) (rs : List ResultVar) (body : Code) (call : Caller) (args : List AV) : M AV :=
  withB (Nat.ble (max ntmps args.length) top) <|
  (agrow P call depth 2 ⟨f, fillArgs args, max ntmps args.length, [.code body], [], none⟩).bind fun st =>
    @Stp.rec (fun _ => M AV) (fun _ => fail) (fun fr j => finish P rs fr j) st
def fnB (P : Program) (way : FuncId → Nat) (f : FuncId) : Box (Caller → List AV → M AV) :=
  match way f with
  | 2 => .mk fun _ args => cloneMap args
  | 3 => .mk fun _ args => joinStrs args
  | w => match P.funcs[f]? with
    | none => .mk fun _ _ => fail
    | some fn => match fn.body with
      | none => .mk fun _ _ => fail
      | some body => match fn.name == "runtime.NumGoroutine" with
        | true => .mk fun _ _ => fail
        | false => match Nat.beq w 1 with
          | true => .mk fun call args => ajoin P call f fn.ntmps fn.results.toList body args
          | false => .mk (kBody P f fn.ntmps fn.results.toList body)
def endRound (l : Nat) (j : Option Code) : M AV := (getLoop l).bind fun o => match o with
  | .loop _ _ fn t nt ps a b d =>
    (wrN l (some (.loop (match j with | none => .ready | some _ => .done) j fn t nt ps a b d))).bind fun _ => M.pure (.bool j.isNone)
  | _ => fail
def runRound (P : Program) (call : Caller) (l : Nat) (args : List AV) : M AV := (getLoop l).bind fun o => match o with
  | .loop _ _ fn t nt ps a b _ =>
    withB (and (Nat.beq args.length ps.length) (ps.all fun p => Nat.blt p nt)) <|
    (agrow P call depth 2 ⟨fn, setParams ps args t, nt, [.code a, .beginRound, .code b], [], some l⟩).bind fun st =>
      @Stp.rec (fun _ => M AV) (fun _ => fail) (fun _ j => endRound l j) st
  | _ => fail
def arun (P : Program) (way : FuncId → Nat) (n : Nat) : Caller :=
  @Nat.rec (fun _ => Caller) (fun _ _ => fail)
    (fun _ ih t args => @Tgt.rec (fun _ => M AV) (fun f => (fnB P way f).val ih args) (fun l => runRound P ih l args) (fun _ _ _ => fail) t) n
end
end Go.Rn
