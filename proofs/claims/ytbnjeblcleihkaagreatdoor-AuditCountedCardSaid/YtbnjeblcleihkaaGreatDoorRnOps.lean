/- What each operation does, under names. -/
import Derived.Test.YtbnjeblcleihkaaGreatDoorRnBase
namespace Go.Rn
noncomputable section
def ofCell : Value → Option AV
  | .bool b => some (.bool b)
  | .int k n => some (.int k n)
  | .string s => some (.str s)
  | .pointer none => some (.ptr none)
  | .slice none len cap => match Nat.beq len 0 && Nat.beq cap 0 with
    | true => some (.slice none 0 (.known 0))
    | false => none
  | .map none => some (.map none)
  | .nilFunc => some .nilFunc
  | .nilIface => some .nilIface
  | _ => none
def ofCells : List Value → Option (List AV)
  | [] => some []
  | v :: l => match ofCell v with
    | none => none
    | some x => match ofCells l with
      | none => none
      | some r => some (x :: r)
def ofValue : Value → Option AV
  | .agg cs => match ofCells cs.toList with
    | none => none
    | some l => some (.agg l)
  | .tuple cs => match ofCells cs.toList with
    | none => none
    | some l => some (.tuple l)
  | v => ofCell v
def globs : Nat := 256
def opd (t : Tr AV) (x : Operand) : Option AV :=
  @Operand.rec (fun _ => Option AV) (fun i => t.get i) (fun v => ofValue v) (fun g => @Bool.rec (fun _ => Option AV) none (some (.ptr (some (g, 0)))) (Nat.blt g globs)) (fun f => some (.func (.func f) [] [])) x
def sizeT (P : Program) (t : TypeId) : Option Nat :=
  match P.info? t with
  | none => none
  | some i => some i.size
def zeroT (P : Program) (t : TypeId) : Option AV :=
  match P.info? t with
  | none => none
  | some i => match i.zero with
    | none => none
    | some v => ofValue v
def aggT (P : Program) (t : TypeId) : Option Bool :=
  match P.underlying t with
  | some (.struct _) => some true
  | some (.array _ _) => some true
  | some _ => some false
  | none => none
def gather (t : Tr AV) (z : List AV) : Nat → Nat → Option (List AV)
  | 0, _ => some []
  | k + 1, off => match cellAt t z off with
    | none => none
    | some v => match gather t z k (off + 1) with
      | none => none
      | some l => some (v :: l)
def readCells (n off : Nat) : Nat → M (List AV)
  | 0 => M.pure []
  | k + 1 => (rdN n).bind fun o => match o with
    | .cells m t z => withB (Nat.ble (off + (k + 1)) m) <| lift (gather t z (k + 1) off)
    | .ro m t => withB (Nat.ble (off + (k + 1)) m) <| lift (gather t [] (k + 1) off)
    | _ => fail
def writeCells (n off : Nat) (l : List AV) : M Unit :=
  match l with
  | [] => M.pure ()
  | x :: r => (rdN n).bind fun o => match o with
    | .cells m t z => withB (and (Nat.ble (off + (r.length + 1)) m) (and (Nat.ble m top) ((x :: r).all AV.oneCell))) <|
      wrN n (some (.cells m (Tr.fill (x :: r) off t) z))
    | _ => fail
def newRow (l : List AV) : M Nat :=
  withB (and (Nat.ble l.length top) (l.all AV.oneCell)) <| newN (.cells l.length (Tr.fill l 0 .nil) [])
def one : List AV → Option AV
  | [v] => some v
  | _ => none
def loadVar (P : Program) (t : TypeId) (n off : Nat) : M AV :=
  withO (aggT P t) fun ag => match ag with
    | true => withO (sizeT P t) fun k => (readCells n off k).bind fun l => M.pure (.agg l)
    | false => (readCells n off 1).bind fun l => lift (one l)
def storeVar (P : Program) (t : TypeId) (n off : Nat) (v : AV) : M Unit :=
  withO (sizeT P t) fun k => withB (Nat.beq v.cells.length k) <| writeCells n off v.cells
def addrOf : AV → Option (Nat × Nat)
  | .ptr (some a) => some a
  | _ => none
def intOf : AV → Option Int
  | .int _ n => some n
  | _ => none
def boolOf : AV → Option Bool
  | .bool b => some b
  | _ => none
def partT (P : Program) (t : TypeId) (cs : List AV) (off : Nat) : Option AV :=
  match aggT P t with
  | none => none
  | some true => match sizeT P t with
    | none => none
    | some k => some (.agg ((cs.drop off).take k))
  | some false => cs[off]?
def setCells : List AV → List AV → Nat → List AV
  | cs, [], _ => cs
  | cs, c :: l, off => setCells (cs.set off c) l (off + 1)
def fillIn (place : Nat → Option (Nat × Nat)) : List AV → List (Nat × AV) → Option (List AV)
  | cells, [] => some cells
  | cells, (i, v) :: rest => match place i with
    | none => none
    | some (off, size) =>
      match Nat.beq v.cells.length size && Nat.ble (off + v.cells.length) cells.length with
      | false => none
      | true => fillIn place (setCells cells v.cells off) rest
def opds (ev : Operand → Option AV) : List Operand → Option (List AV)
  | [] => some []
  | x :: l => match ev x with
    | none => none
    | some v => match opds ev l with
      | none => none
      | some r => some (v :: r)
def opdps (ev : Operand → Option AV) : List (Nat × Operand) → Option (List (Nat × AV))
  | [] => some []
  | (i, x) :: l => match ev x with
    | none => none
    | some v => match opdps ev l with
      | none => none
      | some r => some ((i, v) :: r)
def placesT (P : Program) : List Field → Option (List (Nat × Nat))
  | [] => some []
  | f :: l => match sizeT P f.type with
    | none => none
    | some k => match placesT P l with
      | none => none
      | some r => some ((f.offset, k) :: r)
def build (P : Program) (t : TypeId) (parts : List (Nat × AV)) : Option AV :=
  match zeroT P t with
  | none => none
  | some z => match P.underlying t with
    | some (.struct fs) => match placesT P fs.toList with
      | none => none
      | some pl => match fillIn (fun i => pl[i]?) z.cells parts with
        | none => none
        | some l => some (.agg l)
    | some (.array _ e) => match sizeT P e with
      | none => none
      | some k => match fillIn (fun i => some (i * k, k)) z.cells parts with
        | none => none
        | some l => some (.agg l)
    | _ => none
def repeatTo : Nat → List AV → List AV
  | 0, _ => []
  | n + 1, z => z ++ repeatTo n z
def buildSlice (P : Program) (t : TypeId) (len : Nat) (parts : List (Nat × AV)) : M AV := do
  match P.underlying t with
  | some (.slice e) => do
    let k ← lift (sizeT P e)
    let z ← lift (zeroT P e)
    need (Nat.ble (len * k) 1048576 && Nat.beq z.cells.length k)
    let l ← lift (fillIn (fun i => some (i * k, k)) (repeatTo len z.cells) parts)
    let r ← newRow l
    pure (.slice (some (r, 0)) len (.known len))
  | _ => fail
def fieldAddr (P : Program) (s : TypeId) (x : AV) (field : Nat) : Option AV :=
  match P.underlying s with
  | some (.struct fs) => match fs[field]? with
    | none => none
    | some f => match sizeT P f.type with
      | none => none
      | some k => match Nat.beq k 0 with
        | true => none
        | false => match x with
          | .ptr (some (n, o)) => some (.ptr (some (n, o + f.offset)))
          | .rptr n o => some (.rptr n (o + f.offset))
          | _ => none
  | _ => none
def fieldOf (P : Program) (s : TypeId) (x : AV) (field : Nat) : Option AV :=
  match P.underlying s, x with
  | some (.struct fs), .agg cs => match fs[field]? with
    | none => none
    | some f => partT P f.type cs f.offset
  | _, _ => none
def within (i : Int) (len : Nat) : Option Nat :=
  match i with
  | .ofNat n => match Nat.blt n len with
    | true => some n
    | false => none
  | .negSucc _ => none
def indexAddr (P : Program) (t : TypeId) (x ix : AV) : Option AV :=
  match intOf ix with
  | none => none
  | some i => match P.underlying t, x with
    | some (.array len e), .ptr (some (n, o)) => match within i len, sizeT P e with
      | some j, some k => some (.ptr (some (n, o + j * k)))
      | _, _ => none
    | some (.slice e), .slice (some (n, o)) len _ => match within i len, sizeT P e with
      | some j, some k => some (.ptr (some (n, o + j * k)))
      | _, _ => none
    | some (.slice e), .rslice n o len => match within i len, sizeT P e with
      | some j, some k => some (.rptr n (o + j * k))
      | _, _ => none
    | _, _ => none
def indexOf (P : Program) (t : TypeId) (x ix : AV) : Option AV :=
  match intOf ix with
  | none => none
  | some i => match P.underlying t, x with
    | some (.array len e), .agg cs => match within i len, sizeT P e with
      | some j, some k => partT P e cs (j * k)
      | _, _ => none
    | some .string, .str s => match within i s.size with
      | some j => match s.data.toList[j]? with
        | some b => some (.int .u8 b.toNat)
        | none => none
      | none => none
    | _, _ => none
def bound (x : Option AV) (most dflt : Nat) : Option Nat :=
  match x with
  | none => some dflt
  | some v => match intOf v with
    | none => none
    | some i => within i (most + 1)
def opt (ev : Operand → Option AV) : Option Operand → Option (Option AV)
  | none => some none
  | some x => match ev x with
    | none => none
    | some v => some (some v)
def capLow (len : Nat) (c : Cap) : Nat :=
  match c with
  | .known c => c
  | .atLeast lo _ => lo
  | .lost => len
def slice3 (k : Nat) (a : Option (Nat × Nat)) (low : Nat) (lo hi : Option AV) (mx : AV) : Option AV :=
  match bound (some mx) low 0 with
  | none => none
  | some m => match hi with
    | none => none
    | some hi => match bound (some hi) m 0 with
      | none => none
      | some h => match bound lo h 0 with
        | none => none
        | some l => match a with
          | none => some (.slice none (h - l) (.known (m - l)))
          | some (n, o) => match Nat.beq m l with
            | true => some (.slice (some (n, o)) (h - l) (.known (m - l)))
            | false => some (.slice (some (n, o + l * k)) (h - l) (.known (m - l)))
def sliceOf (P : Program) (t : TypeId) (x : AV) (lo hi mx : Option AV) : Option AV :=
  match P.underlying t, x with
  | some .string, .str s => match mx with
    | some _ => none
    | none => match bound hi s.size s.size with
      | none => none
      | some h => match bound lo h 0 with
        | none => none
        | some l => some (.str (s.extract l h))
  | some (.slice e), .slice a len cap =>
    match sizeT P e with
    | none => none
    | some k =>
      match mx with
      | some mx => match cap with
        | .lost => none
        | cap => slice3 k a (capLow len cap) lo hi mx
      | none =>
        match bound hi (capLow len cap) len with
        | none => none
        | some h => match bound lo h 0 with
          | none => none
          | some l => match a, cap with
            | none, .known c => some (.slice none (h - l) (.known (c - l)))
            | none, _ => none
            | some (n, o), .known c => match Nat.beq c l with
              | true => some (.slice (some (n, o)) (h - l) (.known (c - l)))
              | false => some (.slice (some (n, o + l * k)) (h - l) (.known (c - l)))
            | some (n, o), .atLeast b e => match Nat.beq l 0 with
              | true => some (.slice (some (n, o)) (h - l) (.atLeast b e))
              | false => match Nat.beq e k && Nat.blt l b with
                | true => some (.slice (some (n, o + l * k)) (h - l) (.atLeast (b - l) e))
                | false => match Nat.beq (h - l) 0 with
                  | true => some (.slice (some (n, o)) 0 .lost)
                  | false => none
            | some (n, o), .lost => match Nat.beq h 0 with
              | true => some (.slice (some (n, o)) 0 .lost)
              | false => none
  | some (.slice e), .rslice n o len => match sizeT P e with
    | none => none
    | some k => match mx with
      | some _ => none
      | none => match bound hi len len with
        | none => none
        | some h => match bound lo h 0 with
          | none => none
          | some l => match and (Nat.ble top n) (or (Nat.blt l len) (Nat.beq l 0)) with
            | true => some (.rslice n (o + l * k) (h - l))
            | false => none
  | some (.array len e), .ptr (some (n, o)) =>
    match sizeT P e with
    | none => none
    | some k => match mx with
      | some _ => none
      | none => match bound hi len len with
        | none => none
        | some h => match bound lo h 0 with
          | none => none
          | some l => match Nat.beq len l with
            | true => some (.slice (some (n, o)) (h - l) (.known (len - l)))
            | false => some (.slice (some (n, o + l * k)) (h - l) (.known (len - l)))
  | _, _ => none
def room : Nat := 140737488355328
def makeSlice (P : Program) (t : TypeId) (len cap : AV) : M AV :=
  match P.underlying t with
  | some (.slice e) =>
    withO (intOf len) fun l => withO (intOf cap) fun c => withO (P.info? e) fun i => withO (within c room) fun c => withO (within l (c + 1)) fun l => withO (zeroT P e) fun z =>
    withB (and (Nat.ble (c * i.bytes) room) (and (Nat.ble (c * i.size) top) (and (or (Nat.beq (c * i.size) 0) (not (Nat.beq z.cells.length 0))) (z.cells.all AV.oneCell)))) <|
    (newN (.cells (c * i.size) .nil z.cells)).bind fun r => M.pure (.slice (some (r, 0)) l (.known c))
  | _ => fail
def byteCells (s : ByteArray) : List AV := s.data.toList.map fun b => .int .u8 b.toNat
def firstCells (size n : Nat) : AV → M (List AV)
  | .slice (some _) 0 .lost => withB (Nat.beq n 0) <| M.pure []
  | .slice (some (m, o)) _ _ => readCells m o (n * size)
  | .slice none _ _ => M.pure []
  | .str s => M.pure ((byteCells s).take n)
  | _ => fail
def bytesOf : List AV → Option (List UInt8)
  | [] => some []
  | .int .u8 n :: l => match bytesOf l with
    | none => none
    | some r => some (n.toNat.toUInt8 :: r)
  | _ :: _ => none
def lenOf : AV → Option Nat
  | .slice _ n _ => some n
  | .str s => some s.size
  | _ => none
def grown (size bytes need_ : Nat) (old new : List AV) : M AV :=
  withB (and (Nat.ble (2 * need_ * bytes + 4096 * bytes) room) (not (Nat.beq bytes 0))) <|
  (newRow (old ++ new)).bind fun r => M.pure (.slice (some (r, 0)) need_ (.atLeast need_ size))
def writeMore (n off : Nat) (l : List AV) : M Unit :=
  match l with
  | [] => M.pure ()
  | x :: r => (rdN n).bind fun o => match o with
    | .cells m t z => withB (and (Nat.ble off m) (and (Nat.ble (max m (off + (r.length + 1))) top) ((x :: r).all AV.oneCell))) <|
      wrN n (some (.cells (max m (off + (r.length + 1))) (Tr.fill (x :: r) off t) z))
    | _ => fail
def AObj.isCells : AObj → Bool
  | .cells _ _ _ => true
  | _ => false
def zeroFits (i : TypeInfo) : Bool :=
  match i.zero with
  | none => false
  | some v => Nat.beq v.cells.size i.size
def appendRow (size bytes : Nat) (base : Option (Nat × Nat)) (len : Nat) (cap : Cap) (n : Nat) (new : List AV) : M AV :=
  match cap with
  | .known c => match Nat.ble (len + n) c with
    | true => (match base with
      | some (m, o) => writeCells m (o + len * size) new
      | none => M.pure ()).bind fun _ => M.pure (.slice base (len + n) (.known c))
    | false => (firstCells size len (.slice base len (.known c))).bind fun old => grown size bytes (len + n) old new
  | .atLeast lo sz => withB (Nat.beq sz size) <| match Nat.ble (len + n) lo with
    | true => match base with
      | some (m, o) => (writeMore m (o + len * size) new).bind fun _ => M.pure (.slice (some (m, o)) (len + n) (.atLeast lo sz))
      | none => fail
    | false => match base with
      | some (m, 0) => (readCells m 0 (len * size)).bind fun old => (rdN m).bind fun o => withB o.isCells <| (wrN m none).bind fun _ => grown size bytes (len + n) old new
      | _ => fail
  | .lost => fail
def notInt (P : Program) (t : Option TypeId) : Bool :=
  match t with
  | none => true
  | some t => match P.underlying t with
    | some (.int _) => false
    | some _ => true
    | none => false
def appendTo (P : Program) (argTypes : Array TypeId) (s x : AV) : M AV :=
  withO argTypes[0]? fun t => match P.underlying t, s with
  | some (.slice e), .slice base len cap =>
    withO (P.info? e) fun i => withB (and (zeroFits i) (notInt P argTypes[1]?)) <| withO (lenOf x) fun n => (firstCells i.size n x).bind fun new =>
    withB (Nat.beq new.length (n * i.size)) <| appendRow i.size i.bytes base len cap n new
  | _, _ => fail
def notLost : AV → Bool
  | .slice _ _ .lost => false
  | _ => true
def copyTo (P : Program) (argTypes : Array TypeId) (d x : AV) : M AV :=
  withO argTypes[0]? fun t => match P.underlying t, d with
  | some (.slice e), .slice base len cap =>
    withO (sizeT P e) fun k => withO (lenOf x) fun m => withB (notLost (.slice base len cap)) <| (firstCells k (Nat.min m len) x).bind fun cells =>
    (match base with
    | some (r, o) => writeCells r o cells
    | none => M.pure ()).bind fun _ => M.pure (.int .i64 (Nat.min m len : Nat))
  | _, _ => fail
def eqFields (P : Program) (eq : TypeId → AV → AV → Option Bool) (xs ys : List AV) : List Field → Option Bool
  | [] => some true
  | f :: l => match f.name == "_" with
    | true => eqFields P eq xs ys l
    | false => match partT P f.type xs f.offset, partT P f.type ys f.offset with
      | some a, some b => match eq f.type a b with
        | none => none
        | some false => some false
        | some true => eqFields P eq xs ys l
      | _, _ => none
def eqCells (P : Program) (eq : TypeId → AV → AV → Option Bool) (t : TypeId) (k : Nat) (xs ys : List AV) : Nat → Nat → Option Bool
  | 0, _ => some true
  | n + 1, i => match partT P t xs (i * k), partT P t ys (i * k) with
    | some a, some b => match eq t a b with
      | none => none
      | some false => some false
      | some true => eqCells P eq t k xs ys n (i + 1)
    | _, _ => none
def eqT (P : Program) : Nat → TypeId → AV → AV → Option Bool
  | 0, _, _, _ => none
  | d + 1, t, x, y =>
    match P.underlying t, x, y with
    | some .bool, .bool a, .bool b => some (a == b)
    | some (.int _), .int k a, .int k' b => match decide (k = k') with
      | true => some (a == b)
      | false => none
    | some .string, .str a, .str b => some (a == b)
    | some (.pointer _), .ptr none, .ptr b => some b.isNone
    | some (.pointer _), .ptr (some _), .ptr none => some false
    | some (.interface _), .nilIface, .nilIface => some true
    | some (.interface _), .nilIface, .iface _ _ => some false
    | some (.interface _), .iface _ _, .nilIface => some false
    | some (.struct fs), .agg xs, .agg ys => match P.stoodInHeld t with
      | true => none
      | false => eqFields P (eqT P d) xs ys fs.toList
    | some (.array n e), .agg xs, .agg ys => match sizeT P e with
      | none => none
      | some k => eqCells P (eqT P d) e k xs ys n 0
    | some (.slice _), .slice none _ _, .slice b _ _ => some b.isNone
    | some (.slice _), .slice (some _) _ _, .slice none _ _ => some false
    | some (.map _ _), .map none, .map b => some b.isNone
    | some (.map _ _), .map (some _), .map none => some false
    | some (.func _ _ _), .nilFunc, .nilFunc => some true
    | some (.func _ _ _), .nilFunc, .func _ _ _ => some false
    | some (.func _ _ _), .func _ _ _, .nilFunc => some false
    | _, _, _ => none
def isConst : Operand → Bool
  | .const _ => true
  | _ => false
def eqGuardOk (P : Program) (t : TypeId) (x y : Operand) (a b : AV) : Bool :=
  match a, b with
  | .nilIface, .nilIface => isConst x || isConst y
  | .agg _, .agg _ => !P.eqGuardType P.depth t
  | _, _ => true
def intOp (op : BinOp) (k : IntKind) (a b : Int) : Option AV :=
  match op with
  | .add => some (.int k (k.wrap (a + b)))
  | .sub => some (.int k (k.wrap (a - b)))
  | .mul => some (.int k (k.wrap (a * b)))
  | .quo => match decide (b = 0) with
    | true => none
    | false => some (.int k (k.wrap (a.tdiv b)))
  | .rem => match decide (b = 0) with
    | true => none
    | false => some (.int k (a.tmod b))
  | .and => some (.int k (k.wrap (BitVec.ofInt k.bits a &&& BitVec.ofInt k.bits b).toNat))
  | .or => some (.int k (k.wrap (BitVec.ofInt k.bits a ||| BitVec.ofInt k.bits b).toNat))
  | .xor => some (.int k (k.wrap (BitVec.ofInt k.bits a ^^^ BitVec.ofInt k.bits b).toNat))
  | .andNot => some (.int k (k.wrap (BitVec.ofInt k.bits a &&& ~~~BitVec.ofInt k.bits b).toNat))
  | .eql => some (.bool (a == b))
  | .neq => some (.bool (a != b))
  | .lss => some (.bool (a < b))
  | .leq => some (.bool (a ≤ b))
  | .gtr => some (.bool (a > b))
  | .geq => some (.bool (a ≥ b))
  | _ => none
def shiftOp (op : BinOp) (k : IntKind) (x y : Int) : Option AV :=
  match decide (y < 0) with
  | true => none
  | false => match op with
    | .shl => some (.int k (k.wrap (x * 2 ^ min y.toNat k.bits)))
    | .shr => some (.int k (x.fdiv (2 ^ min y.toNat k.bits)))
    | _ => none
def strOp (op : BinOp) (x y : ByteArray) : Option AV :=
  match op with
  | .add => match Nat.ble (x.size + y.size) room with
    | true => some (.str (x ++ y))
    | false => none
  | .eql => some (.bool (x.toList == y.toList))
  | .neq => some (.bool (!(x.toList == y.toList)))
  | .lss => some (.bool (Op.bytesLess x.toList y.toList))
  | .leq => some (.bool (Op.bytesLess x.toList y.toList || x.toList == y.toList))
  | .gtr => some (.bool (!(Op.bytesLess x.toList y.toList || x.toList == y.toList)))
  | .geq => some (.bool (!Op.bytesLess x.toList y.toList))
  | _ => none
def isShift : BinOp → Bool
  | .shl | .shr => true
  | _ => false
def binOpT (P : Program) (op : BinOp) (t : TypeId) (x y : AV) : Option AV :=
  match x, y with
  | .int k a, .int k' b => match isShift op with
    | true => shiftOp op k a b
    | false => match decide (k = k') with
      | true => intOp op k a b
      | false => none
  | .str a, .str b => strOp op a b
  | x, y => match op with
    | .eql => match eqT P Op.maxDepth t x y with
      | none => none
      | some b => some (.bool b)
    | .neq => match eqT P Op.maxDepth t x y with
      | none => none
      | some b => some (.bool !b)
    | _ => none
def unOpT (op : UnOp) (x : AV) : Option AV :=
  match op, x with
  | .neg, .int k n => intOp .sub k 0 n
  | .xor, .int k n => intOp .xor k (match k.signed with | true => -1 | false => k.max) n
  | .not, .bool b => some (.bool !b)
  | _, _ => none
def convertT (P : Program) (src dst : TypeId) (x : AV) : Option AV :=
  match P.underlying src, P.underlying dst, x with
  | some _, some (.int k), .int _ n => some (.int k (k.wrap n))
  | some _, some .string, .str s => some (.str s)
  | _, _, _ => none
def plainKey (P : Program) (t : TypeId) (key : AV) : Bool :=
  match P.underlying t, key with
  | some (.int _), .int _ _ => true
  | some .string, .str _ => true
  | some .bool, .bool _ => true
  | _, _ => false
def findPlain (key : AV) : List (AV × AV) → Nat → Option (Option (Nat × AV))
  | [], _ => some none
  | (k, v) :: l, i => match sameKey key k with
    | none => none
    | some true => some (some (i, v))
    | some false => findPlain key l (i + 1)
def findSlow (P : Program) (t : TypeId) (key : AV) : List (AV × AV) → Nat → Option (Option (Nat × AV))
  | [], _ => some none
  | (k, v) :: l, i => match eqT P Op.maxDepth t key k with
    | none => none
    | some true => some (some (i, v))
    | some false => findSlow P t key l (i + 1)
def noZ : AV → Bool
  | .zstr _ => false
  | _ => true
def findKey (P : Program) (t : TypeId) (key : AV) (es : List (AV × AV)) : Option (Option (Nat × AV)) :=
  match noZ key with
  | false => none
  | true => match plainKey P t key with
    | true => findPlain key es 0
    | false => findSlow P t key es 0
def keyFields (P : Program) (chk : TypeId → AV → Bool) (cs : List AV) : List Field → Bool
  | [] => true
  | f :: l => match f.name == "_" with
    | true => keyFields P chk cs l
    | false => match partT P f.type cs f.offset with
      | none => false
      | some a => match chk f.type a with
        | true => keyFields P chk cs l
        | false => false
def keyOk (P : Program) : Nat → TypeId → AV → Bool
  | 0, _, _ => false
  | d + 1, t, x => match P.underlying t, x with
    | some .bool, _ => true
    | some (.int _), _ => true
    | some .string, _ => true
    | some (.struct fs), .agg cs => keyFields P (keyOk P d) cs fs.toList
    | _, _ => false
def mapObj (r : Nat) : M (List (AV × AV)) := do
  match ← rdN r with
  | .map es _ => pure es
  | .mapAny es => pure es
  | _ => fail
def short : List (AV × AV) → Bool
  | [] => true
  | [_] => true
  | _ => false
def mapFor (P : Program) (k : TypeId) (key x : AV) : M (List (AV × AV)) :=
  match x with
  | .map none => M.pure []
  | .map (some r) => (rdN r).bind fun o => match o with
    | .map es _ => M.pure es
    | .mapAny es => withB (or (plainKey P k key) (short es)) <| M.pure es
    | _ => fail
  | _ => fail
def okV (ok : Bool) (v : AV) (b : Bool) : AV :=
  match ok with
  | true => .tuple [v, .bool b]
  | false => v
def lookupT (P : Program) (t : TypeId) (x key : AV) (ok : Bool) : M AV :=
  match P.underlying t with
  | some (.map k e) => (mapFor P k key x).bind fun es => withB (keyOk P 10000 k key) <| withO (findKey P k key es) fun f => match f with
    | some q => M.pure (okV ok q.2 true)
    | none => withO (zeroT P e) fun z => M.pure (okV ok z false)
  | _ => fail
def sameAll : List AV → List AV → Bool
  | [], [] => true
  | x :: xs, y :: ys => match sameKey x y with
    | some true => sameAll xs ys
    | _ => false
  | _, _ => false
def sameBits : AV → AV → Bool
  | .agg xs, .agg ys => sameAll xs ys
  | x, y => match sameKey x y with
    | some true => true
    | _ => false
def putAt : List (AV × AV) → Nat → AV → AV → List (AV × AV)
  | [], _, _, _ => []
  | _ :: l, 0, k, v => (k, v) :: l
  | x :: l, i + 1, k, v => x :: putAt l i k v
def putIn (r : Nat) (key val : AV) (es : List (AV × AV)) (clock : Nat) (f : Option (Nat × AV)) : M Unit :=
  match f with
  | some q => withO es[q.1]? fun old => withB (sameBits old.1 key) <| wrN r (some (.map (putAt es q.1 key val) clock))
  | none => wrN r (some (.map (es ++ [(key, val)]) (clock + 1)))
def putInAny (r : Nat) (key val : AV) (es : List (AV × AV)) (f : Option (Nat × AV)) : M Unit :=
  match f with
  | some q => wrN r (some (.mapAny (putAt es q.1 key val)))
  | none => wrN r (some (.mapAny (es ++ [(key, val)])))
def mapPut (P : Program) (t : TypeId) (m key val : AV) : M Unit :=
  match P.underlying t, m with
  | some (.map k _), .map (some r) => (rdN r).bind fun o => match o with
    | .map es clock => withB (keyOk P 10000 k key) <| withO (findKey P k key es) fun f => putIn r key val es clock f
    | .mapAny es => withB (and (plainKey P k key) (keyOk P 10000 k key)) <| withO (findKey P k key es) fun f => putInAny r key val es f
    | _ => fail
  | _, _ => fail
def lenT (P : Program) (argTypes : Array TypeId) (x : AV) : M AV := do
  let t ← lift argTypes[0]?
  match P.underlying t, x with
  | some .string, .str s => pure (.int .i64 s.size)
  | some .string, .zstr n => pure (.int .i64 n)
  | some (.array n _), _ => pure (.int .i64 n)
  | some (.pointer a), _ => match P.underlying a with
    | some (.array n _) => pure (.int .i64 n)
    | _ => fail
  | some (.slice _), .slice _ n _ => pure (.int .i64 n)
  | some (.slice _), .rslice _ _ n => pure (.int .i64 n)
  | some (.map _ _), .map none => pure (.int .i64 0)
  | some (.map _ _), .map (some r) => do
    let es ← mapObj r
    pure (.int .i64 es.length)
  | _, _ => fail
def min2 : AV → AV → Option AV
  | .int k x, .int _ y => some (.int k (match decide (y < x) with | true => y | false => x))
  | _, _ => none
def max2 : AV → AV → Option AV
  | .int k x, .int _ y => some (.int k (match decide (y > x) with | true => y | false => x))
  | _, _ => none
def foldAV (f : AV → AV → Option AV) : List AV → AV → Option AV
  | [], x => some x
  | y :: l, x => match f x y with
    | none => none
    | some z => foldAV f l z
def clearT (P : Program) (argTypes : Array TypeId) (x : AV) : M AV := do
  let t ← lift argTypes[0]?
  match P.underlying t, x with
  | some (.slice _), .slice none _ _ => pure aundef
  | some (.slice e), .slice (some (n, o)) len cap => do
    need (match cap with | .lost => false | _ => true)
    let z ← lift (zeroT P e)
    writeCells n o (repeatTo len z.cells)
    pure aundef
  | _, _ => fail
def builtinT (P : Program) (b : Builtin) (argTypes : Array TypeId) (args : List AV) : M AV :=
  match b, args with
  | .len, [x] => lenT P argTypes x
  | .append, [s, x] => appendTo P argTypes s x
  | .copy, [d, x] => copyTo P argTypes d x
  | .clear, [x] => clearT P argTypes x
  | .min, x :: l => lift (foldAV min2 l x)
  | .max, x :: l => lift (foldAV max2 l x)
  | _, _ => fail
inductive Tgt where
  | fn (f : FuncId)
  | round (l : Nat)
  | row (n o k : Nat)
def callV (call : Tgt → List AV → M AV) (f : AV) (args : List AV) : M AV :=
  match f with
  | .func (.func g) first captured => call (.fn g) (first ++ args ++ captured)
  | .yield l => call (.round l) args
  | _ => fail
def methodT (P : Program) (t : TypeId) (name : String) : Option FuncId :=
  match P.info? t with
  | none => none
  | some i => match i.methods.toList.find? (·.name == name) with
    | none => none
    | some m => match m.path.isEmpty, m.func with
      | true, some (f, ptr) => match P.underlying t, ptr with
        | some (.pointer _), true => some f
        | some (.pointer _), false => none
        | some _, false => some f
        | _, _ => none
      | _, _ => none
abbrev Caller := Tgt → List AV → M AV
abbrev OpM := Caller → Tr AV → M AV
inductive Box (α : Type) where
  | mk (a : α)
def kMove (x : Operand) : OpM := fun _ t => lift (opd t x)
def kPick (c a b : Operand) : OpM := fun _ t =>
  withO (opd t c) fun c => withO (boolOf c) fun c => withO (opd t a) fun a => withO (opd t b) fun b =>
    match c with
    | true => M.pure a
    | false => M.pure b
def kAlloc (P : Program) (e : TypeId) : OpM := fun _ _ =>
  withO (zeroT P e) fun z => (newRow z.cells).bind fun r => M.pure (.ptr (some (r, 0)))
def kBox (x : Operand) : OpM := fun _ t =>
  withO (opd t x) fun v => (newRow v.cells).bind fun r => M.pure (.ptr (some (r, 0)))
def kBuild (P : Program) (ty : TypeId) (parts : List (Nat × Operand)) : OpM := fun _ t =>
  withO (opdps (opd t) parts) fun ps => lift (build P ty ps)
def kBuildSlice (P : Program) (ty : TypeId) (len : Nat) (parts : List (Nat × Operand)) : OpM := fun _ t =>
  withO (opdps (opd t) parts) fun ps => buildSlice P ty len ps
def loadRow (P : Program) (ty : TypeId) (n o : Nat) : M AV :=
  withO (aggT P ty) fun ag => match ag with
    | true => fail
    | false => (rdN n).bind fun ob => match ob with
      | .rorow m t => withB (Nat.blt o m) <| lift (t.get o)
      | _ => fail
def loadFz (P : Program) (ty : TypeId) (call : Caller) (n o : Nat) : M AV :=
  withO (aggT P ty) fun ag => withO (sizeT P ty) fun k => (call (.row n o (match ag with | true => k | false => 1)) []).bind fun v => match v with
    | .agg l => match ag with
      | true => M.pure (.agg l)
      | false => lift (one l)
    | _ => fail
def loadAt (P : Program) (ty : TypeId) (call : Caller) (a : AV) : M AV :=
  match a with
  | .rptr n o => match Nat.ble top n with
    | true => loadFz P ty call n o
    | false => loadRow P ty n o
  | a => withO (addrOf a) fun a => loadVar P ty a.1 a.2
def kLoad (P : Program) (ty : TypeId) (a : Operand) : OpM := fun call t =>
  withO (opd t a) fun a => loadAt P ty call a
def kStore (P : Program) (ty : TypeId) (a x : Operand) : OpM := fun _ t =>
  withO (opd t a) fun a => withO (addrOf a) fun a => withO (opd t x) fun v => (storeVar P ty a.1 a.2 v).bind fun _ => M.pure aundef
def notNil : AV → Bool
  | .ptr none | .nilIface | .nilFunc => false
  | .func (.func _) _ _ => true
  | .func _ _ _ => false
  | _ => true
def kNilCheck (x : Operand) : OpM := fun _ t =>
  withO (opd t x) fun v => withB (notNil v) <| M.pure v
def guardOk (P : Program) (op : BinOp) (t : TypeId) (x y : Operand) (a b : AV) : Bool :=
  match op with
  | .eql | .neq => eqGuardOk P t x y a b
  | _ => true
def kBin (P : Program) (op : BinOp) (ty : TypeId) (x y : Operand) : OpM := fun _ t =>
  withO (opd t x) fun a => withO (opd t y) fun b => withB (guardOk P op ty x y a b) <| lift (binOpT P op ty a b)
def kUn (op : UnOp) (x : Operand) : OpM := fun _ t =>
  withO (opd t x) fun a => lift (unOpT op a)
def isByte (P : Program) (e : TypeId) : Bool :=
  match P.underlying e with
  | some (.int .u8) => true
  | _ => false
def toText (P : Program) (src dst : TypeId) (a : AV) (n : Nat) : M AV :=
  match P.underlying src, P.underlying dst with
  | some (.slice e), some .string =>
    withB (isByte P e) <| (firstCells 1 n a).bind fun l => withO (bytesOf l) fun b => M.pure (.str ⟨b.toArray⟩)
  | _, _ => fail
def zeroRow (o : AObj) (n : Nat) : Bool :=
  match o with
  | .cells m t z => match t with
    | .nil => match z with
      | [.int .u8 k] => Nat.ble n m && decide (k = 0)
      | _ => false
    | _ => false
  | _ => false
def zeroOf (a : AV) (n : Nat) : M AV :=
  match a with
  | .slice (some (r, o)) _ (.known _) => withB (Nat.beq o 0) <| (rdN r).bind fun o => withB (zeroRow o n) <| M.pure (.zstr n)
  | _ => fail
def toZero (P : Program) (src dst : TypeId) (a : AV) (n : Nat) : M AV :=
  match P.underlying src, P.underlying dst with
  | some (.slice e), some .string => withB (isByte P e) <| zeroOf a n
  | _, _ => fail
def kConvert (P : Program) (src dst : TypeId) (x : Operand) : OpM := fun _ t =>
  withO (opd t x) fun a => match a with
    | .slice p n c => match Nat.blt 1048576 n with
      | true => toZero P src dst (.slice p n c) n
      | false => toText P src dst (.slice p n c) n
    | a => lift (convertT P src dst a)
def ifaceOf (P : Program) (t : TypeId) (a : AV) : Option AV :=
  match P.underlying t with
  | none => none
  | some (.interface _) => none
  | some _ => some (.iface t a)
def kMakeInterface (P : Program) (ty : TypeId) (x : Operand) : OpM := fun _ t =>
  withO (opd t x) fun a => lift (ifaceOf P ty a)
def isFn : Fn → Bool
  | .func _ => true
  | _ => false
def kMakeFunc (fn : Fn) (first captured : List Operand) : OpM := fun _ t =>
  withB (isFn fn) <| withO (opds (opd t) first) fun f => withO (opds (opd t) captured) fun c => M.pure (.func fn f c)
def isMap (P : Program) (t : TypeId) : Bool :=
  match P.underlying t with
  | some (.map _ _) => true
  | _ => false
def kMakeMap (P : Program) (ty : TypeId) (r : Option Operand) : OpM := fun _ t =>
  (match r with
  | none => M.pure ()
  | some x => withO (opd t x) fun v => withO (intOf v) fun _ => need (isMap P ty)).bind fun _ =>
  (newN (.map [] 0)).bind fun n => M.pure (.map (some n))
def kMakeSlice (P : Program) (ty : TypeId) (l c : Operand) : OpM := fun _ t =>
  withO (opd t l) fun l => withO (opd t c) fun c => makeSlice P ty l c
def kSlice (P : Program) (ty : TypeId) (x : Operand) (lo hi mx : Option Operand) : OpM := fun _ t =>
  withO (opd t x) fun x => withO (opt (opd t) lo) fun lo => withO (opt (opd t) hi) fun hi => withO (opt (opd t) mx) fun mx => lift (sliceOf P ty x lo hi mx)
def kFieldAddr (P : Program) (s : TypeId) (x : Operand) (f : Nat) : OpM := fun _ t =>
  withO (opd t x) fun x => lift (fieldAddr P s x f)
def kField (P : Program) (s : TypeId) (x : Operand) (f : Nat) : OpM := fun _ t =>
  withO (opd t x) fun x => lift (fieldOf P s x f)
def kIndexAddr (P : Program) (ty : TypeId) (x i : Operand) : OpM := fun _ t =>
  withO (opd t x) fun x => withO (opd t i) fun i => lift (indexAddr P ty x i)
def kIndex (P : Program) (ty : TypeId) (x i : Operand) : OpM := fun _ t =>
  withO (opd t x) fun x => withO (opd t i) fun i => lift (indexOf P ty x i)
def kLookup (P : Program) (ty : TypeId) (x i : Operand) (ok : Bool) : OpM := fun _ t =>
  withO (opd t x) fun x => withO (opd t i) fun i => lookupT P ty x i ok
def kMapPut (P : Program) (ty : TypeId) (m k x : Operand) : OpM := fun _ t =>
  withO (opd t m) fun m => withO (opd t k) fun k => withO (opd t x) fun x => (mapPut P ty m k x).bind fun _ => M.pure aundef
def assertV (P : Program) (asserted : TypeId) (ok : Bool) (v : AV) : Option AV :=
  match v with
  | .iface t y => match Nat.beq t asserted with
    | true => match ok with
      | true => some (.tuple [y, .bool true])
      | false => some y
    | false => match ok with
      | true => match zeroT P asserted with
        | none => none
        | some z => some (.tuple [z, .bool false])
      | false => none
  | .nilIface => match ok with
    | true => match zeroT P asserted with
      | none => none
      | some z => some (.tuple [z, .bool false])
    | false => none
  | _ => none
def assertT (P : Program) (asserted : TypeId) (ok : Bool) (v : AV) : Option AV :=
  match P.underlying asserted with
  | none => none
  | some (.interface _) => none
  | some _ => assertV P asserted ok v
def kAssert (P : Program) (asserted : TypeId) (ok : Bool) (x : Operand) : OpM := fun _ t =>
  withO (opd t x) fun v => lift (assertT P asserted ok v)
def rangeOf (P : Program) (ty : TypeId) (x : AV) : M AV :=
  match P.underlying ty, x with
  | some .string, .str b => (newN (.striter b 0)).bind fun n => M.pure (.ptr (some (n, 0)))
  | some (.map _ _), .map (some m) => (rdN m).bind fun o => match o with
    | .map es _ => (wrN m (some .lent)).bind fun _ => (newN (.iter m es true es none)).bind fun n => M.pure (.ptr (some (n, 0)))
    | .mapAny es => (wrN m (some .lent)).bind fun _ => (newN (.iter m es false es none)).bind fun n => M.pure (.ptr (some (n, 0)))
    | _ => fail
  | _, _ => fail
def kRange (P : Program) (ty : TypeId) (x : Operand) : OpM := fun _ t =>
  withO (opd t x) fun x => rangeOf P ty x
def nextStr (x : AV) : M AV :=
  match x with
  | .ptr (some (n, 0)) => (rdN n).bind fun o => match o with
    | .striter b pos => match Nat.blt pos b.size with
      | true => (wrN n (some (.striter b (pos + (Utf8.decode b pos).2)))).bind fun _ => M.pure (.tuple [.bool true, .int .i64 pos, .int .i32 (Utf8.decode b pos).1])
      | false => M.pure (.tuple [.bool false])
    | _ => fail
  | _ => fail
def kNextStr (x : Operand) : OpM := fun _ t => withO (opd t x) fun x => nextStr x
def entryOf (x : AV) : M AV :=
  match x with
  | .ptr (some (n, 0)) => (rdN n).bind fun o => match o with
    | .iter _ _ _ _ (some (k, v)) => M.pure (.tuple [k, v])
    | _ => fail
  | _ => fail
def kEntry (x : Operand) : OpM := fun _ t => withO (opd t x) fun x => entryOf x
def partOf (x : AV) (i : Nat) : Option AV :=
  match x with
  | .tuple l => l[i]?
  | _ => none
def kExtract (x : Operand) (i : Nat) : OpM := fun _ t => withO (opd t x) fun x => lift (partOf x i)
def kBuiltin (P : Program) (b : Builtin) (argTypes : Array TypeId) (args : List Operand) : OpM := fun _ t =>
  withO (opds (opd t) args) fun args => builtinT P b argTypes args
def kCall (f : Operand) (args : List Operand) : OpM := fun call t =>
  withO (opds (opd t) args) fun args => withO (opd t f) fun f => callV call f args
def kInvoke (P : Program) (recv : Operand) (name : String) (args : List Operand) : OpM := fun call t =>
  withO (opds (opd t) args) fun args => withO (opd t recv) fun r => match r with
    | .iface ty v => withO (methodT P ty name) fun f => call (.fn f) (v :: args)
    | _ => fail
def kFail : OpM := fun _ _ => fail
def opB (P : Program) (op : Op) : Box OpM :=
  match op with
  | .move x => .mk (kMove x)
  | .assign x => .mk (kMove x)
  | .pick c a b => .mk (kPick c a b)
  | .alloc e => .mk (kAlloc P e)
  | .box _ x => .mk (kBox x)
  | .build t parts => .mk (kBuild P t parts.toList)
  | .buildSlice t len parts => .mk (kBuildSlice P t len parts.toList)
  | .load t a => .mk (kLoad P t a)
  | .store t a x => .mk (kStore P t a x)
  | .nilCheck x => .mk (kNilCheck x)
  | .binOp op t x y _ => .mk (kBin P op t x y)
  | .unOp op _ x => .mk (kUn op x)
  | .convert src dst x => .mk (kConvert P src dst x)
  | .makeInterface t x => .mk (kMakeInterface P t x)
  | .makeFunc fn first captured => .mk (kMakeFunc fn first.toList captured.toList)
  | .makeMap t r => .mk (kMakeMap P t r)
  | .makeSlice t l c => .mk (kMakeSlice P t l c)
  | .slice t x lo hi mx => .mk (kSlice P t x lo hi mx)
  | .fieldAddr s x f => .mk (kFieldAddr P s x f)
  | .field s x f => .mk (kField P s x f)
  | .indexAddr t x i => .mk (kIndexAddr P t x i)
  | .index t x i => .mk (kIndex P t x i)
  | .lookup t x i ok => .mk (kLookup P t x i ok)
  | .mapUpdate t m k x => .mk (kMapPut P t m k x)
  | .insert t m k x => .mk (kMapPut P t m k x)
  | .typeAssert x _ asserted ok => .mk (kAssert P asserted ok x)
  | .range t x => .mk (kRange P t x)
  | .entry x => .mk (kEntry x)
  | .next x true => .mk (kNextStr x)
  | .extract x i => .mk (kExtract x i)
  | .call ⟨.builtin b, args, argTypes⟩ => .mk (kBuiltin P b argTypes args.toList)
  | .call ⟨.value f, args, _⟩ => .mk (kCall f args.toList)
  | .call ⟨.invoke recv name, args, _⟩ => .mk (kInvoke P recv name args.toList)
  | _ => .mk kFail
def Box.val {α : Type} (b : Box α) : α := @Box.rec α (fun _ => α) (fun a => a) b
def aop (P : Program) (call : Caller) (t : Tr AV) (op : Op) : M AV := (opB P op).val call t
end
end Go.Rn
