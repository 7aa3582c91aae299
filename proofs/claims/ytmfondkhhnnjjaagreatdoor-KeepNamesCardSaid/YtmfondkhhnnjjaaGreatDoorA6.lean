/- The evaluator: what an operation, a piece of code, a call does over abstract values and the abstract heap. -/
import Derived.Test.YtmfondkhhnnjjaaGreatDoorA4

namespace Go.Abs
noncomputable section

/-! ## Values of the model's text -/

def packB (l : List UInt8) : Nat := l.foldl (fun x b => x * 256 + b.toNat) 0

/-- A byte in front of a row is one row with it. -/
def consB (v : AV) (l : List AV) : List AV :=
  match v with
  | .int .u8 n =>
    if n < 256 then
      match l with
      | .run m y :: r => .run (1 + m) (cat8 n m y) :: r
      | .int .u8 k :: r => if k < 256 then .run 2 (n * 256 + k) :: r else v :: l
      | _ => v :: l
    else v :: l
  | _ => v :: l

def ofCell (v : Value) : Option AV :=
  match v with
  | .bool b => some (.bool b)
  | .int k n => if toInt k (ofInt k n) = n then some (.int k (ofInt k n)) else none
  | .string s => some (.str s.size (packB s.data.toList))
  | .pointer none => some .nilp
  | .slice none 0 0 => some .nils
  | .map none => some .nilm
  | .nilFunc => some .nilf
  | .nilIface => some .nili
  | .func (.func f) fs cs => if fs.isEmpty && cs.isEmpty then some (.fn f [] []) else none
  | _ => none

def ofCells : List Value → Option (List AV)
  | [] => some []
  | v :: r => match ofCell v, ofCells r with | some a, some l => some (consB a l) | _, _ => none

def ofValue (v : Value) : Option AV :=
  match v with
  | .agg cs => match ofCells cs.toList with | some l => some (.agg l) | none => none
  | .tuple vs => if vs.isEmpty then some (.tup []) else none
  | v => ofCell v

/-! ## A frame's temporaries -/

structure Env where
  n : Nat
  m : DMap AV

def Env.get (e : Env) (t : Nat) : Option AV := match Nat.ble e.n t || Nat.ble (4 ^ 4) t with | true => none | false => some (e.m.get undefA t)
def Env.set (e : Env) (t : Nat) (v : AV) : Env := match Nat.ble e.n t with | true => e | false => ⟨e.n, e.m.put undefA t v⟩
def Env.put (e : Env) (t : Option Nat) (v : AV) : Env := match t with | some t => e.set t v | none => e

def Env.ev (ng : Nat) (e : Env) : Operand → Option AV
  | .tmp t => e.get t
  | .const v => ofValue v
  | .global g => if g < ng then some (.ptr g 0) else none
  | .func f => some (.fn f [] [])

/-! ## Operations that ask nothing of memory -/

def isNeg (k : IntKind) (n : Nat) : Bool := k.signed && Nat.ble (2 ^ (k.bits - 1)) n

def arith (op : BinOp) (k : IntKind) (n m : Nat) : Option AV :=
  match op with
  | .add => some (.int k ((n + m) % 2 ^ k.bits))
  | .sub => some (.int k ((n + (2 ^ k.bits - m)) % 2 ^ k.bits))
  | .mul => some (.int k ((n * m) % 2 ^ k.bits))
  | .quo => if m = 0 then none else if isNeg k n || isNeg k m then some (.int k (ofInt k ((toInt k n).tdiv (toInt k m)))) else some (.int k (n / m))
  | .rem => if m = 0 then none else if isNeg k n || isNeg k m then some (.int k (ofInt k ((toInt k n).tmod (toInt k m)))) else some (.int k (n % m))
  | .and => some (.int k (Nat.land n m))
  | .or => some (.int k (Nat.lor n m))
  | .xor => some (.int k (Nat.xor n m))
  | .andNot => some (.int k (Nat.land n (Nat.xor (2 ^ k.bits - 1) m)))
  | .eql => some (.bool (Nat.beq n m))
  | .neq => some (.bool (!Nat.beq n m))
  | .lss => some (.bool (Nat.blt (key k n) (key k m)))
  | .leq => some (.bool (Nat.ble (key k n) (key k m)))
  | .gtr => some (.bool (Nat.blt (key k m) (key k n)))
  | .geq => some (.bool (Nat.ble (key k m) (key k n)))
  | _ => none

def shiftA (op : BinOp) (k : IntKind) (n : Nat) (yk : IntKind) (m : Nat) : Option AV :=
  if isNeg yk m then none else
  match op with
  | .shl => some (.int k ((n <<< min m k.bits) % 2 ^ k.bits))
  | .shr => if isNeg k n then some (.int k (ofInt k ((toInt k n).fdiv (2 ^ min m k.bits)))) else some (.int k (n >>> min m k.bits))
  | _ => none

/-- The order of two texts. -/
def strLt (n x m y : Nat) : Bool :=
  if Nat.ble n m then Nat.ble (mod8 x n) (shr8 (mod8 y m) (m - n)) && (Nat.blt n m || Nat.blt (mod8 x n) (mod8 y m))
  else Nat.blt (shr8 (mod8 x n) (n - m)) (mod8 y m)

def strOp (op : BinOp) (n x m y : Nat) : Option AV :=
  match op with
  | .add => if Nat.blt (n + m) (2 ^ 62) then some (.str (n + m) (cat8 x m y)) else none
  | .eql => some (.bool (Nat.beq n m && Nat.beq (mod8 x n) (mod8 y m)))
  | .neq => some (.bool (!(Nat.beq n m && Nat.beq (mod8 x n) (mod8 y m))))
  | .lss => some (.bool (strLt n x m y))
  | .leq => some (.bool (!strLt m y n x))
  | .gtr => some (.bool (strLt m y n x))
  | .geq => some (.bool (!strLt n x m y))
  | _ => none

/-- A part of a row of cells, as a value of a type. -/
def partA (P : Program) (t : TypeId) (l : List AV) (off : Nat) : Option AV :=
  match P.underlying t with
  | some (.struct _) | some (.array _ _) =>
    match P.info? t with
    | some i => let r := takeC i.size (dropC off l); if clen r = i.size then some (.agg r) else none
    | none => none
  | some _ => nthC off l
  | none => none

def eqFieldsA (P : Program) (eq : TypeId → AV → AV → Option Bool) (xs ys : List AV) : List Field → Option Bool
  | [] => some true
  | f :: fs =>
    if f.name = "_" then eqFieldsA P eq xs ys fs else
    match partA P f.type xs f.offset, partA P f.type ys f.offset with
    | some a, some b => match eq f.type a b with
      | some true => eqFieldsA P eq xs ys fs
      | some false => some false
      | none => none
    | _, _ => none

def eqElemsA (P : Program) (eq : TypeId → AV → AV → Option Bool) (xs ys : List AV) (e : TypeId) (size : Nat) : Nat → Nat → Option Bool
  | 0, _ => some true
  | n + 1, i =>
    match partA P e xs (i * size), partA P e ys (i * size) with
    | some a, some b => match eq e a b with
      | some true => eqElemsA P eq xs ys e size n (i + 1)
      | some false => some false
      | none => none
    | _, _ => none

def equalA (P : Program) : Nat → TypeId → AV → AV → Option Bool
  | 0, _, _, _ => none
  | d + 1, t, x, y =>
    match P.underlying t with
    | some .bool => match x, y with | .bool a, .bool b => some (a == b) | _, _ => none
    | some (.int _) => match x, y with | .int k a, .int k' b => if k = k' then some (Nat.beq a b) else none | _, _ => none
    | some .string => match x, y with | .str n a, .str m b => some (Nat.beq n m && Nat.beq (mod8 a n) (mod8 b m)) | _, _ => none
    | some (.pointer _) => match x, y with
      | .nilp, .nilp => some true
      | .nilp, .ptr .. | .ptr .., .nilp => some false
      | _, _ => none
    | some (.slice _) => match x, y with
      | .nils, .nils => some true
      | .nils, .slc .. | .slc .., .nils | .nils, .slc0 .. | .slc0 .., .nils => some false
      | _, _ => none
    | some (.map _ _) => match x, y with
      | .nilm, .nilm => some true
      | .nilm, .map _ | .map _, .nilm => some false
      | _, _ => none
    | some (.func _ _ _) => match x, y with
      | .nilf, .nilf => some true
      | .nilf, .fn .. | .fn .., .nilf => some false
      | _, _ => none
    | some (.interface _) => match x, y with
      | .nili, .nili => some true
      | .nili, .ifc .. | .ifc .., .nili => some false
      | .ifc t v, .ifc u w =>
        if t = u then
          match P.info? t with
          | some i => if i.comparable then equalA P d t v w else none
          | none => none
        else some false
      | _, _ => none
    | some (.struct fs) => match x, y with
      | .agg xs, .agg ys => if P.stoodInHeld t then none else eqFieldsA P (equalA P d) xs ys fs.toList
      | _, _ => none
    | some (.array n e) => match x, y with
      | .agg xs, .agg ys =>
        match P.info? e with
        | some i => eqElemsA P (equalA P d) xs ys e i.size n 0
        | none => none
      | _, _ => none
    | _ => none
def sizeA (P : Program) (t : TypeId) : Option Nat := match P.info? t with | some i => some i.size | none => none

def isConst : Operand → Bool
  | .const _ => true
  | _ => false

/-- Rows of bytes, all at once. -/
def oneRun : AV → Option (Nat × Nat)
  | .agg [.run n x] => some (n, x)
  | _ => none

def eqlA (P : Program) (t : TypeId) (x y : Operand) (a b : AV) : Option Bool :=
  match a, b with
  | .nili, .nili => if isConst x || isConst y then equalA P 10000 t a b else none
  | .agg _, .agg _ =>
    if P.eqGuardType P.depth t then none else
    match oneRun a, oneRun b with
    | some (n, p), some (m, q) =>
      match P.underlying t with
      | some (.array k e) =>
        match P.underlying e, sizeA P e with
        | some (.int _), some 1 => if n = k ∧ m = k then some (Nat.beq (mod8 p n) (mod8 q n)) else none
        | _, _ => none
      | _ => none
    | _, _ => equalA P 10000 t a b
  | _, _ => equalA P 10000 t a b

def binA (P : Program) (op : BinOp) (t : TypeId) (x y : Operand) (a b : AV) : Option AV :=
  match a, b with
  | .int k n, .int k' m =>
    match op with
    | .shl | .shr => shiftA op k n k' m
    | _ => if k = k' then arith op k n m else none
  | .str n x, .str m y => strOp op n x m y
  | .stamp .., _ | _, .stamp .. => none
  | a, b =>
    match op with
    | .eql => match eqlA P t x y a b with | some r => some (.bool r) | none => none
    | .neq => match eqlA P t x y a b with | some r => some (.bool (!r)) | none => none
    | _ => none

def unA (op : UnOp) (a : AV) : Option AV :=
  match op, a with
  | .neg, .int k n => some (.int k ((2 ^ k.bits - n) % 2 ^ k.bits))
  | .xor, .int k n => some (.int k (Nat.xor (2 ^ k.bits - 1) n))
  | .not, .bool b => some (.bool (!b))
  | _, _ => none

/-- A number of another kind. -/
def castA (k : IntKind) (n : Nat) (d : IntKind) : Nat := if isNeg k n then ofInt d (toInt k n) else n % 2 ^ d.bits

def convA (P : Program) (src dst : TypeId) (a : AV) : Option AV :=
  match P.underlying src, P.underlying dst, a with
  | some _, some (.int d), .int k n => some (.int d (castA k n d))
  | some _, some .string, .str n x => some (.str n x)
  | _, _, _ => none

/-- A value's cells. -/
def cellsOfA (v : AV) : Option (List AV) := match v with | .agg l => some l | .tup _ | .run .. => none | v => some [v]

def packHd : List AV → Bool
  | .run .. :: _ => true
  | _ => false
/-- A value's cells, as they are laid into a row: a byte is packed where packed bytes stand first. -/
def cellsB (l : List AV) (v : AV) : Option (List AV) :=
  match v with
  | .int .u8 n => if packHd l && Nat.blt n 256 then some [.run 1 n] else some [.int .u8 n]
  | v => cellsOfA v

/-- Parts laid into a row of cells. -/
def fillA (place : Nat → Option (Nat × Nat)) (cells : List AV) : List (Nat × AV) → Option (List AV)
  | [] => some cells
  | (i, v) :: r =>
    match place i with
    | none => none
    | some (off, size) =>
      match cellsB cells v with
      | none => none
      | some vs => if clen vs = size ∧ off + size ≤ clen cells then fillA place (putC off size vs cells) r else none

def evParts (ev : Operand → Option AV) : List (Nat × Operand) → Option (List (Nat × AV))
  | [] => some []
  | (i, x) :: r => match ev x, evParts ev r with | some v, some l => some ((i, v) :: l) | _, _ => none

def evList (ev : Operand → Option AV) : List Operand → Option (List AV)
  | [] => some []
  | x :: r => match ev x, evList ev r with | some v, some l => some (v :: l) | _, _ => none

/-- A type's zero value. -/
def zeroA (P : Program) (t : TypeId) : Option AV := match P.info? t with | some i => (match i.zero with | some v => ofValue v | none => none) | none => none

def fieldPlaces (P : Program) : List Field → Option (List (Nat × Nat))
  | [] => some []
  | f :: r => match sizeA P f.type, fieldPlaces P r with | some s, some l => some ((f.offset, s) :: l) | _, _ => none

def buildA (P : Program) (t : TypeId) (parts : List (Nat × AV)) : Option AV :=
  match zeroA P t with
  | some (.agg z) =>
    match P.underlying t with
    | some (.struct fs) =>
      match fieldPlaces P fs.toList with
      | some l => match fillA (fun i => l[i]?) z parts with | some r => some (.agg r) | none => none
      | none => none
    | some (.array _ e) =>
      match sizeA P e with
      | some s => match fillA (fun i => some (i * s, s)) z parts with | some r => some (.agg r) | none => none
      | none => none
    | _ => none
  | _ => none

def natOf (v : AV) : Option Nat := match v with | .int k n => if isNeg k n then none else some n | _ => none

/-- A slice of a row of so many elements: its begin, its end, how far it may go. -/
def bounds (len cap : Nat) (lo hi mx : Option AV) : Option (Nat × Nat × Nat) :=
  match (match mx with | some v => natOf v | none => some cap) with
  | none => none
  | some m =>
    match (match hi with | some v => natOf v | none => some len) with
    | none => none
    | some h =>
      match (match lo with | some v => natOf v | none => some 0) with
      | none => none
      | some l => if l ≤ h ∧ h ≤ m ∧ m ≤ cap ∧ (mx.isSome → hi.isSome) then some (l, h, m) else none

def sliceA (P : Program) (t : TypeId) (x : AV) (lo hi mx : Option AV) : Option AV :=
  match P.underlying t, x with
  | some .string, .str n v =>
    match mx with
    | some _ => none
    | none =>
      match bounds n n lo hi none with
      | some (l, h, _) => some (.str (h - l) (mod8 (shr8 v (n - h)) (h - l)))
      | none => none
  | some (.slice e), .slc b o n c s ex =>
    match bounds n c lo hi mx with
    | some (l, h, m) =>
      if sizeA P e = some s then
        if mx.isSome then some (.slc b (if m = l then o else o + l * s) (h - l) (m - l) s true)
        else if ex then some (.slc b (if m = l then o else o + l * s) (h - l) (m - l) s true)
        else if m = l then some (.slc0 b s)
        else some (.slc b (o + l * s) (h - l) (m - l) s false)
      else none
    | none => none
  | some (.slice e), .slc0 b s =>
    match bounds 0 0 lo hi mx with
    | some _ => if sizeA P e = some s ∧ mx.isNone then some (.slc0 b s) else none
    | none => none
  | some (.slice e), .nils =>
    match bounds 0 0 lo hi mx, sizeA P e with
    | some _, some _ => some .nils
    | _, _ => none
  | some (.array n e), .ptr b o =>
    match bounds n n lo hi mx, sizeA P e with
    | some (l, h, m), some s => some (.slc b (if m = l then o else o + l * s) (h - l) (m - l) s true)
    | _, _ => none
  | some (.pointer a), .ptr b o =>
    match P.underlying a with
    | some (.array n e) =>
      match bounds n n lo hi mx, sizeA P e with
      | some (l, h, m), some s => some (.slc b (if m = l then o else o + l * s) (h - l) (m - l) s true)
      | _, _ => none
    | _ => none
  | _, _ => none

def evOpt (ev : Operand → Option AV) (x : Option Operand) : Option (Option AV) :=
  match x with
  | none => some none
  | some x => match ev x with | some v => some (some v) | none => none

def fieldAddrA (P : Program) (s : TypeId) (x : AV) (f : Nat) : Option AV :=
  match P.underlying s, x with
  | some (.struct fs), .ptr b o =>
    match fs[f]? with
    | some f => match sizeA P f.type with
      | some (_ + 1) => some (.ptr b (o + f.offset))
      | _ => none
    | none => none
  | _, _ => none

def fieldA (P : Program) (t : TypeId) (x : AV) (f : Nat) : Option AV :=
  match P.underlying t, x with
  | some (.struct fs), .agg l =>
    match fs[f]? with
    | some f => partA P f.type l f.offset
    | none => none
  | _, _ => none

def indexAddrA (P : Program) (t : TypeId) (x i : AV) : Option AV :=
  match P.underlying t, x, natOf i with
  | some (.array n e), .ptr b o, some i =>
    if i < n then match sizeA P e with | some s => some (.ptr b (o + i * s)) | none => none else none
  | some (.slice e), .slc b o n _ _ _, some i =>
    if i < n then match sizeA P e with | some s => some (.ptr b (o + i * s)) | none => none else none
  | _, _, _ => none

def indexA (P : Program) (t : TypeId) (x i : AV) : Option AV :=
  match P.underlying t, x, natOf i with
  | some (.array n e), .agg l, some i =>
    if i < n then match sizeA P e with | some s => partA P e l (i * s) | none => none else none
  | some .string, .str n v, some i => if i < n then some (.int .u8 (shr8 v (n - 1 - i) % 256)) else none
  | _, _, _ => none

def noMissing (want : List (String × TypeId)) (got : Array Method) : Bool := want.all fun (name, sig) => got.any fun m => m.name == name && m.sig == sig

/-- A test that fails: what is handed out. -/
def failA (P : Program) (asserted : TypeId) (ok : Bool) : Option AV :=
  if ok then (match zeroA P asserted with | some z => some (.tup [z, .bool false]) | none => none) else none

def assertA (P : Program) (x : AV) (asserted : TypeId) (ok : Bool) : Option AV :=
  match P.underlying asserted with
  | some (.interface want) =>
    match x with
    | .nili => failA P asserted ok
    | .ifc t v =>
      match P.info? t with
      | some i => if noMissing want.toList i.methods then some (if ok then .tup [.ifc t v, .bool true] else .ifc t v) else failA P asserted ok
      | none => none
    | _ => none
  | some _ =>
    match x with
    | .nili => failA P asserted ok
    | .ifc t v => if t = asserted then some (if ok then .tup [v, .bool true] else v) else failA P asserted ok
    | _ => none
  | none => none

def lenA (P : Program) (t : TypeId) (x : AV) : Option Nat :=
  match P.underlying t, x with
  | some .string, .str n _ => some n
  | some (.array n _), _ => some n
  | some (.pointer a), _ => match P.underlying a with | some (.array n _) => some n | _ => none
  | some (.slice _), .slc _ _ n _ _ _ => some n
  | some (.slice _), .slc0 .. => some 0
  | some (.slice _), .nils => some 0
  | some (.map _ _), .nilm => some 0
  | _, _ => none

def capA (P : Program) (t : TypeId) (x : AV) : Option Nat :=
  match P.underlying t, x with
  | some (.slice _), .slc _ _ _ c _ true => some c
  | some (.slice _), .nils => some 0
  | _, _ => none

def minmax (isMax : Bool) : AV → List AV → Option AV
  | v, [] => some v
  | .int k n, .int k' m :: r => if k = k' then minmax isMax (if (if isMax then Nat.blt (key k n) (key k m) else Nat.blt (key k m) (key k n)) then .int k m else .int k n) r else none
  | _, _ => none

/-- A number as Go's int. -/
def intA (n : Nat) : Option AV := if Nat.blt n (2 ^ 62) then some (.int .i64 n) else none

def pureOp (P : Program) (ev : Operand → Option AV) (o : Oper) : Option AV :=
  match o.op with
  | .move x | .assign x => ev x
  | .pick c a b => match ev c with | some (.bool true) => ev a | some (.bool false) => ev b | _ => none
  | .build t ps => match evParts ev ps.toList with | some l => buildA P t l | none => none
  | .nilCheck x => match ev x with | some .nilp | some .nili | some .nilf | none => none | some v => some v
  | .binOp op t x y _ => match ev x, ev y with | some a, some b => binA P op t x y a b | _, _ => none
  | .unOp op _ x => match ev x with | some a => unA op a | none => none
  | .convert s d x => match ev x with | some a => convA P s d a | none => none
  | .sliceToArrayPointer t x =>
    match P.underlying t, ev x with
    | some (.array n _), some (.slc b o len _ _ _) => if n ≤ len then some (.ptr b o) else none
    | _, _ => none
  | .makeInterface t x => match P.underlying t, ev x with | some (.interface _), _ => none | some _, some v => some (.ifc t v) | _, _ => none
  | .makeFunc (.func f) fs cs => match evList ev fs.toList, evList ev cs.toList with | some a, some b => some (.fn f a b) | _, _ => none
  | .slice t x lo hi mx => match ev x, evOpt ev lo, evOpt ev hi, evOpt ev mx with | some a, some l, some h, some m => sliceA P t a l h m | _, _, _, _ => none
  | .fieldAddr s x f => match ev x with | some a => fieldAddrA P s a f | none => none
  | .field s x f => match ev x with | some a => fieldA P s a f | none => none
  | .indexAddr t x i => match ev x, ev i with | some a, some b => indexAddrA P t a b | _, _ => none
  | .index t x i => match ev x, ev i with | some a, some b => indexA P t a b | _, _ => none
  | .typeAssert x _ t ok => match ev x with | some a => assertA P a t ok | none => none
  | .extract x i => match ev x with | some (.tup l) => l[i]? | _ => none
  | .call { callee := .builtin b, args, argTypes } =>
    match evList ev args.toList, b with
    | some [a], .len => match argTypes[0]? with | some t => (match lenA P t a with | some n => intA n | none => none) | none => none
    | some [a], .cap => match argTypes[0]? with | some t => (match capA P t a with | some n => intA n | none => none) | none => none
    | some (a :: r), .max => minmax true a r
    | some (a :: r), .min => minmax false a r
    | _, _ => none
  | _ => none

/-! ## Operations that read memory -/

def loadA (P : Program) (H : AH) (t : TypeId) (b o : Nat) : Option AV :=
  match H.get b with
  | some (.blk k) =>
    match P.underlying t with
    | some (.struct _) | some (.array _ _) =>
      match sizeA P t with
      | some s => match k.rd o s with | some l => some (.agg l) | none => none
      | none => none
    | some _ => k.rd1 o
    | none => none
  | _ => none

/-- May a value be a key of a type? -/
def checkA (P : Program) : Nat → TypeId → AV → Bool
  | 0, _, _ => false
  | n + 1, t, v =>
    match P.underlying t with
    | some (.interface _) => false
    | some (.array len e) =>
      match v, sizeA P e with
      | .agg l, some s => (List.range len).all fun i => match partA P e l (i * s) with | some x => checkA P n e x | none => false
      | _, _ => false
    | some (.struct fs) =>
      match v with
      | .agg l => fs.toList.all fun f => if f.name = "_" then true else match partA P f.type l f.offset with | some x => checkA P n f.type x | none => false
      | _ => false
    | some _ => true
    | none => false

/-- No entry has a key. -/
def noneA (eq : AV → AV → Option Bool) (k : AV) : List (AV × AV × Nat) → Bool
  | [] => true
  | (k', _, _) :: r => match eq k k' with | some false => noneA eq k r | _ => false

/-- The one entry of a key. -/
def findA (eq : AV → AV → Option Bool) (k : AV) : List (AV × AV × Nat) → Option (Option (AV × Nat))
  | [] => some none
  | (k', v, s) :: r => match eq k k' with | some true => if noneA eq k r then some (some (v, s)) else none | some false => findA eq k r | none => none

/-- How keys of a type are held against one another. -/
def keyEqA (P : Program) (t : TypeId) (a b : AV) : Option Bool := equalA P 10000 t a b

def lookupA (P : Program) (H : AH) (t : TypeId) (m k : AV) (ok : Bool) : Option AV :=
  match P.underlying t with
  | some (.map kt et) =>
    if !checkA P 10000 kt k then none else
    match zeroA P et with
    | some z =>
      match (match m with | .nilm => some [] | .map b => (match H.get b with | some (.mp es _) => some es | _ => none) | _ => none) with
      | some es =>
        match findA (keyEqA P kt) k es with
        | some (some (v, _)) => some (if ok then .tup [v, .bool true] else v)
        | some none => some (if ok then .tup [z, .bool false] else z)
        | none => none
      | none => none
    | none => none
  | _ => none

/-- Bytes of a row of cells as one number; none: they are no bytes. -/
def bytesOf : List AV → Option (Nat × Nat)
  | [] => some (0, 0)
  | .run n x :: r => match bytesOf r with | some (m, y) => some (n + m, cat8 x m y) | none => none
  | .int .u8 b :: r => match bytesOf r with | some (m, y) => some (1 + m, cat8 b m y) | none => none
  | _ :: _ => none

def readOp (P : Program) (ev : Operand → Option AV) (o : Oper) (H : AH) : Option AV :=
  match o.op with
  | .load t x => match ev x with | some (.ptr b off) => loadA P H t b off | _ => none
  | .lookup t m k ok => match ev m, ev k with | some a, some b => lookupA P H t a b ok | _, _ => none
  | .convert s d x =>
    match P.underlying s, P.underlying d, ev x with
    | some (.slice e), some .string, some a =>
      match P.underlying e, a with
      | some (.int .u8), .nils => some (.str 0 0)
      | some (.int .u8), .slc0 .. => some (.str 0 0)
      | some (.int .u8), .slc b off n _ 1 _ =>
        match H.get b with
        | some (.blk k) => match k.rd off n with | some l => (match bytesOf l with | some (n, x) => some (.str n x) | none => none) | none => none
        | _ => none
      | _, _ => none
    | _, _, _ => none
  | .call { callee := .builtin .len, args, argTypes } =>
    match evList ev args.toList, argTypes[0]? with
    | some [.map b], some t => match P.underlying t, H.get b with | some (.map _ _), some (.mp es _) => intA es.length | _, _ => none
    | _, _ => none
  | _ => none

def isReadOp (P : Program) (o : Oper) : Bool :=
  match o.op with
  | .load .. | .lookup .. => true
  | .convert s d _ => match P.underlying s, P.underlying d with | some (.slice _), some .string => true | _, _ => false
  | .call { callee := .builtin .len, argTypes, .. } => match argTypes[0]? with | some t => (match P.underlying t with | some (.map _ _) => true | _ => false) | none => false
  | _ => false

/-! ## Operations that make a block -/

def repG (z : List AV) : Nat → List AV
  | 0 => []
  | n + 1 => z ++ repG z n

def repA (n : Nat) (z : List AV) : List AV :=
  match z with
  | [.int .u8 0] => [.run n 0]
  | z => repG z n

/-- What is made, by its block's number. -/
def allocOp (P : Program) (ev : Operand → Option AV) (o : Oper) : Option ((Nat → AV) × AObj) :=
  match o.op with
  | .alloc t => match zeroA P t with
    | some z => match cellsOfA z with | some l => some (fun b => .ptr b 0, .blk (.lst (clen l) l)) | none => none
    | none => none
  | .box _ x => match ev x with
    | some v => match cellsOfA v with | some l => some (fun b => .ptr b 0, .blk (.lst (clen l) l)) | none => none
    | none => none
  | .buildSlice t n ps =>
    match P.underlying t with
    | some (.slice e) =>
      match sizeA P e, zeroA P e, evParts ev ps.toList with
      | some s, some z, some l =>
        match cellsOfA z with
        | some z => if n * s ≤ 2 ^ 24 ∧ clen z = s then
            match fillA (fun i => some (i * s, s)) (repA n z) l with
            | some r => some (fun b => .slc b 0 n n s true, .blk (.lst (n * s) r))
            | none => none
          else none
        | none => none
      | _, _, _ => none
    | _ => none
  | .makeSlice t l c =>
    match P.underlying t, ev l, ev c with
    | some (.slice e), some l, some c =>
      match natOf l, natOf c, P.info? e, zeroA P e with
      | some l, some c, some i, some z =>
        match cellsOfA z with
        | some z =>
          if l ≤ c ∧ c ≤ 2 ^ 40 ∧ i.bytes * c ≤ 2 ^ 40 ∧ clen z = i.size ∧ 0 < i.size then
            if i.size ≤ 64 then some (fun b => .slc b 0 l c i.size true, .blk (.lst (c * i.size) (repA c z)))
            else if c ≤ 65536 then some (fun b => .slc b 0 l c i.size true, .blk (.rows i.size c z .empty)) else none
          else none
        | none => none
      | _, _, _, _ => none
    | _, _, _ => none
  | .makeMap t r =>
    match r with
    | none => some (fun b => .map b, .mp [] 0)
    | some x => match P.underlying t, ev x with | some (.map _ _), some (.int ..) => some (fun b => .map b, .mp [] 0) | _, _ => none
  | .convert s d x =>
    match P.underlying s, P.underlying d, ev x with
    | some .string, some (.slice e), some (.str n v) =>
      match P.underlying e with
      | some (.int .u8) => some (fun b => .slc b 0 n n 1 false, .blk (.lst n [.run n v]))
      | _ => none
    | _, _, _ => none
  | _ => none

def isAllocOp (P : Program) (o : Oper) : Bool :=
  match o.op with
  | .alloc _ | .box .. | .buildSlice .. | .makeSlice .. | .makeMap .. => true
  | .convert s d _ => match P.underlying s, P.underlying d with | some .string, some (.slice _) => true | _, _ => false
  | _ => false

/-! ## Operations that write -/

/-- The cells that a value is written as, into a block. -/
def cellsX (H : AH) (b : Nat) (v : AV) : Option (List AV) :=
  match H.get b with
  | some (.blk (.lst _ l)) => cellsB l v
  | some (.blk (.rows _ _ z _)) => cellsB z v
  | _ => none
def storeA (P : Program) (H : AH) (t : TypeId) (b o : Nat) (v : AV) : Option AH :=
  match H.get b, cellsX H b v, sizeA P t with
  | some (.blk k), some l, some s => if clen l = s then (match k.wr o s l with | some k' => some (H.set b (.blk k')) | none => none) else none
  | _, _, _ => none

mutual
def sameA : AV → AV → Bool
  | .bool a, .bool b => a == b
  | .int k n, .int k' m => k == k' && Nat.beq n m
  | .str n x, .str m y => Nat.beq n m && Nat.beq x y
  | .run n x, .run m y => Nat.beq n m && Nat.beq x y
  | .ptr b o, .ptr b' o' => Nat.beq b b' && Nat.beq o o'
  | .nilp, .nilp | .nils, .nils | .nilm, .nilm | .nilf, .nilf | .nili, .nili => true
  | .slc b o n c s e, .slc b' o' n' c' s' e' => Nat.beq b b' && Nat.beq o o' && Nat.beq n n' && Nat.beq c c' && Nat.beq s s' && e == e'
  | .slc0 b s, .slc0 b' s' => Nat.beq b b' && Nat.beq s s'
  | .map b, .map b' => Nat.beq b b'
  | .fn f a b, .fn g c d => Nat.beq f g && sameL a c && sameL b d
  | .ifc t v, .ifc u w => Nat.beq t u && sameA v w
  | .agg l, .agg m => sameL l m
  | .tup l, .tup m => sameL l m
  | .stamp b s, .stamp b' s' => Nat.beq b b' && Nat.beq s s'
  | _, _ => false
def sameL : List AV → List AV → Bool
  | [], [] => true
  | a :: l, b :: m => sameA a b && sameL l m
  | _, _ => false
end

/-- A key's entry turned; none where there is no such key. -/
def turnA (eq : AV → AV → Option Bool) (k v : AV) : List (AV × AV × Nat) → Option (Option (List (AV × AV × Nat)))
  | [] => some none
  | (k', v', s) :: r => match eq k k' with
    | some true => if noneA eq k r && sameA k k' then some (some ((k', v, s) :: r)) else none
    | some false => (match turnA eq k v r with | some (some l) => some (some ((k', v', s) :: l)) | x => x)
    | none => none

def delA (eq : AV → AV → Option Bool) (k : AV) : List (AV × AV × Nat) → Option (List (AV × AV × Nat))
  | [] => some []
  | (k', v', s) :: r => match eq k k' with
    | some true => if noneA eq k r then some r else none
    | some false => (match delA eq k r with | some l => some ((k', v', s) :: l) | none => none)
    | none => none

/-- The one entry of a key that is the same to the last bit. -/
def entA (eq : AV → AV → Option Bool) (k : AV) : List (AV × AV × Nat) → Option (Option (AV × Nat))
  | [] => some none
  | (k', v, s) :: r => match eq k k' with
    | some true => if noneA eq k r && sameA k k' then some (some (v, s)) else none
    | some false => entA eq k r
    | none => none

def putStamp (s : Nat) (v : AV) : List (AV × AV × Nat) → Option (List (AV × AV × Nat))
  | [] => none
  | (k', v', s') :: r => if s = s' then some ((k', v, s) :: r) else match putStamp s v r with | some l => some ((k', v', s') :: l) | none => none

def mapUpdA (P : Program) (H : AH) (t : TypeId) (m k v : AV) : Option AH :=
  match P.underlying t, m with
  | some (.map kt _), .map b =>
    if !checkA P 10000 kt k then none else
    match H.get b with
    | some (.mp es clock) =>
      match turnA (keyEqA P kt) k v es with
      | some (some es') => some (H.set b (.mp es' clock))
      | some none => some (H.set b (.mp (es ++ [(k, v, clock)]) (clock + 1)))
      | none => none
    | _ => none
  | _, _ => none

def mapEntryA (P : Program) (H : AH) (t : TypeId) (m k : AV) : Option (AV × AH) :=
  match P.underlying t, m with
  | some (.map kt et), .map b =>
    if !checkA P 10000 kt k then none else
    match H.get b, zeroA P et with
    | some (.mp es clock), some z =>
      match entA (keyEqA P kt) k es with
      | some (some (v, s)) => some (.tup [v, .stamp b s], H.set b (.mp es clock))
      | some none => some (.tup [z, .stamp b clock], H.set b (.mp (es ++ [(k, z, clock)]) (clock + 1)))
      | none => none
    | _, _ => none
  | _, _ => none

def entryStoreA (H : AH) (m stamp v : AV) : Option AH :=
  match m, stamp with
  | .map b, .stamp b' s =>
    if b = b' then
      match H.get b with
      | some (.mp es clock) => match putStamp s v es with | some es' => some (H.set b (.mp es' clock)) | none => none
      | _ => none
    else none
  | _, _ => none

/-- The cells of a slice or text that is appended or copied, its first n elements. -/
def srcCells (H : AH) (s n : Nat) (x : AV) : Option (List AV) :=
  match x with
  | .nils | .slc0 .. => if n = 0 then some [] else none
  | .slc b o m _ s' _ => if s = s' ∧ n ≤ m then (match H.get b with | some (.blk k) => k.rd o (n * s) | _ => none) else none
  | .str m v => if s = 1 ∧ n ≤ m then some [.run n (shr8 v (m - n))] else none
  | _ => none

def srcLen (x : AV) : Option Nat :=
  match x with
  | .nils | .slc0 .. => some 0
  | .slc _ _ n _ _ _ => some n
  | .str n _ => some n
  | _ => none

/-- What is appended: how many elements, their cells. (A number: so many zero values.) -/
def appendSrc (P : Program) (H : AH) (argTypes : Array TypeId) (size bytes : Nat) (zc : Option (List AV)) (x : AV) : Option (Nat × List AV) :=
  match argTypes with
  | ⟨[_, xt]⟩ =>
    match P.underlying xt with
    | some (.slice _) | some .string =>
      match srcLen x with
      | none => none
      | some m => match srcCells H size m x with | none => none | some new => some (m, new)
    | some (.int _) =>
      match x, zc with
      | .int k n, some z => if !isNeg k n && Nat.ble n (2 ^ 40) && Nat.ble (n * bytes) (2 ^ 40) && Nat.beq (clen z) size then some (n, repA n z) else none
      | _, _ => none
    | _ => none
  | _ => none

def appendA (P : Program) (H : AH) (argTypes : Array TypeId) (s x : AV) : Option (AV × AH) :=
  match argTypes[0]? with
  | none => none
  | some t =>
  match P.underlying t with
  | some (.slice e) =>
    match P.info? e with
    | none => none
    | some i =>
    match i.zero with
    | none => none
    | some z =>
    if !Nat.beq z.cells.size i.size then none else
    match appendSrc P H argTypes i.size i.bytes (match ofValue z with | some v => cellsOfA v | none => none) x with
    | none => none
    | some (m, new) =>
    match s with
    | .nils =>
      if m = 0 then some (.nils, H)
      else if m ≤ 2 ^ 40 ∧ m * i.bytes ≤ 2 ^ 40 then some (.slc H.next 0 m m i.size false, H.push (.blk (.lst (m * i.size) new))) else none
    | .slc0 b s' =>
      if m = 0 then some (.slc0 b s', H)
      else match H.get b with
        | some (.blk _) => if s' = i.size ∧ m ≤ 2 ^ 40 ∧ m * i.bytes ≤ 2 ^ 40 then some (.slc H.next 0 m m i.size false, (H.kill b).push (.blk (.lst (m * i.size) new))) else none
        | _ => none
    | .slc b o n c s' ex =>
      if s' = i.size then
        if m = 0 then some (.slc b o n c s' ex, H) else
        match H.get b with
        | some (.blk k) =>
          if n + m ≤ c then
            match k.wr (o + n * s') (m * s') new with
            | some k' => some (.slc b o (n + m) c s' ex, H.set b (.blk k'))
            | none => none
          else if n + m ≤ 2 ^ 40 ∧ (n + m) * i.bytes ≤ 2 ^ 40 then
            match k.rd o (n * s') with
            | none => none
            | some old =>
              if ex then some (.slc H.next 0 (n + m) (n + m) s' false, H.push (.blk (.lst ((n + m) * s') (catC old new))))
              else some (.slc H.next 0 (n + m) (n + m) s' false, (H.kill b).push (.blk (.lst ((n + m) * s') (catC old new))))
          else none
        | _ => none
      else none
    | _ => none
  | _ => none

def dstLen (x : AV) : Option Nat :=
  match x with
  | .nils | .slc0 .. => some 0
  | .slc _ _ n .. => some n
  | _ => none

def copyA (P : Program) (H : AH) (argTypes : Array TypeId) (d x : AV) : Option (AV × AH) :=
  match argTypes[0]? with
  | none => none
  | some t =>
  match P.underlying t with
  | some (.slice e) =>
    match sizeA P e with
    | none => none
    | some s =>
    match srcLen x, dstLen d with
    | some a, some b' =>
      let n := min a b'
      match srcCells H s n x with
      | none => none
      | some new =>
        if n = 0 then some (.int .i64 0, H) else
        match d with
        | .slc b o _ _ s' _ =>
          if s = s' then
            match H.get b with
            | some (.blk k) => match k.wr o (n * s) new, intA n with | some k', some r => some (r, H.set b (.blk k')) | _, _ => none
            | _ => none
          else none
        | _ => none
    | _, _ => none
  | _ => none

def clearA (P : Program) (H : AH) (argTypes : Array TypeId) (x : AV) : Option AH :=
  match argTypes[0]? with
  | none => none
  | some t =>
  match P.underlying t, x with
  | some (.slice _), .nils | some (.slice _), .slc0 .. => some H
  | some (.slice e), .slc b o n _ s _ =>
    if n = 0 then some H else
    match zeroA P e, sizeA P e, H.get b with
    | some z, some s', some (.blk k) =>
      match cellsOfA z with
      | some z => if s = s' ∧ clen z = s then (match k.wr o (n * s) (repA n z) with | some k' => some (H.set b (.blk k')) | none => none) else none
      | none => none
    | _, _, _ => none
  | some (.map _ _), .nilm => some H
  | some (.map _ _), .map b => match H.get b with | some (.mp _ clock) => some (H.set b (.mp [] clock)) | _ => none
  | _, _ => none

def deleteA (P : Program) (H : AH) (argTypes : Array TypeId) (m k : AV) : Option AH :=
  match argTypes[0]? with
  | none => none
  | some t =>
  match P.underlying t, m with
  | some (.map kt _), .nilm => if checkA P 10000 kt k then some H else none
  | some (.map kt _), .map b =>
    if !checkA P 10000 kt k then none else
    match H.get b with
    | some (.mp es clock) => match delA (keyEqA P kt) k es with | some es' => some (H.set b (.mp es' clock)) | none => none
    | _ => none
  | _, _ => none

abbrev CallA := FuncId → List AV → AH → Option (AV × AH)

/-- The function that an interface value's method is, and the receiver. -/
def methodA (P : Program) (H : AH) (t : TypeId) (v : AV) (name : String) : Option (FuncId × AV) :=
  match P.info? t with
  | none => none
  | some i =>
    match i.methods.find? (·.name == name) with
    | none => none
    | some m =>
      if m.path.isEmpty then
        match m.func, P.underlying t, v with
        | some (f, true), some (.pointer _), v => some (f, v)
        | some (f, false), some (.pointer e), .ptr b o => match loadA P H e b o with | some r => some (f, r) | none => none
        | some (_, false), some (.pointer _), _ => none
        | some (f, false), some _, v => some (f, v)
        | _, _, _ => none
      else none

def heavyOp (P : Program) (call : CallA) (ev : Operand → Option AV) (o : Oper) (H : AH) : Option (AV × AH) :=
  match o.op with
  | .store t x v => match ev x, ev v with | some (.ptr b off), some a => (match storeA P H t b off a with | some H' => some (undefA, H') | none => none) | _, _ => none
  | .mapUpdate t m k v | .insert t m k v => match ev m, ev k, ev v with | some a, some b, some c => (match mapUpdA P H t a b c with | some H' => some (undefA, H') | none => none) | _, _, _ => none
  | .mapEntry t m k => match ev m, ev k with | some a, some b => mapEntryA P H t a b | _, _ => none
  | .entryStore _ m s v => match ev m, ev s, ev v with | some a, some b, some c => (match entryStoreA H a b c with | some H' => some (undefA, H') | none => none) | _, _, _ => none
  | .call { callee := .builtin b, args, argTypes } =>
    match evList ev args.toList, b with
    | some [s, x], .append => appendA P H argTypes s x
    | some [d, x], .copy => copyA P H argTypes d x
    | some [x], .clear => match clearA P H argTypes x with | some H' => some (undefA, H') | none => none
    | some [m, k], .delete => match deleteA P H argTypes m k with | some H' => some (undefA, H') | none => none
    | _, _ => none
  | .call { callee := .value f, args, .. } =>
    match ev f, evList ev args.toList with
    | some (.fn g fs cs), some l => call g (fs ++ l ++ cs) H
    | _, _ => none
  | .call { callee := .invoke r name, args, .. } =>
    match ev r, evList ev args.toList with
    | some (.ifc t v), some l => match methodA P H t v name with | some (f, rv) => call f (rv :: l) H | none => none
    | _, _ => none
  | _ => none

def isHeavyOp (P : Program) (o : Oper) : Bool :=
  match o.op with
  | .store .. | .mapUpdate .. | .insert .. | .mapEntry .. | .entryStore .. => true
  | .call { callee := .builtin b, .. } => match b with | .append | .copy | .clear | .delete => true | _ => false
  | .call _ => true
  | _ => false

/-- An operation, whatever it is. -/
def anyOp (P : Program) (call : CallA) (ev : Operand → Option AV) (o : Oper) (H : AH) : Option (AV × AH) :=
  match isHeavyOp P o with
  | true => heavyOp P call ev o H
  | false =>
    match isAllocOp P o with
    | true => match allocOp P ev o with | some (f, obj) => some (f H.next, H.push obj) | none => none
    | false =>
      match isReadOp P o with
      | true => match readOp P ev o H with | some v => some (v, H) | none => none
      | false => match pureOp P ev o with | some v => some (v, H) | none => none

/-! ## Regions -/

/-- Is an operation carried out? (By what the operation that it hangs on has yielded.) -/
def wantedA (ops : Array Oper) (e : Env) (o : Oper) : Option Bool :=
  match o.guard with
  | none => some true
  | some (j, want) =>
    match ops[j]? with
    | some g => match g.dst with
      | some d => match e.get d with
        | some (.bool b) => some (b == want)
        | some (.tup _) => some false
        | _ => none
      | none => none
    | none => none

def runSeq (P : Program) (ng : Nat) (call : CallA) (ops : Array Oper) : List Oper → Env → AH → Option (Env × AH)
  | [], e, H => some (e, H)
  | o :: r, e, H =>
    match wantedA ops e o with
    | some true => match anyOp P call (e.ev ng) o H with | some (v, H') => runSeq P ng call ops r (e.put o.dst v) H' | none => none
    | some false => runSeq P ng call ops r (e.put o.dst undefA) H
    | none => none

/-- What a region makes: the operation's place, the block's number, the object. -/
abbrev Made := List (Nat × Nat × AObj)

/-- The first of the heavy operations (its rank) that an operation stands ahead of. -/
def firstDep (before : Array Nat) (i : Nat) : Nat → List Nat → Option Nat
  | _, [] => none
  | q, h :: r => if (before.getD h 0).testBit i then some q else firstDep before i (q + 1) r

/-- Does what was made wait yet, behind so many heavy operations? -/
def waitsAt (before : Array Nat) (hs : List Nat) (k i : Nat) : Bool :=
  match firstDep before i 0 hs with
  | some q => Nat.ble k q
  | none => true

def layIf (c : Nat → Bool) : Made → AH → AH
  | [], H => H
  | (i, b, o) :: r, H => layIf c r (if c i then H.set b o else H)

/-- A read that may float: its place, the temporaries that it saw, what it yielded. -/
abbrev Reads := List (Nat × Env × Oper × AV)

structure DrawState where
  e : Env
  H : AH
  made : Made
  nid : Nat
  k : Nat
  snaps : List AH
  reads : Reads

/-- One operation of a region that is drawn, in the listed order. -/
def drawStep (P : Program) (ng : Nat) (call : CallA) (ops : Array Oper) (before : Array Nat) (hs : List Nat) (i : Nat) (o : Oper) (s : DrawState) : Option DrawState :=
  match wantedA ops s.e o with
  | none => none
  | some false =>
    match isHeavyOp P o with
    | true => some { s with e := s.e.put o.dst undefA, k := s.k + 1, H := layIf (fun a => firstDep before a 0 hs == some s.k) s.made s.H, snaps := layIf (fun a => firstDep before a 0 hs == some s.k) s.made s.H :: s.snaps }
    | false => some { s with e := s.e.put o.dst undefA }
  | some true =>
    match isHeavyOp P o with
    | true =>
      match heavyOp P call (s.e.ev ng) o (layIf (fun a => firstDep before a 0 hs == some s.k) s.made s.H) with
      | some (v, H') => some { s with e := s.e.put o.dst v, H := H', k := s.k + 1, snaps := H' :: s.snaps }
      | none => none
    | false =>
      match isAllocOp P o with
      | true =>
        match allocOp P (s.e.ev ng) o with
        | some (f, obj) => some { s with e := s.e.put o.dst (f s.nid), made := (i, s.nid, obj) :: s.made, nid := s.nid + 1 }
        | none => none
      | false =>
        match isReadOp P o with
        | true => match readOp P (s.e.ev ng) o (layIf (fun a => (before.getD i 0).testBit a && waitsAt before hs s.k a) s.made s.H) with
          | some v => some { s with e := s.e.put o.dst v, reads := (i, s.e, o, v) :: s.reads }
          | none => none
        | false => match pureOp P (s.e.ev ng) o with
          | some v => some { s with e := s.e.put o.dst v }
          | none => none

def runDraw (P : Program) (ng : Nat) (call : CallA) (ops : Array Oper) (before : Array Nat) (hs : List Nat) : Nat → List Oper → DrawState → Option DrawState
  | _, [], s => some s
  | i, o :: r, s =>
    match drawStep P ng call ops before hs i o s with
    | some s' => runDraw P ng call ops before hs (i + 1) r s'
    | none => none

/-- The places of the operations that do more than read. -/
def heavies (P : Program) : Nat → List Oper → List Nat
  | _, [] => []
  | i, o :: r => if isHeavyOp P o then i :: heavies P (i + 1) r else heavies P (i + 1) r

/-- They stand in one order. -/
def ordered (before : Array Nat) : List Nat → Bool
  | [] => true
  | i :: r => r.all (fun j => (before.getD j 0).testBit i) && ordered before r

/-- A read yields the same in each of some heaps (the first of them behind k heavy operations). -/
def sameAll (P : Program) (ng : Nat) (before : Array Nat) (hs : List Nat) (made : Made) (i : Nat) (e : Env) (o : Oper) (v : AV) : Nat → List AH → Bool
  | _, [] => true
  | k, H :: r =>
    (match readOp P (e.ev ng) o (layIf (fun a => (before.getD i 0).testBit a && waitsAt before hs k a) made H) with
      | some u => sameA v u
      | none => false) && sameAll P ng before hs made i e o v (k + 1) r

/-- How many of the heavy operations an operation stands behind. -/
def behind (before : Array Nat) (i : Nat) : List Nat → Nat
  | [] => 0
  | h :: r => if (before.getD i 0).testBit h then behind before i r + 1 else 0

/-- A read that floats yields the same wherever it may stand. hs: the places of the heavy operations; snaps: the heaps ahead of, and behind each. -/
def stable (P : Program) (ng : Nat) (before : Array Nat) (hs : List Nat) (snaps : List AH) (made : Made) : Reads → Bool
  | [] => true
  | (i, e, o, v) :: r =>
    let lo := behind before i hs
    let hi := match firstDep before i 0 hs with | some q => q | none => hs.length
    sameAll P ng before hs made i e o v lo ((snaps.drop lo).take (hi + 1 - lo)) && stable P ng before hs snaps made r

def guardTmp (ops : Array Oper) (o : Oper) : List Tmp :=
  match o.guard with
  | some (g, _) => match ops[g]? with | some x => x.dst.toList | none => []
  | none => []

def namesOf (ops : Array Oper) (o : Oper) : List Tmp := o.dst.toList ++ (o.op.operands.toList.filterMap fun | .tmp t => some t | _ => none) ++ guardTmp ops o

/-- Who writes a temporary stands in one order with whoever else names it. -/
def tmpsOk (ops : Array Oper) (b : Array Nat) : Bool :=
  ops.toList.zipIdx.all fun (o, j) => (namesOf ops o).all fun t => ops.toList.zipIdx.all fun (o', i) => o'.dst != some t || i == j || (b.getD (max i j) 0).testBit (min i j)

/-- What an operation stands behind has a lower place. -/
def edgesOk (ops : Array Oper) : Bool := ops.toList.zipIdx.all fun (o, j) => o.after.toList.all fun e => !Region.binds .any e || Nat.blt e.on j

def regionDraw (P : Program) (ng : Nat) (call : CallA) (ops : Array Oper) (e : Env) (H : AH) : Option (Env × AH) :=
  let l := ops.toList
  let before := Region.before ops
  let hs := heavies P 0 l
  if tmpsOk ops before && ordered before hs && edgesOk ops then
    let k := (l.filter (isAllocOp P)).length
    let H0 : AH := ⟨H.m, H.next + k⟩
    match runDraw P ng call ops before hs 0 l ⟨e, H0, [], H.next, 0, [H0], []⟩ with
    | some s => if stable P ng before hs s.snaps.reverse s.made s.reads then some (s.e, layIf (fun a => waitsAt before hs hs.length a) s.made s.H) else none
    | none => none
  else none

/-! ## Code -/

inductive AX where
  | normal
  | exit (id : Nat)
  | goto (l : Nat)
  | ret

def loopA (f : Env → AH → Option (AX × Env × AH)) : Nat → Env → AH → Option (AX × Env × AH)
  | 0, _, _ => none
  | n + 1, e, H =>
    match f e H with
    | some (.normal, e', H') => loopA f n e' H'
    | r => r

/-- A scope: at a jump to one of its labels, what stands from there on. -/
def scopeA (run : Code → Env → AH → Option (AX × Env × AH)) (c : Code) : Nat → Option (AX × Env × AH) → Option (AX × Env × AH)
  | 0, _ => none
  | n + 1, some (.goto l, e, H) =>
    match findLabel c l with
    | some rest => scopeA run c n (run rest e H)
    | none => none
  | _ + 1, r => r

def codeA (P : Program) (ng : Nat) (call : CallA) (lf : Nat) : Nat → Code → Env → AH → Option (AX × Env × AH)
  | 0, _, _, _ => none
  | d + 1, c, e, H =>
    match c with
    | .skip | .label _ => some (.normal, e, H)
    | .region _ ops false => match runSeq P ng call ops ops.toList e H with | some (e', H') => some (.normal, e', H') | none => none
    | .region _ ops true => match regionDraw P ng call ops e H with | some (e', H') => some (.normal, e', H') | none => none
    | .seq a b =>
      match codeA P ng call lf d a e H with
      | some (.normal, e', H') => codeA P ng call lf d b e' H'
      | r => r
    | .cond c a b =>
      match e.ev ng c with
      | some (.bool true) => codeA P ng call lf d a e H
      | some (.bool false) => codeA P ng call lf d b e H
      | _ => none
    | .block id c =>
      match codeA P ng call lf d c e H with
      | some (.exit id', e', H') => some (if id' = id then .normal else .exit id', e', H')
      | r => r
    | .loop c => loopA (codeA P ng call lf d c) lf e H
    | .exit id => some (.exit id, e, H)
    | .goto l => some (.goto l, e, H)
    | .ret => some (.ret, e, H)
    | .scope c => scopeA (codeA P ng call lf d) c lf (codeA P ng call lf d c e H)
    | .rangeFunc .. | .refuse _ => none

def argsGo : List AV → Nat → DMap AV → DMap AV
  | [], _, m => m
  | v :: r, i, m => argsGo r (i + 1) (m.put undefA i v)
def argsEnv (n : Nat) (args : List AV) : Env := ⟨n, argsGo args 0 (.empty undefA)⟩

def resultA (P : Program) (e : Env) (H : AH) : ResultVar → Option AV
  | .tmp t => e.get t
  | .cell a t => match e.get a with | some (.ptr b o) => loadA P H t b o | _ => none

def resultsA (P : Program) (e : Env) (H : AH) : List ResultVar → Option (List AV)
  | [] => some []
  | r :: l => match resultA P e H r, resultsA P e H l with | some v, some vs => some (v :: vs) | _, _ => none

/-- A function's own body. -/
def bodyA (P : Program) (ng : Nat) (call : CallA) (lf : Nat) (f : FuncId) (args : List AV) (H : AH) : Option (AV × AH) :=
  match P.funcs[f]? with
  | none => none
  | some fn =>
    match fn.body with
    | none => none
    | some c =>
      if !(Nat.ble args.length fn.ntmps) || fn.name == "runtime.NumGoroutine" then none else
      match codeA P ng call lf lf c (argsEnv fn.ntmps args) H with
      | some (.exit _, _, _) | some (.goto _, _, _) | none => none
      | some (_, e, H') =>
        match resultsA P e H' fn.results.toList with
        | some [v] => some (v, H')
        | some l => some (.tup l, H')
        | none => none

/-- A call, so deep: what is told of a function elsewhere comes first. -/
def callA (P : Program) (ng : Nat) (orc : FuncId → Option (List AV → AH → Option (AV × AH))) (lf : Nat) : Nat → CallA
  | 0, _, _, _ => none
  | n + 1, f, args, H =>
    match (match orc f with | some g => g args H | none => none) with
    | some r => some r
    | none => bodyA P ng (callA P ng orc lf n) lf f args H

end
end Go.Abs
