/- Texts of a proof: no condition. -/
import GoSem.Step
set_option autoImplicit true
set_option relaxedAutoImplicit true
set_option linter.all false
set_option linter.unusedVariables false
set_option linter.unusedSimpArgs false
/-! L1: a deterministic reading of the loaded program's code: an ideal heap, regions in the text's order, an append that
cannot be known to have room makes a block anew and does away with the old one. -/
namespace Go.L1

/-- A value that is not known. -/
abbrev poison : Value := .chan none
def isPoison : Value → Bool
  | .chan _ => true
  | _ => false
abbrev ud : Value := .tuple #[]
/-- A capacity that is not known. -/
def uc : Nat := 36893488147419103232

def Env := Nat → Value
def Env.set (T : Env) (i : Nat) (v : Value) : Env := fun j => bif Nat.beq j i then v else T j
def Env.nil : Env := fun _ => poison
def Env.ofList : List Nat → List Value → Env
  | [], _ => Env.nil
  | l :: L, vs => fun j => bif Nat.beq j l then vs.headD poison else Env.ofList L vs.tail j
def Env.vals (T : Env) : List Nat → List Value
  | [] => []
  | l :: L => T l :: T.vals L
def Env.args : Nat → List Value → Env
  | _, [] => Env.nil
  | i, v :: vs => fun j => bif Nat.beq j i then v else Env.args (i + 1) vs j
def Env.sets (T : Env) : List Nat → List Value → Env
  | i :: is, v :: vs => (T.set i v).sets is vs
  | _, _ => T

inductive IObj where
  | cells (vs : List Value) (ty : TypeId) (ro : Bool)
  | map (es : List (Value × Value))
  | loop (st : LoopState) (pend : Option Code) (fn : Nat) (T : Env) (ps : List Tmp) (asg body : Code)
  | dead

/-- numbered objects: a tree by the numbers' binary digits -/
inductive Hp where
  | e
  | n (v : Option IObj) (l r : Hp)
def Hp.get : Hp → Nat → Option IObj
  | .e, _ => none
  | .n v l r, i => bif Nat.beq i 0 then v else bif Nat.beq (i % 2) 1 then l.get (i / 2) else r.get (i / 2 - 1)
def Hp.setF : Nat → Hp → Nat → IObj → Hp
  | 0, t, _, _ => t
  | f + 1, .e, i, o => bif Nat.beq i 0 then .n (some o) .e .e else bif Nat.beq (i % 2) 1 then .n none (Hp.setF f .e (i / 2) o) .e else .n none .e (Hp.setF f .e (i / 2 - 1) o)
  | f + 1, .n v l r, i, o => bif Nat.beq i 0 then .n (some o) l r else bif Nat.beq (i % 2) 1 then .n v (Hp.setF f l (i / 2) o) r else .n v l (Hp.setF f r (i / 2 - 1) o)
structure H where
  n : Nat
  t : Hp
def H.get (h : H) : Nat → Option IObj := h.t.get
def H.set (h : H) (i : Nat) (o : IObj) : H := ⟨h.n, Hp.setF (i + 1) h.t i o⟩
def H.push (h : H) (o : IObj) : H := ⟨h.n + 1, Hp.setF (h.n + 1) h.t h.n o⟩
def H.empty : H := ⟨0, .e⟩
def H.kill (h : H) (i : Nat) : H := h.set i .dead

structure TyI where
  desc : TypeDesc      -- the underlying one
  size : Nat
  bytes : Nat
  zero : List Value
  eqok : Bool := false   -- an aggregate that may be compared
structure Pg where
  ty : Nat → Option TyI
  fn : Nat → Option Func
  live : Nat → Nat → List Nat
  spec : Nat → Option (List Value → H → Option (Value × H × List Nat))

def isAggD : TypeDesc → Bool
  | .struct _ | .array _ _ => true
  | _ => false

def eval (T : Env) : Operand → Value
  | .tmp t => T t
  | .const v => v
  | .global _ => poison
  | .func f => .func (.func f) #[] #[]

/-! ### Memory -/
abbrev Cont := Nat → Option IObj
def cellsAt (C : Cont) (b off n : Nat) : Option (List Value) :=
  match C b with
  | some (.cells vs _ _) => if off + n ≤ vs.length then some ((vs.drop off).take n) else none
  | _ => none
def putAt (vs : List Value) (off : Nat) (new : List Value) : List Value := vs.take off ++ new ++ vs.drop (off + new.length)
def writeAt (h : H) (b off : Nat) (new : List Value) : Option H :=
  match h.get b with
  | some (.cells vs ty false) => if off + new.length ≤ vs.length then some (h.set b (.cells (putAt vs off new) ty false)) else none
  | _ => none
def rep (z : List Value) : Nat → List Value
  | 0 => []
  | n + 1 => z ++ rep z n
def isCell : Value → Bool
  | .agg _ | .tuple _ | .chan _ | .float .. | .complex .. => false
  | _ => true
/-- the cells of a value that may be laid in memory -/
def cellsOf : Value → Option (List Value)
  | .agg cs => if cs.toList.all isCell then some cs.toList else none
  | v => if isCell v then some [v] else none
def fillAt (place : Nat → Option (Nat × Nat)) (cells : List Value) : List (Nat × Value) → Option (List Value)
  | [] => some cells
  | (i, v) :: rest =>
    match place i with
    | none => none
    | some (off, size) =>
      match cellsOf v with
      | none => none
      | some cs => if cs.length = size ∧ off + size ≤ cells.length then fillAt place (putAt cells off cs) rest else none

/-! ### Values -/
def bytesLess : List UInt8 → List UInt8 → Bool
  | _, [] => false
  | [], _ :: _ => true
  | a :: x, b :: y => a < b || (a == b && bytesLess x y)
def bl (s : ByteArray) : List UInt8 := s.data.toList

def binInt (op : BinOp) (k : IntKind) (a b : Int) : Option Value :=
  match op with
  | .add => some (.int k (k.wrap (a + b)))
  | .sub => some (.int k (k.wrap (a - b)))
  | .mul => some (.int k (k.wrap (a * b)))
  | .quo => if b = 0 then none else some (.int k (k.wrap (a.tdiv b)))
  | .rem => if b = 0 then none else some (.int k (a.tmod b))
  | .and => some (.int k (k.wrap (BitVec.ofInt k.bits a &&& BitVec.ofInt k.bits b).toNat))
  | .or => some (.int k (k.wrap (BitVec.ofInt k.bits a ||| BitVec.ofInt k.bits b).toNat))
  | .xor => some (.int k (k.wrap (BitVec.ofInt k.bits a ^^^ BitVec.ofInt k.bits b).toNat))
  | .andNot => some (.int k (k.wrap (BitVec.ofInt k.bits a &&& ~~~BitVec.ofInt k.bits b).toNat))
  | .eql => some (.bool (a == b))
  | .neq => some (.bool (a != b))
  | .lss => some (.bool (decide (a < b)))
  | .leq => some (.bool (decide (a ≤ b)))
  | .gtr => some (.bool (decide (a > b)))
  | .geq => some (.bool (decide (a ≥ b)))
  | _ => none

def binStr (op : BinOp) (x y : ByteArray) : Option Value :=
  match op with
  | .add => if x.size + y.size < 140737488355328 then some (.string (x ++ y)) else none
  | .eql => some (.bool (bl x == bl y))
  | .neq => some (.bool !(bl x == bl y))
  | .lss => some (.bool (bytesLess (bl x) (bl y)))
  | .leq => some (.bool (bytesLess (bl x) (bl y) || bl x == bl y))
  | .gtr => some (.bool (!(bytesLess (bl x) (bl y) || bl x == bl y)))
  | .geq => some (.bool (!bytesLess (bl x) (bl y)))
  | _ => none

/-- == on values without addresses; nil against whatever -/
def eqV : Value → Value → Option Bool
  | .bool a, .bool b => some (a == b)
  | .int j a, .int k b => if j = k then some (a == b) else none
  | .string a, .string b => some (bl a == bl b)
  | .pointer none, .pointer none => some true
  | .pointer (some _), .pointer none => some false
  | .pointer none, .pointer (some _) => some false
  | .slice none _ _, .slice b _ _ => some b.isNone
  | .slice (some _) _ _, .slice none _ _ => some false
  | .map none, .map b => some b.isNone
  | .map (some _), .map none => some false
  | .nilFunc, .nilFunc => some true
  | .nilFunc, .func .. => some false
  | .func .., .nilFunc => some false
  | _, _ => none

def descEq : TypeDesc → Value → Bool   -- a value on which == is asked through 'equal', by its type
  | .bool, .bool _ => true
  | .pointer _, .pointer _ => true
  | .slice _, .slice .. => true
  | .map _ _, .map _ => true
  | .func .., .nilFunc | .func .., .func .. => true
  | .int _, .int .. => true
  | .string, .string _ => true
  | _, _ => false

def eqFields (ty : Nat → Option TyI) (xs ys : List Value) : List Field → Option Bool
  | [] => some true
  | f :: fs =>
    match ty f.type, xs[f.offset]?, ys[f.offset]? with
    | some i, some a, some b =>
      if f.name ≠ "_" ∧ descEq i.desc a = true ∧ descEq i.desc b = true then
        match eqV a b with
        | some true => eqFields ty xs ys fs
        | r => r
      else none
    | _, _, _ => none
def eqCells (d : TypeDesc) : List Value → List Value → Option Bool
  | [], [] => some true
  | a :: xs, b :: ys =>
    if descEq d a = true ∧ descEq d b = true then
      match eqV a b with
      | some true => eqCells d xs ys
      | r => r
    else none
  | _, _ => none

def eqT (ty : Nat → Option TyI) (i : TyI) (x y : Value) : Option Bool :=
  match i.desc, x, y with
  | .struct fs, .agg xs, .agg ys => if i.eqok then eqFields ty xs.toList ys.toList fs.toList else none
  | .array n e, .agg xs, .agg ys =>
    match ty e with
    | some ei => if i.eqok = true ∧ ei.size = 1 ∧ isAggD ei.desc = false ∧ xs.toList.length = n ∧ ys.toList.length = n then eqCells ei.desc xs.toList ys.toList else none
    | none => none
  | d, x, y => if descEq d x = true ∧ descEq d y = true then eqV x y else none

/-- the types of the two operands' values speak; 'i': the operands' type -/
def binV (ty : Nat → Option TyI) (i : TyI) (op : BinOp) (x y : Value) : Option Value :=
  match x, y with
  | .int k a, .int k' b =>
    match op with
    | .shl => if b < 0 then none else some (.int k (k.wrap (a * 2 ^ (min b.toNat k.bits))))
    | .shr => if b < 0 then none else some (.int k (a.fdiv (2 ^ (min b.toNat k.bits))))
    | _ => if k = k' then binInt op k a b else none
  | .string a, .string b => binStr op a b
  | x, y =>
    match op with
    | .eql => (eqT ty i x y).map .bool
    | .neq => (eqT ty i x y).map fun b => .bool !b
    | _ => none

def unV (op : UnOp) (x : Value) : Option Value :=
  match op, x with
  | .neg, .int k n => some (.int k (k.wrap (0 - n)))
  | .not, .bool b => some (.bool !b)
  | .xor, .int k n => some (.int k (k.wrap (BitVec.ofInt k.bits (if k.signed then -1 else k.max) ^^^ BitVec.ofInt k.bits n).toNat))
  | _, _ => none

def idxN (v : Value) : Option Nat := match v with | .int _ n => if 0 ≤ n then some n.toNat else none | _ => none
def optIdx (d : Nat) : Option Value → Option Nat
  | none => some d
  | some v => idxN v

/-- The cells of a slice, up to n elements. -/
def sliceCells (C : Cont) (es : Nat) (a : Option Addr) (n : Nat) : Option (List Value) :=
  if n = 0 then some [] else
  match a with
  | some ⟨b, o, none⟩ => cellsAt C b o (n * es)
  | _ => none

/-- How many elements there surely is room for, from o on. -/
def roomOf (C : Cont) (e es b o n c : Nat) : Option Nat :=
  if c = uc then
    match C b with
    | some (.cells vs ty _) => if ty = e ∧ es ≠ 0 then some (max n ((vs.length - o) / es)) else none
    | _ => none
  else some c

def rLoad (C : Cont) (i : TyI) (v : Value) : Option Value :=
  match v with
  | .pointer (some ⟨b, o, none⟩) =>
    if isAggD i.desc then (cellsAt C b o i.size).map fun cs => .agg cs.toArray
    else match cellsAt C b o 1 with
      | some [x] => some x
      | _ => none
  | _ => none

def rSliceStr (s : ByteArray) (lo hi : Option Value) (mx : Option Value) : Option Value :=
  match mx, optIdx s.size hi, optIdx 0 lo with
  | none, some hi, some lo => if lo ≤ hi ∧ hi ≤ s.size then some (.string (s.extract lo hi)) else none
  | _, _, _ => none

def rSlice (C : Cont) (e es : Nat) (a : Option Addr) (n c : Nat) (lo hi mx : Option Value) : Option Value :=
  match optIdx n hi, optIdx 0 lo with
  | some hi', some lo' =>
    match a with
    | none =>
      match optIdx 0 mx with
      | some 0 => if lo' = 0 ∧ hi' = 0 ∧ n = 0 ∧ c = 0 ∧ (mx.isNone || hi.isSome) then some (.slice none 0 0) else none
      | _ => none
    | some ⟨b, o, none⟩ =>
      match roomOf C e es b o n c with
      | none => none
      | some room =>
        match mx with
        | none => if lo' ≤ hi' ∧ hi' ≤ room then some (.slice (some ⟨b, o + lo' * es, none⟩) (hi' - lo') (if c = uc then uc else c - lo')) else none
        | some v =>
          match idxN v, hi with
          | some m, some _ => if lo' ≤ hi' ∧ hi' ≤ m ∧ m ≤ room ∧ m < uc then some (.slice (some ⟨b, o + lo' * es, none⟩) (hi' - lo') (m - lo')) else none
          | _, _ => none
    | _ => none
  | _, _ => none

def rFld (off : Nat) : Value → Option Value
  | .pointer (some ⟨b, o, none⟩) => some (.pointer (some ⟨b, o + off, none⟩))
  | _ => none
def rIdxS (es : Nat) (x ix : Value) : Option Value :=
  match x, idxN ix with
  | .slice (some ⟨b, o, none⟩) n _, some j => if j < n then some (.pointer (some ⟨b, o + j * es, none⟩)) else none
  | _, _ => none
def rIdxA (n es : Nat) (x ix : Value) : Option Value :=
  match x, idxN ix with
  | .pointer (some ⟨b, o, none⟩), some j => if j < n then some (.pointer (some ⟨b, o + j * es, none⟩)) else none
  | _, _ => none
def rPart (i : TyI) (off : Nat) : Value → Option Value
  | .agg cs => if isAggD i.desc then (if off + i.size ≤ cs.toList.length then some (.agg ((cs.toList.drop off).take i.size).toArray) else none) else cs.toList[off]?
  | _ => none
def rIdxStr (s : ByteArray) (ix : Value) : Option Value :=
  match idxN ix with
  | some j => (s.data.toList[j]?).map fun b => .int .u8 b.toNat
  | none => none
def toBytes : List Value → Option (List UInt8)
  | [] => some []
  | .int .u8 n :: r => (toBytes r).map (UInt8.ofNat n.toNat :: ·)
  | _ => none
def rConv (C : Cont) (ty : Nat → Option TyI) (si di : TyI) (x : Value) : Option Value :=
  match di.desc, x with
  | .int k, .int _ n => some (.int k (k.wrap n))
  | .string, .string s => some (.string s)
  | .string, .slice a n _ =>
    match si.desc with
    | .slice e => match ty e with
      | some ei => match ei.desc with
        | .int .u8 => match a with
          | none => some (.string .empty)
          | some a => ((sliceCells C 1 (some a) n).bind toBytes).map fun bs => .string ⟨bs.toArray⟩
        | _ => none
      | none => none
    | _ => none
  | _, _ => none
def lookK (k : ByteArray) : List (Value × Value) → Option (Option Value)
  | [] => some none
  | (.string k', v) :: es => if bl k == bl k' then some (some v) else lookK k es
  | _ => none
def putK (k : ByteArray) (x : Value) : List (Value × Value) → Option (List (Value × Value))
  | [] => some [(.string k, x)]
  | (.string k', v) :: es => if bl k == bl k' then some ((.string k, x) :: es) else (putK k x es).map ((.string k', v) :: ·)
  | _ => none
def lookRes (zero : Value) (ok : Bool) : Option (Option Value) → Option Value
  | none => none
  | some (some v) => some (bif ok then .tuple #[v, .bool true] else v)
  | some none => some (bif ok then .tuple #[zero, .bool false] else zero)
def rLook (C : Cont) (zero : Value) (x k : Value) (ok : Bool) : Option Value :=
  match k with
  | .string k =>
    match (match x with
      | .map none => some []
      | .map (some r) => match C r with
        | some (.map es) => some es
        | _ => none
      | _ => none) with
    | none => none
    | some es => lookRes zero ok (lookK k es)
  | _ => none
def zeroV (i : TyI) : Option Value := if isAggD i.desc then some (.agg i.zero.toArray) else match i.zero with | [v] => some v | _ => none
def minmax (mx : Bool) : Value → Value → Option Value
  | .int k x, .int k' y => if k = k' then some (.int k (if mx then (if y > x then y else x) else (if y < x then y else x))) else none
  | _, _ => none
def foldMM (mx : Bool) : Value → List Value → Option Value
  | x, [] => match x with | .int .. => some x | _ => none
  | x, y :: r => (minmax mx x y).bind fun z => foldMM mx z r
def rNil : Value → Option Value
  | .pointer (some a) => some (.pointer (some a))
  | .func (.func f) a b => some (.func (.func f) a b)
  | .func (.yield f) a b => some (.func (.yield f) a b)
  | _ => none
def rExtract (j : Nat) : Value → Option Value
  | .tuple vs => vs.toList[j]?
  | _ => none
def rPick : Value → Value → Value → Option Value
  | .bool t, a, b => some (bif t then a else b)
  | _, _, _ => none
def rLen (C : Cont) : TypeDesc → Value → Option Value
  | .string, .string s => some (.int .i64 s.size)
  | .slice _, .slice _ n _ => some (.int .i64 n)
  | .map _ _, .map none => some (.int .i64 0)
  | .map _ _, .map (some r) => match C r with
    | some (.map es) => some (.int .i64 es.length)
    | _ => none
  | _, _ => none
def rCap : TypeDesc → Value → Option Value
  | .slice _, .slice _ _ c => if c = uc then none else some (.int .i64 c)
  | _, _ => none

/-! ### The operations -/
inductive Kd where
  | pure | alloc | heavy
  deriving DecidableEq
def kindOf : Op → Kd
  | .move _ | .assign _ | .pick .. | .build .. | .nilCheck _ | .binOp .. | .unOp .. | .makeFunc .. | .fieldAddr .. | .field .. | .indexAddr .. | .index .. | .extract ..
  | .load .. | .convert .. | .slice .. | .lookup .. => .pure
  | .call { callee := .builtin b, .. } => match b with | .len | .cap | .min | .max => .pure | _ => .heavy
  | .alloc _ | .box .. | .buildSlice .. | .makeMap .. | .makeSlice .. => .alloc
  | _ => .heavy

def fieldOf (i : TyI) (f : Nat) : Option Field := match i.desc with | .struct fs => fs.toList[f]? | _ => none
def placeOf (ty : Nat → Option TyI) (i : TyI) (j : Nat) : Option (Nat × Nat) :=
  match i.desc with
  | .struct fs => (fs.toList[j]?).bind fun f => (ty f.type).map fun fi => (f.offset, fi.size)
  | .array _ e => (ty e).map fun ei => (j * ei.size, ei.size)
  | _ => none

def builtinP (p : Pg) (C : Cont) (b : Builtin) (ts : List TypeId) (args : List Value) : Option Value :=
  match b, args with
  | .len, [x] => (ts[0]?.bind p.ty).bind fun i => rLen C i.desc x
  | .cap, [x] => (ts[0]?.bind p.ty).bind fun i => rCap i.desc x
  | .min, x :: r => foldMM false x r
  | .max, x :: r => foldMM true x r
  | _, _ => none

/-- operations that at most read -/
def pureV (p : Pg) (T : Env) (C : Cont) (o : Op) : Option Value :=
  match o with
  | .move x => some (eval T x)
  | .assign x => some (eval T x)
  | .pick c a b => rPick (eval T c) (eval T a) (eval T b)
  | .build t ps => (p.ty t).bind fun i => (fillAt (placeOf p.ty i) i.zero (ps.toList.map fun (j, x) => (j, eval T x))).bind fun cs => if isAggD i.desc then some (.agg cs.toArray) else none
  | .nilCheck x => rNil (eval T x)
  | .binOp op t x y _ => (p.ty t).bind fun i => binV p.ty i op (eval T x) (eval T y)
  | .unOp op _ x => unV op (eval T x)
  | .makeFunc (.func f) first captured =>
    if (first.map (eval T)).toList.all isCell && (captured.map (eval T)).toList.all isCell then some (.func (.func f) (first.map (eval T)) (captured.map (eval T))) else none
  | .fieldAddr s x f => (p.ty s).bind fun i => (fieldOf i f).bind fun fd => (p.ty fd.type).bind fun fi => if fi.size = 0 then none else rFld fd.offset (eval T x)
  | .field t x f => (p.ty t).bind fun i => (fieldOf i f).bind fun fd => (p.ty fd.type).bind fun fi => rPart fi fd.offset (eval T x)
  | .indexAddr t x ix => (p.ty t).bind fun i =>
    match i.desc with
    | .array n e => (p.ty e).bind fun ei => rIdxA n ei.size (eval T x) (eval T ix)
    | .slice e => (p.ty e).bind fun ei => rIdxS ei.size (eval T x) (eval T ix)
    | _ => none
  | .index t x ix => (p.ty t).bind fun i =>
    match i.desc with
    | .array n e => (p.ty e).bind fun ei => (idxN (eval T ix)).bind fun j => if j < n then rPart ei (j * ei.size) (eval T x) else none
    | .string => match eval T x with
      | .string s => rIdxStr s (eval T ix)
      | _ => none
    | _ => none
  | .extract t j => rExtract j (eval T t)
  | .load t a => (p.ty t).bind fun i => rLoad C i (eval T a)
  | .convert s d x => (p.ty s).bind fun si => (p.ty d).bind fun di => rConv C p.ty si di (eval T x)
  | .slice t x lo hi mx => (p.ty t).bind fun i =>
    match i.desc, eval T x with
    | .string, .string s => rSliceStr s (lo.map (eval T)) (hi.map (eval T)) (mx.map (eval T))
    | .slice e, .slice a n c => (p.ty e).bind fun ei => rSlice C e ei.size a n c (lo.map (eval T)) (hi.map (eval T)) (mx.map (eval T))
    | _, _ => none
  | .lookup t x k ok => (p.ty t).bind fun i =>
    match i.desc with
    | .map kt e => (p.ty kt).bind fun ki => match ki.desc with
      | .string => (p.ty e).bind fun ei => (zeroV ei).bind fun z => rLook C z (eval T x) (eval T k) ok
      | _ => none
    | _ => none
  | .call { callee := .builtin b, args, argTypes } => builtinP p C b argTypes.toList (args.toList.map (eval T))
  | _ => none

/-- which blocks such an operation reads -/
def readsOf (T : Env) : Op → List Nat
  | .load _ a => match eval T a with | .pointer (some a) => [a.block] | _ => []
  | .convert _ _ x => match eval T x with | .slice (some a) _ _ => [a.block] | _ => []
  | .slice _ x _ _ _ => match eval T x with | .slice (some a) _ _ => [a.block] | _ => []
  | .lookup _ x _ _ => match eval T x with | .map (some r) => [r] | _ => []
  | .call c => c.args.toList.flatMap fun a => match eval T a with | .map (some r) => [r] | _ => []
  | _ => []

/-- operations that make one object -/
def allocV (p : Pg) (T : Env) (n : Nat) (o : Op) : Option (Value × IObj) :=
  match o with
  | .alloc e => (p.ty e).bind fun i => some (.pointer (some ⟨n, 0, none⟩), .cells i.zero e false)
  | .box e x => (p.ty e).bind fun i =>
    (cellsOf (eval T x)).bind fun cs => if cs.length = i.size then some (.pointer (some ⟨n, 0, none⟩), .cells cs e false) else none
  | .buildSlice t len ps => (p.ty t).bind fun i =>
    match i.desc with
    | .slice e => (p.ty e).bind fun ei =>
      if len * (ei.size + 1) ≤ 65536 then
        (fillAt (fun j => some (j * ei.size, ei.size)) (rep ei.zero len) (ps.toList.map fun (j, x) => (j, eval T x))).bind fun cs =>
          some (.slice (some ⟨n, 0, none⟩) len len, .cells cs e false)
      else none
    | _ => none
  | .makeMap _ none => some (.map (some n), .map [])
  | .makeSlice t l c => (p.ty t).bind fun i =>
    match i.desc with
    | .slice e => (p.ty e).bind fun ei =>
      match eval T l, eval T c with
      | .int .i64 l, .int .i64 c =>
        if 0 ≤ l ∧ l ≤ c ∧ c * (ei.bytes + ei.size + 1) ≤ 1099511627776 then
          some (.slice (some ⟨n, 0, none⟩) l.toNat c.toNat, .cells (rep ei.zero c.toNat) e false)
        else none
      | _, _ => none
    | _ => none
  | _ => none

def lim : Nat := 1099511627776

/-- what is appended: how many, and their cells -/
def appNew (C : Cont) (ei : TyI) (i2 : Option TyI) (x : Value) : Option (Nat × List Value) :=
  match i2, x with
  | some ⟨.int _, _, _, _, _⟩, .int .i64 k => if 0 ≤ k ∧ k ≤ 1048576 then some (k.toNat, rep ei.zero k.toNat) else none
  | some ⟨.slice _, _, _, _, _⟩, .slice xa xn _ => (sliceCells C ei.size xa xn).map fun l => (xn, l)
  | _, _ => none

def rAppend (h : H) (e : Nat) (ei : TyI) (a : Option Addr) (n c m : Nat) (new : List Value) : Option (Value × H × List Nat) :=
  if (n + m) * (ei.bytes + ei.size + 1) ≤ lim then
    match a with
    | none =>
      if n = 0 ∧ c = 0 then
        if m = 0 then some (.slice none 0 0, h, [])
        else some (.slice (some ⟨h.n, 0, none⟩) m uc, h.push (.cells new e false), [])
      else none
    | some ⟨b, o, none⟩ =>
      if m = 0 then some (.slice (some ⟨b, o, none⟩) n c, h, []) else
      match h.get b with
      | some (.cells vs ty false) =>
        if c = uc then
          if ty = e ∧ ei.size ≠ 0 then
            if n + m ≤ (vs.length - o) / ei.size then
              (writeAt h b (o + n * ei.size) new).map fun h1 => (.slice (some ⟨b, o, none⟩) (n + m) uc, h1, [b])
            else
              (sliceCells h.get ei.size (some ⟨b, o, none⟩) n).map fun old =>
                (.slice (some ⟨h.n, 0, none⟩) (n + m) uc, (h.kill b).push (.cells (old ++ new) e false), [b])
          else none
        else if n + m ≤ c then
          (writeAt h b (o + n * ei.size) new).map fun h1 => (.slice (some ⟨b, o, none⟩) (n + m) c, h1, [b])
        else
          (sliceCells h.get ei.size (some ⟨b, o, none⟩) n).map fun old =>
            (.slice (some ⟨h.n, 0, none⟩) (n + m) uc, h.push (.cells (old ++ new) e false), [])
      | some (.cells _ _ true) =>
        if c = uc then none else if n + m ≤ c then none else
          (sliceCells h.get ei.size (some ⟨b, o, none⟩) n).map fun old =>
            (.slice (some ⟨h.n, 0, none⟩) (n + m) uc, h.push (.cells (old ++ new) e false), [])
      | _ => none
    | _ => none
  else none

def rCopy (h : H) (es : Nat) (d x : Value) : Option (Value × H × List Nat) :=
  match d, x with
  | .slice a n _, .slice xa xn _ =>
    if min xn n = 0 then some (.int .i64 0, h, []) else
    (sliceCells h.get es xa (min xn n)).bind fun new =>
      match a with
      | some ⟨b, o, none⟩ => (writeAt h b o new).map fun h1 => (.int .i64 (min xn n : Nat), h1, [b])
      | _ => none
  | _, _ => none

def rClear (h : H) (ei : TyI) (d : Value) : Option (Value × H × List Nat) :=
  match d with
  | .slice a n _ =>
    if n = 0 then some (ud, h, []) else
    match a with
    | some ⟨b, o, none⟩ => (writeAt h b o (rep ei.zero n)).map fun h1 => (ud, h1, [b])
    | _ => none
  | _ => none

def rStore (h : H) (size : Nat) (a x : Value) : Option (Value × H × List Nat) :=
  match a with
  | .pointer (some ⟨b, o, none⟩) =>
    (cellsOf x).bind fun cs => if cs.length = size then (writeAt h b o cs).map fun h1 => (ud, h1, [b]) else none
  | _ => none

def rMapUpd (h : H) (m k x : Value) : Option (Value × H × List Nat) :=
  match m, k with
  | .map (some r), .string k =>
    match h.get r with
    | some (.map es) => if isCell x then (putK k x es).map fun es1 => (ud, h.set r (.map es1), [r]) else none
    | _ => none
  | _, _ => none

inductive Tgt where
  | fn (f : Nat)
  | yield (l : Nat)
abbrev CallF := Tgt → List Value → H → Option (Value × H × List Nat)

def callV (call : CallF) (h : H) (f : Value) (args : List Value) : Option (Value × H × List Nat) :=
  match f with
  | .func (.func g) first cap => call (.fn g) (first.toList ++ args ++ cap.toList) h
  | .func (.yield l) first _ => if first.toList = [] then call (.yield l) args h else none
  | _ => none

def elemOf (p : Pg) (t : Option Nat) : Option (Nat × TyI) :=
  t.bind fun t => (p.ty t).bind fun i => match i.desc with
    | .slice e => (p.ty e).map fun ei => (e, ei)
    | _ => none

def builtinH (p : Pg) (h : H) (b : Builtin) (ts : List TypeId) (args : List Value) : Option (Value × H × List Nat) :=
  match b, args with
  | .append, [s, x] => (elemOf p ts[0]?).bind fun (e, ei) =>
    (appNew h.get ei (ts[1]?.bind p.ty) x).bind fun (m, new) =>
      match s with
      | .slice a n c => rAppend h e ei a n c m new
      | _ => none
  | .copy, [d, x] => (elemOf p ts[0]?).bind fun (_, ei) => rCopy h ei.size d x
  | .clear, [d] => (elemOf p ts[0]?).bind fun (_, ei) => rClear h ei d
  | _, _ => none

/-- operations that may write -/
def heavyV (p : Pg) (call : CallF) (T : Env) (h : H) (o : Op) : Option (Value × H × List Nat) :=
  match o with
  | .store t a x => (p.ty t).bind fun i => rStore h i.size (eval T a) (eval T x)
  | .mapUpdate t m k x => (p.ty t).bind fun i => match i.desc with
    | .map kt _ => (p.ty kt).bind fun ki => match ki.desc with
      | .string => rMapUpd h (eval T m) (eval T k) (eval T x)
      | _ => none
    | _ => none
  | .call c =>
    match c.callee with
    | .builtin b => builtinH p h b c.argTypes.toList (c.args.toList.map (eval T))
    | .value f => callV call h (eval T f) (c.args.toList.map (eval T))
    | .invoke .. => none
  | _ => none

def opV (p : Pg) (call : CallF) (T : Env) (h : H) (o : Op) : Option (Value × H × List Nat) :=
  match kindOf o with
  | .pure => (pureV p T h.get o).map fun v => (v, h, [])
  | .alloc => (allocV p T h.n o).map fun (v, ob) => (v, h.push ob, [])
  | .heavy => heavyV p call T h o

/-! ### Code -/
inductive Ex where
  | normal
  | exit (id : Nat)
  | ret
  deriving DecidableEq

structure Out where
  ex : Ex
  T : Env
  h : H
  lg : List Nat

def guardSlot (ops : List Oper) (j : Nat) : Option Nat := (ops[j]?).bind (·.dst)
def wantedV (ops : List Oper) (T : Env) (g : Option (Nat × Bool)) : Option Bool :=
  match g with
  | none => some true
  | some (j, want) =>
    match guardSlot ops j with
    | some d => match T d with
      | .bool b => some (b == want)
      | .chan _ | .nilIface => none
      | _ => some false
    | none => none

def putT (T : Env) (d : Option Nat) (v : Value) : Env :=
  match d with
  | some d => T.set d v
  | none => T

/-- a list of operations, in the text's order -/
def ops1 (p : Pg) (call : CallF) (all : List Oper) : List Oper → Env → H → List Nat → Option (Env × H × List Nat)
  | [], T, h, lg => some (T, h, lg)
  | o :: rest, T, h, lg =>
    match wantedV all T o.guard with
    | none => none
    | some false => ops1 p call all rest (putT T o.dst ud) h lg
    | some true =>
      match opV p call T h o.op with
      | none => none
      | some (v, h1, l1) => ops1 p call all rest (putT T o.dst v) h1 (l1 ++ lg)

/-! ### Regions that draw their order -/
def edgeMask (acc : List Nat) (s : Nat) (e : Edge) : Nat := if Region.binds .any e then s ||| 2 ^ e.on ||| acc.getD e.on 0 else s
def befores (acc : List Nat) : List Oper → List Nat     -- a mask a row, in order
  | [] => acc
  | o :: rest => befores (acc ++ [o.after.toList.foldl (edgeMask acc) 0]) rest
structure Mk where
  k : Kd
  reads : List Nat
  writes : List Nat
  lo : Nat      -- the heap's size ahead of it
  hi : Nat      -- and behind
def ops2 (p : Pg) (call : CallF) (all : List Oper) : List Oper → Env → H → List Mk → Option (Env × H × List Mk)
  | [], T, h, ms => some (T, h, ms)
  | o :: rest, T, h, ms =>
    match wantedV all T o.guard with
    | none => none
    | some false => ops2 p call all rest (putT T o.dst ud) h (ms ++ [⟨.pure, [], [], h.n, h.n⟩])
    | some true =>
      match opV p call T h o.op with
      | none => none
      | some (v, h1, l1) => ops2 p call all rest (putT T o.dst v) h1 (ms ++ [⟨kindOf o.op, readsOf T o.op, l1, h.n, h1.n⟩])
/-- may a, which writes, stand beside b? -/
def besides (a b : Mk) : Bool :=
  match b.k with
  | .alloc => a.writes.all fun x => decide (x < b.lo) || decide (b.hi ≤ x)
  | .pure => a.writes.all fun x => !b.reads.contains x
  | .heavy => false
def clashFree (bs : List Nat) (ms : List Mk) : Bool :=
  (List.range ms.length).all fun i => (List.range ms.length).all fun j =>
    match ms[i]?, ms[j]? with
    | some a, some b => a.writes.isEmpty || Nat.beq i j || (bs.getD i 0).testBit j || (bs.getD j 0).testBit i || besides a b
    | _, _ => true
def logOf (ms : List Mk) : List Nat := ms.flatMap (·.writes)

def region (p : Pg) (call : CallF) (ops : Array Oper) (draw : Bool) (T : Env) (h : H) : Option Out :=
  bif draw then
    match ops2 p call ops.toList ops.toList T h [] with
    | none => none
    | some (T, h, ms) => if (logOf ms).isEmpty || clashFree (befores [] ops.toList) ms then some ⟨.normal, T, h, logOf ms⟩ else none
  else
    match ops1 p call ops.toList ops.toList T h [] with
    | none => none
    | some (T, h, lg) => some ⟨.normal, T, h, lg⟩

structure LOut where
  ex : Ex
  vs : List Value
  h : H
  lg : List Nat

def loopN (body : List Value → H → Option LOut) : Nat → List Value → H → Option LOut
  | 0, _, _ => none
  | n + 1, vs, h =>
    match body vs h with
    | none => none
    | some o =>
      match o.ex with
      | .normal =>
        match loopN body n o.vs o.h with
        | none => none
        | some o2 => some { o2 with lg := o2.lg ++ o.lg }
      | _ => some o

def jumpEx : Option Code → Option Ex
  | none => some .normal
  | some .ret => some .ret
  | some (.exit id) => some (.exit id)
  | _ => none

abbrev LoopF := (List Value → H → Option LOut) → List Value → H → Option LOut

def Env.only (T : Env) (L : List Nat) : Env := Env.ofList L (T.vals L)
/-- behind a fork, or a block: what is looked at later -/
@[noinline] def mkOut (ex : Ex) (L : List Nat) (vs : List Value) (h : H) (lg : List Nat) : Out := ⟨ex, Env.ofList L vs, h, lg⟩
def mask (L : List Nat) (o : Out) : Out := mkOut o.ex L (o.T.vals L) o.h o.lg
def maskN (L : List Nat) (o : Out) : Out :=
  match o.ex with
  | .normal => mask L o
  | _ => o

/-- Code at a place of its function: places are counted 2k, 2k+1 below k. -/
def code (p : Pg) (call : CallF) (lp : LoopF) (fn : Nat) : Code → Nat → Env → H → Option Out
  | .skip, _, T, h => some ⟨.normal, T, h, []⟩
  | .region _ ops draw, _, T, h => region p call ops draw T h
  | .seq a b, k, T, h =>
    match code p call lp fn a (2 * k) T h with
    | none => none
    | some o =>
      match o.ex with
      | .normal =>
        match code p call lp fn b (2 * k + 1) o.T o.h with
        | none => none
        | some o2 => some { o2 with lg := o2.lg ++ o.lg }
      | _ => some o
  | .cond c a b, k, T, h =>
    match eval T c with
    | .bool t => (bif t then code p call lp fn a (2 * k) T h else code p call lp fn b (2 * k + 1) T h).map (maskN (p.live fn k))
    | _ => none
  | .block id b, k, T, h =>
    match code p call lp fn b (2 * k) T h with
    | none => none
    | some o =>
      match o.ex with
      | .exit id' => if id' = id then some (mask (p.live fn k) { o with ex := .normal }) else some o
      | .normal => some (mask (p.live fn k) o)
      | .ret => some o
  | .loop b, k, T, h =>
    match lp (fun vs h => match code p call lp fn b (2 * k) (Env.ofList (p.live fn k) vs) h with
      | none => none
      | some o => some ⟨o.ex, o.T.vals (p.live fn k), o.h, o.lg⟩) (T.vals (p.live fn k)) h with
    | none => none
    | some o => some ⟨o.ex, Env.ofList (p.live fn k) o.vs, o.h, o.lg⟩
  | .exit id, _, T, h => some ⟨.exit id, T, h, []⟩
  | .ret, _, T, h => some ⟨.ret, T, h, []⟩
  | .rangeFunc f ps asg body, _, T, h =>
    match eval T f with
    | .func (.func g) first cap =>
      match call (.fn g) (first.toList ++ [.func (.yield h.n) #[] #[]] ++ cap.toList) (h.push (.loop .ready none fn T ps.toList asg body)) with
      | none => none
      | some (_, h1, lg) =>
        match h1.get h.n with
        | some (.loop st pend _ _ _ _ _) =>
          if st = .busy then none else
          match jumpEx pend with
          | none => none
          | some ex => some ⟨ex, T, h1.set h.n .dead, h.n :: lg⟩
        | _ => none
    | _ => none
  | _, _, _, _ => none

def belowV (n : Nat) : Nat → Value → Bool
  | _, .bool _ | _, .int .. | _, .string _ | _, .pointer none | _, .map none | _, .nilFunc | _, .nilIface | _, .slice none _ _ => true
  | _, .pointer (some a) => decide (a.block < n)
  | _, .slice (some a) _ _ => decide (a.block < n)
  | _, .map (some r) => decide (r < n)
  | d + 1, .func (.func _) a b => a.toList.all (belowV n d) && b.toList.all (belowV n d)
  | d + 1, .iface _ v => belowV n d v
  | d + 1, .agg cs => cs.toList.all (belowV n d)
  | d + 1, .tuple cs => cs.toList.all (belowV n d)
  | _, _ => false

def resultsV (p : Pg) (T : Env) (h : H) : List ResultVar → Option (List Value)
  | [] => some []
  | .tmp t :: r => if isPoison (T t) then none else (resultsV p T h r).map (T t :: ·)
  | .cell a t :: r => ((p.ty t).bind fun i => rLoad h.get i (T a)).bind fun v => (resultsV p T h r).map (v :: ·)
def tupled : List Value → Value
  | [v] => v
  | vs => .tuple vs.toArray

/-- behind a call: what was written of what was there; where nothing was, and nothing new is handed back, the heap is the old one -/
def settle (h0 : H) (v : Value) (h1 : H) (lg : List Nat) : Value × H × List Nat :=
  let old := lg.filter (· < h0.n)
  if old.isEmpty && belowV h0.n 4 v then (v, h0, []) else (v, h1, old)

def cmpB (a b : List UInt8) : Int := if bytesLess a b then -1 else if a == b then 0 else 1

def ext (name : String) (args : List Value) (h : H) : Option (Value × H × List Nat) :=
  if name = "internal/bytealg.abigen_runtime_cmpstring" then
    match args with
    | [.string a, .string b] => some (.int .i64 (cmpB (bl a) (bl b)), h, [])
    | _ => none
  else none

def funcV (p : Pg) (call : CallF) (lp : LoopF) (f : Nat) (args : List Value) (h : H) : Option (Value × H × List Nat) :=
  match p.spec f with
  | some s => s args h
  | none =>
  match p.fn f with
  | none => none
  | some fn =>
    match fn.body with
    | none => ext fn.name args h
    | some c =>
      if args.length ≤ fn.ntmps then
      match code p call lp f c 3 (Env.args 0 args) h with
      | none => none
      | some o =>
        match o.ex with
        | .exit _ => none
        | _ =>
          match resultsV p o.T o.h fn.results.toList with
          | none => none
          | some vs => some (settle h (tupled vs) o.h o.lg)
      else none

def endEx : Ex → Bool × Option Code × LoopState
  | .normal => (true, none, .ready)
  | .ret => (false, some .ret, .done)
  | .exit id => (false, some (.exit id), .done)

def roundV (p : Pg) (call : CallF) (lp : LoopF) (l : Nat) (args : List Value) (h : H) : Option (Value × H × List Nat) :=
  match h.get l with
  | some (.loop .ready none f T ps asg body) =>
    if ps.length = args.length then
      match code p call lp f asg 4 (T.sets ps args) h with
      | none => none
      | some o =>
        if o.ex = .normal then
          match o.h.get l with
          | some (.loop .ready none f2 T2 ps2 asg2 body2) =>
            match code p call lp f body 5 o.T (o.h.set l (.loop .busy none f2 T2 ps2 asg2 body2)) with
            | none => none
            | some o2 =>
              match o2.h.get l with
              | some (.loop .busy none f3 T3 ps3 asg3 body3) =>
                some (.bool (endEx o2.ex).1, o2.h.set l (.loop (endEx o2.ex).2.2 (endEx o2.ex).2.1 f3 T3 ps3 asg3 body3), (l :: (o2.lg ++ o.lg)).filter (· < h.n))
              | _ => none
          | _ => none
        else none
    else none
  | _ => none

def icall (p : Pg) : Nat → CallF
  | 0, _, _, _ => none
  | n + 1, .fn f, args, h => funcV p (icall p n) (fun b => loopN b n) f args h
  | n + 1, .yield l, args, h => roundV p (icall p n) (fun b => loopN b n) l args h
end Go.L1
