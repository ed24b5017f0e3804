/- Texts of a proof: no condition. -/
import GoSem.Step
import Derived.CallsIn
import Derived.OrdersIn
import Derived.RangeFuncIn
import Derived.RangeFuncLeaves
import Derived.Laws.CopyRow
import Derived.Laws.Entries
import Derived.ChangeKeysEq
set_option autoImplicit true
set_option relaxedAutoImplicit true
set_option linter.all false
set_option linter.unusedVariables false
set_option linter.unusedSimpArgs false
/-! L1: a deterministic reading of the loaded program's code: an ideal heap,regions in the text's order,an append that
cannot be known to have room makes a block anew and does away with the old one. -/
namespace Go.L1

abbrev poison : Value := .chan none
def isPoison : Value → Bool
  | .chan _ => true
  | _ => false
abbrev ud : Value := .tuple #[]
def uc : Nat := 36893488147419103232

def Env := Nat → Value
def Env.set (T : Env) (i : Nat) (v : Value) : Env := fun j => bif Nat.beq j i then v else T j
def Env.nil : Env := fun _ => poison
def Env.ofList : List Nat → List Value → Env
  | [],_ => Env.nil
  | l :: L,vs => fun j => bif Nat.beq j l then vs.headD poison else Env.ofList L vs.tail j
def Env.vals (T : Env) : List Nat → List Value
  | [] => []
  | l :: L => T l :: T.vals L
def Env.args : Nat → List Value → Env
  | _,[] => Env.nil
  | i,v :: vs => fun j => bif Nat.beq j i then v else Env.args (i + 1) vs j
def Env.sets (T : Env) : List Nat → List Value → Env
  | i :: is,v :: vs => (T.set i v).sets is vs
  | _,_ => T

inductive IObj where
  | cells (vs : List Value) (ty : TypeId) (ro : Bool)
  | map (es : List (Value × Value))
  | loop (st : LoopState) (pend : Option Code) (fn : Nat) (T : Env) (ps : List Tmp) (asg body : Code)
  | dead

inductive Hp where
  | e
  | n (v : Option IObj) (l r : Hp)
def Hp.get : Hp → Nat → Option IObj
  | .e,_ => none
  | .n v l r,i => bif Nat.beq i 0 then v else bif Nat.beq (i % 2) 1 then l.get (i / 2) else r.get (i / 2 - 1)
def Hp.setF : Nat → Hp → Nat → IObj → Hp
  | 0,t,_,_ => t
  | f + 1,.e,i,o => bif Nat.beq i 0 then .n (some o) .e .e else bif Nat.beq (i % 2) 1 then .n none (Hp.setF f .e (i / 2) o) .e else .n none .e (Hp.setF f .e (i / 2 - 1) o)
  | f + 1,.n v l r,i,o => bif Nat.beq i 0 then .n (some o) l r else bif Nat.beq (i % 2) 1 then .n v (Hp.setF f l (i / 2) o) r else .n v l (Hp.setF f r (i / 2 - 1) o)
structure H where
  n : Nat
  t : Hp
def H.get (h : H) : Nat → Option IObj := h.t.get
def H.set (h : H) (i : Nat) (o : IObj) : H := ⟨h.n,Hp.setF (i + 1) h.t i o⟩
def H.push (h : H) (o : IObj) : H := ⟨h.n + 1,Hp.setF (h.n + 1) h.t h.n o⟩
def H.empty : H := ⟨0,.e⟩
def H.kill (h : H) (i : Nat) : H := h.set i .dead

structure TyI where
  desc : TypeDesc      -- the underlying one
  size : Nat
  bytes : Nat
  zero : List Value
  eqok : Bool := false   -- an aggregate that may be compared
structure Pg where
  ty : Nat → Option TyI
  fn : Nat → Option Func
  live : Nat → Nat → List Nat
  spec : Nat → Option (List Value → H → Option (Value × H × List Nat))

def isAggD : TypeDesc → Bool
  | .struct _ | .array _ _ => true
  | _ => false

def eval (T : Env) : Operand → Value
  | .tmp t => T t
  | .const v => v
  | .global _ => poison
  | .func f => .func (.func f) #[] #[]

abbrev Cont := Nat → Option IObj
def cellsAt (C : Cont) (b off n : Nat) : Option (List Value) :=
  match C b with
  | some (.cells vs _ _) => if off + n ≤ vs.length then some ((vs.drop off).take n) else none
  | _ => none
def putAt (vs : List Value) (off : Nat) (new : List Value) : List Value := vs.take off ++ new ++ vs.drop (off + new.length)
def writeAt (h : H) (b off : Nat) (new : List Value) : Option H :=
  match h.get b with
  | some (.cells vs ty false) => if off + new.length ≤ vs.length then some (h.set b (.cells (putAt vs off new) ty false)) else none
  | _ => none
def rep (z : List Value) : Nat → List Value
  | 0 => []
  | n + 1 => z ++ rep z n
def isCell : Value → Bool
  | .agg _ | .tuple _ | .chan _ | .float .. | .complex .. => false
  | _ => true
def cellsOf : Value → Option (List Value)
  | .agg cs => if cs.toList.all isCell then some cs.toList else none
  | v => if isCell v then some [v] else none
def fillAt (place : Nat → Option (Nat × Nat)) (cells : List Value) : List (Nat × Value) → Option (List Value)
  | [] => some cells
  | (i,v) :: rest =>
    match place i with
    | none => none
    | some (off,size) =>
      match cellsOf v with
      | none => none
      | some cs => if cs.length = size ∧ off + size ≤ cells.length then fillAt place (putAt cells off cs) rest else none

def bytesLess : List UInt8 → List UInt8 → Bool
  | _,[] => false
  | [],_ :: _ => true
  | a :: x,b :: y => a < b || (a == b && bytesLess x y)
def bl (s : ByteArray) : List UInt8 := s.data.toList

def binInt (op : BinOp) (k : IntKind) (a b : Int) : Option Value :=
  match op with
  | .add => some (.int k (k.wrap (a + b)))
  | .sub => some (.int k (k.wrap (a - b)))
  | .mul => some (.int k (k.wrap (a * b)))
  | .quo => if b = 0 then none else some (.int k (k.wrap (a.tdiv b)))
  | .rem => if b = 0 then none else some (.int k (a.tmod b))
  | .and => some (.int k (k.wrap (BitVec.ofInt k.bits a &&& BitVec.ofInt k.bits b).toNat))
  | .or => some (.int k (k.wrap (BitVec.ofInt k.bits a ||| BitVec.ofInt k.bits b).toNat))
  | .xor => some (.int k (k.wrap (BitVec.ofInt k.bits a ^^^ BitVec.ofInt k.bits b).toNat))
  | .andNot => some (.int k (k.wrap (BitVec.ofInt k.bits a &&& ~~~BitVec.ofInt k.bits b).toNat))
  | .eql => some (.bool (a == b))
  | .neq => some (.bool (a != b))
  | .lss => some (.bool (decide (a < b)))
  | .leq => some (.bool (decide (a ≤ b)))
  | .gtr => some (.bool (decide (a > b)))
  | .geq => some (.bool (decide (a ≥ b)))
  | _ => none

def binStr (op : BinOp) (x y : ByteArray) : Option Value :=
  match op with
  | .add => if x.size + y.size < 140737488355328 then some (.string (x ++ y)) else none
  | .eql => some (.bool (bl x == bl y))
  | .neq => some (.bool !(bl x == bl y))
  | .lss => some (.bool (bytesLess (bl x) (bl y)))
  | .leq => some (.bool (bytesLess (bl x) (bl y) || bl x == bl y))
  | .gtr => some (.bool (!(bytesLess (bl x) (bl y) || bl x == bl y)))
  | .geq => some (.bool (!bytesLess (bl x) (bl y)))
  | _ => none

def eqV : Value → Value → Option Bool
  | .bool a,.bool b => some (a == b)
  | .int j a,.int k b => if j = k then some (a == b) else none
  | .string a,.string b => some (bl a == bl b)
  | .pointer none,.pointer none => some true
  | .pointer (some _),.pointer none => some false
  | .pointer none,.pointer (some _) => some false
  | .slice none _ _,.slice b _ _ => some b.isNone
  | .slice (some _) _ _,.slice none _ _ => some false
  | .map none,.map b => some b.isNone
  | .map (some _),.map none => some false
  | .nilFunc,.nilFunc => some true
  | .nilFunc,.func .. => some false
  | .func ..,.nilFunc => some false
  | _,_ => none

def descEq : TypeDesc → Value → Bool   -- a value on which == is asked through 'equal',by its type
  | .bool,.bool _ => true
  | .pointer _,.pointer _ => true
  | .slice _,.slice .. => true
  | .map _ _,.map _ => true
  | .func ..,.nilFunc | .func ..,.func .. => true
  | .int _,.int .. => true
  | .string,.string _ => true
  | _,_ => false

def eqFields (ty : Nat → Option TyI) (xs ys : List Value) : List Field → Option Bool
  | [] => some true
  | f :: fs =>
    match ty f.type,xs[f.offset]?,ys[f.offset]? with
    | some i,some a,some b =>
      if f.name ≠ "_" ∧ descEq i.desc a = true ∧ descEq i.desc b = true then
        match eqV a b with
        | some true => eqFields ty xs ys fs
        | r => r
      else none
    | _,_,_ => none
def eqCells (d : TypeDesc) : List Value → List Value → Option Bool
  | [],[] => some true
  | a :: xs,b :: ys =>
    if descEq d a = true ∧ descEq d b = true then
      match eqV a b with
      | some true => eqCells d xs ys
      | r => r
    else none
  | _,_ => none

def eqT (ty : Nat → Option TyI) (i : TyI) (x y : Value) : Option Bool :=
  match i.desc,x,y with
  | .struct fs,.agg xs,.agg ys => if i.eqok then eqFields ty xs.toList ys.toList fs.toList else none
  | .array n e,.agg xs,.agg ys =>
    match ty e with
    | some ei => if i.eqok = true ∧ ei.size = 1 ∧ isAggD ei.desc = false ∧ xs.toList.length = n ∧ ys.toList.length = n then eqCells ei.desc xs.toList ys.toList else none
    | none => none
  | d,x,y => if descEq d x = true ∧ descEq d y = true then eqV x y else none

def binV (ty : Nat → Option TyI) (i : TyI) (op : BinOp) (x y : Value) : Option Value :=
  match x,y with
  | .int k a,.int k' b =>
    match op with
    | .shl => if b < 0 then none else some (.int k (k.wrap (a * 2 ^ (min b.toNat k.bits))))
    | .shr => if b < 0 then none else some (.int k (a.fdiv (2 ^ (min b.toNat k.bits))))
    | _ => if k = k' then binInt op k a b else none
  | .string a,.string b => binStr op a b
  | x,y =>
    match op with
    | .eql => (eqT ty i x y).map .bool
    | .neq => (eqT ty i x y).map fun b => .bool !b
    | _ => none

def unV (op : UnOp) (x : Value) : Option Value :=
  match op,x with
  | .neg,.int k n => some (.int k (k.wrap (0 - n)))
  | .not,.bool b => some (.bool !b)
  | .xor,.int k n => some (.int k (k.wrap (BitVec.ofInt k.bits (if k.signed then -1 else k.max) ^^^ BitVec.ofInt k.bits n).toNat))
  | _,_ => none

def idxN (v : Value) : Option Nat := match v with | .int _ n => if 0 ≤ n then some n.toNat else none | _ => none
def optIdx (d : Nat) : Option Value → Option Nat
  | none => some d
  | some v => idxN v

def sliceCells (C : Cont) (es : Nat) (a : Option Addr) (n : Nat) : Option (List Value) :=
  if n = 0 then some [] else
  match a with
  | some ⟨b,o,none⟩ => cellsAt C b o (n * es)
  | _ => none

def roomOf (C : Cont) (e es b o n c : Nat) : Option Nat :=
  if c = uc then
    match C b with
    | some (.cells vs ty _) => if ty = e ∧ es ≠ 0 then some (max n ((vs.length - o) / es)) else none
    | _ => none
  else some c

def rLoad (C : Cont) (i : TyI) (v : Value) : Option Value :=
  match v with
  | .pointer (some ⟨b,o,none⟩) =>
    if isAggD i.desc then (cellsAt C b o i.size).map fun cs => .agg cs.toArray
    else match cellsAt C b o 1 with
      | some [x] => some x
      | _ => none
  | _ => none

def rSliceStr (s : ByteArray) (lo hi : Option Value) (mx : Option Value) : Option Value :=
  match mx,optIdx s.size hi,optIdx 0 lo with
  | none,some hi,some lo => if lo ≤ hi ∧ hi ≤ s.size then some (.string (s.extract lo hi)) else none
  | _,_,_ => none

def rSlice (C : Cont) (e es : Nat) (a : Option Addr) (n c : Nat) (lo hi mx : Option Value) : Option Value :=
  match optIdx n hi,optIdx 0 lo with
  | some hi',some lo' =>
    match a with
    | none =>
      match optIdx 0 mx with
      | some 0 => if lo' = 0 ∧ hi' = 0 ∧ n = 0 ∧ c = 0 ∧ (mx.isNone || hi.isSome) then some (.slice none 0 0) else none
      | _ => none
    | some ⟨b,o,none⟩ =>
      match roomOf C e es b o n c with
      | none => none
      | some room =>
        match mx with
        | none => if lo' ≤ hi' ∧ hi' ≤ room then some (.slice (some ⟨b,o + lo' * es,none⟩) (hi' - lo') (if c = uc then uc else c - lo')) else none
        | some v =>
          match idxN v,hi with
          | some m,some _ => if lo' ≤ hi' ∧ hi' ≤ m ∧ m ≤ room ∧ m < uc then some (.slice (some ⟨b,o + lo' * es,none⟩) (hi' - lo') (m - lo')) else none
          | _,_ => none
    | _ => none
  | _,_ => none

def rFld (off : Nat) : Value → Option Value
  | .pointer (some ⟨b,o,none⟩) => some (.pointer (some ⟨b,o + off,none⟩))
  | _ => none
def rIdxS (es : Nat) (x ix : Value) : Option Value :=
  match x,idxN ix with
  | .slice (some ⟨b,o,none⟩) n _,some j => if j < n then some (.pointer (some ⟨b,o + j * es,none⟩)) else none
  | _,_ => none
def rIdxA (n es : Nat) (x ix : Value) : Option Value :=
  match x,idxN ix with
  | .pointer (some ⟨b,o,none⟩),some j => if j < n then some (.pointer (some ⟨b,o + j * es,none⟩)) else none
  | _,_ => none
def rPart (i : TyI) (off : Nat) : Value → Option Value
  | .agg cs => if isAggD i.desc then (if off + i.size ≤ cs.toList.length then some (.agg ((cs.toList.drop off).take i.size).toArray) else none) else cs.toList[off]?
  | _ => none
def rIdxStr (s : ByteArray) (ix : Value) : Option Value :=
  match idxN ix with
  | some j => (s.data.toList[j]?).map fun b => .int .u8 b.toNat
  | none => none
def toBytes : List Value → Option (List UInt8)
  | [] => some []
  | .int .u8 n :: r => (toBytes r).map (UInt8.ofNat n.toNat :: ·)
  | _ => none
def rConv (C : Cont) (ty : Nat → Option TyI) (si di : TyI) (x : Value) : Option Value :=
  match di.desc,x with
  | .int k,.int _ n => some (.int k (k.wrap n))
  | .string,.string s => some (.string s)
  | .string,.slice a n _ =>
    match si.desc with
    | .slice e => match ty e with
      | some ei => match ei.desc with
        | .int .u8 => match a with
          | none => some (.string .empty)
          | some a => ((sliceCells C 1 (some a) n).bind toBytes).map fun bs => .string ⟨bs.toArray⟩
        | _ => none
      | none => none
    | _ => none
  | _,_ => none
def lookK (k : ByteArray) : List (Value × Value) → Option (Option Value)
  | [] => some none
  | (.string k',v) :: es => if bl k == bl k' then some (some v) else lookK k es
  | _ => none
def putK (k : ByteArray) (x : Value) : List (Value × Value) → Option (List (Value × Value))
  | [] => some [(.string k,x)]
  | (.string k',v) :: es => if bl k == bl k' then some ((.string k,x) :: es) else (putK k x es).map ((.string k',v) :: ·)
  | _ => none
def lookRes (zero : Value) (ok : Bool) : Option (Option Value) → Option Value
  | none => none
  | some (some v) => some (bif ok then .tuple #[v,.bool true] else v)
  | some none => some (bif ok then .tuple #[zero,.bool false] else zero)
def rLook (C : Cont) (zero : Value) (x k : Value) (ok : Bool) : Option Value :=
  match k with
  | .string k =>
    match (match x with
      | .map none => some []
      | .map (some r) => match C r with
        | some (.map es) => some es
        | _ => none
      | _ => none) with
    | none => none
    | some es => lookRes zero ok (lookK k es)
  | _ => none
def zeroV (i : TyI) : Option Value := if isAggD i.desc then some (.agg i.zero.toArray) else match i.zero with | [v] => some v | _ => none
def minmax (mx : Bool) : Value → Value → Option Value
  | .int k x,.int k' y => if k = k' then some (.int k (if mx then (if y > x then y else x) else (if y < x then y else x))) else none
  | _,_ => none
def foldMM (mx : Bool) : Value → List Value → Option Value
  | x,[] => match x with | .int .. => some x | _ => none
  | x,y :: r => (minmax mx x y).bind fun z => foldMM mx z r
def rNil : Value → Option Value
  | .pointer (some a) => some (.pointer (some a))
  | .func (.func f) a b => some (.func (.func f) a b)
  | .func (.yield f) a b => some (.func (.yield f) a b)
  | _ => none
def rExtract (j : Nat) : Value → Option Value
  | .tuple vs => vs.toList[j]?
  | _ => none
def rPick : Value → Value → Value → Option Value
  | .bool t,a,b => some (bif t then a else b)
  | _,_,_ => none
def rLen (C : Cont) : TypeDesc → Value → Option Value
  | .string,.string s => some (.int .i64 s.size)
  | .slice _,.slice _ n _ => some (.int .i64 n)
  | .map _ _,.map none => some (.int .i64 0)
  | .map _ _,.map (some r) => match C r with
    | some (.map es) => some (.int .i64 es.length)
    | _ => none
  | _,_ => none
def rCap : TypeDesc → Value → Option Value
  | .slice _,.slice _ _ c => if c = uc then none else some (.int .i64 c)
  | _,_ => none

inductive Kd where
  | pure | alloc | heavy
  deriving DecidableEq
def kindOf : Op → Kd
  | .move _ | .assign _ | .pick .. | .build .. | .nilCheck _ | .binOp .. | .unOp .. | .makeFunc .. | .fieldAddr .. | .field .. | .indexAddr .. | .index .. | .extract ..
  | .load .. | .convert .. | .slice .. | .lookup .. => .pure
  | .call { callee := .builtin b,.. } => match b with | .len | .cap | .min | .max => .pure | _ => .heavy
  | .alloc _ | .box .. | .buildSlice .. | .makeMap .. | .makeSlice .. => .alloc
  | _ => .heavy

def fieldOf (i : TyI) (f : Nat) : Option Field := match i.desc with | .struct fs => fs.toList[f]? | _ => none
def placeOf (ty : Nat → Option TyI) (i : TyI) (j : Nat) : Option (Nat × Nat) :=
  match i.desc with
  | .struct fs => (fs.toList[j]?).bind fun f => (ty f.type).map fun fi => (f.offset,fi.size)
  | .array _ e => (ty e).map fun ei => (j * ei.size,ei.size)
  | _ => none

def builtinP (p : Pg) (C : Cont) (b : Builtin) (ts : List TypeId) (args : List Value) : Option Value :=
  match b,args with
  | .len,[x] => (ts[0]?.bind p.ty).bind fun i => rLen C i.desc x
  | .cap,[x] => (ts[0]?.bind p.ty).bind fun i => rCap i.desc x
  | .min,x :: r => foldMM false x r
  | .max,x :: r => foldMM true x r
  | _,_ => none

def pureV (p : Pg) (T : Env) (C : Cont) (o : Op) : Option Value :=
  match o with
  | .move x => some (eval T x)
  | .assign x => some (eval T x)
  | .pick c a b => rPick (eval T c) (eval T a) (eval T b)
  | .build t ps => (p.ty t).bind fun i => (fillAt (placeOf p.ty i) i.zero (ps.toList.map fun (j,x) => (j,eval T x))).bind fun cs => if isAggD i.desc then some (.agg cs.toArray) else none
  | .nilCheck x => rNil (eval T x)
  | .binOp op t x y _ => (p.ty t).bind fun i => binV p.ty i op (eval T x) (eval T y)
  | .unOp op _ x => unV op (eval T x)
  | .makeFunc (.func f) first captured =>
    if (first.map (eval T)).toList.all isCell && (captured.map (eval T)).toList.all isCell then some (.func (.func f) (first.map (eval T)) (captured.map (eval T))) else none
  | .fieldAddr s x f => (p.ty s).bind fun i => (fieldOf i f).bind fun fd => (p.ty fd.type).bind fun fi => if fi.size = 0 then none else rFld fd.offset (eval T x)
  | .field t x f => (p.ty t).bind fun i => (fieldOf i f).bind fun fd => (p.ty fd.type).bind fun fi => rPart fi fd.offset (eval T x)
  | .indexAddr t x ix => (p.ty t).bind fun i =>
    match i.desc with
    | .array n e => (p.ty e).bind fun ei => rIdxA n ei.size (eval T x) (eval T ix)
    | .slice e => (p.ty e).bind fun ei => rIdxS ei.size (eval T x) (eval T ix)
    | _ => none
  | .index t x ix => (p.ty t).bind fun i =>
    match i.desc with
    | .array n e => (p.ty e).bind fun ei => (idxN (eval T ix)).bind fun j => if j < n then rPart ei (j * ei.size) (eval T x) else none
    | .string => match eval T x with
      | .string s => rIdxStr s (eval T ix)
      | _ => none
    | _ => none
  | .extract t j => rExtract j (eval T t)
  | .load t a => (p.ty t).bind fun i => rLoad C i (eval T a)
  | .convert s d x => (p.ty s).bind fun si => (p.ty d).bind fun di => rConv C p.ty si di (eval T x)
  | .slice t x lo hi mx => (p.ty t).bind fun i =>
    match i.desc,eval T x with
    | .string,.string s => rSliceStr s (lo.map (eval T)) (hi.map (eval T)) (mx.map (eval T))
    | .slice e,.slice a n c => (p.ty e).bind fun ei => rSlice C e ei.size a n c (lo.map (eval T)) (hi.map (eval T)) (mx.map (eval T))
    | _,_ => none
  | .lookup t x k ok => (p.ty t).bind fun i =>
    match i.desc with
    | .map kt e => (p.ty kt).bind fun ki => match ki.desc with
      | .string => (p.ty e).bind fun ei => (zeroV ei).bind fun z => rLook C z (eval T x) (eval T k) ok
      | _ => none
    | _ => none
  | .call { callee := .builtin b,args,argTypes } => builtinP p C b argTypes.toList (args.toList.map (eval T))
  | _ => none

def readsOf (T : Env) : Op → List Nat
  | .load _ a => match eval T a with | .pointer (some a) => [a.block] | _ => []
  | .convert _ _ x => match eval T x with | .slice (some a) _ _ => [a.block] | _ => []
  | .slice _ x _ _ _ => match eval T x with | .slice (some a) _ _ => [a.block] | _ => []
  | .lookup _ x _ _ => match eval T x with | .map (some r) => [r] | _ => []
  | .call c => c.args.toList.flatMap fun a => match eval T a with | .map (some r) => [r] | _ => []
  | _ => []

def allocV (p : Pg) (T : Env) (n : Nat) (o : Op) : Option (Value × IObj) :=
  match o with
  | .alloc e => (p.ty e).bind fun i => some (.pointer (some ⟨n,0,none⟩),.cells i.zero e false)
  | .box e x => (p.ty e).bind fun i =>
    (cellsOf (eval T x)).bind fun cs => if cs.length = i.size then some (.pointer (some ⟨n,0,none⟩),.cells cs e false) else none
  | .buildSlice t len ps => (p.ty t).bind fun i =>
    match i.desc with
    | .slice e => (p.ty e).bind fun ei =>
      if len * (ei.size + 1) ≤ 65536 then
        (fillAt (fun j => some (j * ei.size,ei.size)) (rep ei.zero len) (ps.toList.map fun (j,x) => (j,eval T x))).bind fun cs =>
          some (.slice (some ⟨n,0,none⟩) len len,.cells cs e false)
      else none
    | _ => none
  | .makeMap _ none => some (.map (some n),.map [])
  | .makeSlice t l c => (p.ty t).bind fun i =>
    match i.desc with
    | .slice e => (p.ty e).bind fun ei =>
      match eval T l,eval T c with
      | .int .i64 l,.int .i64 c =>
        if 0 ≤ l ∧ l ≤ c ∧ c * (ei.bytes + ei.size + 1) ≤ 1099511627776 then
          some (.slice (some ⟨n,0,none⟩) l.toNat c.toNat,.cells (rep ei.zero c.toNat) e false)
        else none
      | _,_ => none
    | _ => none
  | _ => none

def lim : Nat := 1099511627776

def appNew (C : Cont) (ei : TyI) (i2 : Option TyI) (x : Value) : Option (Nat × List Value) :=
  match i2,x with
  | some ⟨.int _,_,_,_,_⟩,.int .i64 k => if 0 ≤ k ∧ k ≤ 1048576 then some (k.toNat,rep ei.zero k.toNat) else none
  | some ⟨.slice _,_,_,_,_⟩,.slice xa xn _ => (sliceCells C ei.size xa xn).map fun l => (xn,l)
  | _,_ => none

def rAppend (h : H) (e : Nat) (ei : TyI) (a : Option Addr) (n c m : Nat) (new : List Value) : Option (Value × H × List Nat) :=
  if (n + m) * (ei.bytes + ei.size + 1) ≤ lim then
    match a with
    | none =>
      if n = 0 ∧ c = 0 then
        if m = 0 then some (.slice none 0 0,h,[])
        else some (.slice (some ⟨h.n,0,none⟩) m uc,h.push (.cells new e false),[])
      else none
    | some ⟨b,o,none⟩ =>
      if m = 0 then some (.slice (some ⟨b,o,none⟩) n c,h,[]) else
      match h.get b with
      | some (.cells vs ty false) =>
        if c = uc then
          if ty = e ∧ ei.size ≠ 0 then
            if n + m ≤ (vs.length - o) / ei.size then
              (writeAt h b (o + n * ei.size) new).map fun h1 => (.slice (some ⟨b,o,none⟩) (n + m) uc,h1,[b])
            else
              (sliceCells h.get ei.size (some ⟨b,o,none⟩) n).map fun old =>
                (.slice (some ⟨h.n,0,none⟩) (n + m) uc,(h.kill b).push (.cells (old ++ new) e false),[b])
          else none
        else if n + m ≤ c then
          (writeAt h b (o + n * ei.size) new).map fun h1 => (.slice (some ⟨b,o,none⟩) (n + m) c,h1,[b])
        else
          (sliceCells h.get ei.size (some ⟨b,o,none⟩) n).map fun old =>
            (.slice (some ⟨h.n,0,none⟩) (n + m) uc,h.push (.cells (old ++ new) e false),[])
      | some (.cells _ _ true) =>
        if c = uc then none else if n + m ≤ c then none else
          (sliceCells h.get ei.size (some ⟨b,o,none⟩) n).map fun old =>
            (.slice (some ⟨h.n,0,none⟩) (n + m) uc,h.push (.cells (old ++ new) e false),[])
      | _ => none
    | _ => none
  else none

def rCopy (h : H) (es : Nat) (d x : Value) : Option (Value × H × List Nat) :=
  match d,x with
  | .slice a n _,.slice xa xn _ =>
    if min xn n = 0 then some (.int .i64 0,h,[]) else
    (sliceCells h.get es xa (min xn n)).bind fun new =>
      match a with
      | some ⟨b,o,none⟩ => (writeAt h b o new).map fun h1 => (.int .i64 (min xn n : Nat),h1,[b])
      | _ => none
  | _,_ => none

def rClear (h : H) (ei : TyI) (d : Value) : Option (Value × H × List Nat) :=
  match d with
  | .slice a n _ =>
    if n = 0 then some (ud,h,[]) else
    match a with
    | some ⟨b,o,none⟩ => (writeAt h b o (rep ei.zero n)).map fun h1 => (ud,h1,[b])
    | _ => none
  | _ => none

def rStore (h : H) (size : Nat) (a x : Value) : Option (Value × H × List Nat) :=
  match a with
  | .pointer (some ⟨b,o,none⟩) =>
    (cellsOf x).bind fun cs => if cs.length = size then (writeAt h b o cs).map fun h1 => (ud,h1,[b]) else none
  | _ => none

def rMapUpd (h : H) (m k x : Value) : Option (Value × H × List Nat) :=
  match m,k with
  | .map (some r),.string k =>
    match h.get r with
    | some (.map es) => if isCell x then (putK k x es).map fun es1 => (ud,h.set r (.map es1),[r]) else none
    | _ => none
  | _,_ => none

inductive Tgt where
  | fn (f : Nat)
  | yield (l : Nat)
abbrev CallF := Tgt → List Value → H → Option (Value × H × List Nat)

def callV (call : CallF) (h : H) (f : Value) (args : List Value) : Option (Value × H × List Nat) :=
  match f with
  | .func (.func g) first cap => call (.fn g) (first.toList ++ args ++ cap.toList) h
  | .func (.yield l) first _ => if first.toList = [] then call (.yield l) args h else none
  | _ => none

def elemOf (p : Pg) (t : Option Nat) : Option (Nat × TyI) :=
  t.bind fun t => (p.ty t).bind fun i => match i.desc with
    | .slice e => (p.ty e).map fun ei => (e,ei)
    | _ => none

def builtinH (p : Pg) (h : H) (b : Builtin) (ts : List TypeId) (args : List Value) : Option (Value × H × List Nat) :=
  match b,args with
  | .append,[s,x] => (elemOf p ts[0]?).bind fun (e,ei) =>
    (appNew h.get ei (ts[1]?.bind p.ty) x).bind fun (m,new) =>
      match s with
      | .slice a n c => rAppend h e ei a n c m new
      | _ => none
  | .copy,[d,x] => (elemOf p ts[0]?).bind fun (_,ei) => rCopy h ei.size d x
  | .clear,[d] => (elemOf p ts[0]?).bind fun (_,ei) => rClear h ei d
  | _,_ => none

def heavyV (p : Pg) (call : CallF) (T : Env) (h : H) (o : Op) : Option (Value × H × List Nat) :=
  match o with
  | .store t a x => (p.ty t).bind fun i => rStore h i.size (eval T a) (eval T x)
  | .mapUpdate t m k x => (p.ty t).bind fun i => match i.desc with
    | .map kt _ => (p.ty kt).bind fun ki => match ki.desc with
      | .string => rMapUpd h (eval T m) (eval T k) (eval T x)
      | _ => none
    | _ => none
  | .call c =>
    match c.callee with
    | .builtin b => builtinH p h b c.argTypes.toList (c.args.toList.map (eval T))
    | .value f => callV call h (eval T f) (c.args.toList.map (eval T))
    | .invoke .. => none
  | _ => none

def opV (p : Pg) (call : CallF) (T : Env) (h : H) (o : Op) : Option (Value × H × List Nat) :=
  match kindOf o with
  | .pure => (pureV p T h.get o).map fun v => (v,h,[])
  | .alloc => (allocV p T h.n o).map fun (v,ob) => (v,h.push ob,[])
  | .heavy => heavyV p call T h o

inductive Ex where
  | normal
  | exit (id : Nat)
  | ret
  deriving DecidableEq

structure Out where
  ex : Ex
  T : Env
  h : H
  lg : List Nat

def guardSlot (ops : List Oper) (j : Nat) : Option Nat := (ops[j]?).bind (·.dst)
def wantedV (ops : List Oper) (T : Env) (g : Option (Nat × Bool)) : Option Bool :=
  match g with
  | none => some true
  | some (j,want) =>
    match guardSlot ops j with
    | some d => match T d with
      | .bool b => some (b == want)
      | .chan _ | .nilIface => none
      | _ => some false
    | none => none

def putT (T : Env) (d : Option Nat) (v : Value) : Env :=
  match d with
  | some d => T.set d v
  | none => T

def ops1 (p : Pg) (call : CallF) (all : List Oper) : List Oper → Env → H → List Nat → Option (Env × H × List Nat)
  | [],T,h,lg => some (T,h,lg)
  | o :: rest,T,h,lg =>
    match wantedV all T o.guard with
    | none => none
    | some false => ops1 p call all rest (putT T o.dst ud) h lg
    | some true =>
      match opV p call T h o.op with
      | none => none
      | some (v,h1,l1) => ops1 p call all rest (putT T o.dst v) h1 (l1 ++ lg)

def edgeMask (acc : List Nat) (s : Nat) (e : Edge) : Nat := if Region.binds .any e then s ||| 2 ^ e.on ||| acc.getD e.on 0 else s
def befores (acc : List Nat) : List Oper → List Nat     -- a mask a row,in order
  | [] => acc
  | o :: rest => befores (acc ++ [o.after.toList.foldl (edgeMask acc) 0]) rest
structure Mk where
  k : Kd
  reads : List Nat
  writes : List Nat
  lo : Nat      -- the heap's size ahead of it
  hi : Nat      -- and behind
def ops2 (p : Pg) (call : CallF) (all : List Oper) : List Oper → Env → H → List Mk → Option (Env × H × List Mk)
  | [],T,h,ms => some (T,h,ms)
  | o :: rest,T,h,ms =>
    match wantedV all T o.guard with
    | none => none
    | some false => ops2 p call all rest (putT T o.dst ud) h (ms ++ [⟨.pure,[],[],h.n,h.n⟩])
    | some true =>
      match opV p call T h o.op with
      | none => none
      | some (v,h1,l1) => ops2 p call all rest (putT T o.dst v) h1 (ms ++ [⟨kindOf o.op,readsOf T o.op,l1,h.n,h1.n⟩])
def besides (a b : Mk) : Bool :=
  match b.k with
  | .alloc => a.writes.all fun x => decide (x < b.lo) || decide (b.hi ≤ x)
  | .pure => a.writes.all fun x => !b.reads.contains x
  | .heavy => false
def clashFree (bs : List Nat) (ms : List Mk) : Bool :=
  (List.range ms.length).all fun i => (List.range ms.length).all fun j =>
    match ms[i]?,ms[j]? with
    | some a,some b => a.writes.isEmpty || Nat.beq i j || (bs.getD i 0).testBit j || (bs.getD j 0).testBit i || besides a b
    | _,_ => true
def logOf (ms : List Mk) : List Nat := ms.flatMap (·.writes)

def region (p : Pg) (call : CallF) (ops : Array Oper) (draw : Bool) (T : Env) (h : H) : Option Out :=
  bif draw then
    match ops2 p call ops.toList ops.toList T h [] with
    | none => none
    | some (T,h,ms) => if (logOf ms).isEmpty || clashFree (befores [] ops.toList) ms then some ⟨.normal,T,h,logOf ms⟩ else none
  else
    match ops1 p call ops.toList ops.toList T h [] with
    | none => none
    | some (T,h,lg) => some ⟨.normal,T,h,lg⟩

structure LOut where
  ex : Ex
  vs : List Value
  h : H
  lg : List Nat

def loopN (body : List Value → H → Option LOut) : Nat → List Value → H → Option LOut
  | 0,_,_ => none
  | n + 1,vs,h =>
    match body vs h with
    | none => none
    | some o =>
      match o.ex with
      | .normal =>
        match loopN body n o.vs o.h with
        | none => none
        | some o2 => some { o2 with lg := o2.lg ++ o.lg }
      | _ => some o

def jumpEx : Option Code → Option Ex
  | none => some .normal
  | some .ret => some .ret
  | some (.exit id) => some (.exit id)
  | _ => none

abbrev LoopF := (List Value → H → Option LOut) → List Value → H → Option LOut

def Env.only (T : Env) (L : List Nat) : Env := Env.ofList L (T.vals L)
@[noinline] def mkOut (ex : Ex) (L : List Nat) (vs : List Value) (h : H) (lg : List Nat) : Out := ⟨ex,Env.ofList L vs,h,lg⟩
def mask (L : List Nat) (o : Out) : Out := mkOut o.ex L (o.T.vals L) o.h o.lg
def maskN (L : List Nat) (o : Out) : Out :=
  match o.ex with
  | .normal => mask L o
  | _ => o

def code (p : Pg) (call : CallF) (lp : LoopF) (fn : Nat) : Code → Nat → Env → H → Option Out
  | .skip,_,T,h => some ⟨.normal,T,h,[]⟩
  | .region _ ops draw,_,T,h => region p call ops draw T h
  | .seq a b,k,T,h =>
    match code p call lp fn a (2 * k) T h with
    | none => none
    | some o =>
      match o.ex with
      | .normal =>
        match code p call lp fn b (2 * k + 1) o.T o.h with
        | none => none
        | some o2 => some { o2 with lg := o2.lg ++ o.lg }
      | _ => some o
  | .cond c a b,k,T,h =>
    match eval T c with
    | .bool t => (bif t then code p call lp fn a (2 * k) T h else code p call lp fn b (2 * k + 1) T h).map (maskN (p.live fn k))
    | _ => none
  | .block id b,k,T,h =>
    match code p call lp fn b (2 * k) T h with
    | none => none
    | some o =>
      match o.ex with
      | .exit id' => if id' = id then some (mask (p.live fn k) { o with ex := .normal }) else some o
      | .normal => some (mask (p.live fn k) o)
      | .ret => some o
  | .loop b,k,T,h =>
    match lp (fun vs h => match code p call lp fn b (2 * k) (Env.ofList (p.live fn k) vs) h with
      | none => none
      | some o => some ⟨o.ex,o.T.vals (p.live fn k),o.h,o.lg⟩) (T.vals (p.live fn k)) h with
    | none => none
    | some o => some ⟨o.ex,Env.ofList (p.live fn k) o.vs,o.h,o.lg⟩
  | .exit id,_,T,h => some ⟨.exit id,T,h,[]⟩
  | .ret,_,T,h => some ⟨.ret,T,h,[]⟩
  | .rangeFunc f ps asg body,_,T,h =>
    match eval T f with
    | .func (.func g) first cap =>
      match call (.fn g) (first.toList ++ [.func (.yield h.n) #[] #[]] ++ cap.toList) (h.push (.loop .ready none fn T ps.toList asg body)) with
      | none => none
      | some (_,h1,lg) =>
        match h1.get h.n with
        | some (.loop st pend _ _ _ _ _) =>
          if st = .busy then none else
          match jumpEx pend with
          | none => none
          | some ex => some ⟨ex,T,h1.set h.n .dead,h.n :: lg⟩
        | _ => none
    | _ => none
  | _,_,_,_ => none

def belowV (n : Nat) : Nat → Value → Bool
  | _,.bool _ | _,.int .. | _,.string _ | _,.pointer none | _,.map none | _,.nilFunc | _,.nilIface | _,.slice none _ _ => true
  | _,.pointer (some a) => decide (a.block < n)
  | _,.slice (some a) _ _ => decide (a.block < n)
  | _,.map (some r) => decide (r < n)
  | d + 1,.func (.func _) a b => a.toList.all (belowV n d) && b.toList.all (belowV n d)
  | d + 1,.iface _ v => belowV n d v
  | d + 1,.agg cs => cs.toList.all (belowV n d)
  | d + 1,.tuple cs => cs.toList.all (belowV n d)
  | _,_ => false

def resultsV (p : Pg) (T : Env) (h : H) : List ResultVar → Option (List Value)
  | [] => some []
  | .tmp t :: r => if isPoison (T t) then none else (resultsV p T h r).map (T t :: ·)
  | .cell a t :: r => ((p.ty t).bind fun i => rLoad h.get i (T a)).bind fun v => (resultsV p T h r).map (v :: ·)
def tupled : List Value → Value
  | [v] => v
  | vs => .tuple vs.toArray

def settle (h0 : H) (v : Value) (h1 : H) (lg : List Nat) : Value × H × List Nat :=
  let old := lg.filter (· < h0.n)
  if old.isEmpty && belowV h0.n 4 v then (v,h0,[]) else (v,h1,old)

def cmpB (a b : List UInt8) : Int := if bytesLess a b then -1 else if a == b then 0 else 1

def ext (name : String) (args : List Value) (h : H) : Option (Value × H × List Nat) :=
  if name = "internal/bytealg.abigen_runtime_cmpstring" then
    match args with
    | [.string a,.string b] => some (.int .i64 (cmpB (bl a) (bl b)),h,[])
    | _ => none
  else none

def funcV (p : Pg) (call : CallF) (lp : LoopF) (f : Nat) (args : List Value) (h : H) : Option (Value × H × List Nat) :=
  match p.spec f with
  | some s => s args h
  | none =>
  match p.fn f with
  | none => none
  | some fn =>
    match fn.body with
    | none => ext fn.name args h
    | some c =>
      if args.length ≤ fn.ntmps then
      match code p call lp f c 3 (Env.args 0 args) h with
      | none => none
      | some o =>
        match o.ex with
        | .exit _ => none
        | _ =>
          match resultsV p o.T o.h fn.results.toList with
          | none => none
          | some vs => some (settle h (tupled vs) o.h o.lg)
      else none

def endEx : Ex → Bool × Option Code × LoopState
  | .normal => (true,none,.ready)
  | .ret => (false,some .ret,.done)
  | .exit id => (false,some (.exit id),.done)

def roundV (p : Pg) (call : CallF) (lp : LoopF) (l : Nat) (args : List Value) (h : H) : Option (Value × H × List Nat) :=
  match h.get l with
  | some (.loop .ready none f T ps asg body) =>
    if ps.length = args.length then
      match code p call lp f asg 4 (T.sets ps args) h with
      | none => none
      | some o =>
        if o.ex = .normal then
          match o.h.get l with
          | some (.loop .ready none f2 T2 ps2 asg2 body2) =>
            match code p call lp f body 5 o.T (o.h.set l (.loop .busy none f2 T2 ps2 asg2 body2)) with
            | none => none
            | some o2 =>
              match o2.h.get l with
              | some (.loop .busy none f3 T3 ps3 asg3 body3) =>
                some (.bool (endEx o2.ex).1,o2.h.set l (.loop (endEx o2.ex).2.2 (endEx o2.ex).2.1 f3 T3 ps3 asg3 body3),(l :: (o2.lg ++ o.lg)).filter (· < h.n))
              | _ => none
          | _ => none
        else none
    else none
  | _ => none

def icall (p : Pg) : Nat → CallF
  | 0,_,_,_ => none
  | n + 1,.fn f,args,h => funcV p (icall p n) (fun b => loopN b n) f args h
  | n + 1,.yield l,args,h => roundV p (icall p n) (fun b => loopN b n) l args h
end Go.L1


namespace Go.L1

structure BI where
  r : Nat
  o : Nat
  s : Nat
  es : Nat
  isz : Nat
abbrev Emb := Nat → Option BI

inductive VR (φ : Emb) : Value → Value → Prop
  | bool (b : Bool) : VR φ (.bool b) (.bool b)
  | int (k : IntKind) (n : Int) : VR φ (.int k n) (.int k n)
  | string (s : ByteArray) : VR φ (.string s) (.string s)
  | nilptr : VR φ (.pointer none) (.pointer none)
  | ptr {b off : Nat} {bi : BI} (h : φ b = some bi) : VR φ (.pointer (some ⟨b,off,none⟩)) (.pointer (some ⟨bi.r,bi.o + off,none⟩))
  | nilslice : VR φ (.slice none 0 0) (.slice none 0 0)
  | slice {b off n c c' : Nat} {bi : BI} {a' : Addr} (h : φ b = some bi) (hn : n ≤ c') (ha : c' = 0 ∨ a' = ⟨bi.r,bi.o + off,none⟩)
      (hc : (c = uc ∧ bi.isz ≤ off + c' * bi.es ∧ (c' = 0 ∨ (bi.o + off + c' * bi.es ≤ bi.s ∧ c' < uc))) ∨ (c' = c ∧ c < uc)) :
      VR φ (.slice (some ⟨b,off,none⟩) n c) (.slice (some a') n c')
  | nilmap : VR φ (.map none) (.map none)
  | map {b : Nat} {bi : BI} (h : φ b = some bi) : VR φ (.map (some b)) (.map (some bi.r))
  | nilFunc : VR φ .nilFunc .nilFunc
  | nilIface {v' : Value} (h : isCell v' = true) : VR φ .nilIface v'      -- a cell of which nothing is known
  | yield {b : Nat} {bi : BI} (h : φ b = some bi) : VR φ (.func (.yield b) #[] #[]) (.func (.yield bi.r) #[] #[])
  | func (f : Nat) {a a' c c' : Array Value} (ha : a.toList.length = a'.toList.length) (hc : c.toList.length = c'.toList.length)
      (h1 : ∀ (i : Nat) (x y : Value),a.toList[i]? = some x → a'.toList[i]? = some y → VR φ x y) (h2 : ∀ (i : Nat) (x y : Value),c.toList[i]? = some x → c'.toList[i]? = some y → VR φ x y) :
      VR φ (.func (.func f) a c) (.func (.func f) a' c')
  | agg {a a' : Array Value} (ha : a.toList.length = a'.toList.length) (h1 : ∀ (i : Nat) (x y : Value),a.toList[i]? = some x → a'.toList[i]? = some y → VR φ x y) : VR φ (.agg a) (.agg a')
  | tuple {a a' : Array Value} (ha : a.toList.length = a'.toList.length) (h1 : ∀ (i : Nat) (x y : Value),a.toList[i]? = some x → a'.toList[i]? = some y → VR φ x y) : VR φ (.tuple a) (.tuple a')

def VL (φ : Emb) (l l' : List Value) : Prop := l.length = l'.length ∧ ∀ (i : Nat) (x y : Value),l[i]? = some x → l'[i]? = some y → VR φ x y
def VP (φ : Emb) (v v' : Value) : Prop := isPoison v = true ∨ VR φ v v'
def Sub (φ ψ : Emb) : Prop := ∀ b bi,φ b = some bi → ψ b = some bi

theorem Sub.refl (φ : Emb) : Sub φ φ := fun _ _ h => h
theorem Sub.trans {φ ψ χ : Emb} (h : Sub φ ψ) (h' : Sub ψ χ) : Sub φ χ := fun b bi e => h' b bi (h b bi e)

theorem VR.mono {φ ψ : Emb} (hs : Sub φ ψ) {v v' : Value} (h : VR φ v v') : VR ψ v v' := by
  induction h with
  | bool b => exact .bool b
  | int k n => exact .int k n
  | string s => exact .string s
  | nilptr => exact .nilptr
  | ptr h => exact .ptr (hs _ _ h)
  | nilslice => exact .nilslice
  | slice h hn ha hc => exact .slice (hs _ _ h) hn ha hc
  | nilmap => exact .nilmap
  | map h => exact .map (hs _ _ h)
  | nilFunc => exact .nilFunc
  | nilIface h => exact .nilIface h
  | yield h => exact .yield (hs _ _ h)
  | func f ha hc _ _ i1 i2 => exact .func f ha hc i1 i2
  | agg ha _ i1 => exact .agg ha i1
  | tuple ha _ i1 => exact .tuple ha i1
theorem VL.mono {φ ψ : Emb} (hs : Sub φ ψ) {l l' : List Value} (h : VL φ l l') : VL ψ l l' := ⟨h.1,fun i x y a b => (h.2 i x y a b).mono hs⟩
theorem VP.mono {φ ψ : Emb} (hs : Sub φ ψ) {v v' : Value} (h : VP φ v v') : VP ψ v v' := h.imp id (VR.mono hs)

theorem VR.back {φ ψ : Emb} (hs : Sub φ ψ) {v v₁ : Value} (h : VR φ v v₁) : ∀ {v₂ : Value},VR ψ v v₂ → VR φ v v₂ := by
  induction h with
  | bool b => intro v₂ h2; cases h2; exact .bool b
  | int k n => intro v₂ h2; cases h2; exact .int k n
  | string s => intro v₂ h2; cases h2; exact .string s
  | nilptr => intro v₂ h2; cases h2; exact .nilptr
  | ptr h => intro v₂ h2; cases h2 with | ptr h' => have e := hs _ _ h; rw [h'] at e; cases e; exact .ptr h
  | nilslice => intro v₂ h2; cases h2; exact .nilslice
  | slice h hn ha hc => intro v₂ h2; cases h2 with | slice h' hn' ha' hc' => have e := hs _ _ h; rw [h'] at e; cases e; exact .slice h hn' ha' hc'
  | nilmap => intro v₂ h2; cases h2; exact .nilmap
  | map h => intro v₂ h2; cases h2 with | map h' => have e := hs _ _ h; rw [h'] at e; cases e; exact .map h
  | nilFunc => intro v₂ h2; cases h2; exact .nilFunc
  | nilIface h => intro v₂ h2; cases h2 with | nilIface h' => exact .nilIface h'
  | yield h => intro v₂ h2; cases h2 with | yield h' => have e := hs _ _ h; rw [h'] at e; cases e; exact .yield h
  | @func f a a' c c' ha hc h1 h2 i1 i2 =>
    intro v₂ h3
    cases h3 with
    | func _ ha' hc' h1' h2' =>
      refine .func f ha' hc' (fun i x y hx hy => ?_) (fun i x y hx hy => ?_)
      · have hi : i < a'.toList.length := ha ▸ (List.getElem?_eq_some_iff.1 hx).1
        exact i1 i x _ hx (List.getElem?_eq_getElem hi) (h1' i x y hx hy)
      · have hi : i < c'.toList.length := hc ▸ (List.getElem?_eq_some_iff.1 hx).1
        exact i2 i x _ hx (List.getElem?_eq_getElem hi) (h2' i x y hx hy)
  | @agg a a' ha h1 i1 =>
    intro v₂ h3
    cases h3 with
    | agg ha' h1' =>
      refine .agg ha' (fun i x y hx hy => ?_)
      have hi : i < a'.toList.length := ha ▸ (List.getElem?_eq_some_iff.1 hx).1
      exact i1 i x _ hx (List.getElem?_eq_getElem hi) (h1' i x y hx hy)
  | @tuple a a' ha h1 i1 =>
    intro v₂ h3
    cases h3 with
    | tuple ha' h1' =>
      refine .tuple ha' (fun i x y hx hy => ?_)
      have hi : i < a'.toList.length := ha ▸ (List.getElem?_eq_some_iff.1 hx).1
      exact i1 i x _ hx (List.getElem?_eq_getElem hi) (h1' i x y hx hy)

theorem VR.low {φ ψ : Emb} {n : Nat} (hs : ∀ b bi,b < n → ψ b = some bi → φ b = some bi) {v v' : Value} (h : VR ψ v v') : ∀ {d : Nat},belowV n d v = true → VR φ v v' := by
  induction h with
  | bool b => intro d hd; exact .bool b
  | int k n => intro d hd; exact .int k n
  | string s => intro d hd; exact .string s
  | nilptr => intro d hd; exact .nilptr
  | ptr h => intro d hd; exact .ptr (hs _ _ (by simpa [belowV] using hd) h)
  | nilslice => intro d hd; exact .nilslice
  | slice h hn ha hc => intro d hd; exact .slice (hs _ _ (by simpa [belowV] using hd) h) hn ha hc
  | nilmap => intro d hd; exact .nilmap
  | map h => intro d hd; exact .map (hs _ _ (by simpa [belowV] using hd) h)
  | nilFunc => intro d hd; exact .nilFunc
  | nilIface h => intro d hd; exact .nilIface h
  | yield h => intro d hd; cases d <;> simp [belowV] at hd
  | @func f a a' c c' ha hc _ _ i1 i2 =>
    intro d hd
    cases d with
    | zero => simp [belowV] at hd
    | succ d =>
      simp only [belowV,Bool.and_eq_true,List.all_eq_true] at hd
      exact .func f ha hc (fun i x y hx hy => i1 i x y hx hy (hd.1 x (List.mem_of_getElem? hx))) (fun i x y hx hy => i2 i x y hx hy (hd.2 x (List.mem_of_getElem? hx)))
  | @agg a a' ha _ i1 =>
    intro d hd
    cases d with
    | zero => simp [belowV] at hd
    | succ d =>
      simp only [belowV,List.all_eq_true] at hd
      exact .agg ha (fun i x y hx hy => i1 i x y hx hy (hd x (List.mem_of_getElem? hx)))
  | @tuple a a' ha _ i1 =>
    intro d hd
    cases d with
    | zero => simp [belowV] at hd
    | succ d =>
      simp only [belowV,List.all_eq_true] at hd
      exact .tuple ha (fun i x y hx hy => i1 i x y hx hy (hd x (List.mem_of_getElem? hx)))

theorem VL.nil (φ : Emb) : VL φ [] [] := ⟨rfl,fun i x y h => by simp at h⟩
theorem VL.cons {φ : Emb} {x y : Value} {l l' : List Value} (h : VR φ x y) (hl : VL φ l l') : VL φ (x :: l) (y :: l') := by
  refine ⟨by simp [hl.1],fun i a b ha hb => ?_⟩
  cases i with
  | zero => simp at ha hb; subst ha; subst hb; exact h
  | succ i => simp at ha hb; exact hl.2 i a b ha hb
theorem VL.of_cons {φ : Emb} {x y : Value} {l l' : List Value} (h : VL φ (x :: l) (y :: l')) : VR φ x y ∧ VL φ l l' :=
  ⟨h.2 0 x y rfl rfl,by simpa using h.1,fun i a b ha hb => h.2 (i + 1) a b (by simpa using ha) (by simpa using hb)⟩
theorem VL.cons_inv {φ : Emb} {x : Value} {l l' : List Value} (h : VL φ (x :: l) l') : ∃ y r,l' = y :: r ∧ VR φ x y ∧ VL φ l r := by
  cases l' with
  | nil => have := h.1; simp at this
  | cons y r => exact ⟨y,r,rfl,h.of_cons⟩
theorem VL.nil_inv {φ : Emb} {l' : List Value} (h : VL φ [] l') : l' = [] := List.eq_nil_of_length_eq_zero h.1.symm
theorem VL.append {φ : Emb} {a b a' b' : List Value} (h : VL φ a a') (h' : VL φ b b') : VL φ (a ++ b) (a' ++ b') := by
  induction a generalizing a' with
  | nil => have := h.nil_inv; subst this; exact h'
  | cons x l ih => obtain ⟨y,r,rfl,hx,hl⟩ := h.cons_inv; exact VL.cons hx (ih hl)
theorem VL.take {φ : Emb} {a a' : List Value} (n : Nat) (h : VL φ a a') : VL φ (a.take n) (a'.take n) := by
  refine ⟨by simp [h.1],fun i x y hx hy => ?_⟩
  rw [List.getElem?_take] at hx hy
  split at hx
  · rename_i hi; rw [if_pos hi] at hy; exact h.2 i x y hx hy
  · cases hx
theorem VL.drop {φ : Emb} {a a' : List Value} (n : Nat) (h : VL φ a a') : VL φ (a.drop n) (a'.drop n) := by
  refine ⟨by simp [h.1],fun i x y hx hy => ?_⟩
  rw [List.getElem?_drop] at hx hy
  exact h.2 _ x y hx hy
theorem VL.get {φ : Emb} {a a' : List Value} (h : VL φ a a') {i : Nat} {x : Value} (hx : a[i]? = some x) : ∃ y,a'[i]? = some y ∧ VR φ x y := by
  have hi : i < a'.length := h.1 ▸ (List.getElem?_eq_some_iff.1 hx).1
  exact ⟨_,List.getElem?_eq_getElem hi,h.2 i x _ hx (List.getElem?_eq_getElem hi)⟩
theorem VL.map {φ : Emb} {α : Type} {f g : α → Value} (l : List α) (h : ∀ a ∈ l,VR φ (f a) (g a)) : VL φ (l.map f) (l.map g) := by
  induction l with
  | nil => exact VL.nil φ
  | cons a l ih => exact VL.cons (h a (by simp)) (ih fun b hb => h b (by simp [hb]))

def pureC : Nat → Value → Bool
  | _,.bool _ | _,.int .. | _,.string _ | _,.pointer none | _,.map none | _,.nilFunc | _,.nilIface => true
  | _,.slice none n c => Nat.beq n 0 && Nat.beq c 0
  | d + 1,.func (.func _) a b => a.toList.all (pureC d) && b.toList.all (pureC d)
  | d + 1,.agg cs => cs.toList.all (pureC d)
  | d + 1,.tuple cs => cs.toList.all (pureC d)
  | _,_ => false
theorem VR.pure (φ : Emb) {d : Nat} : ∀ {v : Value},pureC d v = true → VR φ v v := by
  induction d with
  | zero =>
    intro v h
    unfold pureC at h
    split at h <;> first | cases h | skip
    · exact .bool _
    · exact .int _ _
    · exact .string _
    · exact .nilptr
    · exact .nilmap
    · exact .nilFunc
    · exact .nilIface rfl
    · simp only [Bool.and_eq_true] at h
      obtain ⟨h1,h2⟩ := h
      obtain rfl := Nat.eq_of_beq_eq_true h1
      obtain rfl := Nat.eq_of_beq_eq_true h2
      exact .nilslice
    · contradiction
    · contradiction
    · contradiction
  | succ d ih =>
    intro v h
    unfold pureC at h
    split at h <;> first | cases h | skip
    · exact .bool _
    · exact .int _ _
    · exact .string _
    · exact .nilptr
    · exact .nilmap
    · exact .nilFunc
    · exact .nilIface rfl
    · simp only [Bool.and_eq_true] at h
      obtain ⟨h1,h2⟩ := h
      obtain rfl := Nat.eq_of_beq_eq_true h1
      obtain rfl := Nat.eq_of_beq_eq_true h2
      exact .nilslice
    · rename_i he
      simp only [Bool.and_eq_true,List.all_eq_true] at h
      cases he
      exact .func _ rfl rfl (fun i x y hx hy => by rw [hx] at hy; cases hy; exact ih (h.1 x (List.mem_of_getElem? hx))) (fun i x y hx hy => by rw [hx] at hy; cases hy; exact ih (h.2 x (List.mem_of_getElem? hx)))
    · rename_i he
      simp only [List.all_eq_true] at h
      cases he
      exact .agg rfl (fun i x y hx hy => by rw [hx] at hy; cases hy; exact ih (h x (List.mem_of_getElem? hx)))
    · rename_i he
      simp only [List.all_eq_true] at h
      cases he
      exact .tuple rfl (fun i x y hx hy => by rw [hx] at hy; cases hy; exact ih (h x (List.mem_of_getElem? hx)))

theorem VR.isCell {φ : Emb} {v v' : Value} (h : VR φ v v') (hc : isCell v = true) : isCell v' = true ∧ v'.cells = #[v'] := by
  cases h with
  | nilIface h => exact ⟨h,by cases v' <;> simp_all [L1.isCell,Value.cells]⟩
  | _ => simp_all [L1.isCell,Value.cells]
theorem VL.cellR {φ : Emb} {l l' : List Value} (h : VL φ l l') (hc : ∀ x ∈ l,L1.isCell x = true) : ∀ y ∈ l',L1.isCell y = true := by
  intro y hy
  obtain ⟨i,hi⟩ := List.getElem?_of_mem hy
  have hil : i < l.length := h.1 ▸ (List.getElem?_eq_some_iff.1 hi).1
  exact ((h.2 i _ y (List.getElem?_eq_getElem hil) hi).isCell (hc _ (List.getElem_mem hil))).1
theorem mem_row {α : Type} {cs new : List α} {o a b : Nat} (ha : o ≤ a) (hb : o ≤ b) (ho : o ≤ cs.length) {x : α} (hx : x ∈ (cs.take a ++ new ++ cs.drop b).drop o) : x ∈ cs.drop o ∨ x ∈ new := by
  rw [List.append_assoc,List.drop_append_of_le_length (by rw [List.length_take]; omega)] at hx
  rcases List.mem_append.1 hx with hx | hx
  · rw [List.drop_take] at hx
    exact .inl (List.mem_of_mem_take hx)
  · rcases List.mem_append.1 hx with hx | hx
    · exact .inr hx
    · left
      rw [show b = o + (b - o) by omega,← List.drop_drop] at hx
      exact List.mem_of_mem_drop hx
theorem VR.oneCell {φ : Emb} {u u' : Value} (hu : VR φ u u') (hcu : L1.isCell u = true) :
    VL φ [u] u'.cells.toList ∧ (∀ x ∈ u'.cells.toList,L1.isCell x = true) := by
  obtain ⟨h1,h2⟩ := hu.isCell hcu
  rw [h2]
  exact ⟨VL.cons hu (VL.nil φ),by simpa using h1⟩
theorem cellsOf_one {v : Value} {l : List Value} (h : cellsOf v = some l) : (∃ a,v = .agg a ∧ l = a.toList ∧ ∀ x ∈ l,isCell x = true) ∨ (isCell v = true ∧ l = [v]) := by
  unfold cellsOf at h
  split at h
  · rename_i cs
    split at h
    · rename_i hall
      cases h
      exact .inl ⟨cs,rfl,rfl,fun x hx => List.all_eq_true.1 hall x hx⟩
    · cases h
  · split at h
    · rename_i hc
      cases h
      exact .inr ⟨hc,rfl⟩
    · cases h
theorem isCell_cells {v : Value} (h : isCell v = true) : v.cells.toList = [v] := by
  cases v <;> simp_all [isCell,Value.cells]
theorem VR.cells {φ : Emb} {v v' : Value} (h : VR φ v v') {l : List Value} (hc : cellsOf v = some l) : VL φ l v'.cells.toList ∧ (∀ x ∈ v'.cells.toList,L1.isCell x = true) ∧ v.cells.toList = l := by
  rcases cellsOf_one hc with ⟨a,rfl,rfl,hall⟩ | ⟨hcu,rfl⟩
  · cases h with
    | agg ha h1 =>
      refine ⟨⟨ha,h1⟩,fun y hy => ?_,rfl⟩
      obtain ⟨i,hi⟩ := List.getElem?_of_mem hy
      have hi' := (List.getElem?_eq_some_iff.1 hi).1
      simp only [Value.cells] at hi hi'
      have hil : i < a.toList.length := ha ▸ hi'
      have hx := List.getElem?_eq_getElem hil
      exact ((h1 i _ y hx hi).isCell (hall _ (List.mem_of_getElem? hx))).1
  · exact ⟨(h.oneCell hcu).1,(h.oneCell hcu).2,isCell_cells hcu⟩

def rwO : IObj → Bool
  | .cells _ _ ro => !ro
  | .dead => false
  | _ => true
def liveO : IObj → Bool
  | .dead => false
  | _ => true

def ER (φ : Emb) (T : Env) (tmps : Array Value) : Prop := ∀ i,VP φ (T i) (tmps.getD i undef)
theorem ER.mono {φ ψ : Emb} (hs : Sub φ ψ) {T : Env} {t : Array Value} (h : ER φ T t) : ER ψ T t := fun i => (h i).mono hs

def operandOk : Operand → Bool
  | .const v => pureC 6 v
  | _ => true
def slotOk (N : Nat) : Option Nat → Bool
  | some d => Nat.blt d N
  | none => true
def opOk (N : Nat) (o : Oper) : Bool := o.op.operands.toList.all operandOk && slotOk N o.dst
def tmpsOf (xs : List Operand) : List Nat := xs.filterMap fun x => match x with | .tmp t => some t | _ => none
def looksAt (ops : List Oper) (o : Oper) : List Nat := tmpsOf o.op.operands.toList ++ (match o.guard with | some (j,_) => (guardSlot ops j).toList | none => [])
def namesOf (ops : List Oper) (o : Oper) : List Nat := o.dst.toList ++ looksAt ops o
def comparable (bs : List Nat) (i j : Nat) : Bool := (bs.getD i 0).testBit j || (bs.getD j 0).testBit i
def drawOk (ops : List Oper) : Bool :=
  let bs := befores [] ops
  (List.range ops.length).all fun i => match ops[i]? with
    | none => true
    | some o => (o.after.toList.all fun e => !Region.binds .any e || Nat.blt e.on i) &&
      (match o.dst with
       | none => true
       | some d => (List.range ops.length).all fun j => Nat.beq i j || comparable bs i j || (match ops[j]? with | some u => !(namesOf ops u).contains d | none => true))
def noRange : Code → Bool
  | .seq a b => noRange a && noRange b
  | .cond _ a b => noRange a && noRange b
  | .block _ b => noRange b
  | .loop b => noRange b
  | .rangeFunc .. => false
  | _ => true
def codeOk (N : Nat) : Code → Bool
  | .region _ ops draw => ops.toList.all (opOk N) && (!draw || drawOk ops.toList)
  | .seq a b => codeOk N a && codeOk N b
  | .cond c a b => operandOk c && codeOk N a && codeOk N b
  | .block _ b => codeOk N b
  | .loop b => codeOk N b
  | .rangeFunc f ps asg body => operandOk f && ps.toList.all (Nat.blt · N) && codeOk N asg && codeOk N body && noRange asg && noRange body
  | _ => true
def funcOk (fn : Func) : Bool :=
  !(fn.name == "runtime.NumGoroutine") && match fn.body with
  | some c => codeOk fn.ntmps c && Nat.ble fn.nfree fn.ntmps
  | none => true

def isAggV : Value → Bool
  | .agg _ => true
  | _ => false
structure TyFits (P : Program) (t : Nat) (i : TyI) : Prop where
  info : ∃ x,P.info? t = some x ∧ x.size = i.size ∧ x.bytes = i.bytes ∧ (∃ z,x.zero = some z ∧ cellsOf z = some i.zero ∧ pureC 6 z = true ∧ isAggV z = isAggD i.desc) ∧ i.zero.length = i.size
  und : P.underlying t = some i.desc
  flds : ∀ fs,i.desc = .struct fs → ∀ f ∈ fs.toList,∃ x,P.info? f.type = some x
  elem : ∀ n e,i.desc = .array n e → ∃ x,P.info? e = some x
  eqok : i.eqok = true → P.eqGuardType P.depth t = false ∧ P.stoodInHeld t = false
structure Fits (p : Pg) (P : Program) : Prop where
  ty : ∀ t i,p.ty t = some i → TyFits P t i
  fn : ∀ f fn,p.fn f = some fn → P.funcs[f]? = some fn ∧ funcOk fn = true
  ext : ∀ f fn,p.fn f = some fn → fn.body = none → fn.name = "internal/bytealg.abigen_runtime_cmpstring" → Extern.findNext fn = none ∧ Extern.find fn = some Extern.BytealgCompare.compare
  mixed : P.follows .mixedOrders = true

inductive BlockRel (p : Pg) (φ : Emb) (bi : BI) (w : World) : IObj → Prop
  | cells {vs : List Value} {ty : TypeId} {ro : Bool} {cs : Array Value} {ty' : TypeId} {fr : Nat × Nat} {i : TyI}
      (hi : p.ty ty = some i) (hes : bi.es = i.size) (hisz : bi.isz = vs.length) (hw : w.heap[bi.r]? = some (.cells cs ty' fr)) (hs : cs.size = bi.s) (hsz : bi.o + vs.length ≤ bi.s)
      (hv : VL φ vs ((cs.toList.drop bi.o).take vs.length)) (hcell : ∀ x ∈ vs,isCell x = true)
      (hfr : ro = false → fr = (0,0)) (hj : ro = false → ∀ x ∈ cs.toList.drop bi.o,isCell x = true) : BlockRel p φ bi w (.cells vs ty ro)
  | map {es : List (Value × Value)} {es' : Array MapEntry} {clock : Nat} (hw : w.heap[bi.r]? = some (.map es' clock)) (hl : es.length = es'.toList.length)
      (hk : ∀ (i : Nat) (k v : Value) (e : MapEntry),es[i]? = some (k,v) → es'.toList[i]? = some e → (∃ s,k = .string s ∧ e.key = .string s) ∧ VR φ v e.val ∧ isCell v = true) :
      BlockRel p φ bi w (.map es)
  | loop {st : LoopState} {pend : Option Code} {f : Nat} {T : Env} {ps : List Tmp} {asg body : Code} {f' : Nat} {tmps : Array Value} {params : Array Tmp} {fn : Func} {dd : Nat}
      (hw : w.heap[bi.r]? = some (.loop ⟨st,pend,f',tmps,params,asg,body,dd⟩)) (hfn : p.fn f = some fn) (hps : params.toList = ps) (hpl : ps.all (Nat.blt · fn.ntmps) = true)
      (hasg : codeOk fn.ntmps asg = true ∧ noRange asg = true) (hbody : codeOk fn.ntmps body = true ∧ noRange body = true) (hN : tmps.size = fn.ntmps) (hT : ER φ T tmps) : BlockRel p φ bi w (.loop st pend f T ps asg body)
  | dead : BlockRel p φ bi w .dead

structure Rel (p : Pg) (φ : Emb) (C : Cont) (w : World) : Prop where
  blk : ∀ b bi,φ b = some bi → ∃ ob,C b = some ob ∧ BlockRel p φ bi w ob
  inj : ∀ b c bi ci ob oc,φ b = some bi → φ c = some ci → C b = some ob → C c = some oc → b ≠ c → rwO ob = true → liveO oc = true → bi.r ≠ ci.r

def Owned (φ : Emb) (C : Cont) (r : Nat) : Prop := ∃ b bi ob,φ b = some bi ∧ C b = some ob ∧ rwO ob = true ∧ bi.r = r
def Uses (φ : Emb) (C : Cont) (r : Nat) : Prop := ∃ b bi ob,φ b = some bi ∧ C b = some ob ∧ liveO ob = true ∧ bi.r = r
structure Fr (φ : Emb) (C : Cont) (w w' : World) : Prop where
  os : w'.os = w.os
  tape : w'.tape = w.tape
  output : w'.output = w.output
  size : w.heap.size ≤ w'.heap.size
  keep : ∀ r,r < w.heap.size → ¬ Owned φ C r → w'.heap[r]? = w.heap[r]?
structure Gr (φ : Emb) (C : Cont) (n : Nat) (w : World) (φ' : Emb) (C' : Cont) (n' : Nat) : Prop where
  old : ∀ b,b < n → φ' b = φ b
  dom : ∀ b bi,φ' b = some bi → b < n'
  le : n ≤ n'
  own : ∀ r,r < w.heap.size → Owned φ' C' r → Owned φ C r
  use : ∀ r,r < w.heap.size → Uses φ' C' r → Uses φ C r

theorem Fr.refl (φ : Emb) (C : Cont) (w : World) : Fr φ C w w := ⟨rfl,rfl,rfl,Nat.le_refl _,fun _ _ _ => rfl⟩
theorem Fr.trans {φ φ' : Emb} {C C' : Cont} {n n' : Nat} {w w' w'' : World} (h : Fr φ C w w') (g : Gr φ C n w φ' C' n') (h' : Fr φ' C' w' w'') : Fr φ C w w'' :=
  ⟨h'.os.trans h.os,h'.tape.trans h.tape,h'.output.trans h.output,Nat.le_trans h.size h'.size,fun r hr ho =>
    (h'.keep r (Nat.lt_of_lt_of_le hr h.size) (fun ho' => ho (g.own r hr ho'))).trans (h.keep r hr ho)⟩
theorem Gr.refl {φ : Emb} {C : Cont} {n : Nat} (w : World) (hd : ∀ b bi,φ b = some bi → b < n) : Gr φ C n w φ C n := ⟨fun _ _ => rfl,hd,Nat.le_refl _,fun _ _ h => h,fun _ _ h => h⟩
theorem Gr.trans {φ φ' φ'' : Emb} {C C' C'' : Cont} {n n' n'' : Nat} {w w' : World} (g : Gr φ C n w φ' C' n') (hw : w.heap.size ≤ w'.heap.size) (g' : Gr φ' C' n' w' φ'' C'' n'') : Gr φ C n w φ'' C'' n'' :=
  ⟨fun b hb => (g'.old b (Nat.lt_of_lt_of_le hb g.le)).trans (g.old b hb),g'.dom,Nat.le_trans g.le g'.le,fun r hr ho => g.own r hr (g'.own r (Nat.lt_of_lt_of_le hr hw) ho),
    fun r hr ho => g.use r hr (g'.use r (Nat.lt_of_lt_of_le hr hw) ho)⟩
theorem Gr.sub {φ φ' : Emb} {C C' : Cont} {n n' : Nat} {w : World} (g : Gr φ C n w φ' C' n') (hd : ∀ b bi,φ b = some bi → b < n) : Sub φ φ' :=
  fun b bi h => (g.old b (hd b bi h)).trans h

theorem BlockRel.mono {p : Pg} {φ ψ : Emb} (hs : Sub φ ψ) {bi : BI} {w : World} {ob : IObj} (h : BlockRel p φ bi w ob) : BlockRel p ψ bi w ob := by
  cases h with
  | cells hi hes hisz hw hss hsz hv hcell hfr hj => exact .cells hi hes hisz hw hss hsz (hv.mono hs) hcell hfr hj
  | map hw hl hk => exact .map hw hl fun i k v e h1 h2 => ⟨(hk i k v e h1 h2).1,(hk i k v e h1 h2).2.1.mono hs,(hk i k v e h1 h2).2.2⟩
  | loop hw hfn hps hpl hasg hbody hN hT => exact .loop hw hfn hps hpl hasg hbody hN (hT.mono hs)
  | dead => exact .dead
theorem BlockRel.same {p : Pg} {φ : Emb} {bi : BI} {w w' : World} {ob : IObj} (hw' : w'.heap[bi.r]? = w.heap[bi.r]?) (h : BlockRel p φ bi w ob) : BlockRel p φ bi w' ob := by
  cases h with
  | cells hi hes hisz hw hss hsz hv hcell hfr hj => exact .cells hi hes hisz (hw'.trans hw) hss hsz hv hcell hfr hj
  | map hw hl hk => exact .map (hw'.trans hw) hl hk
  | loop hw hfn hps hpl hasg hbody hN hT => exact .loop (hw'.trans hw) hfn hps hpl hasg hbody hN hT
  | dead => exact .dead
theorem BlockRel.lt {p : Pg} {φ : Emb} {bi : BI} {w : World} {ob : IObj} (h : BlockRel p φ bi w ob) (hl : liveO ob = true) : bi.r < w.heap.size := by
  cases h with
  | cells hi hes hisz hw => exact (Array.getElem?_eq_some_iff.1 hw).1
  | map hw => exact (Array.getElem?_eq_some_iff.1 hw).1
  | loop hw => exact (Array.getElem?_eq_some_iff.1 hw).1
  | dead => cases hl
end Go.L1


namespace Go.L1
open Go

theorem VP.vr {φ : Emb} {v v' : Value} (h : VP φ v v') (hn : isPoison v = false) : VR φ v v' := by
  rcases h with h | h
  · rw [h] at hn; cases hn
  · exact h
theorem VR.vp {φ : Emb} {v v' : Value} (h : VR φ v v') : VP φ v v' := .inr h

theorem VP.boolI {φ : Emb} {t : Bool} {v' : Value} (h : VP φ (.bool t) v') : v' = .bool t := by cases h.vr rfl; rfl
theorem VP.intI {φ : Emb} {k : IntKind} {n : Int} {v' : Value} (h : VP φ (.int k n) v') : v' = .int k n := by cases h.vr rfl; rfl
theorem VP.strI {φ : Emb} {s : ByteArray} {v' : Value} (h : VP φ (.string s) v') : v' = .string s := by cases h.vr rfl; rfl
theorem VP.ptrI {φ : Emb} {b off : Nat} {v' : Value} (h : VP φ (.pointer (some ⟨b,off,none⟩)) v') : ∃ bi,φ b = some bi ∧ v' = .pointer (some ⟨bi.r,bi.o + off,none⟩) := by
  cases h.vr rfl with | ptr hb => exact ⟨_,hb,rfl⟩
theorem VP.ptrI' {φ : Emb} {a : Addr} {v' : Value} (h : VP φ (.pointer (some a)) v') : ∃ a',v' = .pointer (some a') ∧ VR φ (.pointer (some a)) (.pointer (some a')) := by
  have hv := h.vr rfl
  cases hv with | ptr hb => exact ⟨_,rfl,.ptr hb⟩
theorem VP.sliceI {φ : Emb} {b off n c : Nat} {v' : Value} (h : VP φ (.slice (some ⟨b,off,none⟩) n c) v') : ∃ bi a' c',φ b = some bi ∧ v' = .slice (some a') n c' ∧ n ≤ c' ∧ (c' = 0 ∨ a' = ⟨bi.r,bi.o + off,none⟩) ∧
    ((c = uc ∧ bi.isz ≤ off + c' * bi.es ∧ (c' = 0 ∨ (bi.o + off + c' * bi.es ≤ bi.s ∧ c' < uc))) ∨ (c' = c ∧ c < uc)) := by
  cases h.vr rfl with | slice hb hn ha hc => exact ⟨_,_,_,hb,rfl,hn,ha,hc⟩
theorem VP.nilsliceI {φ : Emb} {n c : Nat} {v' : Value} (h : VP φ (.slice none n c) v') : n = 0 ∧ c = 0 ∧ v' = .slice none 0 0 := by
  cases h.vr rfl; exact ⟨rfl,rfl,rfl⟩
theorem VP.mapI {φ : Emb} {b : Nat} {v' : Value} (h : VP φ (.map (some b)) v') : ∃ bi,φ b = some bi ∧ v' = .map (some bi.r) := by
  cases h.vr rfl with | map hb => exact ⟨_,hb,rfl⟩
theorem VP.nilmapI {φ : Emb} {v' : Value} (h : VP φ (.map none) v') : v' = .map none := by cases h.vr rfl; rfl
theorem VP.aggI {φ : Emb} {cs : Array Value} {v' : Value} (h : VP φ (.agg cs) v') : ∃ cs',v' = .agg cs' ∧ VL φ cs.toList cs'.toList := by
  cases h.vr rfl with | agg l h1 => exact ⟨_,rfl,l,h1⟩
theorem VP.tupleI {φ : Emb} {cs : Array Value} {v' : Value} (h : VP φ (.tuple cs) v') : ∃ cs',v' = .tuple cs' ∧ VL φ cs.toList cs'.toList := by
  cases h.vr rfl with | tuple l h1 => exact ⟨_,rfl,l,h1⟩
theorem VP.funcI {φ : Emb} {f : Nat} {x y : Array Value} {v' : Value} (h : VP φ (.func (.func f) x y) v') : ∃ x' y',v' = .func (.func f) x' y' ∧ VL φ x.toList x'.toList ∧ VL φ y.toList y'.toList := by
  cases h.vr rfl with | func _ l1 l2 h1 h2 => exact ⟨_,_,rfl,⟨l1,h1⟩,⟨l2,h2⟩⟩
theorem VP.yieldI {φ : Emb} {b : Nat} {x y : Array Value} {v' : Value} (h : VP φ (.func (.yield b) x y) v') : ∃ bi,φ b = some bi ∧ x = #[] ∧ y = #[] ∧ v' = .func (.yield bi.r) #[] #[] := by
  cases h.vr rfl with | yield hb => exact ⟨_,hb,rfl,rfl,rfl⟩

theorem addr_add (g o n : Nat) : (⟨g,o,none⟩ : Addr).add n = ⟨g,o + n,none⟩ := by unfold Addr.add; split <;> simp_all

theorem eval_rel {φ : Emb} {T : Env} {a : Act} (hE : ER φ T a.tmps) {x : Operand} (hx : operandOk x = true) : VP φ (eval T x) (a.eval x) := by
  cases x with
  | tmp t => exact hE t
  | const v => exact (VR.pure φ hx).vp
  | global g => exact .inl rfl
  | func f => exact (VR.func f rfl rfl (fun i x y h => by simp at h) (fun i x y h => by simp at h)).vp

theorem VR.tuple2 {φ : Emb} {a b a' b' : Value} (h : VR φ a a') (h' : VR φ b b') : VR φ (.tuple #[a,b]) (.tuple #[a',b']) :=
  .tuple rfl (VL.cons h (VL.cons h' (VL.nil φ))).2
section mem
variable {p : Pg} {P : Program} {φ : Emb} {w : World}

theorem cellsAt_inv {C : Cont} {b off n : Nat} {cs : List Value} (h : cellsAt C b off n = some cs) :
    ∃ vs ty ro,C b = some (.cells vs ty ro) ∧ off + n ≤ vs.length ∧ cs = (vs.drop off).take n := by
  unfold cellsAt at h
  split at h
  · rename_i vs ty ro he
    split at h
    · cases h; exact ⟨vs,ty,ro,he,by assumption,rfl⟩
    · cases h
  · cases h

theorem BlockRel.read {bi : BI} {vs : List Value} {ty : TypeId} {ro : Bool} (h : BlockRel p φ bi w (.cells vs ty ro)) {off n : Nat} (hl : off + n ≤ vs.length) :
    ∃ cs',VL φ ((vs.drop off).take n) cs' ∧ cs'.length = n ∧ (∀ x ∈ (vs.drop off).take n,isCell x = true) ∧ ∀ j v,cs'[j]? = some v → w.cell? ((⟨bi.r,bi.o + off,none⟩ : Addr).add j) = some v := by
  cases h with
  | @cells _ _ _ cs ty' fr i hi hes hisz hw hs hsz hv hcell hfr =>
    refine ⟨((cs.toList.drop bi.o).take vs.length |>.drop off).take n,(hv.drop off).take n,?_,fun x hx => hcell x (List.mem_of_mem_drop (List.mem_of_mem_take hx)),?_⟩
    · have hcs : cs.toList.length = bi.s := by simpa using hs
      simp only [List.length_take,List.length_drop,hcs]
      omega
    · intro j v hj
      rw [List.getElem?_take] at hj
      split at hj
      · rename_i hjn
        rw [List.getElem?_drop,List.getElem?_take] at hj
        split at hj
        · rw [List.getElem?_drop] at hj
          rw [addr_add]
          simp only [World.cell?,hw,Option.isSome_none,Bool.false_eq_true,if_false]
          rw [← hj,← Array.getElem?_toList]
          congr 1
          omega
        · cases hj
      · cases hj

theorem loadCells_sim {C : Cont} {b off n : Nat} {cs : List Value} {bi : BI} (h : cellsAt C b off n = some cs) (hb : ∃ ob,C b = some ob ∧ BlockRel p φ bi w ob) :
    ∃ cs',VL φ cs cs' ∧ cs'.length = n ∧ (∀ x ∈ cs,isCell x = true) ∧ (loadCells ⟨bi.r,bi.o + off,none⟩ n).run P w = .ok cs'.toArray w ∧
      (∀ j v,cs'[j]? = some v → w.cell? ((⟨bi.r,bi.o + off,none⟩ : Addr).add j) = some v) := by
  obtain ⟨vs,ty,ro,hC,hl,rfl⟩ := cellsAt_inv h
  obtain ⟨ob,hC',hr⟩ := hb
  rw [hC] at hC'
  cases hC'
  obtain ⟨cs',h1,h2,h3,h4⟩ := hr.read hl
  refine ⟨cs',h1,h2,h3,?_,h4⟩
  have := run_loadCells_list (P := P) w ⟨bi.r,bi.o + off,none⟩ cs' h4
  rwa [h2] at this

theorem load_sim {C : Cont} {b off : Nat} {x : Value} {bi : BI} (h : cellsAt C b off 1 = some [x]) (hb : ∃ ob,C b = some ob ∧ BlockRel p φ bi w ob) :
    ∃ y,VR φ x y ∧ (load ⟨bi.r,bi.o + off,none⟩).run P w = .ok y w := by
  obtain ⟨cs',h1,h2,h3,_,h4⟩ := loadCells_sim (P := P) h hb
  obtain ⟨y,r,rfl,hxy,_⟩ := h1.cons_inv
  refine ⟨y,hxy,?_⟩
  have := h4 0 y rfl
  rw [addr_add] at this
  simp only [Nat.add_zero] at this
  simp [this]

theorem run_isAgg {t : Nat} {i : TyI} (h : TyFits P t i) (w : World) : (isAgg t).run P w = .ok (isAggD i.desc) w := by
  unfold isAgg
  simp only [Sem.run_bind,run_underlying h.und,Result.andThen_ok]
  unfold isAggD
  split <;> simp_all
theorem run_size {t : Nat} {i : TyI} (h : TyFits P t i) (w : World) : (sizeOf t).run P w = .ok i.size w := by
  obtain ⟨⟨x,hx,hs,_⟩,_,_,_,_⟩ := h
  simp [sizeOf,typeInfo,hx,hs]
theorem run_zero {t : Nat} {i : TyI} (h : TyFits P t i) (w : World) : ∃ z,(zeroValue t).run P w = .ok z w ∧ cellsOf z = some i.zero ∧ pureC 6 z = true ∧ isAggV z = isAggD i.desc := by
  obtain ⟨⟨x,hx,_,_,⟨z,hz,hc,hp,ha⟩,_⟩,_,_,_,_⟩ := h
  exact ⟨z,by simp [zeroValue,typeInfo,hx,hz],hc,hp,ha⟩
theorem run_bytes {t : Nat} {i : TyI} (h : TyFits P t i) (w : World) : ∃ x,(typeInfo t).run P w = .ok x w ∧ x.bytes = i.bytes := by
  obtain ⟨⟨x,hx,_,hb,_⟩,_,_,_,_⟩ := h
  exact ⟨x,by simp [typeInfo,hx],hb⟩

theorem rLoad_sim {C : Cont} {t : Nat} {i : TyI} (ht : TyFits P t i) {x v x' : Value} (h : rLoad C i x = some v)
    (hx : VP φ x x') (hR : ∀ b off bi,x = .pointer (some ⟨b,off,none⟩) → φ b = some bi → ∃ ob,C b = some ob ∧ BlockRel p φ bi w ob) :
    ∃ a' v',x' = .pointer (some a') ∧ (loadVar t a').run P w = .ok v' w ∧ VR φ v v' := by
  unfold rLoad at h
  split at h
  · rename_i b off
    cases hx.vr rfl with
    | @ptr _ _ bi hb =>
      have hR' := hR b off bi rfl hb
      simp only [loadVar,Sem.run_bind,run_isAgg ht,run_size ht,Result.andThen_ok]
      split at h
      · rename_i hagg
        obtain ⟨cs,hcs,rfl⟩ := Option.map_eq_some_iff.1 h
        obtain ⟨cs',h1,h2,h3,h4,_⟩ := loadCells_sim (P := P) hcs hR'
        refine ⟨_,.agg cs'.toArray,rfl,?_,.agg ?_ ?_⟩
        · simp [hagg,h4,run_size ht]
        · simpa using h1.1
        · intro j x y hx hy; exact h1.2 j x y (by simpa using hx) (by simpa using hy)
      · rename_i hagg
        split at h
        · rename_i x hc
          cases h
          obtain ⟨y,hxy,hl⟩ := load_sim (P := P) hc hR'
          refine ⟨_,y,rfl,?_,hxy⟩
          have hf : isAggD i.desc = false := by simpa using hagg
          simp only [hf,Bool.false_eq_true,if_false,hl]
        · cases h
  · cases h

theorem putAt_length {vs : List Value} {off : Nat} {new : List Value} (h : off + new.length ≤ vs.length) : (putAt vs off new).length = vs.length := by
  simp [putAt]; omega
theorem VL.putAt {a a' b b' : List Value} (h : VL φ a a') (h' : VL φ b b') (off : Nat) : VL φ (L1.putAt a off b) (L1.putAt a' off b') := by
  unfold L1.putAt
  rw [h'.1]
  exact ((h.take off).append h').append (h.drop _)
theorem foldl_set (off : Nat) : ∀ (new : List Value) (j : Nat) (cs : Array Value),off + j + new.length ≤ cs.size →
    ((new.zipIdx j).foldl (fun cs (c,j) => cs.setIfInBounds (off + j) c) cs).toList = cs.toList.take (off + j) ++ new ++ cs.toList.drop (off + j + new.length)
  | [],j,cs,_ => by simp
  | c :: new,j,cs,h => by
    simp only [List.zipIdx_cons,List.foldl_cons]
    rw [foldl_set off new (j + 1) (cs.setIfInBounds (off + j) c) (by simp at h ⊢; omega)]
    have e := list_seg_step cs.toList (off + j) c new (by simp at h ⊢; omega)
    simpa [Array.toList_setIfInBounds,Nat.add_assoc] using e
theorem fill_sim {place place' : Nat → Option (Nat × Nat)} (hpp : ∀ j os,place j = some os → place' j = some os) : ∀ {parts parts' : List (Nat × Value)} {cells out : List Value} {cells' : Array Value},fillAt place cells parts = some out →
    VL φ cells cells'.toList → parts.length = parts'.length → (∀ (i : Nat) (x y : Nat × Value),parts[i]? = some x → parts'[i]? = some y → x.1 = y.1 ∧ VP φ x.2 y.2) →
    ∃ out',Instr.fill place' cells' parts' = some out' ∧ VL φ out out'.toList
  | [],parts',cells,out,cells',h,hc,hl,_ => by
    cases h
    cases parts' with
    | nil => exact ⟨cells',rfl,hc⟩
    | cons _ _ => simp at hl
  | (i,v) :: rest,parts',cells,out,cells',h,hc,hl,hp => by
    cases parts' with
    | nil => simp at hl
    | cons y rest' =>
      obtain ⟨i',v'⟩ := y
      obtain ⟨rfl,hv⟩ := hp 0 _ _ rfl rfl
      simp only [fillAt] at h
      simp only [Instr.fill]
      cases hpl : place i with
      | none => rw [hpl] at h; cases h
      | some os =>
        obtain ⟨off,size⟩ := os
        rw [hpl] at h
        rw [hpp _ _ hpl]
        simp only at h ⊢
        cases hco : cellsOf v with
        | none => rw [hco] at h; cases h
        | some cs =>
          rw [hco] at h
          simp only at h
          split at h
          · rename_i hcond
            have hnp : isPoison v = false := by cases v <;> simp_all [isPoison,cellsOf,isCell]
            obtain ⟨h1,_,_⟩ := (hv.vr hnp).cells hco
            have hsz : v'.cells.size = size := by rw [← Array.length_toList,← h1.1,hcond.1]
            have hcl : cells'.size = cells.length := by rw [← Array.length_toList,hc.1]
            have hoff : off + v'.cells.size ≤ cells'.size := by omega
            rw [if_neg (by simp; omega)]
            have e := foldl_set off v'.cells.toList 0 cells' (by simpa using hoff)
            refine fill_sim hpp (cells' := _) h ?_ (by simpa using hl) (fun j x y hx hy => hp (j + 1) x y (by simpa using hx) (by simpa using hy))
            rw [← Array.foldl_toList,Array.toList_zipIdx]
            simp only [Nat.add_zero] at e
            have e' := (hc.putAt h1 off)
            unfold L1.putAt at e' ⊢
            rw [show cells'.toList.take off ++ v'.cells.toList ++ cells'.toList.drop (off + v'.cells.toList.length) = _ from e.symm] at e'
            exact e'
          · cases h

theorem bl_beq (a b : ByteArray) : (a == b) = (bl a == bl b) := by rw [beq_toListBytes,ByteArray.toList_eq,ByteArray.toList_eq]; rfl
theorem eqV_sim (d : Nat) {t : Nat} {i : TyI} (ht : TyFits P t i) {a b a' b' : Value} {r : Bool} (h : eqV a b = some r) (ha : descEq i.desc a = true) (hb : descEq i.desc b = true)
    (va : VR φ a a') (vb : VR φ b b') (w : World) : (Op.equalIn (d + 1) t a' b').run P w = .ok r w := by
  have hu := ht.und
  generalize hD : i.desc = D at *
  simp only [Op.equalIn,Sem.run_bind,run_underlying hu,Result.andThen_ok]
  unfold eqV at h
  split at h
  all_goals first | cases h | skip
  all_goals cases va
  all_goals cases vb
  all_goals cases D <;> simp [descEq] at ha hb
  all_goals simp_all [Op.equalIn,bl_beq]
theorem descEq_np {d : TypeDesc} {v : Value} (h : descEq d v = true) : isPoison v = false := by
  cases d <;> cases v <;> simp_all [descEq,isPoison]
theorem eqFields_sim (hF : Fits p P) (d : Nat) {xs ys xs' ys' : Array Value} (hx : VL φ xs.toList xs'.toList) (hy : VL φ ys.toList ys'.toList) (w : World) : ∀ {fs : List Field} {r : Bool},
    eqFields p.ty xs.toList ys.toList fs = some r → (Op.eqFields (d + 1) xs' ys' fs).run P w = .ok r w
  | [],r,h => by cases h; rfl
  | f :: fs,r,h => by
    simp only [eqFields] at h
    split at h
    · rename_i i a b hi ha hb
      split at h
      · rename_i hc
        obtain ⟨hn,hda,hdb⟩ := hc
        have ht := hF.ty _ _ hi
        obtain ⟨a',ha',va⟩ := hx.get ha
        obtain ⟨b',hb',vb⟩ := hy.get hb
        have hagg : isAggD i.desc = false := by cases hD : i.desc <;> simp_all [descEq,isAggD]
        have pa : (part f.type xs' f.offset).run P w = .ok a' w := by
          simp only [part,Sem.run_bind,run_isAgg ht,Result.andThen_ok,hagg,Bool.false_eq_true,if_false]
          rw [← Array.getElem?_toList,ha']; rfl
        have pb : (part f.type ys' f.offset).run P w = .ok b' w := by
          simp only [part,Sem.run_bind,run_isAgg ht,Result.andThen_ok,hagg,Bool.false_eq_true,if_false]
          rw [← Array.getElem?_toList,hb']; rfl
        simp only [Op.eqFields,if_pos hn,Sem.run_bind,pa,pb,Result.andThen_ok]
        split at h
        · rename_i he
          rw [eqV_sim d ht he hda hdb va vb w]
          simpa using eqFields_sim hF d hx hy w h
        · rename_i q hq
          rw [eqV_sim d ht h hda hdb va vb w]
          cases r with
          | false => simp
          | true => exact absurd h hq
      · cases h
    · cases h
theorem eqCells_sim (hF : Fits p P) (d : Nat) {e : Nat} {ei : TyI} (he : p.ty e = some ei) (hs : ei.size = 1) (hagg : isAggD ei.desc = false) (w : World) {xs' ys' : Array Value} :
    ∀ {xs ys : List Value} {r : Bool} (k : Nat),VL φ xs (xs'.toList.drop k) → VL φ ys (ys'.toList.drop k) →
    eqCells ei.desc xs ys = some r → (Op.eqItems (d + 1) e 1 xs' ys' (List.range' k xs.length)).run P w = .ok r w
  | [],[],r,k,_,_,h => by cases h; rfl
  | [],_ :: _,r,k,_,_,h => by cases h
  | _ :: _,[],r,k,_,_,h => by cases h
  | a :: xs,b :: ys,r,k,hx,hy,h => by
    have ht := hF.ty _ _ he
    simp only [eqCells] at h
    split at h
    · rename_i hc
      obtain ⟨hda,hdb⟩ := hc
      obtain ⟨a',xr,hxe,va,hx2⟩ := hx.cons_inv
      obtain ⟨b',yr,hye,vb,hy2⟩ := hy.cons_inv
      have ga : xs'[k]? = some a' := by
        have := congrArg (fun l => l[0]?) hxe
        simpa [List.getElem?_drop] using this
      have gb : ys'[k]? = some b' := by
        have := congrArg (fun l => l[0]?) hye
        simpa [List.getElem?_drop] using this
      have dx : xs'.toList.drop (k + 1) = xr := by rw [← List.drop_drop,hxe]; rfl
      have dy : ys'.toList.drop (k + 1) = yr := by rw [← List.drop_drop,hye]; rfl
      have pa : (part e xs' (k * 1)).run P w = .ok a' w := by
        simp only [part,Sem.run_bind,run_isAgg ht,Result.andThen_ok,hagg,Bool.false_eq_true,if_false,Nat.mul_one,ga,Sem.run_pure]
      have pb : (part e ys' (k * 1)).run P w = .ok b' w := by
        simp only [part,Sem.run_bind,run_isAgg ht,Result.andThen_ok,hagg,Bool.false_eq_true,if_false,Nat.mul_one,gb,Sem.run_pure]
      simp only [List.length_cons,List.range'_succ,Op.eqItems,Sem.run_bind,pa,pb,Result.andThen_ok]
      split at h
      · rename_i hq
        rw [eqV_sim d ht hq hda hdb va vb w]
        have := eqCells_sim hF d he hs hagg w (k + 1) (dx ▸ hx2) (dy ▸ hy2) h
        simpa using this
      · rename_i q hq
        rw [eqV_sim d ht h hda hdb va vb w]
        cases r with
        | false => simp
        | true => exact absurd h hq
    · cases h

def noGuard : Value → Bool
  | .agg _ | .nilIface => false
  | _ => true
theorem descEq_noGuard {d : TypeDesc} {v v' : Value} (h : descEq d v = true) (hv : VR φ v v') : noGuard v' = true := by
  have : noGuard v = true := by cases d <;> cases v <;> simp_all [descEq,noGuard]
  cases hv <;> simp_all [noGuard]
theorem run_eqGuard_plain (op : BinOp) (t : TypeId) (x y : Operand) {a b : Value} (h : noGuard a = true) (w : World) : (eqGuard op t x y a b).run P w = .ok () w := by
  unfold eqGuard
  cases a <;> first | (simp [noGuard] at h; done) | (cases op <;> simp)
theorem eqT_sim (hF : Fits p P) {t : Nat} {i : TyI} (hi : p.ty t = some i) {a b a' b' : Value} {r : Bool} (h : eqT p.ty i a b = some r)
    (va : VP φ a a') (vb : VP φ b b') (w : World) (x y : Operand) (op : BinOp) : (eqGuard op t x y a' b').run P w = .ok () w ∧ (Op.equal t a' b').run P w = .ok r w := by
  have ht := hF.ty _ _ hi
  have scalar : descEq i.desc a = true → descEq i.desc b = true → eqV a b = some r → (eqGuard op t x y a' b').run P w = .ok () w ∧ (Op.equal t a' b').run P w = .ok r w := by
    intro hda hdb he
    have va' := va.vr (descEq_np hda)
    have vb' := vb.vr (descEq_np hdb)
    exact ⟨run_eqGuard_plain op t x y (descEq_noGuard hda va') w,eqV_sim 9999 ht he hda hdb va' vb' w⟩
  unfold eqT at h
  split at h
  · rename_i fs xs ys hD
    split at h
    · rename_i hok
      cases va.vr rfl with
      | agg la h1 =>
        cases vb.vr rfl with
        | agg lb h2 =>
          obtain ⟨e1,e2⟩ := ht.eqok hok
          refine ⟨run_eqGuard_agg w op t x y _ _ e1,?_⟩
          have hfs : P.fieldsOf t = fs := by simp [Program.fieldsOf,ht.und,hD]
          have hut : P.underlying t = some (.struct (P.fieldsOf t)) := by rw [hfs,ht.und,hD]
          have := eqFields_sim hF 9998 (xs' := _) (ys' := _) ⟨la,h1⟩ ⟨lb,h2⟩ w h
          rw [show Op.equal t _ _ = Op.equalIn (9999 + 1) t _ _ from rfl,run_equalIn_struct w 9999 t _ _ hut e2,hfs]
          exact this
    · cases h
  · rename_i n e xs ys hD
    split at h
    · rename_i ei hei
      split at h
      · rename_i hc
        obtain ⟨hok,hs,hagg,l1,l2⟩ := hc
        cases va.vr rfl with
        | agg la h1 =>
          cases vb.vr rfl with
          | agg lb h2 =>
            obtain ⟨e1,_⟩ := ht.eqok hok
            refine ⟨run_eqGuard_agg w op t x y _ _ e1,?_⟩
            obtain ⟨⟨xi,hxi,hxs,_⟩,_,_,_,_⟩ := hF.ty _ _ hei
            have hu : P.underlying t = some (.array n e) := by rw [ht.und,hD]
            rw [show Op.equal t _ _ = Op.equalIn (9999 + 1) t _ _ from rfl,run_equalIn_array w 9999 _ _ hu hxi]
            have hco : P.cellsOf e = 1 := by simp [Program.cellsOf,hxi,hxs,hs]
            rw [hco,List.range_eq_range',← l1]
            exact eqCells_sim hF 9998 hei hs hagg w 0 ⟨la,h1⟩ ⟨lb,h2⟩ h
      · cases h
    · cases h
  · split at h
    · rename_i hc
      exact scalar hc.1 hc.2 h
    · cases h
end mem
end Go.L1
