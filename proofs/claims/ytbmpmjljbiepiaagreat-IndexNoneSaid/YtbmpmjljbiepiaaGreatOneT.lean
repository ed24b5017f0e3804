/- Texts of a proof: no condition. -/
import Derived.Test.YtbmpmjljbiepiaaGreatOneS
set_option autoImplicit true
set_option relaxedAutoImplicit true
set_option linter.all false
set_option linter.unusedVariables false
set_option linter.unusedSimpArgs false
/-! L1, twentieth part: the operations as the printed functions name them. -/
namespace Go.L1
open Go
def nt : List Value → Nat → Value
  | vs, 0 => vs.headD poison
  | vs, n + 1 => nt vs.tail n
section
variable (p : Pg)
def oBuild (t : Nat) (ps : List (Nat × Value)) : Option Value := (p.ty t).bind fun i => (fillAt (placeOf p.ty i) i.zero ps).bind fun cs => if isAggD i.desc then some (.agg cs.toArray) else none
def oBin (t : Nat) (op : BinOp) (x y : Value) : Option Value := (p.ty t).bind fun i => binV p.ty i op x y
def oFunc (f : Nat) (a b : Array Value) : Option Value := if a.toList.all isCell && b.toList.all isCell then some (.func (.func f) a b) else none
def oFA (s : Nat) (x : Value) (f : Nat) : Option Value := (p.ty s).bind fun i => (fieldOf i f).bind fun fd => (p.ty fd.type).bind fun fi => if fi.size = 0 then none else rFld fd.offset x
def oFld (t : Nat) (x : Value) (f : Nat) : Option Value := (p.ty t).bind fun i => (fieldOf i f).bind fun fd => (p.ty fd.type).bind fun fi => rPart fi fd.offset x
def oIA (t : Nat) (x ix : Value) : Option Value := (p.ty t).bind fun i =>
    match i.desc with
    | .array n e => (p.ty e).bind fun ei => rIdxA n ei.size x ix
    | .slice e => (p.ty e).bind fun ei => rIdxS ei.size x ix
    | _ => none
def oIx (t : Nat) (x ix : Value) : Option Value := (p.ty t).bind fun i =>
    match i.desc with
    | .array n e => (p.ty e).bind fun ei => (idxN ix).bind fun j => if j < n then rPart ei (j * ei.size) x else none
    | .string => match x with
      | .string s => rIdxStr s ix
      | _ => none
    | _ => none
def oLd (C : Cont) (t : Nat) (a : Value) : Option Value := (p.ty t).bind fun i => rLoad C i a
def oCv (C : Cont) (s d : Nat) (x : Value) : Option Value := (p.ty s).bind fun si => (p.ty d).bind fun di => rConv C p.ty si di x
def oSl (C : Cont) (t : Nat) (x : Value) (lo hi mx : Option Value) : Option Value := (p.ty t).bind fun i =>
    match i.desc, x with
    | .string, .string s => rSliceStr s lo hi mx
    | .slice e, .slice a n c => (p.ty e).bind fun ei => rSlice C e ei.size a n c lo hi mx
    | _, _ => none
def oLk (C : Cont) (t : Nat) (x k : Value) (ok : Bool) : Option Value := (p.ty t).bind fun i =>
    match i.desc with
    | .map kt e => (p.ty kt).bind fun ki => match ki.desc with
      | .string => (p.ty e).bind fun ei => (zeroV ei).bind fun z => rLook C z x k ok
      | _ => none
    | _ => none
def aAlloc (n e : Nat) : Option (Value × IObj) := (p.ty e).bind fun i => some (.pointer (some ⟨n, 0, none⟩), .cells i.zero e false)
def aBox (n e : Nat) (x : Value) : Option (Value × IObj) := (p.ty e).bind fun i =>
    (cellsOf x).bind fun cs => if cs.length = i.size then some (.pointer (some ⟨n, 0, none⟩), .cells cs e false) else none
def aBuildS (n t len : Nat) (ps : List (Nat × Value)) : Option (Value × IObj) := (p.ty t).bind fun i =>
    match i.desc with
    | .slice e => (p.ty e).bind fun ei =>
      if len * (ei.size + 1) ≤ 65536 then
        (fillAt (fun j => some (j * ei.size, ei.size)) (rep ei.zero len) ps).bind fun cs =>
          some (.slice (some ⟨n, 0, none⟩) len len, .cells cs e false)
      else none
    | _ => none
def aMap (n : Nat) : Option (Value × IObj) := some (.map (some n), .map [])
def aMakeS (n t : Nat) (l c : Value) : Option (Value × IObj) := (p.ty t).bind fun i =>
    match i.desc with
    | .slice e => (p.ty e).bind fun ei =>
      match l, c with
      | .int .i64 l, .int .i64 c =>
        if 0 ≤ l ∧ l ≤ c ∧ c * (ei.bytes + ei.size + 1) ≤ 1099511627776 then
          some (.slice (some ⟨n, 0, none⟩) l.toNat c.toNat, .cells (rep ei.zero c.toNat) e false)
        else none
      | _, _ => none
    | _ => none
def hStore (h : H) (t : Nat) (a x : Value) : Option (Value × H × List Nat) := (p.ty t).bind fun i => rStore h i.size a x
def hMapU (h : H) (t : Nat) (m k x : Value) : Option (Value × H × List Nat) := (p.ty t).bind fun i => match i.desc with
    | .map kt _ => (p.ty kt).bind fun ki => match ki.desc with
      | .string => rMapUpd h m k x
      | _ => none
    | _ => none
end
def rdP (v : Value) : List Nat := match v with | .pointer (some a) => [a.block] | _ => []
def rdS (v : Value) : List Nat := match v with | .slice (some a) _ _ => [a.block] | _ => []
def rdM (v : Value) : List Nat := match v with | .map (some r) => [r] | _ => []
def rdL (l : List Value) : List Nat := l.flatMap rdM
def rsT (v : Value) (r : Option (List Value)) : Option (List Value) := if isPoison v then none else r.map (v :: ·)
def rsC (p : Pg) (C : Cont) (a : Value) (t : Nat) (r : Option (List Value)) : Option (List Value) := ((p.ty t).bind fun i => rLoad C i a).bind fun v => r.map (v :: ·)
def fin (h0 : H) (r : Option (List Value)) (h : H) (lg : List Nat) : Option (Value × H × List Nat) := ob r fun vs => some (settle h0 (tupled vs) h lg)
def mP (h : H) : Mk := ⟨.pure, [], [], h.n, h.n⟩
def mR (h : H) (r : List Nat) : Mk := ⟨.pure, r, [], h.n, h.n⟩
def mA (h : H) (r : List Nat) : Mk := ⟨.alloc, r, [], h.n, h.n + 1⟩
def mH (h : H) (r l : List Nat) (h1 : H) : Mk := ⟨.heavy, r, l, h.n, h1.n⟩
def mG (w : Option Bool) (k : Kd) (r : List Nat) (h h1 : H) (l : List Nat) : Mk :=
  match w with
  | some true => ⟨k, r, l, h.n, h1.n⟩
  | _ => ⟨.pure, [], [], h.n, h.n⟩
/-- a piece of code, by its place -/
def cAt : List Nat → Code → Code
  | 0 :: l, .seq a _ => cAt l a
  | _ :: l, .seq _ b => cAt l b
  | 0 :: l, .cond _ a _ => cAt l a
  | _ :: l, .cond _ _ b => cAt l b
  | _ :: l, .block _ b => cAt l b
  | _ :: l, .loop b => cAt l b
  | _, c => c
def rfA : Code → Code
  | .rangeFunc _ _ a _ => a
  | _ => .skip
def rfB : Code → Code
  | .rangeFunc _ _ _ b => b
  | _ => .skip
/-- what a guard comes to -/
def gd (v : Value) (want : Bool) : Option Bool :=
  match v with
  | .bool b => some (b == want)
  | .chan _ | .nilIface => none
  | _ => some false
end Go.L1
