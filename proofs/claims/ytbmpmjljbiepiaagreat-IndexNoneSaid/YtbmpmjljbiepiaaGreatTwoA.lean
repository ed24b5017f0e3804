/- Texts of a proof: no condition. -/
import Derived.Test.YtbmpmjljbiepiaaGreatOneU
set_option autoImplicit true
set_option relaxedAutoImplicit true
set_option linter.all false
set_option linter.unusedVariables false
set_option linter.unusedSimpArgs false
/-! L2, first part: the operations as the printed functions name them, their types resolved. -/
namespace Go.L1
open Go
def tyO (size bytes : Nat) (zero : List Value) : TyI := ⟨.invalid, size, bytes, zero, false⟩
def tyD (d : TypeDesc) : TyI := ⟨d, 1, 0, [], false⟩
def fillO (cells : List Value) : List (Nat × Nat × Value) → Option (List Value)
  | [] => some cells
  | (off, size, v) :: rest =>
    match cellsOf v with
    | none => none
    | some cs => if cs.length = size ∧ off + size ≤ cells.length then fillO (putAt cells off cs) rest else none
def rBuild (zero : List Value) (ps : List (Nat × Nat × Value)) : Option Value := (fillO zero ps).bind fun cs => some (.agg cs.toArray)
def rPart1 (off : Nat) : Value → Option Value
  | .agg cs => cs.toList[off]?
  | _ => none
def rPartA (size off : Nat) : Value → Option Value
  | .agg cs => if off + size ≤ cs.toList.length then some (.agg ((cs.toList.drop off).take size).toArray) else none
  | _ => none
def rIxA1 (n es : Nat) (x ix : Value) : Option Value := (idxN ix).bind fun j => if j < n then rPart1 (j * es) x else none
def rIxAA (n es : Nat) (x ix : Value) : Option Value := (idxN ix).bind fun j => if j < n then rPartA es (j * es) x else none
def rIxStr (x ix : Value) : Option Value := match x with
  | .string s => rIdxStr s ix
  | _ => none
def rLd1 (C : Cont) (v : Value) : Option Value :=
  match v with
  | .pointer (some ⟨b, o, none⟩) => match cellsAt C b o 1 with
    | some [x] => some x
    | _ => none
  | _ => none
def rLdA (C : Cont) (size : Nat) (v : Value) : Option Value :=
  match v with
  | .pointer (some ⟨b, o, none⟩) => (cellsAt C b o size).map fun cs => .agg cs.toArray
  | _ => none
def rCvI (k : IntKind) (x : Value) : Option Value := match x with
  | .int _ n => some (.int k (k.wrap n))
  | _ => none
def rSlStr (x : Value) (lo hi mx : Option Value) : Option Value := match x with
  | .string s => rSliceStr s lo hi mx
  | _ => none
def rSl (C : Cont) (e es : Nat) (x : Value) (lo hi mx : Option Value) : Option Value := match x with
  | .slice a n c => rSlice C e es a n c lo hi mx
  | _ => none
def rLenS (x : Value) : Option Value := match x with
  | .string s => some (.int .i64 s.size)
  | _ => none
def rLenL (x : Value) : Option Value := match x with
  | .slice _ n _ => some (.int .i64 n)
  | _ => none
def rCapL (x : Value) : Option Value := match x with
  | .slice _ _ c => if c = uc then none else some (.int .i64 c)
  | _ => none
def aNew (n e : Nat) (zero : List Value) : Option (Value × IObj) := some (.pointer (some ⟨n, 0, none⟩), .cells zero e false)
def aBx (n e size : Nat) (x : Value) : Option (Value × IObj) := (cellsOf x).bind fun cs => if cs.length = size then some (.pointer (some ⟨n, 0, none⟩), .cells cs e false) else none
def aBS (n e es : Nat) (zero : List Value) (len : Nat) (ps : List (Nat × Value)) : Option (Value × IObj) :=
  if len * (es + 1) ≤ 65536 then
    (fillAt (fun j => some (j * es, es)) (rep zero len) ps).bind fun cs => some (.slice (some ⟨n, 0, none⟩) len len, .cells cs e false)
  else none
def aMk (n e es bytes : Nat) (zero : List Value) (l c : Value) : Option (Value × IObj) :=
  match l, c with
  | .int .i64 l, .int .i64 c =>
    if 0 ≤ l ∧ l ≤ c ∧ c * (bytes + es + 1) ≤ 1099511627776 then
      some (.slice (some ⟨n, 0, none⟩) l.toNat c.toNat, .cells (rep zero c.toNat) e false)
    else none
  | _, _ => none
def rApp (h : H) (e es bytes : Nat) (zero : List Value) (s x : Value) : Option (Value × H × List Nat) :=
  (match x with
   | .slice xa xn _ => (sliceCells h.get es xa xn).map fun l => (xn, l)
   | _ => none).bind fun (m, new) =>
    match s with
    | .slice a n c => rAppend h e (tyO es bytes zero) a n c m new
    | _ => none
def rAppZ (h : H) (e es bytes : Nat) (zero : List Value) (s x : Value) : Option (Value × H × List Nat) :=
  (match x with
   | .int .i64 k => if 0 ≤ k ∧ k ≤ 1048576 then some (k.toNat, rep zero k.toNat) else none
   | _ => none).bind fun (m, new) =>
    match s with
    | .slice a n c => rAppend h e (tyO es bytes zero) a n c m new
    | _ => none
def rsK (x : Option Value) (r : Option (List Value)) : Option (List Value) := x.bind fun v => r.map (v :: ·)
/-- a table by binary numbers -/
inductive Tr (α : Type) where
  | e
  | n (v : Option α) (l r : Tr α)
def Tr.get {α : Type} : Tr α → Nat → Nat → Option α
  | .e, _, _ => none
  | .n v l r, fuel + 1, i => bif Nat.beq i 0 then v else bif Nat.beq (i % 2) 1 then l.get fuel (i / 2) else r.get fuel (i / 2 - 1)
  | .n _ _ _, 0, _ => none
def lk : List (Nat × List Nat) → Nat → List Nat
  | [], _ => []
  | (a, l) :: r, k => bif Nat.beq a k then l else lk r k
/-- what slices.Insert of one element is taken to do -/
def insS (e es bytes : Nat) (zero : List Value) (args : List Value) (h : H) : Option (Value × H × List Nat) :=
  match args with
  | [.slice a n c, .int .i64 i, .slice (some ⟨bv, ov, none⟩) 1 cv] =>
    if i = (n : Int) then
      if (a = none ∧ n = 0 ∧ c = 0) ∨ c = uc then (rApp h e es bytes zero (.slice a n c) (.slice (some ⟨bv, ov, none⟩) 1 cv)).map fun r => settle h r.1 r.2.1 r.2.2 else none
    else if 0 ≤ i ∧ i < (n : Int) then
      match a with
      | some ⟨b, o, none⟩ =>
        match h.get b, h.get bv with
        | some (.cells vs ty false), some (.cells ws _ false) =>
          if ty = e ∧ c = uc ∧ b ≠ bv ∧ o + n * es ≤ vs.length ∧ ov + es ≤ ws.length ∧ n + 1 ≤ 1048576 then
            some (.slice (some ⟨h.n, 0, none⟩) (n + 1) uc, (h.kill b).push (.cells ((vs.drop o).take (i.toNat * es) ++ (ws.drop ov).take es ++ ((vs.drop o).take (n * es)).drop (i.toNat * es)) e false), [b])
          else none
        | _, _ => none
      | _ => none
    else none
  | _ => none
/-- a call without arguments of which true is known to come -/
def tS (args : List Value) (h : H) : Option (Value × H × List Nat) :=
  match args with
  | [] => some (.bool true, h, [])
  | _ => none
end Go.L1
