/- Texts of a proof: no condition. -/
import Derived.Test.YtbmpmjljbiepiaaGreatOneA
import Derived.CallsIn
import Derived.OrdersIn
import Derived.RangeFuncIn
import Derived.RangeFuncLeaves
set_option autoImplicit true
set_option relaxedAutoImplicit true
set_option linter.all false
set_option linter.unusedVariables false
set_option linter.unusedSimpArgs false
/-! L1, second part: what an ideal run has to do with a real one. -/
namespace Go.L1

/-- where an ideal block lies: real block, offset, real size, the size of its elements, its own size -/
structure BI where
  r : Nat
  o : Nat
  s : Nat
  es : Nat
  isz : Nat
abbrev Emb := Nat → Option BI

/-- values alike -/
inductive VR (φ : Emb) : Value → Value → Prop
  | bool (b : Bool) : VR φ (.bool b) (.bool b)
  | int (k : IntKind) (n : Int) : VR φ (.int k n) (.int k n)
  | string (s : ByteArray) : VR φ (.string s) (.string s)
  | nilptr : VR φ (.pointer none) (.pointer none)
  | ptr {b off : Nat} {bi : BI} (h : φ b = some bi) : VR φ (.pointer (some ⟨b, off, none⟩)) (.pointer (some ⟨bi.r, bi.o + off, none⟩))
  | nilslice : VR φ (.slice none 0 0) (.slice none 0 0)
  | slice {b off n c c' : Nat} {bi : BI} {a' : Addr} (h : φ b = some bi) (hn : n ≤ c') (ha : c' = 0 ∨ a' = ⟨bi.r, bi.o + off, none⟩)
      (hc : (c = uc ∧ bi.isz ≤ off + c' * bi.es ∧ (c' = 0 ∨ (bi.o + off + c' * bi.es ≤ bi.s ∧ c' < uc))) ∨ (c' = c ∧ c < uc)) :
      VR φ (.slice (some ⟨b, off, none⟩) n c) (.slice (some a') n c')
  | nilmap : VR φ (.map none) (.map none)
  | map {b : Nat} {bi : BI} (h : φ b = some bi) : VR φ (.map (some b)) (.map (some bi.r))
  | nilFunc : VR φ .nilFunc .nilFunc
  | nilIface {v' : Value} (h : isCell v' = true) : VR φ .nilIface v'      -- a cell of which nothing is known
  | yield {b : Nat} {bi : BI} (h : φ b = some bi) : VR φ (.func (.yield b) #[] #[]) (.func (.yield bi.r) #[] #[])
  | func (f : Nat) {a a' c c' : Array Value} (ha : a.toList.length = a'.toList.length) (hc : c.toList.length = c'.toList.length)
      (h1 : ∀ (i : Nat) (x y : Value), a.toList[i]? = some x → a'.toList[i]? = some y → VR φ x y) (h2 : ∀ (i : Nat) (x y : Value), c.toList[i]? = some x → c'.toList[i]? = some y → VR φ x y) :
      VR φ (.func (.func f) a c) (.func (.func f) a' c')
  | agg {a a' : Array Value} (ha : a.toList.length = a'.toList.length) (h1 : ∀ (i : Nat) (x y : Value), a.toList[i]? = some x → a'.toList[i]? = some y → VR φ x y) : VR φ (.agg a) (.agg a')
  | tuple {a a' : Array Value} (ha : a.toList.length = a'.toList.length) (h1 : ∀ (i : Nat) (x y : Value), a.toList[i]? = some x → a'.toList[i]? = some y → VR φ x y) : VR φ (.tuple a) (.tuple a')

/-- lists alike -/
def VL (φ : Emb) (l l' : List Value) : Prop := l.length = l'.length ∧ ∀ (i : Nat) (x y : Value), l[i]? = some x → l'[i]? = some y → VR φ x y
/-- alike, or not known -/
def VP (φ : Emb) (v v' : Value) : Prop := isPoison v = true ∨ VR φ v v'
def Sub (φ ψ : Emb) : Prop := ∀ b bi, φ b = some bi → ψ b = some bi

theorem Sub.refl (φ : Emb) : Sub φ φ := fun _ _ h => h
theorem Sub.trans {φ ψ χ : Emb} (h : Sub φ ψ) (h' : Sub ψ χ) : Sub φ χ := fun b bi e => h' b bi (h b bi e)

theorem VR.mono {φ ψ : Emb} (hs : Sub φ ψ) {v v' : Value} (h : VR φ v v') : VR ψ v v' := by
  induction h with
  | bool b => exact .bool b
  | int k n => exact .int k n
  | string s => exact .string s
  | nilptr => exact .nilptr
  | ptr h => exact .ptr (hs _ _ h)
  | nilslice => exact .nilslice
  | slice h hn ha hc => exact .slice (hs _ _ h) hn ha hc
  | nilmap => exact .nilmap
  | map h => exact .map (hs _ _ h)
  | nilFunc => exact .nilFunc
  | nilIface h => exact .nilIface h
  | yield h => exact .yield (hs _ _ h)
  | func f ha hc _ _ i1 i2 => exact .func f ha hc i1 i2
  | agg ha _ i1 => exact .agg ha i1
  | tuple ha _ i1 => exact .tuple ha i1
theorem VL.mono {φ ψ : Emb} (hs : Sub φ ψ) {l l' : List Value} (h : VL φ l l') : VL ψ l l' := ⟨h.1, fun i x y a b => (h.2 i x y a b).mono hs⟩
theorem VP.mono {φ ψ : Emb} (hs : Sub φ ψ) {v v' : Value} (h : VP φ v v') : VP ψ v v' := h.imp id (VR.mono hs)

/-- What a value of the old blocks is alike to later, it is alike to by the old blocks alone. -/
theorem VR.back {φ ψ : Emb} (hs : Sub φ ψ) {v v₁ : Value} (h : VR φ v v₁) : ∀ {v₂ : Value}, VR ψ v v₂ → VR φ v v₂ := by
  induction h with
  | bool b => intro v₂ h2; cases h2; exact .bool b
  | int k n => intro v₂ h2; cases h2; exact .int k n
  | string s => intro v₂ h2; cases h2; exact .string s
  | nilptr => intro v₂ h2; cases h2; exact .nilptr
  | ptr h => intro v₂ h2; cases h2 with | ptr h' => have e := hs _ _ h; rw [h'] at e; cases e; exact .ptr h
  | nilslice => intro v₂ h2; cases h2; exact .nilslice
  | slice h hn ha hc => intro v₂ h2; cases h2 with | slice h' hn' ha' hc' => have e := hs _ _ h; rw [h'] at e; cases e; exact .slice h hn' ha' hc'
  | nilmap => intro v₂ h2; cases h2; exact .nilmap
  | map h => intro v₂ h2; cases h2 with | map h' => have e := hs _ _ h; rw [h'] at e; cases e; exact .map h
  | nilFunc => intro v₂ h2; cases h2; exact .nilFunc
  | nilIface h => intro v₂ h2; cases h2 with | nilIface h' => exact .nilIface h'
  | yield h => intro v₂ h2; cases h2 with | yield h' => have e := hs _ _ h; rw [h'] at e; cases e; exact .yield h
  | @func f a a' c c' ha hc h1 h2 i1 i2 =>
    intro v₂ h3
    cases h3 with
    | func _ ha' hc' h1' h2' =>
      refine .func f ha' hc' (fun i x y hx hy => ?_) (fun i x y hx hy => ?_)
      · have hi : i < a'.toList.length := ha ▸ (List.getElem?_eq_some_iff.1 hx).1
        exact i1 i x _ hx (List.getElem?_eq_getElem hi) (h1' i x y hx hy)
      · have hi : i < c'.toList.length := hc ▸ (List.getElem?_eq_some_iff.1 hx).1
        exact i2 i x _ hx (List.getElem?_eq_getElem hi) (h2' i x y hx hy)
  | @agg a a' ha h1 i1 =>
    intro v₂ h3
    cases h3 with
    | agg ha' h1' =>
      refine .agg ha' (fun i x y hx hy => ?_)
      have hi : i < a'.toList.length := ha ▸ (List.getElem?_eq_some_iff.1 hx).1
      exact i1 i x _ hx (List.getElem?_eq_getElem hi) (h1' i x y hx hy)
  | @tuple a a' ha h1 i1 =>
    intro v₂ h3
    cases h3 with
    | tuple ha' h1' =>
      refine .tuple ha' (fun i x y hx hy => ?_)
      have hi : i < a'.toList.length := ha ▸ (List.getElem?_eq_some_iff.1 hx).1
      exact i1 i x _ hx (List.getElem?_eq_getElem hi) (h1' i x y hx hy)

/-- A value that names blocks below n alone. -/
theorem VR.low {φ ψ : Emb} {n : Nat} (hs : ∀ b bi, b < n → ψ b = some bi → φ b = some bi) {v v' : Value} (h : VR ψ v v') : ∀ {d : Nat}, belowV n d v = true → VR φ v v' := by
  induction h with
  | bool b => intro d hd; exact .bool b
  | int k n => intro d hd; exact .int k n
  | string s => intro d hd; exact .string s
  | nilptr => intro d hd; exact .nilptr
  | ptr h => intro d hd; exact .ptr (hs _ _ (by simpa [belowV] using hd) h)
  | nilslice => intro d hd; exact .nilslice
  | slice h hn ha hc => intro d hd; exact .slice (hs _ _ (by simpa [belowV] using hd) h) hn ha hc
  | nilmap => intro d hd; exact .nilmap
  | map h => intro d hd; exact .map (hs _ _ (by simpa [belowV] using hd) h)
  | nilFunc => intro d hd; exact .nilFunc
  | nilIface h => intro d hd; exact .nilIface h
  | yield h => intro d hd; cases d <;> simp [belowV] at hd
  | @func f a a' c c' ha hc _ _ i1 i2 =>
    intro d hd
    cases d with
    | zero => simp [belowV] at hd
    | succ d =>
      simp only [belowV, Bool.and_eq_true, List.all_eq_true] at hd
      exact .func f ha hc (fun i x y hx hy => i1 i x y hx hy (hd.1 x (List.mem_of_getElem? hx))) (fun i x y hx hy => i2 i x y hx hy (hd.2 x (List.mem_of_getElem? hx)))
  | @agg a a' ha _ i1 =>
    intro d hd
    cases d with
    | zero => simp [belowV] at hd
    | succ d =>
      simp only [belowV, List.all_eq_true] at hd
      exact .agg ha (fun i x y hx hy => i1 i x y hx hy (hd x (List.mem_of_getElem? hx)))
  | @tuple a a' ha _ i1 =>
    intro d hd
    cases d with
    | zero => simp [belowV] at hd
    | succ d =>
      simp only [belowV, List.all_eq_true] at hd
      exact .tuple ha (fun i x y hx hy => i1 i x y hx hy (hd x (List.mem_of_getElem? hx)))

/-! ### Lists alike -/
theorem VL.nil (φ : Emb) : VL φ [] [] := ⟨rfl, fun i x y h => by simp at h⟩
theorem VL.cons {φ : Emb} {x y : Value} {l l' : List Value} (h : VR φ x y) (hl : VL φ l l') : VL φ (x :: l) (y :: l') := by
  refine ⟨by simp [hl.1], fun i a b ha hb => ?_⟩
  cases i with
  | zero => simp at ha hb; subst ha; subst hb; exact h
  | succ i => simp at ha hb; exact hl.2 i a b ha hb
theorem VL.of_cons {φ : Emb} {x y : Value} {l l' : List Value} (h : VL φ (x :: l) (y :: l')) : VR φ x y ∧ VL φ l l' :=
  ⟨h.2 0 x y rfl rfl, by simpa using h.1, fun i a b ha hb => h.2 (i + 1) a b (by simpa using ha) (by simpa using hb)⟩
theorem VL.cons_inv {φ : Emb} {x : Value} {l l' : List Value} (h : VL φ (x :: l) l') : ∃ y r, l' = y :: r ∧ VR φ x y ∧ VL φ l r := by
  cases l' with
  | nil => have := h.1; simp at this
  | cons y r => exact ⟨y, r, rfl, h.of_cons⟩
theorem VL.nil_inv {φ : Emb} {l' : List Value} (h : VL φ [] l') : l' = [] := List.eq_nil_of_length_eq_zero h.1.symm
theorem VL.append {φ : Emb} {a b a' b' : List Value} (h : VL φ a a') (h' : VL φ b b') : VL φ (a ++ b) (a' ++ b') := by
  induction a generalizing a' with
  | nil => have := h.nil_inv; subst this; exact h'
  | cons x l ih => obtain ⟨y, r, rfl, hx, hl⟩ := h.cons_inv; exact VL.cons hx (ih hl)
theorem VL.take {φ : Emb} {a a' : List Value} (n : Nat) (h : VL φ a a') : VL φ (a.take n) (a'.take n) := by
  refine ⟨by simp [h.1], fun i x y hx hy => ?_⟩
  rw [List.getElem?_take] at hx hy
  split at hx
  · rename_i hi; rw [if_pos hi] at hy; exact h.2 i x y hx hy
  · cases hx
theorem VL.drop {φ : Emb} {a a' : List Value} (n : Nat) (h : VL φ a a') : VL φ (a.drop n) (a'.drop n) := by
  refine ⟨by simp [h.1], fun i x y hx hy => ?_⟩
  rw [List.getElem?_drop] at hx hy
  exact h.2 _ x y hx hy
theorem VL.get {φ : Emb} {a a' : List Value} (h : VL φ a a') {i : Nat} {x : Value} (hx : a[i]? = some x) : ∃ y, a'[i]? = some y ∧ VR φ x y := by
  have hi : i < a'.length := h.1 ▸ (List.getElem?_eq_some_iff.1 hx).1
  exact ⟨_, List.getElem?_eq_getElem hi, h.2 i x _ hx (List.getElem?_eq_getElem hi)⟩
theorem VL.map {φ : Emb} {α : Type} {f g : α → Value} (l : List α) (h : ∀ a ∈ l, VR φ (f a) (g a)) : VL φ (l.map f) (l.map g) := by
  induction l with
  | nil => exact VL.nil φ
  | cons a l ih => exact VL.cons (h a (by simp)) (ih fun b hb => h b (by simp [hb]))

/-- a constant: no addresses -/
def pureC : Nat → Value → Bool
  | _, .bool _ | _, .int .. | _, .string _ | _, .pointer none | _, .map none | _, .nilFunc | _, .nilIface => true
  | _, .slice none n c => Nat.beq n 0 && Nat.beq c 0
  | d + 1, .func (.func _) a b => a.toList.all (pureC d) && b.toList.all (pureC d)
  | d + 1, .agg cs => cs.toList.all (pureC d)
  | d + 1, .tuple cs => cs.toList.all (pureC d)
  | _, _ => false
theorem VR.pure (φ : Emb) {d : Nat} : ∀ {v : Value}, pureC d v = true → VR φ v v := by
  induction d with
  | zero =>
    intro v h
    unfold pureC at h
    split at h <;> first | cases h | skip
    · exact .bool _
    · exact .int _ _
    · exact .string _
    · exact .nilptr
    · exact .nilmap
    · exact .nilFunc
    · exact .nilIface rfl
    · simp only [Bool.and_eq_true] at h
      obtain ⟨h1, h2⟩ := h
      obtain rfl := Nat.eq_of_beq_eq_true h1
      obtain rfl := Nat.eq_of_beq_eq_true h2
      exact .nilslice
    · contradiction
    · contradiction
    · contradiction
  | succ d ih =>
    intro v h
    unfold pureC at h
    split at h <;> first | cases h | skip
    · exact .bool _
    · exact .int _ _
    · exact .string _
    · exact .nilptr
    · exact .nilmap
    · exact .nilFunc
    · exact .nilIface rfl
    · simp only [Bool.and_eq_true] at h
      obtain ⟨h1, h2⟩ := h
      obtain rfl := Nat.eq_of_beq_eq_true h1
      obtain rfl := Nat.eq_of_beq_eq_true h2
      exact .nilslice
    · rename_i he
      simp only [Bool.and_eq_true, List.all_eq_true] at h
      cases he
      exact .func _ rfl rfl (fun i x y hx hy => by rw [hx] at hy; cases hy; exact ih (h.1 x (List.mem_of_getElem? hx))) (fun i x y hx hy => by rw [hx] at hy; cases hy; exact ih (h.2 x (List.mem_of_getElem? hx)))
    · rename_i he
      simp only [List.all_eq_true] at h
      cases he
      exact .agg rfl (fun i x y hx hy => by rw [hx] at hy; cases hy; exact ih (h x (List.mem_of_getElem? hx)))
    · rename_i he
      simp only [List.all_eq_true] at h
      cases he
      exact .tuple rfl (fun i x y hx hy => by rw [hx] at hy; cases hy; exact ih (h x (List.mem_of_getElem? hx)))

theorem VR.isCell {φ : Emb} {v v' : Value} (h : VR φ v v') (hc : isCell v = true) : isCell v' = true ∧ v'.cells = #[v'] := by
  cases h with
  | nilIface h => exact ⟨h, by cases v' <;> simp_all [L1.isCell, Value.cells]⟩
  | _ => simp_all [L1.isCell, Value.cells]
theorem VL.cellR {φ : Emb} {l l' : List Value} (h : VL φ l l') (hc : ∀ x ∈ l, L1.isCell x = true) : ∀ y ∈ l', L1.isCell y = true := by
  intro y hy
  obtain ⟨i, hi⟩ := List.getElem?_of_mem hy
  have hil : i < l.length := h.1 ▸ (List.getElem?_eq_some_iff.1 hi).1
  exact ((h.2 i _ y (List.getElem?_eq_getElem hil) hi).isCell (hc _ (List.getElem_mem hil))).1
theorem mem_row {α : Type} {cs new : List α} {o a b : Nat} (ha : o ≤ a) (hb : o ≤ b) (ho : o ≤ cs.length) {x : α} (hx : x ∈ (cs.take a ++ new ++ cs.drop b).drop o) : x ∈ cs.drop o ∨ x ∈ new := by
  rw [List.append_assoc, List.drop_append_of_le_length (by rw [List.length_take]; omega)] at hx
  rcases List.mem_append.1 hx with hx | hx
  · rw [List.drop_take] at hx
    exact .inl (List.mem_of_mem_take hx)
  · rcases List.mem_append.1 hx with hx | hx
    · exact .inr hx
    · left
      rw [show b = o + (b - o) by omega, ← List.drop_drop] at hx
      exact List.mem_of_mem_drop hx
theorem VR.oneCell {φ : Emb} {u u' : Value} (hu : VR φ u u') (hcu : L1.isCell u = true) :
    VL φ [u] u'.cells.toList ∧ (∀ x ∈ u'.cells.toList, L1.isCell x = true) := by
  obtain ⟨h1, h2⟩ := hu.isCell hcu
  rw [h2]
  exact ⟨VL.cons hu (VL.nil φ), by simpa using h1⟩
theorem cellsOf_one {v : Value} {l : List Value} (h : cellsOf v = some l) : (∃ a, v = .agg a ∧ l = a.toList ∧ ∀ x ∈ l, isCell x = true) ∨ (isCell v = true ∧ l = [v]) := by
  unfold cellsOf at h
  split at h
  · rename_i cs
    split at h
    · rename_i hall
      cases h
      exact .inl ⟨cs, rfl, rfl, fun x hx => List.all_eq_true.1 hall x hx⟩
    · cases h
  · split at h
    · rename_i hc
      cases h
      exact .inr ⟨hc, rfl⟩
    · cases h
theorem isCell_cells {v : Value} (h : isCell v = true) : v.cells.toList = [v] := by
  cases v <;> simp_all [isCell, Value.cells]
theorem VR.cells {φ : Emb} {v v' : Value} (h : VR φ v v') {l : List Value} (hc : cellsOf v = some l) : VL φ l v'.cells.toList ∧ (∀ x ∈ v'.cells.toList, L1.isCell x = true) ∧ v.cells.toList = l := by
  rcases cellsOf_one hc with ⟨a, rfl, rfl, hall⟩ | ⟨hcu, rfl⟩
  · cases h with
    | agg ha h1 =>
      refine ⟨⟨ha, h1⟩, fun y hy => ?_, rfl⟩
      obtain ⟨i, hi⟩ := List.getElem?_of_mem hy
      have hi' := (List.getElem?_eq_some_iff.1 hi).1
      simp only [Value.cells] at hi hi'
      have hil : i < a.toList.length := ha ▸ hi'
      have hx := List.getElem?_eq_getElem hil
      exact ((h1 i _ y hx hi).isCell (hall _ (List.mem_of_getElem? hx))).1
  · exact ⟨(h.oneCell hcu).1, (h.oneCell hcu).2, isCell_cells hcu⟩

/-! ### Worlds alike -/
def rwO : IObj → Bool
  | .cells _ _ ro => !ro
  | .dead => false
  | _ => true
def liveO : IObj → Bool
  | .dead => false
  | _ => true

def ER (φ : Emb) (T : Env) (tmps : Array Value) : Prop := ∀ i, VP φ (T i) (tmps.getD i undef)
theorem ER.mono {φ ψ : Emb} (hs : Sub φ ψ) {T : Env} {t : Array Value} (h : ER φ T t) : ER ψ T t := fun i => (h i).mono hs

/-! ### What is asked of the program's text, once -/
def operandOk : Operand → Bool
  | .const v => pureC 6 v
  | _ => true
def slotOk (N : Nat) : Option Nat → Bool
  | some d => Nat.blt d N
  | none => true
def opOk (N : Nat) (o : Oper) : Bool := o.op.operands.toList.all operandOk && slotOk N o.dst
/-- the slots that an operation names, its guard's among them -/
def tmpsOf (xs : List Operand) : List Nat := xs.filterMap fun x => match x with | .tmp t => some t | _ => none
def looksAt (ops : List Oper) (o : Oper) : List Nat := tmpsOf o.op.operands.toList ++ (match o.guard with | some (j, _) => (guardSlot ops j).toList | none => [])
def namesOf (ops : List Oper) (o : Oper) : List Nat := o.dst.toList ++ looksAt ops o
def comparable (bs : List Nat) (i j : Nat) : Bool := (bs.getD i 0).testBit j || (bs.getD j 0).testBit i
def drawOk (ops : List Oper) : Bool :=
  let bs := befores [] ops
  (List.range ops.length).all fun i => match ops[i]? with
    | none => true
    | some o => (o.after.toList.all fun e => !Region.binds .any e || Nat.blt e.on i) &&
      (match o.dst with
       | none => true
       | some d => (List.range ops.length).all fun j => Nat.beq i j || comparable bs i j || (match ops[j]? with | some u => !(namesOf ops u).contains d | none => true))
def noRange : Code → Bool
  | .seq a b => noRange a && noRange b
  | .cond _ a b => noRange a && noRange b
  | .block _ b => noRange b
  | .loop b => noRange b
  | .rangeFunc .. => false
  | _ => true
def codeOk (N : Nat) : Code → Bool
  | .region _ ops draw => ops.toList.all (opOk N) && (!draw || drawOk ops.toList)
  | .seq a b => codeOk N a && codeOk N b
  | .cond c a b => operandOk c && codeOk N a && codeOk N b
  | .block _ b => codeOk N b
  | .loop b => codeOk N b
  | .rangeFunc f ps asg body => operandOk f && ps.toList.all (Nat.blt · N) && codeOk N asg && codeOk N body && noRange asg && noRange body
  | _ => true
def funcOk (fn : Func) : Bool :=
  !(fn.name == "runtime.NumGoroutine") && match fn.body with
  | some c => codeOk fn.ntmps c && Nat.ble fn.nfree fn.ntmps
  | none => true

def isAggV : Value → Bool
  | .agg _ => true
  | _ => false
structure TyFits (P : Program) (t : Nat) (i : TyI) : Prop where
  info : ∃ x, P.info? t = some x ∧ x.size = i.size ∧ x.bytes = i.bytes ∧ (∃ z, x.zero = some z ∧ cellsOf z = some i.zero ∧ pureC 6 z = true ∧ isAggV z = isAggD i.desc) ∧ i.zero.length = i.size
  und : P.underlying t = some i.desc
  flds : ∀ fs, i.desc = .struct fs → ∀ f ∈ fs.toList, ∃ x, P.info? f.type = some x
  elem : ∀ n e, i.desc = .array n e → ∃ x, P.info? e = some x
  eqok : i.eqok = true → P.eqGuardType P.depth t = false ∧ P.stoodInHeld t = false
/-- the tables that the ideal run reads are the program's -/
structure Fits (p : Pg) (P : Program) : Prop where
  ty : ∀ t i, p.ty t = some i → TyFits P t i
  fn : ∀ f fn, p.fn f = some fn → P.funcs[f]? = some fn ∧ funcOk fn = true
  ext : ∀ f fn, p.fn f = some fn → fn.body = none → fn.name = "internal/bytealg.abigen_runtime_cmpstring" → Extern.findNext fn = none ∧ Extern.find fn = some Extern.BytealgCompare.compare
  mixed : P.follows .mixedOrders = true

/-! ### Worlds alike, on: a block -/
inductive BlockRel (p : Pg) (φ : Emb) (bi : BI) (w : World) : IObj → Prop
  | cells {vs : List Value} {ty : TypeId} {ro : Bool} {cs : Array Value} {ty' : TypeId} {fr : Nat × Nat} {i : TyI}
      (hi : p.ty ty = some i) (hes : bi.es = i.size) (hisz : bi.isz = vs.length) (hw : w.heap[bi.r]? = some (.cells cs ty' fr)) (hs : cs.size = bi.s) (hsz : bi.o + vs.length ≤ bi.s)
      (hv : VL φ vs ((cs.toList.drop bi.o).take vs.length)) (hcell : ∀ x ∈ vs, isCell x = true)
      (hfr : ro = false → fr = (0, 0)) (hj : ro = false → ∀ x ∈ cs.toList.drop bi.o, isCell x = true) : BlockRel p φ bi w (.cells vs ty ro)
  | map {es : List (Value × Value)} {es' : Array MapEntry} {clock : Nat} (hw : w.heap[bi.r]? = some (.map es' clock)) (hl : es.length = es'.toList.length)
      (hk : ∀ (i : Nat) (k v : Value) (e : MapEntry), es[i]? = some (k, v) → es'.toList[i]? = some e → (∃ s, k = .string s ∧ e.key = .string s) ∧ VR φ v e.val ∧ isCell v = true) :
      BlockRel p φ bi w (.map es)
  | loop {st : LoopState} {pend : Option Code} {f : Nat} {T : Env} {ps : List Tmp} {asg body : Code} {f' : Nat} {tmps : Array Value} {params : Array Tmp} {fn : Func} {dd : Nat}
      (hw : w.heap[bi.r]? = some (.loop ⟨st, pend, f', tmps, params, asg, body, dd⟩)) (hfn : p.fn f = some fn) (hps : params.toList = ps) (hpl : ps.all (Nat.blt · fn.ntmps) = true)
      (hasg : codeOk fn.ntmps asg = true ∧ noRange asg = true) (hbody : codeOk fn.ntmps body = true ∧ noRange body = true) (hN : tmps.size = fn.ntmps) (hT : ER φ T tmps) : BlockRel p φ bi w (.loop st pend f T ps asg body)
  | dead : BlockRel p φ bi w .dead

structure Rel (p : Pg) (φ : Emb) (C : Cont) (w : World) : Prop where
  blk : ∀ b bi, φ b = some bi → ∃ ob, C b = some ob ∧ BlockRel p φ bi w ob
  inj : ∀ b c bi ci ob oc, φ b = some bi → φ c = some ci → C b = some ob → C c = some oc → b ≠ c → rwO ob = true → liveO oc = true → bi.r ≠ ci.r

/-- the real blocks that may be written -/
def Owned (φ : Emb) (C : Cont) (r : Nat) : Prop := ∃ b bi ob, φ b = some bi ∧ C b = some ob ∧ rwO ob = true ∧ bi.r = r
/-- the real blocks that are in use -/
def Uses (φ : Emb) (C : Cont) (r : Nat) : Prop := ∃ b bi ob, φ b = some bi ∧ C b = some ob ∧ liveO ob = true ∧ bi.r = r
/-- What a step may have done: blocks that were there and are not owned are as they were. -/
structure Fr (φ : Emb) (C : Cont) (w w' : World) : Prop where
  os : w'.os = w.os
  tape : w'.tape = w.tape
  output : w'.output = w.output
  size : w.heap.size ≤ w'.heap.size
  keep : ∀ r, r < w.heap.size → ¬ Owned φ C r → w'.heap[r]? = w.heap[r]?
/-- The step's other half: the embedding has grown; what is owned now was owned, or is new. -/
structure Gr (φ : Emb) (C : Cont) (n : Nat) (w : World) (φ' : Emb) (C' : Cont) (n' : Nat) : Prop where
  old : ∀ b, b < n → φ' b = φ b
  dom : ∀ b bi, φ' b = some bi → b < n'
  le : n ≤ n'
  own : ∀ r, r < w.heap.size → Owned φ' C' r → Owned φ C r
  use : ∀ r, r < w.heap.size → Uses φ' C' r → Uses φ C r

theorem Fr.refl (φ : Emb) (C : Cont) (w : World) : Fr φ C w w := ⟨rfl, rfl, rfl, Nat.le_refl _, fun _ _ _ => rfl⟩
theorem Fr.trans {φ φ' : Emb} {C C' : Cont} {n n' : Nat} {w w' w'' : World} (h : Fr φ C w w') (g : Gr φ C n w φ' C' n') (h' : Fr φ' C' w' w'') : Fr φ C w w'' :=
  ⟨h'.os.trans h.os, h'.tape.trans h.tape, h'.output.trans h.output, Nat.le_trans h.size h'.size, fun r hr ho =>
    (h'.keep r (Nat.lt_of_lt_of_le hr h.size) (fun ho' => ho (g.own r hr ho'))).trans (h.keep r hr ho)⟩
theorem Gr.refl {φ : Emb} {C : Cont} {n : Nat} (w : World) (hd : ∀ b bi, φ b = some bi → b < n) : Gr φ C n w φ C n := ⟨fun _ _ => rfl, hd, Nat.le_refl _, fun _ _ h => h, fun _ _ h => h⟩
theorem Gr.trans {φ φ' φ'' : Emb} {C C' C'' : Cont} {n n' n'' : Nat} {w w' : World} (g : Gr φ C n w φ' C' n') (hw : w.heap.size ≤ w'.heap.size) (g' : Gr φ' C' n' w' φ'' C'' n'') : Gr φ C n w φ'' C'' n'' :=
  ⟨fun b hb => (g'.old b (Nat.lt_of_lt_of_le hb g.le)).trans (g.old b hb), g'.dom, Nat.le_trans g.le g'.le, fun r hr ho => g.own r hr (g'.own r (Nat.lt_of_lt_of_le hr hw) ho),
    fun r hr ho => g.use r hr (g'.use r (Nat.lt_of_lt_of_le hr hw) ho)⟩
theorem Gr.sub {φ φ' : Emb} {C C' : Cont} {n n' : Nat} {w : World} (g : Gr φ C n w φ' C' n') (hd : ∀ b bi, φ b = some bi → b < n) : Sub φ φ' :=
  fun b bi h => (g.old b (hd b bi h)).trans h

/-! ### Entries -/
theorem BlockRel.mono {p : Pg} {φ ψ : Emb} (hs : Sub φ ψ) {bi : BI} {w : World} {ob : IObj} (h : BlockRel p φ bi w ob) : BlockRel p ψ bi w ob := by
  cases h with
  | cells hi hes hisz hw hss hsz hv hcell hfr hj => exact .cells hi hes hisz hw hss hsz (hv.mono hs) hcell hfr hj
  | map hw hl hk => exact .map hw hl fun i k v e h1 h2 => ⟨(hk i k v e h1 h2).1, (hk i k v e h1 h2).2.1.mono hs, (hk i k v e h1 h2).2.2⟩
  | loop hw hfn hps hpl hasg hbody hN hT => exact .loop hw hfn hps hpl hasg hbody hN (hT.mono hs)
  | dead => exact .dead
/-- it stands in one real block alone -/
theorem BlockRel.same {p : Pg} {φ : Emb} {bi : BI} {w w' : World} {ob : IObj} (hw' : w'.heap[bi.r]? = w.heap[bi.r]?) (h : BlockRel p φ bi w ob) : BlockRel p φ bi w' ob := by
  cases h with
  | cells hi hes hisz hw hss hsz hv hcell hfr hj => exact .cells hi hes hisz (hw'.trans hw) hss hsz hv hcell hfr hj
  | map hw hl hk => exact .map (hw'.trans hw) hl hk
  | loop hw hfn hps hpl hasg hbody hN hT => exact .loop (hw'.trans hw) hfn hps hpl hasg hbody hN hT
  | dead => exact .dead
theorem BlockRel.lt {p : Pg} {φ : Emb} {bi : BI} {w : World} {ob : IObj} (h : BlockRel p φ bi w ob) (hl : liveO ob = true) : bi.r < w.heap.size := by
  cases h with
  | cells hi hes hisz hw => exact (Array.getElem?_eq_some_iff.1 hw).1
  | map hw => exact (Array.getElem?_eq_some_iff.1 hw).1
  | loop hw => exact (Array.getElem?_eq_some_iff.1 hw).1
  | dead => cases hl
end Go.L1
