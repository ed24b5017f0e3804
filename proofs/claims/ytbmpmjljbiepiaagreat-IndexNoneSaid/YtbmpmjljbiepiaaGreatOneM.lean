/- Texts of a proof: no condition. -/
import Derived.Test.YtbmpmjljbiepiaaGreatOneL
import Derived.OrdersIn
set_option autoImplicit true
set_option relaxedAutoImplicit true
set_option linter.all false
set_option linter.unusedVariables false
set_option linter.unusedSimpArgs false
/-! L1, thirteenth part: what stands ahead of what. -/
namespace Go.L1
open Go

/-- j stands ahead of i -/
def Bf (ops : List Oper) (i j : Nat) : Bool := ((befores [] ops).getD i 0).testBit j

theorem befores_length : ∀ (l : List Oper) (acc : List Nat), (befores acc l).length = acc.length + l.length
  | [], acc => by simp [befores]
  | o :: l, acc => by rw [befores, befores_length l]; simp; omega
theorem befores_old : ∀ (l : List Oper) (acc : List Nat) (i : Nat), i < acc.length → (befores acc l)[i]? = acc[i]?
  | [], acc, i, _ => rfl
  | o :: l, acc, i, h => by
    rw [befores, befores_old l _ i (by simp; omega), List.getElem?_append_left h]
theorem befores_at : ∀ (l : List Oper) (acc : List Nat) (k : Nat) (o : Oper), l[k]? = some o →
    (befores acc l)[acc.length + k]? = some (o.after.toList.foldl (edgeMask ((befores acc l).take (acc.length + k))) 0)
  | [], acc, k, o, h => by simp at h
  | o :: l, acc, 0, o', h => by
    cases h
    have e : (befores acc (o :: l)).take (acc.length + 0) = acc := by
      apply List.ext_getElem?
      intro j
      rw [List.getElem?_take]
      split
      · rename_i hj
        exact befores_old (o :: l) acc j (by omega)
      · rename_i hj
        rw [List.getElem?_eq_none (by omega)]
    rw [e]
    rw [befores, befores_old l _ _ (by simp)]
    simp
  | o :: l, acc, k + 1, o', h => by
    have := befores_at l (acc ++ [o.after.toList.foldl (edgeMask acc) 0]) k o' h
    rw [befores]
    have e : (acc ++ [o.after.toList.foldl (edgeMask acc) 0]).length + k = acc.length + (k + 1) := by simp; omega
    rw [e] at this
    exact this

theorem fold_bit (acc : List Nat) (j : Nat) : ∀ (l : List Edge) (s : Nat), (l.foldl (edgeMask acc) s).testBit j = true ↔
    s.testBit j = true ∨ ∃ e ∈ l, Region.binds .any e = true ∧ (e.on = j ∨ (acc.getD e.on 0).testBit j = true)
  | [], s => by simp
  | e :: l, s => by
    rw [List.foldl_cons, fold_bit acc j l]
    unfold edgeMask
    by_cases hb : Region.binds .any e = true
    · rw [hb]
      simp only [if_true, Nat.testBit_or, Bool.or_eq_true, Nat.testBit_two_pow, decide_eq_true_eq, List.mem_cons, exists_eq_or_imp, hb, true_and]
      constructor
      · rintro (((h | h) | h) | h)
        · exact .inl h
        · exact .inr (.inl (.inl h))
        · exact .inr (.inl (.inr h))
        · exact .inr (.inr h)
      · rintro (h | ((h | h) | h))
        · exact .inl (.inl (.inl h))
        · exact .inl (.inl (.inr h))
        · exact .inl (.inr h)
        · exact .inr h
    · simp only [hb, Bool.false_eq_true, if_false, List.mem_cons, exists_eq_or_imp, false_and, false_or]

section
variable {ops : Array Oper}

structure Drawn (ops : Array Oper) : Prop where
  back : ∀ (i : Nat) o, ops[i]? = some o → ∀ e ∈ o.after.toList, Region.binds .any e = true → e.on < i
  slot : ∀ (i : Nat) o d (j : Nat) u, ops[i]? = some o → o.dst = some d → ops[j]? = some u → i ≠ j → d ∈ namesOf ops.toList u → Bf ops.toList i j = true ∨ Bf ops.toList j i = true
theorem drawn_of (h : drawOk ops.toList = true) : Drawn ops := by
  have key : ∀ (i : Nat) o, ops[i]? = some o → _ := fun i o ho => by
    unfold drawOk at h
    simp only [List.all_eq_true, List.mem_range] at h
    have hi : i < ops.toList.length := by
      have := (Array.getElem?_eq_some_iff.1 ho).1
      simpa using this
    have := h i hi
    rw [Array.getElem?_toList, ho] at this
    exact this
  constructor
  · intro i o ho e he hb
    have := key i o ho
    simp only [Bool.and_eq_true, List.all_eq_true] at this
    have := this.1 e he
    rw [hb] at this
    simpa using this
  · intro i o d j u ho hd hu hij hdu
    have := key i o ho
    simp only [hd, Bool.and_eq_true, List.all_eq_true, List.mem_range] at this
    have hj : j < ops.toList.length := by
      have := (Array.getElem?_eq_some_iff.1 hu).1
      simpa using this
    have := this.2 j hj
    rw [Array.getElem?_toList, hu] at this
    simp only [Bool.or_eq_true, Bool.not_eq_true', List.contains_eq_mem, comparable] at this
    rcases this with (h | h | h) | h
    · exact absurd (Nat.eq_of_beq_eq_true h) hij
    · exact .inl h
    · exact .inr h
    · simp [hdu] at h

theorem bf_iff (hD : Drawn ops) {i : Nat} {o : Oper} (ho : ops[i]? = some o) (j : Nat) :
    Bf ops.toList i j = true ↔ ∃ e ∈ o.after.toList, Region.binds .any e = true ∧ (e.on = j ∨ Bf ops.toList e.on j = true) := by
  have h1 := befores_at ops.toList [] i o (by rw [Array.getElem?_toList]; exact ho)
  simp only [List.length_nil, Nat.zero_add] at h1
  unfold Bf
  rw [List.getD_eq_getElem?_getD, h1, Option.getD_some, fold_bit]
  simp only [Nat.zero_testBit, Bool.false_eq_true, false_or]
  have e1 : ∀ e ∈ o.after.toList, Region.binds .any e = true → ((befores [] ops.toList).take i).getD e.on 0 = (befores [] ops.toList).getD e.on 0 := fun e he hb => by
    have := hD.back i o ho e he hb
    rw [List.getD_eq_getElem?_getD, List.getD_eq_getElem?_getD, List.getElem?_take, if_pos this]
  constructor
  · rintro ⟨e, he, hb, h⟩
    exact ⟨e, he, hb, by rwa [e1 e he hb] at h⟩
  · rintro ⟨e, he, hb, h⟩
    exact ⟨e, he, hb, by rwa [e1 e he hb]⟩
theorem bf_some {i j : Nat} (h : Bf ops.toList i j = true) : ∃ o, ops[i]? = some o := by
  cases ho : ops[i]? with
  | some o => exact ⟨o, rfl⟩
  | none =>
    unfold Bf at h
    have : ops.size ≤ i := Array.getElem?_eq_none_iff.1 ho
    rw [List.getD_eq_getElem?_getD, List.getElem?_eq_none (by rw [befores_length]; simpa using this)] at h
    simp at h
theorem bf_lt (hD : Drawn ops) : ∀ {i j : Nat}, Bf ops.toList i j = true → j < i := by
  intro i
  induction i using Nat.strongRecOn with
  | _ i ih =>
    intro j h
    obtain ⟨o, ho⟩ := bf_some h
    obtain ⟨e, he, hb, h⟩ := (bf_iff hD ho j).1 h
    have hlt := hD.back i o ho e he hb
    rcases h with rfl | h
    · exact hlt
    · exact Nat.lt_trans (ih _ hlt h) hlt

/-- is it listed? -/
abbrev In (S : Array Bool) (j : Nat) : Prop := S.getD j false = true
def Closed (ops : Array Oper) (S : Array Bool) : Prop := ∀ (i : Nat) o, ops[i]? = some o → In S i → ∀ e ∈ o.after.toList, Region.binds .any e = true → In S e.on

theorem closed_bf (hD : Drawn ops) {S : Array Bool} (hc : Closed ops S) : ∀ {i j : Nat}, In S i → Bf ops.toList i j = true → In S j := by
  intro i
  induction i using Nat.strongRecOn with
  | _ i ih =>
    intro j hi h
    obtain ⟨o, ho⟩ := bf_some h
    obtain ⟨e, he, hb, h⟩ := (bf_iff hD ho j).1 h
    have hin := hc i o ho hi e he hb
    rcases h with rfl | h
    · exact hin
    · exact ih _ (hD.back i o ho e he hb) hin h

/-- It may come up now. -/
structure Ready (ops : Array Oper) (S : Array Bool) (i : Nat) (o : Oper) : Prop where
  at_ : ops[i]? = some o
  lt : i < ops.size
  out : ¬ In S i
  edges : ∀ e ∈ o.after.toList, Region.binds .any e = true → In S e.on
theorem ready_of {S : Array Bool} (hS : S.size = ops.size) {i : Nat} (h : i ∈ Region.ready .any ops S) : ∃ o, Ready ops S i o := by
  unfold Region.ready at h
  rw [List.mem_filter, List.mem_range] at h
  obtain ⟨hlt, h⟩ := h
  have ho : ops[i]? = some ops[i] := Array.getElem?_eq_getElem hlt
  rw [ho] at h
  simp only [Option.map_some, Option.getD_some, Bool.and_eq_true, Bool.not_eq_true', Array.all_eq_true_iff_forall_mem, Bool.or_eq_true] at h
  refine ⟨ops[i], ho, hlt, fun hin => ?_, fun e he hb => ?_⟩
  · have h1 := h.1
    unfold In at hin
    rw [Array.getD_eq_getD_getElem?, Array.getElem?_eq_getElem (by omega)] at h1 hin
    simp at h1 hin
    rw [h1] at hin
    cases hin
  · have := h.2 e (by simpa using he)
    rcases this with this | this
    · rw [hb] at this; cases this
    · exact this
theorem ready_nil (hD : Drawn ops) {S : Array Bool} (hS : S.size = ops.size) (h : Region.ready .any ops S = []) : ∀ i, i < ops.size → In S i := by
  intro i
  induction i using Nat.strongRecOn with
  | _ i ih =>
    intro hi
    by_cases hin : In S i
    · exact hin
    · exfalso
      have ho : ops[i]? = some ops[i] := Array.getElem?_eq_getElem hi
      have : i ∈ Region.ready .any ops S := by
        unfold Region.ready
        rw [List.mem_filter, List.mem_range]
        refine ⟨hi, ?_⟩
        rw [ho]
        simp only [Option.map_some, Option.getD_some, Bool.and_eq_true, Bool.not_eq_true', Array.all_eq_true_iff_forall_mem, Bool.or_eq_true]
        refine ⟨?_, fun e he => ?_⟩
        · unfold In at hin
          rw [Array.getD_eq_getD_getElem?, Array.getElem?_eq_getElem (by omega)] at hin ⊢
          simpa using hin
        · by_cases hb : Region.binds .any e = true
          · right
            have hlt := hD.back i _ ho e (by simpa using he) hb
            exact ih _ hlt (by omega)
          · left; simpa using hb
      rw [h] at this
      cases this

theorem Ready.before (hD : Drawn ops) {S : Array Bool} (hc : Closed ops S) {i : Nat} {o : Oper} (hr : Ready ops S i o) {j : Nat} (h : Bf ops.toList i j = true ∨ Bf ops.toList j i = true) :
    (j < i ↔ In S j) ∧ j ≠ i := by
  have key : Bf ops.toList i j = true → In S j := fun h => by
    obtain ⟨e, he, hb, h⟩ := (bf_iff hD hr.at_ j).1 h
    rcases h with rfl | h
    · exact hr.edges e he hb
    · exact closed_bf hD hc (hr.edges e he hb) h
  rcases h with h | h
  · have := bf_lt hD h
    exact ⟨⟨fun _ => key h, fun _ => this⟩, by omega⟩
  · have := bf_lt hD h
    exact ⟨⟨fun h' => by omega, fun hin => absurd (closed_bf hD hc hin h) hr.out⟩, by omega⟩
theorem in_set {S : Array Bool} {i j : Nat} (hi : i < S.size) : In (S.setIfInBounds i true) j ↔ In S j ∨ j = i := by
  unfold In
  rw [Array.getD_eq_getD_getElem?, Array.getD_eq_getD_getElem?, Array.getElem?_setIfInBounds]
  by_cases e : i = j
  · subst e; simp [hi]
  · simp [e, Ne.symm e]
theorem Ready.closed {S : Array Bool} (hS : S.size = ops.size) (hc : Closed ops S) {i : Nat} {o : Oper} (hr : Ready ops S i o) : Closed ops (S.setIfInBounds i true) := by
  have hi : i < S.size := by rw [hS]; exact hr.lt
  intro j u hu hj e he hb
  rw [in_set hi] at hj ⊢
  rcases hj with hj | rfl
  · exact .inl (hc j u hu hj e he hb)
  · have := hr.at_; rw [hu] at this; cases this
    exact .inl (hr.edges e he hb)
end
end Go.L1
