/- Texts of a proof: no condition. -/
import Derived.Test.YtbmpmjljbiepiaaGreatTwoA
set_option autoImplicit true
set_option relaxedAutoImplicit true
set_option linter.all false
set_option linter.unusedVariables false
set_option linter.unusedSimpArgs false
/-! L2, second part: runs by the printed functions are ideal runs. -/
namespace Go.L1
open Go
variable {p : Pg}
abbrev FnE := CallF → LoopF → List Value → H → Option (Value × H × List Nat)
def Good (p : Pg) (f : Nat) (e : FnE) : Prop := p.spec f = none → ∀ (call : CallF) (lp : LoopF) (args : List Value) (h : H) (r : Value × H × List Nat), CLe call (ic p) → LLe lp lw → e call lp args h = some r → ic p (.fn f) args h = some r
def Tr.All {α : Type} : (Nat → α → Prop) → Tr α → Prop
  | _, .e => True
  | P, .n v l r => (∀ a, v = some a → P 0 a) ∧ l.All (fun i => P (2 * i + 1)) ∧ r.All (fun i => P (2 * i + 2))
theorem Tr.All.get {α : Type} : ∀ {t : Tr α} {P : Nat → α → Prop} (_ : t.All P) {fuel i : Nat} {a : α}, t.get fuel i = some a → P i a
  | .e, _, _, _, _, _, h => by cases h
  | .n v l r, P, ⟨h1, h2, h3⟩, 0, i, a, h => by cases h
  | .n v l r, P, ⟨h1, h2, h3⟩, fuel + 1, i, a, h => by
    unfold Tr.get at h
    cases e0 : Nat.beq i 0 with
    | true =>
      rw [e0] at h
      have : i = 0 := Nat.eq_of_beq_eq_true e0
      subst this
      exact h1 a h
    | false =>
      rw [e0] at h
      simp only [cond_false] at h
      have hi : i ≠ 0 := fun e => by subst e; cases e0
      cases e1 : Nat.beq (i % 2) 1 with
      | true =>
        rw [e1] at h
        have e2 := Nat.eq_of_beq_eq_true e1
        have := Tr.All.get h2 h
        have e : 2 * (i / 2) + 1 = i := by omega
        rw [e] at this
        exact this
      | false =>
        rw [e1] at h
        have e2 : i % 2 ≠ 1 := fun e => by rw [e] at e1; cases e1
        have := Tr.All.get h3 h
        have e : 2 * (i / 2 - 1) + 2 = i := by omega
        rw [e] at this
        exact this
theorem Tr.all_n {α : Type} {P : Nat → α → Prop} {a : α} {l r : Tr α} (h : P 0 a) (hl : l.All fun i => P (2 * i + 1)) (hr : r.All fun i => P (2 * i + 2)) : (Tr.n (some a) l r).All P := ⟨fun _ e => by cases e; exact h, hl, hr⟩
theorem Tr.all_0 {α : Type} {P : Nat → α → Prop} {l r : Tr α} (hl : l.All fun i => P (2 * i + 1)) (hr : r.All fun i => P (2 * i + 2)) : (Tr.n none l r).All P := ⟨fun _ e => (by cases e), hl, hr⟩
theorem Tr.all_e {α : Type} {P : Nat → α → Prop} : (Tr.e : Tr α).All P := trivial
theorem F_mono {call call' : CallF} {lp lp' : LoopF} (hc : CLe call call') (hl : LLe lp lp') {f : Nat} {c : Code} {T : Env} {h : H} {rs : List ResultVar} {r : Value × H × List Nat}
    (hh : codeK p call lp f c 3 T h [] (finK p h rs) = some r) : codeK p call' lp' f c 3 T h [] (finK p h rs) = some r := by
  rw [codeK_eq] at hh ⊢
  cases h1 : code p call lp f c 3 T h with
  | none => rw [h1] at hh; cases hh
  | some o => rw [h1] at hh; rw [code_mono hc hl _ h1]; exact hh
theorem ic_spec {f : Nat} {s : List Value → H → Option (Value × H × List Nat)} (hs : p.spec f = some s) {args : List Value} {h : H} {r : Value × H × List Nat} (hh : s args h = some r) : ic p (.fn f) args h = some r :=
  ic_iff.2 ⟨1, by show funcV p _ _ f args h = some r; unfold funcV; rw [hs]; exact hh⟩
theorem ic_ext {f : Nat} {fn : Func} (hs : p.spec f = none) (hf : p.fn f = some fn) (hb : fn.body = none) {args : List Value} {h : H} {r : Value × H × List Nat} (hh : ext fn.name args h = some r) : ic p (.fn f) args h = some r :=
  ic_iff.2 ⟨1, by show funcV p _ _ f args h = some r; unfold funcV; rw [hs]; simp only [hf, hb]; exact hh⟩
theorem loopN_lw (n : Nat) : LLe (fun b => loopN b n) lw := fun b b' hb vs h o hh => by
  refine lw_iff.2 ⟨n, loopN_mono (Nat.le_refl n) b b' hb _ _ _ hh⟩
/-- a table of printed functions, run to a depth -/
def ev (p : Pg) (t : Tr FnE) : Nat → CallF
  | 0, _, _, _ => none
  | n + 1, .fn f, args, h => match p.spec f with
    | some s => s args h
    | none => match t.get 40 f with
      | some e => e (ev p t n) (fun b => loopN b n) args h
      | none => none
  | n + 1, .yield l, args, h => roundV p (ev p t n) (fun b => loopN b n) l args h
theorem ev_ic {t : Tr FnE} (ht : t.All (Good p)) : ∀ n, CLe (ev p t n) (ic p)
  | 0, g, _, _, _, hh => by cases g <;> cases hh
  | n + 1, .fn f, args, h, r, hh => by
    unfold ev at hh
    split at hh
    · rename_i s hs; exact ic_spec hs hh
    · rename_i hs
      split at hh
      · rename_i e he
        exact ht.get he hs _ _ _ _ _ (ev_ic ht n) (loopN_lw n) hh
      · cases hh
  | n + 1, .yield l, args, h, r, hh => ic_yd (roundV_mono (ev_ic ht n) (loopN_lw n) hh)
end Go.L1
