/- Texts of a proof: no condition. -/
import Derived.Test.YtmhdgdehbkjhhaaGreatSeatI
import Derived.Test.YtmhdgdehbkjhhaaGreatSeatFit
import Derived.Test.YtmhdgdehbkjhhaaGreatSeatV
import Derived.KernelRfl
set_option autoImplicit true
set_option relaxedAutoImplicit true
set_option linter.all false
set_option linter.unusedVariables false
set_option linter.unusedSimpArgs false
/-! The ideal runs of this seat are real calls. -/
namespace Go.L1
open Go Go.Proofs
noncomputable def ovFA : Func := (Tryz.prog.funcs[N_k201]?).getD Tryz.f2
noncomputable def pairIA : TyI := (pgB.ty T_omap_pair_string_int).getD (tyD .invalid)
theorem ov_spec : SpecSim pg0 Tryz.prog := by
  intro f s hs args h v h1 lg hh φ w args' hR hd ha
  have hs : (bif Nat.beq f N_k201 then some ovS else none) = some s := hs
  cases hb0 : Nat.beq f N_k201 with
  | true =>
    rw [hb0, cond_true] at hs
    cases hs
    have e := Nat.eq_of_beq_eq_true hb0
    subst e
    exact .inl (ov_sim (Fits.swap (p := pg []) (q := pg0) rfl rfl (fits [])) (fn := ovFA) (tS := T_Lomap_pair_string_int) (tR := T_bool) (e := T_omap_pair_string_int) (ei := pairIA) (by kernel_rfl) (by kernel_rfl) (by kernel_rfl) (by kernel_rfl) (by kernel_rfl) (by kernel_rfl) (by kernel_rfl) _ _ _ _ _ hh _ _ _ hR hd ha)
  | false =>
    rw [hb0, cond_false] at hs
    cases hs
theorem sim0 : FnSim pg0 Tryz.prog (ic pg0) := by
  intro f args h v h1 lg hi
  obtain ⟨n, hn⟩ := ic_iff.1 hi
  exact (icall_sim (Fits.swap (p := pg []) (q := pg0) rfl rfl (fits [])) ov_spec ov_log n).fn _ _ _ _ _ _ hn
/-- a call without arguments of which true is known to come, whatever the world; nothing that was there is written -/
def ClosedT (f : Nat) : Prop := ∀ w : World, (callFunc f #[]).run Tryz.prog w = .ok (.enter f #[]) w ∧
  CallsIn Fence.wide 0 Tryz.prog f #[] w fun e w' => e = .returned (.bool true) ∧ w'.os = w.os ∧ w'.tape = w.tape ∧ w'.output = w.output ∧ w.heap.size ≤ w'.heap.size ∧ ∀ r, r < w.heap.size → w'.heap[r]? = w.heap[r]?
theorem tS_sim {f : Nat} (hf : ClosedT f) (sp : List Nat) : ∀ args h v h1 lg, tS args h = some (v, h1, lg) → ∀ φ w (args' : Array Value), Rel (pg sp) φ h.get w → Dom φ h.n → VPL φ args args'.toList →
    (∃ v' w', (callFunc f args').run Tryz.prog w = .ok (.value v') w' ∧ Post (pg sp) φ h w v h1 v' w' ∧ NoYield args) ∨
    ((callFunc f args').run Tryz.prog w = .ok (.enter f args') w ∧ CallsIn Fence.wide 0 Tryz.prog f args' w fun e w' => ∃ v', e = .returned v' ∧ Post (pg sp) φ h w v h1 v' w') := by
  intro args h v h1 lg hh φ w args' hR hd ha
  unfold tS at hh
  split at hh
  case h_2 => cases hh
  cases hh
  obtain ⟨l⟩ := args'
  match l, ha with
  | [], _ =>
    refine .inr ⟨(hf w).1, (hf w).2.mono fun e w' ⟨e1, e2, e3, e4, e5, e6⟩ => ⟨.bool true, e1, φ, Gr.refl w hd, ⟨e2, e3, e4, e5, fun r hr _ => e6 r hr⟩, ⟨fun b bi hb => ?_, hR.inj⟩, (VR.bool _).vp⟩⟩
    obtain ⟨ob, h1, h2⟩ := hR.blk b bi hb
    refine ⟨ob, h1, ?_⟩
    by_cases hl : liveO ob = true
    · exact h2.same (e6 _ (h2.lt hl))
    · cases ob <;> simp [liveO] at hl
      exact .dead
  | _ :: _, ha => have := ha.1; simp at this
theorem ins_spec (sp : List Nat) (hsp : ∀ f ∈ sp, ClosedT f) : SpecSim (pg sp) Tryz.prog := by
  intro f s hs args h v h1 lg hh φ w args' hR hd ha
  have hs : (bif sp.any (Nat.beq f) then some tS else (bif Nat.beq f N_k185 then some (insS T_omap_pair_string_int 2 24 [(.string ⟨#[]⟩), (.int .i64 0)]) else none)) = some s := hs
  cases hx : sp.any (Nat.beq f) with
  | true =>
    rw [hx, cond_true] at hs
    cases hs
    obtain ⟨g, hg, e⟩ := List.any_eq_true.1 hx
    have e := Nat.eq_of_beq_eq_true e
    subst e
    exact tS_sim (hsp _ hg) sp _ _ _ _ _ hh _ _ _ hR hd ha
  | false =>
    rw [hx, cond_false] at hs
    cases hb0 : Nat.beq f N_k185 with
    | true =>
      rw [hb0, cond_true] at hs
      cases hs
      have e := Nat.eq_of_beq_eq_true hb0
      subst e
      exact InsA.ins_sim sp (ei := pairIA) (by kernel_rfl) (by kernel_rfl) sim0 _ _ _ _ _ hh _ _ _ hR hd ha
    | false =>
      rw [hb0, cond_false] at hs
      cases hs
/-- what the run comes to, looked up -/
def isTrue : Option (Value × H × List Nat) → Bool
  | some (.bool true, _, _) => true
  | _ => false
theorem isTrue_some {x : Option (Value × H × List Nat)} (h : isTrue x = true) : ∃ h1 lg, x = some (.bool true, h1, lg) := by
  unfold isTrue at h
  split at h
  · exact ⟨_, _, rfl⟩
  · cases h
/-- A closed call of which a run with what is known already tells true. -/
theorem closed_run (sp : List Nat) (hsp : ∀ f ∈ sp, ClosedT f) {f : Nat} {fn : Func} {c : Code} (hf : Tryz.prog.funcs[f]? = some fn) (hn : (fn.name == "runtime.NumGoroutine") = false) (hb : fn.body = some c) {n : Nat}
    (hr : isTrue (ev (pg sp) evT n (.fn f) [] H.empty) = true) : ClosedT f := by
  intro w
  obtain ⟨h1, lg, he⟩ := isTrue_some hr
  have hi := ev_ic (evAll sp) n _ _ _ _ he
  refine ⟨run_enter hf hn hb #[] w, callsIn_wide.2 ?_⟩
  exact calls_of_ic (φ := fun _ => none) (fits sp) (ins_spec sp hsp) (ins_spec_log sp) hf hn hb hi ⟨fun b bi h => (by cases h), fun b c bi ci ob oc h => (by cases h)⟩ (fun b bi h => (by cases h)) ⟨rfl, fun i x y h => (by simp at h)⟩
    (fun r h => (by obtain ⟨_, _, _, h, _⟩ := h; cases h))
end Go.L1
