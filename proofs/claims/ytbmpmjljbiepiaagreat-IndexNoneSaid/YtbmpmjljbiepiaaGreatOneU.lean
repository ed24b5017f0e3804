/- Texts of a proof: no condition. -/
import Derived.Test.YtbmpmjljbiepiaaGreatOneT
set_option autoImplicit true
set_option relaxedAutoImplicit true
set_option linter.all false
set_option linter.unusedVariables false
set_option linter.unusedSimpArgs false
/-! L1, twenty-first part: a round's run without a limit; the end. -/
namespace Go.L1
open Go
section
variable {p : Pg} {P : Program}
theorem ic_yd {l : Nat} {args : List Value} {h : H} {r : Value × H × List Nat} (hh : roundV p (ic p) lw l args h = some r) : ic p (.yield l) args h = some r := by
  refine ic_iff.2 ?_
  have : ∃ n, roundV p (icall p n) (LN n) l args h = some r := by
    unfold roundV at hh ⊢
    split at hh
    · rename_i f T ps asg body hget
      split at hh
      · rename_i hlen
        cases h1 : code p (ic p) lw f asg 4 (T.sets ps args) h with
        | none => rw [h1] at hh; cases hh
        | some o =>
          rw [h1] at hh
          obtain ⟨n, hn⟩ := code_lim asg h1
          simp only at hh
          split at hh
          · rename_i hex
            split at hh
            · rename_i f2 T2 ps2 asg2 body2 hg2
              cases h2 : code p (ic p) lw f body 5 o.T (o.h.set l (.loop .busy none f2 T2 ps2 asg2 body2)) with
              | none => rw [h2] at hh; cases hh
              | some o2 =>
                rw [h2] at hh
                obtain ⟨m, hm⟩ := code_lim body h2
                refine ⟨max n m, ?_⟩
                rw [if_pos hlen, cm (Nat.le_max_left n m) hn]
                simp only [if_pos hex, hg2]
                rw [cm (Nat.le_max_right n m) hm]
                exact hh
            · cases hh
          · cases hh
      · cases hh
    · cases hh
  obtain ⟨n, hn⟩ := this
  exact ⟨n + 1, hn⟩

/-- **The end**: what is handed in is only read; the run's word is the call's. -/
theorem calls_of_ic (hF : Fits p P) (hsp : SpecSim p P) (hsl : SpecLog p) {f : Nat} {fn : Func} {c : Code} (hf : P.funcs[f]? = some fn) (hname : (fn.name == "runtime.NumGoroutine") = false) (hb : fn.body = some c)
    {args : List Value} {h h1 : H} {b : Bool} {lg : List Nat} (hi : ic p (.fn f) args h = some (.bool b, h1, lg))
    {φ : Emb} {w : World} {args' : Array Value} (hR : Rel p φ h.get w) (hd : Dom φ h.n) (ha : VPL φ args args'.toList) (hro : ∀ r, ¬ Owned φ h.get r) :
    Calls P f args' w fun e w' => e = .returned (.bool b) ∧ w'.os = w.os ∧ w'.tape = w.tape ∧ w'.output = w.output ∧ w.heap.size ≤ w'.heap.size ∧ ∀ r, r < w.heap.size → w'.heap[r]? = w.heap[r]? := by
  obtain ⟨n, hn⟩ := ic_iff.1 hi
  have hc : CallsIn Fence.wide 0 P f args' w fun e w' => ∃ v', e = .returned v' ∧ Post p φ h w (.bool b) h1 v' w' := by
    rcases (icall_sim hF hsp hsl n).fn _ _ _ _ _ _ hn φ w args' hR hd ha with ⟨v', w', hrun, _⟩ | ⟨_, hc⟩
    · rw [run_enter hf hname hb] at hrun
      cases hrun
    · exact hc
  refine callsIn_wide.1 (hc.mono fun e w' => ?_)
  rintro ⟨v', rfl, φ', g, f', R', hv⟩
  exact ⟨by rw [hv.boolI], f'.os, f'.tape, f'.output, f'.size, fun r hr => f'.keep r hr (hro r)⟩
end
end Go.L1
