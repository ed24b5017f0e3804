/- Texts of a proof: no condition. -/
import Derived.Test.YtbmpmjljbiepiaaGreatOneO
import Derived.RangeFuncRecord
set_option autoImplicit true
set_option relaxedAutoImplicit true
set_option linter.all false
set_option linter.unusedVariables false
set_option linter.unusedSimpArgs false
/-! L1, sixteenth part: code. -/
namespace Go.L1
open Go

theorem exists_least {q : Nat → Prop} (h : ∃ n, q n) : ∃ n, q n ∧ ∀ m, q m → n ≤ m := by
  obtain ⟨n, hn⟩ := h
  induction n using Nat.strongRecOn with
  | _ n ih =>
    by_cases hm : ∃ m, m < n ∧ q m
    · obtain ⟨m, h1, h2⟩ := hm
      exact ih m h1 h2
    · exact ⟨n, hn, fun m hqm => by
        rcases Nat.lt_or_ge m n with h | h
        · exact absurd ⟨m, h, hqm⟩ hm
        · exact h⟩
open Classical in
noncomputable def least (q : Nat → Prop) : Nat := if h : ∃ n, q n then Classical.choose (exists_least h) else 0
theorem least_spec {q : Nat → Prop} (h : ∃ n, q n) : q (least q) := by
  unfold least
  rw [dif_pos h]
  exact (Classical.choose_spec (exists_least h)).1
theorem least_le {q : Nat → Prop} {n : Nat} (h : q n) : least q ≤ n := by
  unfold least
  rw [dif_pos ⟨n, h⟩]
  exact (Classical.choose_spec (exists_least ⟨n, h⟩)).2 n h

def exOf : Ex → Exit
  | .normal => .normal
  | .exit id => .exit id
  | .ret => .ret

/-- The marks of ranges over functions that an activation bears. -/
def Marks (s : Nat) (w : World) : List Deferred → Prop
  | [] => True
  | d :: ds => ∃ r, d = { target := .collected r, args := #[] } ∧ w.heap[r]? = some (.deferred (some [])) ∧ s ≤ r ∧ (∀ d' ∈ ds, d' ≠ { target := .collected r, args := #[] }) ∧ Marks s w ds

section
variable {p : Pg} {P : Program}

theorem not_owned {φ : Emb} {C : Cont} {w : World} (hR : Rel p φ C w) {r : Nat} {x : Option (List Deferred)} (h : w.heap[r]? = some (.deferred x)) : ¬ Uses φ C r := by
  rintro ⟨b, bi, ob, hb, hob, hl, rfl⟩
  obtain ⟨o2, h2, hr⟩ := hR.blk b bi hb
  rw [hob] at h2
  cases h2
  cases hr with
  | cells hi hes hisz hw => rw [h] at hw; cases hw
  | map hw => rw [h] at hw; cases hw
  | loop hw => rw [h] at hw; cases hw
  | dead => cases hl
theorem Owned.uses' {φ : Emb} {C : Cont} {r : Nat} (h : Owned φ C r) : Uses φ C r := h.uses
theorem Marks.keep {s : Nat} {φ : Emb} {C : Cont} {w w' : World} (hR : Rel p φ C w) (f : Fr φ C w w') : ∀ {ds : List Deferred}, Marks s w ds → Marks s w' ds
  | [], _ => trivial
  | _ :: ds, ⟨r, h1, h2, h3, h4, h5⟩ => ⟨r, h1, by
      rw [f.keep r (Array.getElem?_eq_some_iff.1 h2).1 (fun ho => not_owned hR h2 ho.uses)]
      exact h2, h3, h4, Marks.keep hR f h5⟩
theorem Marks.same {s : Nat} {w w' : World} (hw : ∀ r, r < w.heap.size → w'.heap[r]? = w.heap[r]?) : ∀ {ds : List Deferred}, Marks s w ds → Marks s w' ds
  | [], _ => trivial
  | _ :: ds, ⟨r, h1, h2, h3, h4, h5⟩ => ⟨r, h1, by rw [hw r (Array.getElem?_eq_some_iff.1 h2).1]; exact h2, h3, h4, Marks.same hw h5⟩
theorem Marks.lt {s : Nat} {w : World} : ∀ {ds : List Deferred}, Marks s w ds → ∀ d ∈ ds, ∃ r, d = { target := .collected r, args := #[] } ∧ r < w.heap.size
  | _ :: ds, ⟨r, h1, h2, _, _, h5⟩, d, hd => by
    rcases List.mem_cons.1 hd with rfl | hd
    · exact ⟨r, h1, (Array.getElem?_eq_some_iff.1 h2).1⟩
    · exact Marks.lt h5 d hd

/-- What is asked of a piece of code: it comes to the ideal run's end. -/
def Goes (p : Pg) (N s : Nat) (φ : Emb) (h : H) (w : World) (ex : Ex) (T1 : Env) (h1 : H) (e : Exit) (a' : Act) (w' : World) : Prop :=
  e = exOf ex ∧ a'.tmps.size = N ∧ Marks s w' a'.defers ∧ After p φ h w T1 h1 a' w'

theorem Goes.trans {N s : Nat} {φ φ1 : Emb} {h h1 h2 : H} {w w1 w2 : World} {ex : Ex} {T2 : Env} {e : Exit} {a2 : Act} (g : Gr φ h.get h.n w φ1 h1.get h1.n) (f : Fr φ h.get w w1)
    (h' : Goes p N s φ1 h1 w1 ex T2 h2 e a2 w2) : Goes p N s φ h w ex T2 h2 e a2 w2 := ⟨h'.1, h'.2.1, h'.2.2.1, After.trans g f h'.2.2.2⟩
theorem Goes.refl {N s : Nat} {φ : Emb} {h : H} {w : World} {T : Env} {a : Act} (ex : Ex) (hR : Rel p φ h.get w) (hd : Dom φ h.n) (hE : ER φ T a.tmps) (hN : a.tmps.size = N) (hm : Marks s w a.defers) :
    Goes p N s φ h w ex T h (exOf ex) a w := ⟨rfl, hN, hm, φ, Gr.refl w hd, Fr.refl _ _ _, hR, hE⟩

theorem er_ofList {φ : Emb} {T : Env} {t : Array Value} (hE : ER φ T t) : ∀ (L : List Nat), ER φ (Env.ofList L (T.vals L)) t
  | [] => fun _ => .inl rfl
  | l :: L => fun i => by
    have := er_ofList hE L i
    simp only [Env.vals, Env.ofList, List.headD_cons, List.tail_cons]
    cases hb : Nat.beq i l
    · exact this
    · have e := Nat.eq_of_beq_eq_true hb
      subst e
      exact hE i

theorem Goes.mask {N s : Nat} {φ : Emb} {h : H} {w : World} {ex : Ex} {T1 : Env} {h1 : H} {e : Exit} {a' : Act} {w' : World} (hg : Goes p N s φ h w ex T1 h1 e a' w') (L : List Nat) :
    Goes p N s φ h w ex (T1.only L) h1 e a' w' := by
  obtain ⟨he, h2, h3, φ', g, f, R, E⟩ := hg
  exact ⟨he, h2, h3, φ', g, f, R, er_ofList E L⟩
theorem Goes.maskN {N s : Nat} {φ : Emb} {h : H} {w : World} {o : Out} {e : Exit} {a' : Act} {w' : World} (hg : Goes p N s φ h w o.ex o.T o.h e a' w') (L : List Nat) :
    Goes p N s φ h w (maskN L o).ex (maskN L o).T (maskN L o).h e a' w' := by
  unfold L1.maskN
  split
  · exact hg.mask L
  · exact hg

theorem code_sim (hF : Fits p P) {call : CallF} (hcall : CallSim p P call) (hlog : CallLog call) {n : Nat} {f : Nat} {fn : Func} (hfn : p.fn f = some fn) {N s : Nat} (hNf : fn.ntmps = N) (r : Option Nat) :
    ∀ (c : Code), codeOk N c = true → (r ≠ none → noRange c = true) → ∀ {k : Nat} {T : Env} {h : H} {o : Out} {φ : Emb} {w : World} {a : Act}, code p call (fun b => loopN b n) f c k T h = some o → Rel p φ h.get w → Dom φ h.n →
      ER φ T a.tmps → a.tmps.size = N → Marks s w a.defers → s ≤ w.heap.size → c.wpIn (fence r) 0 P (Goes p N s φ h w o.ex o.T o.h) a w := by
  intro c
  induction c with
  | skip =>
    intro hok hnr k T h o φ w a hh hR hd hE hN hm hs
    cases hh
    exact wpIn_skip (Goes.refl .normal hR hd hE hN hm)
  | region id ops draw =>
    intro hok hnr k T h o φ w a hh hR hd hE hN hm hs
    have hex : o.ex = .normal := by
      simp only [code] at hh
      unfold region at hh
      cases draw
      · simp only [cond_false] at hh
        split at hh
        · cases hh
        · cases hh; rfl
      · simp only [cond_true] at hh
        split at hh
        · cases hh
        · split at hh
          · cases hh; rfl
          · cases hh
    refine region_sim hF hcall hlog r hok hh hR hd hE hN fun a' w' h1 h2 h3 => ⟨by rw [hex]; rfl, h1, ?_, h3⟩
    obtain ⟨φ', g, f', R', E'⟩ := h3
    rw [h2]
    exact hm.keep hR f'
  | seq x y ihx ihy =>
    intro hok hnr k T h o φ w a hh hR hd hE hN hm hs
    simp only [codeOk, Bool.and_eq_true] at hok
    simp only [noRange, Bool.and_eq_true] at hnr
    simp only [code] at hh
    split at hh
    · cases hh
    · rename_i o1 ho1
      refine wpIn_seq (wpIn_mono (ihx hok.1 (fun h => (hnr h).1) ho1 hR hd hE hN hm hs) fun e a1 w1 hg => ?_)
      obtain ⟨he, hN1, hm1, φ1, g1, f1, R1, E1⟩ := hg
      split at hh
      · rename_i hex
        split at hh
        · cases hh
        · rename_i o2 ho2
          cases hh
          rw [he, hex]
          show y.wpIn _ _ _ _ _ _
          refine wpIn_mono (ihy hok.2 (fun h => (hnr h).2) ho2 R1 g1.dom E1 hN1 hm1 (Nat.le_trans hs f1.size)) fun e a2 w2 hg => hg.trans g1 f1
      · rename_i hex
        cases hh
        have : e ≠ .normal := by
          rw [he]
          intro h0
          cases hx : o.ex <;> rw [hx] at h0 <;> simp [exOf] at h0
          exact hex hx
        have hgo : Goes p N s φ h w o.ex o.T o.h e a1 w1 := ⟨he, hN1, hm1, φ1, g1, f1, R1, E1⟩
        cases e <;> first | exact absurd rfl this | exact hgo
  | cond c x y ihx ihy =>
    intro hok hnr k T h o φ w a hh hR hd hE hN hm hs
    simp only [codeOk, Bool.and_eq_true] at hok
    simp only [noRange, Bool.and_eq_true] at hnr
    simp only [code] at hh
    split at hh
    · rename_i t ht
      have hv := eval_rel hE hok.1.1
      rw [ht] at hv
      obtain ⟨o1, ho1, rfl⟩ := Option.map_eq_some_iff.1 hh
      cases t
      · exact wpIn_mono (wpIn_cond_false hv.boolI (ihy hok.2 (fun h => (hnr h).2) ho1 hR hd hE hN hm hs)) fun _ _ _ hg => hg.maskN _
      · exact wpIn_mono (wpIn_cond_true hv.boolI (ihx hok.1.2 (fun h => (hnr h).1) ho1 hR hd hE hN hm hs)) fun _ _ _ hg => hg.maskN _
    · cases hh
  | block id b ih =>
    intro hok hnr k T h o φ w a hh hR hd hE hN hm hs
    simp only [code] at hh
    split at hh
    · cases hh
    · rename_i o1 ho1
      refine wpIn_block (wpIn_mono (ih hok hnr ho1 hR hd hE hN hm hs) fun e a1 w1 hg => ?_)
      obtain ⟨he, hN1, hm1, hA⟩ := hg
      subst he
      split at hh
      · rename_i id' hex
        split at hh
        · rename_i hid
          cases hh
          rw [hex]
          simp only [exOf, Exit.inBlock, hid, if_true]
          have hg : Goes p N s φ h w .normal o1.T o1.h .normal a1 w1 := ⟨rfl, hN1, hm1, hA⟩
          exact hg.mask _
        · rename_i hid
          cases hh
          rw [hex]
          simp only [exOf, Exit.inBlock, hid, if_false]
          exact ⟨rfl, hN1, hm1, hA⟩
      · rename_i hex
        cases hh
        rw [hex]
        have hg : Goes p N s φ h w .normal o1.T o1.h .normal a1 w1 := ⟨rfl, hN1, hm1, hA⟩
        have := hg.mask (p.live f k)
        simp only [mask, hex]
        exact this
      · rename_i hex
        cases hh
        rw [hex]
        exact ⟨rfl, hN1, hm1, hA⟩
  | loop b ih =>
    intro hok hnr k T h o φ w a hh hR hd hE hN hm hs
    simp only [code] at hh
    split at hh
    · cases hh
    · rename_i ol hol
      cases hh
      simp only
      obtain ⟨body, hbody⟩ : ∃ body : List Value → H → Option LOut, body = fun vs h => match code p call (fun b => loopN b n) f b (2 * k) (Env.ofList (p.live f k) vs) h with
        | none => none
        | some o => some ⟨o.ex, o.T.vals (p.live f k), o.h, o.lg⟩ := ⟨_, rfl⟩
      generalize p.live f k = L at *
      replace hol : loopN body n (T.vals L) h = some ol := by rw [hbody]; exact hol
      -- what holds at a round's start, k rounds at most to go
      let I : Nat → Act → World → Prop := fun k a1 w1 => ∃ (vs : List Value) (h1 : H) (φ1 : Emb) (o1 : LOut), loopN body k vs h1 = some o1 ∧ o1.ex = ol.ex ∧ o1.vs = ol.vs ∧ o1.h = ol.h ∧
        Gr φ h.get h.n w φ1 h1.get h1.n ∧ Fr φ h.get w w1 ∧ Rel p φ1 h1.get w1 ∧ ER φ1 (Env.ofList L vs) a1.tmps ∧ a1.tmps.size = N ∧ Marks s w1 a1.defers
      have h0 : I n a w := ⟨_, h, φ, ol, hol, rfl, rfl, rfl, Gr.refl w hd, Fr.refl _ _ _, hR, er_ofList hE L, hN, hm⟩
      refine wpIn_loop (fun a1 w1 => ∃ k, I k a1 w1) (fun a1 w1 => least fun k => I k a1 w1) ⟨n, h0⟩ fun a1 w1 hI => ?_
      obtain ⟨vs, h1, φ1, o1, hl, e1, e2, e3, g1, f1, R1, E1, N1, M1⟩ := least_spec hI
      generalize hk : (least fun k => I k a1 w1) = k at hl
      cases k with
      | zero => cases hl
      | succ k =>
        unfold loopN at hl
        split at hl
        · cases hl
        · rename_i o2 ho2
          rw [hbody] at ho2
          simp only at ho2
          split at ho2
          · cases ho2
          · rename_i o3 ho3
            cases ho2
            refine wpIn_mono (ih hok hnr ho3 R1 g1.dom E1 N1 M1 (Nat.le_trans hs f1.size)) fun e a2 w2 hg => ?_
            obtain ⟨he, N2, M2, φ2, g2, f2, R2, E2⟩ := hg
            simp only at hl
            have g := g1.trans f1.size g2
            have ff := f1.trans g1 f2
            split at hl
            · rename_i hex
              split at hl
              · cases hl
              · rename_i o4 ho4
                cases hl
                rw [he, hex]
                have hnext : I k a2 w2 := ⟨_, o3.h, φ2, o4, ho4, e1, e2, e3, g, ff, R2, er_ofList E2 L, N2, M2⟩
                refine ⟨⟨k, hnext⟩, ?_⟩
                have := least_le (q := fun k => I k a2 w2) hnext
                omega
            · rename_i hex
              cases hl
              have hne : e ≠ .normal := by
                rw [he]
                intro h0
                cases hx : o3.ex <;> rw [hx] at h0 <;> simp [exOf] at h0
                exact hex hx
              simp only at e1 e2 e3
              have hgo : Goes p N s φ h w ol.ex (Env.ofList L ol.vs) ol.h e a2 w2 := by
                rw [← e1, ← e2, ← e3]
                exact ⟨he, N2, M2, φ2, g, ff, R2, er_ofList E2 L⟩
              cases e <;> first | exact absurd rfl hne | exact hgo
  | exit id =>
    intro hok hnr k T h o φ w a hh hR hd hE hN hm hs
    cases hh
    exact wpIn_exit (Goes.refl (.exit id) hR hd hE hN hm)
  | ret =>
    intro hok hnr k T h o φ w a hh hR hd hE hN hm hs
    cases hh
    exact wpIn_ret (Goes.refl .ret hR hd hE hN hm)
  | rangeFunc g ps asg body iha ihb =>
    intro hok hnr k T h o φ w a hh hR hd hE hN hm hs
    have hr : r = none := by
      cases r with
      | none => rfl
      | some l => exact absurd (hnr (by simp)) (by simp [noRange])
    subst hr
    simp only [codeOk, Bool.and_eq_true, List.all_eq_true] at hok
    obtain ⟨⟨⟨⟨⟨hok1, hok2⟩, hok3⟩, hok4⟩, hok5⟩, hok6⟩ := hok
    simp only [code] at hh
    split at hh
    case h_2 => cases hh
    rename_i gf first cap hg
    split at hh
    · cases hh
    rename_i v h1 lg hcl
    split at hh
    case h_2 => cases hh
    rename_i st pend f1 T1 ps1 asg1 body1 hget
    split at hh
    · cases hh
    rename_i hst
    split at hh
    · cases hh
    rename_i ex hex
    cases hh
    have hgv := eval_rel hE hok1
    rw [hg] at hgv
    obtain ⟨x', y', eg, hx, hy⟩ := hgv.funcI
    refine wpIn_rangeFunc fun bfn _ => ?_
    -- the record
    let rec0 : Loop := { state := .ready, pending := none, fn := bfn, tmps := a.tmps, params := ps, assign := asg, body := body, defers := w.heap.size }
    let w1 : World := (w.alloc (.deferred (some []))).alloc (.loop rec0)
    have hw1h : w1.heap = (w.heap.push (.deferred (some []))).push (.loop rec0) := rfl
    let bi : BI := ⟨w.heap.size + 1, 0, 0, 0, 0⟩
    have hw1s : w1.heap.size = w.heap.size + 2 := by rw [hw1h]; simp
    have hw1o : ∀ q, q < w.heap.size → w1.heap[q]? = w.heap[q]? := fun q hq => by rw [hw1h]; simp [Array.getElem?_push, Nat.ne_of_lt hq, Nat.ne_of_lt (Nat.lt_succ_of_lt hq)]
    have hw1d : w1.heap[w.heap.size]? = some (.deferred (some [])) := by rw [hw1h]; simp [Array.getElem?_push]
    have hw1l : w1.heap[w.heap.size + 1]? = some (.loop rec0) := by
      rw [hw1h, show w.heap.size + 1 = (w.heap.push (.deferred (some []))).size by simp]
      exact Array.getElem?_push_size
    have hnone : φ h.n = none := by
      cases hh : φ h.n with
      | none => rfl
      | some x => exact absurd (hd h.n x hh) (by omega)
    have hgetp : (h.push (.loop .ready none f T ps.toList asg body)).get = fun j => if j = h.n then some (.loop .ready none f T ps.toList asg body) else h.get j := by funext j; rw [H.get_push]
    have hsub : Sub φ (φ.put h.n bi) := Emb.sub_put hnone
    have hR1 : Rel p (φ.put h.n bi) (h.push (.loop .ready none f T ps.toList asg body)).get w1 := by
      rw [hgetp]
      refine hR.new hd (fun c ci oc hc hoc hl => ?_) (fun c ci oc hc hoc hl => hw1o _ (hR.lt hc hoc hl)) ?_
      · have := hR.lt hc hoc hl
        simp only [bi]; omega
      · exact .loop (fn := fn) hw1l hfn rfl (by rw [hNf]; exact List.all_eq_true.2 hok2) (by rw [hNf]; exact ⟨hok3, hok5⟩) (by rw [hNf]; exact ⟨hok4, hok6⟩) (by rw [hNf]; exact hN) (hE.mono hsub)
    have hd1 : Dom (φ.put h.n bi) (h.push (.loop .ready none f T ps.toList asg body)).n := fun b ci hb => by
      rw [H.n_push]
      by_cases e : b = h.n
      · omega
      · rw [Emb.put_ne e] at hb; have := hd b ci hb; omega
    have g1 : Gr φ h.get h.n w (φ.put h.n bi) (h.push (.loop .ready none f T ps.toList asg body)).get (h.push (.loop .ready none f T ps.toList asg body)).n := by
      rw [hgetp, H.n_push]
      exact Gr.new hd (fun hlt => by simp only [bi] at hlt; omega) fun _ _ h _ => h
    have fr1 : Fr φ h.get w w1 := ⟨rfl, rfl, rfl, by omega, fun q hq _ => hw1o q hq⟩
    have hargs : VPL (φ.put h.n bi) (first.toList ++ [Value.func (.yield h.n) #[] #[]] ++ cap.toList) (x' ++ #[Value.func (.yield (w.heap.size + 1)) #[] #[]] ++ y').toList := by
      simp only [Array.toList_append]
      refine (((hx.mono hsub).vpl.append ?_)).append (hy.mono hsub).vpl
      exact VPL.single (VR.yield (bi := bi) (Emb.put_self _ _ _)).vp
    have hmark : Marks s w1 ({ target := .collected w.heap.size, args := #[] } :: a.defers) := by
      refine ⟨_, rfl, hw1d, hs, fun d hdm e => ?_, hm.same hw1o⟩
      obtain ⟨q, hq, hlt⟩ := hm.lt d hdm
      rw [e] at hq
      injection hq with hq _
      injection hq with hq
      omega
    rcases hcall.fn _ _ _ _ _ _ hcl _ w1 _ hR1 hd1 hargs with ⟨v', w', _, _, hny⟩ | ⟨hrun, hc⟩
    · exact absurd (by simp) (hny h.n)
    · refine ⟨w.heap.size + 1, [{ target := .collected w.heap.size, args := #[] }], w1, { target := .fn (.func gf) y', args := x' ++ #[Value.func (.yield (w.heap.size + 1)) #[] #[]] }, w1, gf,
        x' ++ #[Value.func (.yield (w.heap.size + 1)) #[] #[]] ++ y', w1, run_enterLoop_outer bfn a.tmps ps asg body, ?_, fun _ _ => trivial, ?_, fun h => by simp [fence, Fence.wide] at h, ?_⟩
      · show (Deferred.ofValue (a.eval g) _).run P w1 = _
        rw [eg]
        simp only [rangeCall, List.map_toArray, List.map_cons, List.map_nil, Deferred.ofValue, Sem.run_pure, Act.eval]
      · simp only [invoke]; exact hrun
      · refine CallsIn.atFence none (hc.mono fun e w3 => ?_)
        rintro ⟨v', rfl, φ2, g2, f2, R2, _⟩
        have hb2 : φ2 h.n = some bi := by rw [g2.old h.n (by rw [H.n_push]; omega)]; exact Emb.put_self _ _ _
        obtain ⟨ob, hob, hbr⟩ := R2.blk h.n bi hb2
        rw [hget] at hob
        cases hob
        cases hbr with
        | @loop _ _ _ _ _ _ _ f'' tmps'' params'' fn'' dd'' hw3 hfn3 hps3 hpl3 hasg3 hbody3 hN3 hT3 =>
          have hend := run_endLoop (P := P) hw3 hst
          refine ⟨pend, _, hend, ?_⟩
          have hR4 : Rel p φ2 (h1.set h.n .dead).get (w3.putObj (w.heap.size + 1) (.loop { state := .exhausted, pending := pend, fn := f'', tmps := tmps'', params := params'', assign := asg1, body := body1, defers := dd'' })) :=
            R2.kill hb2 hget rfl rfl fun k hk => World.putObj_heap_other hk
          have hsetd : (h1.set h.n .dead).get = fun j => if j = h.n then some .dead else h1.get j := by funext j; exact H.get_set ..
          have fr4 : Fr φ2 h1.get w3 (w3.putObj (w.heap.size + 1) (.loop { state := .exhausted, pending := pend, fn := f'', tmps := tmps'', params := params'', assign := asg1, body := body1, defers := dd'' })) :=
            ⟨rfl, rfl, rfl, by simp, fun q _ ho => World.putObj_heap_other fun e => ho ⟨h.n, bi, _, hb2, hget, rfl, e.symm⟩⟩
          have g4 : Gr φ2 h1.get h1.n w3 φ2 (h1.set h.n .dead).get (h1.set h.n .dead).n :=
            ⟨fun _ _ => rfl, g2.dom, Nat.le_refl _, fun q _ ho => by rw [hsetd] at ho; exact owned_upd hget rfl ho, fun q _ ho => by rw [hsetd] at ho; exact uses_upd hget rfl ho⟩
          have gg := g1.trans fr1.size (g2.trans f2.size g4)
          have ff := fr1.trans g1 (f2.trans g2 fr4)
          have hA : ∀ e, e = exOf ex → Goes p N s φ h w ex T (h1.set h.n .dead) e { a with defers := [{ target := .collected w.heap.size, args := #[] }] ++ a.defers }
              (w3.putObj (w.heap.size + 1) (.loop { state := .exhausted, pending := pend, fn := f'', tmps := tmps'', params := params'', assign := asg1, body := body1, defers := dd'' })) := fun e he =>
            ⟨he, hN, (hmark.keep hR1 f2).keep R2 fr4, φ2, gg, ff, hR4, hE.mono (gg.sub hd)⟩
          cases pend with
          | none => cases hex; exact hA _ rfl
          | some c =>
            cases c <;> simp only [jumpEx, reduceCtorEq, Option.some.injEq] at hex
            · subst hex; exact wpIn_exit (hA _ rfl)
            · subst hex; exact wpIn_ret (hA _ rfl)
  | _ =>
    intro hok hnr k T h o φ w a hh
    cases hh
end
end Go.L1
