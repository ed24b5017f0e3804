/- Texts of a proof: no condition. -/
import Derived.Test.YtbmpmjljbiepiaaGreatOneP
import Derived.Lib.Bytealg
import Derived.Laws.Externs
set_option autoImplicit true
set_option relaxedAutoImplicit true
set_option linter.all false
set_option linter.unusedVariables false
set_option linter.unusedSimpArgs false
/-! L1, seventeenth part: functions, rounds, the whole. -/
namespace Go.L1
open Go

section
variable {p : Pg} {P : Program}

theorem run_enter {f : Nat} {fn : Func} {c : Code} (hf : P.funcs[f]? = some fn) (hn : (fn.name == "runtime.NumGoroutine") = false) (hb : fn.body = some c) (args : Array Value) (w : World) :
    (callFunc f args).run P w = .ok (.enter f args) w := by
  have h1 : fn.name ≠ "runtime.NumGoroutine" := by simpa using hn
  simp [callFunc, hf, h1, hb]

def resOf (tmps : Array Value) : ResultVar → Sem Value
  | .tmp t => pure (tmps.getD t undef)
  | .cell a t => do loadVar t (← asAddr (tmps.getD a undef))

theorem results_sim (hF : Fits p P) {T : Env} {h : H} {φ : Emb} {w : World} {tmps : Array Value} (hR : Rel p φ h.get w) (hE : ER φ T tmps) : ∀ {rs : List ResultVar} {vs : List Value}, resultsV p T h rs = some vs →
    ∃ vs', (rs.mapM (resOf tmps)).run P w = .ok vs' w ∧ VL φ vs vs'
  | [], vs, hh => by cases hh; exact ⟨[], by simp, VL.nil φ⟩
  | .tmp t :: rs, vs, hh => by
    simp only [resultsV] at hh
    split at hh
    · cases hh
    · rename_i hp
      obtain ⟨l, hl, e⟩ := Option.map_eq_some_iff.1 hh
      cases e
      obtain ⟨vs', h1, h2⟩ := results_sim hF hR hE hl
      refine ⟨tmps.getD t undef :: vs', ?_, VL.cons ((hE t).resolve_left (by simpa using hp)) h2⟩
      rw [List.mapM_cons]
      simp only [resOf, Sem.run_bind, Sem.run_pure, Result.andThen_ok, h1]
  | .cell a t :: rs, vs, hh => by
    simp only [resultsV] at hh
    obtain ⟨v, hv, hh⟩ := Option.bind_eq_some_iff.1 hh
    obtain ⟨i, hi, hv⟩ := Option.bind_eq_some_iff.1 hv
    obtain ⟨l, hl, e⟩ := Option.map_eq_some_iff.1 hh
    cases e
    obtain ⟨vs', h1, h2⟩ := results_sim hF hR hE hl
    obtain ⟨a', v', e1, e2, e3⟩ := rLoad_sim (P := P) (w := w) (hF.ty _ _ hi) hv (hE a) (fun b off bi _ hb => hR.blk b bi hb)
    refine ⟨v' :: vs', ?_, VL.cons e3 h2⟩
    rw [List.mapM_cons]
    simp only [resOf, e1, asAddr, Sem.run_bind, Sem.run_pure, Result.andThen_ok, e2, h1]

theorem run_results (fn : Func) (tmps : Array Value) (w : World) : (results fn tmps).run P w = ((fn.results.toList.mapM (resOf tmps)).run P w).andThen fun vs w' => .ok (if h : vs.toArray.size = 1 then vs.toArray[0] else .tuple vs.toArray) w' := by
  have e : results fn tmps = (fn.results.mapM (resOf tmps)) >>= fun vs => pure (if h : vs.size = 1 then vs[0] else .tuple vs) := by
    unfold results
    congr 1
  rw [e, Array.mapM_eq_mapM_toList]
  simp only [Sem.run_bind, map_eq_pure_bind, Sem.run_pure]
  cases (fn.results.toList.mapM (resOf tmps)).run P w <;> rfl

theorem tupled_sim {φ : Emb} {vs vs' : List Value} (h : VL φ vs vs') : VR φ (tupled vs) (if h : vs'.toArray.size = 1 then vs'.toArray[0] else .tuple vs'.toArray) := by
  match vs, vs', h with
  | [v], [v'], h => exact h.of_cons.1
  | [], [], h => exact .tuple rfl (fun i x y hx => by simp at hx)
  | x :: y :: l, x' :: y' :: l', h =>
    simp only [tupled, List.size_toArray, List.length_cons]
    rw [dif_neg (by omega)]
    exact .tuple (by simpa using h.1) (by simpa using h.2)
  | [v], [], h => have := h.1; simp at this
  | [], [v], h => have := h.1; simp at this
  | [v], x :: y :: l, h => have := h.1; simp at this
  | x :: y :: l, [v], h => have := h.1; simp at this
  | [], x :: y :: l, h => have := h.1; simp at this
  | x :: y :: l, [], h => have := h.1; simp at this

theorem Marks.weak {s s' : Nat} (h : s' ≤ s) {w : World} : ∀ {ds : List Deferred}, Marks s w ds → Marks s' w ds
  | [], _ => trivial
  | _ :: ds, ⟨r, h1, h2, h3, h4, h5⟩ => ⟨r, h1, h2, Nat.le_trans h h3, h4, Marks.weak h h5⟩

/-- A world whose blocks from s on may have turned. -/
theorem leaves_marks (hF : Fits p P) {fn : Func} {T : Env} {h : H} {φ : Emb} {tmps : Array Value} (hE : ER φ T tmps) {vs : List Value} (hv : resultsV p T h fn.results.toList = some vs) {s : Nat} {R : Ending → World → Prop} :
    ∀ {ds : List Deferred} {w : World}, Rel p φ h.get w → Marks s w ds →
      (∀ v' w', w'.os = w.os → w'.tape = w.tape → w'.output = w.output → w'.heap.size = w.heap.size → (∀ r, r < s → w'.heap[r]? = w.heap[r]?) → Rel p φ h.get w' → VR φ (tupled vs) v' → R (.returned v') w') →
      LeavesInM Fence.wide 0 P fn tmps R ds .returning w
  | [], w, hR, _, K => by
    obtain ⟨vs', h1, h2⟩ := results_sim (P := P) hF hR hE hv
    refine ⟨_, ?_, K _ w rfl rfl rfl rfl (fun _ _ => rfl) hR (tupled_sim h2)⟩
    rw [run_results, h1]
    rfl
  | d :: ds, w, hR, hm, K => by
    obtain ⟨r, hd, hw, hs, hdist, hrest⟩ := hm
    subst hd
    refine ⟨by simp, .inl ⟨r, _, rfl, run_takeDeferred hw, ?_⟩⟩
    have hoth : ∀ k, k ≠ r → (w.putObj r (.deferred none)).heap[k]? = w.heap[k]? := fun k hk => World.putObj_heap_other hk
    have hR' : Rel p φ h.get (w.putObj r (.deferred none)) := by
      refine ⟨fun b bi hb => ?_, hR.inj⟩
      obtain ⟨ob, h1, h2⟩ := hR.blk b bi hb
      refine ⟨ob, h1, ?_⟩
      by_cases hl : liveO ob = true
      · exact h2.same (hoth _ fun e => not_owned hR hw ⟨b, bi, ob, hb, h1, hl, e⟩)
      · cases ob <;> simp [liveO] at hl
        exact .dead
    have hm' : ∀ {ds : List Deferred}, (∀ d' ∈ ds, d' ≠ { target := .collected r, args := #[] }) → Marks s w ds → Marks s (w.putObj r (.deferred none)) ds := by
      intro ds
      induction ds with
      | nil => intro _ _; trivial
      | cons d ds ih =>
        rintro hdd ⟨q, h1, h2, h3, h4, h5⟩
        refine ⟨q, h1, ?_, h3, h4, ih (fun d' hd' => hdd d' (by simp [hd'])) h5⟩
        rw [hoth q (fun e => hdd d (by simp) (by rw [h1, e]))]
        exact h2
    refine leaves_marks hF hE hv hR' (hm' hdist hrest) fun v' w' a1 a2 a3 a4 a5 a6 a7 => K v' w' a1 a2 a3 (by rw [a4]; simp) (fun k hk => ?_) a6 a7
    rw [a5 k hk]
    exact hoth k (by omega)

/-- Where nothing old was written, and nothing new is handed back, the heap is the old one. -/
theorem settle_post {h0 h1 : H} {lg : List Nat} (hs : Stp h0 h1 lg) {φ : Emb} {w w' : World} {v v' : Value} (hR : Rel p φ h0.get w) (hd : Dom φ h0.n) (hp : Post p φ h0 w v h1 v' w') {x : Value} {h2 : H} {l2 : List Nat}
    (he : settle h0 v h1 lg = (x, h2, l2)) : Post p φ h0 w x h2 v' w' := by
  unfold settle at he
  simp only at he
  split at he
  · rename_i hc
    cases he
    simp only [Bool.and_eq_true, List.isEmpty_iff] at hc
    obtain ⟨φ1, g, f, R1, hv⟩ := hp
    have hsame : ∀ b, b < h0.n → h1.get b = h0.get b := fun b hb => hs.same b hb fun hm => by
      have : b ∈ lg.filter (· < h0.n) := List.mem_filter.2 ⟨hm, by simpa using hb⟩
      rw [hc.1] at this
      cases this
    refine ⟨φ, Gr.refl w hd, f, ⟨fun b bi hb => ?_, hR.inj⟩, ?_⟩
    · obtain ⟨ob, h2, h3⟩ := hR.blk b bi hb
      obtain ⟨o2, h4, h5⟩ := R1.blk b bi (g.sub hd b bi hb)
      rw [hsame b (hd b bi hb), h2] at h4
      cases h4
      exact ⟨ob, h2, h3.back (g.sub hd) h5⟩
    · rcases hv with hv | hv
      · exact .inl hv
      · exact (hv.low (φ := φ) (n := h0.n) (fun b bi hb h6 => by rw [g.old b hb] at h6; exact h6) hc.2).vp
  · cases he
    exact hp

theorem er_args {φ : Emb} {args : List Value} {args' : List Value} (h : VPL φ args args') (N : Nat) : ER φ (Env.args 0 args) (args'.toArray ++ Array.replicate N undef) := by
  have key : ∀ (l : List Value) (k i : Nat), Env.args k l i = if k ≤ i then (l[i - k]?).getD poison else poison := by
    intro l
    induction l with
    | nil => intro k i; simp [Env.args, Env.nil]
    | cons x l ih =>
      intro k i
      simp only [Env.args]
      by_cases e : i = k
      · subst e; simp
      · have : Nat.beq i k = false := by rw [Bool.eq_false_iff]; intro hb; exact e (Nat.eq_of_beq_eq_true hb)
        rw [this, cond_false, ih]
        by_cases hk : k ≤ i
        · rw [if_pos hk, if_pos (by omega), show i - k = (i - (k + 1)) + 1 by omega]; simp
        · rw [if_neg hk, if_neg (by omega)]
  intro i
  rw [key, if_pos (Nat.zero_le _), Nat.sub_zero]
  cases hx : args[i]? with
  | none => exact .inl rfl
  | some x =>
    have hi : i < args'.length := h.1 ▸ (List.getElem?_eq_some_iff.1 hx).1
    have hy := List.getElem?_eq_getElem hi
    rw [Array.getD_eq_getD_getElem?, Array.getElem?_append_left (by simpa using hi)]
    simp only [List.getElem?_toArray, hy, Option.getD_some]
    exact h.2 i x _ hx hy

/-- A function that is not walked: its own law. -/
def SpecSim (p : Pg) (P : Program) : Prop := ∀ f s, p.spec f = some s → ∀ args h v h1 lg, s args h = some (v, h1, lg) →
  ∀ φ w (args' : Array Value), Rel p φ h.get w → Dom φ h.n → VPL φ args args'.toList →
    (∃ v' w', (callFunc f args').run P w = .ok (.value v') w' ∧ Post p φ h w v h1 v' w' ∧ NoYield args) ∨
    ((callFunc f args').run P w = .ok (.enter f args') w ∧ CallsIn Fence.wide 0 P f args' w fun e w' => ∃ v', e = .returned v' ∧ Post p φ h w v h1 v' w')

theorem cmpB_eq : ∀ (a b : List UInt8), cmpB a b = Lib.compareBytes a b
  | [], [] => rfl
  | [], _ :: _ => rfl
  | _ :: _, [] => by simp [cmpB, bytesLess, Lib.compareBytes]
  | x :: a, y :: b => by
    have ih := cmpB_eq a b
    unfold cmpB at ih ⊢
    unfold Lib.compareBytes
    rw [← ih]
    simp only [bytesLess]
    by_cases hlt : x < y
    · simp [hlt]
    · by_cases hgt : y < x
      · have hne : x ≠ y := by rintro rfl; exact UInt8.lt_irrefl x hgt
        simp [hlt, hgt, hne]
      · have he : x = y := UInt8.le_antisymm (UInt8.not_lt.1 hgt) (UInt8.not_lt.1 hlt)
        subst he
        simp

theorem funcV_sim (hF : Fits p P) (hsp : SpecSim p P) {call : CallF} (hcall : CallSim p P call) (hlog : CallLog call) (n : Nat) {f : Nat} {args : List Value} {h : H} {v : Value} {h1 : H} {lg : List Nat}
    (hh : funcV p call (fun b => loopN b n) f args h = some (v, h1, lg)) {φ : Emb} {w : World} {args' : Array Value} (hR : Rel p φ h.get w) (hd : Dom φ h.n) (ha : VPL φ args args'.toList) :
    (∃ v' w', (callFunc f args').run P w = .ok (.value v') w' ∧ Post p φ h w v h1 v' w' ∧ NoYield args) ∨
    ((callFunc f args').run P w = .ok (.enter f args') w ∧ CallsIn Fence.wide 0 P f args' w fun e w' => ∃ v', e = .returned v' ∧ Post p φ h w v h1 v' w') := by
  unfold funcV at hh
  split at hh
  · rename_i s hs
    exact hsp f s hs _ _ _ _ _ hh φ w args' hR hd ha
  split at hh
  · cases hh
  rename_i fn hfn
  obtain ⟨hPf, hok⟩ := hF.fn f fn hfn
  simp only [funcOk, Bool.and_eq_true, Bool.not_eq_true'] at hok
  split at hh
  · rename_i hb
    left
    unfold ext at hh
    split at hh
    · rename_i hname
      split at hh
      · rename_i sa sb
        cases hh
        obtain ⟨he1, he2⟩ := hF.ext f fn hfn hb hname
        have hargs : args' = #[.string sa, .string sb] := by
          have hl := ha.1
          obtain ⟨l⟩ := args'
          simp only at ha hl
          match l, hl with
          | [y1, y2], _ =>
            have e1 := (ha.2 0 _ _ rfl rfl).strI
            have e2 := (ha.2 1 _ _ rfl rfl).strI
            rw [e1, e2]
        refine ⟨.int .i64 (cmpB (bl sa) (bl sb)), w, ?_, ⟨φ, Gr.refl w hd, Fr.refl _ _ _, hR, (VR.int _ _).vp⟩, fun l hl => by simp at hl⟩
        rw [run_callFunc_extern hPf hok.1 (by simp [hb]) he1 he2, hargs, Lib.run_compareString, cmpB_eq]
        rfl
      · cases hh
    · cases hh
  · rename_i c hb
    split at hh
    case isFalse => cases hh
    rename_i hlen
    split at hh
    · cases hh
    rename_i o ho
    split at hh
    · cases hh
    rename_i hex
    split at hh
    · cases hh
    rename_i vs hvs
    right
    rw [hb] at hok
    simp only [Bool.and_eq_true] at hok
    refine ⟨run_enter hPf hok.1 hb args' w, ?_⟩
    have hsz : args'.size = args.length := by rw [ha.1]; simp
    have hE0 : ER φ (Env.args 0 args) (args' ++ Array.replicate (fn.ntmps - args'.size) undef) := er_args ha _
    refine callsIn_of_wp_marks hPf hb trivial (wpIn_mono (code_sim hF hcall hlog hfn rfl none c hok.2.1 (fun h => absurd rfl h) ho hR hd hE0 (s := w.heap.size) (by simp; omega) trivial (Nat.le_refl _)) fun e a' w' hg => ?_)
    obtain ⟨he, hN, hm, φ', g, f', R', E'⟩ := hg
    have hlv : LeavesInM Fence.wide 0 P fn a'.tmps (fun e w' => ∃ v', e = .returned v' ∧ Post p φ h w v h1 v' w') a'.defers .returning w' := by
      refine leaves_marks hF E' hvs R' hm fun v' w2 a1 a2 a3 a4 a5 a6 a7 => ⟨v', rfl, ?_⟩
      refine settle_post (code_stp hlog (loopN_log n) c ho) hR hd ?_ (Option.some.inj hh)
      exact ⟨φ', g, ⟨a1.trans f'.os, a2.trans f'.tape, a3.trans f'.output, by rw [a4]; exact f'.size, fun r hr hor => (a5 r hr).trans (f'.keep r hr hor)⟩, a6, a7.vp⟩
    cases hx : o.ex with
    | normal => rw [he, hx]; exact hlv
    | ret => rw [he, hx]; exact hlv
    | exit id => exact absurd hx (hex id)

theorem er_sets {φ : Emb} : ∀ {ps : List Nat} {args args' : List Value} {T : Env} {t : Array Value}, ER φ T t → VPL φ args args' → (∀ x ∈ ps, x < t.size) →
    ER φ (T.sets ps args) ((ps.zip args').foldl (fun t (q, v) => t.setIfInBounds q v) t)
  | [], args, args', T, t, hE, _, _ => by
    have e : T.sets [] args = T := by cases args <;> rfl
    rw [e]; exact hE
  | q :: ps, [], [], T, t, hE, _, _ => hE
  | q :: ps, x :: l, y :: l', T, t, hE, ha, hp => by
    simp only [Env.sets, List.zip_cons_cons, List.foldl_cons]
    refine er_sets ?_ ⟨by have := ha.1; simpa using this, fun i a b h1 h2 => ha.2 (i + 1) a b h1 h2⟩ (fun z hz => by simpa using hp z (by simp [hz]))
    have hq := hp q (by simp)
    have hv := ha.2 0 x y rfl rfl
    have := er_put (a := { tmps := t, defers := [] }) hE (d := some q) hv (Nat.ble_eq_true_of_le hq)
    exact this
  | q :: ps, [], y :: l', T, t, hE, ha, _ => by have := ha.1; simp at this
  | q :: ps, x :: l, [], T, t, hE, ha, _ => by have := ha.1; simp at this

theorem foldl_size : ∀ (l : List (Nat × Value)) (t : Array Value), (l.foldl (fun t (q, v) => t.setIfInBounds q v) t).size = t.size
  | [], t => rfl
  | (q, v) :: l, t => by rw [List.foldl_cons, foldl_size l]; simp

theorem roundV_sim (hF : Fits p P) {call : CallF} (hcall : CallSim p P call) (hlog : CallLog call) (n : Nat) {l : Nat} {args : List Value} {h : H} {v : Value} {h1 : H} {lg : List Nat}
    (hh : roundV p call (fun b => loopN b n) l args h = some (v, h1, lg)) {φ : Emb} {w : World} {args' : Array Value} {bi : BI} (hR : Rel p φ h.get w) (hd : Dom φ h.n) (ha : VPL φ args args'.toList) (hb : φ l = some bi) :
    ∃ f tmps asg body, (Instr.yield bi.r args').run P w = .ok (.round bi.r f tmps asg body) w ∧
      RoundIn Fence.wide 0 P bi.r f tmps asg body w fun e w' => ∃ v', e = .returned v' ∧ Post p φ h w v h1 v' w' := by
  unfold roundV at hh
  split at hh
  case h_2 => cases hh
  rename_i f T ps asg body hget
  split at hh
  case isFalse => cases hh
  rename_i hlen
  split at hh
  · cases hh
  rename_i o ho
  split at hh
  case isFalse => cases hh
  rename_i hex
  split at hh
  case h_2 => cases hh
  rename_i f2 T2 ps2 asg2 body2 hget2
  split at hh
  · cases hh
  rename_i o2 ho2
  split at hh
  case h_2 => cases hh
  rename_i f3 T3 ps3 asg3 body3 hget3
  cases hh
  obtain ⟨ob, hob, hbr⟩ := hR.blk l bi hb
  rw [hget] at hob
  cases hob
  cases hbr with
  | @loop _ _ _ _ _ _ _ f' tmps params fn dd hw hfn hps hpl hasg hbody hN hT =>
    subst hps
    have hsz : args'.size = params.size := by
      have := ha.1
      rw [Array.length_toList] at hlen
      rw [← this.symm.trans hlen.symm |>.symm.symm] <;> simp
    refine ⟨_, _, _, _, run_yield hw (by simpa using hsz), ?_⟩
    have htm : ((params.zip args').foldl (fun tmps (t, a) => tmps.setIfInBounds t a) tmps) = (params.toList.zip args'.toList).foldl (fun t (q, v) => t.setIfInBounds q v) tmps := by
      rw [← Array.foldl_toList, Array.toList_zip]
    simp only
    rw [htm]
    have hE0 : ER φ (T.sets params.toList args) ((params.toList.zip args'.toList).foldl (fun t (q, v) => t.setIfInBounds q v) tmps) :=
      er_sets hT ha fun x hx => by rw [hN]; exact Nat.le_of_ble_eq_true (List.all_eq_true.1 hpl x hx)
    have hN0 : ((params.toList.zip args'.toList).foldl (fun t (q, v) => t.setIfInBounds q v) tmps).size = fn.ntmps := by rw [foldl_size, hN]
    refine roundIn_of_wpIn trivial ?_
    refine wpIn_mono (code_sim (a := { tmps := _, defers := [] }) hF hcall hlog hfn rfl (some bi.r) asg hasg.1 (fun _ => hasg.2) ho hR hd hE0 hN0 (s := w.heap.size) trivial (Nat.le_refl _)) fun e a1 w1 hg => ?_
    obtain ⟨he, N1, M1, φ1, g1, fr1, R1, E1⟩ := hg
    rw [he, hex]
    -- the round begins
    have hb1 : φ1 l = some bi := g1.sub hd l bi hb
    obtain ⟨ob1, hob1, hbr1⟩ := R1.blk l bi hb1
    rw [hget2] at hob1
    cases hob1
    cases hbr1 with
    | @loop _ _ _ _ _ _ _ f2' tmps2 params2 fn2 dd2 hw2 hfn2 hps2 hpl2 hasg2 hbody2 hN2 hT2 =>
      refine ⟨_, run_beginRound hw2 rfl, ?_⟩
      have hset2 : (o.h.set l (.loop .busy none f2 T2 ps2 asg2 body2)).get = fun j => if j = l then some (.loop .busy none f2 T2 ps2 asg2 body2) else o.h.get j := by funext j; exact H.get_set ..
      have hlt2 : bi.r < w1.heap.size := (Array.getElem?_eq_some_iff.1 hw2).1
      simp only
      generalize hw1' : w1.putObj bi.r (.loop { state := .busy, pending := none, fn := f2', tmps := tmps2, params := params2, assign := asg2, body := body2, defers := dd2 }) = w1'
      have hput1 : w1'.heap[bi.r]? = some (.loop { state := .busy, pending := none, fn := f2', tmps := tmps2, params := params2, assign := asg2, body := body2, defers := dd2 }) := by
        rw [← hw1']; exact World.putObj_heap_same hlt2
      have hoth1 : ∀ k, k ≠ bi.r → w1'.heap[k]? = w1.heap[k]? := fun k hk => by rw [← hw1']; exact World.putObj_heap_other hk
      have R1' : Rel p φ1 (o.h.set l (.loop .busy none f2 T2 ps2 asg2 body2)).get w1' := by
        rw [hset2]
        exact R1.upd hb1 hget2 rfl rfl hoth1 (.loop hput1 hfn2 hps2 hpl2 hasg2 hbody2 hN2 hT2)
      have g1' : Gr φ1 o.h.get o.h.n w1 φ1 (o.h.set l (.loop .busy none f2 T2 ps2 asg2 body2)).get (o.h.set l (.loop .busy none f2 T2 ps2 asg2 body2)).n :=
        ⟨fun _ _ => rfl, g1.dom, Nat.le_refl _, fun q _ ho => by rw [hset2] at ho; exact owned_upd hget2 rfl ho, fun q _ ho => by rw [hset2] at ho; exact uses_upd hget2 rfl ho⟩
      have fr1' : Fr φ1 o.h.get w1 w1' := ⟨by rw [← hw1']; rfl, by rw [← hw1']; rfl, by rw [← hw1']; rfl, by rw [← hw1']; simp, fun q _ ho => hoth1 q fun e => ho ⟨l, bi, _, hb1, hget2, rfl, e.symm⟩⟩
      refine wpIn_mono (code_sim hF hcall hlog hfn rfl (some bi.r) body hbody.1 (fun _ => hbody.2) ho2 R1' g1.dom E1 N1 (s := 0) (M1.weak (Nat.zero_le _) |>.keep R1 fr1') (Nat.zero_le _)) fun e a2 w2 hg => ?_
      obtain ⟨he2, N2, M2, φ2, g2, fr2, R2, E2⟩ := hg
      have gg := g1.trans fr1.size (g1'.trans fr1'.size g2)
      have ff := fr1.trans g1 (fr1'.trans g1' fr2)
      have hb2 : φ2 l = some bi := g2.sub g1.dom l bi hb1
      obtain ⟨ob2, hob2, hbr2⟩ := R2.blk l bi hb2
      rw [hget3] at hob2
      cases hob2
      cases hbr2 with
      | @loop _ _ _ _ _ _ _ f3' tmps3 params3 fn3 dd3 hw3 hfn3 hps3 hpl3 hasg3 hbody3 hN3 hT3 =>
        have hlt3 : bi.r < w2.heap.size := (Array.getElem?_eq_some_iff.1 hw3).1
        have fin : ∀ jump : Option Code, ∀ w3, w3 = w2.putObj bi.r (.loop { state := if jump.isNone then .ready else .done, pending := jump, fn := f3', tmps := tmps3, params := params3, assign := asg3, body := body3, defers := dd3 }) →
            (endEx o2.ex) = (jump.isNone, jump, if jump.isNone then .ready else .done) →
            Post p φ h w (.bool (endEx o2.ex).1) (o2.h.set l (.loop (endEx o2.ex).2.2 (endEx o2.ex).2.1 f3 T3 ps3 asg3 body3)) (.bool jump.isNone) w3 := by
          intro jump w3 hw3e hend
          rw [hend]
          have hset3 : ∀ ob, (o2.h.set l ob).get = fun j => if j = l then some ob else o2.h.get j := fun ob => by funext j; exact H.get_set ..
          have hput : w3.heap[bi.r]? = some (.loop { state := if jump.isNone then .ready else .done, pending := jump, fn := f3', tmps := tmps3, params := params3, assign := asg3, body := body3, defers := dd3 }) := by
            rw [hw3e]; exact World.putObj_heap_same hlt3
          have hoth : ∀ k, k ≠ bi.r → w3.heap[k]? = w2.heap[k]? := fun k hk => by rw [hw3e]; exact World.putObj_heap_other hk
          have R3 : Rel p φ2 (o2.h.set l (.loop (if jump.isNone then .ready else .done) jump f3 T3 ps3 asg3 body3)).get w3 := by
            rw [hset3]
            exact R2.upd hb2 hget3 rfl rfl hoth (.loop hput hfn3 hps3 hpl3 hasg3 hbody3 hN3 hT3)
          have g3 : Gr φ2 o2.h.get o2.h.n w2 φ2 (o2.h.set l (.loop (if jump.isNone then .ready else .done) jump f3 T3 ps3 asg3 body3)).get o2.h.n :=
            ⟨fun _ _ => rfl, g2.dom, Nat.le_refl _, fun q _ ho => by rw [hset3] at ho; exact owned_upd hget3 rfl ho, fun q _ ho => by rw [hset3] at ho; exact uses_upd hget3 rfl ho⟩
          have fr3 : Fr φ2 o2.h.get w2 w3 := ⟨by rw [hw3e]; rfl, by rw [hw3e]; rfl, by rw [hw3e]; rfl, by rw [hw3e]; simp, fun q _ ho => hoth q fun e => ho ⟨l, bi, _, hb2, hget3, rfl, e.symm⟩⟩
          exact ⟨φ2, gg.trans ff.size g3, ff.trans gg fr3, R3, (VR.bool _).vp⟩
        cases hx : o2.ex with
        | normal =>
          rw [hx] at he2 fin
          rw [he2]
          exact ⟨_, _, run_endRound none hw3, _, rfl, fin none _ rfl rfl⟩
        | ret =>
          rw [hx] at he2 fin
          rw [he2]
          exact ⟨_, _, run_endRound (some .ret) hw3, _, rfl, fin (some .ret) _ rfl rfl⟩
        | exit id =>
          rw [hx] at he2 fin
          rw [he2]
          exact ⟨_, _, run_endRound (some (.exit id)) hw3, _, rfl, fin (some (.exit id)) _ rfl rfl⟩

/-- **An ideal run is what the real one comes to.** -/
theorem icall_sim (hF : Fits p P) (hsp : SpecSim p P) (hsl : SpecLog p) (n : Nat) : CallSim p P (icall p n) := by
  induction n with
  | zero => exact { fn := fun _ _ _ _ _ _ hh => by simp [icall] at hh, yd := fun _ _ _ _ _ _ hh => by simp [icall] at hh }
  | succ n ih =>
    exact { fn := fun _ _ _ _ _ _ hh _ _ _ hR hd ha => funcV_sim hF hsp ih (icall_stp hsl n) n hh hR hd ha
            yd := fun _ _ _ _ _ _ hh _ _ _ _ hR hd ha hb => roundV_sim hF ih (icall_stp hsl n) n hh hR hd ha hb }
end
end Go.L1
