/- Texts of a proof: no condition. -/
import Derived.Test.YtbmpmjljbiepiaaGreatOneK
import Derived.RangeFuncCalls
set_option autoImplicit true
set_option relaxedAutoImplicit true
set_option linter.all false
set_option linter.unusedVariables false
set_option linter.unusedSimpArgs false
/-! L1, twelfth part: one operation, and a region in the text's order. -/
namespace Go.L1
open Go

/-- lists alike, or not known -/
def VPL (φ : Emb) (l l' : List Value) : Prop := l.length = l'.length ∧ ∀ (i : Nat) (x y : Value), l[i]? = some x → l'[i]? = some y → VP φ x y
theorem VL.vpl {φ : Emb} {l l' : List Value} (h : VL φ l l') : VPL φ l l' := ⟨h.1, fun i x y a b => (h.2 i x y a b).vp⟩
theorem VPL.append {φ : Emb} {a b a' b' : List Value} (h : VPL φ a a') (h' : VPL φ b b') : VPL φ (a ++ b) (a' ++ b') := by
  refine ⟨by simp [h.1, h'.1], fun i x y hx hy => ?_⟩
  rw [List.getElem?_append] at hx hy
  have hl := h.1
  split at hx
  · rw [if_pos (by omega)] at hy; exact h.2 i x y hx hy
  · rw [if_neg (by omega), ← hl] at hy; exact h'.2 _ x y hx hy
theorem VPL.map {φ : Emb} {α : Type} {f g : α → Value} (l : List α) (h : ∀ a ∈ l, VP φ (f a) (g a)) : VPL φ (l.map f) (l.map g) := by
  refine ⟨by simp, fun i x y hx hy => ?_⟩
  rw [List.getElem?_map] at hx hy
  cases ha : l[i]? with
  | none => rw [ha] at hx; cases hx
  | some a =>
    rw [ha] at hx hy
    cases hx; cases hy
    exact h a (List.mem_of_getElem? ha)
theorem VPL.single {φ : Emb} {x y : Value} (h : VP φ x y) : VPL φ [x] [y] :=
  ⟨rfl, fun i a b ha hb => by
    cases i with
    | zero => cases ha; cases hb; exact h
    | succ i => cases ha⟩

/-- the fence: wide; of a round's frame, or of a plain one -/
def fence (r : Option Nat) : Fence := { Fence.wide with round := r }
theorem fence_none : fence none = Fence.wide := rfl

section
variable {p : Pg} {P : Program}

/-- none of these is a round -/
def NoYield (args : List Value) : Prop := ∀ l, Value.func (.yield l) #[] #[] ∉ args
/-- A function's call, as the ideal run has it, is what the real one comes to. -/
def FnSim (p : Pg) (P : Program) (call : CallF) : Prop := ∀ f args h v h1 lg, call (.fn f) args h = some (v, h1, lg) →
  ∀ φ w (args' : Array Value), Rel p φ h.get w → Dom φ h.n → VPL φ args args'.toList →
    (∃ v' w', (callFunc f args').run P w = .ok (.value v') w' ∧ Post p φ h w v h1 v' w' ∧ NoYield args) ∨
    ((callFunc f args').run P w = .ok (.enter f args') w ∧ CallsIn Fence.wide 0 P f args' w fun e w' => ∃ v', e = .returned v' ∧ Post p φ h w v h1 v' w')
/-- Likewise a round's. -/
def YdSim (p : Pg) (P : Program) (call : CallF) : Prop := ∀ l args h v h1 lg, call (.yield l) args h = some (v, h1, lg) →
  ∀ φ w (args' : Array Value) bi, Rel p φ h.get w → Dom φ h.n → VPL φ args args'.toList → φ l = some bi →
    ∃ f tmps asg body, (Instr.yield bi.r args').run P w = .ok (.round bi.r f tmps asg body) w ∧
      RoundIn Fence.wide 0 P bi.r f tmps asg body w fun e w' => ∃ v', e = .returned v' ∧ Post p φ h w v h1 v' w'

structure CallSim (p : Pg) (P : Program) (call : CallF) : Prop where
  fn : FnSim p P call
  yd : YdSim p P call

theorem CallsIn.atFence (r : Option Nat) {f : FuncId} {args : Array Value} {w : World} {R : Ending → World → Prop} (h : CallsIn Fence.wide 0 P f args w R) : CallsIn (fence r) 0 P f args w R := h
theorem RoundIn.atFence (r : Option Nat) {l : Nat} {f : FuncId} {tmps : Array Value} {asg body : Code} {w : World} {R : Ending → World → Prop} (h : RoundIn Fence.wide 0 P l f tmps asg body w R) :
    RoundIn (fence r) 0 P l f tmps asg body w R := h

theorem alloc_post {φ : Emb} {h : H} {w : World} (hR : Rel p φ h.get w) (hd : Dom φ h.n) {v v' : Value} {ob : IObj} {o' : Obj} (hl : Laid p φ w h.n v ob v' o') :
    Post p φ h w v (h.push ob) v' { w with heap := w.heap.push o' } := by
  obtain ⟨bi, hbi, hv, hB, _, _⟩ := hl
  have hget : (h.push ob).get = fun j => if j = h.n then some ob else h.get j := by funext j; rw [H.get_push]
  refine ⟨φ.put h.n bi, ?_, ?_, ?_, hv.vp⟩
  · rw [hget, H.n_push]
    exact Gr.new hd (fun hlt => absurd hlt (by omega)) fun _ _ h _ => h
  · exact ⟨rfl, rfl, rfl, by simp, fun r hr _ => by simp [Array.getElem?_push, Nat.ne_of_lt hr]⟩
  · rw [hget]
    refine hR.new hd (fun c ci oc hc hoc hl => ?_) (fun c ci oc hc hoc hl => ?_) (hB _ ?_)
    · have := hR.lt hc hoc hl; omega
    · have := hR.lt hc hoc hl
      simp [Array.getElem?_push, Nat.ne_of_lt this]
    · rw [hbi]; simp

theorem opV_not_defer {call : CallF} {T : Env} {h : H} {o : Op} {r : Value × H × List Nat} (hv : opV p call T h o = some r) : ∀ c, o ≠ .defer c := by
  rintro c rfl
  simp [opV, kindOf, heavyV] at hv

theorem run_call {a : Act} {f : Operand} {args : Array Operand} {ts : Array TypeId} {type : TypeId} {dst : Option Nat} {pos : String} {after : Array Edge} {guard : Option (Nat × Bool)} {g : Fn} {x y : Array Value} {w : World}
    (hf : a.eval f = .func g x y) :
    (execOp a.eval { dst := dst, op := .call { callee := .value f, args := args, argTypes := ts }, type := type, pos := pos, after := after, guard := guard }).run P w = (invoke (.fn g y) (x ++ args.map a.eval)).run P w := by
  simp only [execOp, resolve, hf, Deferred.ofValue, Sem.run_bind, Sem.run_pure, Result.andThen_ok]

/-- One operation. -/
theorem oper_sim (hF : Fits p P) {call : CallF} (hcall : CallSim p P call) (r : Option Nat) {T : Env} {a : Act} {h : H} {φ : Emb} {w : World} (hR : Rel p φ h.get w) (hd : Dom φ h.n) (o : Oper)
    {v : Value} {h1 : H} {l1 : List Nat} (hv : opV p call T h o.op = some (v, h1, l1)) (hE : ∀ x ∈ o.op.operands.toList, VP φ (eval T x) (a.eval x))
    {next : Act → World → Prop} {Q : Exit → Act → World → Prop} (K : ∀ v' w', Post p φ h w v h1 v' w' → next (a.put o.dst v') w') : o.wpIn (fence r) 0 P a w next Q := by
  refine ⟨fun _ _ => trivial, ?_⟩
  rw [Oper.semAt_eq _ _ _ (opV_not_defer hv)]
  unfold opV at hv
  split at hv
  · rename_i hk
    obtain ⟨x, hx, e⟩ := Option.map_eq_some_iff.1 hv
    cases e
    obtain ⟨v', hrun, hvp⟩ := pure_sim (P := P) hF o hk hx hE (fun b _ bi hb => hR.blk b bi hb)
    rw [hrun]
    exact K v' w ⟨φ, Gr.refl w hd, Fr.refl _ _ _, hR, hvp⟩
  · obtain ⟨⟨x, ob⟩, hx, e⟩ := Option.map_eq_some_iff.1 hv
    cases e
    have hn : φ h.n = none := by
      cases hh : φ h.n with
      | none => rfl
      | some x => exact absurd (hd h.n x hh) (by omega)
    obtain ⟨v', o', hrun, hl⟩ := alloc_sim (P := P) (w := w) hF hn o hx hE
    rw [hrun]
    exact K v' _ (alloc_post hR hd hl)
  · by_cases hnc : ∀ f as ts, o.op ≠ .call { callee := .value f, args := as, argTypes := ts }
    · obtain ⟨v', w', hdid, hpost⟩ := heavy_sim (P := P) hF hR hd o hv hE hnc
      rcases hdid with e | ⟨e, rfl⟩
      · rw [e]; exact K v' w' hpost
      · rw [e]; exact K _ w' hpost
    · obtain ⟨dst, op, type, pos, after, guard⟩ := o
      simp only [Classical.not_forall, ne_eq, Classical.not_not] at hnc
      obtain ⟨f, as, ts, rfl⟩ := hnc
      simp only [heavyV] at hv
      have hvf := hE f (by simp [Op.operands, Call.operands])
      have hva : VPL φ (as.toList.map (eval T)) (as.map a.eval).toList := by
        rw [Array.toList_map]
        exact VPL.map _ fun x hx => hE x (by simpa [Op.operands, Call.operands] using Or.inr (by simpa using hx))
      unfold callV at hv
      split at hv
      · rename_i g first cap he
        rw [he] at hvf
        obtain ⟨x', y', e', hx, hy⟩ := hvf.funcI
        rw [run_call e']
        have hargs : VPL φ (first.toList ++ as.toList.map (eval T) ++ cap.toList) (x' ++ as.map a.eval ++ y').toList := by
          simp only [Array.toList_append]
          exact (hx.vpl.append hva).append hy.vpl
        simp only [invoke]
        rcases hcall.fn _ _ _ _ _ _ hv φ w _ hR hd hargs with ⟨v', w', hrun, hpost, _⟩ | ⟨hrun, hc⟩
        · rw [hrun]; exact K v' w' hpost
        · rw [hrun]
          refine ⟨fun h => by simp [fence, Fence.wide] at h, CallsIn.atFence r (hc.mono fun e w' => ?_)⟩
          rintro ⟨v', rfl, hpost⟩
          exact K v' w' hpost
      · rename_i l first cap he
        split at hv
        · rw [he] at hvf
          obtain ⟨bi, hb, rfl, rfl, e'⟩ := hvf.yieldI
          rw [run_call e']
          obtain ⟨f, tmps, asg, body, hrun, hr⟩ := hcall.yd _ _ _ _ _ _ hv φ w (as.map a.eval) bi hR hd hva hb
          simp only [invoke]
          rw [show (#[] ++ Array.map a.eval as) = Array.map a.eval as by simp, hrun]
          refine ⟨fun h => by simp [fence, Fence.wide] at h, RoundIn.atFence r (hr.mono fun e w' => ?_)⟩
          rintro ⟨v', rfl, hpost⟩
          exact K v' w' hpost
        · cases hv
      · cases hv

/-! ### Slots -/
theorem put_size (a : Act) (d : Option Nat) (v : Value) : (a.put d v).tmps.size = a.tmps.size := by cases d <;> simp [Act.put]
theorem put_defers (a : Act) (d : Option Nat) (v : Value) : (a.put d v).defers = a.defers := by cases d <;> rfl
theorem er_put {φ : Emb} {T : Env} {a : Act} (hE : ER φ T a.tmps) {d : Option Nat} {v v' : Value} (hv : VP φ v v') (hN : slotOk a.tmps.size d = true) : ER φ (putT T d v) (a.put d v').tmps := by
  cases d with
  | none => exact hE
  | some d =>
    have hlt : d < a.tmps.size := Nat.le_of_ble_eq_true hN
    intro i
    simp only [putT, Act.put, Env.set]
    by_cases e : i = d
    · subst e
      simp [hlt, hv]
    · have : Nat.beq i d = false := by rw [Bool.eq_false_iff]; intro hb; exact e (Nat.eq_of_beq_eq_true hb)
      rw [this]
      simp only [cond_false]
      have h2 := hE i
      rw [Array.getD_eq_getD_getElem?, Array.getElem?_setIfInBounds, if_neg (Ne.symm e), ← Array.getD_eq_getD_getElem?]
      exact h2


/-- What a guard asks for, asked of the real values. -/
theorem wanted_sim {φ : Emb} {ops : Array Oper} {T : Env} {tmps : Array Value} {o : Oper} {b : Bool}
    (hE : ∀ j w d, o.guard = some (j, w) → guardSlot ops.toList j = some d → VP φ (T d) (tmps.getD d undef)) (hw : wantedV ops.toList T o.guard = some b) :
    Region.wanted o (yielded ops tmps) = b := by
  unfold wantedV at hw
  unfold Region.wanted
  cases hg : o.guard with
  | none => rw [hg] at hw; cases hw; rfl
  | some jw =>
    obtain ⟨j, want⟩ := jw
    rw [hg] at hw
    simp only at hw ⊢
    split at hw
    · rename_i d hs
      have hv := hE j want d hg hs
      have hys : ((ops[j]?).bind (·.dst)) = some d := by
        unfold guardSlot at hs
        rwa [Array.getElem?_toList] at hs
      unfold yielded
      rw [hys]
      simp only [Option.bind_some]
      rw [Array.getD_eq_getD_getElem?] at hv
      split at hw
      · rename_i b' he
        rw [he] at hv
        cases hw
        have := hv.boolI
        cases hh : tmps[d]? with
        | none => rw [hh] at this; simp [undef] at this
        | some q => rw [hh] at this; simp at this; subst this; simp
      · cases hw
      · cases hw
      · rename_i hnb hnp hnf
        cases hw
        cases hh : tmps[d]? with
        | none => rfl
        | some q =>
          rw [hh] at hv
          simp only [Option.getD_some] at hv
          cases q with
          | bool b' =>
            exfalso
            rcases hv with hp | hv
            · unfold isPoison at hp; split at hp
              · rename_i hpp; exact hnp _ hpp
              · cases hp
            · generalize T d = q at hv hnb hnf
              cases hv with
              | nilIface _ => exact hnf rfl
              | bool _ => exact hnb _ rfl
          | _ => rfl
    · cases hw

/-- What a piece of code has done. -/
def After (p : Pg) (φ : Emb) (h : H) (w : World) (T1 : Env) (h1 : H) (a' : Act) (w' : World) : Prop :=
  ∃ φ', Gr φ h.get h.n w φ' h1.get h1.n ∧ Fr φ h.get w w' ∧ Rel p φ' h1.get w' ∧ ER φ' T1 a'.tmps
theorem Gr.domOf {φ φ' : Emb} {C C' : Cont} {n n' : Nat} {w : World} (g : Gr φ C n w φ' C' n') : Dom φ' n' := g.dom
theorem After.trans {φ φ1 : Emb} {h h1 h2 : H} {w w1 w2 : World} {T2 : Env} {a2 : Act} (g : Gr φ h.get h.n w φ1 h1.get h1.n) (f : Fr φ h.get w w1)
    (h' : After p φ1 h1 w1 T2 h2 a2 w2) : After p φ h w T2 h2 a2 w2 := by
  obtain ⟨φ2, g2, f2, r2, e2⟩ := h'
  exact ⟨φ2, g.trans f.size g2, f.trans g f2, r2, e2⟩
theorem opOk_operands {N : Nat} {o : Oper} (h : opOk N o = true) : ∀ x ∈ o.op.operands.toList, operandOk x = true := by
  simp only [opOk, Bool.and_eq_true, List.all_eq_true] at h
  exact h.1
theorem opOk_slot {N : Nat} {o : Oper} (h : opOk N o = true) : slotOk N o.dst = true := by
  simp only [opOk, Bool.and_eq_true] at h
  exact h.2

theorem ops1_sim (hF : Fits p P) {call : CallF} (hcall : CallSim p P call) (r : Option Nat) {ops : Array Oper} {N : Nat} {Q : Exit → Act → World → Prop} {T1 : Env} {h1 : H} :
    ∀ (l : List Oper) (k : Nat), ops.toList.drop k = l → ∀ {T : Env} {h : H} {lg lg1 : List Nat} {φ : Emb} {w : World} {a : Act}, ops1 p call ops.toList l T h lg = some (T1, h1, lg1) → Rel p φ h.get w → Dom φ h.n →
      ER φ T a.tmps → a.tmps.size = N → (∀ o ∈ l, opOk N o = true) → (∀ a' w', a'.tmps.size = N → a'.defers = a.defers → After p φ h w T1 h1 a' w' → Q .normal a' w') →
      wpOpsIn (fence r) 0 P ops Q (List.range' k l.length) a w
  | [], k, _, T, h, lg, lg1, φ, w, a, hh, hR, hd, hE, hN, _, K => by
    cases hh
    simp only [List.length_nil, List.range'_zero, wpOpsIn]
    exact K a w hN rfl ⟨φ, Gr.refl w hd, Fr.refl _ _ _, hR, hE⟩
  | o :: l, k, hl, T, h, lg, lg1, φ, w, a, hh, hR, hd, hE, hN, hok, K => by
    have ho : ops[k]? = some o := by
      rw [← Array.getElem?_toList, ← Nat.add_zero k, ← List.getElem?_drop, hl]; rfl
    have hl' : ops.toList.drop (k + 1) = l := by rw [← List.drop_drop, hl]; rfl
    have hoo := hok o (by simp)
    simp only [List.length_cons, List.range'_succ, wpOpsIn, ho]
    unfold ops1 at hh
    split at hh
    · cases hh
    · rename_i hw
      rw [wanted_sim (fun j _ d _ _ => hE d) hw]
      refine ⟨fun _ _ => trivial, ?_⟩
      refine ops1_sim hF hcall r l (k + 1) hl' hh hR hd (er_put hE vr_ud.vp (by rw [hN]; exact opOk_slot hoo)) (by rw [put_size]; exact hN) (fun o' ho' => hok o' (by simp [ho'])) ?_
      exact fun a' w' h2 h3 h4 => K a' w' h2 (by rw [h3, put_defers]) h4
    · rename_i hw
      rw [wanted_sim (fun j _ d _ _ => hE d) hw]
      split at hh
      · cases hh
      · rename_i v h2 l1 hv
        refine oper_sim hF hcall r hR hd o hv (fun x hx => eval_rel hE (opOk_operands hoo x hx)) ?_
        rintro v' w' ⟨φ', g, f, hR', hvp⟩
        refine ops1_sim hF hcall r l (k + 1) hl' hh hR' g.dom (er_put (hE.mono (g.sub hd)) hvp (by rw [hN]; exact opOk_slot hoo)) (by rw [put_size]; exact hN) (fun o' ho' => hok o' (by simp [ho'])) ?_
        exact fun a' w'' h2 h3 h4 => K a' w'' h2 (by rw [h3, put_defers]) (After.trans g f h4)

end
end Go.L1
