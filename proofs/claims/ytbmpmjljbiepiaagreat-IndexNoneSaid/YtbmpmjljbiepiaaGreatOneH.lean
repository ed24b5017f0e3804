/- Texts of a proof: no condition. -/
import Derived.Test.YtbmpmjljbiepiaaGreatOneG
import Derived.Laws.Append
set_option autoImplicit true
set_option relaxedAutoImplicit true
set_option linter.all false
set_option linter.unusedVariables false
set_option linter.unusedSimpArgs false
/-! L1, eighth part: operations that write. -/
namespace Go.L1
open Go

section real
variable {P : Program} {w : World}

/-- what is appended -/
inductive AppX (P : Program) (w : World) (size e : Nat) (tx : TypeId) : Value → Nat → Array Value → Prop
  | slice {e2 xn xc : Nat} {xa : Option Addr} {new : Array Value} (hx : P.underlying tx = some (.slice e2))
      (hnew : ∀ w' : World, w'.heap = w.heap → (Builtin.firstCells size xn (.slice xa xn xc)).run P w' = .ok new w') : AppX P w size e tx (.slice xa xn xc) xn new
  | zeros {k : IntKind} {m : Nat} {z : Value} (hx : P.underlying tx = some (.int k)) (hz : ∀ w', (zeroValue e).run P w' = .ok z w') (hm : m ≤ 1048576)
      (hb : ∀ w', ∃ ti, (typeInfo e).run P w' = .ok ti w' ∧ (m : Int) * ti.bytes ≤ 2 ^ 48) (hm0 : m * size = 0 → Builtin.zeroCells z.cells m = #[]) : AppX P w size e tx (.int .i64 m) m (Builtin.zeroCells z.cells m)

theorem le_grownCap (w : World) (need old : Nat) (e : TypeId) : need ≤ grownCap w need old e := by
  show need ≤ need + _
  exact Nat.le_add_right _ _
theorem zc_i64 {m : Nat} (h : m ≤ 1048576) : IntKind.i64.wrap (m : Int) = m := IntWalk.i64_in _ (by omega)

theorem app_in {t tx e : Nat} {ts : Array TypeId} {size : Nat} (h0 : ts[0]? = some t) (h1 : ts[1]? = some tx) (ht : P.underlying t = some (.slice e)) (hs : ∀ w', (sizeOf e).run P w' = .ok size w')
    {x : Value} {m : Nat} {new : Array Value} (hx : AppX P w size e tx x m new) {n c : Nat} {base : Option Addr} (hle : n + m ≤ c) {w' : World}
    (hst : (match base with | some a => storeCells (a.add (n * size)) new.toList | none => pure ()).run P w = .ok () w') (ty : TypeId) :
    (Builtin.append_ ts ty #[.slice base n c, x]).run P w = .ok (.slice base (n + m) c) w' := by
  cases hx with
  | slice hxt hnew =>
    have hn := hnew w rfl
    simp only [Builtin.append_, h0, h1, List.getElem?_toArray, List.getElem?_cons_zero, List.getElem?_cons_succ, Sem.run_bind, run_underlying ht, Result.andThen_ok, hs, run_underlying hxt, Sem.run_pure, Bool.false_eq_true, if_false, Builtin.lenOf, if_pos hle, Bool.not_false, if_true, hn]
    cases base with
    | none => cases hst; rfl
    | some a => simp only [Sem.run_bind, hst, Result.andThen_ok, Sem.run_pure]
  | @zeros k m z hxt hz hm hb hm0 =>
    obtain ⟨ti, hti, hbb⟩ := hb w
    have hw : IntKind.i64.wrap (m : Int) = m := zc_i64 hm
    have hng : ¬ ((m : Int) < 0) := by omega
    have hnb : ¬ ((m : Int) * ti.bytes > 2 ^ 48) := by omega
    simp only [Builtin.append_, h0, h1, List.getElem?_toArray, List.getElem?_cons_zero, List.getElem?_cons_succ, Sem.run_bind, run_underlying ht, Result.andThen_ok, hs, run_underlying hxt, Sem.run_pure, if_true, asInt, asIntOf, hw, hti, if_neg hng, if_neg hnb, Int.toNat_natCast, if_pos hle, Bool.not_true, Bool.false_eq_true, if_false]
    by_cases hz0 : m * size = 0
    · have e := hm0 hz0
      rw [e] at hst
      rw [if_pos hz0, Sem.run_pure]
      simp only [Result.andThen_ok]
      cases base with
      | none => cases hst; rfl
      | some a => simp only [Sem.run_bind, hst, Result.andThen_ok, Sem.run_pure]
    · rw [if_neg hz0]
      simp only [Sem.run_bind, hz, Result.andThen_ok, Sem.run_pure]
      cases base with
      | none => cases hst; rfl
      | some a => simp only [Sem.run_bind, hst, Result.andThen_ok, Sem.run_pure]

theorem app_grow {t tx e : Nat} {ts : Array TypeId} {size : Nat} (h0 : ts[0]? = some t) (h1 : ts[1]? = some tx) (ht : P.underlying t = some (.slice e)) (hs : ∀ w', (sizeOf e).run P w' = .ok size w')
    {ti : TypeInfo} (hti : P.info? e = some ti) {z : Value} (hz : ∀ w', (zeroValue e).run P w' = .ok z w')
    {x : Value} {m : Nat} {new old : Array Value} (hx : AppX P w size e tx x m new) {n c : Nat} {base : Option Addr} (hgt : c < n + m)
    (hold : ∀ w' : World, w'.heap = w.heap → (Builtin.firstCells size n (.slice base n c)).run P w' = .ok old w') (hb : (n + m) * ti.bytes ≤ 140737488355328) (hn : n + m ≤ 9223372036854775807) (ty : TypeId) :
    (Builtin.append_ ts ty #[.slice base n c, x]).run P w = .ok (.slice (some ⟨w.heap.size, 0, none⟩) (n + m) (grownCap w (n + m) c e))
      { w with drawn := w.drawn + 1, heap := w.heap.push (.cells (old ++ new ++ Builtin.zeroCells z.cells (grownCap w (n + m) c e - (n + m))) e) } := by
  have hnle : ¬ n + m ≤ c := by omega
  have hfit := growslice_fits hgt hb
  have hnf : ¬ (Builtin.nextslicecap (n + m) c * ti.bytes > 2 ^ 48) := by omega
  have hni : ¬ (((n + m : Nat) : Int) > IntKind.i64.max) := by
    have : IntKind.i64.max = 9223372036854775807 := by decide
    omega
  have htr : ∀ w' : World, (typeInfo e).run P w' = .ok ti w' := fun w' => by simp [typeInfo, hti]
  have hq : (Question.appendCap (n + m) c e).forced = false := rfl
  cases hx with
  | slice hxt hnew =>
    simp only [Builtin.append_, h0, h1, List.getElem?_toArray, List.getElem?_cons_zero, List.getElem?_cons_succ, Sem.run_bind, run_underlying ht, Result.andThen_ok, hs, run_underlying hxt, Sem.run_pure, Bool.false_eq_true, if_false, Builtin.lenOf, if_neg hnle, Bool.not_false, if_true, htr,
      false_or, if_neg hnf]
    rw [if_neg (by intro h; exact hni h.1), Sem.run_bind, htr]
    simp only [Result.andThen_ok]
    rw [if_neg hnf]
    simp only [Sem.run_bind, run_choose, hq, Bool.false_eq_true, if_false, Result.andThen_ok, htr, run_askRoom]
    rw [hold { w with drawn := w.drawn + 1 } rfl]
    simp only [Result.andThen_ok]
    rw [hnew { w with drawn := w.drawn + 1 } rfl]
    simp only [Result.andThen_ok, hz, newRow, Sem.run_bind, run_newObj, Sem.run_pure]
    rfl
  | @zeros k m z' hxt hz' hm hb' hm0 =>
    have hzz : z' = z := by
      have := (hz' w).symm.trans (hz w)
      cases this; rfl
    subst hzz
    have hbb : (m : Int) * ti.bytes ≤ 2 ^ 48 := by
      obtain ⟨ti', h1, h2⟩ := hb' w
      rw [htr] at h1
      cases h1
      exact h2
    have hw : IntKind.i64.wrap (m : Int) = m := zc_i64 hm
    have hng : ¬ ((m : Int) < 0) := by omega
    have hnb : ¬ ((m : Int) * ti.bytes > 2 ^ 48) := by omega
    simp only [Builtin.append_, h0, h1, List.getElem?_toArray, List.getElem?_cons_zero, List.getElem?_cons_succ, Sem.run_bind, run_underlying ht, Result.andThen_ok, hs, run_underlying hxt, Sem.run_pure, if_true, asInt, asIntOf, hw, htr, if_neg hng, if_neg hnb, Int.toNat_natCast, if_neg hnle, Bool.not_true, Bool.false_eq_true, if_false,
      true_or, and_true, if_neg hni, if_neg hnf]
    simp only [Sem.run_bind, run_choose, hq, Bool.false_eq_true, if_false, Result.andThen_ok, htr, run_askRoom]
    rw [hold { w with drawn := w.drawn + 1 } rfl]
    simp only [Result.andThen_ok]
    by_cases hz0 : m * size = 0
    · have e0 := hm0 hz0
      rw [if_pos hz0, Sem.run_pure, e0]
      simp only [Result.andThen_ok, hz, newRow, Sem.run_bind, run_newObj, Sem.run_pure]
      rfl
    · rw [if_neg hz0]
      simp only [Sem.run_bind, hz, Result.andThen_ok, Sem.run_pure, newRow, run_newObj]
      rfl
end real

section
variable {p : Pg} {P : Program} {φ : Emb} {w : World}

theorem beq_ne {a b : Nat} (h : a ≠ b) : Nat.beq a b = false := by rw [Bool.eq_false_iff]; intro hb; exact h (Nat.eq_of_beq_eq_true hb)
theorem Hp.get_e (j : Nat) : Hp.get .e j = none := rfl
theorem Hp.get_n (v : Option IObj) (l r : Hp) (j : Nat) : Hp.get (.n v l r) j = if j = 0 then v else if j % 2 = 1 then l.get (j / 2) else r.get (j / 2 - 1) := by
  show (bif Nat.beq j 0 then v else bif Nat.beq (j % 2) 1 then l.get (j / 2) else r.get (j / 2 - 1)) = _
  by_cases h0 : j = 0
  · subst h0; simp
  · rw [beq_ne h0, cond_false, if_neg h0]
    by_cases h1 : j % 2 = 1
    · rw [h1]; simp
    · rw [beq_ne h1, cond_false, if_neg h1]
theorem Hp.setF_n (f : Nat) (v : Option IObj) (l r : Hp) (i : Nat) (o : IObj) : Hp.setF (f + 1) (.n v l r) i o = if i = 0 then .n (some o) l r else if i % 2 = 1 then .n v (Hp.setF f l (i / 2) o) r else .n v l (Hp.setF f r (i / 2 - 1) o) := by
  show (bif Nat.beq i 0 then Hp.n (some o) l r else bif Nat.beq (i % 2) 1 then Hp.n v (Hp.setF f l (i / 2) o) r else Hp.n v l (Hp.setF f r (i / 2 - 1) o)) = _
  by_cases h0 : i = 0
  · subst h0; simp
  · rw [beq_ne h0, cond_false, if_neg h0]
    by_cases h1 : i % 2 = 1
    · rw [h1]; simp
    · rw [beq_ne h1, cond_false, if_neg h1]
theorem Hp.setF_e (f : Nat) (i : Nat) (o : IObj) : Hp.setF (f + 1) .e i o = Hp.setF (f + 1) (.n none .e .e) i o := rfl
theorem Hp.get_setF : ∀ (f : Nat) (t : Hp) (i j : Nat) (o : IObj), i < f → (Hp.setF f t i o).get j = if j = i then some o else t.get j
  | 0, _, _, _, _, h => by omega
  | f + 1, .n v l r, i, j, o, h => by
    rw [Hp.setF_n]
    by_cases hi : i = 0
    · subst hi
      rw [if_pos rfl, Hp.get_n, Hp.get_n]
      by_cases hj : j = 0
      · simp [hj]
      · simp [hj]
    · rw [if_neg hi]
      by_cases h1 : i % 2 = 1
      · rw [if_pos h1, Hp.get_n, Hp.get_n, Hp.get_setF f l _ _ o (by omega)]
        by_cases hj : j = 0
        · subst hj; rw [if_pos rfl, if_neg (fun e => hi e.symm), if_pos rfl]
        · rw [if_neg hj, if_neg hj]
          by_cases hj1 : j % 2 = 1
          · rw [if_pos hj1, if_pos hj1]
            by_cases e : j = i
            · subst e; simp
            · rw [if_neg e, if_neg (by omega)]
          · rw [if_neg hj1, if_neg hj1, if_neg (by omega)]
      · rw [if_neg h1, Hp.get_n, Hp.get_n, Hp.get_setF f r _ _ o (by omega)]
        by_cases hj : j = 0
        · subst hj; rw [if_pos rfl, if_neg (fun e => hi e.symm), if_pos rfl]
        · rw [if_neg hj, if_neg hj]
          by_cases hj1 : j % 2 = 1
          · rw [if_pos hj1, if_pos hj1, if_neg (by omega)]
          · rw [if_neg hj1, if_neg hj1]
            by_cases e : j = i
            · subst e; simp
            · rw [if_neg e, if_neg (by omega)]
  | f + 1, .e, i, j, o, h => by
    rw [Hp.setF_e, Hp.get_setF (f + 1) (.n none .e .e) i j o h]
    congr 1
    rw [Hp.get_n]
    split
    · rfl
    · split <;> rfl
termination_by f t => (f, match t with | .e => 1 | _ => 0)
theorem H.get_set (h : H) (i : Nat) (o : IObj) (j : Nat) : (h.set i o).get j = if j = i then some o else h.get j := Hp.get_setF _ _ _ _ _ (Nat.lt_succ_self _)
theorem H.get_push (h : H) (o : IObj) (j : Nat) : (h.push o).get j = if j = h.n then some o else h.get j := Hp.get_setF _ _ _ _ _ (Nat.lt_succ_self _)
theorem H.n_set (h : H) (i : Nat) (o : IObj) : (h.set i o).n = h.n := rfl
theorem H.n_push (h : H) (o : IObj) : (h.push o).n = h.n + 1 := rfl

def Dom (φ : Emb) (n : Nat) : Prop := ∀ b bi, φ b = some bi → b < n

/-- A block that may be written is another one now; nothing else has turned. -/
theorem Rel.upd {C : Cont} (hR : Rel p φ C w) {b : Nat} {bi : BI} {ob ob' : IObj} (hb : φ b = some bi) (hC : C b = some ob) (hrw : rwO ob = true) (hl : liveO ob = true) {w' : World}
    (hw : ∀ k, k ≠ bi.r → w'.heap[k]? = w.heap[k]?) (hB : BlockRel p φ bi w' ob') : Rel p φ (fun j => if j = b then some ob' else C j) w' := by
  constructor
  · intro c ci hc
    by_cases e : c = b
    · subst e
      rw [hb] at hc
      cases hc
      exact ⟨ob', by simp, hB⟩
    · obtain ⟨oc, hoc, hr⟩ := hR.blk c ci hc
      refine ⟨oc, by simp [e, hoc], ?_⟩
      by_cases hlc : liveO oc = true
      · exact hr.same (hw _ (Ne.symm (hR.inj b c bi ci ob oc hb hc hC hoc (Ne.symm e) hrw hlc)))
      · cases oc <;> simp [liveO] at hlc
        exact .dead
  · intro c d ci di oc od hc hd hoc hod hne hrwc hld
    by_cases e1 : c = b
    · subst e1
      rw [hb] at hc
      cases hc
      have e2 : d ≠ c := Ne.symm hne
      simp only [e2, if_false] at hod
      exact hR.inj c d bi di ob od hb hd hC hod hne hrw hld
    · simp only [e1, if_false] at hoc
      by_cases e2 : d = b
      · subst e2
        rw [hb] at hd
        cases hd
        exact hR.inj c d ci bi oc ob hc hb hoc hC hne hrwc hl
      · simp only [e2, if_false] at hod
        exact hR.inj c d ci di oc od hc hd hoc hod hne hrwc hld
theorem owned_upd {C : Cont} {b : Nat} {ob ob' : IObj} (hC : C b = some ob) (hrw : rwO ob = true) {r : Nat} (h : Owned φ (fun j => if j = b then some ob' else C j) r) : Owned φ C r := by
  obtain ⟨c, ci, oc, hc, hoc, hrwc, rfl⟩ := h
  by_cases e : c = b
  · subst e; exact ⟨c, ci, ob, hc, hC, hrw, rfl⟩
  · exact ⟨c, ci, oc, hc, by simpa [e] using hoc, hrwc, rfl⟩

theorem rw_live : ∀ {o : IObj}, rwO o = true → liveO o = true := by intro o; cases o <;> simp [rwO, liveO]
theorem uses_upd {C : Cont} {b : Nat} {ob ob' : IObj} (hC : C b = some ob) (hl : liveO ob = true) {r : Nat} (h : Uses φ (fun j => if j = b then some ob' else C j) r) : Uses φ C r := by
  obtain ⟨c, ci, oc, hc, hoc, hrwc, rfl⟩ := h
  by_cases e : c = b
  · subst e; exact ⟨c, ci, ob, hc, hC, hl, rfl⟩
  · exact ⟨c, ci, oc, hc, by simpa [e] using hoc, hrwc, rfl⟩
theorem Owned.uses {C : Cont} {r : Nat} (h : Owned φ C r) : Uses φ C r := by
  obtain ⟨c, ci, oc, hc, hoc, hrwc, rfl⟩ := h
  exact ⟨c, ci, oc, hc, hoc, rw_live hrwc, rfl⟩

/-- A new block. -/
theorem Rel.new {C : Cont} {n : Nat} (hR : Rel p φ C w) (hd : Dom φ n) {bi : BI} {ob : IObj} (hfr : ∀ c ci oc, φ c = some ci → C c = some oc → liveO oc = true → ci.r ≠ bi.r) {w' : World}
    (hw : ∀ c ci oc, φ c = some ci → C c = some oc → liveO oc = true → w'.heap[ci.r]? = w.heap[ci.r]?)
    (hB : BlockRel p (φ.put n bi) bi w' ob) : Rel p (φ.put n bi) (fun j => if j = n then some ob else C j) w' := by
  have hn : φ n = none := by
    cases h : φ n with
    | none => rfl
    | some x => exact absurd (hd n x h) (by omega)
  have old : ∀ c ci, φ.put n bi c = some ci → c ≠ n → φ c = some ci := fun c ci h e => by rwa [Emb.put_ne e] at h
  have rwlive : ∀ o : IObj, rwO o = true → liveO o = true := by intro o; cases o <;> simp [rwO, liveO]
  constructor
  · intro c ci hc
    by_cases e : c = n
    · subst e
      rw [Emb.put_self] at hc
      cases hc
      exact ⟨ob, by simp, hB⟩
    · have hc' := old c ci hc e
      obtain ⟨oc, hoc, hrc⟩ := hR.blk c ci hc'
      refine ⟨oc, by simp [e, hoc], ?_⟩
      by_cases hlc : liveO oc = true
      · exact (hrc.same (hw c ci oc hc' hoc hlc)).mono (Emb.sub_put hn)
      · cases oc <;> simp [liveO] at hlc
        exact .dead
  · intro c d ci di oc od hc hd' hoc hod hne hrwc hld
    by_cases e1 : c = n
    · subst e1
      rw [Emb.put_self] at hc
      cases hc
      have e2 : d ≠ c := Ne.symm hne
      simp only [e2, if_false] at hod
      exact Ne.symm (hfr d di od (old d di hd' e2) hod hld)
    · simp only [e1, if_false] at hoc
      have hc' := old c ci hc e1
      by_cases e2 : d = n
      · subst e2
        rw [Emb.put_self] at hd'
        cases hd'
        exact hfr c ci oc hc' hoc (rwlive _ hrwc)
      · simp only [e2, if_false] at hod
        exact hR.inj c d ci di oc od hc' (old d di hd' e2) hoc hod hne hrwc hld
theorem Rel.lt {C : Cont} (hR : Rel p φ C w) {c : Nat} {ci : BI} {oc : IObj} (hc : φ c = some ci) (hoc : C c = some oc) (hl : liveO oc = true) : ci.r < w.heap.size := by
  obtain ⟨o2, ho2, hr2⟩ := hR.blk c ci hc
  rw [hoc] at ho2
  cases ho2
  exact hr2.lt hl
theorem Gr.new {C C0 : Cont} {n : Nat} (hd : Dom φ n) {bi : BI} {ob : IObj} (hown : bi.r < w.heap.size → Owned φ C0 bi.r) (hC : ∀ c oc, C c = some oc → liveO oc = true → C0 c = some oc) :
    Gr φ C0 n w (φ.put n bi) (fun j => if j = n then some ob else C j) (n + 1) := by
  refine ⟨fun b hb => Emb.put_ne (by omega), fun b ci hb => ?_, by omega, fun r hr' ho => ?_, fun r hr' ho => ?_⟩
  · by_cases e : b = n
    · omega
    · rw [Emb.put_ne e] at hb; have := hd b ci hb; omega
  · obtain ⟨c, ci, oc, hc, hoc, hrwc, rfl⟩ := ho
    by_cases e : c = n
    · subst e; rw [Emb.put_self] at hc; cases hc; exact hown hr'
    · rw [Emb.put_ne e] at hc
      exact ⟨c, ci, oc, hc, hC c oc (by simpa [e] using hoc) (rw_live hrwc), hrwc, rfl⟩
  · obtain ⟨c, ci, oc, hc, hoc, hrwc, rfl⟩ := ho
    by_cases e : c = n
    · subst e; rw [Emb.put_self] at hc; cases hc; exact (hown hr').uses
    · rw [Emb.put_ne e] at hc
      exact ⟨c, ci, oc, hc, hC c oc (by simpa [e] using hoc) hrwc, hrwc, rfl⟩
/-- A block is done away with. -/
theorem Rel.kill {h : H} (hR : Rel p φ h.get w) {b : Nat} {bi : BI} {ob : IObj} (hb : φ b = some bi) (hC : h.get b = some ob) (hrw : rwO ob = true) (hl : liveO ob = true) {w' : World}
    (hw : ∀ k, k ≠ bi.r → w'.heap[k]? = w.heap[k]?) : Rel p φ (h.kill b).get w' := by
  have : (h.kill b).get = fun j => if j = b then some .dead else h.get j := by funext j; exact H.get_set ..
  rw [this]
  exact hR.upd hb hC hrw hl hw .dead

/-- What an operation has done. -/
def Post (p : Pg) (φ : Emb) (h : H) (w : World) (v : Value) (h1 : H) (v' : Value) (w' : World) : Prop :=
  ∃ φ', Gr φ h.get h.n w φ' h1.get h1.n ∧ Fr φ h.get w w' ∧ Rel p φ' h1.get w' ∧ VP φ' v v'

theorem oneCell_of_isCell {v : Value} (h : isCell v = true) : v.oneCell' = true := by cases v <;> simp_all [isCell, Value.oneCell']
theorem VL.isCell_right {l l' : List Value} (h : VL φ l l') (hc : ∀ x ∈ l, isCell x = true) : ∀ y ∈ l', isCell y = true := by
  intro y hy
  obtain ⟨i, hi⟩ := List.getElem?_of_mem hy
  have hil : i < l.length := h.1 ▸ (List.getElem?_eq_some_iff.1 hi).1
  exact ((h.2 i _ y (List.getElem?_eq_getElem hil) hi).isCell (hc _ (List.getElem_mem hil))).1

theorem writeAt_inv {h h1 : H} {b off : Nat} {new : List Value} (hw : writeAt h b off new = some h1) :
    ∃ vs ty, h.get b = some (.cells vs ty false) ∧ off + new.length ≤ vs.length ∧ h1 = h.set b (.cells (putAt vs off new) ty false) := by
  unfold writeAt at hw
  split at hw
  · rename_i vs ty he
    split at hw
    · cases hw; exact ⟨vs, ty, he, by assumption, rfl⟩
    · cases hw
  · cases hw

theorem write_sim {h h1 : H} {b off : Nat} {bi : BI} {new new' : List Value} (hw : writeAt h b off new = some h1) (hb : φ b = some bi) (hR : Rel p φ h.get w) (hd : Dom φ h.n) (hv : VL φ new new')
    (hc : ∀ x ∈ new, isCell x = true) :
    ∃ w', (storeCells ⟨bi.r, bi.o + off, none⟩ new').run P w = .ok () w' ∧ Rel p φ h1.get w' ∧ Fr φ h.get w w' ∧ Gr φ h.get h.n w φ h1.get h1.n := by
  obtain ⟨vs, ty, hC, hle, rfl⟩ := writeAt_inv hw
  obtain ⟨ob, hC', hr⟩ := hR.blk b bi hb
  rw [hC] at hC'
  cases hC'
  cases hr with
  | @cells _ _ _ cs ty' fr i hi hes hisz hww hs hsz hvv hcell hfr hj =>
    have hfr0 := hfr rfl
    subst hfr0
    have hnl : new'.length = new.length := hv.1.symm
    have hfit : bi.o + off + 0 + new'.length ≤ cs.size := by omega
    have hst := run_storeCells_at P bi.r (bi.o + off) ty' new' 0 cs w hww hfit (fun x hx => oneCell_of_isCell (hv.isCell_right hc x hx))
    simp only [Nat.add_zero] at hst
    have hsz' : (cs.toList.take (bi.o + off) ++ new' ++ cs.toList.drop (bi.o + off + new'.length)).toArray.size = bi.s := by
      simp
      omega
    refine ⟨_, hst, ?_, ?_, ?_⟩
    · have hset : (h.set b (.cells (putAt vs off new) ty false)).get = fun j => if j = b then some (.cells (putAt vs off new) ty false) else h.get j := by
        funext j; exact H.get_set ..
      rw [hset]
      refine hR.upd hb hC rfl rfl (fun k hk => setRow_other w bi.r k _ hk) ?_
      refine .cells hi hes (by rw [putAt_length hle]; exact hisz) (setRow_heap w bi.r cs _ ty' (0, 0) hww) hsz' (by rw [putAt_length hle]; exact hsz) ?_ (putAt_isCell hcell hc) (fun _ => rfl) (fun _ x hx => (mem_row (by omega) (by omega) (by simp; omega) hx).elim (hj rfl x) (hv.cellR hc x))
      rw [putAt_length hle]
      have e : ((cs.toList.take (bi.o + off) ++ new' ++ cs.toList.drop (bi.o + off + new'.length)).drop bi.o).take vs.length = putAt ((cs.toList.drop bi.o).take vs.length) off new' := by
        unfold putAt
        have hcl : cs.toList.length = bi.s := by simpa using hs
        apply List.ext_getElem?
        intro j
        simp only [List.getElem?_take, List.getElem?_drop, List.getElem?_append, List.length_take, List.length_append, List.length_drop, hcl]
        repeat' split
        all_goals first
          | rfl
          | (exfalso; omega)
          | (congr 1; omega)
      rw [show (cs.toList.take (bi.o + off) ++ new' ++ cs.toList.drop (bi.o + off + new'.length)).toArray.toList = cs.toList.take (bi.o + off) ++ new' ++ cs.toList.drop (bi.o + off + new'.length) from rfl, e]
      exact hvv.putAt hv off
    · exact ⟨rfl, rfl, rfl, by simp [World.setRow], fun r hr ho => setRow_other w bi.r r _ (fun e => ho ⟨b, bi, _, hb, hC, rfl, e.symm⟩)⟩
    · have hset : (h.set b (.cells (putAt vs off new) ty false)).get = fun j => if j = b then some (.cells (putAt vs off new) ty false) else h.get j := by
        funext j; exact H.get_set ..
      refine ⟨fun _ _ => rfl, hd, Nat.le_refl _, fun r hr ho => ?_, fun r hr ho => ?_⟩
      · rw [hset] at ho
        exact owned_upd hC rfl ho
      · rw [hset] at ho
        exact uses_upd hC rfl ho
end
end Go.L1
