/- Texts of a proof: no condition. -/
import Derived.Test.YtbmpmjljbiepiaaGreatOneN
set_option autoImplicit true
set_option relaxedAutoImplicit true
set_option linter.all false
set_option linter.unusedVariables false
set_option linter.unusedSimpArgs false
/-! L1, fifteenth part: a region that draws its order, its end. -/
namespace Go.L1
open Go
section
variable {p : Pg} {P : Program} {call : CallF} {ops : Array Oper} {N : Nat} {T : Nat → Env} {h : Nat → H} {M : Nat → Mk}
variable {φ0 φ φ' : Emb} {w0 w w' : World} {ds : List Deferred} {S : Array Bool} {a : Act} {i : Nat} {o : Oper}

/-- All that wrote a block stand ahead of a heavy operation, or behind it. -/
theorem heavy_ag (R : Run p call ops N T h M) (I : Inv p ops N T h M φ0 w0 ds S a w φ) (hr : Ready ops S i o) (hk : (M i).k = .heavy) (b : Nat) : AgB ops.size M S i b := by
  intro j hj hb
  by_cases e : j = i
  · subst e
    exact ⟨fun h => by omega, fun h => absurd h hr.out⟩
  · rcases R.clash j i hj hr.lt e with h6 | h6 | h6
    · rw [h6] at hb; cases hb
    · exact (hr.before R.drawn I.closed h6.symm).1
    · unfold besides at h6
      rw [hk] at h6
      cases h6

/-- What a heavy operation finds. -/
theorem Inv.rel (R : Run p call ops N T h M) (I : Inv p ops N T h M φ0 w0 ds S a w φ) (hr : Ready ops S i o) (hk : (M i).k = .heavy) : Rel p (φ.upto (h i).n) (h i).get w := by
  have hle := Nat.le_of_lt hr.lt
  constructor
  · intro b bi hb
    obtain ⟨h1, h2⟩ := upto_some hb
    exact I.blk b bi i hle h2 h1 (heavy_ag R I hr hk b)
  · intro b c bi ci ob oc hb hc hob hoc hne hrw hl
    obtain ⟨h1, h2⟩ := upto_some hb
    obtain ⟨h3, h4⟩ := upto_some hc
    exact I.inj b c bi ci ob oc h2 h4 ⟨i, hle, h1, heavy_ag R I hr hk b, hob⟩ ⟨i, hle, h3, heavy_ag R I hr hk c, hoc⟩ hne hrw hl

theorem Inv.heavy (R : Run p call ops N T h M) (I : Inv p ops N T h M φ0 w0 ds S a w φ) (hr : Ready ops S i o) (hk : (M i).k = .heavy) {v v' : Value} (hT : T (i + 1) = putT (T i) o.dst v)
    (hp : Post p (φ.upto (h i).n) (h i) w v (h (i + 1)) v' w') : ∃ φ', Inv p ops N T h M φ0 w0 ds (S.setIfInBounds i true) (a.put o.dst v') w' φ' := by
  obtain ⟨ψ, g, f, hR, hv⟩ := hp
  have hi : i < S.size := by rw [I.hS]; exact hr.lt
  have hle := Nat.le_of_lt hr.lt
  have hag := heavy_ag R I hr hk
  have hnn := R.mono (i := i) (k := i + 1) (by omega) hr.lt
  obtain ⟨φ', hφ'⟩ : ∃ φ' : Emb, φ' = fun b => if b < (h (i + 1)).n then ψ b else φ b := ⟨_, rfl⟩
  have lowv : ∀ {b}, b < (h i).n → ψ b = φ b := fun {b} hb => by rw [g.old b hb]; simp [Emb.upto, hb]
  have φlow : ∀ {b}, b < (h (i + 1)).n → φ' b = ψ b := fun {b} hb => by rw [hφ']; simp [hb]
  have φup : ∀ {b}, (h (i + 1)).n ≤ b → φ' b = φ b := fun {b} hb => by rw [hφ']; simp [Nat.not_lt.2 hb]
  have hs : Sub φ φ' := fun b bi hb => by
    rcases Nat.lt_or_ge b (h i).n with h1 | h1
    · rw [φlow (by omega), lowv h1]; exact hb
    · rcases Nat.lt_or_ge b (h (i + 1)).n with h2 | h2
      · rw [I.noneAt R hr h1 h2] at hb; cases hb
      · rw [φup h2]; exact hb
  have hψ : Sub ψ (φ'.upto (h (i + 1)).n) := fun b bi hb => upto_of (g.dom b bi hb) (by rw [φlow (g.dom b bi hb)]; exact hb)
  have hψk : ∀ {k}, i < k → k ≤ ops.size → Sub ψ (φ'.upto (h k).n) := fun {k} hik hkm b bi hb => sub_upto (Sub.refl _) (R.mono hik hkm) b bi (hψ b bi hb)
  have upw : ∀ {b bi}, φ b = some bi → (h (i + 1)).n ≤ b → b ∉ (M i).writes := fun {b bi} hb hge hw => by
    rcases I.dom b bi hb with h3 | ⟨j, h3, h4, h5, h6⟩
    · have := R.mono (Nat.zero_le (i + 1)) hr.lt; omega
    · have hij : i < j := by
        rcases Nat.lt_trichotomy i j with hlt | rfl | hlt
        · exact hlt
        · exact absurd h4 hr.out
        · have := R.mono (i := j + 1) (k := i) (by omega) hle; omega
      rcases R.clash i j hr.lt h3 (by omega) with h7 | h7 | h7
      · rw [h7] at hw; cases hw
      · have := (hr.before R.drawn I.closed h7).1.2 h4; omega
      · have e := R.stp h3
        unfold besides at h7
        split at h7
        · have := List.all_eq_true.1 h7 b hw
          rw [e.2.1, e.2.2] at this
          simp at this
          omega
        · rename_i hpu
          have : (h (j + 1)).n = (h j).n := by
            have hoj : ops[j]? = some ops[j] := Array.getElem?_eq_getElem h3
            rcases R.step j _ hoj with ⟨_, _, e, _⟩ | ⟨_, v, l1, hv, _, em⟩
            · rw [e]
            · have hkd : kindOf ops[j].op = .pure := by rw [em] at hpu; exact hpu
              unfold opV at hv
              rw [hkd] at hv
              obtain ⟨x, _, e⟩ := Option.map_eq_some_iff.1 hv
              have e2 : h j = h (j + 1) := congrArg (fun q => q.2.1) e
              rw [← e2]
          omega
        · cases h7
  have notw : ∀ {b k}, b ∉ (M i).writes → AgB ops.size M (S.setIfInBounds i true) k b → AgB ops.size M S k b := fun {b k} hw ha j hj hb => by
    have h1 := ha j hj hb
    rw [in_set hi] at h1
    rw [h1]
    exact ⟨fun h => h.resolve_right fun e => hw (by rw [← e]; exact hb), .inl⟩
  -- what lies below is what the operation left
  have low : ∀ {b k}, b < (h (i + 1)).n → k ≤ ops.size → b < (h k).n → AgB ops.size M (S.setIfInBounds i true) k b → (h k).get b = (h (i + 1)).get b ∧ ((b < (h i).n ∧ b ∉ (M i).writes ∧ AgB ops.size M S k b) ∨ i < k) := by
    intro b k hb hkm hbk ha
    rcases Nat.lt_or_ge b (h i).n with h1 | h1
    · by_cases hw : b ∈ (M i).writes
      · have hik : i < k := (ha i hr.lt hw).2 ((in_set hi).2 (.inr rfl))
        refine ⟨R.still hik hkm hb fun j h3 h4 hj => ?_, .inr hik⟩
        have h5 := (ha j (by omega) hj).1 h4
        rw [in_set hi] at h5
        have := (hag b j (by omega) hj).2 (h5.resolve_right (by omega))
        omega
      · have ha' := notw hw ha
        refine ⟨?_, .inl ⟨h1, hw, ha'⟩⟩
        rw [R.same_now hkm hle hbk h1 ha' (hag b), (R.stp hr.lt).1.same b h1 hw]
    · obtain ⟨hik, hst⟩ := new_still R I hr (by rw [hk]; simp) h1 hb hkm hbk ha
      exact ⟨hst, .inr hik⟩
  have nowLow : ∀ {b bi ob}, φ' b = some bi → b < (h (i + 1)).n → Now ops.size h M (S.setIfInBounds i true) b ob → ψ b = some bi ∧ (h (i + 1)).get b = some ob := by
    rintro b bi ob hb hlt ⟨k, h1, h2, h3, h4⟩
    exact ⟨by rw [← φlow hlt]; exact hb, by rw [← (low hlt h1 h2 h3).1]; exact h4⟩
  have nowUp : ∀ {b bi ob}, φ' b = some bi → (h (i + 1)).n ≤ b → Now ops.size h M (S.setIfInBounds i true) b ob → φ b = some bi ∧ Now ops.size h M S b ob := by
    rintro b bi ob hb hge ⟨k, h1, h2, h3, h4⟩
    have hb' : φ b = some bi := by rw [← φup hge]; exact hb
    exact ⟨hb', k, h1, h2, notw (upw hb' hge) h3, h4⟩
  have nowAt : ∀ {b ob}, b < (h i).n → (h i).get b = some ob → Now ops.size h M S b ob := fun {b ob} h1 h2 => ⟨i, hle, h1, hag b, h2⟩
  -- a block above keeps its place
  have apartOwn : ∀ {r}, Owned (φ.upto (h i).n) (h i).get r → ∃ c ci oc, c < (h i).n ∧ φ c = some ci ∧ Now ops.size h M S c oc ∧ rwO oc = true ∧ ci.r = r := by
    rintro r ⟨c, ci, oc, hc, hoc, hrw, e⟩
    obtain ⟨h1, h2⟩ := upto_some hc
    exact ⟨c, ci, oc, h1, h2, nowAt h1 hoc, hrw, e⟩
  have apartUse : ∀ {r}, Uses (φ.upto (h i).n) (h i).get r → ∃ c ci oc, c < (h i).n ∧ φ c = some ci ∧ Now ops.size h M S c oc ∧ liveO oc = true ∧ ci.r = r := by
    rintro r ⟨c, ci, oc, hc, hoc, hrw, e⟩
    obtain ⟨h1, h2⟩ := upto_some hc
    exact ⟨c, ci, oc, h1, h2, nowAt h1 hoc, hrw, e⟩
  refine ⟨φ', by simpa using I.hS, by rw [put_size]; exact I.hN, by rw [put_defers]; exact I.ds, hr.closed I.hS I.closed, fun b bi hb => ?_, fun b hb => ?_, tmp_step R I hr hs hT (hv.mono hψ), ?_, ?_, ?_, ?_⟩
  · rcases Nat.lt_or_ge b (h (i + 1)).n with h1 | h1
    · rcases Nat.lt_or_ge b (h i).n with h2 | h2
      · rw [φlow h1, lowv h2] at hb
        rcases I.dom b bi hb with h3 | ⟨j, h3, h4, h5⟩
        · exact .inl h3
        · exact .inr ⟨j, h3, (in_set hi).2 (.inl h4), h5⟩
      · exact .inr ⟨i, hr.lt, (in_set hi).2 (.inr rfl), h2, h1⟩
    · rw [φup h1] at hb
      rcases I.dom b bi hb with h3 | ⟨j, h3, h4, h5⟩
      · exact .inl h3
      · exact .inr ⟨j, h3, (in_set hi).2 (.inl h4), h5⟩
  · have := R.mono (Nat.zero_le i) hle
    rw [φlow (by omega), lowv (by omega)]
    exact I.old b hb
  · intro b bi k hkm hb hbk ha
    rcases Nat.lt_or_ge b (h (i + 1)).n with h1 | h1
    · obtain ⟨hst, hcase⟩ := low h1 hkm hbk ha
      have hbψ : ψ b = some bi := by rw [← φlow h1]; exact hb
      obtain ⟨ob, hob, hbr⟩ := hR.blk b bi hbψ
      refine ⟨ob, by rw [hst]; exact hob, ?_⟩
      rcases hcase with ⟨h2, hw, ha'⟩ | hik
      · have hbφ : φ b = some bi := by rw [← lowv h2]; exact hbψ
        obtain ⟨ob2, h3, h4⟩ := I.blk b bi k hkm hbφ hbk ha'
        rw [hst, hob] at h3
        cases h3
        rcases Nat.lt_or_ge i k with h5 | h5
        · exact hbr.mono (hψk h5 hkm)
        · refine (h4.back (ψ := ψ) (fun c ci hc => ?_) hbr).mono (sub_upto hs (Nat.le_refl _))
          obtain ⟨h6, h7⟩ := upto_some hc
          have := R.mono h5 hle
          rw [lowv (by omega)]
          exact h7
      · exact hbr.mono (hψk hik hkm)
    · have hbφ : φ b = some bi := by rw [← φup h1]; exact hb
      have ha' := notw (upw hbφ h1) ha
      obtain ⟨ob, h2, h3⟩ := I.blk b bi k hkm hbφ hbk ha'
      refine ⟨ob, h2, ?_⟩
      by_cases hl : liveO ob = true
      · refine (h3.same (f.keep _ (h3.lt hl) fun hown => ?_)).mono (sub_upto hs (Nat.le_refl _))
        obtain ⟨c, ci, oc, hc, hcφ, hcn, hrw, e⟩ := apartOwn hown
        exact I.inj c b ci bi oc ob hcφ hbφ hcn ⟨k, hkm, hbk, ha', h2⟩ (by omega) hrw hl e
      · cases ob <;> simp [liveO] at hl
        exact .dead
  · intro b c bi ci ob oc hb hc hnb hnc hne hrw hl e
    rcases Nat.lt_or_ge b (h (i + 1)).n with h1 | h1
    · obtain ⟨hb1, hb2⟩ := nowLow hb h1 hnb
      rcases Nat.lt_or_ge c (h (i + 1)).n with h2 | h2
      · obtain ⟨hc1, hc2⟩ := nowLow hc h2 hnc
        exact hR.inj b c bi ci ob oc hb1 hc1 hb2 hc2 hne hrw hl e
      · obtain ⟨hc1, hc2⟩ := nowUp hc h2 hnc
        have hlt := I.lt hc1 hc2 hl
        obtain ⟨d, di, od, hd1, hd2, hd3, hd4, hd5⟩ := apartOwn (g.own bi.r (by omega) ⟨b, bi, ob, hb1, hb2, hrw, rfl⟩)
        exact I.inj d c di ci od oc hd2 hc1 hd3 hc2 (by omega) hd4 hl (by omega)
    · obtain ⟨hb1, hb2⟩ := nowUp hb h1 hnb
      rcases Nat.lt_or_ge c (h (i + 1)).n with h2 | h2
      · obtain ⟨hc1, hc2⟩ := nowLow hc h2 hnc
        have hlt := I.lt hb1 hb2 (rw_live hrw)
        obtain ⟨d, di, od, hd1, hd2, hd3, hd4, hd5⟩ := apartUse (g.use ci.r (by omega) ⟨c, ci, oc, hc1, hc2, hl, rfl⟩)
        exact I.inj b d bi di ob od hb1 hd2 hb2 hd3 (by omega) hrw hd4 (by omega)
      · obtain ⟨hc1, hc2⟩ := nowUp hc h2 hnc
        exact I.inj b c bi ci ob oc hb1 hc1 hb2 hc2 hne hrw hl e
  · intro b bi ob hb hnb hlt
    rcases Nat.lt_or_ge b (h (i + 1)).n with h1 | h1
    · obtain ⟨hb1, hb2⟩ := nowLow hb h1 hnb
      have hsz := I.fr.size
      constructor
      · intro hrw
        obtain ⟨d, di, od, hd1, hd2, hd3, hd4, hd5⟩ := apartOwn (g.own bi.r (by omega) ⟨b, bi, ob, hb1, hb2, hrw, rfl⟩)
        rw [← hd5]
        exact (I.own d di od hd2 hd3 (by omega)).1 hd4
      · intro hl
        obtain ⟨d, di, od, hd1, hd2, hd3, hd4, hd5⟩ := apartUse (g.use bi.r (by omega) ⟨b, bi, ob, hb1, hb2, hl, rfl⟩)
        rw [← hd5]
        exact (I.own d di od hd2 hd3 (by omega)).2 hd4
    · obtain ⟨hb1, hb2⟩ := nowUp hb h1 hnb
      exact I.own b bi ob hb1 hb2 hlt
  · refine ⟨f.os.trans I.fr.os, f.tape.trans I.fr.tape, f.output.trans I.fr.output, Nat.le_trans I.fr.size f.size, fun r hr' ho => ?_⟩
    rw [f.keep r (Nat.lt_of_lt_of_le hr' I.fr.size) fun hown => ?_]
    · exact I.fr.keep r hr' ho
    · obtain ⟨d, di, od, hd1, hd2, hd3, hd4, hd5⟩ := apartOwn hown
      exact ho (by rw [← hd5]; exact (I.own d di od hd2 hd3 (by omega)).1 hd4)

theorem agT_of (R : Run p call ops N T h M) (I : Inv p ops N T h M φ0 w0 ds S a w φ) (hr : Ready ops S i o) {t : Nat} (ht : t ∈ namesOf ops.toList o) : AgT ops S i t := by
  intro j u hu hj
  by_cases e : j = i
  · subst e
    exact ⟨fun h => by omega, fun h => absurd h hr.out⟩
  · exact (hr.before R.drawn I.closed (R.drawn.slot j u t i o hu hj hr.at_ e ht).symm).1
theorem Inv.operands (R : Run p call ops N T h M) (I : Inv p ops N T h M φ0 w0 ds S a w φ) (hr : Ready ops S i o) : ∀ x ∈ o.op.operands.toList, VP (φ.upto (h i).n) (eval (T i) x) (a.eval x) := by
  intro x hx
  cases x with
  | tmp t =>
    refine I.tmp t i (Nat.le_of_lt hr.lt) (agT_of R I hr ?_)
    refine List.mem_append_right _ (List.mem_append_left _ ?_)
    exact List.mem_filterMap.2 ⟨.tmp t, hx, rfl⟩
  | const v => exact (VR.pure _ (opOk_operands (R.ok i o hr.at_) _ hx)).vp
  | global g => exact .inl rfl
  | func f => exact (VR.func f rfl rfl (fun i x y h => by simp at h) (fun i x y h => by simp at h)).vp
theorem Inv.guard (R : Run p call ops N T h M) (I : Inv p ops N T h M φ0 w0 ds S a w φ) (hr : Ready ops S i o) {j : Nat} {want : Bool} {d : Nat} (hg : o.guard = some (j, want)) (hs : guardSlot ops.toList j = some d) :
    VP (φ.upto (h i).n) (T i d) (a.tmps.getD d undef) := by
  refine I.tmp d i (Nat.le_of_lt hr.lt) (agT_of R I hr ?_)
  refine List.mem_append_right _ (List.mem_append_right _ ?_)
  simp [hg, hs]

theorem Inv.take (hF : Fits p P) (hcall : CallSim p P call) (r : Option Nat) (R : Run p call ops N T h M) (I : Inv p ops N T h M φ0 w0 ds S a w φ) (hr : Ready ops S i o) {K : Act → World → Prop} {Q : Exit → Act → World → Prop}
    (hK : ∀ a' w' φ', Inv p ops N T h M φ0 w0 ds (S.setIfInBounds i true) a' w' φ' → K a' w') : wpOpIn (fence r) 0 P ops Q i K a w := by
  unfold wpOpIn
  rw [hr.at_]
  simp only
  rcases R.step i o hr.at_ with ⟨hw, hT, hh, hm⟩ | ⟨hw, v, l1, hv, hT, hm⟩
  · rw [wanted_sim (fun j _ d hg hs => I.guard R hr hg hs) hw]
    simp only [Bool.false_eq_true, if_false]
    exact ⟨fun _ _ => trivial, hK _ _ _ (I.quiet R hr hT vr_ud.vp (by rw [hm]))⟩
  · rw [wanted_sim (fun j _ d hg hs => I.guard R hr hg hs) hw]
    simp only [if_true]
    have hE := I.operands R hr
    have hd : Dom (φ.upto (h i).n) (h i).n := fun b bi hb => (upto_some hb).1
    by_cases hk : (M i).k = .heavy
    · exact oper_sim hF hcall r (I.rel R hr hk) hd o hv hE fun v' w' hp => by
        obtain ⟨φ', hI⟩ := I.heavy R hr hk hT hp
        exact hK _ _ _ hI
    · refine ⟨fun _ _ => trivial, ?_⟩
      rw [Oper.semAt_eq _ _ _ (opV_not_defer hv)]
      have hkm : (M i).k = kindOf o.op := by rw [hm]
      unfold opV at hv
      split at hv
      · rename_i hkd
        obtain ⟨x, hx, e⟩ := Option.map_eq_some_iff.1 hv
        have e1 : x = v := congrArg (fun q => q.1) e
        have e2 : h i = h (i + 1) := congrArg (fun q => q.2.1) e
        have e3 : [] = l1 := congrArg (fun q => q.2.2) e
        subst e1
        have hwr : (M i).writes = [] := by rw [hm, ← e3]
        obtain ⟨v', hrun, hvp⟩ := pure_sim (P := P) (w := w) hF o hkd hx hE (fun b hb bi hbi => by
          obtain ⟨h1, h2⟩ := upto_some hbi
          refine I.blk b bi i (Nat.le_of_lt hr.lt) h2 h1 fun j hj hjw => ?_
          by_cases e : j = i
          · subst e; rw [hwr] at hjw; cases hjw
          · rcases R.clash j i hj hr.lt e with h6 | h6 | h6
            · rw [h6] at hjw; cases hjw
            · exact (hr.before R.drawn I.closed h6.symm).1
            · unfold besides at h6
              rw [hkm, hkd] at h6
              have := List.all_eq_true.1 h6 b hjw
              have hrd : (M i).reads = readsOf (T i) o.op := by rw [hm]
              rw [hrd] at this
              simp [hb] at this)
        rw [hrun]
        exact hK _ _ _ (I.quiet R hr hT (by rw [← e2]; exact hvp) hwr)
      · rename_i hkd
        obtain ⟨⟨x, ob⟩, hx, e⟩ := Option.map_eq_some_iff.1 hv
        have e1 : x = v := congrArg (fun q => q.1) e
        have e2 : (h i).push ob = h (i + 1) := congrArg (fun q => q.2.1) e
        have e3 : [] = l1 := congrArg (fun q => q.2.2) e
        subst e1
        have hn : (φ.upto (h i).n) (h i).n = none := by simp [Emb.upto]
        obtain ⟨v', o', hrun, hl⟩ := alloc_sim (P := P) (w := w) hF hn o hx hE
        rw [hrun]
        obtain ⟨φ', hI⟩ := I.make R hr hT (by rw [hkm, hkd]) (by rw [hm, ← e3]) e2.symm hl
        exact hK _ _ _ hI
      · rename_i hkd
        exact absurd (hkm.trans hkd) hk

theorem Inv.all (hF : Fits p P) (hcall : CallSim p P call) (r : Option Nat) (R : Run p call ops N T h M) {Q : Exit → Act → World → Prop}
    (hQ : ∀ S a w φ, Inv p ops N T h M φ0 w0 ds S a w φ → (∀ i, i < ops.size → In S i) → Q .normal a w) :
    ∀ (fuel : Nat) {S : Array Bool} {a : Act} {w : World} {φ : Emb}, Inv p ops N T h M φ0 w0 ds S a w φ → S.toList.count true + fuel = ops.size → wpAnyIn (fence r) 0 P .any ops Q fuel S a w
  | 0, S, a, w, φ, I, hf => by
    have hall : ∀ i, i < ops.size → In S i := fun i hi => by
      have hl : S.toList.count true = S.toList.length := by rw [Array.length_toList, I.hS]; omega
      have := List.count_eq_length.1 hl
      have hi' : i < S.size := by rw [I.hS]; exact hi
      have h2 := this S[i] (by simp)
      unfold In
      rw [Array.getD_eq_getD_getElem?, Array.getElem?_eq_getElem hi']
      simp [← h2]
    refine ⟨?_, hQ S a w φ I hall⟩
    cases hrd : Region.ready .any ops S with
    | nil => rfl
    | cons i rest =>
      obtain ⟨o, hr⟩ := ready_of I.hS (i := i) (by rw [hrd]; simp)
      exact absurd (hall i hr.lt) hr.out
  | fuel + 1, S, a, w, φ, I, hf => by
    refine ⟨fun hn => hQ S a w φ I (ready_nil R.drawn I.hS hn), fun i hi => ?_⟩
    obtain ⟨o, hr⟩ := ready_of I.hS hi
    refine I.take hF hcall r R hr fun a' w' φ' I' => Inv.all hF hcall r R hQ fuel I' ?_
    have hi' : i < S.size := by rw [I.hS]; exact hr.lt
    have hfalse : S[i] = false := by
      have := hr.out
      unfold In at this
      rw [Array.getD_eq_getD_getElem?, Array.getElem?_eq_getElem hi'] at this
      simpa using this
    rw [Array.toList_setIfInBounds, List.count_set (by simpa using hi')]
    have e1 : S.toList[i]'(by simpa using hi') = false := by rw [Array.getElem_toList]; exact hfalse
    rw [e1]
    simp only [beq_iff_eq, Bool.false_eq_true, if_false, if_true, Nat.sub_zero, BEq.rfl]
    omega
end

section
variable {p : Pg} {P : Program}
theorem draw_sim (hF : Fits p P) {call : CallF} (hcall : CallSim p P call) (hlog : CallLog call) (r : Option Nat) {id : Nat} {ops : Array Oper} {N : Nat} {Q : Exit → Act → World → Prop} {T0 : Env} {h0 : H} {o : Out}
    (hok : ∀ o ∈ ops.toList, opOk N o = true) (hD : drawOk ops.toList = true) {φ : Emb} {w : World} {a : Act} (hh : region p call ops true T0 h0 = some o) (hR : Rel p φ h0.get w) (hd : Dom φ h0.n)
    (hE : ER φ T0 a.tmps) (hN : a.tmps.size = N) (K : ∀ a' w', a'.tmps.size = N → a'.defers = a.defers → After p φ h0 w o.T o.h a' w' → Q .normal a' w') :
    (Code.region id ops true).wpIn (fence r) 0 P Q a w := by
  unfold region at hh
  simp only [cond_true] at hh
  split at hh
  · cases hh
  rename_i T1 h1 ms he
  split at hh
  case isFalse => cases hh
  rename_i hcl
  cases hh
  obtain ⟨T, h, M, e1, e2, e3, e4, e5, e6⟩ := ops2_trace he
  simp only [List.nil_append] at e5
  have hlen : ops.toList.length = ops.size := Array.length_toList
  rw [hlen] at e3 e4 e5
  have R : Run p call ops N T h M := by
    refine ⟨drawn_of hD, fun i o ho => hok o (by simpa using Array.mem_of_getElem? ho), fun i o ho => e6 i o (by rw [Array.getElem?_toList]; exact ho), hlog, fun i j hi hj hij => ?_⟩
    have hM : ∀ k, k < ops.size → ms[k]? = some (M k) := fun k hk => by rw [e5]; simp [hk]
    rcases Bool.or_eq_true _ _ ▸ hcl with h1 | h1
    · left
      have h2 : logOf ms = [] := List.isEmpty_iff.1 h1
      have : M i ∈ ms := List.mem_of_getElem? (hM i hi)
      unfold logOf at h2
      exact List.flatMap_eq_nil_iff.1 h2 _ this
    · have hml : ms.length = ops.size := by rw [e5]; simp
      unfold clashFree at h1
      simp only [List.all_eq_true, List.mem_range] at h1
      have := h1 i (by omega) j (by omega)
      rw [hM i hi, hM j hj] at this
      simp only [Bool.or_eq_true, List.isEmpty_iff] at this
      rcases this with (((h | h) | h) | h) | h
      · exact .inl h
      · exact absurd (Nat.eq_of_beq_eq_true h) hij
      · exact .inr (.inl (.inl h))
      · exact .inr (.inl (.inr h))
      · exact .inr (.inr h)
  subst e1 e2
  refine wpIn_region_any hF.mixed (Inv.all hF hcall r R ?_ ops.size (Inv.start R hR hd hE hN) (by simp [List.count_replicate]))
  intro S a' w' φ' I hall
  have agB : ∀ b, AgB ops.size M S ops.size b := fun b j hj _ => ⟨fun _ => hall j hj, fun _ => hj⟩
  have agT : ∀ t, AgT ops S ops.size t := fun t j o ho _ => by
    have := (Array.getElem?_eq_some_iff.1 ho).1
    exact ⟨fun _ => hall j this, fun _ => this⟩
  have dom : ∀ b bi, φ' b = some bi → b < (h ops.size).n := fun b bi hb => by
    rcases I.dom b bi hb with h1 | ⟨j, h1, _, _, h2⟩
    · exact Nat.lt_of_lt_of_le h1 (R.mono (Nat.zero_le _) (Nat.le_refl _))
    · exact Nat.lt_of_lt_of_le h2 (R.mono h1 (Nat.le_refl _))
  have now : ∀ {b bi ob}, φ' b = some bi → (h ops.size).get b = some ob → Now ops.size h M S b ob := fun {b bi ob} hb ho => ⟨ops.size, Nat.le_refl _, dom b bi hb, agB b, ho⟩
  refine K a' w' I.hN I.ds ⟨φ', ⟨I.old, ?_, ?_, ?_, ?_⟩, I.fr, ⟨?_, ?_⟩, ?_⟩
  · rw [← e4]; exact dom
  · rw [← e4]; exact R.mono (Nat.zero_le _) (Nat.le_refl _)
  · rintro q hq ⟨b, bi, ob, hb, hob, hrw, rfl⟩
    rw [← e4] at hob
    exact (I.own b bi ob hb (now hb hob) hq).1 hrw
  · rintro q hq ⟨b, bi, ob, hb, hob, hl, rfl⟩
    rw [← e4] at hob
    exact (I.own b bi ob hb (now hb hob) hq).2 hl
  · intro b bi hb
    rw [← e4]
    obtain ⟨ob, h1, h2⟩ := I.blk b bi ops.size (Nat.le_refl _) hb (dom b bi hb) (agB b)
    exact ⟨ob, h1, h2.mono (upto_sub _ _)⟩
  · intro b c bi ci ob oc hb hc hob hoc hne hrw hl
    rw [← e4] at hob hoc
    exact I.inj b c bi ci ob oc hb hc (now hb hob) (now hc hoc) hne hrw hl
  · intro t
    have := I.tmp t ops.size (Nat.le_refl _) (agT t)
    rw [e3] at this
    exact this.mono (upto_sub _ _)

/-- A region. -/
theorem region_sim (hF : Fits p P) {call : CallF} (hcall : CallSim p P call) (hlog : CallLog call) (r : Option Nat) {id : Nat} {ops : Array Oper} {draw : Bool} {N : Nat} {Q : Exit → Act → World → Prop} {T0 : Env} {h0 : H} {o : Out}
    (hok : codeOk N (.region id ops draw) = true) {φ : Emb} {w : World} {a : Act} (hh : region p call ops draw T0 h0 = some o) (hR : Rel p φ h0.get w) (hd : Dom φ h0.n)
    (hE : ER φ T0 a.tmps) (hN : a.tmps.size = N) (K : ∀ a' w', a'.tmps.size = N → a'.defers = a.defers → After p φ h0 w o.T o.h a' w' → Q .normal a' w') :
    (Code.region id ops draw).wpIn (fence r) 0 P Q a w := by
  simp only [codeOk, Bool.and_eq_true, List.all_eq_true, Bool.or_eq_true, Bool.not_eq_true'] at hok
  cases draw
  · unfold region at hh
    simp only [cond_false] at hh
    split at hh
    · cases hh
    · rename_i T1 h1 lg he
      cases hh
      refine wpIn_region ?_
      rw [List.range_eq_range', ← Array.length_toList]
      exact ops1_sim hF hcall r ops.toList 0 rfl he hR hd hE hN hok.1 K
  · exact draw_sim hF hcall hlog r hok.1 (hok.2.resolve_left (by simp)) hh hR hd hE hN K
end
end Go.L1
