/- Texts of a proof: no condition. -/
import Derived.Test.YtbmpmjljbiepiaaGreatOneM
set_option autoImplicit true
set_option relaxedAutoImplicit true
set_option linter.all false
set_option linter.unusedVariables false
set_option linter.unusedSimpArgs false
/-! L1, fourteenth part: a region that draws its order. -/
namespace Go.L1
open Go

theorem VP.back {φ ψ : Emb} (hs : Sub φ ψ) {v v1 v2 : Value} (h : VP φ v v1) (h' : VP ψ v v2) : VP φ v v2 := by
  rcases h with h | h
  · exact .inl h
  · rcases h' with h' | h'
    · exact .inl h'
    · exact (h.back hs h').vp
theorem VL.back {φ ψ : Emb} (hs : Sub φ ψ) {l l1 l2 : List Value} (h : VL φ l l1) (h' : VL ψ l l2) : VL φ l l2 := by
  refine ⟨h'.1, fun i x y hx hy => ?_⟩
  obtain ⟨z, hz, hr⟩ := h.get hx
  exact hr.back hs (h'.2 i x y hx hy)
theorem BlockRel.back {p : Pg} {φ ψ : Emb} (hs : Sub φ ψ) {bi : BI} {w w' : World} {ob : IObj} (h : BlockRel p φ bi w ob) (h' : BlockRel p ψ bi w' ob) : BlockRel p φ bi w' ob := by
  cases h with
  | cells hi hes hisz hw hss hsz hv hcell hfr =>
    cases h' with
    | cells hi' hes' hisz' hw' hss' hsz' hv' hcell' hfr' hj' => exact .cells hi' hes' hisz' hw' hss' hsz' (hv.back hs hv') hcell' hfr' hj'
  | map hw hl hk =>
    cases h' with
    | map hw' hl' hk' =>
      refine .map hw' hl' fun i k v e h1 h2 => ⟨(hk' i k v e h1 h2).1, ?_, (hk' i k v e h1 h2).2.2⟩
      have hi := (List.getElem?_eq_some_iff.1 h1).1
      have hz := List.getElem?_eq_getElem (hl ▸ hi)
      exact ((hk i k v _ h1 hz).2.1).back hs (hk' i k v e h1 h2).2.1
  | loop hw hfn hps hpl hasg hbody hN hT =>
    cases h' with
    | loop hw' hfn' hps' hpl' hasg' hbody' hN' hT' => exact .loop hw' hfn' hps' hpl' hasg' hbody' hN' fun i => (hT i).back hs (hT' i)
  | dead => exact .dead

def Emb.upto (φ : Emb) (n : Nat) : Emb := fun b => if b < n then φ b else none
theorem upto_some {φ : Emb} {n b : Nat} {bi : BI} (h : φ.upto n b = some bi) : b < n ∧ φ b = some bi := by
  unfold Emb.upto at h
  split at h
  · exact ⟨by assumption, h⟩
  · cases h
theorem upto_of {φ : Emb} {n b : Nat} {bi : BI} (hb : b < n) (h : φ b = some bi) : φ.upto n b = some bi := by simp [Emb.upto, hb, h]
theorem sub_upto {φ ψ : Emb} (hs : Sub φ ψ) {n k : Nat} (h : n ≤ k) : Sub (φ.upto n) (ψ.upto k) := fun b bi hb => by
  obtain ⟨h1, h2⟩ := upto_some hb
  exact upto_of (by omega) (hs b bi h2)
theorem upto_sub (φ : Emb) (n : Nat) : Sub (φ.upto n) φ := fun b bi hb => (upto_some hb).2

/-! ### The text's run -/
section
variable {p : Pg}
/-- step i of a run -/
def StepI (p : Pg) (call : CallF) (all : List Oper) (o : Oper) (T : Env) (h : H) (T1 : Env) (h1 : H) (M : Mk) : Prop :=
  (wantedV all T o.guard = some false ∧ T1 = putT T o.dst ud ∧ h1 = h ∧ M = ⟨.pure, [], [], h.n, h.n⟩) ∨
  (wantedV all T o.guard = some true ∧ ∃ v l1, opV p call T h o.op = some (v, h1, l1) ∧ T1 = putT T o.dst v ∧ M = ⟨kindOf o.op, readsOf T o.op, l1, h.n, h1.n⟩)

theorem ops2_trace {call : CallF} {all : List Oper} : ∀ {l : List Oper} {T0 : Env} {h0 : H} {ms : List Mk} {T1 : Env} {h1 : H} {ms1 : List Mk}, ops2 p call all l T0 h0 ms = some (T1, h1, ms1) →
    ∃ (T : Nat → Env) (h : Nat → H) (M : Nat → Mk), T 0 = T0 ∧ h 0 = h0 ∧ T l.length = T1 ∧ h l.length = h1 ∧ ms1 = ms ++ (List.range l.length).map M ∧
      ∀ (i : Nat) o, l[i]? = some o → StepI p call all o (T i) (h i) (T (i + 1)) (h (i + 1)) (M i)
  | [], T0, h0, ms, T1, h1, ms1, hh => by
    cases hh
    exact ⟨fun _ => T0, fun _ => h0, fun _ => ⟨.pure, [], [], 0, 0⟩, rfl, rfl, rfl, rfl, by simp, fun i o h => by simp at h⟩
  | o :: l, T0, h0, ms, T1, h1, ms1, hh => by
    have put : ∀ {T' : Env} {h' : H} {mk : Mk}, ops2 p call all l T' h' (ms ++ [mk]) = some (T1, h1, ms1) → StepI p call all o T0 h0 T' h' mk →
        ∃ (T : Nat → Env) (h : Nat → H) (M : Nat → Mk), T 0 = T0 ∧ h 0 = h0 ∧ T (o :: l).length = T1 ∧ h (o :: l).length = h1 ∧ ms1 = ms ++ (List.range (o :: l).length).map M ∧
          ∀ (i : Nat) u, (o :: l)[i]? = some u → StepI p call all u (T i) (h i) (T (i + 1)) (h (i + 1)) (M i) := by
      intro T' h' mk hrest hstep
      obtain ⟨T, h, M, e1, e2, e3, e4, e5, e6⟩ := ops2_trace hrest
      refine ⟨fun i => match i with | 0 => T0 | i + 1 => T i, fun i => match i with | 0 => h0 | i + 1 => h i, fun i => match i with | 0 => mk | i + 1 => M i, rfl, rfl, e3, e4, ?_, ?_⟩
      · rw [e5, List.length_cons, List.range_succ_eq_map, List.map_cons, List.map_map, List.append_assoc]
        rfl
      · intro i u hu
        cases i with
        | zero =>
          cases hu
          simp only [e1, e2]
          exact hstep
        | succ i => exact e6 i u hu
    unfold ops2 at hh
    split at hh
    · cases hh
    · rename_i hw
      exact put hh (.inl ⟨hw, rfl, rfl, rfl⟩)
    · rename_i hw
      split at hh
      · cases hh
      · rename_i v h2 l2 hv
        exact put hh (.inr ⟨hw, v, l2, hv, rfl, rfl⟩)
end

/-- A run in the text's order of a region that draws, and what makes any order as good. -/
structure Run (p : Pg) (call : CallF) (ops : Array Oper) (N : Nat) (T : Nat → Env) (h : Nat → H) (M : Nat → Mk) : Prop where
  drawn : Drawn ops
  ok : ∀ (i : Nat) o, ops[i]? = some o → opOk N o = true
  step : ∀ (i : Nat) o, ops[i]? = some o → StepI p call ops.toList o (T i) (h i) (T (i + 1)) (h (i + 1)) (M i)
  log : CallLog call
  clash : ∀ i j, i < ops.size → j < ops.size → i ≠ j → (M i).writes = [] ∨ (Bf ops.toList i j = true ∨ Bf ops.toList j i = true) ∨ besides (M i) (M j) = true

section
variable {p : Pg} {call : CallF} {ops : Array Oper} {N : Nat} {T : Nat → Env} {h : Nat → H} {M : Nat → Mk}

theorem Run.stp (R : Run p call ops N T h M) {i : Nat} (hi : i < ops.size) : Stp (h i) (h (i + 1)) (M i).writes ∧ (M i).lo = (h i).n ∧ (M i).hi = (h (i + 1)).n := by
  have ho : ops[i]? = some ops[i] := Array.getElem?_eq_getElem hi
  rcases R.step i _ ho with ⟨_, _, e, em⟩ | ⟨_, v, l1, hv, _, em⟩
  · rw [em, e]; exact ⟨Stp.refl _ _, rfl, rfl⟩
  · rw [em]; exact ⟨opV_stp R.log hv, rfl, rfl⟩
theorem Run.mono (R : Run p call ops N T h M) : ∀ {k i : Nat}, i ≤ k → k ≤ ops.size → (h i).n ≤ (h k).n := by
  intro k
  induction k with
  | zero => intro i h1 _; cases Nat.le_zero.1 h1; exact Nat.le_refl _
  | succ k ih =>
    intro i h1 h2
    rcases Nat.lt_or_eq_of_le h1 with h3 | rfl
    · exact Nat.le_trans (ih (by omega) (by omega)) (R.stp (i := k) (by omega)).1.le
    · exact Nat.le_refl _
/-- Where nothing between wrote it, a block is what it was. -/
theorem Run.still (R : Run p call ops N T h M) {b : Nat} : ∀ {k i : Nat}, i ≤ k → k ≤ ops.size → b < (h i).n → (∀ j, i ≤ j → j < k → b ∉ (M j).writes) → (h k).get b = (h i).get b := by
  intro k
  induction k with
  | zero => intro i h1 _ _ _; cases Nat.le_zero.1 h1; rfl
  | succ k ih =>
    intro i h1 h2 hb hw
    rcases Nat.lt_or_eq_of_le h1 with h3 | rfl
    · rw [(R.stp (i := k) (by omega)).1.same b (Nat.lt_of_lt_of_le hb (R.mono (by omega) (by omega))) (hw k (by omega) (by omega))]
      exact ih (by omega) (by omega) hb fun j h4 h5 => hw j h4 (by omega)
    · rfl

/-- What is listed is, for block b, what stands ahead of k in the text. -/
def AgB (m : Nat) (M : Nat → Mk) (S : Array Bool) (k b : Nat) : Prop := ∀ j, j < m → b ∈ (M j).writes → (j < k ↔ In S j)
def AgT (ops : Array Oper) (S : Array Bool) (k t : Nat) : Prop := ∀ (j : Nat) o, ops[j]? = some o → o.dst = some t → (j < k ↔ In S j)

theorem Run.same_now (R : Run p call ops N T h M) {S : Array Bool} {b k k' : Nat} (hk : k ≤ ops.size) (hk' : k' ≤ ops.size) (h1 : b < (h k).n) (h2 : b < (h k').n)
    (a1 : AgB ops.size M S k b) (a2 : AgB ops.size M S k' b) : (h k).get b = (h k').get b := by
  have key : ∀ {i k : Nat}, i ≤ k → k ≤ ops.size → b < (h i).n → AgB ops.size M S i b → AgB ops.size M S k b → (h k).get b = (h i).get b := fun {i k} hik hk hb a1 a2 =>
    R.still hik hk hb fun j h3 h4 hj => by
      have := a1 j (by omega) hj
      have h5 := (a2 j (by omega) hj).1 h4
      have := this.2 h5
      omega
  rcases Nat.le_total k k' with hle | hle
  · exact (key hle hk' h1 a1 a2).symm
  · exact key hle hk h2 a2 a1

/-- what a block holds now -/
def Now (m : Nat) (h : Nat → H) (M : Nat → Mk) (S : Array Bool) (b : Nat) (ob : IObj) : Prop := ∃ k, k ≤ m ∧ b < (h k).n ∧ AgB m M S k b ∧ (h k).get b = some ob

structure Inv (p : Pg) (ops : Array Oper) (N : Nat) (T : Nat → Env) (h : Nat → H) (M : Nat → Mk) (φ0 : Emb) (w0 : World) (ds : List Deferred) (S : Array Bool) (a : Act) (w : World) (φ : Emb) : Prop where
  hS : S.size = ops.size
  hN : a.tmps.size = N
  ds : a.defers = ds
  closed : Closed ops S
  dom : ∀ b bi, φ b = some bi → b < (h 0).n ∨ ∃ j, j < ops.size ∧ In S j ∧ (h j).n ≤ b ∧ b < (h (j + 1)).n
  old : ∀ b, b < (h 0).n → φ b = φ0 b
  tmp : ∀ t k, k ≤ ops.size → AgT ops S k t → VP (φ.upto (h k).n) (T k t) (a.tmps.getD t undef)
  blk : ∀ b bi k, k ≤ ops.size → φ b = some bi → b < (h k).n → AgB ops.size M S k b → ∃ ob, (h k).get b = some ob ∧ BlockRel p (φ.upto (h k).n) bi w ob
  inj : ∀ b c bi ci ob oc, φ b = some bi → φ c = some ci → Now ops.size h M S b ob → Now ops.size h M S c oc → b ≠ c → rwO ob = true → liveO oc = true → bi.r ≠ ci.r
  own : ∀ b bi ob, φ b = some bi → Now ops.size h M S b ob → bi.r < w0.heap.size → (rwO ob = true → Owned φ0 (h 0).get bi.r) ∧ (liveO ob = true → Uses φ0 (h 0).get bi.r)
  fr : Fr φ0 (h 0).get w0 w

theorem Inv.lt {φ0 : Emb} {w0 : World} {ds : List Deferred} {S : Array Bool} {a : Act} {w : World} {φ : Emb} (I : Inv p ops N T h M φ0 w0 ds S a w φ) {b : Nat} {bi : BI} {ob : IObj}
    (hb : φ b = some bi) (hn : Now ops.size h M S b ob) (hl : liveO ob = true) : bi.r < w.heap.size := by
  obtain ⟨k, hk, hbk, ha, he⟩ := hn
  obtain ⟨o2, h2, hr⟩ := I.blk b bi k hk hb hbk ha
  rw [he] at h2
  cases h2
  exact hr.lt hl

/-- The start. -/
theorem Inv.start (R : Run p call ops N T h M) {φ0 : Emb} {w0 : World} {a : Act} (hR : Rel p φ0 (h 0).get w0) (hd : Dom φ0 (h 0).n) (hE : ER φ0 (T 0) a.tmps) (hN : a.tmps.size = N) :
    Inv p ops N T h M φ0 w0 a.defers (Array.replicate ops.size false) a { w0 with drawn := w0.drawn + 1 } φ0 := by
  have nin : ∀ j, ¬ In (Array.replicate ops.size false) j := fun j hj => by
    unfold In at hj
    rw [Array.getD_eq_getD_getElem?, Array.getElem?_replicate] at hj
    split at hj <;> simp at hj
  have upto0 : Sub φ0 (φ0.upto (h 0).n) := fun b bi hb => upto_of (hd b bi hb) hb
  have content : ∀ {b bi k}, k ≤ ops.size → φ0 b = some bi → AgB ops.size M (Array.replicate ops.size false) k b → (h k).get b = (h 0).get b := fun {b bi k} hk hb ha =>
    R.still (Nat.zero_le _) hk (hd b bi hb) fun j _ hj hw => nin j ((ha j (by omega) hw).1 hj)
  refine ⟨by simp, hN, rfl, fun i o _ hi => absurd hi (nin i), fun b bi hb => .inl (hd b bi hb), fun _ _ => rfl, ?_, ?_, ?_, ?_, ⟨rfl, rfl, rfl, Nat.le_refl _, fun _ _ _ => rfl⟩⟩
  · intro t k hk ha
    have e : ∀ k, k ≤ ops.size → AgT ops (Array.replicate ops.size false) k t → T k t = T 0 t := by
      intro k
      induction k with
      | zero => intro _ _; rfl
      | succ k ih =>
        intro hk ha
        have ho : ops[k]? = some ops[k] := Array.getElem?_eq_getElem (by omega)
        have hne : ops[k].dst ≠ some t := fun e => nin k ((ha k _ ho e).1 (by omega))
        have hst : T (k + 1) t = T k t := by
          have put : ∀ v, putT (T k) ops[k].dst v t = T k t := fun v => by
            cases hd : ops[k].dst with
            | none => rfl
            | some d =>
              have : Nat.beq t d = false := by rw [Bool.eq_false_iff]; intro hb; exact hne (by rw [hd, Nat.eq_of_beq_eq_true hb])
              simp [putT, Env.set, this]
          rcases R.step k _ ho with ⟨_, e, _⟩ | ⟨_, v, l1, _, e, _⟩ <;> rw [e] <;> exact put _
        rw [hst]
        refine ih (by omega) fun j o hj hjd => ⟨fun hlt => (ha j o hj hjd).1 (by omega), fun hin => absurd hin (nin j)⟩
    rw [e k hk ha]
    exact (hE t).mono (fun b bi hb => upto_of (Nat.lt_of_lt_of_le (hd b bi hb) (R.mono (Nat.zero_le _) hk)) hb)
  · intro b bi k hk hb hbk ha
    obtain ⟨ob, ho, hr⟩ := hR.blk b bi hb
    refine ⟨ob, by rw [content hk hb ha]; exact ho, ?_⟩
    have hs : BlockRel p φ0 bi { w0 with drawn := w0.drawn + 1 } ob := BlockRel.same (w := w0) rfl hr
    exact hs.mono (fun c ci hc => upto_of (Nat.lt_of_lt_of_le (hd c ci hc) (R.mono (Nat.zero_le _) hk)) hc)
  · rintro b c bi ci ob oc hb hc ⟨k, hk, _, ha, he⟩ ⟨k', hk', _, ha', he'⟩ hne hrw hl
    rw [content hk hb ha] at he
    rw [content hk' hc ha'] at he'
    exact hR.inj b c bi ci ob oc hb hc he he' hne hrw hl
  · rintro b bi ob hb ⟨k, hk, _, ha, he⟩ _
    rw [content hk hb ha] at he
    exact ⟨fun hrw => ⟨b, bi, ob, hb, he, hrw, rfl⟩, fun hl => ⟨b, bi, ob, hb, he, hl, rfl⟩⟩

/-! ### One more is listed -/
theorem putT_other {T : Env} {d : Option Nat} {v : Value} {t : Nat} (h : d ≠ some t) : putT T d v t = T t := by
  cases d with
  | none => rfl
  | some d =>
    have : Nat.beq t d = false := by rw [Bool.eq_false_iff]; intro hb; exact h (by rw [Nat.eq_of_beq_eq_true hb])
    simp [putT, Env.set, this]
theorem putT_self {T : Env} {v : Value} {t : Nat} : putT T (some t) v t = v := by simp [putT, Env.set]
theorem Run.other (R : Run p call ops N T h M) {j : Nat} {o : Oper} (ho : ops[j]? = some o) {t : Nat} (hne : o.dst ≠ some t) : T (j + 1) t = T j t := by
  rcases R.step j _ ho with ⟨_, e, _⟩ | ⟨_, v, l1, _, e, _⟩ <;> rw [e] <;> exact putT_other hne

variable {φ0 φ φ' : Emb} {w0 w w' : World} {ds : List Deferred} {S : Array Bool} {a : Act} {i : Nat} {o : Oper}

theorem tmp_step (R : Run p call ops N T h M) (I : Inv p ops N T h M φ0 w0 ds S a w φ) (hr : Ready ops S i o) (hs : Sub φ φ') {v v' : Value} (hT : T (i + 1) = putT (T i) o.dst v)
    (hv : VP (φ'.upto (h (i + 1)).n) v v') : ∀ t k, k ≤ ops.size → AgT ops (S.setIfInBounds i true) k t → VP (φ'.upto (h k).n) (T k t) ((a.put o.dst v').tmps.getD t undef) := by
  intro t k hk ha
  have hi : i < S.size := by rw [I.hS]; exact hr.lt
  by_cases hd : o.dst = some t
  · have hik : i < k := (ha i o hr.at_ hd).2 ((in_set hi).2 (.inr rfl))
    have e : ∀ n, i + 1 + n ≤ k → T (i + 1 + n) t = T (i + 1) t := by
      intro n
      induction n with
      | zero => intro _; rfl
      | succ n ih =>
        intro hn
        have ho : ops[i + 1 + n]? = some ops[i + 1 + n] := Array.getElem?_eq_getElem (by omega)
        have hne : ops[i + 1 + n].dst ≠ some t := fun e => by
          have h1 := (ha _ _ ho e).1 (by omega)
          rw [in_set hi] at h1
          have h2 := R.drawn.slot i o t _ _ hr.at_ hd ho (by omega) (by simp [namesOf, e])
          have h3 := hr.before R.drawn I.closed h2
          rcases h1 with h1 | h1
          · have := h3.1.2 h1; omega
          · omega
        rw [← Nat.add_assoc, R.other ho hne]
        exact ih (by omega)
    have e2 : T k t = v := by
      have h1 := e (k - (i + 1)) (by omega)
      rw [show i + 1 + (k - (i + 1)) = k by omega] at h1
      rw [h1, hT, hd, putT_self]
    have hlt : t < a.tmps.size := by
      have := opOk_slot (R.ok i o hr.at_)
      rw [hd] at this
      rw [I.hN]
      exact Nat.le_of_ble_eq_true this
    rw [e2]
    have e3 : (a.put o.dst v').tmps.getD t undef = v' := by rw [hd]; simp [Act.put, hlt]
    rw [e3]
    exact hv.mono (sub_upto (Sub.refl _) (R.mono (by omega) hk))
  · have ha' : AgT ops S k t := fun j u hu hj => by
      have h1 := ha j u hu hj
      rw [in_set hi] at h1
      have hne : j ≠ i := by rintro rfl; have := hr.at_; rw [hu] at this; cases this; exact hd hj
      rw [h1]
      exact ⟨fun h => h.resolve_right hne, .inl⟩
    have e3 : (a.put o.dst v').tmps.getD t undef = a.tmps.getD t undef := by
      cases hdd : o.dst with
      | none => rfl
      | some d =>
        have hne : d ≠ t := fun e => hd (by rw [hdd, e])
        simp [Act.put, Array.getElem?_setIfInBounds, hne]
    rw [e3]
    exact (I.tmp t k hk ha').mono (sub_upto hs (Nat.le_refl _))

theorem agB_same (hi : i < S.size) (hw : ∀ b, b ∉ (M i).writes) {m k b : Nat} : AgB m M (S.setIfInBounds i true) k b ↔ AgB m M S k b := by
  constructor <;> intro ha j hj hb
  · have h1 := ha j hj hb
    rw [in_set hi] at h1
    rw [h1]
    exact ⟨fun h => h.resolve_right fun e => hw b (by rw [← e]; exact hb), .inl⟩
  · rw [in_set hi]
    rw [ha j hj hb]
    exact ⟨.inl, fun h => h.resolve_right fun e => hw b (by rw [← e]; exact hb)⟩

/-- An operation that only reads, or that is passed over. -/
theorem Inv.quiet (R : Run p call ops N T h M) (I : Inv p ops N T h M φ0 w0 ds S a w φ) (hr : Ready ops S i o) {v v' : Value} (hT : T (i + 1) = putT (T i) o.dst v)
    (hv : VP (φ.upto (h (i + 1)).n) v v') (hw : (M i).writes = []) : Inv p ops N T h M φ0 w0 ds (S.setIfInBounds i true) (a.put o.dst v') w φ := by
  have hi : i < S.size := by rw [I.hS]; exact hr.lt
  have hw' : ∀ b, b ∉ (M i).writes := fun b => by rw [hw]; simp
  have hnow : ∀ {b ob}, Now ops.size h M (S.setIfInBounds i true) b ob → Now ops.size h M S b ob := fun ⟨k, h1, h2, h3, h4⟩ => ⟨k, h1, h2, (agB_same hi hw').1 h3, h4⟩
  refine ⟨by simpa using I.hS, by rw [put_size]; exact I.hN, by rw [put_defers]; exact I.ds, hr.closed I.hS I.closed, fun b bi hb => ?_, I.old, tmp_step R I hr (Sub.refl _) hT hv, ?_, ?_, ?_, I.fr⟩
  · rcases I.dom b bi hb with h1 | ⟨j, h1, h2, h3⟩
    · exact .inl h1
    · exact .inr ⟨j, h1, (in_set hi).2 (.inl h2), h3⟩
  · exact fun b bi k hk hb hbk ha => I.blk b bi k hk hb hbk ((agB_same hi hw').1 ha)
  · exact fun b c bi ci ob oc hb hc h1 h2 => I.inj b c bi ci ob oc hb hc (hnow h1) (hnow h2)
  · exact fun b bi ob hb h1 => I.own b bi ob hb (hnow h1)

/-- What is not listed has made no blocks. -/
theorem Inv.noneAt (R : Run p call ops N T h M) (I : Inv p ops N T h M φ0 w0 ds S a w φ) (hr : Ready ops S i o) {b : Nat} (h1 : (h i).n ≤ b) (h2 : b < (h (i + 1)).n) : φ b = none := by
  cases hb : φ b with
  | none => rfl
  | some bi =>
    exfalso
    rcases I.dom b bi hb with h3 | ⟨j, h3, h4, h5, h6⟩
    · have := R.mono (Nat.zero_le i) (Nat.le_of_lt hr.lt); omega
    · rcases Nat.lt_trichotomy i j with hlt | rfl | hlt
      · have := R.mono (i := i + 1) (k := j) (by omega) (by omega); omega
      · exact hr.out h4
      · have := R.mono (i := j + 1) (k := i) (by omega) (Nat.le_of_lt hr.lt); omega

/-- Between i and k nothing wrote what i made. -/
theorem new_still (R : Run p call ops N T h M) (I : Inv p ops N T h M φ0 w0 ds S a w φ) (hr : Ready ops S i o) (hk : (M i).k ≠ .pure) {b k : Nat} (h1 : (h i).n ≤ b) (h2 : b < (h (i + 1)).n) (hkm : k ≤ ops.size)
    (hbk : b < (h k).n) (ha : AgB ops.size M (S.setIfInBounds i true) k b) : i < k ∧ (h k).get b = (h (i + 1)).get b := by
  have hi : i < S.size := by rw [I.hS]; exact hr.lt
  have hik : i < k := by
    rcases Nat.lt_or_ge i k with h3 | h3
    · exact h3
    · have := R.mono h3 (Nat.le_of_lt hr.lt); omega
  refine ⟨hik, R.still (by omega) hkm h2 fun j h3 h4 hj => ?_⟩
  have h5 := (ha j (by omega) hj).1 h4
  rw [in_set hi] at h5
  have hji : j ≠ i := by omega
  have h5 := h5.resolve_right hji
  rcases R.clash j i (by omega) hr.lt hji with h6 | h6 | h6
  · rw [h6] at hj; cases hj
  · have := (hr.before R.drawn I.closed h6.symm).1.2 h5
    omega
  · unfold besides at h6
    split at h6
    · have := List.all_eq_true.1 h6 b hj
      have e := R.stp hr.lt
      rw [e.2.1, e.2.2] at this
      simp at this
      omega
    · rename_i hp; exact hk hp
    · cases h6

/-- An operation that makes one object. -/
theorem Inv.make (R : Run p call ops N T h M) (I : Inv p ops N T h M φ0 w0 ds S a w φ) (hr : Ready ops S i o) {v v' : Value} {ob : IObj} {o' : Obj} (hT : T (i + 1) = putT (T i) o.dst v) (hk : (M i).k = .alloc)
    (hw : (M i).writes = []) (hh : h (i + 1) = (h i).push ob) (hl : Laid p (φ.upto (h i).n) w (h i).n v ob v' o') :
    ∃ φ', Inv p ops N T h M φ0 w0 ds (S.setIfInBounds i true) (a.put o.dst v') { w with heap := w.heap.push o' } φ' := by
  obtain ⟨bi, hbi, hv, hB, hlive, hrw⟩ := hl
  have hi : i < S.size := by rw [I.hS]; exact hr.lt
  have hw' : ∀ b, b ∉ (M i).writes := fun b => by rw [hw]; simp
  have hn1 : (h (i + 1)).n = (h i).n + 1 := by rw [hh]; rfl
  have hnone : φ (h i).n = none := I.noneAt R hr (Nat.le_refl _) (by omega)
  have hs : Sub φ (φ.put (h i).n bi) := Emb.sub_put hnone
  have hsp : Sub ((φ.upto (h i).n).put (h i).n bi) ((φ.put (h i).n bi).upto (h (i + 1)).n) := fun c ci hc => by
    by_cases e : c = (h i).n
    · subst e
      rw [Emb.put_self] at hc
      exact upto_of (by omega) (by rw [Emb.put_self]; exact hc)
    · rw [Emb.put_ne e] at hc
      obtain ⟨h1, h2⟩ := upto_some hc
      exact upto_of (by omega) (by rw [Emb.put_ne e]; exact h2)
  have old : ∀ {b ci}, φ.put (h i).n bi b = some ci → b ≠ (h i).n → φ b = some ci := fun {b ci} hb e => by rwa [Emb.put_ne e] at hb
  have hnow : ∀ {b ob}, Now ops.size h M (S.setIfInBounds i true) b ob → Now ops.size h M S b ob := fun ⟨k, h1, h2, h3, h4⟩ => ⟨k, h1, h2, (agB_same hi hw').1 h3, h4⟩
  have same : ∀ {r : Nat}, r < w.heap.size → ({ w with heap := w.heap.push o' } : World).heap[r]? = w.heap[r]? := fun {r} hr => by simp [Array.getElem?_push, Nat.ne_of_lt hr]
  refine ⟨φ.put (h i).n bi, by simpa using I.hS, by rw [put_size]; exact I.hN, by rw [put_defers]; exact I.ds, hr.closed I.hS I.closed, fun b ci hb => ?_, fun b hb => ?_, tmp_step R I hr hs hT (hv.mono hsp).vp, ?_, ?_, ?_, ?_⟩
  · by_cases e : b = (h i).n
    · exact .inr ⟨i, hr.lt, (in_set hi).2 (.inr rfl), by omega, by omega⟩
    · rcases I.dom b ci (old hb e) with h1 | ⟨j, h1, h2, h3⟩
      · exact .inl h1
      · exact .inr ⟨j, h1, (in_set hi).2 (.inl h2), h3⟩
  · have := R.mono (Nat.zero_le i) (Nat.le_of_lt hr.lt)
    rw [Emb.put_ne (by omega)]
    exact I.old b hb
  · intro b ci k hkm hb hbk ha
    by_cases e : b = (h i).n
    · subst e
      rw [Emb.put_self] at hb
      cases hb
      obtain ⟨hik, hst⟩ := new_still R I hr (by rw [hk]; simp) (Nat.le_refl _) (by omega) hkm hbk ha
      refine ⟨ob, by rw [hst, hh, H.get_push, if_pos rfl], ?_⟩
      have h3 := hB { w with heap := w.heap.push o' } (by rw [hbi]; simp)
      exact h3.mono (fun c ci hc => sub_upto (Sub.refl _) (R.mono (by omega) hkm) c ci (hsp c ci hc))
    · obtain ⟨ob2, h1, h2⟩ := I.blk b ci k hkm (old hb e) hbk ((agB_same hi hw').1 ha)
      refine ⟨ob2, h1, ?_⟩
      by_cases hl2 : liveO ob2 = true
      · exact (h2.same (same (h2.lt hl2))).mono (sub_upto hs (Nat.le_refl _))
      · cases ob2 <;> simp [liveO] at hl2
        exact .dead
  · intro b c bi' ci ob' oc hb hc h1 h2 hne hrw' hl'
    by_cases e1 : b = (h i).n
    · subst e1
      rw [Emb.put_self] at hb
      cases hb
      have := I.lt (old hc (Ne.symm hne)) (hnow h2) hl'
      omega
    · by_cases e2 : c = (h i).n
      · subst e2
        rw [Emb.put_self] at hc
        cases hc
        have := I.lt (old hb e1) (hnow h1) (rw_live hrw')
        omega
      · exact I.inj b c bi' ci ob' oc (old hb e1) (old hc e2) (hnow h1) (hnow h2) hne hrw' hl'
  · intro b bi' ob' hb h1 hlt
    by_cases e : b = (h i).n
    · subst e
      rw [Emb.put_self] at hb
      cases hb
      have := I.fr.size
      omega
    · exact I.own b bi' ob' (old hb e) (hnow h1) hlt
  · exact ⟨I.fr.os, I.fr.tape, I.fr.output, by have := I.fr.size; simp; omega, fun r hr' ho => (same (Nat.lt_of_lt_of_le hr' I.fr.size)).trans (I.fr.keep r hr' ho)⟩
end
end Go.L1
