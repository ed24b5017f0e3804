/- Texts of a proof: no condition. -/
import Derived.Test.YtmhdgdehbkjhhaaGreatOneC
import Derived.RangeFuncRecord
import Derived.Lib.Bytealg
import Derived.Laws.Externs
set_option autoImplicit true
set_option relaxedAutoImplicit true
set_option linter.all false
set_option linter.unusedVariables false
set_option linter.unusedSimpArgs false
namespace Go.L1
open Go

theorem VP.back {φ ψ : Emb} (hs : Sub φ ψ) {v v1 v2 : Value} (h : VP φ v v1) (h' : VP ψ v v2) : VP φ v v2 := by
  rcases h with h | h
  · exact .inl h
  · rcases h' with h' | h'
    · exact .inl h'
    · exact (h.back hs h').vp
theorem VL.back {φ ψ : Emb} (hs : Sub φ ψ) {l l1 l2 : List Value} (h : VL φ l l1) (h' : VL ψ l l2) : VL φ l l2 := by
  refine ⟨h'.1,fun i x y hx hy => ?_⟩
  obtain ⟨z,hz,hr⟩ := h.get hx
  exact hr.back hs (h'.2 i x y hx hy)
theorem BlockRel.back {p : Pg} {φ ψ : Emb} (hs : Sub φ ψ) {bi : BI} {w w' : World} {ob : IObj} (h : BlockRel p φ bi w ob) (h' : BlockRel p ψ bi w' ob) : BlockRel p φ bi w' ob := by
  cases h with
  | cells hi hes hisz hw hss hsz hv hcell hfr =>
    cases h' with
    | cells hi' hes' hisz' hw' hss' hsz' hv' hcell' hfr' hj' => exact .cells hi' hes' hisz' hw' hss' hsz' (hv.back hs hv') hcell' hfr' hj'
  | map hw hl hk =>
    cases h' with
    | map hw' hl' hk' =>
      refine .map hw' hl' fun i k v e h1 h2 => ⟨(hk' i k v e h1 h2).1,?_,(hk' i k v e h1 h2).2.2⟩
      have hi := (List.getElem?_eq_some_iff.1 h1).1
      have hz := List.getElem?_eq_getElem (hl ▸ hi)
      exact ((hk i k v _ h1 hz).2.1).back hs (hk' i k v e h1 h2).2.1
  | loop hw hfn hps hpl hasg hbody hN hT =>
    cases h' with
    | loop hw' hfn' hps' hpl' hasg' hbody' hN' hT' => exact .loop hw' hfn' hps' hpl' hasg' hbody' hN' fun i => (hT i).back hs (hT' i)
  | dead => exact .dead

def Emb.upto (φ : Emb) (n : Nat) : Emb := fun b => if b < n then φ b else none
theorem upto_some {φ : Emb} {n b : Nat} {bi : BI} (h : φ.upto n b = some bi) : b < n ∧ φ b = some bi := by
  unfold Emb.upto at h
  split at h
  · exact ⟨by assumption,h⟩
  · cases h
theorem upto_of {φ : Emb} {n b : Nat} {bi : BI} (hb : b < n) (h : φ b = some bi) : φ.upto n b = some bi := by simp [Emb.upto,hb,h]
theorem sub_upto {φ ψ : Emb} (hs : Sub φ ψ) {n k : Nat} (h : n ≤ k) : Sub (φ.upto n) (ψ.upto k) := fun b bi hb => by
  obtain ⟨h1,h2⟩ := upto_some hb
  exact upto_of (by omega) (hs b bi h2)
theorem upto_sub (φ : Emb) (n : Nat) : Sub (φ.upto n) φ := fun b bi hb => (upto_some hb).2

section
variable {p : Pg}
def StepI (p : Pg) (call : CallF) (all : List Oper) (o : Oper) (T : Env) (h : H) (T1 : Env) (h1 : H) (M : Mk) : Prop :=
  (wantedV all T o.guard = some false ∧ T1 = putT T o.dst ud ∧ h1 = h ∧ M = ⟨.pure,[],[],h.n,h.n⟩) ∨
  (wantedV all T o.guard = some true ∧ ∃ v l1,opV p call T h o.op = some (v,h1,l1) ∧ T1 = putT T o.dst v ∧ M = ⟨kindOf o.op,readsOf T o.op,l1,h.n,h1.n⟩)

theorem ops2_trace {call : CallF} {all : List Oper} : ∀ {l : List Oper} {T0 : Env} {h0 : H} {ms : List Mk} {T1 : Env} {h1 : H} {ms1 : List Mk},ops2 p call all l T0 h0 ms = some (T1,h1,ms1) →
    ∃ (T : Nat → Env) (h : Nat → H) (M : Nat → Mk),T 0 = T0 ∧ h 0 = h0 ∧ T l.length = T1 ∧ h l.length = h1 ∧ ms1 = ms ++ (List.range l.length).map M ∧
      ∀ (i : Nat) o,l[i]? = some o → StepI p call all o (T i) (h i) (T (i + 1)) (h (i + 1)) (M i)
  | [],T0,h0,ms,T1,h1,ms1,hh => by
    cases hh
    exact ⟨fun _ => T0,fun _ => h0,fun _ => ⟨.pure,[],[],0,0⟩,rfl,rfl,rfl,rfl,by simp,fun i o h => by simp at h⟩
  | o :: l,T0,h0,ms,T1,h1,ms1,hh => by
    have put : ∀ {T' : Env} {h' : H} {mk : Mk},ops2 p call all l T' h' (ms ++ [mk]) = some (T1,h1,ms1) → StepI p call all o T0 h0 T' h' mk →
        ∃ (T : Nat → Env) (h : Nat → H) (M : Nat → Mk),T 0 = T0 ∧ h 0 = h0 ∧ T (o :: l).length = T1 ∧ h (o :: l).length = h1 ∧ ms1 = ms ++ (List.range (o :: l).length).map M ∧
          ∀ (i : Nat) u,(o :: l)[i]? = some u → StepI p call all u (T i) (h i) (T (i + 1)) (h (i + 1)) (M i) := by
      intro T' h' mk hrest hstep
      obtain ⟨T,h,M,e1,e2,e3,e4,e5,e6⟩ := ops2_trace hrest
      refine ⟨fun i => match i with | 0 => T0 | i + 1 => T i,fun i => match i with | 0 => h0 | i + 1 => h i,fun i => match i with | 0 => mk | i + 1 => M i,rfl,rfl,e3,e4,?_,?_⟩
      · rw [e5,List.length_cons,List.range_succ_eq_map,List.map_cons,List.map_map,List.append_assoc]
        rfl
      · intro i u hu
        cases i with
        | zero =>
          cases hu
          simp only [e1,e2]
          exact hstep
        | succ i => exact e6 i u hu
    unfold ops2 at hh
    split at hh
    · cases hh
    · rename_i hw
      exact put hh (.inl ⟨hw,rfl,rfl,rfl⟩)
    · rename_i hw
      split at hh
      · cases hh
      · rename_i v h2 l2 hv
        exact put hh (.inr ⟨hw,v,l2,hv,rfl,rfl⟩)
end

structure Run (p : Pg) (call : CallF) (ops : Array Oper) (N : Nat) (T : Nat → Env) (h : Nat → H) (M : Nat → Mk) : Prop where
  drawn : Drawn ops
  ok : ∀ (i : Nat) o,ops[i]? = some o → opOk N o = true
  step : ∀ (i : Nat) o,ops[i]? = some o → StepI p call ops.toList o (T i) (h i) (T (i + 1)) (h (i + 1)) (M i)
  log : CallLog call
  clash : ∀ i j,i < ops.size → j < ops.size → i ≠ j → (M i).writes = [] ∨ (Bf ops.toList i j = true ∨ Bf ops.toList j i = true) ∨ besides (M i) (M j) = true

section
variable {p : Pg} {call : CallF} {ops : Array Oper} {N : Nat} {T : Nat → Env} {h : Nat → H} {M : Nat → Mk}

theorem Run.stp (R : Run p call ops N T h M) {i : Nat} (hi : i < ops.size) : Stp (h i) (h (i + 1)) (M i).writes ∧ (M i).lo = (h i).n ∧ (M i).hi = (h (i + 1)).n := by
  have ho : ops[i]? = some ops[i] := Array.getElem?_eq_getElem hi
  rcases R.step i _ ho with ⟨_,_,e,em⟩ | ⟨_,v,l1,hv,_,em⟩
  · rw [em,e]; exact ⟨Stp.refl _ _,rfl,rfl⟩
  · rw [em]; exact ⟨opV_stp R.log hv,rfl,rfl⟩
theorem Run.mono (R : Run p call ops N T h M) : ∀ {k i : Nat},i ≤ k → k ≤ ops.size → (h i).n ≤ (h k).n := by
  intro k
  induction k with
  | zero => intro i h1 _; cases Nat.le_zero.1 h1; exact Nat.le_refl _
  | succ k ih =>
    intro i h1 h2
    rcases Nat.lt_or_eq_of_le h1 with h3 | rfl
    · exact Nat.le_trans (ih (by omega) (by omega)) (R.stp (i := k) (by omega)).1.le
    · exact Nat.le_refl _
theorem Run.still (R : Run p call ops N T h M) {b : Nat} : ∀ {k i : Nat},i ≤ k → k ≤ ops.size → b < (h i).n → (∀ j,i ≤ j → j < k → b ∉ (M j).writes) → (h k).get b = (h i).get b := by
  intro k
  induction k with
  | zero => intro i h1 _ _ _; cases Nat.le_zero.1 h1; rfl
  | succ k ih =>
    intro i h1 h2 hb hw
    rcases Nat.lt_or_eq_of_le h1 with h3 | rfl
    · rw [(R.stp (i := k) (by omega)).1.same b (Nat.lt_of_lt_of_le hb (R.mono (by omega) (by omega))) (hw k (by omega) (by omega))]
      exact ih (by omega) (by omega) hb fun j h4 h5 => hw j h4 (by omega)
    · rfl

def AgB (m : Nat) (M : Nat → Mk) (S : Array Bool) (k b : Nat) : Prop := ∀ j,j < m → b ∈ (M j).writes → (j < k ↔ In S j)
def AgT (ops : Array Oper) (S : Array Bool) (k t : Nat) : Prop := ∀ (j : Nat) o,ops[j]? = some o → o.dst = some t → (j < k ↔ In S j)

theorem Run.same_now (R : Run p call ops N T h M) {S : Array Bool} {b k k' : Nat} (hk : k ≤ ops.size) (hk' : k' ≤ ops.size) (h1 : b < (h k).n) (h2 : b < (h k').n)
    (a1 : AgB ops.size M S k b) (a2 : AgB ops.size M S k' b) : (h k).get b = (h k').get b := by
  have key : ∀ {i k : Nat},i ≤ k → k ≤ ops.size → b < (h i).n → AgB ops.size M S i b → AgB ops.size M S k b → (h k).get b = (h i).get b := fun {i k} hik hk hb a1 a2 =>
    R.still hik hk hb fun j h3 h4 hj => by
      have := a1 j (by omega) hj
      have h5 := (a2 j (by omega) hj).1 h4
      have := this.2 h5
      omega
  rcases Nat.le_total k k' with hle | hle
  · exact (key hle hk' h1 a1 a2).symm
  · exact key hle hk h2 a2 a1

def Now (m : Nat) (h : Nat → H) (M : Nat → Mk) (S : Array Bool) (b : Nat) (ob : IObj) : Prop := ∃ k,k ≤ m ∧ b < (h k).n ∧ AgB m M S k b ∧ (h k).get b = some ob

structure Inv (p : Pg) (ops : Array Oper) (N : Nat) (T : Nat → Env) (h : Nat → H) (M : Nat → Mk) (φ0 : Emb) (w0 : World) (ds : List Deferred) (S : Array Bool) (a : Act) (w : World) (φ : Emb) : Prop where
  hS : S.size = ops.size
  hN : a.tmps.size = N
  ds : a.defers = ds
  closed : Closed ops S
  dom : ∀ b bi,φ b = some bi → b < (h 0).n ∨ ∃ j,j < ops.size ∧ In S j ∧ (h j).n ≤ b ∧ b < (h (j + 1)).n
  old : ∀ b,b < (h 0).n → φ b = φ0 b
  tmp : ∀ t k,k ≤ ops.size → AgT ops S k t → VP (φ.upto (h k).n) (T k t) (a.tmps.getD t undef)
  blk : ∀ b bi k,k ≤ ops.size → φ b = some bi → b < (h k).n → AgB ops.size M S k b → ∃ ob,(h k).get b = some ob ∧ BlockRel p (φ.upto (h k).n) bi w ob
  inj : ∀ b c bi ci ob oc,φ b = some bi → φ c = some ci → Now ops.size h M S b ob → Now ops.size h M S c oc → b ≠ c → rwO ob = true → liveO oc = true → bi.r ≠ ci.r
  own : ∀ b bi ob,φ b = some bi → Now ops.size h M S b ob → bi.r < w0.heap.size → (rwO ob = true → Owned φ0 (h 0).get bi.r) ∧ (liveO ob = true → Uses φ0 (h 0).get bi.r)
  fr : Fr φ0 (h 0).get w0 w

theorem Inv.lt {φ0 : Emb} {w0 : World} {ds : List Deferred} {S : Array Bool} {a : Act} {w : World} {φ : Emb} (I : Inv p ops N T h M φ0 w0 ds S a w φ) {b : Nat} {bi : BI} {ob : IObj}
    (hb : φ b = some bi) (hn : Now ops.size h M S b ob) (hl : liveO ob = true) : bi.r < w.heap.size := by
  obtain ⟨k,hk,hbk,ha,he⟩ := hn
  obtain ⟨o2,h2,hr⟩ := I.blk b bi k hk hb hbk ha
  rw [he] at h2
  cases h2
  exact hr.lt hl

theorem Inv.start (R : Run p call ops N T h M) {φ0 : Emb} {w0 : World} {a : Act} (hR : Rel p φ0 (h 0).get w0) (hd : Dom φ0 (h 0).n) (hE : ER φ0 (T 0) a.tmps) (hN : a.tmps.size = N) :
    Inv p ops N T h M φ0 w0 a.defers (Array.replicate ops.size false) a { w0 with drawn := w0.drawn + 1 } φ0 := by
  have nin : ∀ j,¬ In (Array.replicate ops.size false) j := fun j hj => by
    unfold In at hj
    rw [Array.getD_eq_getD_getElem?,Array.getElem?_replicate] at hj
    split at hj <;> simp at hj
  have upto0 : Sub φ0 (φ0.upto (h 0).n) := fun b bi hb => upto_of (hd b bi hb) hb
  have content : ∀ {b bi k},k ≤ ops.size → φ0 b = some bi → AgB ops.size M (Array.replicate ops.size false) k b → (h k).get b = (h 0).get b := fun {b bi k} hk hb ha =>
    R.still (Nat.zero_le _) hk (hd b bi hb) fun j _ hj hw => nin j ((ha j (by omega) hw).1 hj)
  refine ⟨by simp,hN,rfl,fun i o _ hi => absurd hi (nin i),fun b bi hb => .inl (hd b bi hb),fun _ _ => rfl,?_,?_,?_,?_,⟨rfl,rfl,rfl,Nat.le_refl _,fun _ _ _ => rfl⟩⟩
  · intro t k hk ha
    have e : ∀ k,k ≤ ops.size → AgT ops (Array.replicate ops.size false) k t → T k t = T 0 t := by
      intro k
      induction k with
      | zero => intro _ _; rfl
      | succ k ih =>
        intro hk ha
        have ho : ops[k]? = some ops[k] := Array.getElem?_eq_getElem (by omega)
        have hne : ops[k].dst ≠ some t := fun e => nin k ((ha k _ ho e).1 (by omega))
        have hst : T (k + 1) t = T k t := by
          have put : ∀ v,putT (T k) ops[k].dst v t = T k t := fun v => by
            cases hd : ops[k].dst with
            | none => rfl
            | some d =>
              have : Nat.beq t d = false := by rw [Bool.eq_false_iff]; intro hb; exact hne (by rw [hd,Nat.eq_of_beq_eq_true hb])
              simp [putT,Env.set,this]
          rcases R.step k _ ho with ⟨_,e,_⟩ | ⟨_,v,l1,_,e,_⟩ <;> rw [e] <;> exact put _
        rw [hst]
        refine ih (by omega) fun j o hj hjd => ⟨fun hlt => (ha j o hj hjd).1 (by omega),fun hin => absurd hin (nin j)⟩
    rw [e k hk ha]
    exact (hE t).mono (fun b bi hb => upto_of (Nat.lt_of_lt_of_le (hd b bi hb) (R.mono (Nat.zero_le _) hk)) hb)
  · intro b bi k hk hb hbk ha
    obtain ⟨ob,ho,hr⟩ := hR.blk b bi hb
    refine ⟨ob,by rw [content hk hb ha]; exact ho,?_⟩
    have hs : BlockRel p φ0 bi { w0 with drawn := w0.drawn + 1 } ob := BlockRel.same (w := w0) rfl hr
    exact hs.mono (fun c ci hc => upto_of (Nat.lt_of_lt_of_le (hd c ci hc) (R.mono (Nat.zero_le _) hk)) hc)
  · rintro b c bi ci ob oc hb hc ⟨k,hk,_,ha,he⟩ ⟨k',hk',_,ha',he'⟩ hne hrw hl
    rw [content hk hb ha] at he
    rw [content hk' hc ha'] at he'
    exact hR.inj b c bi ci ob oc hb hc he he' hne hrw hl
  · rintro b bi ob hb ⟨k,hk,_,ha,he⟩ _
    rw [content hk hb ha] at he
    exact ⟨fun hrw => ⟨b,bi,ob,hb,he,hrw,rfl⟩,fun hl => ⟨b,bi,ob,hb,he,hl,rfl⟩⟩

theorem putT_other {T : Env} {d : Option Nat} {v : Value} {t : Nat} (h : d ≠ some t) : putT T d v t = T t := by
  cases d with
  | none => rfl
  | some d =>
    have : Nat.beq t d = false := by rw [Bool.eq_false_iff]; intro hb; exact h (by rw [Nat.eq_of_beq_eq_true hb])
    simp [putT,Env.set,this]
theorem putT_self {T : Env} {v : Value} {t : Nat} : putT T (some t) v t = v := by simp [putT,Env.set]
theorem Run.other (R : Run p call ops N T h M) {j : Nat} {o : Oper} (ho : ops[j]? = some o) {t : Nat} (hne : o.dst ≠ some t) : T (j + 1) t = T j t := by
  rcases R.step j _ ho with ⟨_,e,_⟩ | ⟨_,v,l1,_,e,_⟩ <;> rw [e] <;> exact putT_other hne

variable {φ0 φ φ' : Emb} {w0 w w' : World} {ds : List Deferred} {S : Array Bool} {a : Act} {i : Nat} {o : Oper}

theorem tmp_step (R : Run p call ops N T h M) (I : Inv p ops N T h M φ0 w0 ds S a w φ) (hr : Ready ops S i o) (hs : Sub φ φ') {v v' : Value} (hT : T (i + 1) = putT (T i) o.dst v)
    (hv : VP (φ'.upto (h (i + 1)).n) v v') : ∀ t k,k ≤ ops.size → AgT ops (S.setIfInBounds i true) k t → VP (φ'.upto (h k).n) (T k t) ((a.put o.dst v').tmps.getD t undef) := by
  intro t k hk ha
  have hi : i < S.size := by rw [I.hS]; exact hr.lt
  by_cases hd : o.dst = some t
  · have hik : i < k := (ha i o hr.at_ hd).2 ((in_set hi).2 (.inr rfl))
    have e : ∀ n,i + 1 + n ≤ k → T (i + 1 + n) t = T (i + 1) t := by
      intro n
      induction n with
      | zero => intro _; rfl
      | succ n ih =>
        intro hn
        have ho : ops[i + 1 + n]? = some ops[i + 1 + n] := Array.getElem?_eq_getElem (by omega)
        have hne : ops[i + 1 + n].dst ≠ some t := fun e => by
          have h1 := (ha _ _ ho e).1 (by omega)
          rw [in_set hi] at h1
          have h2 := R.drawn.slot i o t _ _ hr.at_ hd ho (by omega) (by simp [namesOf,e])
          have h3 := hr.before R.drawn I.closed h2
          rcases h1 with h1 | h1
          · have := h3.1.2 h1; omega
          · omega
        rw [← Nat.add_assoc,R.other ho hne]
        exact ih (by omega)
    have e2 : T k t = v := by
      have h1 := e (k - (i + 1)) (by omega)
      rw [show i + 1 + (k - (i + 1)) = k by omega] at h1
      rw [h1,hT,hd,putT_self]
    have hlt : t < a.tmps.size := by
      have := opOk_slot (R.ok i o hr.at_)
      rw [hd] at this
      rw [I.hN]
      exact Nat.le_of_ble_eq_true this
    rw [e2]
    have e3 : (a.put o.dst v').tmps.getD t undef = v' := by rw [hd]; simp [Act.put,hlt]
    rw [e3]
    exact hv.mono (sub_upto (Sub.refl _) (R.mono (by omega) hk))
  · have ha' : AgT ops S k t := fun j u hu hj => by
      have h1 := ha j u hu hj
      rw [in_set hi] at h1
      have hne : j ≠ i := by rintro rfl; have := hr.at_; rw [hu] at this; cases this; exact hd hj
      rw [h1]
      exact ⟨fun h => h.resolve_right hne,.inl⟩
    have e3 : (a.put o.dst v').tmps.getD t undef = a.tmps.getD t undef := by
      cases hdd : o.dst with
      | none => rfl
      | some d =>
        have hne : d ≠ t := fun e => hd (by rw [hdd,e])
        simp [Act.put,Array.getElem?_setIfInBounds,hne]
    rw [e3]
    exact (I.tmp t k hk ha').mono (sub_upto hs (Nat.le_refl _))

theorem agB_same (hi : i < S.size) (hw : ∀ b,b ∉ (M i).writes) {m k b : Nat} : AgB m M (S.setIfInBounds i true) k b ↔ AgB m M S k b := by
  constructor <;> intro ha j hj hb
  · have h1 := ha j hj hb
    rw [in_set hi] at h1
    rw [h1]
    exact ⟨fun h => h.resolve_right fun e => hw b (by rw [← e]; exact hb),.inl⟩
  · rw [in_set hi]
    rw [ha j hj hb]
    exact ⟨.inl,fun h => h.resolve_right fun e => hw b (by rw [← e]; exact hb)⟩

theorem Inv.quiet (R : Run p call ops N T h M) (I : Inv p ops N T h M φ0 w0 ds S a w φ) (hr : Ready ops S i o) {v v' : Value} (hT : T (i + 1) = putT (T i) o.dst v)
    (hv : VP (φ.upto (h (i + 1)).n) v v') (hw : (M i).writes = []) : Inv p ops N T h M φ0 w0 ds (S.setIfInBounds i true) (a.put o.dst v') w φ := by
  have hi : i < S.size := by rw [I.hS]; exact hr.lt
  have hw' : ∀ b,b ∉ (M i).writes := fun b => by rw [hw]; simp
  have hnow : ∀ {b ob},Now ops.size h M (S.setIfInBounds i true) b ob → Now ops.size h M S b ob := fun ⟨k,h1,h2,h3,h4⟩ => ⟨k,h1,h2,(agB_same hi hw').1 h3,h4⟩
  refine ⟨by simpa using I.hS,by rw [put_size]; exact I.hN,by rw [put_defers]; exact I.ds,hr.closed I.hS I.closed,fun b bi hb => ?_,I.old,tmp_step R I hr (Sub.refl _) hT hv,?_,?_,?_,I.fr⟩
  · rcases I.dom b bi hb with h1 | ⟨j,h1,h2,h3⟩
    · exact .inl h1
    · exact .inr ⟨j,h1,(in_set hi).2 (.inl h2),h3⟩
  · exact fun b bi k hk hb hbk ha => I.blk b bi k hk hb hbk ((agB_same hi hw').1 ha)
  · exact fun b c bi ci ob oc hb hc h1 h2 => I.inj b c bi ci ob oc hb hc (hnow h1) (hnow h2)
  · exact fun b bi ob hb h1 => I.own b bi ob hb (hnow h1)

theorem Inv.noneAt (R : Run p call ops N T h M) (I : Inv p ops N T h M φ0 w0 ds S a w φ) (hr : Ready ops S i o) {b : Nat} (h1 : (h i).n ≤ b) (h2 : b < (h (i + 1)).n) : φ b = none := by
  cases hb : φ b with
  | none => rfl
  | some bi =>
    exfalso
    rcases I.dom b bi hb with h3 | ⟨j,h3,h4,h5,h6⟩
    · have := R.mono (Nat.zero_le i) (Nat.le_of_lt hr.lt); omega
    · rcases Nat.lt_trichotomy i j with hlt | rfl | hlt
      · have := R.mono (i := i + 1) (k := j) (by omega) (by omega); omega
      · exact hr.out h4
      · have := R.mono (i := j + 1) (k := i) (by omega) (Nat.le_of_lt hr.lt); omega

theorem new_still (R : Run p call ops N T h M) (I : Inv p ops N T h M φ0 w0 ds S a w φ) (hr : Ready ops S i o) (hk : (M i).k ≠ .pure) {b k : Nat} (h1 : (h i).n ≤ b) (h2 : b < (h (i + 1)).n) (hkm : k ≤ ops.size)
    (hbk : b < (h k).n) (ha : AgB ops.size M (S.setIfInBounds i true) k b) : i < k ∧ (h k).get b = (h (i + 1)).get b := by
  have hi : i < S.size := by rw [I.hS]; exact hr.lt
  have hik : i < k := by
    rcases Nat.lt_or_ge i k with h3 | h3
    · exact h3
    · have := R.mono h3 (Nat.le_of_lt hr.lt); omega
  refine ⟨hik,R.still (by omega) hkm h2 fun j h3 h4 hj => ?_⟩
  have h5 := (ha j (by omega) hj).1 h4
  rw [in_set hi] at h5
  have hji : j ≠ i := by omega
  have h5 := h5.resolve_right hji
  rcases R.clash j i (by omega) hr.lt hji with h6 | h6 | h6
  · rw [h6] at hj; cases hj
  · have := (hr.before R.drawn I.closed h6.symm).1.2 h5
    omega
  · unfold besides at h6
    split at h6
    · have := List.all_eq_true.1 h6 b hj
      have e := R.stp hr.lt
      rw [e.2.1,e.2.2] at this
      simp at this
      omega
    · rename_i hp; exact hk hp
    · cases h6

theorem Inv.make (R : Run p call ops N T h M) (I : Inv p ops N T h M φ0 w0 ds S a w φ) (hr : Ready ops S i o) {v v' : Value} {ob : IObj} {o' : Obj} (hT : T (i + 1) = putT (T i) o.dst v) (hk : (M i).k = .alloc)
    (hw : (M i).writes = []) (hh : h (i + 1) = (h i).push ob) (hl : Laid p (φ.upto (h i).n) w (h i).n v ob v' o') :
    ∃ φ',Inv p ops N T h M φ0 w0 ds (S.setIfInBounds i true) (a.put o.dst v') { w with heap := w.heap.push o' } φ' := by
  obtain ⟨bi,hbi,hv,hB,hlive,hrw⟩ := hl
  have hi : i < S.size := by rw [I.hS]; exact hr.lt
  have hw' : ∀ b,b ∉ (M i).writes := fun b => by rw [hw]; simp
  have hn1 : (h (i + 1)).n = (h i).n + 1 := by rw [hh]; rfl
  have hnone : φ (h i).n = none := I.noneAt R hr (Nat.le_refl _) (by omega)
  have hs : Sub φ (φ.put (h i).n bi) := Emb.sub_put hnone
  have hsp : Sub ((φ.upto (h i).n).put (h i).n bi) ((φ.put (h i).n bi).upto (h (i + 1)).n) := fun c ci hc => by
    by_cases e : c = (h i).n
    · subst e
      rw [Emb.put_self] at hc
      exact upto_of (by omega) (by rw [Emb.put_self]; exact hc)
    · rw [Emb.put_ne e] at hc
      obtain ⟨h1,h2⟩ := upto_some hc
      exact upto_of (by omega) (by rw [Emb.put_ne e]; exact h2)
  have old : ∀ {b ci},φ.put (h i).n bi b = some ci → b ≠ (h i).n → φ b = some ci := fun {b ci} hb e => by rwa [Emb.put_ne e] at hb
  have hnow : ∀ {b ob},Now ops.size h M (S.setIfInBounds i true) b ob → Now ops.size h M S b ob := fun ⟨k,h1,h2,h3,h4⟩ => ⟨k,h1,h2,(agB_same hi hw').1 h3,h4⟩
  have same : ∀ {r : Nat},r < w.heap.size → ({ w with heap := w.heap.push o' } : World).heap[r]? = w.heap[r]? := fun {r} hr => by simp [Array.getElem?_push,Nat.ne_of_lt hr]
  refine ⟨φ.put (h i).n bi,by simpa using I.hS,by rw [put_size]; exact I.hN,by rw [put_defers]; exact I.ds,hr.closed I.hS I.closed,fun b ci hb => ?_,fun b hb => ?_,tmp_step R I hr hs hT (hv.mono hsp).vp,?_,?_,?_,?_⟩
  · by_cases e : b = (h i).n
    · exact .inr ⟨i,hr.lt,(in_set hi).2 (.inr rfl),by omega,by omega⟩
    · rcases I.dom b ci (old hb e) with h1 | ⟨j,h1,h2,h3⟩
      · exact .inl h1
      · exact .inr ⟨j,h1,(in_set hi).2 (.inl h2),h3⟩
  · have := R.mono (Nat.zero_le i) (Nat.le_of_lt hr.lt)
    rw [Emb.put_ne (by omega)]
    exact I.old b hb
  · intro b ci k hkm hb hbk ha
    by_cases e : b = (h i).n
    · subst e
      rw [Emb.put_self] at hb
      cases hb
      obtain ⟨hik,hst⟩ := new_still R I hr (by rw [hk]; simp) (Nat.le_refl _) (by omega) hkm hbk ha
      refine ⟨ob,by rw [hst,hh,H.get_push,if_pos rfl],?_⟩
      have h3 := hB { w with heap := w.heap.push o' } (by rw [hbi]; simp)
      exact h3.mono (fun c ci hc => sub_upto (Sub.refl _) (R.mono (by omega) hkm) c ci (hsp c ci hc))
    · obtain ⟨ob2,h1,h2⟩ := I.blk b ci k hkm (old hb e) hbk ((agB_same hi hw').1 ha)
      refine ⟨ob2,h1,?_⟩
      by_cases hl2 : liveO ob2 = true
      · exact (h2.same (same (h2.lt hl2))).mono (sub_upto hs (Nat.le_refl _))
      · cases ob2 <;> simp [liveO] at hl2
        exact .dead
  · intro b c bi' ci ob' oc hb hc h1 h2 hne hrw' hl'
    by_cases e1 : b = (h i).n
    · subst e1
      rw [Emb.put_self] at hb
      cases hb
      have := I.lt (old hc (Ne.symm hne)) (hnow h2) hl'
      omega
    · by_cases e2 : c = (h i).n
      · subst e2
        rw [Emb.put_self] at hc
        cases hc
        have := I.lt (old hb e1) (hnow h1) (rw_live hrw')
        omega
      · exact I.inj b c bi' ci ob' oc (old hb e1) (old hc e2) (hnow h1) (hnow h2) hne hrw' hl'
  · intro b bi' ob' hb h1 hlt
    by_cases e : b = (h i).n
    · subst e
      rw [Emb.put_self] at hb
      cases hb
      have := I.fr.size
      omega
    · exact I.own b bi' ob' (old hb e) (hnow h1) hlt
  · exact ⟨I.fr.os,I.fr.tape,I.fr.output,by have := I.fr.size; simp; omega,fun r hr' ho => (same (Nat.lt_of_lt_of_le hr' I.fr.size)).trans (I.fr.keep r hr' ho)⟩
end
end Go.L1


namespace Go.L1
open Go
section
variable {p : Pg} {P : Program} {call : CallF} {ops : Array Oper} {N : Nat} {T : Nat → Env} {h : Nat → H} {M : Nat → Mk}
variable {φ0 φ φ' : Emb} {w0 w w' : World} {ds : List Deferred} {S : Array Bool} {a : Act} {i : Nat} {o : Oper}

theorem heavy_ag (R : Run p call ops N T h M) (I : Inv p ops N T h M φ0 w0 ds S a w φ) (hr : Ready ops S i o) (hk : (M i).k = .heavy) (b : Nat) : AgB ops.size M S i b := by
  intro j hj hb
  by_cases e : j = i
  · subst e
    exact ⟨fun h => by omega,fun h => absurd h hr.out⟩
  · rcases R.clash j i hj hr.lt e with h6 | h6 | h6
    · rw [h6] at hb; cases hb
    · exact (hr.before R.drawn I.closed h6.symm).1
    · unfold besides at h6
      rw [hk] at h6
      cases h6

theorem Inv.rel (R : Run p call ops N T h M) (I : Inv p ops N T h M φ0 w0 ds S a w φ) (hr : Ready ops S i o) (hk : (M i).k = .heavy) : Rel p (φ.upto (h i).n) (h i).get w := by
  have hle := Nat.le_of_lt hr.lt
  constructor
  · intro b bi hb
    obtain ⟨h1,h2⟩ := upto_some hb
    exact I.blk b bi i hle h2 h1 (heavy_ag R I hr hk b)
  · intro b c bi ci ob oc hb hc hob hoc hne hrw hl
    obtain ⟨h1,h2⟩ := upto_some hb
    obtain ⟨h3,h4⟩ := upto_some hc
    exact I.inj b c bi ci ob oc h2 h4 ⟨i,hle,h1,heavy_ag R I hr hk b,hob⟩ ⟨i,hle,h3,heavy_ag R I hr hk c,hoc⟩ hne hrw hl

theorem Inv.heavy (R : Run p call ops N T h M) (I : Inv p ops N T h M φ0 w0 ds S a w φ) (hr : Ready ops S i o) (hk : (M i).k = .heavy) {v v' : Value} (hT : T (i + 1) = putT (T i) o.dst v)
    (hp : Post p (φ.upto (h i).n) (h i) w v (h (i + 1)) v' w') : ∃ φ',Inv p ops N T h M φ0 w0 ds (S.setIfInBounds i true) (a.put o.dst v') w' φ' := by
  obtain ⟨ψ,g,f,hR,hv⟩ := hp
  have hi : i < S.size := by rw [I.hS]; exact hr.lt
  have hle := Nat.le_of_lt hr.lt
  have hag := heavy_ag R I hr hk
  have hnn := R.mono (i := i) (k := i + 1) (by omega) hr.lt
  obtain ⟨φ',hφ'⟩ : ∃ φ' : Emb,φ' = fun b => if b < (h (i + 1)).n then ψ b else φ b := ⟨_,rfl⟩
  have lowv : ∀ {b},b < (h i).n → ψ b = φ b := fun {b} hb => by rw [g.old b hb]; simp [Emb.upto,hb]
  have φlow : ∀ {b},b < (h (i + 1)).n → φ' b = ψ b := fun {b} hb => by rw [hφ']; simp [hb]
  have φup : ∀ {b},(h (i + 1)).n ≤ b → φ' b = φ b := fun {b} hb => by rw [hφ']; simp [Nat.not_lt.2 hb]
  have hs : Sub φ φ' := fun b bi hb => by
    rcases Nat.lt_or_ge b (h i).n with h1 | h1
    · rw [φlow (by omega),lowv h1]; exact hb
    · rcases Nat.lt_or_ge b (h (i + 1)).n with h2 | h2
      · rw [I.noneAt R hr h1 h2] at hb; cases hb
      · rw [φup h2]; exact hb
  have hψ : Sub ψ (φ'.upto (h (i + 1)).n) := fun b bi hb => upto_of (g.dom b bi hb) (by rw [φlow (g.dom b bi hb)]; exact hb)
  have hψk : ∀ {k},i < k → k ≤ ops.size → Sub ψ (φ'.upto (h k).n) := fun {k} hik hkm b bi hb => sub_upto (Sub.refl _) (R.mono hik hkm) b bi (hψ b bi hb)
  have upw : ∀ {b bi},φ b = some bi → (h (i + 1)).n ≤ b → b ∉ (M i).writes := fun {b bi} hb hge hw => by
    rcases I.dom b bi hb with h3 | ⟨j,h3,h4,h5,h6⟩
    · have := R.mono (Nat.zero_le (i + 1)) hr.lt; omega
    · have hij : i < j := by
        rcases Nat.lt_trichotomy i j with hlt | rfl | hlt
        · exact hlt
        · exact absurd h4 hr.out
        · have := R.mono (i := j + 1) (k := i) (by omega) hle; omega
      rcases R.clash i j hr.lt h3 (by omega) with h7 | h7 | h7
      · rw [h7] at hw; cases hw
      · have := (hr.before R.drawn I.closed h7).1.2 h4; omega
      · have e := R.stp h3
        unfold besides at h7
        split at h7
        · have := List.all_eq_true.1 h7 b hw
          rw [e.2.1,e.2.2] at this
          simp at this
          omega
        · rename_i hpu
          have : (h (j + 1)).n = (h j).n := by
            have hoj : ops[j]? = some ops[j] := Array.getElem?_eq_getElem h3
            rcases R.step j _ hoj with ⟨_,_,e,_⟩ | ⟨_,v,l1,hv,_,em⟩
            · rw [e]
            · have hkd : kindOf ops[j].op = .pure := by rw [em] at hpu; exact hpu
              unfold opV at hv
              rw [hkd] at hv
              obtain ⟨x,_,e⟩ := Option.map_eq_some_iff.1 hv
              have e2 : h j = h (j + 1) := congrArg (fun q => q.2.1) e
              rw [← e2]
          omega
        · cases h7
  have notw : ∀ {b k},b ∉ (M i).writes → AgB ops.size M (S.setIfInBounds i true) k b → AgB ops.size M S k b := fun {b k} hw ha j hj hb => by
    have h1 := ha j hj hb
    rw [in_set hi] at h1
    rw [h1]
    exact ⟨fun h => h.resolve_right fun e => hw (by rw [← e]; exact hb),.inl⟩
  -- what lies below is what the operation left
  have low : ∀ {b k},b < (h (i + 1)).n → k ≤ ops.size → b < (h k).n → AgB ops.size M (S.setIfInBounds i true) k b → (h k).get b = (h (i + 1)).get b ∧ ((b < (h i).n ∧ b ∉ (M i).writes ∧ AgB ops.size M S k b) ∨ i < k) := by
    intro b k hb hkm hbk ha
    rcases Nat.lt_or_ge b (h i).n with h1 | h1
    · by_cases hw : b ∈ (M i).writes
      · have hik : i < k := (ha i hr.lt hw).2 ((in_set hi).2 (.inr rfl))
        refine ⟨R.still hik hkm hb fun j h3 h4 hj => ?_,.inr hik⟩
        have h5 := (ha j (by omega) hj).1 h4
        rw [in_set hi] at h5
        have := (hag b j (by omega) hj).2 (h5.resolve_right (by omega))
        omega
      · have ha' := notw hw ha
        refine ⟨?_,.inl ⟨h1,hw,ha'⟩⟩
        rw [R.same_now hkm hle hbk h1 ha' (hag b),(R.stp hr.lt).1.same b h1 hw]
    · obtain ⟨hik,hst⟩ := new_still R I hr (by rw [hk]; simp) h1 hb hkm hbk ha
      exact ⟨hst,.inr hik⟩
  have nowLow : ∀ {b bi ob},φ' b = some bi → b < (h (i + 1)).n → Now ops.size h M (S.setIfInBounds i true) b ob → ψ b = some bi ∧ (h (i + 1)).get b = some ob := by
    rintro b bi ob hb hlt ⟨k,h1,h2,h3,h4⟩
    exact ⟨by rw [← φlow hlt]; exact hb,by rw [← (low hlt h1 h2 h3).1]; exact h4⟩
  have nowUp : ∀ {b bi ob},φ' b = some bi → (h (i + 1)).n ≤ b → Now ops.size h M (S.setIfInBounds i true) b ob → φ b = some bi ∧ Now ops.size h M S b ob := by
    rintro b bi ob hb hge ⟨k,h1,h2,h3,h4⟩
    have hb' : φ b = some bi := by rw [← φup hge]; exact hb
    exact ⟨hb',k,h1,h2,notw (upw hb' hge) h3,h4⟩
  have nowAt : ∀ {b ob},b < (h i).n → (h i).get b = some ob → Now ops.size h M S b ob := fun {b ob} h1 h2 => ⟨i,hle,h1,hag b,h2⟩
  -- a block above keeps its place
  have apartOwn : ∀ {r},Owned (φ.upto (h i).n) (h i).get r → ∃ c ci oc,c < (h i).n ∧ φ c = some ci ∧ Now ops.size h M S c oc ∧ rwO oc = true ∧ ci.r = r := by
    rintro r ⟨c,ci,oc,hc,hoc,hrw,e⟩
    obtain ⟨h1,h2⟩ := upto_some hc
    exact ⟨c,ci,oc,h1,h2,nowAt h1 hoc,hrw,e⟩
  have apartUse : ∀ {r},Uses (φ.upto (h i).n) (h i).get r → ∃ c ci oc,c < (h i).n ∧ φ c = some ci ∧ Now ops.size h M S c oc ∧ liveO oc = true ∧ ci.r = r := by
    rintro r ⟨c,ci,oc,hc,hoc,hrw,e⟩
    obtain ⟨h1,h2⟩ := upto_some hc
    exact ⟨c,ci,oc,h1,h2,nowAt h1 hoc,hrw,e⟩
  refine ⟨φ',by simpa using I.hS,by rw [put_size]; exact I.hN,by rw [put_defers]; exact I.ds,hr.closed I.hS I.closed,fun b bi hb => ?_,fun b hb => ?_,tmp_step R I hr hs hT (hv.mono hψ),?_,?_,?_,?_⟩
  · rcases Nat.lt_or_ge b (h (i + 1)).n with h1 | h1
    · rcases Nat.lt_or_ge b (h i).n with h2 | h2
      · rw [φlow h1,lowv h2] at hb
        rcases I.dom b bi hb with h3 | ⟨j,h3,h4,h5⟩
        · exact .inl h3
        · exact .inr ⟨j,h3,(in_set hi).2 (.inl h4),h5⟩
      · exact .inr ⟨i,hr.lt,(in_set hi).2 (.inr rfl),h2,h1⟩
    · rw [φup h1] at hb
      rcases I.dom b bi hb with h3 | ⟨j,h3,h4,h5⟩
      · exact .inl h3
      · exact .inr ⟨j,h3,(in_set hi).2 (.inl h4),h5⟩
  · have := R.mono (Nat.zero_le i) hle
    rw [φlow (by omega),lowv (by omega)]
    exact I.old b hb
  · intro b bi k hkm hb hbk ha
    rcases Nat.lt_or_ge b (h (i + 1)).n with h1 | h1
    · obtain ⟨hst,hcase⟩ := low h1 hkm hbk ha
      have hbψ : ψ b = some bi := by rw [← φlow h1]; exact hb
      obtain ⟨ob,hob,hbr⟩ := hR.blk b bi hbψ
      refine ⟨ob,by rw [hst]; exact hob,?_⟩
      rcases hcase with ⟨h2,hw,ha'⟩ | hik
      · have hbφ : φ b = some bi := by rw [← lowv h2]; exact hbψ
        obtain ⟨ob2,h3,h4⟩ := I.blk b bi k hkm hbφ hbk ha'
        rw [hst,hob] at h3
        cases h3
        rcases Nat.lt_or_ge i k with h5 | h5
        · exact hbr.mono (hψk h5 hkm)
        · refine (h4.back (ψ := ψ) (fun c ci hc => ?_) hbr).mono (sub_upto hs (Nat.le_refl _))
          obtain ⟨h6,h7⟩ := upto_some hc
          have := R.mono h5 hle
          rw [lowv (by omega)]
          exact h7
      · exact hbr.mono (hψk hik hkm)
    · have hbφ : φ b = some bi := by rw [← φup h1]; exact hb
      have ha' := notw (upw hbφ h1) ha
      obtain ⟨ob,h2,h3⟩ := I.blk b bi k hkm hbφ hbk ha'
      refine ⟨ob,h2,?_⟩
      by_cases hl : liveO ob = true
      · refine (h3.same (f.keep _ (h3.lt hl) fun hown => ?_)).mono (sub_upto hs (Nat.le_refl _))
        obtain ⟨c,ci,oc,hc,hcφ,hcn,hrw,e⟩ := apartOwn hown
        exact I.inj c b ci bi oc ob hcφ hbφ hcn ⟨k,hkm,hbk,ha',h2⟩ (by omega) hrw hl e
      · cases ob <;> simp [liveO] at hl
        exact .dead
  · intro b c bi ci ob oc hb hc hnb hnc hne hrw hl e
    rcases Nat.lt_or_ge b (h (i + 1)).n with h1 | h1
    · obtain ⟨hb1,hb2⟩ := nowLow hb h1 hnb
      rcases Nat.lt_or_ge c (h (i + 1)).n with h2 | h2
      · obtain ⟨hc1,hc2⟩ := nowLow hc h2 hnc
        exact hR.inj b c bi ci ob oc hb1 hc1 hb2 hc2 hne hrw hl e
      · obtain ⟨hc1,hc2⟩ := nowUp hc h2 hnc
        have hlt := I.lt hc1 hc2 hl
        obtain ⟨d,di,od,hd1,hd2,hd3,hd4,hd5⟩ := apartOwn (g.own bi.r (by omega) ⟨b,bi,ob,hb1,hb2,hrw,rfl⟩)
        exact I.inj d c di ci od oc hd2 hc1 hd3 hc2 (by omega) hd4 hl (by omega)
    · obtain ⟨hb1,hb2⟩ := nowUp hb h1 hnb
      rcases Nat.lt_or_ge c (h (i + 1)).n with h2 | h2
      · obtain ⟨hc1,hc2⟩ := nowLow hc h2 hnc
        have hlt := I.lt hb1 hb2 (rw_live hrw)
        obtain ⟨d,di,od,hd1,hd2,hd3,hd4,hd5⟩ := apartUse (g.use ci.r (by omega) ⟨c,ci,oc,hc1,hc2,hl,rfl⟩)
        exact I.inj b d bi di ob od hb1 hd2 hb2 hd3 (by omega) hrw hd4 (by omega)
      · obtain ⟨hc1,hc2⟩ := nowUp hc h2 hnc
        exact I.inj b c bi ci ob oc hb1 hc1 hb2 hc2 hne hrw hl e
  · intro b bi ob hb hnb hlt
    rcases Nat.lt_or_ge b (h (i + 1)).n with h1 | h1
    · obtain ⟨hb1,hb2⟩ := nowLow hb h1 hnb
      have hsz := I.fr.size
      constructor
      · intro hrw
        obtain ⟨d,di,od,hd1,hd2,hd3,hd4,hd5⟩ := apartOwn (g.own bi.r (by omega) ⟨b,bi,ob,hb1,hb2,hrw,rfl⟩)
        rw [← hd5]
        exact (I.own d di od hd2 hd3 (by omega)).1 hd4
      · intro hl
        obtain ⟨d,di,od,hd1,hd2,hd3,hd4,hd5⟩ := apartUse (g.use bi.r (by omega) ⟨b,bi,ob,hb1,hb2,hl,rfl⟩)
        rw [← hd5]
        exact (I.own d di od hd2 hd3 (by omega)).2 hd4
    · obtain ⟨hb1,hb2⟩ := nowUp hb h1 hnb
      exact I.own b bi ob hb1 hb2 hlt
  · refine ⟨f.os.trans I.fr.os,f.tape.trans I.fr.tape,f.output.trans I.fr.output,Nat.le_trans I.fr.size f.size,fun r hr' ho => ?_⟩
    rw [f.keep r (Nat.lt_of_lt_of_le hr' I.fr.size) fun hown => ?_]
    · exact I.fr.keep r hr' ho
    · obtain ⟨d,di,od,hd1,hd2,hd3,hd4,hd5⟩ := apartOwn hown
      exact ho (by rw [← hd5]; exact (I.own d di od hd2 hd3 (by omega)).1 hd4)

theorem agT_of (R : Run p call ops N T h M) (I : Inv p ops N T h M φ0 w0 ds S a w φ) (hr : Ready ops S i o) {t : Nat} (ht : t ∈ namesOf ops.toList o) : AgT ops S i t := by
  intro j u hu hj
  by_cases e : j = i
  · subst e
    exact ⟨fun h => by omega,fun h => absurd h hr.out⟩
  · exact (hr.before R.drawn I.closed (R.drawn.slot j u t i o hu hj hr.at_ e ht).symm).1
theorem Inv.operands (R : Run p call ops N T h M) (I : Inv p ops N T h M φ0 w0 ds S a w φ) (hr : Ready ops S i o) : ∀ x ∈ o.op.operands.toList,VP (φ.upto (h i).n) (eval (T i) x) (a.eval x) := by
  intro x hx
  cases x with
  | tmp t =>
    refine I.tmp t i (Nat.le_of_lt hr.lt) (agT_of R I hr ?_)
    refine List.mem_append_right _ (List.mem_append_left _ ?_)
    exact List.mem_filterMap.2 ⟨.tmp t,hx,rfl⟩
  | const v => exact (VR.pure _ (opOk_operands (R.ok i o hr.at_) _ hx)).vp
  | global g => exact .inl rfl
  | func f => exact (VR.func f rfl rfl (fun i x y h => by simp at h) (fun i x y h => by simp at h)).vp
theorem Inv.guard (R : Run p call ops N T h M) (I : Inv p ops N T h M φ0 w0 ds S a w φ) (hr : Ready ops S i o) {j : Nat} {want : Bool} {d : Nat} (hg : o.guard = some (j,want)) (hs : guardSlot ops.toList j = some d) :
    VP (φ.upto (h i).n) (T i d) (a.tmps.getD d undef) := by
  refine I.tmp d i (Nat.le_of_lt hr.lt) (agT_of R I hr ?_)
  refine List.mem_append_right _ (List.mem_append_right _ ?_)
  simp [hg,hs]

theorem Inv.take (hF : Fits p P) (hcall : CallSim p P call) (r : Option Nat) (R : Run p call ops N T h M) (I : Inv p ops N T h M φ0 w0 ds S a w φ) (hr : Ready ops S i o) {K : Act → World → Prop} {Q : Exit → Act → World → Prop}
    (hK : ∀ a' w' φ',Inv p ops N T h M φ0 w0 ds (S.setIfInBounds i true) a' w' φ' → K a' w') : wpOpIn (fence r) 0 P ops Q i K a w := by
  unfold wpOpIn
  rw [hr.at_]
  simp only
  rcases R.step i o hr.at_ with ⟨hw,hT,hh,hm⟩ | ⟨hw,v,l1,hv,hT,hm⟩
  · rw [wanted_sim (fun j _ d hg hs => I.guard R hr hg hs) hw]
    simp only [Bool.false_eq_true,if_false]
    exact ⟨fun _ _ => trivial,hK _ _ _ (I.quiet R hr hT vr_ud.vp (by rw [hm]))⟩
  · rw [wanted_sim (fun j _ d hg hs => I.guard R hr hg hs) hw]
    simp only [if_true]
    have hE := I.operands R hr
    have hd : Dom (φ.upto (h i).n) (h i).n := fun b bi hb => (upto_some hb).1
    by_cases hk : (M i).k = .heavy
    · exact oper_sim hF hcall r (I.rel R hr hk) hd o hv hE fun v' w' hp => by
        obtain ⟨φ',hI⟩ := I.heavy R hr hk hT hp
        exact hK _ _ _ hI
    · refine ⟨fun _ _ => trivial,?_⟩
      rw [Oper.semAt_eq _ _ _ (opV_not_defer hv)]
      have hkm : (M i).k = kindOf o.op := by rw [hm]
      unfold opV at hv
      split at hv
      · rename_i hkd
        obtain ⟨x,hx,e⟩ := Option.map_eq_some_iff.1 hv
        have e1 : x = v := congrArg (fun q => q.1) e
        have e2 : h i = h (i + 1) := congrArg (fun q => q.2.1) e
        have e3 : [] = l1 := congrArg (fun q => q.2.2) e
        subst e1
        have hwr : (M i).writes = [] := by rw [hm,← e3]
        obtain ⟨v',hrun,hvp⟩ := pure_sim (P := P) (w := w) hF o hkd hx hE (fun b hb bi hbi => by
          obtain ⟨h1,h2⟩ := upto_some hbi
          refine I.blk b bi i (Nat.le_of_lt hr.lt) h2 h1 fun j hj hjw => ?_
          by_cases e : j = i
          · subst e; rw [hwr] at hjw; cases hjw
          · rcases R.clash j i hj hr.lt e with h6 | h6 | h6
            · rw [h6] at hjw; cases hjw
            · exact (hr.before R.drawn I.closed h6.symm).1
            · unfold besides at h6
              rw [hkm,hkd] at h6
              have := List.all_eq_true.1 h6 b hjw
              have hrd : (M i).reads = readsOf (T i) o.op := by rw [hm]
              rw [hrd] at this
              simp [hb] at this)
        rw [hrun]
        exact hK _ _ _ (I.quiet R hr hT (by rw [← e2]; exact hvp) hwr)
      · rename_i hkd
        obtain ⟨⟨x,ob⟩,hx,e⟩ := Option.map_eq_some_iff.1 hv
        have e1 : x = v := congrArg (fun q => q.1) e
        have e2 : (h i).push ob = h (i + 1) := congrArg (fun q => q.2.1) e
        have e3 : [] = l1 := congrArg (fun q => q.2.2) e
        subst e1
        have hn : (φ.upto (h i).n) (h i).n = none := by simp [Emb.upto]
        obtain ⟨v',o',hrun,hl⟩ := alloc_sim (P := P) (w := w) hF hn o hx hE
        rw [hrun]
        obtain ⟨φ',hI⟩ := I.make R hr hT (by rw [hkm,hkd]) (by rw [hm,← e3]) e2.symm hl
        exact hK _ _ _ hI
      · rename_i hkd
        exact absurd (hkm.trans hkd) hk

theorem Inv.all (hF : Fits p P) (hcall : CallSim p P call) (r : Option Nat) (R : Run p call ops N T h M) {Q : Exit → Act → World → Prop}
    (hQ : ∀ S a w φ,Inv p ops N T h M φ0 w0 ds S a w φ → (∀ i,i < ops.size → In S i) → Q .normal a w) :
    ∀ (fuel : Nat) {S : Array Bool} {a : Act} {w : World} {φ : Emb},Inv p ops N T h M φ0 w0 ds S a w φ → S.toList.count true + fuel = ops.size → wpAnyIn (fence r) 0 P .any ops Q fuel S a w
  | 0,S,a,w,φ,I,hf => by
    have hall : ∀ i,i < ops.size → In S i := fun i hi => by
      have hl : S.toList.count true = S.toList.length := by rw [Array.length_toList,I.hS]; omega
      have := List.count_eq_length.1 hl
      have hi' : i < S.size := by rw [I.hS]; exact hi
      have h2 := this S[i] (by simp)
      unfold In
      rw [Array.getD_eq_getD_getElem?,Array.getElem?_eq_getElem hi']
      simp [← h2]
    refine ⟨?_,hQ S a w φ I hall⟩
    cases hrd : Region.ready .any ops S with
    | nil => rfl
    | cons i rest =>
      obtain ⟨o,hr⟩ := ready_of I.hS (i := i) (by rw [hrd]; simp)
      exact absurd (hall i hr.lt) hr.out
  | fuel + 1,S,a,w,φ,I,hf => by
    refine ⟨fun hn => hQ S a w φ I (ready_nil R.drawn I.hS hn),fun i hi => ?_⟩
    obtain ⟨o,hr⟩ := ready_of I.hS hi
    refine I.take hF hcall r R hr fun a' w' φ' I' => Inv.all hF hcall r R hQ fuel I' ?_
    have hi' : i < S.size := by rw [I.hS]; exact hr.lt
    have hfalse : S[i] = false := by
      have := hr.out
      unfold In at this
      rw [Array.getD_eq_getD_getElem?,Array.getElem?_eq_getElem hi'] at this
      simpa using this
    rw [Array.toList_setIfInBounds,List.count_set (by simpa using hi')]
    have e1 : S.toList[i]'(by simpa using hi') = false := by rw [Array.getElem_toList]; exact hfalse
    rw [e1]
    simp only [beq_iff_eq,Bool.false_eq_true,if_false,if_true,Nat.sub_zero,BEq.rfl]
    omega
end

section
variable {p : Pg} {P : Program}
theorem draw_sim (hF : Fits p P) {call : CallF} (hcall : CallSim p P call) (hlog : CallLog call) (r : Option Nat) {id : Nat} {ops : Array Oper} {N : Nat} {Q : Exit → Act → World → Prop} {T0 : Env} {h0 : H} {o : Out}
    (hok : ∀ o ∈ ops.toList,opOk N o = true) (hD : drawOk ops.toList = true) {φ : Emb} {w : World} {a : Act} (hh : region p call ops true T0 h0 = some o) (hR : Rel p φ h0.get w) (hd : Dom φ h0.n)
    (hE : ER φ T0 a.tmps) (hN : a.tmps.size = N) (K : ∀ a' w',a'.tmps.size = N → a'.defers = a.defers → After p φ h0 w o.T o.h a' w' → Q .normal a' w') :
    (Code.region id ops true).wpIn (fence r) 0 P Q a w := by
  unfold region at hh
  simp only [cond_true] at hh
  split at hh
  · cases hh
  rename_i T1 h1 ms he
  split at hh
  case isFalse => cases hh
  rename_i hcl
  cases hh
  obtain ⟨T,h,M,e1,e2,e3,e4,e5,e6⟩ := ops2_trace he
  simp only [List.nil_append] at e5
  have hlen : ops.toList.length = ops.size := Array.length_toList
  rw [hlen] at e3 e4 e5
  have R : Run p call ops N T h M := by
    refine ⟨drawn_of hD,fun i o ho => hok o (by simpa using Array.mem_of_getElem? ho),fun i o ho => e6 i o (by rw [Array.getElem?_toList]; exact ho),hlog,fun i j hi hj hij => ?_⟩
    have hM : ∀ k,k < ops.size → ms[k]? = some (M k) := fun k hk => by rw [e5]; simp [hk]
    rcases Bool.or_eq_true _ _ ▸ hcl with h1 | h1
    · left
      have h2 : logOf ms = [] := List.isEmpty_iff.1 h1
      have : M i ∈ ms := List.mem_of_getElem? (hM i hi)
      unfold logOf at h2
      exact List.flatMap_eq_nil_iff.1 h2 _ this
    · have hml : ms.length = ops.size := by rw [e5]; simp
      unfold clashFree at h1
      simp only [List.all_eq_true,List.mem_range] at h1
      have := h1 i (by omega) j (by omega)
      rw [hM i hi,hM j hj] at this
      simp only [Bool.or_eq_true,List.isEmpty_iff] at this
      rcases this with (((h | h) | h) | h) | h
      · exact .inl h
      · exact absurd (Nat.eq_of_beq_eq_true h) hij
      · exact .inr (.inl (.inl h))
      · exact .inr (.inl (.inr h))
      · exact .inr (.inr h)
  subst e1 e2
  refine wpIn_region_any hF.mixed (Inv.all hF hcall r R ?_ ops.size (Inv.start R hR hd hE hN) (by simp [List.count_replicate]))
  intro S a' w' φ' I hall
  have agB : ∀ b,AgB ops.size M S ops.size b := fun b j hj _ => ⟨fun _ => hall j hj,fun _ => hj⟩
  have agT : ∀ t,AgT ops S ops.size t := fun t j o ho _ => by
    have := (Array.getElem?_eq_some_iff.1 ho).1
    exact ⟨fun _ => hall j this,fun _ => this⟩
  have dom : ∀ b bi,φ' b = some bi → b < (h ops.size).n := fun b bi hb => by
    rcases I.dom b bi hb with h1 | ⟨j,h1,_,_,h2⟩
    · exact Nat.lt_of_lt_of_le h1 (R.mono (Nat.zero_le _) (Nat.le_refl _))
    · exact Nat.lt_of_lt_of_le h2 (R.mono h1 (Nat.le_refl _))
  have now : ∀ {b bi ob},φ' b = some bi → (h ops.size).get b = some ob → Now ops.size h M S b ob := fun {b bi ob} hb ho => ⟨ops.size,Nat.le_refl _,dom b bi hb,agB b,ho⟩
  refine K a' w' I.hN I.ds ⟨φ',⟨I.old,?_,?_,?_,?_⟩,I.fr,⟨?_,?_⟩,?_⟩
  · rw [← e4]; exact dom
  · rw [← e4]; exact R.mono (Nat.zero_le _) (Nat.le_refl _)
  · rintro q hq ⟨b,bi,ob,hb,hob,hrw,rfl⟩
    rw [← e4] at hob
    exact (I.own b bi ob hb (now hb hob) hq).1 hrw
  · rintro q hq ⟨b,bi,ob,hb,hob,hl,rfl⟩
    rw [← e4] at hob
    exact (I.own b bi ob hb (now hb hob) hq).2 hl
  · intro b bi hb
    rw [← e4]
    obtain ⟨ob,h1,h2⟩ := I.blk b bi ops.size (Nat.le_refl _) hb (dom b bi hb) (agB b)
    exact ⟨ob,h1,h2.mono (upto_sub _ _)⟩
  · intro b c bi ci ob oc hb hc hob hoc hne hrw hl
    rw [← e4] at hob hoc
    exact I.inj b c bi ci ob oc hb hc (now hb hob) (now hc hoc) hne hrw hl
  · intro t
    have := I.tmp t ops.size (Nat.le_refl _) (agT t)
    rw [e3] at this
    exact this.mono (upto_sub _ _)

theorem region_sim (hF : Fits p P) {call : CallF} (hcall : CallSim p P call) (hlog : CallLog call) (r : Option Nat) {id : Nat} {ops : Array Oper} {draw : Bool} {N : Nat} {Q : Exit → Act → World → Prop} {T0 : Env} {h0 : H} {o : Out}
    (hok : codeOk N (.region id ops draw) = true) {φ : Emb} {w : World} {a : Act} (hh : region p call ops draw T0 h0 = some o) (hR : Rel p φ h0.get w) (hd : Dom φ h0.n)
    (hE : ER φ T0 a.tmps) (hN : a.tmps.size = N) (K : ∀ a' w',a'.tmps.size = N → a'.defers = a.defers → After p φ h0 w o.T o.h a' w' → Q .normal a' w') :
    (Code.region id ops draw).wpIn (fence r) 0 P Q a w := by
  simp only [codeOk,Bool.and_eq_true,List.all_eq_true,Bool.or_eq_true,Bool.not_eq_true'] at hok
  cases draw
  · unfold region at hh
    simp only [cond_false] at hh
    split at hh
    · cases hh
    · rename_i T1 h1 lg he
      cases hh
      refine wpIn_region ?_
      rw [List.range_eq_range',← Array.length_toList]
      exact ops1_sim hF hcall r ops.toList 0 rfl he hR hd hE hN hok.1 K
  · exact draw_sim hF hcall hlog r hok.1 (hok.2.resolve_left (by simp)) hh hR hd hE hN K
end
end Go.L1


namespace Go.L1
open Go

theorem exists_least {q : Nat → Prop} (h : ∃ n,q n) : ∃ n,q n ∧ ∀ m,q m → n ≤ m := by
  obtain ⟨n,hn⟩ := h
  induction n using Nat.strongRecOn with
  | _ n ih =>
    by_cases hm : ∃ m,m < n ∧ q m
    · obtain ⟨m,h1,h2⟩ := hm
      exact ih m h1 h2
    · exact ⟨n,hn,fun m hqm => by
        rcases Nat.lt_or_ge m n with h | h
        · exact absurd ⟨m,h,hqm⟩ hm
        · exact h⟩
open Classical in
noncomputable def least (q : Nat → Prop) : Nat := if h : ∃ n,q n then Classical.choose (exists_least h) else 0
theorem least_spec {q : Nat → Prop} (h : ∃ n,q n) : q (least q) := by
  unfold least
  rw [dif_pos h]
  exact (Classical.choose_spec (exists_least h)).1
theorem least_le {q : Nat → Prop} {n : Nat} (h : q n) : least q ≤ n := by
  unfold least
  rw [dif_pos ⟨n,h⟩]
  exact (Classical.choose_spec (exists_least ⟨n,h⟩)).2 n h

def exOf : Ex → Exit
  | .normal => .normal
  | .exit id => .exit id
  | .ret => .ret

def Marks (s : Nat) (w : World) : List Deferred → Prop
  | [] => True
  | d :: ds => ∃ r,d = { target := .collected r,args := #[] } ∧ w.heap[r]? = some (.deferred (some [])) ∧ s ≤ r ∧ (∀ d' ∈ ds,d' ≠ { target := .collected r,args := #[] }) ∧ Marks s w ds

section
variable {p : Pg} {P : Program}

theorem not_owned {φ : Emb} {C : Cont} {w : World} (hR : Rel p φ C w) {r : Nat} {x : Option (List Deferred)} (h : w.heap[r]? = some (.deferred x)) : ¬ Uses φ C r := by
  rintro ⟨b,bi,ob,hb,hob,hl,rfl⟩
  obtain ⟨o2,h2,hr⟩ := hR.blk b bi hb
  rw [hob] at h2
  cases h2
  cases hr with
  | cells hi hes hisz hw => rw [h] at hw; cases hw
  | map hw => rw [h] at hw; cases hw
  | loop hw => rw [h] at hw; cases hw
  | dead => cases hl
theorem Owned.uses' {φ : Emb} {C : Cont} {r : Nat} (h : Owned φ C r) : Uses φ C r := h.uses
theorem Marks.keep {s : Nat} {φ : Emb} {C : Cont} {w w' : World} (hR : Rel p φ C w) (f : Fr φ C w w') : ∀ {ds : List Deferred},Marks s w ds → Marks s w' ds
  | [],_ => trivial
  | _ :: ds,⟨r,h1,h2,h3,h4,h5⟩ => ⟨r,h1,by
      rw [f.keep r (Array.getElem?_eq_some_iff.1 h2).1 (fun ho => not_owned hR h2 ho.uses)]
      exact h2,h3,h4,Marks.keep hR f h5⟩
theorem Marks.same {s : Nat} {w w' : World} (hw : ∀ r,r < w.heap.size → w'.heap[r]? = w.heap[r]?) : ∀ {ds : List Deferred},Marks s w ds → Marks s w' ds
  | [],_ => trivial
  | _ :: ds,⟨r,h1,h2,h3,h4,h5⟩ => ⟨r,h1,by rw [hw r (Array.getElem?_eq_some_iff.1 h2).1]; exact h2,h3,h4,Marks.same hw h5⟩
theorem Marks.lt {s : Nat} {w : World} : ∀ {ds : List Deferred},Marks s w ds → ∀ d ∈ ds,∃ r,d = { target := .collected r,args := #[] } ∧ r < w.heap.size
  | _ :: ds,⟨r,h1,h2,_,_,h5⟩,d,hd => by
    rcases List.mem_cons.1 hd with rfl | hd
    · exact ⟨r,h1,(Array.getElem?_eq_some_iff.1 h2).1⟩
    · exact Marks.lt h5 d hd

def Goes (p : Pg) (N s : Nat) (φ : Emb) (h : H) (w : World) (ex : Ex) (T1 : Env) (h1 : H) (e : Exit) (a' : Act) (w' : World) : Prop :=
  e = exOf ex ∧ a'.tmps.size = N ∧ Marks s w' a'.defers ∧ After p φ h w T1 h1 a' w'

theorem Goes.trans {N s : Nat} {φ φ1 : Emb} {h h1 h2 : H} {w w1 w2 : World} {ex : Ex} {T2 : Env} {e : Exit} {a2 : Act} (g : Gr φ h.get h.n w φ1 h1.get h1.n) (f : Fr φ h.get w w1)
    (h' : Goes p N s φ1 h1 w1 ex T2 h2 e a2 w2) : Goes p N s φ h w ex T2 h2 e a2 w2 := ⟨h'.1,h'.2.1,h'.2.2.1,After.trans g f h'.2.2.2⟩
theorem Goes.refl {N s : Nat} {φ : Emb} {h : H} {w : World} {T : Env} {a : Act} (ex : Ex) (hR : Rel p φ h.get w) (hd : Dom φ h.n) (hE : ER φ T a.tmps) (hN : a.tmps.size = N) (hm : Marks s w a.defers) :
    Goes p N s φ h w ex T h (exOf ex) a w := ⟨rfl,hN,hm,φ,Gr.refl w hd,Fr.refl _ _ _,hR,hE⟩

theorem er_ofList {φ : Emb} {T : Env} {t : Array Value} (hE : ER φ T t) : ∀ (L : List Nat),ER φ (Env.ofList L (T.vals L)) t
  | [] => fun _ => .inl rfl
  | l :: L => fun i => by
    have := er_ofList hE L i
    simp only [Env.vals,Env.ofList,List.headD_cons,List.tail_cons]
    cases hb : Nat.beq i l
    · exact this
    · have e := Nat.eq_of_beq_eq_true hb
      subst e
      exact hE i

theorem Goes.mask {N s : Nat} {φ : Emb} {h : H} {w : World} {ex : Ex} {T1 : Env} {h1 : H} {e : Exit} {a' : Act} {w' : World} (hg : Goes p N s φ h w ex T1 h1 e a' w') (L : List Nat) :
    Goes p N s φ h w ex (T1.only L) h1 e a' w' := by
  obtain ⟨he,h2,h3,φ',g,f,R,E⟩ := hg
  exact ⟨he,h2,h3,φ',g,f,R,er_ofList E L⟩
theorem Goes.maskN {N s : Nat} {φ : Emb} {h : H} {w : World} {o : Out} {e : Exit} {a' : Act} {w' : World} (hg : Goes p N s φ h w o.ex o.T o.h e a' w') (L : List Nat) :
    Goes p N s φ h w (maskN L o).ex (maskN L o).T (maskN L o).h e a' w' := by
  unfold L1.maskN
  split
  · exact hg.mask L
  · exact hg

theorem code_sim (hF : Fits p P) {call : CallF} (hcall : CallSim p P call) (hlog : CallLog call) {n : Nat} {f : Nat} {fn : Func} (hfn : p.fn f = some fn) {N s : Nat} (hNf : fn.ntmps = N) (r : Option Nat) :
    ∀ (c : Code),codeOk N c = true → (r ≠ none → noRange c = true) → ∀ {k : Nat} {T : Env} {h : H} {o : Out} {φ : Emb} {w : World} {a : Act},code p call (fun b => loopN b n) f c k T h = some o → Rel p φ h.get w → Dom φ h.n →
      ER φ T a.tmps → a.tmps.size = N → Marks s w a.defers → s ≤ w.heap.size → c.wpIn (fence r) 0 P (Goes p N s φ h w o.ex o.T o.h) a w := by
  intro c
  induction c with
  | skip =>
    intro hok hnr k T h o φ w a hh hR hd hE hN hm hs
    cases hh
    exact wpIn_skip (Goes.refl .normal hR hd hE hN hm)
  | region id ops draw =>
    intro hok hnr k T h o φ w a hh hR hd hE hN hm hs
    have hex : o.ex = .normal := by
      simp only [code] at hh
      unfold region at hh
      cases draw
      · simp only [cond_false] at hh
        split at hh
        · cases hh
        · cases hh; rfl
      · simp only [cond_true] at hh
        split at hh
        · cases hh
        · split at hh
          · cases hh; rfl
          · cases hh
    refine region_sim hF hcall hlog r hok hh hR hd hE hN fun a' w' h1 h2 h3 => ⟨by rw [hex]; rfl,h1,?_,h3⟩
    obtain ⟨φ',g,f',R',E'⟩ := h3
    rw [h2]
    exact hm.keep hR f'
  | seq x y ihx ihy =>
    intro hok hnr k T h o φ w a hh hR hd hE hN hm hs
    simp only [codeOk,Bool.and_eq_true] at hok
    simp only [noRange,Bool.and_eq_true] at hnr
    simp only [code] at hh
    split at hh
    · cases hh
    · rename_i o1 ho1
      refine wpIn_seq (wpIn_mono (ihx hok.1 (fun h => (hnr h).1) ho1 hR hd hE hN hm hs) fun e a1 w1 hg => ?_)
      obtain ⟨he,hN1,hm1,φ1,g1,f1,R1,E1⟩ := hg
      split at hh
      · rename_i hex
        split at hh
        · cases hh
        · rename_i o2 ho2
          cases hh
          rw [he,hex]
          show y.wpIn _ _ _ _ _ _
          refine wpIn_mono (ihy hok.2 (fun h => (hnr h).2) ho2 R1 g1.dom E1 hN1 hm1 (Nat.le_trans hs f1.size)) fun e a2 w2 hg => hg.trans g1 f1
      · rename_i hex
        cases hh
        have : e ≠ .normal := by
          rw [he]
          intro h0
          cases hx : o.ex <;> rw [hx] at h0 <;> simp [exOf] at h0
          exact hex hx
        have hgo : Goes p N s φ h w o.ex o.T o.h e a1 w1 := ⟨he,hN1,hm1,φ1,g1,f1,R1,E1⟩
        cases e <;> first | exact absurd rfl this | exact hgo
  | cond c x y ihx ihy =>
    intro hok hnr k T h o φ w a hh hR hd hE hN hm hs
    simp only [codeOk,Bool.and_eq_true] at hok
    simp only [noRange,Bool.and_eq_true] at hnr
    simp only [code] at hh
    split at hh
    · rename_i t ht
      have hv := eval_rel hE hok.1.1
      rw [ht] at hv
      obtain ⟨o1,ho1,rfl⟩ := Option.map_eq_some_iff.1 hh
      cases t
      · exact wpIn_mono (wpIn_cond_false hv.boolI (ihy hok.2 (fun h => (hnr h).2) ho1 hR hd hE hN hm hs)) fun _ _ _ hg => hg.maskN _
      · exact wpIn_mono (wpIn_cond_true hv.boolI (ihx hok.1.2 (fun h => (hnr h).1) ho1 hR hd hE hN hm hs)) fun _ _ _ hg => hg.maskN _
    · cases hh
  | block id b ih =>
    intro hok hnr k T h o φ w a hh hR hd hE hN hm hs
    simp only [code] at hh
    split at hh
    · cases hh
    · rename_i o1 ho1
      refine wpIn_block (wpIn_mono (ih hok hnr ho1 hR hd hE hN hm hs) fun e a1 w1 hg => ?_)
      obtain ⟨he,hN1,hm1,hA⟩ := hg
      subst he
      split at hh
      · rename_i id' hex
        split at hh
        · rename_i hid
          cases hh
          rw [hex]
          simp only [exOf,Exit.inBlock,hid,if_true]
          have hg : Goes p N s φ h w .normal o1.T o1.h .normal a1 w1 := ⟨rfl,hN1,hm1,hA⟩
          exact hg.mask _
        · rename_i hid
          cases hh
          rw [hex]
          simp only [exOf,Exit.inBlock,hid,if_false]
          exact ⟨rfl,hN1,hm1,hA⟩
      · rename_i hex
        cases hh
        rw [hex]
        have hg : Goes p N s φ h w .normal o1.T o1.h .normal a1 w1 := ⟨rfl,hN1,hm1,hA⟩
        have := hg.mask (p.live f k)
        simp only [mask,hex]
        exact this
      · rename_i hex
        cases hh
        rw [hex]
        exact ⟨rfl,hN1,hm1,hA⟩
  | loop b ih =>
    intro hok hnr k T h o φ w a hh hR hd hE hN hm hs
    simp only [code] at hh
    split at hh
    · cases hh
    · rename_i ol hol
      cases hh
      simp only
      obtain ⟨body,hbody⟩ : ∃ body : List Value → H → Option LOut,body = fun vs h => match code p call (fun b => loopN b n) f b (2 * k) (Env.ofList (p.live f k) vs) h with
        | none => none
        | some o => some ⟨o.ex,o.T.vals (p.live f k),o.h,o.lg⟩ := ⟨_,rfl⟩
      generalize p.live f k = L at *
      replace hol : loopN body n (T.vals L) h = some ol := by rw [hbody]; exact hol
      -- what holds at a round's start,k rounds at most to go
      let I : Nat → Act → World → Prop := fun k a1 w1 => ∃ (vs : List Value) (h1 : H) (φ1 : Emb) (o1 : LOut),loopN body k vs h1 = some o1 ∧ o1.ex = ol.ex ∧ o1.vs = ol.vs ∧ o1.h = ol.h ∧
        Gr φ h.get h.n w φ1 h1.get h1.n ∧ Fr φ h.get w w1 ∧ Rel p φ1 h1.get w1 ∧ ER φ1 (Env.ofList L vs) a1.tmps ∧ a1.tmps.size = N ∧ Marks s w1 a1.defers
      have h0 : I n a w := ⟨_,h,φ,ol,hol,rfl,rfl,rfl,Gr.refl w hd,Fr.refl _ _ _,hR,er_ofList hE L,hN,hm⟩
      refine wpIn_loop (fun a1 w1 => ∃ k,I k a1 w1) (fun a1 w1 => least fun k => I k a1 w1) ⟨n,h0⟩ fun a1 w1 hI => ?_
      obtain ⟨vs,h1,φ1,o1,hl,e1,e2,e3,g1,f1,R1,E1,N1,M1⟩ := least_spec hI
      generalize hk : (least fun k => I k a1 w1) = k at hl
      cases k with
      | zero => cases hl
      | succ k =>
        unfold loopN at hl
        split at hl
        · cases hl
        · rename_i o2 ho2
          rw [hbody] at ho2
          simp only at ho2
          split at ho2
          · cases ho2
          · rename_i o3 ho3
            cases ho2
            refine wpIn_mono (ih hok hnr ho3 R1 g1.dom E1 N1 M1 (Nat.le_trans hs f1.size)) fun e a2 w2 hg => ?_
            obtain ⟨he,N2,M2,φ2,g2,f2,R2,E2⟩ := hg
            simp only at hl
            have g := g1.trans f1.size g2
            have ff := f1.trans g1 f2
            split at hl
            · rename_i hex
              split at hl
              · cases hl
              · rename_i o4 ho4
                cases hl
                rw [he,hex]
                have hnext : I k a2 w2 := ⟨_,o3.h,φ2,o4,ho4,e1,e2,e3,g,ff,R2,er_ofList E2 L,N2,M2⟩
                refine ⟨⟨k,hnext⟩,?_⟩
                have := least_le (q := fun k => I k a2 w2) hnext
                omega
            · rename_i hex
              cases hl
              have hne : e ≠ .normal := by
                rw [he]
                intro h0
                cases hx : o3.ex <;> rw [hx] at h0 <;> simp [exOf] at h0
                exact hex hx
              simp only at e1 e2 e3
              have hgo : Goes p N s φ h w ol.ex (Env.ofList L ol.vs) ol.h e a2 w2 := by
                rw [← e1,← e2,← e3]
                exact ⟨he,N2,M2,φ2,g,ff,R2,er_ofList E2 L⟩
              cases e <;> first | exact absurd rfl hne | exact hgo
  | exit id =>
    intro hok hnr k T h o φ w a hh hR hd hE hN hm hs
    cases hh
    exact wpIn_exit (Goes.refl (.exit id) hR hd hE hN hm)
  | ret =>
    intro hok hnr k T h o φ w a hh hR hd hE hN hm hs
    cases hh
    exact wpIn_ret (Goes.refl .ret hR hd hE hN hm)
  | rangeFunc g ps asg body iha ihb =>
    intro hok hnr k T h o φ w a hh hR hd hE hN hm hs
    have hr : r = none := by
      cases r with
      | none => rfl
      | some l => exact absurd (hnr (by simp)) (by simp [noRange])
    subst hr
    simp only [codeOk,Bool.and_eq_true,List.all_eq_true] at hok
    obtain ⟨⟨⟨⟨⟨hok1,hok2⟩,hok3⟩,hok4⟩,hok5⟩,hok6⟩ := hok
    simp only [code] at hh
    split at hh
    case h_2 => cases hh
    rename_i gf first cap hg
    split at hh
    · cases hh
    rename_i v h1 lg hcl
    split at hh
    case h_2 => cases hh
    rename_i st pend f1 T1 ps1 asg1 body1 hget
    split at hh
    · cases hh
    rename_i hst
    split at hh
    · cases hh
    rename_i ex hex
    cases hh
    have hgv := eval_rel hE hok1
    rw [hg] at hgv
    obtain ⟨x',y',eg,hx,hy⟩ := hgv.funcI
    refine wpIn_rangeFunc fun bfn _ => ?_
    -- the record
    let rec0 : Loop := { state := .ready,pending := none,fn := bfn,tmps := a.tmps,params := ps,assign := asg,body := body,defers := w.heap.size }
    let w1 : World := (w.alloc (.deferred (some []))).alloc (.loop rec0)
    have hw1h : w1.heap = (w.heap.push (.deferred (some []))).push (.loop rec0) := rfl
    let bi : BI := ⟨w.heap.size + 1,0,0,0,0⟩
    have hw1s : w1.heap.size = w.heap.size + 2 := by rw [hw1h]; simp
    have hw1o : ∀ q,q < w.heap.size → w1.heap[q]? = w.heap[q]? := fun q hq => by rw [hw1h]; simp [Array.getElem?_push,Nat.ne_of_lt hq,Nat.ne_of_lt (Nat.lt_succ_of_lt hq)]
    have hw1d : w1.heap[w.heap.size]? = some (.deferred (some [])) := by rw [hw1h]; simp [Array.getElem?_push]
    have hw1l : w1.heap[w.heap.size + 1]? = some (.loop rec0) := by
      rw [hw1h,show w.heap.size + 1 = (w.heap.push (.deferred (some []))).size by simp]
      exact Array.getElem?_push_size
    have hnone : φ h.n = none := by
      cases hh : φ h.n with
      | none => rfl
      | some x => exact absurd (hd h.n x hh) (by omega)
    have hgetp : (h.push (.loop .ready none f T ps.toList asg body)).get = fun j => if j = h.n then some (.loop .ready none f T ps.toList asg body) else h.get j := by funext j; rw [H.get_push]
    have hsub : Sub φ (φ.put h.n bi) := Emb.sub_put hnone
    have hR1 : Rel p (φ.put h.n bi) (h.push (.loop .ready none f T ps.toList asg body)).get w1 := by
      rw [hgetp]
      refine hR.new hd (fun c ci oc hc hoc hl => ?_) (fun c ci oc hc hoc hl => hw1o _ (hR.lt hc hoc hl)) ?_
      · have := hR.lt hc hoc hl
        simp only [bi]; omega
      · exact .loop (fn := fn) hw1l hfn rfl (by rw [hNf]; exact List.all_eq_true.2 hok2) (by rw [hNf]; exact ⟨hok3,hok5⟩) (by rw [hNf]; exact ⟨hok4,hok6⟩) (by rw [hNf]; exact hN) (hE.mono hsub)
    have hd1 : Dom (φ.put h.n bi) (h.push (.loop .ready none f T ps.toList asg body)).n := fun b ci hb => by
      rw [H.n_push]
      by_cases e : b = h.n
      · omega
      · rw [Emb.put_ne e] at hb; have := hd b ci hb; omega
    have g1 : Gr φ h.get h.n w (φ.put h.n bi) (h.push (.loop .ready none f T ps.toList asg body)).get (h.push (.loop .ready none f T ps.toList asg body)).n := by
      rw [hgetp,H.n_push]
      exact Gr.new hd (fun hlt => by simp only [bi] at hlt; omega) fun _ _ h _ => h
    have fr1 : Fr φ h.get w w1 := ⟨rfl,rfl,rfl,by omega,fun q hq _ => hw1o q hq⟩
    have hargs : VPL (φ.put h.n bi) (first.toList ++ [Value.func (.yield h.n) #[] #[]] ++ cap.toList) (x' ++ #[Value.func (.yield (w.heap.size + 1)) #[] #[]] ++ y').toList := by
      simp only [Array.toList_append]
      refine (((hx.mono hsub).vpl.append ?_)).append (hy.mono hsub).vpl
      exact VPL.single (VR.yield (bi := bi) (Emb.put_self _ _ _)).vp
    have hmark : Marks s w1 ({ target := .collected w.heap.size,args := #[] } :: a.defers) := by
      refine ⟨_,rfl,hw1d,hs,fun d hdm e => ?_,hm.same hw1o⟩
      obtain ⟨q,hq,hlt⟩ := hm.lt d hdm
      rw [e] at hq
      injection hq with hq _
      injection hq with hq
      omega
    rcases hcall.fn _ _ _ _ _ _ hcl _ w1 _ hR1 hd1 hargs with ⟨v',w',_,_,hny⟩ | ⟨hrun,hc⟩
    · exact absurd (by simp) (hny h.n)
    · refine ⟨w.heap.size + 1,[{ target := .collected w.heap.size,args := #[] }],w1,{ target := .fn (.func gf) y',args := x' ++ #[Value.func (.yield (w.heap.size + 1)) #[] #[]] },w1,gf,
        x' ++ #[Value.func (.yield (w.heap.size + 1)) #[] #[]] ++ y',w1,run_enterLoop_outer bfn a.tmps ps asg body,?_,fun _ _ => trivial,?_,fun h => by simp [fence,Fence.wide] at h,?_⟩
      · show (Deferred.ofValue (a.eval g) _).run P w1 = _
        rw [eg]
        simp only [rangeCall,List.map_toArray,List.map_cons,List.map_nil,Deferred.ofValue,Sem.run_pure,Act.eval]
      · simp only [invoke]; exact hrun
      · refine CallsIn.atFence none (hc.mono fun e w3 => ?_)
        rintro ⟨v',rfl,φ2,g2,f2,R2,_⟩
        have hb2 : φ2 h.n = some bi := by rw [g2.old h.n (by rw [H.n_push]; omega)]; exact Emb.put_self _ _ _
        obtain ⟨ob,hob,hbr⟩ := R2.blk h.n bi hb2
        rw [hget] at hob
        cases hob
        cases hbr with
        | @loop _ _ _ _ _ _ _ f'' tmps'' params'' fn'' dd'' hw3 hfn3 hps3 hpl3 hasg3 hbody3 hN3 hT3 =>
          have hend := run_endLoop (P := P) hw3 hst
          refine ⟨pend,_,hend,?_⟩
          have hR4 : Rel p φ2 (h1.set h.n .dead).get (w3.putObj (w.heap.size + 1) (.loop { state := .exhausted,pending := pend,fn := f'',tmps := tmps'',params := params'',assign := asg1,body := body1,defers := dd'' })) :=
            R2.kill hb2 hget rfl rfl fun k hk => World.putObj_heap_other hk
          have hsetd : (h1.set h.n .dead).get = fun j => if j = h.n then some .dead else h1.get j := by funext j; exact H.get_set ..
          have fr4 : Fr φ2 h1.get w3 (w3.putObj (w.heap.size + 1) (.loop { state := .exhausted,pending := pend,fn := f'',tmps := tmps'',params := params'',assign := asg1,body := body1,defers := dd'' })) :=
            ⟨rfl,rfl,rfl,by simp,fun q _ ho => World.putObj_heap_other fun e => ho ⟨h.n,bi,_,hb2,hget,rfl,e.symm⟩⟩
          have g4 : Gr φ2 h1.get h1.n w3 φ2 (h1.set h.n .dead).get (h1.set h.n .dead).n :=
            ⟨fun _ _ => rfl,g2.dom,Nat.le_refl _,fun q _ ho => by rw [hsetd] at ho; exact owned_upd hget rfl ho,fun q _ ho => by rw [hsetd] at ho; exact uses_upd hget rfl ho⟩
          have gg := g1.trans fr1.size (g2.trans f2.size g4)
          have ff := fr1.trans g1 (f2.trans g2 fr4)
          have hA : ∀ e,e = exOf ex → Goes p N s φ h w ex T (h1.set h.n .dead) e { a with defers := [{ target := .collected w.heap.size,args := #[] }] ++ a.defers }
              (w3.putObj (w.heap.size + 1) (.loop { state := .exhausted,pending := pend,fn := f'',tmps := tmps'',params := params'',assign := asg1,body := body1,defers := dd'' })) := fun e he =>
            ⟨he,hN,(hmark.keep hR1 f2).keep R2 fr4,φ2,gg,ff,hR4,hE.mono (gg.sub hd)⟩
          cases pend with
          | none => cases hex; exact hA _ rfl
          | some c =>
            cases c <;> simp only [jumpEx,reduceCtorEq,Option.some.injEq] at hex
            · subst hex; exact wpIn_exit (hA _ rfl)
            · subst hex; exact wpIn_ret (hA _ rfl)
  | _ =>
    intro hok hnr k T h o φ w a hh
    cases hh
end
end Go.L1


namespace Go.L1
open Go

section
variable {p : Pg} {P : Program}

theorem run_enter {f : Nat} {fn : Func} {c : Code} (hf : P.funcs[f]? = some fn) (hn : (fn.name == "runtime.NumGoroutine") = false) (hb : fn.body = some c) (args : Array Value) (w : World) :
    (callFunc f args).run P w = .ok (.enter f args) w := by
  have h1 : fn.name ≠ "runtime.NumGoroutine" := by simpa using hn
  simp [callFunc,hf,h1,hb]

def resOf (tmps : Array Value) : ResultVar → Sem Value
  | .tmp t => pure (tmps.getD t undef)
  | .cell a t => do loadVar t (← asAddr (tmps.getD a undef))

theorem results_sim (hF : Fits p P) {T : Env} {h : H} {φ : Emb} {w : World} {tmps : Array Value} (hR : Rel p φ h.get w) (hE : ER φ T tmps) : ∀ {rs : List ResultVar} {vs : List Value},resultsV p T h rs = some vs →
    ∃ vs',(rs.mapM (resOf tmps)).run P w = .ok vs' w ∧ VL φ vs vs'
  | [],vs,hh => by cases hh; exact ⟨[],by simp,VL.nil φ⟩
  | .tmp t :: rs,vs,hh => by
    simp only [resultsV] at hh
    split at hh
    · cases hh
    · rename_i hp
      obtain ⟨l,hl,e⟩ := Option.map_eq_some_iff.1 hh
      cases e
      obtain ⟨vs',h1,h2⟩ := results_sim hF hR hE hl
      refine ⟨tmps.getD t undef :: vs',?_,VL.cons ((hE t).resolve_left (by simpa using hp)) h2⟩
      rw [List.mapM_cons]
      simp only [resOf,Sem.run_bind,Sem.run_pure,Result.andThen_ok,h1]
  | .cell a t :: rs,vs,hh => by
    simp only [resultsV] at hh
    obtain ⟨v,hv,hh⟩ := Option.bind_eq_some_iff.1 hh
    obtain ⟨i,hi,hv⟩ := Option.bind_eq_some_iff.1 hv
    obtain ⟨l,hl,e⟩ := Option.map_eq_some_iff.1 hh
    cases e
    obtain ⟨vs',h1,h2⟩ := results_sim hF hR hE hl
    obtain ⟨a',v',e1,e2,e3⟩ := rLoad_sim (P := P) (w := w) (hF.ty _ _ hi) hv (hE a) (fun b off bi _ hb => hR.blk b bi hb)
    refine ⟨v' :: vs',?_,VL.cons e3 h2⟩
    rw [List.mapM_cons]
    simp only [resOf,e1,asAddr,Sem.run_bind,Sem.run_pure,Result.andThen_ok,e2,h1]

theorem run_results (fn : Func) (tmps : Array Value) (w : World) : (results fn tmps).run P w = ((fn.results.toList.mapM (resOf tmps)).run P w).andThen fun vs w' => .ok (if h : vs.toArray.size = 1 then vs.toArray[0] else .tuple vs.toArray) w' := by
  have e : results fn tmps = (fn.results.mapM (resOf tmps)) >>= fun vs => pure (if h : vs.size = 1 then vs[0] else .tuple vs) := by
    unfold results
    congr 1
  rw [e,Array.mapM_eq_mapM_toList]
  simp only [Sem.run_bind,map_eq_pure_bind,Sem.run_pure]
  cases (fn.results.toList.mapM (resOf tmps)).run P w <;> rfl

theorem tupled_sim {φ : Emb} {vs vs' : List Value} (h : VL φ vs vs') : VR φ (tupled vs) (if h : vs'.toArray.size = 1 then vs'.toArray[0] else .tuple vs'.toArray) := by
  match vs,vs',h with
  | [v],[v'],h => exact h.of_cons.1
  | [],[],h => exact .tuple rfl (fun i x y hx => by simp at hx)
  | x :: y :: l,x' :: y' :: l',h =>
    simp only [tupled,List.size_toArray,List.length_cons]
    rw [dif_neg (by omega)]
    exact .tuple (by simpa using h.1) (by simpa using h.2)
  | [v],[],h => have := h.1; simp at this
  | [],[v],h => have := h.1; simp at this
  | [v],x :: y :: l,h => have := h.1; simp at this
  | x :: y :: l,[v],h => have := h.1; simp at this
  | [],x :: y :: l,h => have := h.1; simp at this
  | x :: y :: l,[],h => have := h.1; simp at this

theorem Marks.weak {s s' : Nat} (h : s' ≤ s) {w : World} : ∀ {ds : List Deferred},Marks s w ds → Marks s' w ds
  | [],_ => trivial
  | _ :: ds,⟨r,h1,h2,h3,h4,h5⟩ => ⟨r,h1,h2,Nat.le_trans h h3,h4,Marks.weak h h5⟩

theorem leaves_marks (hF : Fits p P) {fn : Func} {T : Env} {h : H} {φ : Emb} {tmps : Array Value} (hE : ER φ T tmps) {vs : List Value} (hv : resultsV p T h fn.results.toList = some vs) {s : Nat} {R : Ending → World → Prop} :
    ∀ {ds : List Deferred} {w : World},Rel p φ h.get w → Marks s w ds →
      (∀ v' w',w'.os = w.os → w'.tape = w.tape → w'.output = w.output → w'.heap.size = w.heap.size → (∀ r,r < s → w'.heap[r]? = w.heap[r]?) → Rel p φ h.get w' → VR φ (tupled vs) v' → R (.returned v') w') →
      LeavesInM Fence.wide 0 P fn tmps R ds .returning w
  | [],w,hR,_,K => by
    obtain ⟨vs',h1,h2⟩ := results_sim (P := P) hF hR hE hv
    refine ⟨_,?_,K _ w rfl rfl rfl rfl (fun _ _ => rfl) hR (tupled_sim h2)⟩
    rw [run_results,h1]
    rfl
  | d :: ds,w,hR,hm,K => by
    obtain ⟨r,hd,hw,hs,hdist,hrest⟩ := hm
    subst hd
    refine ⟨by simp,.inl ⟨r,_,rfl,run_takeDeferred hw,?_⟩⟩
    have hoth : ∀ k,k ≠ r → (w.putObj r (.deferred none)).heap[k]? = w.heap[k]? := fun k hk => World.putObj_heap_other hk
    have hR' : Rel p φ h.get (w.putObj r (.deferred none)) := by
      refine ⟨fun b bi hb => ?_,hR.inj⟩
      obtain ⟨ob,h1,h2⟩ := hR.blk b bi hb
      refine ⟨ob,h1,?_⟩
      by_cases hl : liveO ob = true
      · exact h2.same (hoth _ fun e => not_owned hR hw ⟨b,bi,ob,hb,h1,hl,e⟩)
      · cases ob <;> simp [liveO] at hl
        exact .dead
    have hm' : ∀ {ds : List Deferred},(∀ d' ∈ ds,d' ≠ { target := .collected r,args := #[] }) → Marks s w ds → Marks s (w.putObj r (.deferred none)) ds := by
      intro ds
      induction ds with
      | nil => intro _ _; trivial
      | cons d ds ih =>
        rintro hdd ⟨q,h1,h2,h3,h4,h5⟩
        refine ⟨q,h1,?_,h3,h4,ih (fun d' hd' => hdd d' (by simp [hd'])) h5⟩
        rw [hoth q (fun e => hdd d (by simp) (by rw [h1,e]))]
        exact h2
    refine leaves_marks hF hE hv hR' (hm' hdist hrest) fun v' w' a1 a2 a3 a4 a5 a6 a7 => K v' w' a1 a2 a3 (by rw [a4]; simp) (fun k hk => ?_) a6 a7
    rw [a5 k hk]
    exact hoth k (by omega)

theorem settle_post {h0 h1 : H} {lg : List Nat} (hs : Stp h0 h1 lg) {φ : Emb} {w w' : World} {v v' : Value} (hR : Rel p φ h0.get w) (hd : Dom φ h0.n) (hp : Post p φ h0 w v h1 v' w') {x : Value} {h2 : H} {l2 : List Nat}
    (he : settle h0 v h1 lg = (x,h2,l2)) : Post p φ h0 w x h2 v' w' := by
  unfold settle at he
  simp only at he
  split at he
  · rename_i hc
    cases he
    simp only [Bool.and_eq_true,List.isEmpty_iff] at hc
    obtain ⟨φ1,g,f,R1,hv⟩ := hp
    have hsame : ∀ b,b < h0.n → h1.get b = h0.get b := fun b hb => hs.same b hb fun hm => by
      have : b ∈ lg.filter (· < h0.n) := List.mem_filter.2 ⟨hm,by simpa using hb⟩
      rw [hc.1] at this
      cases this
    refine ⟨φ,Gr.refl w hd,f,⟨fun b bi hb => ?_,hR.inj⟩,?_⟩
    · obtain ⟨ob,h2,h3⟩ := hR.blk b bi hb
      obtain ⟨o2,h4,h5⟩ := R1.blk b bi (g.sub hd b bi hb)
      rw [hsame b (hd b bi hb),h2] at h4
      cases h4
      exact ⟨ob,h2,h3.back (g.sub hd) h5⟩
    · rcases hv with hv | hv
      · exact .inl hv
      · exact (hv.low (φ := φ) (n := h0.n) (fun b bi hb h6 => by rw [g.old b hb] at h6; exact h6) hc.2).vp
  · cases he
    exact hp

theorem er_args {φ : Emb} {args : List Value} {args' : List Value} (h : VPL φ args args') (N : Nat) : ER φ (Env.args 0 args) (args'.toArray ++ Array.replicate N undef) := by
  have key : ∀ (l : List Value) (k i : Nat),Env.args k l i = if k ≤ i then (l[i - k]?).getD poison else poison := by
    intro l
    induction l with
    | nil => intro k i; simp [Env.args,Env.nil]
    | cons x l ih =>
      intro k i
      simp only [Env.args]
      by_cases e : i = k
      · subst e; simp
      · have : Nat.beq i k = false := by rw [Bool.eq_false_iff]; intro hb; exact e (Nat.eq_of_beq_eq_true hb)
        rw [this,cond_false,ih]
        by_cases hk : k ≤ i
        · rw [if_pos hk,if_pos (by omega),show i - k = (i - (k + 1)) + 1 by omega]; simp
        · rw [if_neg hk,if_neg (by omega)]
  intro i
  rw [key,if_pos (Nat.zero_le _),Nat.sub_zero]
  cases hx : args[i]? with
  | none => exact .inl rfl
  | some x =>
    have hi : i < args'.length := h.1 ▸ (List.getElem?_eq_some_iff.1 hx).1
    have hy := List.getElem?_eq_getElem hi
    rw [Array.getD_eq_getD_getElem?,Array.getElem?_append_left (by simpa using hi)]
    simp only [List.getElem?_toArray,hy,Option.getD_some]
    exact h.2 i x _ hx hy

def SpecSim (p : Pg) (P : Program) : Prop := ∀ f s,p.spec f = some s → ∀ args h v h1 lg,s args h = some (v,h1,lg) →
  ∀ φ w (args' : Array Value),Rel p φ h.get w → Dom φ h.n → VPL φ args args'.toList →
    (∃ v' w',(callFunc f args').run P w = .ok (.value v') w' ∧ Post p φ h w v h1 v' w' ∧ NoYield args) ∨
    ((callFunc f args').run P w = .ok (.enter f args') w ∧ CallsIn Fence.wide 0 P f args' w fun e w' => ∃ v',e = .returned v' ∧ Post p φ h w v h1 v' w')

theorem cmpB_eq : ∀ (a b : List UInt8),cmpB a b = Lib.compareBytes a b
  | [],[] => rfl
  | [],_ :: _ => rfl
  | _ :: _,[] => by simp [cmpB,bytesLess,Lib.compareBytes]
  | x :: a,y :: b => by
    have ih := cmpB_eq a b
    unfold cmpB at ih ⊢
    unfold Lib.compareBytes
    rw [← ih]
    simp only [bytesLess]
    by_cases hlt : x < y
    · simp [hlt]
    · by_cases hgt : y < x
      · have hne : x ≠ y := by rintro rfl; exact UInt8.lt_irrefl x hgt
        simp [hlt,hgt,hne]
      · have he : x = y := UInt8.le_antisymm (UInt8.not_lt.1 hgt) (UInt8.not_lt.1 hlt)
        subst he
        simp

theorem funcV_sim (hF : Fits p P) (hsp : SpecSim p P) {call : CallF} (hcall : CallSim p P call) (hlog : CallLog call) (n : Nat) {f : Nat} {args : List Value} {h : H} {v : Value} {h1 : H} {lg : List Nat}
    (hh : funcV p call (fun b => loopN b n) f args h = some (v,h1,lg)) {φ : Emb} {w : World} {args' : Array Value} (hR : Rel p φ h.get w) (hd : Dom φ h.n) (ha : VPL φ args args'.toList) :
    (∃ v' w',(callFunc f args').run P w = .ok (.value v') w' ∧ Post p φ h w v h1 v' w' ∧ NoYield args) ∨
    ((callFunc f args').run P w = .ok (.enter f args') w ∧ CallsIn Fence.wide 0 P f args' w fun e w' => ∃ v',e = .returned v' ∧ Post p φ h w v h1 v' w') := by
  unfold funcV at hh
  split at hh
  · rename_i s hs
    exact hsp f s hs _ _ _ _ _ hh φ w args' hR hd ha
  split at hh
  · cases hh
  rename_i fn hfn
  obtain ⟨hPf,hok⟩ := hF.fn f fn hfn
  simp only [funcOk,Bool.and_eq_true,Bool.not_eq_true'] at hok
  split at hh
  · rename_i hb
    left
    unfold ext at hh
    split at hh
    · rename_i hname
      split at hh
      · rename_i sa sb
        cases hh
        obtain ⟨he1,he2⟩ := hF.ext f fn hfn hb hname
        have hargs : args' = #[.string sa,.string sb] := by
          have hl := ha.1
          obtain ⟨l⟩ := args'
          simp only at ha hl
          match l,hl with
          | [y1,y2],_ =>
            have e1 := (ha.2 0 _ _ rfl rfl).strI
            have e2 := (ha.2 1 _ _ rfl rfl).strI
            rw [e1,e2]
        refine ⟨.int .i64 (cmpB (bl sa) (bl sb)),w,?_,⟨φ,Gr.refl w hd,Fr.refl _ _ _,hR,(VR.int _ _).vp⟩,fun l hl => by simp at hl⟩
        rw [run_callFunc_extern hPf hok.1 (by simp [hb]) he1 he2,hargs,Lib.run_compareString,cmpB_eq]
        rfl
      · cases hh
    · cases hh
  · rename_i c hb
    split at hh
    case isFalse => cases hh
    rename_i hlen
    split at hh
    · cases hh
    rename_i o ho
    split at hh
    · cases hh
    rename_i hex
    split at hh
    · cases hh
    rename_i vs hvs
    right
    rw [hb] at hok
    simp only [Bool.and_eq_true] at hok
    refine ⟨run_enter hPf hok.1 hb args' w,?_⟩
    have hsz : args'.size = args.length := by rw [ha.1]; simp
    have hE0 : ER φ (Env.args 0 args) (args' ++ Array.replicate (fn.ntmps - args'.size) undef) := er_args ha _
    refine callsIn_of_wp_marks hPf hb trivial (wpIn_mono (code_sim hF hcall hlog hfn rfl none c hok.2.1 (fun h => absurd rfl h) ho hR hd hE0 (s := w.heap.size) (by simp; omega) trivial (Nat.le_refl _)) fun e a' w' hg => ?_)
    obtain ⟨he,hN,hm,φ',g,f',R',E'⟩ := hg
    have hlv : LeavesInM Fence.wide 0 P fn a'.tmps (fun e w' => ∃ v',e = .returned v' ∧ Post p φ h w v h1 v' w') a'.defers .returning w' := by
      refine leaves_marks hF E' hvs R' hm fun v' w2 a1 a2 a3 a4 a5 a6 a7 => ⟨v',rfl,?_⟩
      refine settle_post (code_stp hlog (loopN_log n) c ho) hR hd ?_ (Option.some.inj hh)
      exact ⟨φ',g,⟨a1.trans f'.os,a2.trans f'.tape,a3.trans f'.output,by rw [a4]; exact f'.size,fun r hr hor => (a5 r hr).trans (f'.keep r hr hor)⟩,a6,a7.vp⟩
    cases hx : o.ex with
    | normal => rw [he,hx]; exact hlv
    | ret => rw [he,hx]; exact hlv
    | exit id => exact absurd hx (hex id)

theorem er_sets {φ : Emb} : ∀ {ps : List Nat} {args args' : List Value} {T : Env} {t : Array Value},ER φ T t → VPL φ args args' → (∀ x ∈ ps,x < t.size) →
    ER φ (T.sets ps args) ((ps.zip args').foldl (fun t (q,v) => t.setIfInBounds q v) t)
  | [],args,args',T,t,hE,_,_ => by
    have e : T.sets [] args = T := by cases args <;> rfl
    rw [e]; exact hE
  | q :: ps,[],[],T,t,hE,_,_ => hE
  | q :: ps,x :: l,y :: l',T,t,hE,ha,hp => by
    simp only [Env.sets,List.zip_cons_cons,List.foldl_cons]
    refine er_sets ?_ ⟨by have := ha.1; simpa using this,fun i a b h1 h2 => ha.2 (i + 1) a b h1 h2⟩ (fun z hz => by simpa using hp z (by simp [hz]))
    have hq := hp q (by simp)
    have hv := ha.2 0 x y rfl rfl
    have := er_put (a := { tmps := t,defers := [] }) hE (d := some q) hv (Nat.ble_eq_true_of_le hq)
    exact this
  | q :: ps,[],y :: l',T,t,hE,ha,_ => by have := ha.1; simp at this
  | q :: ps,x :: l,[],T,t,hE,ha,_ => by have := ha.1; simp at this

theorem foldl_size : ∀ (l : List (Nat × Value)) (t : Array Value),(l.foldl (fun t (q,v) => t.setIfInBounds q v) t).size = t.size
  | [],t => rfl
  | (q,v) :: l,t => by rw [List.foldl_cons,foldl_size l]; simp

theorem roundV_sim (hF : Fits p P) {call : CallF} (hcall : CallSim p P call) (hlog : CallLog call) (n : Nat) {l : Nat} {args : List Value} {h : H} {v : Value} {h1 : H} {lg : List Nat}
    (hh : roundV p call (fun b => loopN b n) l args h = some (v,h1,lg)) {φ : Emb} {w : World} {args' : Array Value} {bi : BI} (hR : Rel p φ h.get w) (hd : Dom φ h.n) (ha : VPL φ args args'.toList) (hb : φ l = some bi) :
    ∃ f tmps asg body,(Instr.yield bi.r args').run P w = .ok (.round bi.r f tmps asg body) w ∧
      RoundIn Fence.wide 0 P bi.r f tmps asg body w fun e w' => ∃ v',e = .returned v' ∧ Post p φ h w v h1 v' w' := by
  unfold roundV at hh
  split at hh
  case h_2 => cases hh
  rename_i f T ps asg body hget
  split at hh
  case isFalse => cases hh
  rename_i hlen
  split at hh
  · cases hh
  rename_i o ho
  split at hh
  case isFalse => cases hh
  rename_i hex
  split at hh
  case h_2 => cases hh
  rename_i f2 T2 ps2 asg2 body2 hget2
  split at hh
  · cases hh
  rename_i o2 ho2
  split at hh
  case h_2 => cases hh
  rename_i f3 T3 ps3 asg3 body3 hget3
  cases hh
  obtain ⟨ob,hob,hbr⟩ := hR.blk l bi hb
  rw [hget] at hob
  cases hob
  cases hbr with
  | @loop _ _ _ _ _ _ _ f' tmps params fn dd hw hfn hps hpl hasg hbody hN hT =>
    subst hps
    have hsz : args'.size = params.size := by
      have := ha.1
      rw [Array.length_toList] at hlen
      rw [← this.symm.trans hlen.symm |>.symm.symm] <;> simp
    refine ⟨_,_,_,_,run_yield hw (by simpa using hsz),?_⟩
    have htm : ((params.zip args').foldl (fun tmps (t,a) => tmps.setIfInBounds t a) tmps) = (params.toList.zip args'.toList).foldl (fun t (q,v) => t.setIfInBounds q v) tmps := by
      rw [← Array.foldl_toList,Array.toList_zip]
    simp only
    rw [htm]
    have hE0 : ER φ (T.sets params.toList args) ((params.toList.zip args'.toList).foldl (fun t (q,v) => t.setIfInBounds q v) tmps) :=
      er_sets hT ha fun x hx => by rw [hN]; exact Nat.le_of_ble_eq_true (List.all_eq_true.1 hpl x hx)
    have hN0 : ((params.toList.zip args'.toList).foldl (fun t (q,v) => t.setIfInBounds q v) tmps).size = fn.ntmps := by rw [foldl_size,hN]
    refine roundIn_of_wpIn trivial ?_
    refine wpIn_mono (code_sim (a := { tmps := _,defers := [] }) hF hcall hlog hfn rfl (some bi.r) asg hasg.1 (fun _ => hasg.2) ho hR hd hE0 hN0 (s := w.heap.size) trivial (Nat.le_refl _)) fun e a1 w1 hg => ?_
    obtain ⟨he,N1,M1,φ1,g1,fr1,R1,E1⟩ := hg
    rw [he,hex]
    -- the round begins
    have hb1 : φ1 l = some bi := g1.sub hd l bi hb
    obtain ⟨ob1,hob1,hbr1⟩ := R1.blk l bi hb1
    rw [hget2] at hob1
    cases hob1
    cases hbr1 with
    | @loop _ _ _ _ _ _ _ f2' tmps2 params2 fn2 dd2 hw2 hfn2 hps2 hpl2 hasg2 hbody2 hN2 hT2 =>
      refine ⟨_,run_beginRound hw2 rfl,?_⟩
      have hset2 : (o.h.set l (.loop .busy none f2 T2 ps2 asg2 body2)).get = fun j => if j = l then some (.loop .busy none f2 T2 ps2 asg2 body2) else o.h.get j := by funext j; exact H.get_set ..
      have hlt2 : bi.r < w1.heap.size := (Array.getElem?_eq_some_iff.1 hw2).1
      simp only
      generalize hw1' : w1.putObj bi.r (.loop { state := .busy,pending := none,fn := f2',tmps := tmps2,params := params2,assign := asg2,body := body2,defers := dd2 }) = w1'
      have hput1 : w1'.heap[bi.r]? = some (.loop { state := .busy,pending := none,fn := f2',tmps := tmps2,params := params2,assign := asg2,body := body2,defers := dd2 }) := by
        rw [← hw1']; exact World.putObj_heap_same hlt2
      have hoth1 : ∀ k,k ≠ bi.r → w1'.heap[k]? = w1.heap[k]? := fun k hk => by rw [← hw1']; exact World.putObj_heap_other hk
      have R1' : Rel p φ1 (o.h.set l (.loop .busy none f2 T2 ps2 asg2 body2)).get w1' := by
        rw [hset2]
        exact R1.upd hb1 hget2 rfl rfl hoth1 (.loop hput1 hfn2 hps2 hpl2 hasg2 hbody2 hN2 hT2)
      have g1' : Gr φ1 o.h.get o.h.n w1 φ1 (o.h.set l (.loop .busy none f2 T2 ps2 asg2 body2)).get (o.h.set l (.loop .busy none f2 T2 ps2 asg2 body2)).n :=
        ⟨fun _ _ => rfl,g1.dom,Nat.le_refl _,fun q _ ho => by rw [hset2] at ho; exact owned_upd hget2 rfl ho,fun q _ ho => by rw [hset2] at ho; exact uses_upd hget2 rfl ho⟩
      have fr1' : Fr φ1 o.h.get w1 w1' := ⟨by rw [← hw1']; rfl,by rw [← hw1']; rfl,by rw [← hw1']; rfl,by rw [← hw1']; simp,fun q _ ho => hoth1 q fun e => ho ⟨l,bi,_,hb1,hget2,rfl,e.symm⟩⟩
      refine wpIn_mono (code_sim hF hcall hlog hfn rfl (some bi.r) body hbody.1 (fun _ => hbody.2) ho2 R1' g1.dom E1 N1 (s := 0) (M1.weak (Nat.zero_le _) |>.keep R1 fr1') (Nat.zero_le _)) fun e a2 w2 hg => ?_
      obtain ⟨he2,N2,M2,φ2,g2,fr2,R2,E2⟩ := hg
      have gg := g1.trans fr1.size (g1'.trans fr1'.size g2)
      have ff := fr1.trans g1 (fr1'.trans g1' fr2)
      have hb2 : φ2 l = some bi := g2.sub g1.dom l bi hb1
      obtain ⟨ob2,hob2,hbr2⟩ := R2.blk l bi hb2
      rw [hget3] at hob2
      cases hob2
      cases hbr2 with
      | @loop _ _ _ _ _ _ _ f3' tmps3 params3 fn3 dd3 hw3 hfn3 hps3 hpl3 hasg3 hbody3 hN3 hT3 =>
        have hlt3 : bi.r < w2.heap.size := (Array.getElem?_eq_some_iff.1 hw3).1
        have fin : ∀ jump : Option Code,∀ w3,w3 = w2.putObj bi.r (.loop { state := if jump.isNone then .ready else .done,pending := jump,fn := f3',tmps := tmps3,params := params3,assign := asg3,body := body3,defers := dd3 }) →
            (endEx o2.ex) = (jump.isNone,jump,if jump.isNone then .ready else .done) →
            Post p φ h w (.bool (endEx o2.ex).1) (o2.h.set l (.loop (endEx o2.ex).2.2 (endEx o2.ex).2.1 f3 T3 ps3 asg3 body3)) (.bool jump.isNone) w3 := by
          intro jump w3 hw3e hend
          rw [hend]
          have hset3 : ∀ ob,(o2.h.set l ob).get = fun j => if j = l then some ob else o2.h.get j := fun ob => by funext j; exact H.get_set ..
          have hput : w3.heap[bi.r]? = some (.loop { state := if jump.isNone then .ready else .done,pending := jump,fn := f3',tmps := tmps3,params := params3,assign := asg3,body := body3,defers := dd3 }) := by
            rw [hw3e]; exact World.putObj_heap_same hlt3
          have hoth : ∀ k,k ≠ bi.r → w3.heap[k]? = w2.heap[k]? := fun k hk => by rw [hw3e]; exact World.putObj_heap_other hk
          have R3 : Rel p φ2 (o2.h.set l (.loop (if jump.isNone then .ready else .done) jump f3 T3 ps3 asg3 body3)).get w3 := by
            rw [hset3]
            exact R2.upd hb2 hget3 rfl rfl hoth (.loop hput hfn3 hps3 hpl3 hasg3 hbody3 hN3 hT3)
          have g3 : Gr φ2 o2.h.get o2.h.n w2 φ2 (o2.h.set l (.loop (if jump.isNone then .ready else .done) jump f3 T3 ps3 asg3 body3)).get o2.h.n :=
            ⟨fun _ _ => rfl,g2.dom,Nat.le_refl _,fun q _ ho => by rw [hset3] at ho; exact owned_upd hget3 rfl ho,fun q _ ho => by rw [hset3] at ho; exact uses_upd hget3 rfl ho⟩
          have fr3 : Fr φ2 o2.h.get w2 w3 := ⟨by rw [hw3e]; rfl,by rw [hw3e]; rfl,by rw [hw3e]; rfl,by rw [hw3e]; simp,fun q _ ho => hoth q fun e => ho ⟨l,bi,_,hb2,hget3,rfl,e.symm⟩⟩
          exact ⟨φ2,gg.trans ff.size g3,ff.trans gg fr3,R3,(VR.bool _).vp⟩
        cases hx : o2.ex with
        | normal =>
          rw [hx] at he2 fin
          rw [he2]
          exact ⟨_,_,run_endRound none hw3,_,rfl,fin none _ rfl rfl⟩
        | ret =>
          rw [hx] at he2 fin
          rw [he2]
          exact ⟨_,_,run_endRound (some .ret) hw3,_,rfl,fin (some .ret) _ rfl rfl⟩
        | exit id =>
          rw [hx] at he2 fin
          rw [he2]
          exact ⟨_,_,run_endRound (some (.exit id)) hw3,_,rfl,fin (some (.exit id)) _ rfl rfl⟩

theorem icall_sim (hF : Fits p P) (hsp : SpecSim p P) (hsl : SpecLog p) (n : Nat) : CallSim p P (icall p n) := by
  induction n with
  | zero => exact { fn := fun _ _ _ _ _ _ hh => by simp [icall] at hh,yd := fun _ _ _ _ _ _ hh => by simp [icall] at hh }
  | succ n ih =>
    exact { fn := fun _ _ _ _ _ _ hh _ _ _ hR hd ha => funcV_sim hF hsp ih (icall_stp hsl n) n hh hR hd ha
            yd := fun _ _ _ _ _ _ hh _ _ _ _ hR hd ha hb => roundV_sim hF ih (icall_stp hsl n) n hh hR hd ha hb }
end
end Go.L1
