/- Texts of a proof: no condition. -/
import Derived.Test.YtmhdgdehbkjhhaaGreatOneE
import Derived.Test.YtmhdgdehbkjhhaaGreatSeatSp
import Derived.Laws.Bits64
import Derived.KernelRfl
set_option autoImplicit true
set_option relaxedAutoImplicit true
set_option linter.all false
set_option linter.unusedVariables false
set_option linter.unusedSimpArgs false
namespace Go.L1
open Go
section
variable {ρ : Type}
def Rn (x : Option ρ) (Q : ρ → Prop) : Prop := ∃ r,x = some r ∧ Q r
theorem Rn.mono {x : Option ρ} {Q Q' : ρ → Prop} (h : Rn x Q) (i : ∀ r,Q r → Q' r) : Rn x Q' := by
  obtain ⟨r,e,q⟩ := h
  exact ⟨r,e,i r q⟩
theorem Rn.ret {r : ρ} {Q : ρ → Prop} (q : Q r) : Rn (some r) Q := ⟨r,rfl,q⟩
theorem Rn.up {x y : Option ρ} {Q : ρ → Prop} (i : ∀ r,x = some r → y = some r) (h : Rn x Q) : Rn y Q := by
  obtain ⟨r,e,q⟩ := h
  exact ⟨r,i r e,q⟩
theorem Rn.eq {x : Option ρ} {r : ρ} (h : Rn x (· = r)) : x = some r := by
  obtain ⟨_,e,rfl⟩ := h
  exact e
theorem Rn_ob {α : Type} {x : Option α} {f : α → Option ρ} {P : α → Prop} {Q : ρ → Prop} (h : Rn x P) (k : ∀ a,P a → Rn (f a) Q) : Rn (ob x f) Q := by
  obtain ⟨r,rfl,q⟩ := h
  exact k r q
theorem Rn_hv {x : Option (Value × H × List Nat)} {f : Value → H → List Nat → Option ρ} {P : Value × H × List Nat → Prop} {Q : ρ → Prop} (h : Rn x P) (k : ∀ v h1 lg,P (v,h1,lg) → Rn (f v h1 lg) Q) : Rn (hv x f) Q := by
  obtain ⟨⟨v,h1,lg⟩,rfl,q⟩ := h
  exact k v h1 lg q
@[congr] theorem Rn_congr {x y : Option ρ} {Q : ρ → Prop} (e : x = y) : Rn x Q = Rn y Q := by rw [e]
theorem Rn_some {r : ρ} {Q : ρ → Prop} : Rn (some r) Q = Q r := propext ⟨fun ⟨_,e,q⟩ => by cases e; exact q,fun q => ⟨r,rfl,q⟩⟩
@[congr] theorem ob_congr {α : Type} {x y : Option α} {f : α → Option ρ} (e : x = y) : ob x f = ob y f := by rw [e]
@[congr] theorem al_congr {x y : Option (Value × IObj)} {h : H} {f : Value → H → Option ρ} (e : x = y) : al x h f = al y h f := by rw [e]
@[congr] theorem hv_congr {x y : Option (Value × H × List Nat)} {f : Value → H → List Nat → Option ρ} (e : x = y) : hv x f = hv y f := by rw [e]
@[congr] theorem gP_congr {w w' : Option Bool} {x : Option Value} {f : Value → Option ρ} (e : w = w') : gP w x f = gP w' x f := by rw [e]
@[congr] theorem fork_congr {v v' : Value} {a b : Option ρ} (e : v = v') : fork v a b = fork v' a b := by rw [e]
@[congr] theorem jn_congr {α β : Type} {K : α} {F : α → β} : jn K F = jn K F := rfl
theorem al_some (v : Value) (o : IObj) (h : H) (f : Value → H → Option ρ) : al (some (v,o)) h f = f v (h.push o) := rfl
theorem gP_t (x : Option Value) (f : Value → Option ρ) : gP (some true) x f = ob x f := rfl
theorem gP_f (x : Option Value) (f : Value → Option ρ) : gP (some false) x f = f ud := rfl
theorem fork_t (a b : Option ρ) : fork (.bool true) a b = a := rfl
theorem fork_f (a b : Option ρ) : fork (.bool false) a b = b := rfl
theorem jn3_eq (K : List Value → H → List Nat → Option ρ) (F : (List Value → H → List Nat → Option ρ) → Option ρ) : jn K F = F K := rfl
theorem dr_pure {bs : List Nat} {ms : List Mk} {f : List Nat → Option ρ} (e : (logOf ms).isEmpty = true) : dr bs ms f = f [] := by
  unfold dr
  rw [e]
  simp only [Bool.true_or,cond_true]
  rw [List.isEmpty_iff.1 e]
end
@[congr] theorem gV_congr {w w' : Option Bool} {x : Option (Value × H × List Nat)} {h : H} (e : w = w') : gV w x h = gV w' x h := by rw [e]
theorem gV_t (x : Option (Value × H × List Nat)) (h : H) : gV (some true) x h = x := rfl
theorem gV_f (x : Option (Value × H × List Nat)) (h : H) : gV (some false) x h = some (ud,h,[]) := rfl
theorem gd_b (b want : Bool) : gd (.bool b) want = some (b == want) := rfl
theorem rPick_t (a b : Value) : rPick (.bool true) a b = some a := rfl
theorem rPick_f (a b : Value) : rPick (.bool false) a b = some b := rfl
theorem rPick_b (t : Bool) (a b : Value) : rPick (.bool t) a b = some (bif t then a else b) := rfl
theorem not_b (b : Bool) : unV .not (.bool b) = some (.bool !b) := rfl
theorem rNil_p (a : Addr) : rNil (.pointer (some a)) = some (.pointer (some a)) := rfl
theorem rFld_p (k b o : Nat) : rFld k (.pointer (some ⟨b,o,none⟩)) = some (.pointer (some ⟨b,o + k,none⟩)) := rfl
theorem rLenL_s (a : Option Addr) (n c : Nat) : rLenL (.slice a n c) = some (.int .i64 n) := rfl
theorem rLenS_s (s : ByteArray) : rLenS (.string s) = some (.int .i64 s.size) := rfl
theorem rsT_b (b : Bool) (r : Option (List Value)) : rsT (.bool b) r = r.map (.bool b :: ·) := rfl
theorem rsT_i (k : IntKind) (n : Int) (r : Option (List Value)) : rsT (.int k n) r = r.map (.int k n :: ·) := rfl
theorem rsT_s (s : ByteArray) (r : Option (List Value)) : rsT (.string s) r = r.map (.string s :: ·) := rfl
theorem rsT_p (a : Option Addr) (r : Option (List Value)) : rsT (.pointer a) r = r.map (.pointer a :: ·) := rfl
theorem rsT_l (a : Option Addr) (n c : Nat) (r : Option (List Value)) : rsT (.slice a n c) r = r.map (.slice a n c :: ·) := rfl
theorem rsT_a (cs : Array Value) (r : Option (List Value)) : rsT (.agg cs) r = r.map (.agg cs :: ·) := rfl
theorem rsT_f (f : Fn) (a b : Array Value) (r : Option (List Value)) : rsT (.func f a b) r = r.map (.func f a b :: ·) := rfl

def cO : Option IObj → Option (List Value)
  | some (.cells vs _ _) => some vs
  | _ => none
theorem cO_c (vs : List Value) (t : Nat) (r : Bool) : cO (some (.cells vs t r)) = some vs := rfl
theorem rLd1_u (C : Cont) (b o : Nat) : rLd1 C (.pointer (some ⟨b,o,none⟩)) = (cO (C b)).bind fun vs => vs[o]? := by
  simp only [rLd1,cellsAt]
  generalize C b = x
  cases x with
  | none => rfl
  | some ob =>
    cases ob with
    | cells vs t r =>
      simp only [cO,Option.bind_some]
      by_cases h : o + 1 ≤ vs.length
      · rw [if_pos h,List.getElem?_eq_getElem h]
        have : (vs.drop o).take 1 = [vs[o]] := by
          rw [List.drop_eq_getElem_cons h]; rfl
        rw [this]
      · rw [if_neg h,List.getElem?_eq_none (by omega)]
    | _ => rfl
theorem rLdA_u (C : Cont) (s b o : Nat) : rLdA C s (.pointer (some ⟨b,o,none⟩)) = (cO (C b)).bind fun vs => if o + s ≤ vs.length then some (.agg ((vs.drop o).take s).toArray) else none := by
  simp only [rLdA,cellsAt]
  generalize C b = x
  cases x with
  | none => rfl
  | some ob =>
    cases ob with
    | cells vs t r =>
      simp only [cO,Option.bind_some]
      split <;> rfl
    | _ => rfl
theorem bS_eql {ty : Nat → Option TyI} (a b : ByteArray) : binV ty (tyD .string) .eql (.string a) (.string b) = some (.bool (bl a == bl b)) := rfl
theorem bS_neq {ty : Nat → Option TyI} (a b : ByteArray) : binV ty (tyD .string) .neq (.string a) (.string b) = some (.bool !(bl a == bl b)) := rfl
theorem bS_lss {ty : Nat → Option TyI} (a b : ByteArray) : binV ty (tyD .string) .lss (.string a) (.string b) = some (.bool (bytesLess (bl a) (bl b))) := rfl
theorem bS_gtr {ty : Nat → Option TyI} (a b : ByteArray) : binV ty (tyD .string) .gtr (.string a) (.string b) = some (.bool (!(bytesLess (bl a) (bl b) || bl a == bl b))) := rfl
theorem bP_eql {ty : Nat → Option TyI} (a : Option Addr) : binV ty (tyD (.pointer 0)) .eql (.pointer a) (.pointer none) = some (.bool a.isNone) := by cases a <;> rfl
theorem bP_neq {ty : Nat → Option TyI} (a : Option Addr) : binV ty (tyD (.pointer 0)) .neq (.pointer a) (.pointer none) = some (.bool (!a.isNone)) := by cases a <;> rfl
structure V where
  k : Int
  n : Int
  s : List UInt8
  deriving DecidableEq
def st (s : List UInt8) : Value := .string ⟨s.toArray⟩
def V.cs (v : V) : List Value := [.int .i64 v.k,.int .i64 v.n,st v.s]
def V.v (v : V) : Value := .agg v.cs.toArray
theorem bl_st (s : List UInt8) : bl ⟨s.toArray⟩ = s := rfl
theorem w_mP (h : H) : (mP h).writes = [] := rfl
theorem w_mR (h : H) (r : List Nat) : (mR h r).writes = [] := rfl
theorem w_mA (h : H) (r : List Nat) : (mA h r).writes = [] := rfl
theorem w_mH (h : H) (r l : List Nat) (h1 : H) : (mH h r l h1).writes = l := rfl
theorem w_mG (w : Option Bool) (k : Kd) (r : List Nat) (h h1 : H) : (mG w k r h h1 []).writes = [] := by
  unfold mG; split <;> rfl
theorem rEx_0 (a : Value) (l : List Value) : rExtract 0 (.tuple (a :: l).toArray) = some a := rfl
theorem rEx_1 (a b : Value) (l : List Value) : rExtract 1 (.tuple (a :: b :: l).toArray) = some b := rfl
theorem bF_n {ty : Nat → Option TyI} : binV ty (tyD (.func #[] #[] false)) .eql .nilFunc .nilFunc = some (.bool true) := rfl
theorem bF_nn {ty : Nat → Option TyI} (f : Fn) (a b : Array Value) : binV ty (tyD (.func #[] #[] false)) .eql (.func f a b) .nilFunc = some (.bool false) := rfl
theorem callV_f (call : CallF) (h : H) (g : Nat) (first cap : Array Value) (args : List Value) : callV call h (.func (.func g) first cap) args = call (.fn g) (first.toList ++ args ++ cap.toList) h := rfl
theorem rsT_st (s : List UInt8) (r : Option (List Value)) : rsT (st s) r = r.map (st s :: ·) := rfl
theorem rsT_V (v : V) (r : Option (List Value)) : rsT v.v r = r.map (v.v :: ·) := rfl
theorem bl_mk (a : Array UInt8) : bl ⟨a⟩ = a.toList := rfl
theorem size_mk (s : List UInt8) : (ByteArray.mk s.toArray).size = s.length := rfl
theorem fin_s (h0 : H) (vs : List Value) (h : H) (lg : List Nat) : fin h0 (some vs) h lg = some (settle h0 (tupled vs) h lg) := rfl
theorem settle_low {h0 h : H} {v : Value} {lg : List Nat} (hl : ∀ x ∈ lg,h0.n ≤ x) (hv : belowV h0.n 4 v = true) : settle h0 v h lg = (v,h0,[]) := by
  have e : lg.filter (· < h0.n) = [] := by
    rw [List.filter_eq_nil_iff]
    intro x hx
    have := hl x hx
    simp only [decide_eq_true_eq]
    omega
  simp only [settle,e,List.isEmpty_nil,hv,Bool.and_self,if_true]
theorem Rn_low {h0 h : H} {v : Value} {lg : List Nat} {Q : Value × H × List Nat → Prop} (hl : ∀ x ∈ lg,h0.n ≤ x) (hv : belowV h0.n 4 v = true) (hq : Q (v,h0,[])) : Rn (some (settle h0 v h lg)) Q := by
  rw [settle_low hl hv]; exact ⟨_,rfl,hq⟩
theorem lw_run {b : List Value → H → Option LOut} (M : Nat → List Value → H → Prop) (Q : LOut → Prop)
    (step : ∀ n vs h,M n vs h → Rn (b vs h) fun o => (o.ex = .normal ∧ (∃ m,m < n ∧ M m o.vs o.h) ∧ ∀ o2 : LOut,Q o2 → Q { o2 with lg := o2.lg ++ o.lg }) ∨ (o.ex ≠ .normal ∧ Q o)) :
    ∀ n vs h,M n vs h → Rn (lw b vs h) Q := by
  intro n
  induction n using Nat.strongRecOn with
  | ind n ih =>
    intro vs h hm
    obtain ⟨o,e,hq⟩ := step n vs h hm
    rcases hq with ⟨hx,⟨m,hmn,hm2⟩,hq⟩ | ⟨hx,hq⟩
    · obtain ⟨o2,e2,q2⟩ := ih m hmn _ _ hm2
      exact ⟨_,lw_next e hx e2,hq _ q2⟩
    · exact ⟨o,lw_last e hx,hq⟩
theorem lw_cnt {b : List Value → H → Option LOut} (L : Nat → Prop) (N : Nat) (I : Nat → List Value → H → Prop) (Q : Ex → List Value → H → Prop)
    (step : ∀ i vs h,i < N → I i vs h → Rn (b vs h) fun o => (∀ x ∈ o.lg,L x) ∧ ((o.ex = .normal ∧ I (i + 1) o.vs o.h) ∨ (o.ex ≠ .normal ∧ Q o.ex o.vs o.h)))
    (last : ∀ vs h,I N vs h → Rn (b vs h) fun o => (∀ x ∈ o.lg,L x) ∧ o.ex ≠ .normal ∧ Q o.ex o.vs o.h) {i : Nat} {vs : List Value} {h : H} (hi : i ≤ N) (h0 : I i vs h) :
    Rn (lw b vs h) fun o => (∀ x ∈ o.lg,L x) ∧ Q o.ex o.vs o.h := by
  refine lw_run (fun n vs h => ∃ i,i ≤ N ∧ n = N - i ∧ I i vs h) _ ?_ (N - i) vs h ⟨i,hi,rfl,h0⟩
  rintro n vs h ⟨i,hi,rfl,hI⟩
  rcases Nat.lt_or_eq_of_le hi with h1 | rfl
  · refine (step i vs h h1 hI).mono fun o ⟨hl,ho⟩ => ?_
    rcases ho with ⟨hx,hI2⟩ | ⟨hx,hq⟩
    · exact .inl ⟨hx,⟨N - (i + 1),by omega,i + 1,h1,rfl,hI2⟩,fun o2 ⟨hl2,hq2⟩ => ⟨fun x hx => (List.mem_append.1 hx).elim (hl2 x) (hl x),hq2⟩⟩
    · exact .inr ⟨hx,hl,hq⟩
  · exact (last vs h hI).mono fun o ⟨hl,hx,hq⟩ => .inr ⟨hx,hl,hq⟩
theorem aBx_V (n T : Nat) (v : V) : aBx n T 3 v.v = some (.pointer (some ⟨n,0,none⟩),.cells v.cs T false) := rfl

def wO : Option IObj → Option (List Value × Nat)
  | some (.cells vs t false) => some (vs,t)
  | _ => none
theorem wO_c (vs : List Value) (t : Nat) : wO (some (.cells vs t false)) = some (vs,t) := rfl
theorem rStore_u (h : H) (size b o : Nat) (x : Value) : rStore h size (.pointer (some ⟨b,o,none⟩)) x = (cellsOf x).bind fun cs => if cs.length = size then (writeAt h b o cs).map fun h1 => (ud,h1,[b]) else none := rfl
theorem wr_u (h : H) (b off : Nat) (new : List Value) : writeAt h b off new = (wO (h.get b)).bind fun q => if off + new.length ≤ q.1.length then some (h.set b (.cells (putAt q.1 off new) q.2 false)) else none := by
  unfold writeAt wO
  split
  · rename_i vs ty e; simp only [e,Option.bind_some]
  · rename_i hx
    split
    · rename_i e; exact absurd e (hx _ _)
    · rfl
theorem co_i (k : IntKind) (n : Int) : cellsOf (.int k n) = some [.int k n] := rfl
theorem co_b (b : Bool) : cellsOf (.bool b) = some [.bool b] := rfl
theorem co_s (s : ByteArray) : cellsOf (.string s) = some [.string s] := rfl
theorem co_st (s : List UInt8) : cellsOf (st s) = some [st s] := rfl
theorem co_p (a : Option Addr) : cellsOf (.pointer a) = some [.pointer a] := rfl
theorem co_l (a : Option Addr) (n c : Nat) : cellsOf (.slice a n c) = some [.slice a n c] := rfl
theorem co_f (f : Fn) (a b : Array Value) : cellsOf (.func f a b) = some [.func f a b] := rfl
theorem co_V (v : V) : cellsOf v.v = some v.cs := rfl
theorem putAt_c (a : Value) (l : List Value) (o : Nat) (new : List Value) : putAt (a :: l) (o + 1) new = a :: putAt l o new := by simp [putAt,Nat.add_right_comm]
theorem putAt_0 (a x : Value) (l new : List Value) : putAt (a :: l) 0 (x :: new) = x :: putAt l 0 new := by simp [putAt,Nat.add_comm]
theorem putAt_n (l : List Value) (o : Nat) : putAt l o [] = l := by simp [putAt]
theorem aNew_s (n e : Nat) (z : List Value) : aNew n e z = some (.pointer (some ⟨n,0,none⟩),.cells z e false) := rfl
theorem V_cs0 (v : V) : v.cs[0]? = some (.int .i64 v.k) := rfl
theorem V_cs1 (v : V) : v.cs[1]? = some (.int .i64 v.n) := rfl
theorem V_cs2 (v : V) : v.cs[2]? = some (st v.s) := rfl
theorem V_len (v : V) : v.cs.length = 3 := rfl
theorem V_take (v : V) : v.cs.take 3 = v.cs := rfl
theorem V_fold (v : V) : Value.agg v.cs.toArray = v.v := rfl
theorem rsK_s (v : Value) (r : Option (List Value)) : rsK (some v) r = r.map (v :: ·) := rfl
def drOk (bs : List Nat) (ws : List Bool) (ms : List Mk) : Bool := (List.range ms.length).all fun i => match ms[i]? with
  | none => true
  | some a => bif ws.getD i false then (List.range ms.length).all (fun j => match ms[j]? with
      | none => true
      | some b => Nat.beq i j || (bs.getD i 0).testBit j || (bs.getD j 0).testBit i || (match b.k with | .pure => b.reads.isEmpty | _ => false)) else a.writes.isEmpty
theorem dr_ws {ρ : Type} (ws : List Bool) {bs : List Nat} {ms : List Mk} {f : List Nat → Option ρ} (h : drOk bs ws ms = true) : dr bs ms f = f (logOf ms) := by
  refine dr_ok (Bool.or_eq_true_iff.2 (.inr ?_))
  unfold clashFree
  unfold drOk at h
  rw [List.all_eq_true] at h ⊢
  intro i hi
  rw [List.all_eq_true]
  intro j hj
  have h1 := h i hi
  cases ha : ms[i]? with
  | none => rfl
  | some a =>
    cases hb : ms[j]? with
    | none => rfl
    | some b =>
      simp only [ha] at h1 ⊢
      cases hw : ws.getD i false with
      | false =>
        rw [hw,cond_false] at h1
        rw [h1]; rfl
      | true =>
        rw [hw,cond_true,List.all_eq_true] at h1
        have h2 := h1 j hj
        simp only [hb,Bool.or_eq_true] at h2
        simp only [Bool.or_eq_true]
        rcases h2 with ((h2 | h2) | h2) | h2
        · exact .inl (.inl (.inl (.inr h2)))
        · exact .inl (.inl (.inr h2))
        · exact .inl (.inr h2)
        · refine .inr ?_
          unfold besides
          cases hk : b.k with
          | pure =>
            rw [hk] at h2
            have := List.isEmpty_iff.1 h2
            rw [List.all_eq_true]
            intro x _
            rw [this]; rfl
          | alloc => rw [hk] at h2; cases h2
          | heavy => rw [hk] at h2; cases h2
theorem putAt_V (a b c : Value) (v : V) : putAt [a,b,c] 0 v.cs = v.cs := rfl
theorem bel_Vb (n : Nat) (v : V) (b : Bool) : belowV n 4 (.tuple [v.v,.bool b].toArray) = true := by simp [belowV,V.v,V.cs,st]
theorem bel_V (n : Nat) (v : V) : belowV n 4 v.v = true := by simp [belowV,V.v,V.cs,st]
theorem onEx_e {β : Type} (k : Nat) (n : β) (e : Nat → β) (r : β) : onEx (.exit k) n e r = e k := rfl
theorem onEx_r {β : Type} (n : β) (e : Nat → β) (r : β) : onEx .ret n e r = r := rfl
theorem onEx_n {β : Type} (n : β) (e : Nat → β) (r : β) : onEx .normal n e r = n := rfl
theorem nn1 (n : Nat) : (n = n + 1) = False := eq_false (by omega)
theorem mm1 (n : Nat) : (n + 1 = n) = False := eq_false (by omega)
theorem nn2 (n : Nat) : (n = n + 1 + 1) = False := eq_false (by omega)
theorem mm2 (n : Nat) : (n + 1 + 1 = n) = False := eq_false (by omega)
theorem nn3 (n : Nat) : (n = n + 1 + 1 + 1) = False := eq_false (by omega)
theorem mm3 (n : Nat) : (n + 1 + 1 + 1 = n) = False := eq_false (by omega)
theorem nn4 (n : Nat) : (n = n + 1 + 1 + 1 + 1) = False := eq_false (by omega)
theorem mm4 (n : Nat) : (n + 1 + 1 + 1 + 1 = n) = False := eq_false (by omega)
theorem nn5 (n : Nat) : (n = n + 1 + 1 + 1 + 1 + 1) = False := eq_false (by omega)
theorem mm5 (n : Nat) : (n + 1 + 1 + 1 + 1 + 1 = n) = False := eq_false (by omega)
noncomputable def wsD := And.intro @jn3_eq <| And.intro @ob_some <| And.intro @al_some <| And.intro @hv_some <| And.intro @gP_t <| And.intro @gP_f <| And.intro @gV_t <| And.intro @gV_f <| And.intro @fork_t <| @fork_f
noncomputable def wsP := And.intro @onEx_e <| And.intro @onEx_r <| And.intro @onEx_n <| And.intro @gd_b <| And.intro @rPick_t <| And.intro @rPick_f <| And.intro @rPick_b <| And.intro @not_b <| And.intro @rNil_p <| And.intro @rFld_p <| And.intro @rLenL_s <| And.intro @rLenS_s <| And.intro @nt_0 <| And.intro @nt_s <| And.intro @bI_eql <| And.intro @bI_neq <| And.intro @bI_lss <| And.intro @bI_leq <| And.intro @bI_gtr <| And.intro @bI_geq <| And.intro @bI_add <| And.intro @bI_sub <| And.intro @bS_eql <| And.intro @bS_neq <| And.intro @bS_lss <| And.intro @bS_gtr <| And.intro @bP_eql <| And.intro @bP_neq <| And.intro @aBx_V <| And.intro @rLd1_u <| And.intro @rLdA_u <| And.intro @cO_c <| And.intro @Option.bind_some.{0,0} <| And.intro @List.getElem?_cons_zero.{0} <| And.intro @List.getElem?_cons_succ.{0} <| And.intro @H.get_push <| And.intro @H.get_set <| And.intro @H.n_push <| And.intro @H.n_set <| And.intro @if_true.{1} <| And.intro @nn1 <| And.intro @nn2 <| And.intro @nn3 <| And.intro @nn4 <| And.intro @nn5 <| And.intro @mm1 <| And.intro @mm2 <| And.intro @mm3 <| And.intro @mm4 <| And.intro @mm5 <| And.intro @Nat.zero_add <| And.intro @Nat.add_zero <| And.intro @beq_self_eq_true.{0} <| And.intro @Bool.not_true <| And.intro @Bool.not_false <| And.intro @cond_true.{1} <| And.intro @cond_false.{1} <| And.intro @Bool.false_eq_true <| And.intro @if_false.{1} <| And.intro @Bool.true_beq <| And.intro @Bool.false_beq <| And.intro @Option.isNone_some.{0} <| And.intro @Option.isNone_none.{0} <| And.intro @aNew_s <| And.intro @V_cs0 <| And.intro @V_cs1 <| And.intro @V_cs2 <| And.intro @V_len <| And.intro @V_take <| And.intro @V_fold <| And.intro @dr_pure <| And.intro @w_mP <| And.intro @w_mR <| And.intro @w_mA <| And.intro @w_mH <| And.intro @w_mG <| And.intro @List.flatMap_cons.{0,0} <| And.intro @List.flatMap_nil.{0,0} <| And.intro @List.append_nil.{0} <| And.intro @List.nil_append.{0} <| And.intro @List.isEmpty_nil.{0} <| And.intro @List.map_cons.{0,0} <| And.intro @List.map_nil.{0,0} <| And.intro @List.take_succ_cons.{0} <| And.intro @List.drop_succ_cons.{0} <| And.intro @List.take_zero.{0} <| And.intro @List.drop_zero.{0} <| And.intro @List.length_cons.{0} <| And.intro @List.length_nil.{0} <| And.intro @Option.map_some.{0,0} <| And.intro @rStore_u <| And.intro @wr_u <| And.intro @wO_c <| And.intro @co_i <| And.intro @co_b <| And.intro @co_s <| And.intro @co_st <| And.intro @co_p <| And.intro @co_l <| And.intro @co_f <| And.intro @co_V <| And.intro @putAt_V <| And.intro @putAt_c <| And.intro @putAt_0 <| And.intro @putAt_n <| And.intro @rEx_0 <| And.intro @rEx_1 <| And.intro @bF_nn <| And.intro @bF_n <| And.intro @callV_f <| @List.toList_toArray.{0}
noncomputable def wsF := And.intro @fin_s <| And.intro @rsT_b <| And.intro @rsT_i <| And.intro @rsT_s <| And.intro @rsT_p <| And.intro @rsT_l <| And.intro @rsT_a <| And.intro @rsT_f <| And.intro @rsT_st <| And.intro @rsT_V <| And.intro @rsK_s <| @Option.map_some.{0,0}
end Go.L1


namespace Go.L1
open Go Go.Proofs
theorem bU_lss {ty : Nat → Option TyI} (a b : Int) : binV ty (tyD (.int .u8)) .lss (.int .u8 a) (.int .u8 b) = some (.bool (decide (a < b))) := rfl
theorem bU_gtr {ty : Nat → Option TyI} (a b : Int) : binV ty (tyD (.int .u8)) .gtr (.int .u8 a) (.int .u8 b) = some (.bool (decide (a > b))) := rfl
theorem bU_eql {ty : Nat → Option TyI} (a b : Int) : binV ty (tyD (.int .u8)) .eql (.int .u8 a) (.int .u8 b) = some (.bool (a == b)) := rfl
theorem rIxStr_st (s : List UInt8) (i : Nat) : rIxStr (.string ⟨s.toArray⟩) (.int .i64 (i : Int)) = (s[i]?).map fun b => .int .u8 b.toNat := by
  simp [rIxStr,rIdxStr,idxN_nat]
def okb (c : UInt8) : Bool := !(decide ((c.toNat : Int) < 32) || decide ((c.toNat : Int) > 126) || ((c.toNat : Int) == 39))
def textB (s : List UInt8) : Bool := s.all okb && decide (s.length ≤ 12)
theorem c_text (s : List UInt8) (h : H) (hl : s.length < 1000): icP (.fn N_k137) [st s] h = some (.bool (textB s),h,[]) := by
  refine Rn.eq (Rn.up (fun _ => ic_k137 rfl _) ?_)
  unfold F_k137
  simp -implicitDefEqProofs only [↓jn3,↓wsD,wsP,Nat.reduceBEq,reduceCtorEq,logOf,Nat.reduceAdd,Nat.reduceLeDiff,Nat.reduceMul,st,size_mk]
  refine Rn_ob (lw_cnt (fun _ => False) s.length (fun i vs h' => h' = h ∧ (∀ j,j < i → ∀ c,s[j]? = some c → okb c = true) ∧ ∃ J,vs = .string ⟨s.toArray⟩ :: .bool false :: .int .i64 s.length :: .int .i64 i :: J)
    (fun ex vs h' => h' = h ∧ nt vs 0 = .string ⟨s.toArray⟩ ∧ ((ex = .exit 0 ∧ s.all okb = true) ∨ (ex = .ret ∧ nt vs 1 = .bool false ∧ s.all okb = false)))
    (fun i vs h' hi hI => ?_) (fun vs h' hI => ?_) (Nat.zero_le _) ⟨rfl,fun j hj => absurd hj (Nat.not_lt_zero _),_,rfl⟩) fun o ⟨hlo,e1,e2,hq⟩ => ?_
  · obtain ⟨rfl,hI,J,rfl⟩ := hI
    have hc := List.getElem?_eq_getElem hi
    generalize s[i] = c at hc
    have hlt : decide ((i : Int) < s.length) = true := by simpa using hi
    have hw : IntKind.i64.wrap ((i : Int) + 1) = ((i + 1 : Nat) : Int) := by rw [wrapI (by omega) (by omega)]; rfl
    have hok : okb c = !(decide ((c.toNat : Int) < 32) || decide ((c.toNat : Int) > 126) || ((c.toNat : Int) == 39)) := rfl
    unfold F_k137_L58
    cases h1 : decide ((c.toNat : Int) < 32) <;> cases h2 : decide ((c.toNat : Int) > 126) <;> cases h3 : ((c.toNat : Int) == 39) <;>
      simp -implicitDefEqProofs only [↓jn3,↓wsD,wsP,Nat.reduceBEq,reduceCtorEq,logOf,Nat.reduceAdd,Nat.reduceLeDiff,Nat.reduceMul,rIxStr_st,hc,hlt,hw,Option.map_some,bU_lss,bU_gtr,bU_eql,h1,h2,h3] <;> simp only [h1,h2,h3,Bool.or_false,Bool.or_true,Bool.true_or,Bool.not_true,Bool.not_false] at hok
    · refine Rn.ret ⟨fun _ h => by simp at h,.inl ⟨rfl,rfl,fun j hj d hd => ?_,_,rfl⟩⟩
      rcases Nat.lt_succ_iff_lt_or_eq.1 hj with h | rfl
      · exact hI j h d hd
      · rw [hc] at hd; cases hd; exact hok
    all_goals
      refine Rn.ret ⟨fun _ h => by simp at h,.inr ⟨by simp,rfl,rfl,.inr ⟨rfl,rfl,?_⟩⟩⟩
      rw [Bool.eq_false_iff]
      intro hall
      have := List.all_eq_true.1 hall c (List.mem_of_getElem? hc)
      rw [hok] at this; cases this
  · obtain ⟨rfl,hI,J,rfl⟩ := hI
    unfold F_k137_L58
    simp -implicitDefEqProofs only [↓jn3,↓wsD,wsP,Nat.reduceBEq,reduceCtorEq,logOf,Nat.reduceAdd,Nat.reduceLeDiff,Nat.reduceMul,Int.lt_irrefl,decide_false]
    refine Rn.ret ⟨fun _ h => by simp at h,by simp,rfl,rfl,.inl ⟨rfl,List.all_eq_true.2 fun c hc => ?_⟩⟩
    obtain ⟨j,hj⟩ := List.getElem?_of_mem hc
    exact hI j (List.getElem?_eq_some_iff.1 hj).1 c hj
  · obtain ⟨ex,vs,h1,lg⟩ := o
    simp only at hlo e1 e2 hq
    subst e1
    rcases hq with ⟨rfl,hall⟩ | ⟨rfl,hr,hall⟩
    · simp -implicitDefEqProofs only [↓jn3,↓wsD,wsP,Nat.reduceBEq,reduceCtorEq,logOf,Nat.reduceAdd,Nat.reduceLeDiff,Nat.reduceMul,wsF,e2,size_mk]
      refine Rn_low (fun x hx => (hlo x (by simpa using hx)).elim) rfl ?_
      simp only [textB,hall,Bool.true_and,tupled]
      congr 2
      rw [decide_eq_decide]; omega
    · simp -implicitDefEqProofs only [↓jn3,↓wsD,wsP,Nat.reduceBEq,reduceCtorEq,logOf,Nat.reduceAdd,Nat.reduceLeDiff,Nat.reduceMul,wsF,hr]
      refine Rn_low (fun x hx => (hlo x (by simpa using hx)).elim) rfl ?_
      simp only [textB,hall,Bool.false_and,tupled]

theorem all_idx {s : List UInt8} (hI : ∀ j,j < s.length → ∀ c,s[j]? = some c → okb c = true) : s.all okb = true :=
  List.all_eq_true.2 fun c hc => by
    obtain ⟨j,hj⟩ := List.getElem?_of_mem hc
    exact hI j (List.getElem?_eq_some_iff.1 hj).1 c hj
def mayB (v : V) : Bool := bif v.k == 0 then (v.n == 0 && v.s == []) else bif v.k == 1 then v.s == [] else bif v.k == 2 then (v.n == 0 && textB v.s) else false
theorem c_may (v : V) (h : H) (hl : v.s.length < 1000) : icP (.fn N_k106) [v.v] h = some (.bool (mayB v),h,[]) := by
  refine Rn.eq (Rn.up (fun _ => ic_k106 rfl _) ?_)
  unfold F_k106
  have ht := c_text v.s (h.push (.cells v.cs T_api_Value false)) hl
  simp only [mayB]
  cases h0 : v.k == 0
  · cases h1 : v.k == 1
    · cases h2 : v.k == 2
      · simp -implicitDefEqProofs only [↓jn3,↓wsD,wsP,Nat.reduceBEq,reduceCtorEq,logOf,Nat.reduceAdd,Nat.reduceLeDiff,Nat.reduceMul,wsF,V.cs,h0,h1,h2]
        exact Rn_low (by simp) rfl rfl
      · simp only [V.cs] at ht
        cases h3 : v.n == 0 <;> simp -implicitDefEqProofs only [↓jn3,↓wsD,wsP,Nat.reduceBEq,reduceCtorEq,logOf,Nat.reduceAdd,Nat.reduceLeDiff,Nat.reduceMul,wsF,V.cs,h0,h1,h2,h3,ht] <;> exact Rn_low (by simp) rfl rfl
    · simp -implicitDefEqProofs only [↓jn3,↓wsD,wsP,Nat.reduceBEq,reduceCtorEq,logOf,Nat.reduceAdd,Nat.reduceLeDiff,Nat.reduceMul,wsF,V.cs,st,h0,h1]
      exact Rn_low (by simp) rfl rfl
  · cases h3 : v.n == 0 <;> simp -implicitDefEqProofs only [↓jn3,↓wsD,wsP,Nat.reduceBEq,reduceCtorEq,logOf,Nat.reduceAdd,Nat.reduceLeDiff,Nat.reduceMul,wsF,V.cs,st,h0,h3] <;> exact Rn_low (by simp) rfl rfl
theorem c_rmay (v : V) (h : H) (hl : v.s.length < 1000) : icP (.fn N_k120) [v.v] h = some (.bool (mayB v),h,[]) := by
  refine Rn.eq (Rn.up (fun _ => ic_k120 rfl _) ?_)
  unfold F_k120
  simp only [mayB]
  cases h0 : v.k == 0
  · cases h1 : v.k == 1
    · cases h2 : v.k == 2
      · simp -implicitDefEqProofs only [↓jn3,↓wsD,wsP,Nat.reduceBEq,reduceCtorEq,logOf,Nat.reduceAdd,Nat.reduceLeDiff,Nat.reduceMul,wsF,V.cs,h0,h1,h2]
        exact Rn_low (by simp) rfl rfl
      · simp -implicitDefEqProofs only [↓jn3,↓wsD,wsP,Nat.reduceBEq,reduceCtorEq,logOf,Nat.reduceAdd,Nat.reduceLeDiff,Nat.reduceMul,wsF,V.cs,h0,h1,h2]
        generalize hg : h.push (.cells [.int .i64 v.k,.int .i64 v.n,st v.s] T_api_Value false) = h1
        have hb : h1.get h.n = some (.cells [.int .i64 v.k,.int .i64 v.n,st v.s] T_api_Value false) := by rw [← hg,H.get_push,if_pos rfl]
        refine Rn_ob (lw_cnt (fun _ => False) v.s.length (fun i vs h' => h' = h1 ∧ (∀ j,j < i → ∀ c,v.s[j]? = some c → okb c = true) ∧ ∃ J,vs = .pointer (some ⟨h.n,0,none⟩) :: .bool false :: .int .i64 i :: J)
          (fun ex vs h' => h' = h1 ∧ nt vs 0 = .pointer (some ⟨h.n,0,none⟩) ∧ ((ex = .exit 1 ∧ v.s.all okb = true) ∨ (ex = .ret ∧ nt vs 1 = .bool false ∧ v.s.all okb = false)))
          (fun i vs h' hi hI => ?_) (fun vs h' hI => ?_) (Nat.zero_le _) ⟨rfl,fun j hj => absurd hj (Nat.not_lt_zero _),_,rfl⟩) fun o ⟨hlo,e1,e2,hq⟩ => ?_
        · obtain ⟨rfl,hI,J,rfl⟩ := hI
          have hc := List.getElem?_eq_getElem hi
          generalize v.s[i] = c at hc
          have hlt : decide ((i : Int) < v.s.length) = true := by simpa using hi
          have hw : IntKind.i64.wrap ((i : Int) + 1) = ((i + 1 : Nat) : Int) := by rw [wrapI (by omega) (by omega)]; rfl
          have hok : okb c = !(decide ((c.toNat : Int) < 32) || decide ((c.toNat : Int) > 126) || ((c.toNat : Int) == 39)) := rfl
          unfold F_k120_L30194
          cases h1 : decide ((c.toNat : Int) < 32) <;> cases h2 : decide ((c.toNat : Int) > 126) <;> cases h3 : ((c.toNat : Int) == 39) <;>
            simp -implicitDefEqProofs only [↓jn3,↓wsD,wsP,Nat.reduceBEq,reduceCtorEq,logOf,Nat.reduceAdd,Nat.reduceLeDiff,Nat.reduceMul,hb,st,size_mk,rIxStr_st,hc,hlt,hw,Option.map_some,bU_lss,bU_gtr,bU_eql,h1,h2,h3] <;> simp only [h1,h2,h3,Bool.or_false,Bool.or_true,Bool.true_or,Bool.not_true,Bool.not_false] at hok
          · refine Rn.ret ⟨fun _ h => by simp at h,.inl ⟨rfl,rfl,fun j hj d hd => ?_,_,rfl⟩⟩
            rcases Nat.lt_succ_iff_lt_or_eq.1 hj with h | rfl
            · exact hI j h d hd
            · rw [hc] at hd; cases hd; exact hok
          all_goals
            refine Rn.ret ⟨fun _ h => by simp at h,.inr ⟨by simp,rfl,rfl,.inr ⟨rfl,rfl,?_⟩⟩⟩
            rw [Bool.eq_false_iff]
            intro hall
            have := List.all_eq_true.1 hall c (List.mem_of_getElem? hc)
            rw [hok] at this; cases this
        · obtain ⟨rfl,hI,J,rfl⟩ := hI
          unfold F_k120_L30194
          simp -implicitDefEqProofs only [↓jn3,↓wsD,wsP,Nat.reduceBEq,reduceCtorEq,logOf,Nat.reduceAdd,Nat.reduceLeDiff,Nat.reduceMul,hb,st,size_mk,Int.lt_irrefl,decide_false]
          exact Rn.ret ⟨fun _ h => by simp at h,by simp,rfl,rfl,.inl ⟨rfl,all_idx hI⟩⟩
        · obtain ⟨ex,vs,h1,lg⟩ := o
          simp only at hlo e1 e2 hq
          subst e1
          rcases hq with ⟨rfl,hall⟩ | ⟨rfl,hr,hall⟩
          · cases h3 : v.n == 0
            · simp -implicitDefEqProofs only [↓jn3,↓wsD,wsP,Nat.reduceBEq,reduceCtorEq,logOf,Nat.reduceAdd,Nat.reduceLeDiff,Nat.reduceMul,wsF,e2,hb,h3,Nat.reduceBEq]
              exact Rn_low (fun x hx => (hlo x (by simpa using hx)).elim) rfl rfl
            · simp -implicitDefEqProofs only [↓jn3,↓wsD,wsP,Nat.reduceBEq,reduceCtorEq,logOf,Nat.reduceAdd,Nat.reduceLeDiff,Nat.reduceMul,wsF,e2,hb,h3,st,size_mk,Nat.reduceBEq]
              refine Rn_low (fun x hx => (hlo x (by simpa using hx)).elim) rfl ?_
              simp only [textB,hall,Bool.true_and,tupled]
              congr 2
              rw [decide_eq_decide]; omega
          · simp -implicitDefEqProofs only [↓jn3,↓wsD,wsP,Nat.reduceBEq,reduceCtorEq,logOf,Nat.reduceAdd,Nat.reduceLeDiff,Nat.reduceMul,wsF,hr]
            refine Rn_low (fun x hx => (hlo x (by simpa using hx)).elim) rfl ?_
            simp only [textB,hall,Bool.false_and,Bool.and_false,tupled]
    · simp -implicitDefEqProofs only [↓jn3,↓wsD,wsP,Nat.reduceBEq,reduceCtorEq,logOf,Nat.reduceAdd,Nat.reduceLeDiff,Nat.reduceMul,wsF,V.cs,st,h0,h1]
      exact Rn_low (by simp) rfl rfl
  · cases h3 : v.n == 0 <;> simp -implicitDefEqProofs only [↓jn3,↓wsD,wsP,Nat.reduceBEq,reduceCtorEq,logOf,Nat.reduceAdd,Nat.reduceLeDiff,Nat.reduceMul,wsF,V.cs,st,h0,h3] <;> exact Rn_low (by simp) rfl rfl
end Go.L1


namespace Go.L1
open Go Go.Proofs
section
variable {α : Type} {f : α → List Value} {m : Nat}
theorem flat_len (hf : ∀ a,(f a).length = m) : ∀ l : List α,(l.flatMap f).length = l.length * m
  | [] => by simp
  | a :: l => by rw [List.flatMap_cons,List.length_append,hf,flat_len hf l,List.length_cons,Nat.succ_mul,Nat.add_comm]
theorem flat_drop (hf : ∀ a,(f a).length = m) : ∀ (l : List α) (i : Nat),(l.flatMap f).drop (i * m) = (l.drop i).flatMap f
  | l,0 => by simp
  | [],i + 1 => by simp
  | a :: l,i + 1 => by
    rw [List.flatMap_cons,List.drop_succ_cons,← flat_drop hf l i,Nat.succ_mul,Nat.add_comm,← List.drop_drop]
    have e : (f a ++ l.flatMap f).drop m = l.flatMap f := by
      rw [List.drop_append_of_le_length (by rw [hf]; omega),List.drop_of_length_le (by rw [hf]; omega),List.nil_append]
    rw [e]
theorem flat_take (hf : ∀ a,(f a).length = m) : ∀ (l : List α) (i : Nat),(l.flatMap f).take (i * m) = (l.take i).flatMap f
  | l,0 => by simp
  | [],i + 1 => by simp
  | a :: l,i + 1 => by
    rw [List.flatMap_cons,List.take_succ_cons,List.flatMap_cons,← flat_take hf l i,Nat.succ_mul,Nat.add_comm,List.take_append]
    rw [List.take_of_length_le (by rw [hf]; omega),hf,Nat.add_sub_cancel_left]
theorem flat_row (hf : ∀ a,(f a).length = m) {l : List α} {i : Nat} {a : α} (ha : l[i]? = some a) (J : List Value) : i * m + m ≤ (l.flatMap f ++ J).length ∧ ((l.flatMap f ++ J).drop (i * m)).take m = f a := by
  obtain ⟨hi,rfl⟩ := List.getElem?_eq_some_iff.1 ha
  have hl := flat_len hf l
  have hm : i * m + m ≤ l.length * m := by rw [← Nat.succ_mul]; exact Nat.mul_le_mul_right _ hi
  refine ⟨by rw [List.length_append]; omega,?_⟩
  rw [List.drop_append_of_le_length (by omega),flat_drop hf,List.drop_eq_getElem_cons hi,List.flatMap_cons,List.append_assoc,List.take_append_of_le_length (by rw [hf]; omega),List.take_of_length_le (by rw [hf]; omega)]
theorem flat_cell (hf : ∀ a,(f a).length = m) {l : List α} {i j : Nat} {a : α} (ha : l[i]? = some a) (hj : j < m) (J : List Value) : (l.flatMap f ++ J)[i * m + j]? = (f a)[j]? := by
  have h := (flat_row hf ha J).2
  rw [← h,List.getElem?_take,if_pos hj,List.getElem?_drop]
end
theorem bl_irr : ∀ a : List UInt8,bytesLess a a = false
  | [] => rfl
  | x :: a => by simp [bytesLess,bl_irr a]
theorem bl_trans : ∀ {a b c : List UInt8},bytesLess a b = true → bytesLess b c = true → bytesLess a c = true
  | _,[],_,h,_ => by cases ‹List UInt8› <;> simp [bytesLess] at h
  | _,_ :: _,[],_,h => by simp [bytesLess] at h
  | [],_ :: _,_ :: _,_,_ => rfl
  | x :: a,y :: b,z :: c,h1,h2 => by
    simp only [bytesLess,Bool.or_eq_true,Bool.and_eq_true,decide_eq_true_eq,beq_iff_eq] at h1 h2 ⊢
    rcases h1 with h1 | ⟨rfl,h1⟩ <;> rcases h2 with h2 | ⟨rfl,h2⟩
    · exact .inl (UInt8.lt_trans h1 h2)
    · exact .inl h1
    · exact .inl h2
    · exact .inr ⟨rfl,bl_trans h1 h2⟩
theorem bl_tri : ∀ {a b : List UInt8},bytesLess a b = false → a ≠ b → bytesLess b a = true
  | [],[],_,h => absurd rfl h
  | [],_ :: _,h,_ => by simp [bytesLess] at h
  | _ :: _,[],_,_ => rfl
  | x :: a,y :: b,h1,h2 => by
    simp only [bytesLess,Bool.or_eq_false_iff,Bool.and_eq_false_iff,decide_eq_false_iff_not,beq_eq_false_iff_ne] at h1
    simp only [bytesLess,Bool.or_eq_true,Bool.and_eq_true,decide_eq_true_eq,beq_iff_eq]
    by_cases e : x = y
    · subst e
      exact .inr ⟨rfl,bl_tri (h1.2.resolve_left fun h => h rfl) fun e => h2 (by rw [e])⟩
    · exact .inl (by have := h1.1; rw [UInt8.not_lt] at this; exact UInt8.lt_of_le_of_ne this (Ne.symm e))
theorem c_cmp (a b : List UInt8) (h : H) : icP (.fn N_k183) [st a,st b] h = some (.int .i64 (cmpB a b),h,[]) := by
  have e1 : ∀ h : H,icP (.fn N_k205) [st a,st b] h = some (.int .i64 (cmpB a b),h,[]) := fun h => ic_ext (fn := (Tryz.prog.funcs[N_k205]?).getD Tryz.f2) rfl (by kernel_rfl) (by kernel_rfl) (by kernel_rfl)
  have e2 : ∀ h : H,icP (.fn N_k198) [st a,st b] h = some (.int .i64 (cmpB a b),h,[]) := fun h => by
    refine Rn.eq (Rn.up (fun _ => ic_k198 rfl _ _) ?_)
    unfold F_k198
    simp -implicitDefEqProofs only [↓jn3,↓wsD,wsP,Nat.reduceBEq,reduceCtorEq,logOf,Nat.reduceAdd,Nat.reduceLeDiff,Nat.reduceMul,wsF,e1]
    exact Rn_low (by simp) rfl rfl
  refine Rn.eq (Rn.up (fun _ => ic_k183 rfl _ _) ?_)
  unfold F_k183
  simp -implicitDefEqProofs only [↓jn3,↓wsD,wsP,Nat.reduceBEq,reduceCtorEq,logOf,Nat.reduceAdd,Nat.reduceLeDiff,Nat.reduceMul,wsF,e2]
  exact Rn_low (by simp) rfl rfl
end Go.L1


namespace Go.L1
open Go Go.Proofs
theorem mid_eq {i j : Nat} (h : i + j < 1099511627776) : rCvI .u64 (.int .i64 (IntKind.i64.wrap ((i : Int) + (j : Int)))) = some (.int .u64 (((i + j : Nat) : Int))) := by
  rw [wrapI (by omega) (by omega)]
  simp only [rCvI,IntKind.wrap_u64]
  congr 2
  omega
theorem shr_eq {ty : Nat → Option TyI} (n : Nat) : binV ty (tyD (.int .u64)) .shr (.int .u64 (n : Int)) (.int .u64 1) = some (.int .u64 ((n / 2 : Nat) : Int)) := by
  show (if (1 : Int) < 0 then none else some (Value.int .u64 ((n : Int).fdiv (2 ^ (min (1 : Int).toNat IntKind.u64.bits))))) = _
  rw [if_neg (by omega)]
  have : (2 : Int) ^ (min (1 : Int).toNat IntKind.u64.bits) = 2 := by rfl
  rw [this]
  congr 2
  rw [Int.fdiv_eq_ediv_of_nonneg _ (by omega)]
  omega
theorem cvI_nat {n : Nat} (h : n < 1099511627776) : rCvI .i64 (.int .u64 (n : Int)) = some (.int .i64 (n : Int)) := by
  simp only [rCvI]
  rw [wrapI (by omega) (by omega)]
theorem c_bs {x0 x1 x2 : Value} {a : Option Addr} {n cap : Nat} {h : H} (hx0 : x0 = .slice a n cap) (E : Nat → Value) (c : Nat → Int) (r : Nat) (hr : r ≤ n) (hn : n < 549755813888)
    (hel : ∀ i,i < n → ∃ q,rIdxS 2 x0 (.int .i64 (i : Int)) = some q ∧ rLdA h.get 2 q = some (E i)) (hcall : ∀ i,i < n → callV icP h x2 [E i,x1] = some (.int .i64 (c i),h,[])) (hc : ∀ i,i < n → (c i < 0 ↔ i < r)) :
    icP (.fn N_k199) [x0,x1,x2] h = some (.tuple [.int .i64 (r : Int),.bool (decide (r < n) && c r == 0)].toArray,h,[]) := by
  subst hx0
  refine Rn.eq (Rn.up (fun _ => ic_k199 rfl _ _ _) ?_)
  unfold F_k199
  simp -implicitDefEqProofs only [↓jn3,↓wsD,wsP,Nat.reduceBEq,reduceCtorEq,logOf,Nat.reduceAdd,Nat.reduceLeDiff,Nat.reduceMul]
  refine Rn_ob (lw_run (fun m vs h' => ∃ i j J,m = j - i ∧ i ≤ r ∧ r ≤ j ∧ j ≤ n ∧ h' = h ∧ vs = .slice a n cap :: x1 :: x2 :: .int .i64 0 :: .bool false :: .int .i64 n :: .int .i64 i :: .int .i64 j :: J)
    (fun o => o.lg = [] ∧ o.h = h ∧ o.ex = .exit 0 ∧ ∃ J,o.vs = .slice a n cap :: x1 :: x2 :: .int .i64 0 :: .bool false :: .int .i64 n :: .int .i64 r :: J) (fun m vs h' hI => ?_) (n - 0) _ _ ⟨0,n,_,rfl,Nat.zero_le _,hr,Nat.le_refl _,rfl,rfl⟩) fun o ⟨hlo,e1,e2,J,hJ⟩ => ?_
  · obtain ⟨i,j,J,rfl,hir,hrj,hjn,rfl,rfl⟩ := hI
    unfold F_k199_L124
    by_cases hij : i < j
    · have hm1 : i ≤ (i + j) / 2 := by omega
      have hm2 : (i + j) / 2 < j := by omega
      generalize hk : (i + j) / 2 = k at hm1 hm2
      obtain ⟨q,hq1,hq2⟩ := hel k (by omega)
      have hcl := hcall k (by omega)
      have hck := hc k (by omega)
      have hlt : decide ((i : Int) < j) = true := by simpa using hij
      have hw : IntKind.i64.wrap ((k : Int) + 1) = ((k + 1 : Nat) : Int) := by rw [wrapI (by omega) (by omega)]; rfl
      cases hcd : decide (c k < 0)
      · simp -implicitDefEqProofs only [↓jn3,↓wsD,wsP,Nat.reduceBEq,reduceCtorEq,logOf,Nat.reduceAdd,Nat.reduceLeDiff,Nat.reduceMul,hlt,mid_eq (i := i) (j := j) (by omega),shr_eq,hk,cvI_nat (n := k) (by omega),hq1,hq2,hcl,hcd]
        have : ¬ c k < 0 := by simpa using hcd
        exact Rn.ret (.inl ⟨rfl,⟨k - i,by omega,i,k,_,rfl,hir,by omega,by omega,rfl,rfl⟩,fun o2 ⟨h1,h2⟩ => ⟨by simp [h1],h2⟩⟩)
      · simp -implicitDefEqProofs only [↓jn3,↓wsD,wsP,Nat.reduceBEq,reduceCtorEq,logOf,Nat.reduceAdd,Nat.reduceLeDiff,Nat.reduceMul,hlt,mid_eq (i := i) (j := j) (by omega),shr_eq,hk,cvI_nat (n := k) (by omega),hq1,hq2,hcl,hcd,hw]
        have : c k < 0 := by simpa using hcd
        exact Rn.ret (.inl ⟨rfl,⟨j - (k + 1),by omega,k + 1,j,_,rfl,by omega,by omega,by omega,rfl,rfl⟩,fun o2 ⟨h1,h2⟩ => ⟨by simp [h1],h2⟩⟩)
    · have hlt : decide ((i : Int) < j) = false := by simpa using hij
      simp -implicitDefEqProofs only [↓jn3,↓wsD,wsP,Nat.reduceBEq,reduceCtorEq,logOf,Nat.reduceAdd,Nat.reduceLeDiff,Nat.reduceMul,hlt]
      have : i = r := by omega
      subst this
      exact Rn.ret (.inr ⟨by simp,rfl,rfl,rfl,_,rfl⟩)
  · obtain ⟨ex,vs,h1,lg⟩ := o
    simp only at hlo e1 e2 hJ
    subst e1 hlo e2 hJ
    by_cases hrn : r < n
    · have hlt : decide ((r : Int) < n) = true := by simpa using hrn
      have hlt2 : decide (r < n) = true := by simpa using hrn
      obtain ⟨q,hq1,hq2⟩ := hel r hrn
      have hcl := hcall r hrn
      simp -implicitDefEqProofs only [↓jn3,↓wsD,wsP,Nat.reduceBEq,reduceCtorEq,logOf,Nat.reduceAdd,Nat.reduceLeDiff,Nat.reduceMul,wsF,hlt,hq1,hq2,hcl,hlt2,Nat.reduceBEq]
      exact Rn_low (by simp) rfl rfl
    · have hlt : decide ((r : Int) < n) = false := by simpa using hrn
      have hlt2 : decide (r < n) = false := by simpa using hrn
      simp -implicitDefEqProofs only [↓jn3,↓wsD,wsP,Nat.reduceBEq,reduceCtorEq,logOf,Nat.reduceAdd,Nat.reduceLeDiff,Nat.reduceMul,wsF,hlt,hlt2,Nat.reduceBEq]
      exact Rn_low (by simp) rfl rfl
end Go.L1


namespace Go.L1
open Go Go.Proofs
theorem icP_stp : CallLog icP := fun t args h v h1 lg hh => by
  obtain ⟨n,hn⟩ := ic_iff.1 hh
  exact icall_stp spec0_log n t args h v h1 lg hn
def slv (ob : Option Nat) (n : Nat) : Value := match ob with
  | none => .slice none 0 0
  | some b => .slice (some ⟨b,0,none⟩) n uc
theorem co_slv (ob : Option Nat) (n : Nat) : cellsOf (slv ob n) = some [slv ob n] := by cases ob <;> rfl
theorem rsT_slv (ob : Option Nat) (n : Nat) (r : Option (List Value)) : rsT (slv ob n) r = r.map (slv ob n :: ·) := by cases ob <;> rfl
theorem rLenL_slv {ob : Option Nat} {n : Nat} (h : ob = none → n = 0) : rLenL (slv ob n) = some (.int .i64 n) := by
  cases ob with
  | none => rw [h rfl]; rfl
  | some b => rfl
def own (h : H) (e : Nat) (ob : Option Nat) (cs : List Value) : Prop := match ob with
  | none => cs = []
  | some b => b < h.n ∧ ∃ J,h.get b = some (.cells (cs ++ J) e false)
theorem own.frame {h h1 : H} {e : Nat} {ob : Option Nat} {cs : List Value} (o : own h e ob cs) (hn : h.n ≤ h1.n) (hf : ∀ b,ob = some b → h1.get b = h.get b) : own h1 e ob cs := by
  cases ob with
  | none => exact o
  | some b =>
    obtain ⟨hb,J,e⟩ := o
    exact ⟨by omega,J,by rw [hf b rfl,e]⟩
theorem rApp_own {h : H} {e es bytes : Nat} {zero : List Value} {ob : Option Nat} {n : Nat} {cs : List Value} (o : own h e ob cs) (hl : cs.length = n * es) (hes : es ≠ 0) {xa : Option Addr} {m xc : Nat} {new : List Value} (hx : sliceCells h.get es xa m = some new) (hm : new.length = m * es)
    (hlim : (n + m) * (bytes + es + 1) ≤ lim) :
    Rn (rApp h e es bytes zero (slv ob n) (.slice xa m xc)) fun r => ∃ ob',r.1 = slv ob' (n + m) ∧ own r.2.1 e ob' (cs ++ new) ∧ ((ob' = ob ∧ (m ≠ 0 → ∃ b,ob = some b ∧ r.2.2 = [b])) ∨ ob' = some h.n) ∧ (∀ x ∈ r.2.2,ob = some x) ∧ Stp h r.2.1 r.2.2 := by
  have hst : ∀ r,rApp h e es bytes zero (slv ob n) (.slice xa m xc) = some r → Stp h r.2.1 r.2.2 := by
    intro r hr
    unfold rApp slv at hr
    simp only [hx,Option.map_some,Option.bind_some] at hr
    obtain ⟨v,h1,lg⟩ := r
    cases ob <;> exact rAppend_stp hr
  suffices Rn (rApp h e es bytes zero (slv ob n) (.slice xa m xc)) fun r => ∃ ob',r.1 = slv ob' (n + m) ∧ own r.2.1 e ob' (cs ++ new) ∧ ((ob' = ob ∧ (m ≠ 0 → ∃ b,ob = some b ∧ r.2.2 = [b])) ∨ ob' = some h.n) ∧ (∀ x ∈ r.2.2,ob = some x) by
    obtain ⟨r,e1,ob',e2,e3,e4,e5⟩ := this
    exact ⟨r,e1,ob',e2,e3,e4,e5,hst r e1⟩
  clear hst
  unfold rApp slv
  simp only [hx,Option.map_some,Option.bind_some,Option.bind]
  cases ob with
  | none =>
    cases o
    have hn : n = 0 := by
      simp only [List.length_nil] at hl
      rcases Nat.mul_eq_zero.1 hl.symm with h | h
      · exact h
      · exact absurd h hes
    subst hn
    simp only [rAppend,tyO,and_self,if_true,if_pos hlim]
    by_cases h0 : m = 0
    · subst h0
      rw [if_pos rfl]
      have : new = [] := List.length_eq_zero_iff.1 (by simpa using hm)
      subst this
      exact Rn.ret ⟨none,rfl,rfl,.inl ⟨rfl,fun h => absurd rfl h⟩,fun x hx => by simp at hx⟩
    · rw [if_neg h0]
      refine Rn.ret ⟨some h.n,by simp,⟨by simp [H.push],[],?_⟩,.inr rfl,fun x hx => by simp at hx⟩
      simp [H.get_push]
  | some b =>
    obtain ⟨hb,J,hg⟩ := o
    simp only [rAppend,tyO,if_pos hlim]
    by_cases h0 : m = 0
    · subst h0
      rw [if_pos rfl]
      have : new = [] := List.length_eq_zero_iff.1 (by simpa using hm)
      subst this
      exact Rn.ret ⟨some b,rfl,⟨hb,J,by simpa using hg⟩,.inl ⟨rfl,fun h => absurd rfl h⟩,fun x hx => by simp at hx⟩
    · rw [if_neg h0]
      simp only [hg,if_true,hes,ne_eq,not_false_eq_true,and_self]
      by_cases hr : n + m ≤ ((cs ++ J).length - 0) / es
      · simp only [hr,if_true]
        have hr2 : (n + m) * es ≤ (cs ++ J).length := by
          have := Nat.mul_le_of_le_div _ _ _ hr
          simpa using this
        have hjl : m * es ≤ J.length := by
          rw [List.length_append,hl,Nat.add_mul] at hr2; omega
        have hw : writeAt h b (0 + n * es) new = some (h.set b (.cells (cs ++ new ++ J.drop new.length) e false)) := by
          rw [writeAt_eq hg (by rw [List.length_append]; omega),Nat.zero_add,putAt_app hl.symm]
        rw [hw]
        refine Rn.ret ⟨some b,rfl,⟨hb,J.drop new.length,?_⟩,.inl ⟨rfl,fun _ => ⟨b,rfl,rfl⟩⟩,fun x hx => by simp at hx; rw [hx]⟩
        show (h.set b _).get b = _
        rw [H.get_set,if_pos rfl]
      · simp only [hr,if_false]
        have hsc : sliceCells h.get es (some ⟨b,0,none⟩) n = some cs := by
          rw [sliceCells_eq hg (by rw [List.length_append]; omega),List.drop_zero,← hl,List.take_left]
        rw [hsc]
        refine Rn.ret ⟨some h.n,rfl,⟨by simp [H.push,H.kill,H.n_set],[],?_⟩,.inr rfl,fun x hx => by simp at hx; rw [hx]⟩
        show ((h.kill b).push _).get h.n = _
        rw [H.get_push,if_pos (by rfl),List.append_nil]
theorem settle_grown {h h5 : H} {ob ob' : Option Nat} {k m : Nat} {lg : List Nat} {e : Nat} {cs : List Value} (o : own h e ob cs) (hm : m ≠ 0) (hk : k ≠ 0 → ob' ≠ none) (hk0 : k ≠ 0)
    (q : (ob' = ob ∧ (m ≠ 0 → ∃ b,ob = some b ∧ lg = [b])) ∨ ob' = some h.n) : settle h (slv ob' k) h5 lg = (slv ob' k,h5,lg.filter (· < h.n)) := by
  have : ((lg.filter (· < h.n)).isEmpty && belowV h.n 4 (slv ob' k)) = false := by
    rcases q with ⟨rfl,q⟩ | rfl
    · obtain ⟨b,rfl,rfl⟩ := q hm
      have hb : b < h.n := o.1
      simp [hb]
    · simp [slv,belowV]
  simp only [settle,this,Bool.false_eq_true,if_false]
end Go.L1


namespace Go.L1
open Go Go.Proofs
abbrev Pr := List UInt8 × Int
def pc1 (p : Pr) : List Value := [st p.1,.int .i64 p.2]
theorem pc1_len (p : Pr) : (pc1 p).length = 2 := rfl
def Srt (P : List Pr) : Prop := P.Pairwise fun a b => bytesLess a.1 b.1 = true
def rk : List Pr → List UInt8 → Nat
  | [],_ => 0
  | p :: P,s => if bytesLess p.1 s = true then rk P s + 1 else 0
theorem rk_le : ∀ (P : List Pr) (s : List UInt8),rk P s ≤ P.length
  | [],_ => Nat.le_refl _
  | p :: P,s => by
    unfold rk
    have := rk_le P s
    split <;> simp <;> omega
theorem rk_lt : ∀ {P : List Pr} {s : List UInt8},Srt P → ∀ {i : Nat} {p : Pr},P[i]? = some p → (bytesLess p.1 s = true ↔ i < rk P s)
  | [],_,_,_,_,h => by simp at h
  | q :: P,s,hs,0,p,h => by
    simp only [List.getElem?_cons_zero,Option.some.injEq] at h
    subst h
    unfold rk
    split <;> simp_all
  | q :: P,s,hs,i + 1,p,h => by
    simp only [List.getElem?_cons_succ] at h
    obtain ⟨h1,h2⟩ := List.pairwise_cons.1 hs
    have ih := rk_lt (s := s) h2 h
    unfold rk
    split
    · rw [ih]; omega
    · rename_i hq
      constructor
      · intro hp
        exact absurd (bl_trans (h1 p (List.mem_of_getElem? h)) hp) hq
      · intro hp; omega
def hasP (P : List Pr) (s : List UInt8) : Bool := (P[rk P s]?).any fun p => p.1 == s
def getP (P : List Pr) (s : List UInt8) : Int := if hasP P s then ((P[rk P s]?).map Prod.snd).getD 0 else 0
def putP (P : List Pr) (s : List UInt8) (n : Int) : List Pr := if hasP P s then P.set (rk P s) (s,n) else P.take (rk P s) ++ [(s,n)] ++ P.drop (rk P s)
def delP (P : List Pr) (s : List UInt8) : List Pr := if hasP P s then P.take (rk P s) ++ P.drop (rk P s + 1) else P
structure OmR (h : H) (mb : Nat) (P : List Pr) (F : Nat → Prop) : Prop where
  lt : mb < h.n
  fm : F mb
  len : P.length < 500000
  srt : Srt P
  blk : ∃ ob,h.get mb = some (.cells [.func (.func N_k183) #[] #[],slv ob P.length] T_omap_Map_string_int false) ∧ own h T_omap_pair_string_int ob (P.flatMap pc1) ∧ ∀ b,ob = some b → b ≠ mb ∧ F b
theorem OmR.frame {h h1 : H} {mb : Nat} {P : List Pr} {F : Nat → Prop} (o : OmR h mb P F) (hn : h.n ≤ h1.n) (hf : ∀ b,b < h.n → F b → h1.get b = h.get b) : OmR h1 mb P F := by
  obtain ⟨ob,h2,h3,h4⟩ := o.blk
  refine ⟨by have := o.lt; omega,o.fm,o.len,o.srt,ob,by rw [hf mb o.lt o.fm,h2],h3.frame hn fun b e => ?_,h4⟩
  subst e
  exact hf b h3.1 (h4 b rfl).2
theorem OmR.mono {h : H} {mb : Nat} {P : List Pr} {F F' : Nat → Prop} (o : OmR h mb P F) (hf : ∀ b,F b → F' b) : OmR h mb P F' := by
  obtain ⟨ob,h2,h3,h4⟩ := o.blk
  exact ⟨o.lt,hf _ o.fm,o.len,o.srt,ob,h2,h3,fun b e => ⟨(h4 b e).1,hf _ (h4 b e).2⟩⟩
theorem OmR.bd {h : H} {mb : Nat} {P : List Pr} {F : Nat → Prop} (o : OmR h mb P F) : OmR h mb P (fun b => F b ∧ b < h.n) := by
  obtain ⟨ob,h2,h3,h4⟩ := o.blk
  refine ⟨o.lt,⟨o.fm,o.lt⟩,o.len,o.srt,ob,h2,h3,fun b e => ⟨(h4 b e).1,(h4 b e).2,?_⟩⟩
  subst e
  exact h3.1
theorem cmpB_lt (a b : List UInt8) : cmpB a b < 0 ↔ bytesLess a b = true := by
  unfold cmpB
  split
  · simp_all
  · split <;> simp_all
theorem cmpB_0 {a b : List UInt8} (h : bytesLess a b = false) : (cmpB a b == 0) = (a == b) := by
  unfold cmpB
  rw [h]
  simp only [Bool.false_eq_true,if_false]
  split <;> simp_all
theorem c_find1 (p : Pr) (s : List UInt8) {h : H} {vb mb : Nat} {v : Value} (hv : vb < h.n) (hm : mb < h.n) (hb : h.get vb = some (.cells [.pointer (some ⟨mb,0,none⟩)] T_Pomap_Map_string_int false))
    (hg : h.get mb = some (.cells [.func (.func N_k183) #[] #[],v] T_omap_Map_string_int false)) :
    icP (.fn N_k200) [.agg (pc1 p).toArray,st s,.pointer (some ⟨vb,0,none⟩)] h = some (.int .i64 (cmpB p.1 s),h,[]) := by
  refine Rn.eq (Rn.up (fun _ => ic_k200 rfl _ _ _) ?_)
  unfold F_k200
  have e1 : ∀ n,aBx n T_omap_pair_string_int 2 (.agg #[st p.1,.int .i64 p.2]) = some (.pointer (some ⟨n,0,none⟩),.cells [st p.1,.int .i64 p.2] T_omap_pair_string_int false) := fun _ => rfl
  simp -implicitDefEqProofs only [↓jn3,↓wsD,wsP,Nat.reduceBEq,reduceCtorEq,logOf,Nat.reduceAdd,Nat.reduceLeDiff,Nat.reduceMul,co_slv,e1,Nat.ne_of_lt hv,Nat.ne_of_lt hm,hb,hg,c_cmp,pc1,rdP,rdL]
  exact Rn_low (by simp) rfl rfl
theorem find_at {P : List Pr} {i : Nat} {p : Pr} (hp : P[i]? = some p) {h : H} {b : Nat} {J : List Value} {n : Nat} (hn : n = P.length) (hg : h.get b = some (.cells (P.flatMap pc1 ++ J) T_omap_pair_string_int false)) :
    rIdxS 2 (slv (some b) n) (.int .i64 (i : Int)) = some (.pointer (some ⟨b,0 + i * 2,none⟩)) ∧ rLdA h.get 2 (.pointer (some ⟨b,0 + i * 2,none⟩)) = some (.agg (pc1 p).toArray) ∧
    rLd1 h.get (.pointer (some ⟨b,0 + i * 2 + 1,none⟩)) = some (.int .i64 p.2) := by
  subst hn
  obtain ⟨hi,_⟩ := List.getElem?_eq_some_iff.1 hp
  obtain ⟨h1,h2⟩ := flat_row pc1_len hp J
  refine ⟨by simp [slv,rIdxS,idxN_nat,hi],?_,?_⟩
  · rw [rLdA_u,hg,cO_c,Nat.zero_add]
    simp only [Option.bind_some]
    rw [if_pos h1,h2]
  · rw [rLd1_u,hg,cO_c,Nat.zero_add]
    simp only [Option.bind_some]
    rw [flat_cell pc1_len hp (by omega)]
    rfl
theorem c_find {h : H} {mb : Nat} {P : List Pr} {F : Nat → Prop} (o : OmR h mb P F) (s : List UInt8) :
    icP (.fn N_k184) [.pointer (some ⟨mb,0,none⟩),st s] h = some (.tuple [.int .i64 (rk P s : Int),.bool (hasP P s)].toArray,h,[]) := by
  refine Rn.eq (Rn.up (fun _ => ic_k184 rfl _ _) ?_)
  unfold F_k184
  obtain ⟨ob,h2,h3,h4⟩ := o.blk
  have e1 : ∀ n,aBx n T_Pomap_Map_string_int 1 (.pointer (some ⟨mb,0,none⟩)) = some (.pointer (some ⟨n,0,none⟩),.cells [.pointer (some ⟨mb,0,none⟩)] T_Pomap_Map_string_int false) := fun _ => rfl
  have e2 : ∀ n,oFunc N_k200 #[] #[.pointer (some ⟨n,0,none⟩)] = some (.func (.func N_k200) #[] #[.pointer (some ⟨n,0,none⟩)]) := fun _ => rfl
  have hlt := Nat.ne_of_lt o.lt
  simp -implicitDefEqProofs only [↓jn3,↓wsD,wsP,Nat.reduceBEq,reduceCtorEq,logOf,Nat.reduceAdd,Nat.reduceLeDiff,Nat.reduceMul,co_slv,e1,e2,hlt,h2]
  generalize hh : h.push (.cells [.pointer (some ⟨mb,0,none⟩)] T_Pomap_Map_string_int false) = h1
  have hg1 : h1.get h.n = some (.cells [.pointer (some ⟨mb,0,none⟩)] T_Pomap_Map_string_int false) := by rw [← hh,H.get_push,if_pos rfl]
  have hg2 : h1.get mb = some (.cells [.func (.func N_k183) #[] #[],slv ob P.length] T_omap_Map_string_int false) := by rw [← hh,H.get_push,if_neg hlt,h2]
  have hn1 : h1.n = h.n + 1 := by rw [← hh]; rfl
  obtain ⟨a,cap,hsl⟩ : ∃ a cap,slv ob P.length = .slice a P.length cap := by
    cases ob with
    | none =>
      have : P.length = 0 := by
        have h3 : P.flatMap pc1 = [] := h3
        have := flat_len pc1_len P
        rw [h3,List.length_nil] at this; omega
      rw [this]; exact ⟨none,0,rfl⟩
    | some b => exact ⟨_,_,rfl⟩
  have hhas : (decide (rk P s < P.length) && (match P[rk P s]? with | some p => cmpB p.1 s | none => 0) == 0) = hasP P s := by
    unfold hasP
    cases hp : P[rk P s]? with
    | none =>
      have : ¬ rk P s < P.length := fun h => by rw [List.getElem?_eq_getElem h] at hp; cases hp
      simp [this]
    | some p =>
      have : rk P s < P.length := (List.getElem?_eq_some_iff.1 hp).1
      have hb : bytesLess p.1 s = false := by
        rw [Bool.eq_false_iff]; intro hb
        exact Nat.lt_irrefl _ ((rk_lt o.srt hp).1 hb)
      simp [this,cmpB_0 hb]
  have hbs := c_bs (x1 := st s) (x2 := .func (.func N_k200) #[] #[.pointer (some ⟨h.n,0,none⟩)]) (h := h1) hsl (fun i => match P[i]? with | some p => .agg (pc1 p).toArray | none => .nilFunc) (fun i => match P[i]? with | some p => cmpB p.1 s | none => 0) (rk P s) (rk_le P s)
    (by have := o.len; omega) (fun i hi => ?_) (fun i hi => ?_) (fun i hi => ?_)
  · simp -implicitDefEqProofs only [↓jn3,↓wsD,wsP,Nat.reduceBEq,reduceCtorEq,logOf,Nat.reduceAdd,Nat.reduceLeDiff,Nat.reduceMul,co_slv,wsF,hbs,hg1,hg2]
    rw [hhas]
    exact Rn_low (by simp) rfl rfl
  · obtain ⟨p,hp⟩ : ∃ p,P[i]? = some p := ⟨_,List.getElem?_eq_getElem hi⟩
    cases ob with
    | none =>
      have h3 : P.flatMap pc1 = [] := h3
      have := flat_len pc1_len P
      rw [h3,List.length_nil] at this; omega
    | some b =>
      obtain ⟨hb,J,hg⟩ := h3
      have hgb : h1.get b = some (.cells (P.flatMap pc1 ++ J) T_omap_pair_string_int false) := by rw [← hh,H.get_push,if_neg (by omega),hg]
      obtain ⟨e3,e4,_⟩ := find_at hp rfl hgb
      simp only [hp]
      exact ⟨_,e3,e4⟩
  · obtain ⟨p,hp⟩ : ∃ p,P[i]? = some p := ⟨_,List.getElem?_eq_getElem hi⟩
    simp only [hp,callV_f]
    exact c_find1 p s (by omega) (by have := o.lt; omega) hg1 hg2
  · obtain ⟨p,hp⟩ : ∃ p,P[i]? = some p := ⟨_,List.getElem?_eq_getElem hi⟩
    simp only [hp]
    rw [cmpB_lt]
    exact rk_lt o.srt hp
theorem c_get {h : H} {mb : Nat} {P : List Pr} {F : Nat → Prop} (o : OmR h mb P F) (s : List UInt8) :
    icP (.fn N_k146) [.pointer (some ⟨mb,0,none⟩),st s] h = some (.tuple [.int .i64 (getP P s),.bool (hasP P s)].toArray,h,[]) := by
  refine Rn.eq (Rn.up (fun _ => ic_k146 rfl _ _) ?_)
  unfold F_k146 getP
  have hf := c_find o s
  obtain ⟨ob,h2,h3,h4⟩ := o.blk
  cases hh : hasP P s
  · simp -implicitDefEqProofs only [↓jn3,↓wsD,wsP,Nat.reduceBEq,reduceCtorEq,logOf,Nat.reduceAdd,Nat.reduceLeDiff,Nat.reduceMul,co_slv,wsF,hf,hh]
    exact Rn_low (by simp) rfl rfl
  · obtain ⟨p,hp⟩ : ∃ p,P[rk P s]? = some p := by
      unfold hasP at hh
      cases hp : P[rk P s]? with
      | none => rw [hp] at hh; cases hh
      | some p => exact ⟨p,rfl⟩
    cases ob with
    | none =>
      have h3 : P.flatMap pc1 = [] := h3
      have := flat_len pc1_len P
      rw [h3,List.length_nil] at this; have := (List.getElem?_eq_some_iff.1 hp).1; omega
    | some b =>
      obtain ⟨hb,J,hg⟩ := h3
      obtain ⟨e3,e4,e5⟩ := find_at hp rfl hg
      simp only [Nat.zero_add] at e3 e5
      simp -implicitDefEqProofs only [↓jn3,↓wsD,wsP,Nat.reduceBEq,reduceCtorEq,logOf,Nat.reduceAdd,Nat.reduceLeDiff,Nat.reduceMul,co_slv,wsF,hf,hh,h2,e3,e5,hg]
      simp only [rLd1_u,hg,cO_c,Option.bind_some] at e5
      simp only [hp,e5,Option.map_some,Option.getD_some,wsF]
      exact Rn_low (by simp) rfl rfl
end Go.L1


namespace Go.L1
open Go Go.Proofs
theorem Rn_mut {h0 h : H} {v : Value} {lg : List Nat} {Q : Value × H × List Nat → Prop} (x : Nat) (hx : x ∈ lg) (hl : x < h0.n) (hq : ∀ l,(∀ y ∈ l,y ∈ lg ∧ y < h0.n) → x ∈ l → Q (v,h,l)) : Rn (some (settle h0 v h lg)) Q := by
  have hm : x ∈ lg.filter (· < h0.n) := List.mem_filter.2 ⟨hx,by simpa using hl⟩
  have e : (lg.filter (· < h0.n)).isEmpty = false := by
    cases hf : lg.filter (· < h0.n) with
    | nil => rw [hf] at hm; cases hm
    | cons a l => rfl
  refine ⟨_,rfl,?_⟩
  simp only [settle,e,Bool.false_and,Bool.false_eq_true,if_false]
  exact hq _ (fun y hy => ⟨(List.mem_filter.1 hy).1,by simpa using (List.mem_filter.1 hy).2⟩) hm
theorem hasP_some {P : List Pr} {s : List UInt8} (h : hasP P s = true) : ∃ p,P[rk P s]? = some p ∧ p.1 = s := by
  unfold hasP at h
  cases hp : P[rk P s]? with
  | none => rw [hp] at h; cases h
  | some p => rw [hp] at h; exact ⟨p,rfl,by simpa using h⟩
theorem ob_some_of {h : H} {P : List Pr} {ob : Option Nat} {i : Nat} {p : Pr} (hp : P[i]? = some p) (o : own h T_omap_pair_string_int ob (P.flatMap pc1)) : ∃ b,ob = some b := by
  cases ob with
  | none =>
    have h3 : P.flatMap pc1 = [] := o
    have := flat_len pc1_len P
    rw [h3,List.length_nil] at this
    have := (List.getElem?_eq_some_iff.1 hp).1
    omega
  | some b => exact ⟨b,rfl⟩
theorem set_flat {α : Type} {f : α → List Value} {m : Nat} (hf : ∀ a,(f a).length = m) {l : List α} {i : Nat} {a : α} (hi : i < l.length) (J : List Value) : putAt (l.flatMap f ++ J) (i * m) (f a) = (l.set i a).flatMap f ++ J := by
  have h1 : i * m + m ≤ l.length * m := by rw [← Nat.succ_mul]; exact Nat.mul_le_mul_right _ hi
  have hl := flat_len hf l
  unfold putAt
  rw [List.take_append_of_le_length (by omega),flat_take hf,hf,← Nat.succ_mul,List.drop_append_of_le_length (by rw [Nat.succ_mul]; omega),flat_drop hf,List.set_eq_take_append_cons_drop,if_pos hi,List.flatMap_append,List.flatMap_cons]
  simp
theorem srt_set {P : List Pr} {i : Nat} {p : Pr} (hs : Srt P) (hp : P[i]? = some p) (n : Int) : Srt (P.set i (p.1,n)) := by
  unfold Srt at hs ⊢
  rw [List.pairwise_iff_getElem] at hs ⊢
  intro a b ha hb hab
  obtain ⟨hi,rfl⟩ := List.getElem?_eq_some_iff.1 hp
  rw [List.length_set] at ha hb
  simp only [List.getElem_set]
  have h1 := hs a b ha hb hab
  split <;> split
  · omega
  · subst_vars; simpa using h1
  · subst_vars; simpa using h1
  · exact h1
theorem srt_ins {P : List Pr} {s : List UInt8} (hs : Srt P) (hh : hasP P s = false) (n : Int) : Srt (P.take (rk P s) ++ [(s,n)] ++ P.drop (rk P s)) := by
  have hge : ∀ {i : Nat} {p : Pr},P[i]? = some p → rk P s ≤ i → bytesLess s p.1 = true := by
    intro i p hp hi
    have hb : bytesLess p.1 s = false := by
      rw [Bool.eq_false_iff]; intro hb
      have := (rk_lt hs hp).1 hb
      omega
    refine bl_tri hb fun e => ?_
    subst e
    rcases Nat.lt_or_eq_of_le hi with h1 | h1
    · obtain ⟨q,hq⟩ : ∃ q,P[rk P p.1]? = some q := ⟨_,List.getElem?_eq_getElem (by have := (List.getElem?_eq_some_iff.1 hp).1; omega)⟩
      have h2 : bytesLess q.1 p.1 = true := by
        obtain ⟨ha,rfl⟩ := List.getElem?_eq_some_iff.1 hq
        obtain ⟨hc,rfl⟩ := List.getElem?_eq_some_iff.1 hp
        exact (List.pairwise_iff_getElem.1 hs) _ _ ha hc h1
      exact Nat.lt_irrefl _ ((rk_lt hs hq).1 h2)
    · subst h1
      unfold hasP at hh
      rw [hp] at hh
      simp at hh
  unfold Srt at hs ⊢
  rw [List.pairwise_append,List.pairwise_append]
  refine ⟨⟨hs.sublist (List.take_sublist _ _),List.pairwise_singleton _ _,fun a ha b hb => ?_⟩,hs.sublist (List.drop_sublist _ _),fun a ha b hb => ?_⟩
  · rw [List.mem_singleton.1 hb]
    obtain ⟨j,hj⟩ := List.getElem?_of_mem ha
    rw [List.getElem?_take] at hj
    split at hj
    · exact (rk_lt hs hj).2 (by assumption)
    · cases hj
  · obtain ⟨j,hj⟩ := List.getElem?_of_mem hb
    rw [List.getElem?_drop] at hj
    have hsb := hge hj (by omega)
    rcases List.mem_append.1 ha with ha | ha
    · obtain ⟨i,hi⟩ := List.getElem?_of_mem ha
      rw [List.getElem?_take] at hi
      split at hi
      · exact bl_trans ((rk_lt hs hi).2 (by assumption)) hsb
      · cases hi
    · rw [List.mem_singleton.1 ha]; exact hsb
theorem srt_del {P : List Pr} {i : Nat} (hs : Srt P) : Srt (P.take i ++ P.drop (i + 1)) := by
  rw [← List.eraseIdx_eq_take_drop_succ]
  exact hs.sublist (List.eraseIdx_sublist _ _)
theorem putP_len {P : List Pr} {s : List UInt8} {n : Int} : (putP P s n).length ≤ P.length + 1 := by
  unfold putP
  have := rk_le P s
  split <;> simp <;> omega
theorem c_put {h : H} {mb : Nat} {P : List Pr} {F : Nat → Prop} (o : OmR h mb P F) (hlen : P.length < 400000) (s : List UInt8) (n : Int) :
    Rn (icP (.fn N_k147) [.pointer (some ⟨mb,0,none⟩),st s,.int .i64 n] h) fun r => (∃ b,r.1 = .bool b) ∧ (∀ x ∈ r.2.2,F x ∧ x < h.n) ∧ r.2.2 ≠ [] ∧ OmR r.2.1 mb (putP P s n) (fun b => F b ∨ h.n ≤ b) := by
  refine Rn.up (fun _ => ic_k147 rfl _ _ _) ?_
  unfold F_k147
  have hf := c_find o s
  obtain ⟨ob,h2,h3,h4⟩ := o.blk
  cases hh : hasP P s
  · -- a new one
    have e1 : oBuild pgB T_omap_pair_string_int [(0,st s),(1,.int .i64 n)] = some (.agg #[st s,.int .i64 n]) := by kernel_rfl
    have e2 : ∀ k,aBuildS pgB k T_Lomap_pair_string_int 1 [(0,.agg #[st s,.int .i64 n])] = some (.slice (some ⟨k,0,none⟩) 1 1,.cells [st s,.int .i64 n] T_omap_pair_string_int false) := fun _ => by kernel_rfl
    have hsp : ∀ args h r,insS T_omap_pair_string_int 2 24 [(.string ⟨#[]⟩),(.int .i64 0)] args h = some r → icP (.fn N_k185) args h = some r := fun args h r => ic_spec (p := P0) (by rfl)
    simp -implicitDefEqProofs only [↓jn3,↓wsD,wsP,Nat.reduceBEq,reduceCtorEq,logOf,Nat.reduceAdd,Nat.reduceLeDiff,Nat.reduceMul,co_slv,hf,hh,h2,e1,e2]
    generalize hh1 : h.push (.cells [st s,.int .i64 n] T_omap_pair_string_int false) = h1
    have hn1 : h1.n = h.n + 1 := by rw [← hh1]; rfl
    have hg1 : ∀ b,b < h.n → h1.get b = h.get b := fun b hb => by rw [← hh1,H.get_push,if_neg (by omega)]
    have hgn : h1.get h.n = some (.cells [st s,.int .i64 n] T_omap_pair_string_int false) := by rw [← hh1,H.get_push,if_pos rfl]
    have hml := o.lt
    have h31 : own h1 T_omap_pair_string_int ob (P.flatMap pc1) := h3.frame (by omega) fun b e => by subst e; exact hg1 b h3.1
    have hl2 := flat_len pc1_len P
    -- what Insert does
    have key : Rn (icP (.fn N_k185) [slv ob P.length,.int .i64 (rk P s : Int),.slice (some ⟨h.n,0,none⟩) 1 1] h1) fun r => ∃ b',r.1 = slv (some b') (P.length + 1) ∧ (ob = some b' ∨ h.n < b') ∧ (∀ x ∈ r.2.2,ob = some x) ∧
        own r.2.1 T_omap_pair_string_int (some b') ((P.take (rk P s) ++ [(s,n)] ++ P.drop (rk P s)).flatMap pc1) := by
      refine Rn.up (hsp _ _) ?_
      have hsx : sliceCells h1.get 2 (some ⟨h.n,0,none⟩) 1 = some [st s,.int .i64 n] := by rw [sliceCells_eq hgn (by simp)]; rfl
      by_cases hr : rk P s = P.length
      · obtain ⟨⟨v,h5,lg⟩,e5,ob',q1,q2,q3,q4,q5⟩ := rApp_own (es := 2) (bytes := 24) (zero := [(.string ⟨#[]⟩),(.int .i64 0)]) (n := P.length) (m := 1) (xc := 1) (new := [st s,.int .i64 n]) h31 hl2 (by omega) hsx rfl (by simp only [lim]; omega)
        simp only at q1 q2 q3 q4 q5
        subst q1
        obtain ⟨b',rfl⟩ : ∃ b',ob' = some b' := by
          cases ob' with
          | none =>
            have q2 : _ ++ _ = _ := q2
            simp at q2
          | some b' => exact ⟨b',rfl⟩
        have ei : insS T_omap_pair_string_int 2 24 [(.string ⟨#[]⟩),(.int .i64 0)] [slv ob P.length,.int .i64 (rk P s : Int),.slice (some ⟨h.n,0,none⟩) 1 1] h1 = some (settle h1 (slv (some b') (P.length + 1)) h5 lg) := by
          rw [hr]
          cases ob with
          | none =>
            have hP : P.length = 0 := by
              have h3 : P.flatMap pc1 = [] := h3
              rw [h3,List.length_nil] at hl2; omega
            rw [hP] at e5 ⊢
            simp only [slv] at e5
            simp only [insS,slv,e5]; rfl
          | some b =>
            simp only [slv] at e5
            simp only [insS,slv,e5]; rfl
        rw [ei]
        have hcs : (P.take (rk P s) ++ [(s,n)] ++ P.drop (rk P s)).flatMap pc1 = P.flatMap pc1 ++ [st s,.int .i64 n] := by
          rw [hr,List.take_length,List.drop_length,List.append_nil,List.flatMap_append]; rfl
        rw [settle_grown h31 (by omega) (fun _ => by simp) (by omega) q3]
        refine ⟨_,rfl,b',rfl,?_,fun y hy => q4 y (List.mem_filter.1 hy).1,by rw [hcs]; exact q2⟩
        rcases q3 with ⟨e,_⟩ | e
        · exact .inl e.symm
        · cases e; exact .inr (by omega)
      · have hrl : rk P s < P.length := by have := rk_le P s; omega
        obtain ⟨p,hp⟩ : ∃ p,P[rk P s]? = some p := ⟨_,List.getElem?_eq_getElem hrl⟩
        obtain ⟨b,rfl⟩ := ob_some_of hp h31
        obtain ⟨hb,J,hJ⟩ := h31
        have hb3 : b < h.n := h3.1
        have ei : insS T_omap_pair_string_int 2 24 [(.string ⟨#[]⟩),(.int .i64 0)] [slv (some b) P.length,.int .i64 (rk P s : Int),.slice (some ⟨h.n,0,none⟩) 1 1] h1 =
            some (slv (some h1.n) (P.length + 1),(h1.kill b).push (.cells ((P.take (rk P s) ++ [(s,n)] ++ P.drop (rk P s)).flatMap pc1) T_omap_pair_string_int false),[b]) := by
          have c1 : ¬ ((rk P s : Int) = (P.length : Int)) := by omega
          have c2 : 0 ≤ (rk P s : Int) ∧ (rk P s : Int) < (P.length : Int) := by omega
          have c3 : P.length * 2 ≤ (P.flatMap pc1 ++ J).length := by rw [List.length_append,hl2]; omega
          have c4 : b ≠ h.n := by omega
          have c5 : P.length + 1 ≤ 1048576 := by omega
          simp only [insS,slv,c1,if_false,c2,and_self,if_true,hJ,hgn,c3,c4,ne_eq,not_false_eq_true,c5,List.length_cons,List.length_nil,Nat.reduceAdd,Nat.zero_add,Nat.le_refl]
          have d1 : ((P.flatMap pc1 ++ J).drop 0).take (rk P s * 2) = (P.take (rk P s)).flatMap pc1 := by
            rw [List.drop_zero,List.take_append_of_le_length (by rw [hl2]; omega),flat_take pc1_len]
          have d2 : (((P.flatMap pc1 ++ J).drop 0).take (P.length * 2)).drop (rk P s * 2) = (P.drop (rk P s)).flatMap pc1 := by
            rw [List.drop_zero,← hl2,List.take_left,flat_drop pc1_len]
          simp only [Int.toNat_natCast]
          rw [d1,d2]
          simp [pc1]
        rw [ei]
        have hkn : (h1.kill b).n = h1.n := rfl
        refine ⟨_,rfl,h1.n,rfl,.inr (by omega),fun x hx => by simp at hx; rw [hx],?_,[],?_⟩
        · show h1.n < (h1.kill b).n + 1
          omega
        · show ((h1.kill b).push _).get h1.n = _
          rw [H.get_push,if_pos hkn.symm,List.append_nil]
    obtain ⟨⟨v,h5,lg⟩,e5,b',q1,q2,q3,q4⟩ := key
    have hst := icP_stp _ _ _ _ _ _ e5
    simp only at q1 q2 q3 q4
    subst q1
    have hle := hst.le
    have hmb5 : h5.get mb = some (.cells [.func (.func N_k183) #[] #[],slv ob P.length] T_omap_Map_string_int false) := by
      rw [hst.same mb (by omega) (fun hm => (h4 mb (q3 mb hm)).1 rfl),hg1 mb hml,h2]
    have hnm : mb ≠ b' := by
      rcases q2 with e | e
      · exact Ne.symm (h4 b' e).1
      · omega
    have hlen2 : (P.take (rk P s) ++ [(s,n)] ++ P.drop (rk P s)).length = P.length + 1 := by
      have := rk_le P s
      simp; omega
    simp -implicitDefEqProofs only [↓jn3,↓wsD,wsP,Nat.reduceBEq,reduceCtorEq,logOf,Nat.reduceAdd,Nat.reduceLeDiff,Nat.reduceMul,co_slv,wsF,e5,hmb5,Option.map_some]
    refine Rn_mut mb (by simp) hml fun l hl hm => ⟨⟨_,rfl⟩,fun x hx => ⟨?_,(hl x hx).2⟩,List.ne_nil_of_mem hm,by simp only [H.n_set]; omega,.inl o.fm,?_,?_,some b',?_,⟨?_,?_⟩,?_⟩
    · have := hl x hx
      simp only [List.mem_append,List.mem_cons,List.not_mem_nil,or_false] at this
      rcases this.1 with rfl | h
      · exact o.fm
      · exact (h4 x (q3 x h)).2
    · simp only [putP,hh,Bool.false_eq_true,if_false,hlen2]; omega
    · simp only [putP,hh,Bool.false_eq_true,if_false]; exact srt_ins o.srt hh n
    · show (h5.set mb _).get mb = _
      rw [H.get_set,if_pos rfl]
      simp only [putP,hh,Bool.false_eq_true,if_false,hlen2,slv]
    · exact q4.1
    · obtain ⟨J,hJ⟩ := q4.2
      refine ⟨J,?_⟩
      show (h5.set mb _).get b' = _
      rw [H.get_set,if_neg (Ne.symm hnm),hJ]
      simp only [putP,hh,Bool.false_eq_true,if_false]
    · intro b e
      cases e
      refine ⟨Ne.symm hnm,?_⟩
      rcases q2 with e | e
      · exact .inl (h4 b' e).2
      · exact .inr (by omega)
  · -- one that is there
    obtain ⟨p,hp,rfl⟩ := hasP_some hh
    obtain ⟨b,rfl⟩ := ob_some_of hp h3
    obtain ⟨hb,J,hg⟩ := h3
    obtain ⟨e3,e4,e5⟩ := find_at hp rfl hg
    obtain ⟨hi,hpi⟩ := List.getElem?_eq_some_iff.1 hp
    have hl2 := flat_len pc1_len P
    simp only [Nat.zero_add] at e3
    have hc : rk P p.1 * 2 + 1 + 1 ≤ (P.flatMap pc1 ++ J).length := by rw [List.length_append,hl2]; omega
    have hw : putAt (P.flatMap pc1 ++ J) (rk P p.1 * 2 + 1) [.int .i64 n] = (P.set (rk P p.1) (p.1,n)).flatMap pc1 ++ J := by
      rw [← set_flat pc1_len hi J]
      obtain ⟨r1,r2⟩ := flat_row pc1_len hp J
      have hd := flat_cell (j := 0) pc1_len hp (by omega) J
      unfold putAt
      rw [List.take_succ,← Nat.add_zero (rk P p.1 * 2),hd]
      simp [pc1]
    simp -implicitDefEqProofs only [↓jn3,↓wsD,wsP,Nat.reduceBEq,reduceCtorEq,logOf,Nat.reduceAdd,Nat.reduceLeDiff,Nat.reduceMul,co_slv,wsF,hf,hh,h2,e3,hg,hc,hw,Option.map_some]
    refine Rn_mut b (by simp) hb fun l hl hm => ⟨⟨_,rfl⟩,fun x hx => ⟨?_,(hl x hx).2⟩,List.ne_nil_of_mem hm,o.lt,.inl o.fm,?_,?_,some b,?_,⟨hb,J,?_⟩,?_⟩
    · have := (hl x hx).1
      simp only [List.mem_cons,List.not_mem_nil,or_false] at this
      subst this; exact (h4 x rfl).2
    · simp only [putP,hh,if_true,List.length_set]; exact o.len
    · simp only [putP,hh,if_true]; exact srt_set o.srt hp n
    · show (h.set b _).get mb = _
      rw [H.get_set,if_neg (Ne.symm (h4 b rfl).1),h2]
      simp only [putP,hh,if_true,List.length_set]
    · show (h.set b _).get b = _
      rw [H.get_set,if_pos rfl]
      simp only [putP,hh,if_true]
    · intro c e; cases e
      exact ⟨(h4 b rfl).1,.inl (h4 b rfl).2⟩
end Go.L1


namespace Go.L1
open Go Go.Proofs
theorem n20 : ¬ (2 : Nat) = 0 := by decide
theorem c_delete {h : H} {b : Nat} {P : List Pr} {J : List Value} {i : Nat} (hb : b < h.n) (hg : h.get b = some (.cells (P.flatMap pc1 ++ J) T_omap_pair_string_int false)) (hi : i < P.length) (hlen : P.length < 500000) :
    Rn (icP (.fn N_k186) [slv (some b) P.length,.int .i64 (i : Int),.int .i64 ((i + 1 : Nat) : Int)] h) fun r => r.1 = slv (some b) (P.length - 1) ∧ (∀ x ∈ r.2.2,x = b) ∧
      own r.2.1 T_omap_pair_string_int (some b) ((P.take i ++ P.drop (i + 1)).flatMap pc1) := by
  refine Rn.up (fun _ => ic_k186 rfl _ _ _) ?_
  unfold F_k186
  have hl2 := flat_len pc1_len P
  have hroom : P.length ≤ (P.flatMap pc1 ++ J).length / 2 := by rw [List.length_append,hl2]; omega
  have r1 : rSl h.get T_omap_pair_string_int 2 (slv (some b) P.length) (some (.int .i64 (i : Int))) (some (.int .i64 ((i + 1 : Nat) : Int))) (some (.int .i64 (P.length : Int))) = some (.slice (some ⟨b,i * 2,none⟩) (i + 1 - i) (P.length - i)) := by
    have : P.length < uc := by unfold uc; omega
    simp only [Nat.zero_add,Nat.sub_zero,rSl,slv,rSlice,optIdx,idxN_nat,roomOf,if_true,hg,ne_eq,n20,not_false_eq_true,and_self]
    have c : i ≤ i + 1 ∧ i + 1 ≤ P.length ∧ P.length ≤ max P.length ((P.flatMap pc1 ++ J).length / 2) ∧ P.length < uc := ⟨by omega,by omega,Nat.le_max_left _ _,this⟩
    simp only [c,and_self,if_true]
  have r2 : rSl h.get T_omap_pair_string_int 2 (slv (some b) P.length) none (some (.int .i64 (i : Int))) none = some (slv (some b) i) := by
    simp only [Nat.zero_add,Nat.sub_zero,rSl,slv,rSlice,optIdx,idxN_nat,roomOf,if_true,hg,ne_eq,n20,not_false_eq_true,and_self]
    have c : 0 ≤ i ∧ i ≤ max P.length ((P.flatMap pc1 ++ J).length / 2) := ⟨by omega,Nat.le_trans (Nat.le_of_lt hi) (Nat.le_max_left _ _)⟩
    simp only [c,and_self,if_true,Nat.zero_mul,Nat.add_zero,Nat.sub_zero]
  have r3 : rSl h.get T_omap_pair_string_int 2 (slv (some b) P.length) (some (.int .i64 ((i + 1 : Nat) : Int))) none none = some (.slice (some ⟨b,(i + 1) * 2,none⟩) (P.length - (i + 1)) uc) := by
    simp only [slv]
    rw [rSl_lo_uc (i + 1) hg (by omega) (by omega),Nat.zero_add]
  have hne : ((i : Int) == ((i + 1 : Nat) : Int)) = false := by simp; omega
  have hsx : sliceCells h.get 2 (some ⟨b,(i + 1) * 2,none⟩) (P.length - (i + 1)) = some ((P.drop (i + 1)).flatMap pc1) := by
    rw [sliceCells_eq hg (by rw [List.length_append,hl2]; omega),List.drop_append_of_le_length (by rw [hl2]; omega),flat_drop pc1_len]
    rw [List.take_append_of_le_length (by rw [flat_len pc1_len]; simp),List.take_of_length_le (by rw [flat_len pc1_len]; simp)]
  have ho : own h T_omap_pair_string_int (some b) ((P.take i).flatMap pc1) := ⟨hb,(P.drop i).flatMap pc1 ++ J,by rw [hg,← List.append_assoc,← List.flatMap_append,List.take_append_drop]⟩
  have hw : rApp h T_omap_pair_string_int 2 24 [(.string ⟨#[]⟩),(.int .i64 0)] (slv (some b) i) (.slice (some ⟨b,(i + 1) * 2,none⟩) (P.length - (i + 1)) uc) =
      some (slv (some b) (P.length - 1),if P.length - (i + 1) = 0 then h else h.set b (.cells ((P.take i ++ P.drop (i + 1)).flatMap pc1 ++ ((P.flatMap pc1 ++ J).drop ((P.length - 1) * 2))) T_omap_pair_string_int false),if P.length - (i + 1) = 0 then [] else [b]) := by
    have hlim : (i + (P.length - (i + 1))) * (24 + 2 + 1) ≤ lim := by simp only [lim]; omega
    unfold rApp
    simp only [Nat.zero_add,Nat.sub_zero,hsx,Option.map_some,Option.bind_some,Option.bind,slv,rAppend,tyO,if_pos hlim]
    by_cases h0 : P.length - (i + 1) = 0
    · simp only [h0,if_true]
      rw [show P.length - 1 = i by omega]
    · simp only [h0,if_false,hg,if_true,ne_eq,n20,not_false_eq_true,and_self]
      have hr : i + (P.length - (i + 1)) ≤ (P.flatMap pc1 ++ J).length / 2 := by omega
      have hln : ((P.drop (i + 1)).flatMap pc1).length = (P.length - (i + 1)) * 2 := by rw [flat_len pc1_len]; simp
      have hc : i * 2 + ((P.drop (i + 1)).flatMap pc1).length ≤ (P.flatMap pc1 ++ J).length := by rw [hln,List.length_append,hl2]; omega
      have hp : putAt (P.flatMap pc1 ++ J) (i * 2) ((P.drop (i + 1)).flatMap pc1) = (P.take i ++ P.drop (i + 1)).flatMap pc1 ++ ((P.flatMap pc1 ++ J).drop ((P.length - 1) * 2)) := by
        unfold putAt
        rw [List.take_append_of_le_length (by rw [hl2]; omega),flat_take pc1_len,hln,List.flatMap_append]
        congr 2
        omega
      simp only [hr,if_true,wr_u,hg,wO_c,Option.bind_some,hc,hp,Option.map_some]
      rw [show i + (P.length - (i + 1)) = P.length - 1 by omega]
  by_cases h0 : P.length - (i + 1) = 0
  · rw [if_pos h0,if_pos h0] at hw
    have hP : i = P.length - 1 := by omega
    have r4 : rSl h.get T_omap_pair_string_int 2 (slv (some b) (P.length - 1)) (some (.int .i64 ((P.length - 1 : Nat) : Int))) (some (.int .i64 (P.length : Int))) none = some (.slice (some ⟨b,(P.length - 1) * 2,none⟩) (P.length - (P.length - 1)) uc) := by
      simp only [Nat.zero_add,Nat.sub_zero,rSl,slv,rSlice,optIdx,idxN_nat,roomOf,if_true,hg,ne_eq,n20,not_false_eq_true,and_self]
      have c : P.length - 1 ≤ P.length ∧ P.length ≤ max (P.length - 1) ((P.flatMap pc1 ++ J).length / 2) := ⟨by omega,Nat.le_trans hroom (Nat.le_max_right _ _)⟩
      simp only [c,and_self,if_true]
    have hcl : rClear h (tyO 2 24 [(.string ⟨#[]⟩),(.int .i64 0)]) (.slice (some ⟨b,(P.length - 1) * 2,none⟩) (P.length - (P.length - 1)) uc) = some (ud,h.set b (.cells ((P.take i).flatMap pc1 ++ ([(.string ⟨#[]⟩),(.int .i64 0)] ++ J)) T_omap_pair_string_int false),[b]) := by
      have e1 : P.length - (P.length - 1) = 1 := by omega
      have hc : (P.length - 1) * 2 + 2 ≤ (P.flatMap pc1 ++ J).length := by rw [List.length_append,hl2]; omega
      have hp : putAt (P.flatMap pc1 ++ J) ((P.length - 1) * 2) [(.string ⟨#[]⟩),(.int .i64 0)] = (P.take i).flatMap pc1 ++ ([(.string ⟨#[]⟩),(.int .i64 0)] ++ J) := by
        unfold putAt
        rw [List.take_append_of_le_length (by rw [hl2]; omega),flat_take pc1_len,← hP,List.append_assoc]
        congr 2
        rw [List.drop_append,List.drop_of_length_le (by rw [hl2]; simp; omega),List.nil_append,hl2]
        have : i * 2 + [Value.string ⟨#[]⟩,Value.int .i64 0].length - P.length * 2 = 0 := by simp; omega
        rw [this,List.drop_zero]
      simp only [rClear,e1,tyO,rep,List.append_nil,wr_u,hg,wO_c,Option.bind_some,List.length_cons,List.length_nil,Nat.reduceAdd,hc,hp,if_true,Option.map_some,n20,Nat.one_ne_zero,if_false]
    have r5 : rLenL (slv (some b) (P.length - 1)) = some (.int .i64 ((P.length - 1 : Nat) : Int)) := rfl
    have r6 : rLenL (slv (some b) P.length) = some (.int .i64 (P.length : Int)) := rfl
    simp -implicitDefEqProofs only [↓jn3,↓wsD,wsP,Nat.reduceBEq,reduceCtorEq,logOf,Nat.reduceAdd,Nat.reduceLeDiff,Nat.reduceMul,co_slv,wsF,r1,r2,r3,r4,r5,r6,hne,hw,hcl,rsT_slv]
    refine Rn_mut b (by simp) hb fun l hl hm => ⟨rfl,fun x hx => by simpa using (hl x hx).1,hb,[(.string ⟨#[]⟩),(.int .i64 0)] ++ J,?_⟩
    show (h.set b _).get b = _
    rw [H.get_set,if_pos rfl]
    have : P.drop (i + 1) = [] := List.drop_of_length_le (by omega)
    rw [this,List.append_nil]
  · rw [if_neg h0,if_neg h0] at hw
    generalize hh1 : h.set b (.cells ((P.take i ++ P.drop (i + 1)).flatMap pc1 ++ ((P.flatMap pc1 ++ J).drop ((P.length - 1) * 2))) T_omap_pair_string_int false) = h1 at hw
    have hg1 : h1.get b = some (.cells ((P.take i ++ P.drop (i + 1)).flatMap pc1 ++ ((P.flatMap pc1 ++ J).drop ((P.length - 1) * 2))) T_omap_pair_string_int false) := by rw [← hh1,H.get_set,if_pos rfl]
    have hll : ((P.take i ++ P.drop (i + 1)).flatMap pc1).length = (P.length - 1) * 2 := by rw [flat_len pc1_len]; simp; omega
    have hl3 : ((P.take i ++ P.drop (i + 1)).flatMap pc1 ++ ((P.flatMap pc1 ++ J).drop ((P.length - 1) * 2))).length = P.length * 2 + J.length := by
      rw [List.length_append,hll,List.length_drop,List.length_append,hl2]; omega
    have r4 : rSl h1.get T_omap_pair_string_int 2 (slv (some b) (P.length - 1)) (some (.int .i64 ((P.length - 1 : Nat) : Int))) (some (.int .i64 (P.length : Int))) none = some (.slice (some ⟨b,(P.length - 1) * 2,none⟩) (P.length - (P.length - 1)) uc) := by
      simp only [Nat.zero_add,Nat.sub_zero,rSl,slv,rSlice,optIdx,idxN_nat,roomOf,if_true,hg1,ne_eq,n20,not_false_eq_true,and_self]
      rw [hl3]
      have c : P.length - 1 ≤ P.length ∧ P.length ≤ max (P.length - 1) ((P.length * 2 + J.length) / 2) := ⟨by omega,by omega⟩
      simp only [c,and_self,if_true]
    have hcl : ∃ J',rClear h1 (tyO 2 24 [(.string ⟨#[]⟩),(.int .i64 0)]) (.slice (some ⟨b,(P.length - 1) * 2,none⟩) (P.length - (P.length - 1)) uc) = some (ud,h1.set b (.cells ((P.take i ++ P.drop (i + 1)).flatMap pc1 ++ J') T_omap_pair_string_int false),[b]) := by
      have e1 : P.length - (P.length - 1) = 1 := by omega
      have hc : (P.length - 1) * 2 + 2 ≤ ((P.take i ++ P.drop (i + 1)).flatMap pc1 ++ ((P.flatMap pc1 ++ J).drop ((P.length - 1) * 2))).length := by rw [hl3]; omega
      refine ⟨[(.string ⟨#[]⟩),(.int .i64 0)] ++ ((P.flatMap pc1 ++ J).drop ((P.length - 1) * 2)).drop 2,?_⟩
      have hp : putAt ((P.take i ++ P.drop (i + 1)).flatMap pc1 ++ ((P.flatMap pc1 ++ J).drop ((P.length - 1) * 2))) ((P.length - 1) * 2) [(.string ⟨#[]⟩),(.int .i64 0)] = (P.take i ++ P.drop (i + 1)).flatMap pc1 ++ ([(.string ⟨#[]⟩),(.int .i64 0)] ++ ((P.flatMap pc1 ++ J).drop ((P.length - 1) * 2)).drop 2) := by
        rw [putAt_app hll.symm,List.append_assoc]; rfl
      simp only [rClear,e1,tyO,rep,List.append_nil,wr_u,hg1,wO_c,Option.bind_some,List.length_cons,List.length_nil,Nat.reduceAdd,hc,hp,if_true,Option.map_some,Nat.one_ne_zero,if_false]
    obtain ⟨J',hcl⟩ := hcl
    have r5 : rLenL (slv (some b) (P.length - 1)) = some (.int .i64 ((P.length - 1 : Nat) : Int)) := rfl
    have r6 : rLenL (slv (some b) P.length) = some (.int .i64 (P.length : Int)) := rfl
    simp -implicitDefEqProofs only [↓jn3,↓wsD,wsP,Nat.reduceBEq,reduceCtorEq,logOf,Nat.reduceAdd,Nat.reduceLeDiff,Nat.reduceMul,co_slv,wsF,r1,r2,r3,r5,r6,hne,hw,rsT_slv]
    rw [dr_ok (by kernel_rfl)]
    simp -implicitDefEqProofs only [↓jn3,↓wsD,wsP,Nat.reduceBEq,reduceCtorEq,logOf,Nat.reduceAdd,Nat.reduceLeDiff,Nat.reduceMul,co_slv,wsF,r4,r5,r6,hcl,rsT_slv]
    refine Rn_mut b (by simp) hb fun l hl hm => ⟨rfl,fun x hx => by simpa using (hl x hx).1,?_,J',?_⟩
    · rw [← hh1]; exact hb
    · show (h1.set b _).get b = _
      rw [H.get_set,if_pos rfl]
theorem hasP_lt {P : List Pr} {s : List UInt8} (h : hasP P s = true) : rk P s < P.length := by
  obtain ⟨p,hp,_⟩ := hasP_some h
  exact (List.getElem?_eq_some_iff.1 hp).1
theorem c_del {h : H} {mb : Nat} {P : List Pr} {F : Nat → Prop} (o : OmR h mb P F) (s : List UInt8) :
    Rn (icP (.fn N_k148) [.pointer (some ⟨mb,0,none⟩),st s] h) fun r => (∃ b,r.1 = .bool b) ∧ (∀ x ∈ r.2.2,F x ∧ x < h.n) ∧ (hasP P s = true → r.2.2 ≠ []) ∧ OmR r.2.1 mb (delP P s) F := by
  refine Rn.up (fun _ => ic_k148 rfl _ _) ?_
  unfold F_k148
  have hf := c_find o s
  obtain ⟨ob,h2,h3,h4⟩ := o.blk
  cases hh : hasP P s
  · simp -implicitDefEqProofs only [↓jn3,↓wsD,wsP,Nat.reduceBEq,reduceCtorEq,logOf,Nat.reduceAdd,Nat.reduceLeDiff,Nat.reduceMul,co_slv,wsF,hf,hh]
    refine Rn_low (by simp) rfl ⟨⟨_,rfl⟩,by simp,by simp,?_⟩
    simp only [delP,hh,Bool.false_eq_true,if_false]
    exact o
  · obtain ⟨p,hp,rfl⟩ := hasP_some hh
    have hi := hasP_lt hh
    have hlen := o.len
    obtain ⟨b,rfl⟩ := ob_some_of hp h3
    obtain ⟨hb,J,hg⟩ := h3
    have hw : IntKind.i64.wrap ((rk P p.1 : Int) + 1) = ((rk P p.1 + 1 : Nat) : Int) := by rw [wrapI (by omega) (by omega)]; rfl
    obtain ⟨⟨v,h5,lg⟩,e5,q1,q2,q3⟩ := c_delete hb hg hi hlen
    have hst := icP_stp _ _ _ _ _ _ e5
    simp only at q1 q2 q3
    subst q1
    have hle := hst.le
    have hmb5 : h5.get mb = some (.cells [.func (.func N_k183) #[] #[],slv (some b) P.length] T_omap_Map_string_int false) := by
      rw [hst.same mb o.lt (fun hm => (h4 b rfl).1 (q2 mb hm).symm),h2]
    simp -implicitDefEqProofs only [↓jn3,↓wsD,wsP,Nat.reduceBEq,reduceCtorEq,logOf,Nat.reduceAdd,Nat.reduceLeDiff,Nat.reduceMul,co_slv,wsF,hf,hh,h2,hw,e5,hmb5]
    have hml := o.lt
    have hd : (delP P p.1).length = P.length - 1 := by
      simp only [delP,hh,if_true,List.length_append,List.length_take,List.length_drop]; omega
    refine Rn_mut mb (by simp) o.lt fun l hl hm => ⟨⟨_,rfl⟩,fun x hx => ⟨?_,(hl x hx).2⟩,fun _ => List.ne_nil_of_mem hm,by simp only [H.n_set]; omega,o.fm,by rw [hd]; omega,?_,some b,?_,⟨q3.1,?_⟩,h4⟩
    · have := (hl x hx).1
      simp only [List.mem_append,List.mem_cons,List.not_mem_nil,or_false] at this
      rcases this with rfl | h
      · exact o.fm
      · rw [q2 x h]; exact (h4 b rfl).2
    · simp only [delP,hh,if_true]; exact srt_del o.srt
    · show (h5.set mb _).get mb = _
      rw [H.get_set,if_pos rfl,hd]
    · obtain ⟨J',hJ⟩ := q3.2
      refine ⟨J',?_⟩
      show (h5.set mb _).get b = _
      rw [H.get_set,if_neg (h4 b rfl).1,hJ]
      simp only [delP,hh,if_true]
end Go.L1


namespace Go.L1
open Go Go.Proofs
theorem at_key {P : List Pr} {s : List UInt8} {n : Int} (hs : Srt P) {i : Nat} (hi : P[i]? = some (s,n)) : i = rk P s := by
  have h1 : ¬ i < rk P s := fun h => by
    have := (rk_lt hs hi).2 h
    rw [bl_irr] at this; cases this
  rcases Nat.lt_or_ge (rk P s) i with h2 | h2
  · exfalso
    obtain ⟨hil,hie⟩ := List.getElem?_eq_some_iff.1 hi
    obtain ⟨q,hq⟩ : ∃ q,P[rk P s]? = some q := ⟨_,List.getElem?_eq_getElem (by omega)⟩
    have h3 : bytesLess q.1 s = true := by
      obtain ⟨ha,rfl⟩ := List.getElem?_eq_some_iff.1 hq
      have := (List.pairwise_iff_getElem.1 hs) _ _ ha hil h2
      rw [hie] at this; exact this
    exact Nat.lt_irrefl _ ((rk_lt hs hq).1 h3)
  · omega
theorem mem_key {P : List Pr} {s : List UInt8} {n : Int} (hs : Srt P) : (s,n) ∈ P ↔ hasP P s = true ∧ getP P s = n := by
  constructor
  · intro hm
    obtain ⟨i,hi⟩ := List.getElem?_of_mem hm
    have := at_key hs hi
    subst this
    have hh : hasP P s = true := by simp [hasP,hi]
    exact ⟨hh,by simp [getP,hh,hi]⟩
  · rintro ⟨hh,hg⟩
    obtain ⟨p,hp,rfl⟩ := hasP_some hh
    have : getP P p.1 = p.2 := by simp [getP,hh,hp]
    rw [← hg,this]
    exact List.mem_of_getElem? hp
theorem mem_putP {P : List Pr} {s t : List UInt8} {n m : Int} (hs : Srt P) : (t,m) ∈ putP P s n ↔ (t = s ∧ m = n) ∨ (t ≠ s ∧ (t,m) ∈ P) := by
  unfold putP
  split
  · rename_i hh
    have hlt := hasP_lt hh
    constructor
    · intro h
      obtain ⟨i,hi⟩ := List.getElem?_of_mem h
      rw [List.getElem?_set] at hi
      split at hi
      · simp only [hlt,if_true,Option.some.injEq,Prod.mk.injEq] at hi
        exact .inl ⟨hi.1.symm,hi.2.symm⟩
      · rename_i hne
        refine .inr ⟨fun e => ?_,List.mem_of_getElem? hi⟩
        subst e
        exact hne (at_key hs hi).symm
    · rintro (⟨rfl,rfl⟩ | ⟨hne,hm⟩)
      · exact List.mem_of_getElem? (i := rk P t) (by rw [List.getElem?_set,if_pos rfl,if_pos hlt])
      · obtain ⟨i,hi⟩ := List.getElem?_of_mem hm
        refine List.mem_of_getElem? (i := i) ?_
        rw [List.getElem?_set,if_neg,hi]
        intro e
        obtain ⟨p,hp,hps⟩ := hasP_some hh
        rw [e,hi] at hp
        cases hp
        exact hne hps
  · rename_i hh
    have hno : ∀ m,(s,m) ∉ P := fun m hm => hh ((mem_key hs).1 hm).1
    have : (t,m) ∈ P ↔ (t,m) ∈ P.take (rk P s) ∨ (t,m) ∈ P.drop (rk P s) := by
      rw [← List.mem_append,List.take_append_drop]
    rw [this]
    simp only [List.mem_append,List.mem_cons,List.not_mem_nil,or_false,Prod.mk.injEq]
    have h3 : t = s → ¬ ((t,m) ∈ P.take (rk P s) ∨ (t,m) ∈ P.drop (rk P s)) := fun e => by rw [← this,e]; exact hno m
    by_cases e : t = s <;> simp_all
theorem mem_delP {P : List Pr} {s t : List UInt8} {m : Int} (hs : Srt P) : (t,m) ∈ delP P s ↔ t ≠ s ∧ (t,m) ∈ P := by
  unfold delP
  split
  · rename_i hh
    obtain ⟨p,hp,rfl⟩ := hasP_some hh
    obtain ⟨hlt,hpe⟩ := List.getElem?_eq_some_iff.1 hp
    rw [← List.eraseIdx_eq_take_drop_succ,List.mem_eraseIdx_iff_getElem?]
    constructor
    · rintro ⟨i,hi,hm⟩
      refine ⟨fun e => ?_,List.mem_of_getElem? hm⟩
      subst e
      exact hi (at_key hs hm)
    · rintro ⟨hne,hm⟩
      obtain ⟨i,hi⟩ := List.getElem?_of_mem hm
      refine ⟨i,fun e => ?_,hi⟩
      rw [e,hp] at hi
      cases hi
      exact hne rfl
  · rename_i hh
    refine ⟨fun hm => ⟨fun e => hh (by subst e; exact ((mem_key hs).1 hm).1),hm⟩,fun h => h.2⟩
def addP (P : List Pr) (s : List UInt8) : List Pr := putP P s (getP P s + 1)
def takeP (P : List Pr) (s : List UInt8) : List Pr := if getP P s > 1 then putP P s (getP P s - 1) else delP P s
abbrev pt (b o : Nat) : Value := .pointer (some ⟨b,o,none⟩)
def colB (h : H) (cb : Nat) (kd : Int) (l m : Value) (nl : Int) : Prop := h.get cb = some (.cells [.int .i64 kd,l,m,.int .i64 nl] T_column_Column false)
def DictR (h : H) (m : Value) (P : List Pr) (F : Nat → Prop) : Prop := (m = .pointer none ∧ P = []) ∨ ∃ mb,m = pt mb 0 ∧ OmR h mb P F
theorem c_onew (h : H) : icP (.fn N_k182) [.func (.func N_k183) #[] #[]] h = some (pt h.n 0,h.push (.cells [.func (.func N_k183) #[] #[],.slice none 0 0] T_omap_Map_string_int false),[]) := by
  refine Rn.eq (Rn.up (fun _ => ic_k182 rfl _) ?_)
  unfold F_k182
  have e1 : oBuild pgB T_omap_Map_string_int [(0,.func (.func N_k183) #[] #[])] = some (.agg #[.func (.func N_k183) #[] #[],.slice none 0 0]) := by kernel_rfl
  have e2 : ∀ n,aBx n T_omap_Map_string_int 2 (.agg #[.func (.func N_k183) #[] #[],.slice none 0 0]) = some (pt n 0,.cells [.func (.func N_k183) #[] #[],.slice none 0 0] T_omap_Map_string_int false) := fun _ => rfl
  simp -implicitDefEqProofs only [↓jn3,↓wsD,wsP,Nat.reduceBEq,reduceCtorEq,logOf,Nat.reduceAdd,Nat.reduceLeDiff,Nat.reduceMul,co_slv,wsF,e1,e2]
  refine ⟨_,rfl,?_⟩
  simp [settle,tupled,belowV]
theorem settle_hit {h h1 : H} {v : Value} {cb : Nat} (hc : cb < h.n) : settle h v h1 [cb] = (v,h1,[cb]) := by
  simp only [settle,hc,List.filter_cons,decide_true,if_true,List.isEmpty_cons,Bool.false_and,Bool.false_eq_true,if_false,List.filter_nil]
theorem c_words {h : H} {cb : Nat} {kd nl : Int} {l m : Value} {P : List Pr} {F : Nat → Prop} (hc : cb < h.n) (hg : colB h cb kd l m nl) (d : DictR h m P F) :
    Rn (icP (.fn N_k145) [pt cb 2] h) fun r => ∃ mb,r.1 = pt mb 0 ∧ ((r.2.1 = h ∧ r.2.2 = []) ∨ r.2.2 = [cb]) ∧ colB r.2.1 cb kd l (pt mb 0) nl ∧ OmR r.2.1 mb P (fun b => F b ∨ h.n ≤ b) := by
  refine Rn.up (fun _ => ic_k145 rfl _) ?_
  unfold F_k145
  unfold colB at hg ⊢
  rcases d with ⟨rfl,rfl⟩ | ⟨mb,rfl,o⟩
  · simp -implicitDefEqProofs only [↓jn3,↓wsD,wsP,Nat.reduceBEq,reduceCtorEq,logOf,Nat.reduceAdd,Nat.reduceLeDiff,Nat.reduceMul,co_slv,wsF,hg,c_onew,Nat.ne_of_lt hc]
    rw [settle_hit hc]
    refine Rn.ret ⟨h.n,rfl,.inr rfl,?_,?_⟩
    · rw [H.get_set,if_pos rfl]
    · have hne : h.n ≠ cb := by omega
      refine ⟨by show h.n < h.n + 1; omega,.inr (Nat.le_refl _),by simp,List.Pairwise.nil,none,?_,rfl,fun b e => by cases e⟩
      show (H.set _ cb _).get h.n = _
      rw [H.get_set,if_neg hne,H.get_push,if_pos rfl]
      rfl
  · simp -implicitDefEqProofs only [↓jn3,↓wsD,wsP,Nat.reduceBEq,reduceCtorEq,logOf,Nat.reduceAdd,Nat.reduceLeDiff,Nat.reduceMul,co_slv,wsF,hg]
    refine Rn_low (by simp) (by simp [tupled,belowV]; exact o.lt) ⟨mb,rfl,.inl ⟨rfl,rfl⟩,hg,o.mono fun _ => .inl⟩
theorem Rn_two {h h1 h2 : H} {v : Value} {cb : Nat} {l1 l2 : List Nat} {F : Nat → Prop} {Q : Value × H × List Nat → Prop} (hc : cb < h.n) (q : (h1 = h ∧ l1 = []) ∨ l1 = [cb]) (h2x : ∀ x ∈ l2,(F x ∨ h.n ≤ x) ∧ x < h1.n) (hn : l2 ≠ [])
    (hq : ∀ l,(∀ x ∈ l,(x = cb ∨ F x) ∧ x < h.n) → l ≠ [] → Q (v,h2,l)) : Rn (some (settle h v h2 (l2 ++ l1))) Q := by
  have hx : ∃ x,x ∈ l2 ++ l1 ∧ x < h.n := by
    rcases q with ⟨rfl,rfl⟩ | rfl
    · obtain ⟨x,hx⟩ := List.exists_mem_of_ne_nil l2 hn
      exact ⟨x,by simpa using hx,(h2x x hx).2⟩
    · exact ⟨cb,by simp,hc⟩
  obtain ⟨x,hx1,hx2⟩ := hx
  refine Rn_mut x hx1 hx2 fun l hl hm => hq l (fun y hy => ?_) (List.ne_nil_of_mem hm)
  have h3 := hl y hy
  refine ⟨?_,h3.2⟩
  rcases List.mem_append.1 h3.1 with h4 | h4
  · exact .inr ((h2x y h4).1.resolve_right (by omega))
  · rcases q with ⟨_,rfl⟩ | rfl
    · simp at h4
    · exact .inl (by simpa using h4)
theorem c_add {h : H} {cb : Nat} {kd nl : Int} {l m : Value} {P : List Pr} {F : Nat → Prop} (hc : cb < h.n) (hg : colB h cb kd l m nl) (d : DictR h m P F) (hF : ¬ F cb) (s : List UInt8) (hlen : P.length < 400000) (hn : 0 ≤ getP P s ∧ getP P s < 1099511627776) :
    Rn (icP (.fn N_k138) [pt cb 2,st s] h) fun r => (∃ b,r.1 = .bool b) ∧ (∀ x ∈ r.2.2,(x = cb ∨ F x) ∧ x < h.n) ∧ r.2.2 ≠ [] ∧ ∃ mb,colB r.2.1 cb kd l (pt mb 0) nl ∧ OmR r.2.1 mb (addP P s) (fun b => F b ∨ h.n ≤ b) := by
  refine Rn.up (fun _ => ic_k138 rfl _ _) ?_
  unfold F_k138
  obtain ⟨⟨v,h1,lg⟩,e1,mb,q1,q2,q3,q4⟩ := c_words hc hg d
  simp only at q1 q2 q3 q4
  subst q1
  have st1 := icP_stp _ _ _ _ _ _ e1
  have hw : IntKind.i64.wrap (getP P s + 1) = getP P s + 1 := wrapI (by omega) (by omega)
  obtain ⟨⟨v2,h2,lg2⟩,e2,⟨b,p1⟩,p2,p3,p4⟩ := c_put q4 hlen s (getP P s + 1)
  simp only at p1 p2 p3 p4
  subst p1
  have st2 := icP_stp _ _ _ _ _ _ e2
  have hle := st1.le
  simp -implicitDefEqProofs only [↓jn3,↓wsD,wsP,Nat.reduceBEq,reduceCtorEq,logOf,Nat.reduceAdd,Nat.reduceLeDiff,Nat.reduceMul,co_slv,wsF,e1,c_get q4,hw,e2]
  have hg2 : colB h2 cb kd l (pt mb 0) nl := by
    unfold colB
    rw [st2.same cb (by omega) (fun hm => by have := (p2 cb hm).1; rcases this with h | h; exact hF h; omega)]
    exact q3
  refine Rn_two hc q2 p2 p3 fun l hl hne => ⟨⟨_,rfl⟩,hl,hne,mb,hg2,p4.mono fun b hb => ?_⟩
  rcases hb with (hb | hb) | hb
  · exact .inl hb
  · exact .inr hb
  · exact .inr (by omega)
theorem c_take {h : H} {cb : Nat} {kd nl : Int} {l m : Value} {P : List Pr} {F : Nat → Prop} (hc : cb < h.n) (hg : colB h cb kd l m nl) (d : DictR h m P F) (hF : ¬ F cb) (s : List UInt8) (hlen : P.length < 400000) (hh : hasP P s = true) (hn : 0 ≤ getP P s ∧ getP P s < 1099511627776) :
    Rn (icP (.fn N_k123) [pt cb 2,st s] h) fun r => (∃ b,r.1 = .bool b) ∧ (∀ x ∈ r.2.2,(x = cb ∨ F x) ∧ x < h.n) ∧ r.2.2 ≠ [] ∧ ∃ mb,colB r.2.1 cb kd l (pt mb 0) nl ∧ OmR r.2.1 mb (takeP P s) (fun b => F b ∨ h.n ≤ b) := by
  refine Rn.up (fun _ => ic_k123 rfl _ _) ?_
  unfold F_k123 takeP
  obtain ⟨⟨v,h1,lg⟩,e1,mb,q1,q2,q3,q4⟩ := c_words hc hg d
  simp only at q1 q2 q3 q4
  subst q1
  have st1 := icP_stp _ _ _ _ _ _ e1
  have hle := st1.le
  have hw : IntKind.i64.wrap (getP P s - 1) = getP P s - 1 := wrapI (by omega) (by omega)
  have hcol : ∀ {h2 lg2},Stp h1 h2 lg2 → (∀ x ∈ lg2,(F x ∨ h.n ≤ x) ∧ x < h1.n) → colB h2 cb kd l (pt mb 0) nl := fun st2 p2 => by
    unfold colB
    rw [st2.same cb (by omega) (fun hm => by have := (p2 cb hm).1; rcases this with h | h; exact hF h; omega)]
    exact q3
  by_cases hgt : getP P s > 1
  · obtain ⟨⟨v2,h2,lg2⟩,e2,⟨b,p1⟩,p2,p3,p4⟩ := c_put q4 hlen s (getP P s - 1)
    simp only at p1 p2 p3 p4
    subst p1
    have hd : decide (getP P s > 1) = true := by simpa using hgt
    rw [if_pos hgt]
    simp -implicitDefEqProofs only [↓jn3,↓wsD,wsP,Nat.reduceBEq,reduceCtorEq,logOf,Nat.reduceAdd,Nat.reduceLeDiff,Nat.reduceMul,co_slv,wsF,e1,c_get q4,hw,e2,hd,hh]
    refine Rn_two hc q2 p2 p3 fun l hl hne => ⟨⟨_,rfl⟩,hl,hne,mb,hcol (icP_stp _ _ _ _ _ _ e2) p2,p4.mono fun b hb => ?_⟩
    rcases hb with (hb | hb) | hb
    · exact .inl hb
    · exact .inr hb
    · exact .inr (by omega)
  · obtain ⟨⟨v2,h2,lg2⟩,e2,⟨b,p1⟩,p2,p3,p4⟩ := c_del q4 s
    simp only at p1 p2 p3 p4
    subst p1
    have hd : decide (getP P s > 1) = false := by simpa using hgt
    rw [if_neg hgt]
    simp -implicitDefEqProofs only [↓jn3,↓wsD,wsP,Nat.reduceBEq,reduceCtorEq,logOf,Nat.reduceAdd,Nat.reduceLeDiff,Nat.reduceMul,co_slv,wsF,e1,c_get q4,hw,e2,hd,hh]
    exact Rn_two hc q2 p2 (p3 hh) fun l hl hne => ⟨⟨_,rfl⟩,hl,hne,mb,hcol (icP_stp _ _ _ _ _ _ e2) p2,p4⟩
theorem c_dlen {h : H} {cb : Nat} {kd nl : Int} {l m : Value} {P : List Pr} {F : Nat → Prop} (hc : cb < h.n) (hg : colB h cb kd l m nl) (d : DictR h m P F) :
    Rn (icP (.fn N_k178) [pt cb 2] h) fun r => r.1 = .int .i64 P.length ∧ ((r.2.1 = h ∧ r.2.2 = []) ∨ (r.2.2 = [cb] ∧ ∃ mb,colB r.2.1 cb kd l (pt mb 0) nl ∧ OmR r.2.1 mb P (fun b => F b ∨ h.n ≤ b))) := by
  refine Rn.up (fun _ => ic_k178 rfl _) ?_
  unfold F_k178
  obtain ⟨⟨v,h1,lg⟩,e1,mb,q1,q2,q3,q4⟩ := c_words hc hg d
  simp only at q1 q2 q3 q4
  subst q1
  have e2 : icP (.fn N_k197) [pt mb 0] h1 = some (.int .i64 P.length,h1,[]) := by
    refine Rn.eq (Rn.up (fun _ => ic_k197 rfl _) ?_)
    unfold F_k197
    obtain ⟨ob,h2,h3,h4⟩ := q4.blk
    have hl : rLenL (slv ob P.length) = some (.int .i64 P.length) := rLenL_slv fun e => by
      subst e
      have h3 : P.flatMap pc1 = [] := h3
      have := flat_len pc1_len P
      rw [h3,List.length_nil] at this; omega
    simp -implicitDefEqProofs only [↓jn3,↓wsD,wsP,Nat.reduceBEq,reduceCtorEq,logOf,Nat.reduceAdd,Nat.reduceLeDiff,Nat.reduceMul,co_slv,wsF,h2,hl]
    exact Rn_low (by simp) rfl rfl
  simp -implicitDefEqProofs only [↓jn3,↓wsD,wsP,Nat.reduceBEq,reduceCtorEq,logOf,Nat.reduceAdd,Nat.reduceLeDiff,Nat.reduceMul,co_slv,wsF,e1,e2]
  rcases q2 with ⟨rfl,rfl⟩ | rfl
  · exact Rn_low (by simp) rfl ⟨rfl,.inl ⟨rfl,rfl⟩⟩
  · rw [settle_hit hc]
    exact Rn.ret ⟨rfl,.inr ⟨rfl,mb,q3,q4⟩⟩
end Go.L1


namespace Go.L1
open Go Go.Proofs
theorem V.cs_len (v : V) : v.cs.length = 3 := rfl
def cnt (l : List V) (s : List UInt8) : Nat := l.countP fun v => v.k == 2 && v.s == s
def DictOf (P : List Pr) (l : List V) : Prop := ∀ s n,(s,n) ∈ P ↔ n = (cnt l s : Int) ∧ 0 < cnt l s
def countP (P : List Pr) (v : V) : List Pr := if v.k = 2 then addP P v.s else P
def goneP (P : List Pr) (v : V) : List Pr := if v.k = 2 then takeP P v.s else P
theorem DictOf.has {P : List Pr} {l : List V} (d : DictOf P l) (hs : Srt P) (s : List UInt8) : getP P s = (cnt l s : Int) ∧ (hasP P s = true ↔ 0 < cnt l s) := by
  by_cases h : 0 < cnt l s
  · have := (mem_key hs).1 ((d s (cnt l s)).2 ⟨rfl,h⟩)
    exact ⟨this.2,⟨fun _ => h,fun _ => this.1⟩⟩
  · have hn : hasP P s = false := by
      rw [Bool.eq_false_iff]; intro hh
      exact h ((d s _).1 ((mem_key hs).2 ⟨hh,rfl⟩)).2
    have h0 : cnt l s = 0 := by omega
    exact ⟨by simp [getP,hn,h0],by rw [hn]; constructor <;> intro hh <;> simp_all⟩
theorem cnt_snoc (l : List V) (v : V) (s : List UInt8) : cnt (l ++ [v]) s = cnt l s + if v.k = 2 ∧ v.s = s then 1 else 0 := by
  unfold cnt
  rw [List.countP_append,List.countP_singleton]
  by_cases h : v.k = 2 ∧ v.s = s
  · simp [h]
  · rw [if_neg h]
    have : (v.k == 2 && v.s == s) = false := by
      rw [Bool.eq_false_iff]; simpa using h
    simp [this]
theorem DictOf.add {P : List Pr} {l l' : List V} {v : V} (d : DictOf P l) (hs : Srt P) (hl : ∀ s,cnt l' s = cnt l s + if v.k = 2 ∧ v.s = s then 1 else 0) : DictOf (countP P v) l' := by
  intro s n
  rw [hl s]
  unfold countP
  by_cases h : v.k = 2
  · rw [if_pos h]
    unfold addP
    rw [mem_putP hs,(d.has hs v.s).1]
    by_cases e : s = v.s
    · subst e
      simp [h]
    · have e' : ¬ v.s = s := fun h => e h.symm
      have h3 := d s n
      simp [e,e',h3]
  · simp only [h,if_false,false_and,Nat.add_zero]
    exact d s n
theorem DictOf.gone {P : List Pr} {l l' : List V} {v : V} (d : DictOf P l) (hs : Srt P) (hl : ∀ s,cnt l s = cnt l' s + if v.k = 2 ∧ v.s = s then 1 else 0) : DictOf (goneP P v) l' := by
  intro s n
  have h0 := hl s
  have h3 := d s n
  unfold goneP
  by_cases h : v.k = 2
  · rw [if_pos h]
    have h1 := hl v.s
    simp only [h,true_and,if_true] at h1 h0
    unfold takeP
    rw [(d.has hs v.s).1]
    by_cases e : s = v.s
    · subst e
      split
      · rw [mem_putP hs]
        simp
        omega
      · rw [mem_delP hs]
        simp
        omega
    · have e' : ¬ v.s = s := fun h => e h.symm
      simp only [e',if_false,Nat.add_zero] at h0
      split
      · rw [mem_putP hs]
        simp [e,h3,h0]
      · rw [mem_delP hs]
        simp [e,h3,h0]
  · simp only [h,if_false,false_and,Nat.add_zero] at h0 ⊢
    rw [h3,h0]
structure ColX (h : H) (cb : Nat) (kd : Int) (l : List V) (P : List Pr) (F : Nat → Prop) : Prop where
  lt : cb < h.n
  fc : F cb
  len : l.length < 100000
  blk : ∃ ob m nl D,colB h cb kd (slv ob l.length) m nl ∧ own h T_api_Value ob (l.flatMap V.cs) ∧ (∀ b,ob = some b → b ≠ cb ∧ F b ∧ ¬ D b) ∧ ¬ D cb ∧ (∀ b,D b → F b ∧ b < h.n) ∧ DictR h m P D
def ColR (h : H) (cb : Nat) (kd : Int) (l : List V) (F : Nat → Prop) : Prop := ∃ P,ColX h cb kd l P F ∧ Srt P ∧ DictOf P l
theorem DictR.frame {h h1 : H} {m : Value} {P : List Pr} {F : Nat → Prop} (o : DictR h m P F) (hn : h.n ≤ h1.n) (hf : ∀ b,b < h.n → F b → h1.get b = h.get b) : DictR h1 m P F := by
  rcases o with o | ⟨mb,rfl,o⟩
  · exact .inl o
  · exact .inr ⟨mb,rfl,o.frame hn hf⟩
theorem ColX.frame {h h1 : H} {cb : Nat} {kd : Int} {l : List V} {P : List Pr} {F : Nat → Prop} (o : ColX h cb kd l P F) (hn : h.n ≤ h1.n) (hf : ∀ b,b < h.n → F b → h1.get b = h.get b) : ColX h1 cb kd l P F := by
  obtain ⟨ob,m,nl,D,q1,q2,q3,q4,q5,q6⟩ := o.blk
  refine ⟨by have := o.lt; omega,o.fc,o.len,ob,m,nl,D,?_,q2.frame hn fun b e => ?_,q3,q4,fun b hd => ⟨(q5 b hd).1,by have := (q5 b hd).2; omega⟩,q6.frame hn fun b hb hd => hf b hb (q5 b hd).1⟩
  · unfold colB; rw [hf cb o.lt o.fc]; exact q1
  · subst e; exact hf b q2.1 (q3 b rfl).2.1
theorem ColX.bd {h : H} {cb : Nat} {kd : Int} {l : List V} {P : List Pr} {F : Nat → Prop} (o : ColX h cb kd l P F) : ColX h cb kd l P (fun b => F b ∧ b < h.n) := by
  obtain ⟨ob,m,nl,D,q1,q2,q3,q4,q5,q6⟩ := o.blk
  exact ⟨o.lt,⟨o.fc,o.lt⟩,o.len,ob,m,nl,D,q1,q2,fun b e => ⟨(q3 b e).1,⟨(q3 b e).2.1,by subst e; exact q2.1⟩,(q3 b e).2.2⟩,q4,fun b hb => ⟨q5 b hb,(q5 b hb).2⟩,q6⟩
theorem ColX.mono {h : H} {cb : Nat} {kd : Int} {l : List V} {P : List Pr} {F F' : Nat → Prop} (o : ColX h cb kd l P F) (hf : ∀ b,F b → F' b) : ColX h cb kd l P F' := by
  obtain ⟨ob,m,nl,D,q1,q2,q3,q4,q5,q6⟩ := o.blk
  exact ⟨o.lt,hf _ o.fc,o.len,ob,m,nl,D,q1,q2,fun b e => ⟨(q3 b e).1,hf b (q3 b e).2.1,(q3 b e).2.2⟩,q4,fun b hb => ⟨hf b (q5 b hb).1,(q5 b hb).2⟩,q6⟩
theorem ColR.frame {h h1 : H} {cb : Nat} {kd : Int} {l : List V} {F : Nat → Prop} (o : ColR h cb kd l F) (hn : h.n ≤ h1.n) (hf : ∀ b,b < h.n → F b → h1.get b = h.get b) : ColR h1 cb kd l F := by
  obtain ⟨P,o,hs,d⟩ := o
  exact ⟨P,o.frame hn hf,hs,d⟩
theorem ColR.mono {h : H} {cb : Nat} {kd : Int} {l : List V} {F F' : Nat → Prop} (o : ColR h cb kd l F) (hf : ∀ b,F b → F' b) : ColR h cb kd l F' := by
  obtain ⟨P,o,hs,d⟩ := o
  exact ⟨P,o.mono hf,hs,d⟩
def mayC (kd : Int) (v : V) : Bool := (v.k == 0 || v.k == kd) && mayB v
theorem c_cmay {h : H} {cb : Nat} {kd nl : Int} {l m : Value} (hc : cb < h.n) (hg : colB h cb kd l m nl) (v : V) (hl : v.s.length < 1000) :
    icP (.fn N_k107) [pt cb 0,v.v] h = some (.bool (mayC kd v),h,[]) := by
  refine Rn.eq (Rn.up (fun _ => ic_k107 rfl _ _) ?_)
  unfold F_k107 mayC
  have hm := fun h => c_may v h hl
  unfold colB at hg
  cases h0 : v.k == 0 <;> cases h1 : v.k == kd <;> simp -implicitDefEqProofs only [↓jn3,↓wsD,wsP,Nat.reduceBEq,reduceCtorEq,logOf,Nat.reduceAdd,Nat.reduceLeDiff,Nat.reduceMul,co_slv,wsF,h0,h1,hg,Nat.ne_of_lt hc,hm,Bool.or_true,Bool.or_false,Bool.true_and,Bool.false_and] <;> exact Rn_low (by simp) rfl rfl
end Go.L1
