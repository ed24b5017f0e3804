/- Texts of a proof: no condition. -/
import Derived.Test.YtmhdgdehbkjhhaaGreatLawB
set_option autoImplicit true
set_option relaxedAutoImplicit true
set_option linter.all false
set_option linter.unusedVariables false
set_option linter.unusedSimpArgs false
set_option maxRecDepth 100000
namespace Go.L1
open Go Go.Proofs
def fst1 (q : Nat → Bool) (n : Nat) : Option Nat := (List.range n).find? q
theorem fst1_none {q : Nat → Bool} {n : Nat} (h : ∀ i,i < n → q i = false) : fst1 q n = none := by
  unfold fst1
  rw [List.find?_eq_none]
  intro i hi
  rw [h i (List.mem_range.1 hi)]; simp
theorem fst1_some {q : Nat → Bool} {n i : Nat} (hi : i < n) (h : ∀ j,j < i → q j = false) (hq : q i = true) : fst1 q n = some i := by
  unfold fst1
  rw [List.find?_range_eq_some]
  exact ⟨hq,List.mem_range.2 hi,fun j hj => by rw [h j hj]; rfl⟩
theorem fst1_isSome {q : Nat → Bool} {n : Nat} : (fst1 q n).isSome = (List.range n).any q := by
  unfold fst1
  rw [Bool.eq_iff_iff,List.find?_isSome,List.any_eq_true]
def ixV (o : Option Nat) : Int := match o with | some i => i | none => -1
-- BEGIN IX
theorem c_ix_2_int {h : H} {x f : Value} {a : Option Addr} {n c : Nat} (hx : x = .slice a n c) (hn : n < 100000) (E : Nat → Value) (q : Nat → Bool)
    (hel : ∀ i,i < n → ∃ p,rIdxS 2 x (.int .i64 (i : Int)) = some p ∧ rLdA h.get 2 p = some (E i)) (hf : ∀ i,i < n → callV icP h f [E i] = some (.bool (q i),h,[])) :
    icP (.fn N_k136) [x,f] h = some (.int .i64 (ixV (fst1 q n)),h,[]) := by
  subst hx
  refine Rn.eq (Rn.up (fun _ => ic_k136 rfl _ _) ?_)
  unfold F_k136
  simp -implicitDefEqProofs only [↓jn3,↓wsD,wsP,Nat.reduceBEq,reduceCtorEq,logOf,Nat.reduceAdd,Nat.reduceLeDiff,Nat.reduceMul,co_slv]
  refine Rn_ob (lw_cnt (fun _ => False) n (fun i vs h' => h' = h ∧ (∀ j,j < i → q j = false) ∧ vs = [.slice a n c,f,.int .i64 0,.int .i64 n,.int .i64 i])
    (fun ex vs h' => h' = h ∧ ((ex = .exit 0 ∧ fst1 q n = none) ∨ (ex = .ret ∧ ∃ i : Nat,nt vs 2 = .int .i64 i ∧ fst1 q n = some i)))
    (fun i vs h' hi hI => ?_) (fun vs h' hI => ?_) (Nat.zero_le _) ⟨rfl,fun j hj => absurd hj (Nat.not_lt_zero _),rfl⟩) fun o ⟨hlo,e1,hq⟩ => ?_
  · obtain ⟨rfl,hI,rfl⟩ := hI
    obtain ⟨p,hp1,hp2⟩ := hel i hi
    have hlt : decide ((i : Int) < n) = true := by simpa using hi
    have hw : IntKind.i64.wrap ((i : Int) + 1) = ((i + 1 : Nat) : Int) := by rw [wrapI (by omega) (by omega)]; rfl
    unfold F_k136_L58
    cases hqi : q i
    · simp -implicitDefEqProofs only [↓jn3,↓wsD,wsP,Nat.reduceBEq,reduceCtorEq,logOf,Nat.reduceAdd,Nat.reduceLeDiff,Nat.reduceMul,co_slv,hlt,hp1,hp2,hf i hi,hqi,hw]
      refine Rn.ret ⟨fun _ h => by simp at h,.inl ⟨rfl,rfl,fun j hj => ?_,rfl⟩⟩
      rcases Nat.lt_succ_iff_lt_or_eq.1 hj with h | rfl
      · exact hI j h
      · exact hqi
    · simp -implicitDefEqProofs only [↓jn3,↓wsD,wsP,Nat.reduceBEq,reduceCtorEq,logOf,Nat.reduceAdd,Nat.reduceLeDiff,Nat.reduceMul,co_slv,hlt,hp1,hp2,hf i hi,hqi,hw]
      exact Rn.ret ⟨fun _ h => by simp at h,.inr ⟨by simp,rfl,.inr ⟨rfl,i,rfl,fst1_some hi hI hqi⟩⟩⟩
  · obtain ⟨rfl,hI,rfl⟩ := hI
    unfold F_k136_L58
    simp -implicitDefEqProofs only [↓jn3,↓wsD,wsP,Nat.reduceBEq,reduceCtorEq,logOf,Nat.reduceAdd,Nat.reduceLeDiff,Nat.reduceMul,co_slv,Int.lt_irrefl,decide_false]
    exact Rn.ret ⟨fun _ h => by simp at h,by simp,rfl,.inl ⟨rfl,fst1_none hI⟩⟩
  · obtain ⟨ex,vs,h1,lg⟩ := o
    simp only at hlo e1 hq
    subst e1
    have : lg = [] := List.eq_nil_iff_forall_not_mem.2 hlo
    subst this
    rcases hq with ⟨rfl,hz⟩ | ⟨rfl,i,hi,hz⟩
    · simp -implicitDefEqProofs only [↓jn3,↓wsD,wsP,Nat.reduceBEq,reduceCtorEq,logOf,Nat.reduceAdd,Nat.reduceLeDiff,Nat.reduceMul,co_slv,wsF,hz]
      exact Rn_low (by simp) rfl rfl
    · simp -implicitDefEqProofs only [↓jn3,↓wsD,wsP,Nat.reduceBEq,reduceCtorEq,logOf,Nat.reduceAdd,Nat.reduceLeDiff,Nat.reduceMul,co_slv,wsF,hz,hi]
      exact Rn_low (by simp) rfl rfl
theorem c_cf_2_int {h : H} {x f : Value} {a : Option Addr} {n c : Nat} (hx : x = .slice a n c) (hn : n < 100000) (E : Nat → Value) (q : Nat → Bool)
    (hel : ∀ i,i < n → ∃ p,rIdxS 2 x (.int .i64 (i : Int)) = some p ∧ rLdA h.get 2 p = some (E i)) (hf : ∀ i,i < n → callV icP h f [E i] = some (.bool (q i),h,[])) :
    icP (.fn N_k100) [x,f] h = some (.bool ((List.range n).any q),h,[]) := by
  refine Rn.eq (Rn.up (fun _ => ic_k100 rfl _ _) ?_)
  unfold F_k100
  have e := c_ix_2_int hx hn E q hel hf
  rw [← fst1_isSome]
  cases hz : fst1 q n with
  | none =>
    rw [hz] at e
    simp only [ixV] at e
    have d : decide ((-1 : Int) ≥ 0) = false := rfl
    simp -implicitDefEqProofs only [↓jn3,↓wsD,wsP,Nat.reduceBEq,reduceCtorEq,logOf,Nat.reduceAdd,Nat.reduceLeDiff,Nat.reduceMul,co_slv,wsF,e,d]
    exact Rn_low (by simp) rfl rfl
  | some i =>
    rw [hz] at e
    simp only [ixV] at e
    have d : decide ((i : Int) ≥ 0) = true := by simp
    simp -implicitDefEqProofs only [↓jn3,↓wsD,wsP,Nat.reduceBEq,reduceCtorEq,logOf,Nat.reduceAdd,Nat.reduceLeDiff,Nat.reduceMul,co_slv,wsF,e,d]
    exact Rn_low (by simp) rfl rfl
-- END IX
def hasS (S : List Sp) (i : Int) : Bool := S.any fun p => decide ((p.1 : Int) ≤ i) && decide (i < (p.2 : Int))
theorem any_range {α : Type} (l : List α) (f : α → Bool) : (List.range l.length).any (fun i => (l[i]?).any f) = l.any f := by
  rw [Bool.eq_iff_iff,List.any_eq_true,List.any_eq_true]
  constructor
  · rintro ⟨i,hi,h⟩
    cases hg : l[i]? with
    | none => rw [hg] at h; cases h
    | some a => rw [hg] at h; exact ⟨a,List.mem_of_getElem? hg,h⟩
  · rintro ⟨a,ha,h⟩
    obtain ⟨i,hi⟩ := List.getElem?_of_mem ha
    exact ⟨i,List.mem_range.2 (List.getElem?_eq_some_iff.1 hi).1,by rw [hi]; exact h⟩
theorem aBx_sp (n : Nat) (p : Sp) : aBx n T_A2i64 2 (.agg (sc1 p).toArray) = some (pt n 0,.cells [.int .i64 (p.1 : Int),.int .i64 (p.2 : Int)] T_A2i64 false) := rfl
theorem aBx_i (n : Nat) (k : IntKind) (i : Int) (e : Nat) : aBx n e 1 (.int k i) = some (pt n 0,.cells [.int k i] e false) := rfl
theorem aBx_bm (n : Nat) (a : Option Addr) (k c : Nat) : aBx n T_bitmap_Map 1 (.agg #[.slice a k c]) = some (pt n 0,.cells [.slice a k c] T_bitmap_Map false) := rfl
theorem c_has {h : H} {x : Value} {S : List Sp} {F : Nat → Prop} (r : BmR h x S F) (i : Int) (hn : S.length < 100000) : icP (.fn N_k59) [x,.int .i64 i] h = some (.bool (hasS S i),h,[]) := by
  refine Rn.eq (Rn.up (fun _ => ic_k59 rfl _ _) ?_)
  unfold F_k59
  obtain ⟨v,rfl,r⟩ := r
  obtain ⟨a,c,rfl⟩ := r.low
  have e2 : ∀ n,oFunc N_k101 #[] #[pt n 0] = some (.func (.func N_k101) #[] #[pt n 0]) := fun _ => rfl
  simp -implicitDefEqProofs only [↓jn3,↓wsD,wsP,Nat.reduceBEq,reduceCtorEq,logOf,Nat.reduceAdd,Nat.reduceLeDiff,Nat.reduceMul,co_slv,aBx_bm,aBx_i,e2]
  generalize hh2 : (h.push (.cells [.slice a S.length c] T_bitmap_Map false)).push (.cells [.int .i64 i] T_i64_b false) = h2
  have s2 : Sup h h2 := by rw [← hh2]; exact (Sup.push _ _).trans (Sup.push _ _)
  have n2 : h2.n = h.n + 2 := by rw [← hh2]; rfl
  have g2 : h2.get (h.n + 1) = some (.cells [.int .i64 i] T_i64_b false) := by rw [← hh2,H.get_push,if_pos (by rfl)]
  have e := c_cf_2_int (h := h2) (f := .func (.func N_k101) #[] #[pt (h.n + 1) 0]) (x := .slice a S.length c) rfl hn (fun i => match S[i]? with | some p => .agg (sc1 p).toArray | none => .nilFunc) (fun k => (S[k]?).any fun p => decide ((p.1 : Int) ≤ i) && decide (i < (p.2 : Int))) (fun k hk => ?_) (fun k hk => ?_)
  · rw [any_range] at e
    simp -implicitDefEqProofs only [↓jn3,↓wsD,wsP,Nat.reduceBEq,reduceCtorEq,logOf,Nat.reduceAdd,Nat.reduceLeDiff,Nat.reduceMul,co_slv,wsF,e]
    exact Rn_low (by simp) rfl rfl
  · obtain ⟨p,hp⟩ : ∃ p,S[k]? = some p := ⟨_,List.getElem?_eq_getElem hk⟩
    obtain ⟨b,o,e,hb,_,kk⟩ := r.span hp
    exact ⟨_,e,by rw [hp]; exact kk h2 (s2.2 b hb)⟩
  · obtain ⟨p,hp⟩ : ∃ p,S[k]? = some p := ⟨_,List.getElem?_eq_getElem hk⟩
    simp only [hp,callV_f]
    refine Rn.eq (Rn.up (fun _ => ic_k101 rfl _ _) ?_)
    unfold F_k101
    have hne : ¬ h.n + 1 = h2.n := by omega
    cases d : decide ((p.1 : Int) ≤ i) <;> simp -implicitDefEqProofs only [↓jn3,↓wsD,wsP,Nat.reduceBEq,reduceCtorEq,logOf,Nat.reduceAdd,Nat.reduceLeDiff,Nat.reduceMul,co_slv,wsF,aBx_sp,rIdxA_0,rIdxA_1,hne,g2,ge_iff_le,d,Option.any_some,Bool.true_and,Bool.false_and] <;> exact Rn_low (by simp) rfl rfl
def rankS (S : List Sp) (i : Nat) : Nat := S.foldl (fun a p => if p.1 < i then a + (min i p.2 - p.1) else a) 0
theorem rank_bound {S : List Sp} {K : Nat} (hw : ∀ p ∈ S,p.1 < p.2 ∧ p.2 ≤ K) (i : Nat) : rankS S i ≤ S.length * K := by
  suffices ∀ (S : List Sp) (a : Nat),(∀ p ∈ S,p.1 < p.2 ∧ p.2 ≤ K) → S.foldl (fun a p => if p.1 < i then a + (min i p.2 - p.1) else a) a ≤ a + S.length * K by
    have := this S 0 hw
    rw [Nat.zero_add] at this; exact this
  intro S
  induction S with
  | nil => intro a _; simp
  | cons p S ih =>
    intro a hw
    have h1 := ih (if p.1 < i then a + (min i p.2 - p.1) else a) fun q hq => hw q (List.mem_cons_of_mem _ hq)
    have h2 := hw p List.mem_cons_self
    simp only [List.foldl_cons,List.length_cons]
    rw [Nat.succ_mul]
    refine Nat.le_trans h1 ?_
    split <;> omega
theorem c_rank {h : H} {x : Value} {S : List Sp} {F : Nat → Prop} (r : BmR h x S F) (i : Nat) (hi : i ≤ 65536) (hn : S.length < 100000) (hw : ∀ p ∈ S,p.1 < p.2 ∧ p.2 ≤ 65536) :
    icP (.fn N_k104) [x,.int .i64 (i : Int)] h = some (.int .i64 (rankS S i : Int),h,[]) := by
  refine Rn.eq (Rn.up (fun _ => ic_k104 rfl _ _) ?_)
  unfold F_k104
  obtain ⟨v,rfl,r⟩ := r
  obtain ⟨a,c,rfl⟩ := r.low
  simp -implicitDefEqProofs only [↓jn3,↓wsD,wsP,Nat.reduceBEq,reduceCtorEq,logOf,Nat.reduceAdd,Nat.reduceLeDiff,Nat.reduceMul,co_slv,aBx_bm]
  generalize hh1 : h.push (.cells [.slice a S.length c] T_bitmap_Map false) = h1
  have s1 : Sup h h1 := by rw [← hh1]; exact Sup.push _ _
  have n1 : h1.n = h.n + 1 := by rw [← hh1]; rfl
  refine Rn_ob (lw_cnt (fun x => h.n ≤ x) S.length (fun k vs h' => Sup h h' ∧ vs = [.int .i64 (i : Int),.int .i64 0,.int .i64 (rankS (S.take k) i : Int),.slice a S.length c,.int .i64 S.length,.int .i64 (k : Int)])
    (fun ex vs h' => ex = .exit 0 ∧ nt vs 2 = .int .i64 (rankS S i : Int))
    (fun k vs h' hk hI => ?_) (fun vs h' hI => ?_) (Nat.zero_le _) ⟨s1,rfl⟩) fun o ⟨hlo,q1,q2⟩ => ?_
  · obtain ⟨k1,rfl⟩ := hI
    obtain ⟨p,hp⟩ : ∃ p,S[k]? = some p := ⟨_,List.getElem?_eq_getElem hk⟩
    obtain ⟨b,o,e,hb,_,kk⟩ := r.span hp
    have hpw := hw p (List.mem_of_getElem? hp)
    have htk : S.take (k + 1) = S.take k ++ [p] := by rw [List.take_add_one,hp]; rfl
    have hrk : rankS (S.take (k + 1)) i = if p.1 < i then rankS (S.take k) i + (min i p.2 - p.1) else rankS (S.take k) i := by
      rw [htk]; simp [rankS]
    have hbd := rank_bound (S := S.take k) (fun q hq => hw q (List.mem_of_mem_take hq)) i
    have hlk : (S.take k).length ≤ 100000 := by simp; omega
    have hlt : decide ((k : Int) < S.length) = true := by rw [decide_eq_true_eq]; omega
    have w : IntKind.i64.wrap ((k : Int) + 1) = ((k + 1 : Nat) : Int) := by rw [wrapI (by omega) (by omega)]; rfl
    have hs : Sup h ((h'.push (.cells [.int .i64 0,.int .i64 0] T_A2i64 false)).set h'.n (.cells [.int .i64 (p.1 : Int),.int .i64 (p.2 : Int)] T_A2i64 false)) := by
      refine ⟨by show h.n ≤ h'.n + 1; have := k1.1; omega,fun b hb => ?_⟩
      have := k1.1
      rw [H.get_set,if_neg (by omega),H.get_push,if_neg (by omega),k1.2 b hb]
    unfold F_k104_L122
    by_cases hpi : p.1 < i
    · have hgt : decide ((i : Int) > (p.1 : Int)) = true := by rw [decide_eq_true_eq]; omega
      have hm : (if (p.2 : Int) < i then (p.2 : Int) else i) = ((min i p.2 : Nat) : Int) := by split <;> omega
      have w2 : IntKind.i64.wrap (((min i p.2 : Nat) : Int) - (p.1 : Int)) = ((min i p.2 - p.1 : Nat) : Int) := by rw [wrapI (by omega) (by omega)]; omega
      have w3 : IntKind.i64.wrap ((rankS (S.take k) i : Int) + ((min i p.2 - p.1 : Nat) : Int)) = ((rankS (S.take k) i + (min i p.2 - p.1) : Nat) : Int) := by rw [wrapI (by omega) (by omega)]; rfl
      rw [if_pos hpi] at hrk
      simp -implicitDefEqProofs only [↓jn3,↓wsD,wsP,Nat.reduceBEq,reduceCtorEq,logOf,Nat.reduceAdd,Nat.reduceLeDiff,Nat.reduceMul,co_slv,hlt,e,kk h' (k1.2 b hb),co_agg2,rIdxA_0,rIdxA_1,hgt,min_i,hm,w2,w3,w]
      exact Rn.ret ⟨fun x hx => by simp at hx; have := k1.1; omega,.inl ⟨rfl,hs,by rw [hrk]⟩⟩
    · have hgt : decide ((i : Int) > (p.1 : Int)) = false := by rw [decide_eq_false_iff_not]; omega
      rw [if_neg hpi] at hrk
      simp -implicitDefEqProofs only [↓jn3,↓wsD,wsP,Nat.reduceBEq,reduceCtorEq,logOf,Nat.reduceAdd,Nat.reduceLeDiff,Nat.reduceMul,co_slv,hlt,e,kk h' (k1.2 b hb),co_agg2,rIdxA_0,rIdxA_1,hgt,w]
      exact Rn.ret ⟨fun x hx => by simp at hx; have := k1.1; omega,.inl ⟨rfl,hs,by rw [hrk]⟩⟩
  · obtain ⟨k1,rfl⟩ := hI
    unfold F_k104_L122
    simp -implicitDefEqProofs only [↓jn3,↓wsD,wsP,Nat.reduceBEq,reduceCtorEq,logOf,Nat.reduceAdd,Nat.reduceLeDiff,Nat.reduceMul,co_slv,Int.lt_irrefl,decide_false]
    exact Rn.ret ⟨by simp,by simp,rfl,by rw [List.take_length]; rfl⟩
  · obtain ⟨ex,vs,h',lg⟩ := o
    simp only at hlo q1 q2
    subst q1
    simp -implicitDefEqProofs only [↓jn3,↓wsD,wsP,Nat.reduceBEq,reduceCtorEq,logOf,Nat.reduceAdd,Nat.reduceLeDiff,Nat.reduceMul,co_slv,wsF,q2]
    exact Rn_low (fun x hx => hlo x hx) rfl rfl
theorem c_bcount {h : H} {x : Value} {S : List Sp} {F : Nat → Prop} (r : BmR h x S F) (hn : S.length < 100000) (hw : ∀ p ∈ S,p.1 < p.2 ∧ p.2 ≤ 65536) :
    icP (.fn N_k65) [x] h = some (.int .i64 (rankS S 65536 : Int),h,[]) := by
  refine Rn.eq (Rn.up (fun _ => ic_k65 rfl _) ?_)
  unfold F_k65
  obtain ⟨v,rfl,r⟩ := r
  obtain ⟨a,c,rfl⟩ := r.low
  have e := c_rank (h := h.push (.cells [.slice a S.length c] T_bitmap_Map false)) (x := .agg #[.slice a S.length c]) ⟨_,rfl,r.sup (Sup.push _ _)⟩ 65536 (by omega) hn hw
  have : ((65536 : Nat) : Int) = 65536 := rfl
  rw [this] at e
  simp -implicitDefEqProofs only [↓jn3,↓wsD,wsP,Nat.reduceBEq,reduceCtorEq,logOf,Nat.reduceAdd,Nat.reduceLeDiff,Nat.reduceMul,co_slv,wsF,aBx_bm,e]
  exact Rn_low (by simp) rfl rfl
end Go.L1


set_option maxRecDepth 100000
namespace Go.L1
open Go Go.Proofs
structure ColF where
  name : List UInt8
  kind : Int
  must : Bool
  to : List UInt8
def cf (c : ColF) : List Value := [st c.name,.int .i64 c.kind,.bool c.must,st c.to]
theorem cf_len (c : ColF) : (cf c).length = 4 := rfl
abbrev DepF := List (List UInt8) × List UInt8
structure Fm where
  name : List UInt8
  cols : List ColF
  key : List UInt8
  deps : List DepF
def DepR (h : H) (x : Value) (ds : List DepF) (F : Nat → Prop) : Prop := ∃ vs : List Value,vs.length = ds.length ∧ Rd h 2 x ds.length ((vs.zip ds).flatMap fun p => [p.1,st p.2.2]) F ∧ ∀ (i : Nat) (v : Value) (d : DepF),vs[i]? = some v → ds[i]? = some d → Rd h 1 v d.1.length (d.1.map st) F
theorem DepR.frame {h h1 : H} {x : Value} {ds : List DepF} {F : Nat → Prop} (r : DepR h x ds F) (hn : h.n ≤ h1.n) (hf : ∀ b,b < h.n → F b → h1.get b = h.get b) : DepR h1 x ds F := by
  obtain ⟨vs,h1,h2,h3⟩ := r
  exact ⟨vs,h1,h2.frame hn hf,fun i v d hv hd => (h3 i v d hv hd).frame hn hf⟩
structure ColsR (h : H) (fs : List ColF) (cps : List Nat) (ls : List (List V)) (Fc : Nat → Nat → Prop) : Prop where
  len : cps.length = ls.length
  len2 : fs.length = ls.length
  col : ∀ i cb l c,cps[i]? = some cb → ls[i]? = some l → fs[i]? = some c → ColR h cb c.kind l (Fc i)
  lt : ∀ i b,i < ls.length → Fc i b → b < h.n
  dis : ∀ i j b,i < ls.length → j < ls.length → i ≠ j → Fc i b → ¬ Fc j b
theorem ColsR.frame {h h1 : H} {fs : List ColF} {cps : List Nat} {ls : List (List V)} {Fc : Nat → Nat → Prop} (r : ColsR h fs cps ls Fc) (hn : h.n ≤ h1.n) (hf : ∀ i b,i < ls.length → Fc i b → h1.get b = h.get b) : ColsR h1 fs cps ls Fc :=
  ⟨r.len,r.len2,fun i cb l c h1 h2 h3 => (r.col i cb l c h1 h2 h3).frame hn fun b _ hF => hf i b (List.getElem?_eq_some_iff.1 h2).1 hF,fun i b hi hF => Nat.lt_of_lt_of_le (r.lt i b hi hF) hn,r.dis⟩
structure TabC (h : H) (tb : Nat) (f : Fm) (ls : List (List V)) (S : List Sp) (n : Nat) (M I : Nat → Prop) (fcols fdeps pcols lv : Value) (cps : List Nat) (Fc : Nat → Nat → Prop) (Fi : Nat → Prop) : Prop where
  cell : h.get tb = some (.cells [st f.name,fcols,st f.key,fdeps,pcols,lv,.int .i64 (n : Int)] T_table_Table false)
  cols : Rd h 4 fcols f.cols.length (f.cols.flatMap cf) Fi
  deps : DepR h fdeps f.deps Fi
  ptrs : Rd h 1 pcols cps.length (cps.map fun b => pt b 0) Fi
  live : Rd h 2 lv S.length (S.flatMap sc1) Fi
  cs : ColsR h f.cols cps ls Fc
  fc : ∀ i b,i < ls.length → Fc i b → M b ∧ b ≠ tb ∧ ¬ Fi b
  fi : ∀ b,Fi b → I b ∧ b ≠ tb ∧ b < h.n
structure TabR (h : H) (tb : Nat) (f : Fm) (ls : List (List V)) (S : List Sp) (n : Nat) (M I : Nat → Prop) : Prop where
  lt : tb < h.n
  m : M tb
  nlt : n < 60000
  lens : ∀ l ∈ ls,l.length = n
  slen : S.length < 256
  blk : ∃ fcols fdeps pcols lv cps Fc Fi,TabC h tb f ls S n M I fcols fdeps pcols lv cps Fc Fi
theorem TabR.frame {h h1 : H} {tb n : Nat} {f : Fm} {ls : List (List V)} {S : List Sp} {M I : Nat → Prop} (r : TabR h tb f ls S n M I) (hn : h.n ≤ h1.n) (hf : ∀ b,b < h.n → M b ∨ I b → h1.get b = h.get b) : TabR h1 tb f ls S n M I := by
  obtain ⟨a1,a2,a3,a4,a5,fcols,fdeps,pcols,lv,cps,Fc,Fi,k⟩ := r
  have fI : ∀ b,b < h.n → Fi b → h1.get b = h.get b := fun b hb hF => hf b hb (.inr (k.fi b hF).1)
  exact ⟨by omega,a2,a3,a4,a5,fcols,fdeps,pcols,lv,cps,Fc,Fi,by rw [hf tb a1 (.inl a2),k.cell],k.cols.frame hn fI,k.deps.frame hn fI,k.ptrs.frame hn fI,k.live.frame hn fI,
    k.cs.frame hn fun i b hi hF => hf b (k.cs.lt i b hi hF) (.inl (k.fc i b hi hF).1),k.fc,fun b hb => ⟨(k.fi b hb).1,(k.fi b hb).2.1,by have := (k.fi b hb).2.2; omega⟩⟩
theorem TabR.mono {h : H} {tb n : Nat} {f : Fm} {ls : List (List V)} {S : List Sp} {M I M' I' : Nat → Prop} (r : TabR h tb f ls S n M I) (hM : ∀ b,M b → M' b) (hI : ∀ b,I b → I' b) : TabR h tb f ls S n M' I' := by
  obtain ⟨a1,a2,a3,a4,a5,fcols,fdeps,pcols,lv,cps,Fc,Fi,k⟩ := r
  exact ⟨a1,hM _ a2,a3,a4,a5,fcols,fdeps,pcols,lv,cps,Fc,Fi,k.cell,k.cols,k.deps,k.ptrs,k.live,k.cs,fun i b hi hF => ⟨hM _ (k.fc i b hi hF).1,(k.fc i b hi hF).2⟩,fun b hb => ⟨hI _ (k.fi b hb).1,(k.fi b hb).2⟩⟩
theorem Rd.colf {h : H} {x : Value} {fs : List ColF} {F : Nat → Prop} (r : Rd h 4 x fs.length (fs.flatMap cf) F) {i : Nat} {c : ColF} (hc : fs[i]? = some c) :
    ∃ b o,rIdxS 4 x (.int .i64 (i : Int)) = some (pt b o) ∧ b < h.n ∧ F b ∧ ∀ h' : H,h'.get b = h.get b → rLdA h'.get 4 (pt b o) = some (.agg (cf c).toArray) ∧ rLd1 h'.get (pt b o) = some (st c.name) ∧ rLd1 h'.get (pt b (o + 1)) = some (.int .i64 c.kind) ∧ rLd1 h'.get (pt b (o + 3)) = some (st c.to) := by
  obtain ⟨hi,_⟩ := List.getElem?_eq_some_iff.1 hc
  obtain ⟨b,o,e,hb,hF,k⟩ := r.elt hi
  refine ⟨b,o,e,hb,hF,fun h' hg => ?_⟩
  have h1 := (flat_row cf_len hc []).2
  have h2 := fun j hj => flat_cell (j := j) cf_len hc hj []
  rw [List.append_nil] at h1
  simp only [List.append_nil] at h2
  refine ⟨by rw [(k h' hg).1,h1],?_,?_,?_⟩
  · have := (k h' hg).2 0 (by omega)
    rw [Nat.add_zero] at this
    rw [this,h2 0 (by omega)]; rfl
  · rw [(k h' hg).2 1 (by omega),h2 1 (by omega)]; rfl
  · rw [(k h' hg).2 3 (by omega),h2 3 (by omega)]; rfl
theorem c_tmay {h : H} {tb n : Nat} {f : Fm} {ls : List (List V)} {S : List Sp} {M I : Nat → Prop} (r : TabR h tb f ls S n M I) {i : Nat} {c : ColF} (hc : f.cols[i]? = some c) (v : V) (hv : v.s.length < 1000) :
    icP (.fn N_k73) [pt tb 0,.int .i64 (i : Int),v.v] h = some (.bool (mayC c.kind v),h,[]) := by
  refine Rn.eq (Rn.up (fun _ => ic_k73 rfl _ _ _) ?_)
  unfold F_k73 mayC
  obtain ⟨a1,a2,a3,a4,a5,fcols,fdeps,pcols,lv,cps,Fc,Fi,k⟩ := r
  obtain ⟨b,o,e,hb,hF,kk⟩ := k.cols.colf hc
  have hk := (kk (h.push (.cells v.cs T_api_Value false)) (by rw [H.get_push,if_neg (by omega)])).2.2.1
  rw [rLd1_u] at hk
  simp only [H.get_push,Nat.ne_of_lt hb,if_false] at hk
  have hm := fun h => c_may v h hv
  cases h0 : v.k == 0 <;> cases h1 : v.k == c.kind <;> simp -implicitDefEqProofs only [↓jn3,↓wsD,wsP,Nat.reduceBEq,reduceCtorEq,logOf,Nat.reduceAdd,Nat.reduceLeDiff,Nat.reduceMul,co_slv,wsF,h0,h1,k.cell,Nat.ne_of_lt a1,e,Nat.ne_of_lt hb,hk,hm,Bool.or_true,Bool.or_false,Bool.true_and,Bool.false_and] <;> exact Rn_low (by simp) rfl rfl
theorem c_tnext {h : H} {tb n : Nat} {f : Fm} {ls : List (List V)} {S : List Sp} {M I : Nat → Prop} (r : TabR h tb f ls S n M I) : icP (.fn N_k66) [pt tb 0] h = some (.int .i64 (n : Int),h,[]) := by
  refine Rn.eq (Rn.up (fun _ => ic_k66 rfl _) ?_)
  unfold F_k66
  obtain ⟨a1,a2,a3,a4,a5,fcols,fdeps,pcols,lv,cps,Fc,Fi,k⟩ := r
  simp -implicitDefEqProofs only [↓jn3,↓wsD,wsP,Nat.reduceBEq,reduceCtorEq,logOf,Nat.reduceAdd,Nat.reduceLeDiff,Nat.reduceMul,co_slv,wsF,k.cell]
  exact Rn_low (by simp) rfl rfl
theorem c_tlive {h : H} {tb n : Nat} {f : Fm} {ls : List (List V)} {S : List Sp} {M I : Nat → Prop} (r : TabR h tb f ls S n M I) : ∃ x,icP (.fn N_k53) [pt tb 0] h = some (x,h,[]) ∧ BmR h x S I := by
  obtain ⟨a1,a2,a3,a4,a5,fcols,fdeps,pcols,lv,cps,Fc,Fi,k⟩ := r
  obtain ⟨a,c,rfl⟩ := k.live.low
  refine ⟨.agg #[.slice a S.length c],?_,_,rfl,k.live.mono fun b _ hF => (k.fi b hF).1⟩
  refine Rn.eq (Rn.up (fun _ => ic_k53 rfl _) ?_)
  unfold F_k53
  have e1 : cellsOf (.agg [Value.slice a S.length c].toArray) = some [.slice a S.length c] := rfl
  simp -implicitDefEqProofs only [↓jn3,↓wsD,wsP,Nat.reduceBEq,reduceCtorEq,logOf,Nat.reduceAdd,Nat.reduceLeDiff,Nat.reduceMul,co_slv,wsF,k.cell,Nat.ne_of_lt a1,e1]
  refine Rn_low (by simp) ?_ rfl
  have := k.live.bel 2
  simpa [tupled,belowV] using this
end Go.L1


set_option maxRecDepth 100000
namespace Go.L1
open Go Go.Proofs
theorem box_sup {h : H} {z cs : List Value} {e : Nat} : Sup h ((h.push (.cells z e false)).set h.n (.cells cs e false)) := by
  refine ⟨by show h.n ≤ h.n + 1; omega,fun b hb => ?_⟩
  rw [H.get_set,if_neg (by omega),H.get_push,if_neg (by omega)]
theorem box_get {h : H} {z cs : List Value} {e : Nat} : ((h.push (.cells z e false)).set h.n (.cells cs e false)).get h.n = some (.cells cs e false) := by rw [H.get_set,if_pos rfl]
theorem Rd.val {h : H} {x : Value} {vs : List V} {F : Nat → Prop} (r : Rd h 3 x vs.length (vs.flatMap V.cs) F) {i : Nat} {v : V} (hv : vs[i]? = some v) :
    ∃ b o,rIdxS 3 x (.int .i64 (i : Int)) = some (pt b o) ∧ b < h.n ∧ F b ∧ ∀ h' : H,h'.get b = h.get b → rLdA h'.get 3 (pt b o) = some v.v := by
  obtain ⟨hi,_⟩ := List.getElem?_eq_some_iff.1 hv
  obtain ⟨b,o,e,hb,hF,k⟩ := r.elt hi
  refine ⟨b,o,e,hb,hF,fun h' hg => ?_⟩
  rw [(k h' hg).1]
  have := (flat_row V.cs_len hv []).2
  rw [List.append_nil] at this
  rw [this]; rfl
theorem Rd.ptr {h : H} {x : Value} {ps : List Nat} {F : Nat → Prop} (r : Rd h 1 x ps.length (ps.map fun b => pt b 0) F) {i p : Nat} (hp : ps[i]? = some p) :
    ∃ b o,rIdxS 1 x (.int .i64 (i : Int)) = some (pt b o) ∧ b < h.n ∧ F b ∧ ∀ h' : H,h'.get b = h.get b → rLd1 h'.get (pt b o) = some (pt p 0) := by
  obtain ⟨hi,_⟩ := List.getElem?_eq_some_iff.1 hp
  obtain ⟨b,o,e,hb,hF,k⟩ := r.elt hi
  refine ⟨b,o,e,hb,hF,fun h' hg => ?_⟩
  have := (k h' hg).2 0 (by omega)
  rw [Nat.add_zero] at this
  rw [this]
  simp [hp]
theorem Rn_new {h h1 : H} {e es n : Nat} {ob : Option Nat} {cs : List Value} {t : List Value} {lg : List Nat} {Q : Value × H × List Nat → Prop} (hl : ∀ x ∈ lg,h.n ≤ x) (o : own h1 e ob cs) (hcs : cs.length = n * es) (hes : es ≠ 0) (hf : ∀ b,ob = some b → h.n ≤ b)
    (hv : ∀ b,ob = some b → belowV h.n 4 (tupled (slv ob n :: t)) = false) (hq : ∀ h2,(h2 = h1 ∨ h2 = h) → Rd h2 es (slv ob n) n cs (fun b => h.n ≤ b) → Q (tupled (slv ob n :: t),h2,[])) :
    Rn (some (settle h (tupled (slv ob n :: t)) h1 lg)) Q := by
  refine ⟨_,rfl,?_⟩
  rcases settle_fresh (h1 := h1) (v := tupled (slv ob n :: t)) hl with e | ⟨e,hb⟩
  · rw [e]
    exact hq h1 (.inl rfl) (o.rd hcs hes hf)
  · rw [e]
    have : ob = none := by
      cases ob with
      | none => rfl
      | some b => rw [hv b rfl] at hb; cases hb
    subst this
    exact hq h (.inr rfl) (own.rd (h := h) (e := 0) (ob := none) (show cs = [] from o) hcs hes hf)
theorem c_trow {h : H} {tb n : Nat} {f : Fm} {ls : List (List V)} {S : List Sp} {M I : Nat → Prop} (r : TabR h tb f ls S n M I) {id : Nat} (hid : hasS S id = true) {row : List V} (hrl : row.length = ls.length) (hrow : ∀ (i : Nat) (l : List V) (v : V),ls[i]? = some l → row[i]? = some v → l[id]? = some v) (hln : ls.length < 1000) :
    Rn (icP (.fn N_k67) [pt tb 0,.int .i64 (id : Int)] h) fun r => r.2.2 = [] ∧ Sup h r.2.1 ∧ ∃ x,r.1 = .tuple [x,.bool true].toArray ∧ Rd r.2.1 3 x row.length (row.flatMap V.cs) (fun b => h.n ≤ b) := by
  refine Rn.up (fun _ => ic_k67 rfl _ _) ?_
  unfold F_k67
  have r0 := r
  obtain ⟨a1,a2,a3,a4,a5,fcols,fdeps,pcols,lv,cps,Fc,Fi,k⟩ := r
  obtain ⟨a,c,hlv⟩ := k.live.low
  have hbm : BmR h (.agg #[lv]) S Fi := ⟨lv,rfl,k.live⟩
  have hh := c_has hbm id (by omega)
  rw [hid] at hh
  have hpl : rLenL pcols = some (.int .i64 cps.length) := k.ptrs.len
  simp -implicitDefEqProofs only [↓jn3,↓wsD,wsP,Nat.reduceBEq,reduceCtorEq,logOf,Nat.reduceAdd,Nat.reduceLeDiff,Nat.reduceMul,co_slv,k.cell,hh,hpl]
  have hcl : cps.length = row.length := by rw [k.cs.len,hrl]
  refine Rn_ob (lw_cnt (fun x => h.n ≤ x) row.length (fun i vs h' => Sup h h' ∧ ∃ ob,own h' T_api_Value ob ((row.take i).flatMap V.cs) ∧ (∀ b,ob = some b → h.n ≤ b) ∧ vs = [.int .i64 (id : Int),.slice none 0 0,.bool false,slv ob i,pcols,.int .i64 cps.length,.int .i64 (i : Int)])
    (fun ex vs h' => ex = .exit 0 ∧ Sup h h' ∧ ∃ ob,own h' T_api_Value ob (row.flatMap V.cs) ∧ (∀ b,ob = some b → h.n ≤ b) ∧ nt vs 3 = slv ob row.length)
    (fun i vs h' hi hI => ?_) (fun vs h' hI => ?_) (Nat.zero_le _) ⟨Sup.refl _,none,rfl,by simp,rfl⟩) fun o ⟨hlo,q1,q2,ob,q3,q4,q5⟩ => ?_
  · obtain ⟨k1,ob,k3,k4,rfl⟩ := hI
    have hi1 : i < ls.length := by omega
    obtain ⟨cb,hcb⟩ : ∃ p,cps[i]? = some p := ⟨_,List.getElem?_eq_getElem (by omega)⟩
    obtain ⟨l,hl⟩ : ∃ p,ls[i]? = some p := ⟨_,List.getElem?_eq_getElem hi1⟩
    obtain ⟨v,hv⟩ : ∃ p,row[i]? = some p := ⟨_,List.getElem?_eq_getElem hi⟩
    obtain ⟨c,hc⟩ : ∃ p,f.cols[i]? = some p := ⟨_,List.getElem?_eq_getElem (by rw [k.cs.len2]; exact hi1)⟩
    have hcol := (k.cs.col i cb l c hcb hl hc).frame k1.1 fun b hb _ => k1.2 b hb
    have hat := c_at hcol (hrow i l v hl hv)
    obtain ⟨b,o,e,hb,_,kk⟩ := k.ptrs.ptr hcb
    have hlt : decide ((i : Int) < cps.length) = true := by rw [decide_eq_true_eq]; omega
    have w : IntKind.i64.wrap ((i : Int) + 1) = ((i + 1 : Nat) : Int) := by rw [wrapI (by omega) (by omega)]; rfl
    have htk : (row.take (i + 1)).flatMap V.cs = (row.take i).flatMap V.cs ++ v.cs := by
      rw [List.take_add_one,hv,List.flatMap_append]; simp
    generalize hh2 : ((h'.push (.cells [.int .i64 0,.int .i64 0,.string ⟨#[]⟩] T_api_Value false)).set h'.n (.cells v.cs T_api_Value false)).push (.cells v.cs T_api_Value false) = h2
    have s2 : Sup h' h2 := by rw [← hh2]; exact box_sup.trans (Sup.push _ _)
    have n2 : h2.n = h'.n + 2 := by rw [← hh2]; rfl
    have g2 : h2.get (h'.n + 1) = some (.cells v.cs T_api_Value false) := by rw [← hh2,H.get_push,if_pos (by rfl)]
    have hsx : sliceCells h2.get 3 (some ⟨h'.n + 1,0,none⟩) 1 = some v.cs := by rw [sliceCells_eq g2 (by simp [V.cs_len])]; rfl
    have hkl : ((row.take i).flatMap V.cs).length = i * 3 := by rw [flat_len V.cs_len,List.length_take,Nat.min_eq_left (by omega)]
    obtain ⟨⟨w5,h5,lg⟩,e5,ob',p1,p2,p3,p4,p5⟩ := rApp_own (es := 3) (bytes := 32) (zero := [(.int .i64 0),(.int .i64 0),(.string ⟨#[]⟩)]) (n := i) (m := 1) (xc := 1) (new := v.cs) (k3.frame s2.1 fun b e => by subst e; exact s2.2 b k3.1) hkl (by omega) hsx rfl (by simp only [lim]; omega)
    simp only at p1 p2 p3 p4 p5
    subst p1
    have k11 := k1.1
    have hle := p5.le
    unfold F_k67_L250
    simp -implicitDefEqProofs only [↓jn3,↓wsD,wsP,Nat.reduceBEq,reduceCtorEq,logOf,Nat.reduceAdd,Nat.reduceLeDiff,Nat.reduceMul,co_slv,hlt,e,kk h' (k1.2 b hb),hat,bS_V,hh2,e5,w]
    refine Rn.ret ⟨fun x hx => ?_,.inl ⟨rfl,⟨by show h.n ≤ h5.n; omega,fun b hb => ?_⟩,ob',by rw [htk]; exact p2,fun b e => ?_,rfl⟩⟩
    · simp only [List.mem_append,List.mem_cons,List.not_mem_nil,or_false] at hx
      rcases hx with hx | rfl
      · exact k4 x (p4 x hx)
      · exact k11
    · show h5.get b = _
      rw [p5.same b (by omega) (fun hm => by have := k4 b (p4 b hm); omega),s2.2 b (by omega),k1.2 b hb]
    · rcases p3 with ⟨rfl,_⟩ | rfl
      · exact k4 b e
      · cases e; omega
  · obtain ⟨k1,ob,k3,k4,rfl⟩ := hI
    have hlt : decide ((row.length : Int) < cps.length) = false := by rw [decide_eq_false_iff_not]; omega
    unfold F_k67_L250
    rw [List.take_length] at k3
    simp -implicitDefEqProofs only [↓jn3,↓wsD,wsP,Nat.reduceBEq,reduceCtorEq,logOf,Nat.reduceAdd,Nat.reduceLeDiff,Nat.reduceMul,co_slv,hlt]
    exact Rn.ret ⟨by simp,by simp,rfl,k1,ob,k3,k4,rfl⟩
  · obtain ⟨ex,vs,h1,lg⟩ := o
    simp only at hlo q1 q2 q3 q4 q5
    subst q1
    simp -implicitDefEqProofs only [↓jn3,↓wsD,wsP,Nat.reduceBEq,reduceCtorEq,logOf,Nat.reduceAdd,Nat.reduceLeDiff,Nat.reduceMul,co_slv,wsF,q5,rsT_slv]
    refine Rn_new (e := T_api_Value) (es := 3) (n := row.length) hlo q3 (flat_len V.cs_len row) (by omega) q4 (fun b e => ?_) fun h2 hh2 hr => ⟨rfl,?_,_,rfl,hr⟩
    · have := q4 b e
      subst e
      simp [tupled,belowV,slv]; omega
    · rcases hh2 with rfl | rfl
      · exact q2
      · exact Sup.refl _
end Go.L1


set_option maxRecDepth 100000
namespace Go.L1
open Go Go.Proofs
def apnd (ls : List (List V)) (vals : List V) : List (List V) := List.zipWith (fun l v => l ++ [v]) ls vals
theorem apnd_len {ls : List (List V)} {vals : List V} (h : vals.length = ls.length) : (apnd ls vals).length = ls.length := by simp [apnd,h]
theorem apnd_get {ls : List (List V)} {vals : List V} {i : Nat} {l : List V} {v : V} (hl : ls[i]? = some l) (hv : vals[i]? = some v) : (apnd ls vals)[i]? = some (l ++ [v]) := by simp [apnd,List.getElem?_zipWith,hl,hv]
def lsk (ls : List (List V)) (vals : List V) (k : Nat) : List (List V) := (apnd ls vals).take k ++ ls.drop k
theorem lsk_len {ls : List (List V)} {vals : List V} (h : vals.length = ls.length) (k : Nat) (hk : k ≤ ls.length) : (lsk ls vals k).length = ls.length := by
  simp [lsk,apnd_len h]; omega
theorem lsk_lt {ls : List (List V)} {vals : List V} (h : vals.length = ls.length) {k i : Nat} (hk : k ≤ ls.length) (hi : i < k) : (lsk ls vals k)[i]? = (apnd ls vals)[i]? := by
  unfold lsk
  rw [List.getElem?_append_left (by rw [List.length_take,apnd_len h]; omega),List.getElem?_take,if_pos hi]
theorem lsk_ge {ls : List (List V)} {vals : List V} (h : vals.length = ls.length) {k i : Nat} (hk : k ≤ ls.length) (hi : k ≤ i) : (lsk ls vals k)[i]? = ls[i]? := by
  unfold lsk
  have hl : ((apnd ls vals).take k).length = k := by rw [List.length_take,apnd_len h]; omega
  rw [List.getElem?_append_right (by omega),hl,List.getElem?_drop]
  congr 1; omega
theorem lsk_all {ls : List (List V)} {vals : List V} (h : vals.length = ls.length) : lsk ls vals ls.length = apnd ls vals := by
  unfold lsk
  rw [List.drop_length,List.append_nil,List.take_of_length_le (by rw [apnd_len h]; omega)]
theorem joinS_bd {S : List Sp} {n : Nat} (h : ∀ p ∈ S,p.1 < p.2 ∧ p.2 ≤ n) : ∀ p ∈ joinS S,p.1 < p.2 ∧ p.2 ≤ n := by
  suffices ∀ (S A : List Sp),(∀ p ∈ S,p.1 < p.2 ∧ p.2 ≤ n) → (∀ p ∈ A,p.1 < p.2 ∧ p.2 ≤ n) → ∀ p ∈ S.foldl (fun a p => addS a p.1 p.2) A,p.1 < p.2 ∧ p.2 ≤ n from this S [] h (by simp)
  intro S
  induction S with
  | nil => intro A _ hA; simpa using hA
  | cons q S ih =>
    intro A hS hA
    refine ih _ (fun p hp => hS p (List.mem_cons_of_mem _ hp)) ?_
    have hq := hS q List.mem_cons_self
    intro p hp
    unfold addS at hp
    rcases List.eq_nil_or_concat A with rfl | ⟨A0,⟨a,b⟩,rfl⟩
    · simp only [List.getLast?_nil] at hp
      split at hp
      · simp only [List.mem_cons,List.not_mem_nil,or_false] at hp
        subst hp; exact hq
      · cases hp
    · rw [List.concat_eq_append] at hp hA
      simp only [List.getLast?_concat,List.dropLast_concat] at hp
      have hab := hA (a,b) (by simp)
      split at hp
      · rcases List.mem_append.1 hp with hp | hp
        · exact hA p (by simp [hp])
        · simp only [List.mem_cons,List.not_mem_nil,or_false] at hp
          subst hp
          simp only at hab ⊢
          omega
      · split at hp
        · rcases List.mem_append.1 hp with hp | hp
          · exact hA p hp
          · simp only [List.mem_cons,List.not_mem_nil,or_false] at hp
            subst hp; exact hq
        · exact hA p hp
theorem bS_i (n : Nat) (i : Int) : aBuildS pgB n T_Li64 1 [(0,.int .i64 i)] = some (.slice (some ⟨n,0,none⟩) 1 1,.cells [.int .i64 i] T_i64_b false) := by kernel_rfl
theorem tins_app {h : H} {tb n : Nat} {f : Fm} {ls : List (List V)} {S : List Sp} {M I Fv : Nat → Prop} {vx : Value} {vals : List V} {fcols fdeps pcols lv : Value} {cps : List Nat} {Fc : Nat → Nat → Prop} {Fi : Nat → Prop}
    (ht : tb < h.n) (k : TabC h tb f ls S n M I fcols fdeps pcols lv cps Fc Fi) (hlens : ∀ l ∈ ls,l.length = n) (hn : n < 60000) (rv : Rd h 3 vx vals.length (vals.flatMap V.cs) Fv) (hvM : ∀ b,Fv b → ¬ M b) (hs : ∀ v ∈ vals,v.s.length < 1000) (hvl : vals.length = ls.length) (hll : ls.length < 1000)
    (hmay : ∀ (i : Nat) (v : V) (c : ColF),vals[i]? = some v → f.cols[i]? = some c → mayC c.kind v = true) {h0 : H} (s0 : Sup h h0) (j1 j2 : Value) :
    Rn (lw (F_k35_L250 icP lw) [pt tb 0,j1,j2,vx,.int .i64 vals.length,.int .i64 0] h0) fun o => (∀ x ∈ o.lg,(M x ∧ x ≠ tb) ∨ h.n ≤ x) ∧ o.ex = .exit 3 ∧ nt o.vs 0 = pt tb 0 ∧ h.n ≤ o.h.n ∧
      (∀ b,b < h.n → (∀ i,i < ls.length → ¬ Fc i b) → o.h.get b = h.get b) ∧ ∃ Fc',ColsR o.h f.cols cps (apnd ls vals) Fc' ∧ ∀ i b,i < ls.length → Fc' i b → Fc i b ∨ h.n ≤ b := by
  refine Rn.mono (lw_cnt (fun x => (M x ∧ x ≠ tb) ∨ h.n ≤ x) vals.length (fun i vs h' => h.n ≤ h'.n ∧ (∀ b,b < h.n → (∀ j,j < ls.length → ¬ Fc j b) → h'.get b = h.get b) ∧ (∃ Fc',ColsR h' f.cols cps (lsk ls vals i) Fc' ∧ ∀ j b,j < ls.length → Fc' j b → Fc j b ∨ h.n ≤ b) ∧ vs = [pt tb 0,j1,j2,vx,.int .i64 vals.length,.int .i64 (i : Int)])
    (fun ex vs h' => ex = .exit 3 ∧ nt vs 0 = pt tb 0 ∧ h.n ≤ h'.n ∧ (∀ b,b < h.n → (∀ j,j < ls.length → ¬ Fc j b) → h'.get b = h.get b) ∧ ∃ Fc',ColsR h' f.cols cps (apnd ls vals) Fc' ∧ ∀ j b,j < ls.length → Fc' j b → Fc j b ∨ h.n ≤ b)
    (fun i vs h' hi hI => ?_) (fun vs h' hI => ?_) (Nat.zero_le _) ⟨s0.1,fun b hb _ => s0.2 b hb,⟨Fc,?_,fun j b _ hF => .inl hF⟩,rfl⟩) fun o q => q
  · obtain ⟨k1,k2,⟨Fc',k3,k4⟩,rfl⟩ := hI
    have hi1 : i < ls.length := by omega
    have hil : i ≤ ls.length := by omega
    obtain ⟨cb,hcb⟩ : ∃ p,cps[i]? = some p := ⟨_,List.getElem?_eq_getElem (by rw [k.cs.len]; exact hi1)⟩
    obtain ⟨l,hl⟩ : ∃ p,ls[i]? = some p := ⟨_,List.getElem?_eq_getElem hi1⟩
    obtain ⟨v,hv⟩ : ∃ p,vals[i]? = some p := ⟨_,List.getElem?_eq_getElem hi⟩
    obtain ⟨c,hc⟩ : ∃ p,f.cols[i]? = some p := ⟨_,List.getElem?_eq_getElem (by rw [k.cs.len2]; exact hi1)⟩
    have keep : ∀ b,b < h.n → ¬ M b ∨ b = tb → h'.get b = h.get b := fun b hb hm => k2 b hb fun j hj hF => by
      have := k.fc j b hj hF
      rcases hm with hm | hm
      · exact hm this.1
      · exact this.2.1 hm
    have hlk : (lsk ls vals i)[i]? = some l := by rw [lsk_ge hvl hil (Nat.le_refl _),hl]
    have hln : l.length = n := hlens l (List.mem_of_getElem? hl)
    obtain ⟨b1,o1,e1,hb1,hF1,kk1⟩ := rv.val hv
    obtain ⟨b2,o2,e2,hb2,hF2,kk2⟩ := k.ptrs.ptr hcb
    have g1 := keep b1 hb1 (.inl (hvM b1 hF1))
    have g2 : h'.get b2 = h.get b2 := k2 b2 hb2 fun j hj hF => (k.fc j b2 hj hF).2.2 hF2
    have gt := keep tb ht (.inr rfl)
    generalize hh1 : (h'.push (.cells [.int .i64 0,.int .i64 0,.string ⟨#[]⟩] T_api_Value false)).set h'.n (.cells v.cs T_api_Value false) = h1
    have s1 : Sup h' h1 := by rw [← hh1]; exact box_sup
    have n1 : h1.n = h'.n + 1 := by rw [← hh1]; rfl
    have gx : h1.get h'.n = some (.cells v.cs T_api_Value false) := by rw [← hh1]; exact box_get
    have gt1 : h1.get tb = some (.cells [st f.name,fcols,st f.key,fdeps,pcols,lv,.int .i64 (n : Int)] T_table_Table false) := by rw [s1.2 tb (by omega),gt,k.cell]
    have g21 : h1.get b2 = h.get b2 := by rw [s1.2 b2 (by omega),g2]
    have hcol := (k3.col i cb l c hcb hlk hc).frame s1.1 fun b hb _ => s1.2 b hb
    have hlen' := lsk_len hvl i hil
    obtain ⟨⟨w5,h5,lg⟩,e5,p1,p2,p3⟩ := c_cappend hcol v (hmay i v c hv hc) (hs v (List.mem_of_getElem? hv)) (by omega)
    simp only at p1 p2 p3
    subst p1
    have hst := icP_stp _ _ _ _ _ _ e5
    have hle := hst.le
    have hlt : decide ((i : Int) < vals.length) = true := by rw [decide_eq_true_eq]; omega
    have w : IntKind.i64.wrap ((i : Int) + 1) = ((i + 1 : Nat) : Int) := by rw [wrapI (by omega) (by omega)]; rfl
    unfold F_k35_L250
    simp -implicitDefEqProofs only [↓jn3,↓wsD,wsP,Nat.reduceBEq,reduceCtorEq,logOf,Nat.reduceAdd,Nat.reduceLeDiff,Nat.reduceMul,co_slv,hlt,e1,kk1 h' g1,hh1,gt1,e2,kk2 h1 g21,gx,e5]
    rw [dr_ws [false,false,false,false,false,false,false,false,true] (by kernel_rfl)]
    simp -implicitDefEqProofs only [↓jn3,↓wsD,wsP,Nat.reduceBEq,reduceCtorEq,logOf,Nat.reduceAdd,Nat.reduceLeDiff,Nat.reduceMul,co_slv,w]
    refine Rn.ret ⟨fun x hx => ?_,.inl ⟨rfl,by show h.n ≤ h5.n; omega,fun b hb hnF => ?_,⟨fun j b => if j = i then (Fc' i b ∨ h1.n ≤ b) ∧ b < h5.n else Fc' j b,?_,fun j b hj hF => ?_⟩,rfl⟩⟩
    · simp only [List.mem_append,List.mem_cons,List.not_mem_nil,or_false] at hx
      rcases hx with hx | rfl
      · have := (p2 x hx).1
        rcases k4 i x hi1 this with h | h
        · exact .inl ⟨(k.fc i x hi1 h).1,(k.fc i x hi1 h).2.1⟩
        · exact .inr h
      · exact .inr k1
    · show h5.get b = _
      rw [hst.same b (by omega) (fun hm => ?_),s1.2 b (by omega),k2 b hb hnF]
      rcases k4 i b hi1 (p2 b hm).1 with h | h
      · exact hnF i hi1 h
      · omega
    · have hi2 : i + 1 ≤ ls.length := by omega
      have hlen2 := lsk_len hvl (i + 1) hi2
      refine ⟨by rw [hlen2,k.cs.len],by rw [hlen2,k.cs.len2],fun j cb' l' c' h1' h2' h3' => ?_,fun j b hj hF => ?_,fun j j' b hj hj' hne hF => ?_⟩
      · by_cases hji : j = i
        · subst hji
          rw [hcb] at h1'; cases h1'
          rw [lsk_lt hvl hi2 (by omega),apnd_get hl hv] at h2'; cases h2'
          rw [hc] at h3'; cases h3'
          obtain ⟨P,oX,oS,oD⟩ := p3
          exact ⟨P,(oX.bd).mono fun b hb => by simpa using hb,oS,oD⟩
        · have h2k : (lsk ls vals i)[j]? = some l' := by
            rcases Nat.lt_or_ge j i with h | h
            · rw [lsk_lt hvl hil h]; rw [lsk_lt hvl hi2 (by omega)] at h2'; exact h2'
            · rw [lsk_ge hvl hil h]; rw [lsk_ge hvl hi2 (by omega)] at h2'; exact h2'
          have hjl : j < ls.length := by have := (List.getElem?_eq_some_iff.1 h2k).1; omega
          refine ((k3.col j cb' l' c' h1' h2k h3').frame (h1 := h5) (by omega) fun b hb hF => ?_).mono fun b hb => by simpa [hji] using hb
          rw [hst.same b (by omega) (fun hm => k3.dis j i b (by omega) (by omega) hji hF (p2 b hm).1),s1.2 b hb]
      · rw [hlen2] at hj
        by_cases hji : j = i
        · subst hji
          simp only [if_true] at hF
          exact hF.2
        · simp only [hji,if_false] at hF
          have := k3.lt j b (by omega) hF
          show b < h5.n
          omega
      · rw [hlen2] at hj hj'
        by_cases hji : j = i
        · have hj'i : j' ≠ i := fun e => hne (by rw [hji,e])
          simp only [hji,if_true] at hF
          simp only [hj'i,if_false]
          intro hF'
          have hlt' := k3.lt j' b (by omega) hF'
          rcases hF.1 with h | h
          · exact k3.dis i j' b (by omega) (by omega) (Ne.symm hj'i) h hF'
          · omega
        · simp only [hji,if_false] at hF
          by_cases hj'i : j' = i
          · simp only [hj'i,if_true]
            rintro ⟨hF',_⟩
            have hlt' := k3.lt j b (by omega) hF
            rcases hF' with h | h
            · exact k3.dis j i b (by omega) (by omega) hji hF h
            · omega
          · simp only [hj'i,if_false]
            exact k3.dis j j' b (by omega) (by omega) hne hF
    · by_cases hji : j = i
      · subst hji
        simp only [if_true] at hF
        rcases hF.1 with h | h
        · exact k4 j b hj h
        · exact .inr (by omega)
      · simp only [hji,if_false] at hF
        exact k4 j b hj hF
  · obtain ⟨k1,k2,⟨Fc',k3,k4⟩,rfl⟩ := hI
    rw [hvl,lsk_all hvl] at k3
    unfold F_k35_L250
    simp -implicitDefEqProofs only [↓jn3,↓wsD,wsP,Nat.reduceBEq,reduceCtorEq,logOf,Nat.reduceAdd,Nat.reduceLeDiff,Nat.reduceMul,co_slv,Int.lt_irrefl,decide_false]
    exact Rn.ret ⟨by simp,by simp,rfl,rfl,k1,k2,Fc',k3,k4⟩
  · have : lsk ls vals 0 = ls := by simp [lsk]
    rw [this]
    exact k.cs.frame s0.1 fun i b hi hF => s0.2 b (k.cs.lt i b hi hF)
end Go.L1


set_option maxRecDepth 100000
namespace Go.L1
open Go Go.Proofs
def mayRow (fs : List ColF) (vals : List V) : Bool := (List.range vals.length).all fun i => match vals[i]?,fs[i]? with
  | some v,some c => mayC c.kind v
  | _,_ => false
theorem tins_ask {h : H} {tb n : Nat} {f : Fm} {ls : List (List V)} {S : List Sp} {M I Fv : Nat → Prop} {vx : Value} {vals : List V} (r : TabR h tb f ls S n M I) (rv : Rd h 3 vx vals.length (vals.flatMap V.cs) Fv) (hs : ∀ v ∈ vals,v.s.length < 1000) (hvl : vals.length = f.cols.length) (hll : f.cols.length < 1000) (j1 j2 : Value) :
    Rn (lw (F_k35_L122 icP lw) [pt tb 0,vx,j1,j2,vx,.int .i64 vals.length,.int .i64 0] h) fun o => (∀ x ∈ o.lg,h.n ≤ x) ∧ Sup h o.h ∧ ((mayRow f.cols vals = true ∧ o.ex = .exit 1 ∧ nt o.vs 0 = pt tb 0 ∧ nt o.vs 1 = vx ∧ nt o.vs 2 = j1 ∧ nt o.vs 3 = j2) ∨ (mayRow f.cols vals = false ∧ o.ex = .ret ∧ nt o.vs 2 = .int .i64 0 ∧ nt o.vs 3 = .int .i64 4)) := by
  refine Rn.mono (lw_cnt (fun x => h.n ≤ x) vals.length (fun i vs h' => Sup h h' ∧ (∀ (j : Nat) (v : V) (c : ColF),j < i → vals[j]? = some v → f.cols[j]? = some c → mayC c.kind v = true) ∧ vs = [pt tb 0,vx,j1,j2,vx,.int .i64 vals.length,.int .i64 (i : Int)])
    (fun ex vs h' => Sup h h' ∧ ((mayRow f.cols vals = true ∧ ex = .exit 1 ∧ nt vs 0 = pt tb 0 ∧ nt vs 1 = vx ∧ nt vs 2 = j1 ∧ nt vs 3 = j2) ∨ (mayRow f.cols vals = false ∧ ex = .ret ∧ nt vs 2 = .int .i64 0 ∧ nt vs 3 = .int .i64 4)))
    (fun i vs h' hi hI => ?_) (fun vs h' hI => ?_) (Nat.zero_le _) ⟨Sup.refl _,fun j v c hj => absurd hj (Nat.not_lt_zero _),rfl⟩) fun o q => q
  · obtain ⟨k1,k2,rfl⟩ := hI
    obtain ⟨v,hv⟩ : ∃ p,vals[i]? = some p := ⟨_,List.getElem?_eq_getElem hi⟩
    obtain ⟨c,hc⟩ : ∃ p,f.cols[i]? = some p := ⟨_,List.getElem?_eq_getElem (by omega)⟩
    obtain ⟨b1,o1,e1,hb1,hF1,kk1⟩ := rv.val hv
    generalize hh1 : (h'.push (.cells [.int .i64 0,.int .i64 0,.string ⟨#[]⟩] T_api_Value false)).set h'.n (.cells v.cs T_api_Value false) = h1
    have s1 : Sup h' h1 := by rw [← hh1]; exact box_sup
    have gx : h1.get h'.n = some (.cells v.cs T_api_Value false) := by rw [← hh1]; exact box_get
    have s2 := k1.trans s1
    have hm := c_tmay (r.frame s2.1 fun b hb _ => s2.2 b hb) hc v (hs v (List.mem_of_getElem? hv))
    have hlt : decide ((i : Int) < vals.length) = true := by rw [decide_eq_true_eq]; omega
    have w : IntKind.i64.wrap ((i : Int) + 1) = ((i + 1 : Nat) : Int) := by rw [wrapI (by omega) (by omega)]; rfl
    unfold F_k35_L122
    cases hmv : mayC c.kind v
    · rw [hmv] at hm
      simp -implicitDefEqProofs only [↓jn3,↓wsD,wsP,Nat.reduceBEq,reduceCtorEq,logOf,Nat.reduceAdd,Nat.reduceLeDiff,Nat.reduceMul,co_slv,hlt,e1,kk1 h' (k1.2 b1 hb1),hh1,gx,hm]
      refine Rn.ret ⟨fun x hx => ?_,.inr ⟨by simp,s2,.inr ⟨?_,rfl,rfl,rfl⟩⟩⟩
      · simp at hx; have := k1.1; omega
      · rw [Bool.eq_false_iff]
        intro hall
        have := List.all_eq_true.1 hall i (List.mem_range.2 hi)
        simp only [hv,hc,hmv] at this
        cases this
    · rw [hmv] at hm
      simp -implicitDefEqProofs only [↓jn3,↓wsD,wsP,Nat.reduceBEq,reduceCtorEq,logOf,Nat.reduceAdd,Nat.reduceLeDiff,Nat.reduceMul,co_slv,hlt,e1,kk1 h' (k1.2 b1 hb1),hh1,gx,hm,w]
      refine Rn.ret ⟨fun x hx => ?_,.inl ⟨rfl,s2,fun j v' c' hj hv' hc' => ?_,rfl⟩⟩
      · simp at hx; have := k1.1; omega
      · rcases Nat.lt_succ_iff_lt_or_eq.1 hj with hj | rfl
        · exact k2 j v' c' hj hv' hc'
        · rw [hv] at hv'; rw [hc] at hc'; cases hv'; cases hc'; exact hmv
  · obtain ⟨k1,k2,rfl⟩ := hI
    unfold F_k35_L122
    simp -implicitDefEqProofs only [↓jn3,↓wsD,wsP,Nat.reduceBEq,reduceCtorEq,logOf,Nat.reduceAdd,Nat.reduceLeDiff,Nat.reduceMul,co_slv,Int.lt_irrefl,decide_false]
    refine Rn.ret ⟨by simp,by simp,k1,.inl ⟨?_,rfl,rfl,rfl,rfl,rfl⟩⟩
    unfold mayRow
    rw [List.all_eq_true]
    intro j hj
    have hj := List.mem_range.1 hj
    obtain ⟨v,hv⟩ : ∃ p,vals[j]? = some p := ⟨_,List.getElem?_eq_getElem hj⟩
    obtain ⟨c,hc⟩ : ∃ p,f.cols[j]? = some p := ⟨_,List.getElem?_eq_getElem (by omega)⟩
    simp only [hv,hc]
    exact k2 j v c hj hv hc
theorem c_tins {h : H} {tb n : Nat} {f : Fm} {ls : List (List V)} {S : List Sp} {M I Fv : Nat → Prop} {vx : Value} {vals : List V} (r : TabR h tb f ls S n M I) (rv : Rd h 3 vx vals.length (vals.flatMap V.cs) Fv) (hvM : ∀ b,Fv b → ¬ M b) (hs : ∀ v ∈ vals,v.s.length < 1000)
    (hll : f.cols.length < 1000) (hn : n < 50000) (hS : S.length < 255) (hSb : ∀ p ∈ S,p.1 < p.2 ∧ p.2 ≤ n) (hSs : S.Pairwise fun a b => a.1 ≤ b.1) :
    Rn (icP (.fn N_k35) [pt tb 0,vx] h) fun r => (vals.length ≠ f.cols.length ∧ r = (.tuple [.int .i64 0,.int .i64 1].toArray,h,[])) ∨ (vals.length = f.cols.length ∧ mayRow f.cols vals = false ∧ r = (.tuple [.int .i64 0,.int .i64 4].toArray,h,[])) ∨
      (vals.length = f.cols.length ∧ mayRow f.cols vals = true ∧ r.1 = .tuple [.int .i64 (n : Int),.int .i64 0].toArray ∧ (∀ x ∈ r.2.2,M x ∧ x < h.n) ∧ r.2.2 ≠ [] ∧ TabR r.2.1 tb f (apnd ls vals) (joinS (S ++ [(n,n + 1)])) (n + 1) (fun b => M b ∨ h.n ≤ b) (fun b => I b ∨ h.n ≤ b)) := by
  refine Rn.up (fun _ => ic_k35 rfl _ _) ?_
  unfold F_k35
  have r0 := r
  obtain ⟨a1,a2,a3,a4,a5,fcols,fdeps,pcols,lv,cps,Fc,Fi,k⟩ := r
  have hpl : rLenL pcols = some (.int .i64 cps.length) := k.ptrs.len
  have hvl := rv.len
  have hcl : cps.length = f.cols.length := by rw [k.cs.len,k.cs.len2]
  have hge : decide ((n : Int) ≥ 65536) = false := by rw [decide_eq_false_iff_not]; omega
  by_cases hl : vals.length = f.cols.length
  · have hne : ((vals.length : Int) != (cps.length : Int)) = false := by rw [hcl,hl]; simp
    simp -implicitDefEqProofs only [↓jn3,↓wsD,wsP,Nat.reduceBEq,reduceCtorEq,logOf,Nat.reduceAdd,Nat.reduceLeDiff,Nat.reduceMul,co_slv,k.cell,hpl,hvl,hge,hne]
    have hask := tins_ask r0 rv hs hl hll (.int .i64 0) (.int .i64 0)
    refine Rn_ob hask fun o ⟨hlo,q1,q2⟩ => ?_
    obtain ⟨ex,vs,h1,lg1⟩ := o
    simp only at hlo q1 q2
    rcases q2 with ⟨hm,rfl,v0,v1,v2,v3⟩ | ⟨hm,rfl,v2,v3⟩
    · simp -implicitDefEqProofs only [↓jn3,↓wsD,wsP,Nat.reduceBEq,reduceCtorEq,logOf,Nat.reduceAdd,Nat.reduceLeDiff,Nat.reduceMul,co_slv,v0,v1,v2,v3,hvl]
      have hlsl : vals.length = ls.length := by rw [hl,k.cs.len2]
      have happ := tins_app a1 k a4 (by omega) rv hvM hs hlsl (by omega) (fun i v c hv hc => by
        have := List.all_eq_true.1 hm i (List.mem_range.2 (List.getElem?_eq_some_iff.1 hv).1)
        simpa only [hv,hc] using this) q1 (.int .i64 0) (.int .i64 0)
      refine Rn_ob happ fun o ⟨hlo2,p1,p2,p3,p4,Fc',p5,p6⟩ => ?_
      obtain ⟨ex,vs,h2,lg2⟩ := o
      simp only at hlo2 p1 p2 p3 p4 p5
      subst p1
      have hFc : ∀ i,i < ls.length → ¬ Fc i tb := fun i hi hF => (k.fc i tb hi hF).2.1 rfl
      have gt2 : h2.get tb = some (.cells [st f.name,fcols,st f.key,fdeps,pcols,lv,.int .i64 (n : Int)] T_table_Table false) := by rw [p4 tb a1 hFc,k.cell]
      have fI : ∀ b,Fi b → h2.get b = h.get b := fun b hF => p4 b (k.fi b hF).2.2 fun i hi hFc => (k.fc i b hi hFc).2.2 hF
      obtain ⟨la,lc,hlv⟩ := k.live.low
      simp -implicitDefEqProofs only [↓jn3,↓wsD,wsP,Nat.reduceBEq,reduceCtorEq,logOf,Nat.reduceAdd,Nat.reduceLeDiff,Nat.reduceMul,co_slv,p2,gt2,bS_i]
      generalize hh3 : h2.push (.cells [.int .i64 (n : Int)] T_i64_b false) = h3
      have n3 : h3.n = h2.n + 1 := by rw [← hh3]; rfl
      have s3 : Sup h2 h3 := by rw [← hh3]; exact Sup.push _ _
      obtain ⟨⟨x4,h4,lg4⟩,e4,t1,t2⟩ := c_of1 (h := h3) (ab := h2.n) (i := n) (by omega) (by rw [← hh3,H.get_push,if_pos rfl]) (by omega)
      simp only at t1 t2
      subst t1
      have st4 := icP_stp _ _ _ _ _ _ e4
      have s4 : Sup h3 h4 := ⟨st4.le,fun b hb => st4.same b hb (by simp)⟩
      have s24 := s3.trans s4
      have hlive4 : BmR h4 (.agg [lv].toArray) S (fun _ => True) := ⟨lv,rfl,(k.live.frame (h1 := h4) (by have := s24.1; omega) fun b hb hF => by rw [s24.2 b (by omega),fI b hF]).mono fun _ _ _ => trivial⟩
      obtain ⟨w4,hw4,rw4⟩ := t2
      have hof4 : BmR h4 x4 [(n,n + 1)] (fun _ => True) := ⟨w4,hw4,rw4.mono fun _ _ _ => trivial⟩
      have hsort : (S ++ [(n,n + 1)]).Pairwise fun a b => a.1 ≤ b.1 := by
        rw [List.pairwise_append]
        refine ⟨hSs,List.pairwise_singleton _ _,fun a ha b hb => ?_⟩
        rw [List.mem_singleton.1 hb]
        have := hSb a ha
        simp only; omega
      obtain ⟨⟨x5,h5,lg5⟩,e5,t3,t4⟩ := c_or hlive4 hof4 hsort (fun p hp => by
        rcases List.mem_append.1 hp with hp | hp
        · have := hSb p hp; omega
        · rw [List.mem_singleton.1 hp]; simp only; omega) (by simp; omega)
      simp only at t3 t4
      subst t3
      obtain ⟨w5,rfl,rw5⟩ := t4
      have st5 := icP_stp _ _ _ _ _ _ e5
      have s5 : Sup h4 h5 := ⟨st5.le,fun b hb => st5.same b hb (by simp)⟩
      have s25 := s24.trans s5
      have gt5 : h5.get tb = some (.cells [st f.name,fcols,st f.key,fdeps,pcols,lv,.int .i64 (n : Int)] T_table_Table false) := by rw [s25.2 tb (by omega),gt2]
      obtain ⟨wa,wc,hw5⟩ := rw5.low
      have co5 : cellsOf (.agg #[w5]) = some [w5] := by rw [hw5]; rfl
      simp -implicitDefEqProofs only [↓jn3,↓wsD,wsP,Nat.reduceBEq,reduceCtorEq,logOf,Nat.reduceAdd,Nat.reduceLeDiff,Nat.reduceMul,co_slv,e4,e5,co5,gt5]
      rw [dr_ws [false,false,false,false,false,false,false,false,false,false,false,false,false,false,true] (by kernel_rfl)]
      have w1 : IntKind.i64.wrap ((n : Int) + 1) = ((n + 1 : Nat) : Int) := by rw [wrapI (by omega) (by omega)]; rfl
      have w2 : IntKind.i64.wrap (((n + 1 : Nat) : Int) - 1) = (n : Int) := by rw [wrapI (by omega) (by omega)]; omega
      simp -implicitDefEqProofs only [↓jn3,↓wsD,wsP,Nat.reduceBEq,reduceCtorEq,logOf,Nat.reduceAdd,Nat.reduceLeDiff,Nat.reduceMul,co_slv,w1,w2,wsF]
      generalize hh6 : (h5.set tb (.cells [st f.name,fcols,st f.key,fdeps,pcols,w5,.int .i64 (n : Int)] T_table_Table false)).set tb (.cells [st f.name,fcols,st f.key,fdeps,pcols,w5,.int .i64 ((n + 1 : Nat) : Int)] T_table_Table false) = h6
      have n6 : h6.n = h5.n := by rw [← hh6]; rfl
      have g6 : ∀ b,b ≠ tb → h6.get b = h5.get b := fun b hb => by rw [← hh6,H.get_set,if_neg hb,H.get_set,if_neg hb]
      have g6t : h6.get tb = some (.cells [st f.name,fcols,st f.key,fdeps,pcols,w5,.int .i64 ((n + 1 : Nat) : Int)] T_table_Table false) := by rw [← hh6,H.get_set,if_pos rfl]
      have s25n := s25.1
      have s4n := s24.1
      refine Rn_mut tb (by simp) a1 fun lgk hlk hmk => .inr (.inr ⟨hl,hm,rfl,fun x hx => ?_,List.ne_nil_of_mem hmk,?_⟩)
      · have h8 := hlk x hx
        refine ⟨?_,h8.2⟩
        have h9 := h8.1
        simp only [List.mem_append,List.mem_cons,List.not_mem_nil,or_false] at h9
        have hM : (M x ∧ x ≠ tb) ∨ h.n ≤ x → M x := fun h => h.elim (fun h => h.1) fun h => by omega
        have hL : h.n ≤ x → M x := fun h => by omega
        first
          | (rcases h9 with rfl | rfl | h9 | h9; exact a2; exact a2; exact hM (hlo2 x h9); exact hL (hlo x h9))
          | (rcases h9 with rfl | rfl | h9; exact a2; exact a2; exact hM (hlo2 x h9))
      · have fI6 : ∀ b,b < h.n → Fi b → h6.get b = h.get b := fun b hb hF => by rw [g6 b (k.fi b hF).2.1,s25.2 b (by omega),fI b hF]
        have hjl := joinS_len (S ++ [(n,n + 1)])
        have hwb : ∀ b,h4.n ≤ b → h.n ≤ b := fun b hb => by omega
        show TabR h6 _ _ _ _ _ _ _
        have hle2 : h.n ≤ h2.n := p3
        refine ⟨by omega, .inl a2, by omega, fun l hl' => ?_, by have : (S ++ [(n, n + 1)]).length = S.length + 1 := by simp
                                                                 omega,fcols,fdeps,pcols,w5,cps,Fc',fun b => Fi b ∨ (h4.n ≤ b ∧ b < h5.n),g6t,?_,?_,?_,?_,?_,?_,?_⟩
        · obtain ⟨i,hi⟩ := List.getElem?_of_mem hl'
          have hi2 := (List.getElem?_eq_some_iff.1 hi).1
          rw [apnd_len hlsl] at hi2
          obtain ⟨l0,hl0⟩ : ∃ p,ls[i]? = some p := ⟨_,List.getElem?_eq_getElem hi2⟩
          obtain ⟨v0,hv0⟩ : ∃ p,vals[i]? = some p := ⟨_,List.getElem?_eq_getElem (by omega)⟩
          rw [apnd_get hl0 hv0] at hi
          cases hi
          rw [List.length_append,a4 l0 (List.mem_of_getElem? hl0)]; rfl
        · exact (k.cols.frame (by omega) fI6).mono fun b _ h => .inl h
        · obtain ⟨vs',y1,y2,y3⟩ := k.deps.frame (h1 := h6) (by omega) fI6
          exact ⟨vs',y1,y2.mono fun b _ h => .inl h,fun i v d hv hd => (y3 i v d hv hd).mono fun b _ h => .inl h⟩
        · exact (k.ptrs.frame (by omega) fI6).mono fun b _ h => .inl h
        · refine (rw5.frame (h1 := h6) (by omega) fun b hb hF => g6 b (by omega)).mono fun b hb hF => .inr ⟨hF,by omega⟩
        · refine p5.frame (h1 := h6) (by show h2.n ≤ h6.n; omega) fun i b hi hF => ?_
          have hblt : b < h2.n := p5.lt i b hi hF
          rw [apnd_len hlsl] at hi
          rw [g6 b (fun e => by subst e; exact (p6 i b hi hF).elim (hFc i hi) fun h => by omega),s25.2 b hblt]
        · intro i b hi hF
          have hblt : b < h2.n := p5.lt i b hi hF
          rw [apnd_len hlsl] at hi
          refine ⟨?_,fun e => ?_,?_⟩
          · rcases p6 i b hi hF with h | h
            · exact .inl (k.fc i b hi h).1
            · exact .inr h
          · subst e
            rcases p6 i b hi hF with h | h
            · exact hFc i hi h
            · omega
          · rintro (h | h)
            · rcases p6 i b hi hF with h' | h'
              · exact (k.fc i b hi h').2.2 h
              · have := (k.fi b h).2.2; omega
            · omega
        · rintro b (h | h)
          · exact ⟨.inl (k.fi b h).1,(k.fi b h).2.1,by have := (k.fi b h).2.2; omega⟩
          · exact ⟨.inr (by omega),by omega,by omega⟩
    · simp -implicitDefEqProofs only [↓jn3,↓wsD,wsP,Nat.reduceBEq,reduceCtorEq,logOf,Nat.reduceAdd,Nat.reduceLeDiff,Nat.reduceMul,co_slv,wsF,v2,v3]
      exact Rn_low hlo rfl (.inr (.inl ⟨hl,hm,rfl⟩))
  · have hne : ((vals.length : Int) != (cps.length : Int)) = true := by rw [hcl]; simp; omega
    simp -implicitDefEqProofs only [↓jn3,↓wsD,wsP,Nat.reduceBEq,reduceCtorEq,logOf,Nat.reduceAdd,Nat.reduceLeDiff,Nat.reduceMul,co_slv,wsF,k.cell,hpl,hvl,hge,hne]
    exact Rn_low (by simp) rfl (.inl ⟨hl,rfl⟩)
end Go.L1


set_option maxRecDepth 100000
namespace Go.L1
open Go Go.Proofs
theorem aBx_cf (n : Nat) (c : ColF) : aBx n T_api_Col 4 (.agg (cf c).toArray) = some (pt n 0,.cells [st c.name,.int .i64 c.kind,.bool c.must,st c.to] T_api_Col false) := rfl
theorem c_typed (v : V) (c : ColF) (h : H) (hv : v.s.length < 1000) : icP (.fn N_k81) [v.v,.agg (cf c).toArray] h = some (.bool (mayC c.kind v),h,[]) := by
  refine Rn.eq (Rn.up (fun _ => ic_k81 rfl _ _) ?_)
  unfold F_k81 mayC
  have hm := fun h => c_rmay v h hv
  cases hmv : mayB v <;> cases h0 : v.k == 0 <;> cases h1 : v.k == c.kind <;> simp -implicitDefEqProofs only [↓jn3,↓wsD,wsP,Nat.reduceBEq,reduceCtorEq,logOf,Nat.reduceAdd,Nat.reduceLeDiff,Nat.reduceMul,co_slv,wsF,aBx_cf,hm,hmv,h0,h1,Bool.or_true,Bool.or_false,Bool.true_and,Bool.false_and,Bool.and_true,Bool.and_false] <;> exact Rn_low (by simp) rfl rfl
structure RwB where
  id : Nat
  vals : List V
  ob : Option Nat
def rc (r : RwB) : List Value := [.int .i64 (r.id : Int),slv r.ob r.vals.length]
theorem rc_len (r : RwB) : (rc r).length = 2 := rfl
abbrev Rw := Nat × List V
structure RowsC (h : H) (x : Value) (R : List Rw) (F : Nat → Prop) (ob : Option Nat) (L : List RwB) : Prop where
  map : L.map (fun r => (r.id,r.vals)) = R
  hx : x = slv ob L.length
  own : own h T_asterismref12_Row ob (L.flatMap rc)
  vals : ∀ r ∈ L,Go.L1.own h T_api_Value r.ob (r.vals.flatMap V.cs)
  f : ∀ b,ob = some b → F b
  fv : ∀ r ∈ L,∀ b,r.ob = some b → F b ∧ ob ≠ some b
  dis : L.Pairwise fun r r' => ∀ b,r.ob = some b → r'.ob ≠ some b
def RowsR (h : H) (x : Value) (R : List Rw) (F : Nat → Prop) : Prop := ∃ ob L,RowsC h x R F ob L
theorem RowsC.frame {h h1 : H} {x : Value} {R : List Rw} {F : Nat → Prop} {ob : Option Nat} {L : List RwB} (r : RowsC h x R F ob L) (hn : h.n ≤ h1.n) (hf : ∀ b,b < h.n → F b → h1.get b = h.get b) : RowsC h1 x R F ob L :=
  ⟨r.map,r.hx,r.own.frame hn fun b e => hf b (by have := r.own; rw [e] at this; exact this.1) (r.f b e),fun w hw => (r.vals w hw).frame hn fun b e => hf b (by have := r.vals w hw; rw [e] at this; exact this.1) (r.fv w hw b e).1,r.f,r.fv,r.dis⟩
theorem RowsR.frame {h h1 : H} {x : Value} {R : List Rw} {F : Nat → Prop} (r : RowsR h x R F) (hn : h.n ≤ h1.n) (hf : ∀ b,b < h.n → F b → h1.get b = h.get b) : RowsR h1 x R F := by
  obtain ⟨ob,L,r⟩ := r
  exact ⟨ob,L,r.frame hn hf⟩
theorem RowsR.mono {h : H} {x : Value} {R : List Rw} {F F' : Nat → Prop} (r : RowsR h x R F) (hf : ∀ b,b < h.n → F b → F' b) : RowsR h x R F' := by
  obtain ⟨ob,L,r⟩ := r
  exact ⟨ob,L,r.map,r.hx,r.own,r.vals,fun b e => hf b (by have := r.own; rw [e] at this; exact this.1) (r.f b e),fun w hw b e => ⟨hf b (by have := r.vals w hw; rw [e] at this; exact this.1) (r.fv w hw b e).1,(r.fv w hw b e).2⟩,r.dis⟩
theorem RowsC.len {h : H} {x : Value} {R : List Rw} {F : Nat → Prop} {ob : Option Nat} {L : List RwB} (r : RowsC h x R F ob L) : L.length = R.length := by
  rw [← r.map,List.length_map]
def tc (p : (Value × Value) × Fm) : List Value := [st p.2.name,p.1.1,st p.2.key,p.1.2]
theorem tc_len (p : (Value × Value) × Fm) : (tc p).length = 4 := rfl
def SchR (h : H) (x : Value) (fs : List Fm) (F : Nat → Prop) : Prop := ∃ ts : List (Value × Value),ts.length = fs.length ∧ Rd h 4 x fs.length ((ts.zip fs).flatMap tc) F ∧
  ∀ (i : Nat) (t : Value × Value) (f : Fm),ts[i]? = some t → fs[i]? = some f → Rd h 4 t.1 f.cols.length (f.cols.flatMap cf) F ∧ DepR h t.2 f.deps F
theorem SchR.frame {h h1 : H} {x : Value} {fs : List Fm} {F : Nat → Prop} (r : SchR h x fs F) (hn : h.n ≤ h1.n) (hf : ∀ b,b < h.n → F b → h1.get b = h.get b) : SchR h1 x fs F := by
  obtain ⟨ts,h1,h2,h3⟩ := r
  exact ⟨ts,h1,h2.frame hn hf,fun i t f ht hf' => ⟨(h3 i t f ht hf').1.frame hn hf,(h3 i t f ht hf').2.frame hn hf⟩⟩
theorem SchR.elt {h : H} {x : Value} {fs : List Fm} {F : Nat → Prop} (r : SchR h x fs F) {i : Nat} {f : Fm} (hf : fs[i]? = some f) :
    ∃ b o cx dx,rIdxS 4 x (.int .i64 (i : Int)) = some (pt b o) ∧ b < h.n ∧ F b ∧ (∀ h' : H,h'.get b = h.get b → rLd1 h'.get (pt b o) = some (st f.name) ∧ rLd1 h'.get (pt b (o + 1)) = some cx ∧ rLd1 h'.get (pt b (o + 2)) = some (st f.key) ∧ rLd1 h'.get (pt b (o + 3)) = some dx) ∧ Rd h 4 cx f.cols.length (f.cols.flatMap cf) F ∧ DepR h dx f.deps F := by
  obtain ⟨ts,h1,h2,h3⟩ := r
  obtain ⟨hi,_⟩ := List.getElem?_eq_some_iff.1 hf
  obtain ⟨t,ht⟩ : ∃ t,ts[i]? = some t := ⟨_,List.getElem?_eq_getElem (by omega)⟩
  obtain ⟨b,o,e,hb,hF,k⟩ := h2.elt hi
  have hz : (ts.zip fs)[i]? = some (t,f) := by rw [List.getElem?_zip_eq_some]; exact ⟨ht,hf⟩
  refine ⟨b,o,t.1,t.2,e,hb,hF,fun h' hg => ?_,(h3 i t f ht hf).1,(h3 i t f ht hf).2⟩
  have hc := fun j hj => flat_cell (j := j) tc_len hz hj []
  simp only [List.append_nil] at hc
  have h0 := (k h' hg).2 0 (by omega)
  rw [Nat.add_zero,hc 0 (by omega)] at h0
  refine ⟨h0,?_,?_,?_⟩
  · rw [(k h' hg).2 1 (by omega),hc 1 (by omega)]; rfl
  · rw [(k h' hg).2 2 (by omega),hc 2 (by omega)]; rfl
  · rw [(k h' hg).2 3 (by omega),hc 3 (by omega)]; rfl
structure WC (h : H) (wb : Nat) (fs : List Fm) (Rs : List (List Rw)) (Ns : List Nat) (M I : Nat → Prop) (sx : Value) (rb nb rcap ncap : Nat) (xs J J' : List Value) (Fr : Nat → Nat → Prop) (Fi : Nat → Prop) : Prop where
  lw : wb < h.n
  lr : rb < h.n
  ln : nb < h.n
  cell : h.get wb = some (.cells [sx,.slice (some ⟨rb,0,none⟩) fs.length rcap,.slice (some ⟨nb,0,none⟩) fs.length ncap] T_asterismref12_DB false)
  sch : SchR h sx fs Fi
  rows : h.get rb = some (.cells (xs ++ J) T_Lasterismref12_Row false)
  nexts : h.get nb = some (.cells (Ns.map (fun n : Nat => Value.int .i64 (n : Int)) ++ J') T_i64_b false)
  xl : xs.length = fs.length
  rl : Rs.length = fs.length
  nl : Ns.length = fs.length
  rr : ∀ (i : Nat) (x : Value) (R : List Rw),xs[i]? = some x → Rs[i]? = some R → RowsR h x R (Fr i)
  fr : ∀ i b,i < fs.length → Fr i b → M b ∧ b < h.n ∧ b ≠ wb ∧ b ≠ rb ∧ b ≠ nb ∧ ¬ Fi b
  dis : ∀ i j b,i < fs.length → j < fs.length → i ≠ j → Fr i b → ¬ Fr j b
  fi : ∀ b,Fi b → I b ∧ b < h.n ∧ b ≠ wb ∧ b ≠ rb ∧ b ≠ nb
  mw : M wb
  mr : M rb
  mn : M nb
  d1 : wb ≠ rb
  d2 : wb ≠ nb
  d3 : rb ≠ nb
def WR (h : H) (wb : Nat) (fs : List Fm) (Rs : List (List Rw)) (Ns : List Nat) (M I : Nat → Prop) : Prop := ∃ sx rb nb rcap ncap xs J J' Fr Fi,WC h wb fs Rs Ns M I sx rb nb rcap ncap xs J J' Fr Fi
theorem WR.frame {h h1 : H} {wb : Nat} {fs : List Fm} {Rs : List (List Rw)} {Ns : List Nat} {M I : Nat → Prop} (r : WR h wb fs Rs Ns M I) (hn : h.n ≤ h1.n) (hf : ∀ b,b < h.n → M b ∨ I b → h1.get b = h.get b) : WR h1 wb fs Rs Ns M I := by
  obtain ⟨sx,rb,nb,rcap,ncap,xs,J,J',Fr,Fi,k⟩ := r
  have lt := fun {a : Nat} (h : a < _) => Nat.lt_of_lt_of_le h hn
  exact ⟨sx,rb,nb,rcap,ncap,xs,J,J',Fr,Fi,lt k.lw,lt k.lr,lt k.ln,by rw [hf wb k.lw (.inl k.mw),k.cell],k.sch.frame hn fun b hb hF => hf b hb (.inr (k.fi b hF).1),by rw [hf rb k.lr (.inl k.mr),k.rows],by rw [hf nb k.ln (.inl k.mn),k.nexts],k.xl,k.rl,k.nl,
    fun i x R hx hR => (k.rr i x R hx hR).frame hn fun b hb hF => hf b hb (.inl (k.fr i b (by have := (List.getElem?_eq_some_iff.1 hR).1; rw [← k.rl]; exact this) hF).1),fun i b hi hF => ⟨(k.fr i b hi hF).1,lt (k.fr i b hi hF).2.1,(k.fr i b hi hF).2.2⟩,k.dis,fun b hF => ⟨(k.fi b hF).1,lt (k.fi b hF).2.1,(k.fi b hF).2.2⟩,k.mw,k.mr,k.mn,k.d1,k.d2,k.d3⟩
end Go.L1


set_option maxRecDepth 100000
namespace Go.L1
open Go Go.Proofs
def drOk2 (ex : List (Nat × Nat)) (bs : List Nat) (ws : List Bool) (ms : List Mk) : Bool := (List.range ms.length).all fun i => match ms[i]? with
  | none => true
  | some a => bif ws.getD i false then (List.range ms.length).all (fun j => match ms[j]? with
      | none => true
      | some b => Nat.beq i j || (bs.getD i 0).testBit j || (bs.getD j 0).testBit i || (match b.k with | .pure => b.reads.isEmpty | _ => false) || ex.any (fun p => Nat.beq p.1 i && Nat.beq p.2 j)) else a.writes.isEmpty
theorem dr_ex {ρ : Type} (ex : List (Nat × Nat)) (ws : List Bool) {bs : List Nat} {ms : List Mk} {f : List Nat → Option ρ} (h : drOk2 ex bs ws ms = true) (hx : ∀ p ∈ ex,∀ a b,ms[p.1]? = some a → ms[p.2]? = some b → besides a b = true) : dr bs ms f = f (logOf ms) := by
  refine dr_ok (Bool.or_eq_true_iff.2 (.inr ?_))
  unfold clashFree
  unfold drOk2 at h
  rw [List.all_eq_true] at h ⊢
  intro i hi
  rw [List.all_eq_true]
  intro j hj
  have h1 := h i hi
  cases ha : ms[i]? with
  | none => rfl
  | some a =>
    cases hb : ms[j]? with
    | none => rfl
    | some b =>
      simp only [ha] at h1 ⊢
      cases hw : ws.getD i false with
      | false =>
        rw [hw,cond_false] at h1
        rw [h1]; rfl
      | true =>
        rw [hw,cond_true,List.all_eq_true] at h1
        have h2 := h1 j hj
        simp only [hb,Bool.or_eq_true] at h2
        simp only [Bool.or_eq_true]
        rcases h2 with (((h2 | h2) | h2) | h2) | h2
        · exact .inl (.inl (.inl (.inr h2)))
        · exact .inl (.inl (.inr h2))
        · exact .inl (.inr h2)
        · refine .inr ?_
          unfold besides
          cases hk : b.k with
          | pure =>
            rw [hk] at h2
            have := List.isEmpty_iff.1 h2
            rw [List.all_eq_true]
            intro x _
            rw [this]; rfl
          | alloc => rw [hk] at h2; cases h2
          | heavy => rw [hk] at h2; cases h2
        · obtain ⟨p,hp,hpe⟩ := List.any_eq_true.1 h2
          simp only [Bool.and_eq_true] at hpe
          have e1 := Nat.eq_of_beq_eq_true hpe.1
          have e2 := Nat.eq_of_beq_eq_true hpe.2
          exact .inr (hx p hp a b (by rw [e1]; exact ha) (by rw [e2]; exact hb))
theorem putAt_set {l J : List Value} {i : Nat} (hi : i < l.length) (v : Value) : putAt (l ++ J) i [v] = l.set i v ++ J := by
  unfold putAt
  rw [List.take_append_of_le_length (by omega),List.length_singleton,List.drop_append_of_le_length (by omega),List.set_eq_take_append_cons_drop,if_pos hi]
  simp
theorem idx1 {b n c i : Nat} (hi : i < n) : rIdxS 1 (.slice (some ⟨b,0,none⟩) n c) (.int .i64 (i : Int)) = some (pt b i) := by simp [rIdxS,idxN_nat,hi]
theorem rins_ask {h : H} {wb : Nat} {fs : List Fm} {sx : Value} {Fi : Nat → Prop} {y1 y2 : Value} (hw : h.get wb = some (.cells [sx,y1,y2] T_asterismref12_DB false)) (hs : SchR h sx fs Fi) {i : Nat} {f : Fm} (hf : fs[i]? = some f) {vx : Value} {vals : List V} {Fv : Nat → Prop} (rv : Rd h 3 vx vals.length (vals.flatMap V.cs) Fv)
    (hsv : ∀ v ∈ vals,v.s.length < 1000) (hvl : vals.length = f.cols.length) (hll : f.cols.length < 1000) (j1 j2 : Value) :
    Rn (lw (F_k42_L250 icP lw) [pt wb 0,.int .i64 (i : Int),vx,j1,j2,.int .i64 0] h) fun o => o.lg = [] ∧ o.h = h ∧ ((mayRow f.cols vals = true ∧ o.ex = .exit 0 ∧ nt o.vs 0 = pt wb 0 ∧ nt o.vs 1 = .int .i64 (i : Int) ∧ nt o.vs 2 = vx) ∨ (mayRow f.cols vals = false ∧ o.ex = .ret ∧ nt o.vs 3 = .int .i64 0 ∧ nt o.vs 4 = .int .i64 4)) := by
  refine Rn.mono (lw_cnt (fun _ => False) vals.length (fun k vs h' => h' = h ∧ (∀ (j : Nat) (v : V) (c : ColF),j < k → vals[j]? = some v → f.cols[j]? = some c → mayC c.kind v = true) ∧ vs = [pt wb 0,.int .i64 (i : Int),vx,j1,j2,.int .i64 (k : Int)])
    (fun ex vs h' => h' = h ∧ ((mayRow f.cols vals = true ∧ ex = .exit 0 ∧ nt vs 0 = pt wb 0 ∧ nt vs 1 = .int .i64 (i : Int) ∧ nt vs 2 = vx) ∨ (mayRow f.cols vals = false ∧ ex = .ret ∧ nt vs 3 = .int .i64 0 ∧ nt vs 4 = .int .i64 4)))
    (fun k vs h' hk hI => ?_) (fun vs h' hI => ?_) (Nat.zero_le _) ⟨rfl,fun j v c hj => absurd hj (Nat.not_lt_zero _),rfl⟩) fun o ⟨q1,q2⟩ => ⟨List.eq_nil_iff_forall_not_mem.2 q1,q2⟩
  · obtain ⟨rfl,k2,rfl⟩ := hI
    obtain ⟨v,hv⟩ : ∃ p,vals[k]? = some p := ⟨_,List.getElem?_eq_getElem hk⟩
    obtain ⟨c,hc⟩ : ∃ p,f.cols[k]? = some p := ⟨_,List.getElem?_eq_getElem (by omega)⟩
    obtain ⟨b1,o1,e1,hb1,hF1,kk1⟩ := rv.val hv
    obtain ⟨b2,o2,cx,dx,e2,hb2,hF2,kk2,hcx,_⟩ := hs.elt hf
    obtain ⟨b3,o3,e3,hb3,hF3,kk3⟩ := hcx.colf hc
    have hm := c_typed v c h' (hsv v (List.mem_of_getElem? hv))
    have hlt : decide ((k : Int) < vals.length) = true := by rw [decide_eq_true_eq]; omega
    have w : IntKind.i64.wrap ((k : Int) + 1) = ((k + 1 : Nat) : Int) := by rw [wrapI (by omega) (by omega)]; rfl
    have l2 := (kk2 h' rfl).2.1
    unfold F_k42_L250
    cases hmv : mayC c.kind v
    · rw [hmv] at hm
      simp only [rLd1_u] at l2
      simp -implicitDefEqProofs only [↓jn3,↓wsD,wsP,Nat.reduceBEq,reduceCtorEq,logOf,Nat.reduceAdd,Nat.reduceLeDiff,Nat.reduceMul,co_slv,rv.len,hlt,e1,kk1 h' rfl,hw,e2,l2,e3,(kk3 h' rfl).1,hm]
      refine Rn.ret ⟨by simp,.inr ⟨by simp,rfl,.inr ⟨?_,rfl,rfl,rfl⟩⟩⟩
      rw [Bool.eq_false_iff]
      intro hall
      have := List.all_eq_true.1 hall k (List.mem_range.2 hk)
      simp only [hv,hc,hmv] at this
      cases this
    · rw [hmv] at hm
      simp only [rLd1_u] at l2
      simp -implicitDefEqProofs only [↓jn3,↓wsD,wsP,Nat.reduceBEq,reduceCtorEq,logOf,Nat.reduceAdd,Nat.reduceLeDiff,Nat.reduceMul,co_slv,rv.len,hlt,e1,kk1 h' rfl,hw,e2,l2,e3,(kk3 h' rfl).1,hm,w]
      refine Rn.ret ⟨by simp,.inl ⟨rfl,rfl,fun j v' c' hj hv' hc' => ?_,rfl⟩⟩
      rcases Nat.lt_succ_iff_lt_or_eq.1 hj with hj | rfl
      · exact k2 j v' c' hj hv' hc'
      · rw [hv] at hv'; rw [hc] at hc'; cases hv'; cases hc'; exact hmv
  · obtain ⟨rfl,k2,rfl⟩ := hI
    unfold F_k42_L250
    simp -implicitDefEqProofs only [↓jn3,↓wsD,wsP,Nat.reduceBEq,reduceCtorEq,logOf,Nat.reduceAdd,Nat.reduceLeDiff,Nat.reduceMul,co_slv,rv.len,Int.lt_irrefl,decide_false]
    refine Rn.ret ⟨by simp,by simp,rfl,.inl ⟨?_,rfl,rfl,rfl,rfl⟩⟩
    unfold mayRow
    rw [List.all_eq_true]
    intro j hj
    have hj := List.mem_range.1 hj
    obtain ⟨v,hv⟩ : ∃ p,vals[j]? = some p := ⟨_,List.getElem?_eq_getElem hj⟩
    obtain ⟨c,hc⟩ : ∃ p,f.cols[j]? = some p := ⟨_,List.getElem?_eq_getElem (by omega)⟩
    simp only [hv,hc]
    exact k2 j v c hj hv hc
theorem oB_Row (i : Int) (a : Option Addr) (n c : Nat) : oBuild pgB T_asterismref12_Row [(0,.int .i64 i),(1,.slice a n c)] = some (.agg #[.int .i64 i,.slice a n c]) := by kernel_rfl
theorem oB_Row' (i : Int) (ob : Option Nat) (n : Nat) : oBuild pgB T_asterismref12_Row [(0,.int .i64 i),(1,slv ob n)] = some (.agg #[.int .i64 i,slv ob n]) := by cases ob <;> exact oB_Row ..
theorem bS_Row (k : Nat) (i : Int) (a : Option Addr) (n c : Nat) : aBuildS pgB k T_Lasterismref12_Row 1 [(0,.agg #[.int .i64 i,.slice a n c])] = some (.slice (some ⟨k,0,none⟩) 1 1,.cells [.int .i64 i,.slice a n c] T_asterismref12_Row false) := by kernel_rfl
theorem bS_Row' (k : Nat) (i : Int) (ob : Option Nat) (n : Nat) : aBuildS pgB k T_Lasterismref12_Row 1 [(0,.agg #[.int .i64 i,slv ob n])] = some (.slice (some ⟨k,0,none⟩) 1 1,.cells [.int .i64 i,slv ob n] T_asterismref12_Row false) := by cases ob <;> exact bS_Row ..
end Go.L1


set_option maxRecDepth 100000
namespace Go.L1
open Go Go.Proofs
theorem map_set {α : Type} (l : List α) (f : α → Value) (i : Nat) (a : α) : (l.set i a).map f = (l.map f).set i (f a) := by simp
theorem c_rins {h : H} {wb : Nat} {fs : List Fm} {Rs : List (List Rw)} {Ns : List Nat} {M I : Nat → Prop} (r : WR h wb fs Rs Ns M I) {i : Nat} {f : Fm} {R : List Rw} {N : Nat} (hf : fs[i]? = some f) (hR : Rs[i]? = some R) (hN : Ns[i]? = some N) {vx : Value} {vals : List V} {Fv : Nat → Prop}
    (rv : Rd h 3 vx vals.length (vals.flatMap V.cs) Fv) (hvM : ∀ b,Fv b → ¬ M b) (hsv : ∀ v ∈ vals,v.s.length < 1000) (hll : f.cols.length < 1000) (hNl : N < 50000) (hRl : R.length < 50000) :
    Rn (icP (.fn N_k42) [pt wb 0,.int .i64 (i : Int),vx] h) fun r => (vals.length ≠ f.cols.length ∧ r = (.tuple [.int .i64 0,.int .i64 1].toArray,h,[])) ∨ (vals.length = f.cols.length ∧ mayRow f.cols vals = false ∧ r = (.tuple [.int .i64 0,.int .i64 4].toArray,h,[])) ∨
      (vals.length = f.cols.length ∧ mayRow f.cols vals = true ∧ r.1 = .tuple [.int .i64 (N : Int),.int .i64 0].toArray ∧ (∀ x ∈ r.2.2,M x ∧ x < h.n) ∧ r.2.2 ≠ [] ∧ WR r.2.1 wb fs (Rs.set i (R ++ [(N,vals)])) (Ns.set i (N + 1)) (fun b => M b ∨ h.n ≤ b) I) := by
  refine Rn.up (fun _ => ic_k42 rfl _ _ _) ?_
  unfold F_k42
  obtain ⟨sx,rb,nb,rcap,ncap,xs,J,J',Fr,Fi,k⟩ := r
  obtain ⟨hi,_⟩ := List.getElem?_eq_some_iff.1 hf
  obtain ⟨x,hx⟩ : ∃ x,xs[i]? = some x := ⟨_,List.getElem?_eq_getElem (by rw [k.xl]; exact hi)⟩
  obtain ⟨b2,o2,cx,dx,e2,hb2,hF2,kk2,hcx,_⟩ := k.sch.elt hf
  have l2 := (kk2 h rfl).2.1
  simp only [rLd1_u] at l2
  have hNm : (Ns.map (fun n : Nat => Value.int .i64 (n : Int)) ++ J')[i]? = some (.int .i64 (N : Int)) := by
    rw [List.getElem?_append_left (by rw [List.length_map,k.nl]; exact hi),List.getElem?_map,hN]; rfl
  have hge : decide ((N : Int) ≥ 65536) = false := by rw [decide_eq_false_iff_not]; omega
  by_cases hl : vals.length = f.cols.length
  · have hne : ((vals.length : Int) != (f.cols.length : Int)) = false := by rw [hl]; simp
    simp -implicitDefEqProofs only [↓jn3,↓wsD,wsP,Nat.reduceBEq,reduceCtorEq,logOf,Nat.reduceAdd,Nat.reduceLeDiff,Nat.reduceMul,co_slv,k.cell,idx1 hi,k.nexts,hNm,hge,rv.len,e2,l2,hcx.len,hne]
    refine Rn_ob (rins_ask k.cell k.sch hf rv hsv hl hll (.int .i64 0) (.int .i64 0)) fun o ⟨q1,q2,q3⟩ => ?_
    obtain ⟨ex,vs,h0,lg0⟩ := o
    simp only at q1 q2 q3
    subst q1 q2
    rcases q3 with ⟨hm,rfl,v0,v1,v2⟩ | ⟨hm,rfl,v3,v4⟩
    · have w : IntKind.i64.wrap ((N : Int) + 1) = ((N + 1 : Nat) : Int) := by rw [wrapI (by omega) (by omega)]; rfl
      have hcl : i + 1 ≤ (Ns.map (fun n : Nat => Value.int .i64 (n : Int)) ++ J').length := by rw [List.length_append,List.length_map,k.nl]; omega
      have hps : putAt (Ns.map (fun n : Nat => Value.int .i64 (n : Int)) ++ J') i [.int .i64 ((N + 1 : Nat) : Int)] = (Ns.set i (N + 1)).map (fun n : Nat => Value.int .i64 (n : Int)) ++ J' := by
        rw [putAt_set (by rw [List.length_map,k.nl]; exact hi),map_set]
      simp -implicitDefEqProofs only [↓jn3,↓wsD,wsP,Nat.reduceBEq,reduceCtorEq,logOf,Nat.reduceAdd,Nat.reduceLeDiff,Nat.reduceMul,co_slv,v0,v1,v2,k.cell,idx1 hi,k.nexts,hNm,w,hcl,hps,k.d2,k.d3,k.rows]
      generalize hh1 : h0.set nb (.cells ((Ns.set i (N + 1)).map (fun n : Nat => Value.int .i64 (n : Int)) ++ J') T_i64_b false) = h1
      have n1 : h1.n = h0.n := by rw [← hh1]; rfl
      have g1 : ∀ b,b ≠ nb → h1.get b = h0.get b := fun b hb => by rw [← hh1,H.get_set,if_neg hb]
      have g1n : h1.get nb = some (.cells ((Ns.set i (N + 1)).map (fun n : Nat => Value.int .i64 (n : Int)) ++ J') T_i64_b false) := by rw [← hh1,H.get_set,if_pos rfl]
      have c1 : h1.get wb = some (.cells [sx,.slice (some ⟨rb,0,none⟩) fs.length rcap,.slice (some ⟨nb,0,none⟩) fs.length ncap] T_asterismref12_DB false) := by rw [g1 wb k.d2,k.cell]
      have r1 : h1.get rb = some (.cells (xs ++ J) T_Lasterismref12_Row false) := by rw [g1 rb k.d3,k.rows]
      have hxm : (xs ++ J)[i]? = some x := by rw [List.getElem?_append_left (by rw [k.xl]; exact hi),hx]
      obtain ⟨xa,xc,hxa,hxs⟩ := (rv.frame (h1 := h1) (by omega) fun b hb hF => g1 b fun e => hvM b hF (by rw [e]; exact k.mn)).cells
      obtain ⟨⟨w2,h2,lg2⟩,e3,obv,t1,t2,t3,t4,t5⟩ := rApp_own (h := h1) (e := T_api_Value) (es := 3) (bytes := 32) (zero := [(.int .i64 0),(.int .i64 0),(.string ⟨#[]⟩)]) (n := 0) (ob := none) (cs := []) (xc := xc) rfl rfl (by omega) hxs rv.1 (by simp only [lim]; omega)
      simp only [Nat.zero_add,List.nil_append] at t1 t2 t3 t4 t5
      subst t1
      have t4' : lg2 = [] := List.eq_nil_iff_forall_not_mem.2 fun x hx => by have := t4 x hx; cases this
      subst t4'
      have s2 : Sup h1 h2 := ⟨t5.le,fun b hb => t5.same b hb (by simp)⟩
      rw [← hxa] at e3
      have e3' : rApp h1 T_api_Value 3 32 [(.int .i64 0),(.int .i64 0),(.string ⟨#[]⟩)] (.slice none 0 0) vx = some (slv obv vals.length,h2,[]) := e3
      simp -implicitDefEqProofs only [↓jn3,↓wsD,wsP,Nat.reduceBEq,reduceCtorEq,logOf,Nat.reduceAdd,Nat.reduceLeDiff,Nat.reduceMul,co_slv,c1,r1,idx1 hi,hxm,e3',oB_Row',bS_Row']
      obtain ⟨obr,L,rr⟩ := k.rr i x R hx hR
      have hLl := rr.len
      have hxeq := rr.hx
      subst hxeq
      generalize hh3 : h2.push (.cells [.int .i64 (N : Int),slv obv vals.length] T_asterismref12_Row false) = h3
      have s3 : Sup h2 h3 := by rw [← hh3]; exact Sup.push _ _
      have n3 : h3.n = h2.n + 1 := by rw [← hh3]; rfl
      have s13 := s2.trans s3
      have g3x : h3.get h2.n = some (.cells [.int .i64 (N : Int),slv obv vals.length] T_asterismref12_Row false) := by rw [← hh3,H.get_push,if_pos rfl]
      have hsx3 : sliceCells h3.get 2 (some ⟨h2.n,0,none⟩) 1 = some [.int .i64 (N : Int),slv obv vals.length] := by rw [sliceCells_eq g3x (by simp)]; rfl
      have frF : ∀ b,Fr i b → h1.get b = h0.get b ∧ b < h1.n := fun b hF => ⟨g1 b (k.fr i b hi hF).2.2.2.2.1,by have := (k.fr i b hi hF).2.1; omega⟩
      have keep3 : ∀ b,b < h0.n → b ≠ nb → h3.get b = h0.get b := fun b hb hn => by rw [s13.2 b (by omega),g1 b hn]
      obtain ⟨⟨w4,h4,lg4⟩,e4,obr',u1,u2,u3,u4,u5⟩ := rApp_own (h := h3) (e := T_asterismref12_Row) (es := 2) (bytes := 32) (zero := [(.int .i64 0),(.slice none 0 0)]) (n := L.length) (m := 1) (xc := 1) (ob := obr) (cs := L.flatMap rc)
        (rr.own.frame (h1 := h3) (by have := s13.1; omega) fun b e => keep3 b (k.fr i b hi (rr.f b e)).2.1 (k.fr i b hi (rr.f b e)).2.2.2.2.1) (flat_len rc_len L) (by omega) hsx3 rfl (by simp only [lim]; omega)
      simp only at u1 u2 u3 u4 u5
      subst u1
      have hle4 := u5.le
      have hle2 := s13.1
      have g4r : h4.get rb = some (.cells (xs ++ J) T_Lasterismref12_Row false) := by
        have hlr := k.lr
        rw [u5.same rb (by omega) (fun hm => (k.fr i rb hi (rr.f rb (u4 rb hm))).2.2.2.1 rfl),s13.2 rb (by omega),r1]
      have hcl2 : i + 1 ≤ (xs ++ J).length := by rw [List.length_append,k.xl]; omega
      have hps2 : putAt (xs ++ J) i [slv obr' (L.length + 1)] = xs.set i (slv obr' (L.length + 1)) ++ J := putAt_set (by rw [k.xl]; exact hi) _
      simp -implicitDefEqProofs only [↓jn3,↓wsD,wsP,Nat.reduceBEq,reduceCtorEq,logOf,Nat.reduceAdd,Nat.reduceLeDiff,Nat.reduceMul,co_slv,e4,g4r,idx1 hi,hcl2,hps2]
      rw [dr_ex [(17,3)] [false,false,false,false,false,false,false,false,false,false,false,false,false,false,false,false,false,true,false,true] (by kernel_rfl) (fun p hp a b ha hb => by
        rw [List.mem_singleton] at hp
        subst hp
        have ha : some _ = some a := ha
        have hb : some _ = some b := hb
        cases ha; cases hb
        simp only [besides,mH,mR,rdP]
        rw [List.all_eq_true]
        intro y hy
        have := (k.fr i y hi (rr.f y (u4 y hy))).2.2.1
        simp only [List.contains_cons,List.contains_nil,Bool.or_false,Bool.not_eq_true',beq_eq_false_iff_ne]
        exact this)]
      simp -implicitDefEqProofs only [↓jn3,↓wsD,wsP,Nat.reduceBEq,reduceCtorEq,logOf,Nat.reduceAdd,Nat.reduceLeDiff,Nat.reduceMul,co_slv,wsF]
      generalize hh5 : h4.set rb (.cells (xs.set i (slv obr' (L.length + 1)) ++ J) T_Lasterismref12_Row false) = h5
      have n5 : h5.n = h4.n := by rw [← hh5]; rfl
      have g5 : ∀ b,b ≠ rb → h5.get b = h4.get b := fun b hb => by rw [← hh5,H.get_set,if_neg hb]
      have g5r : h5.get rb = some (.cells (xs.set i (slv obr' (L.length + 1)) ++ J) T_Lasterismref12_Row false) := by rw [← hh5,H.get_set,if_pos rfl]
      -- what stays
      have keep5 : ∀ b,b < h0.n → b ≠ nb → b ≠ rb → obr ≠ some b → h5.get b = h0.get b := fun b hb h1' h2' h3' => by
        rw [g5 b h2',u5.same b (by omega) (fun hm => h3' (u4 b hm)),keep3 b hb h1']
      have hlw := k.lw
      have hlr := k.lr
      have hln := k.ln
      have obrF : ∀ b,obr = some b → Fr i b := rr.f
      refine Rn_mut rb (by simp) k.lr fun lgk hlk hmk => .inr (.inr ⟨hl,hm,rfl,fun y hy => ?_,List.ne_nil_of_mem hmk,?_⟩)
      · obtain ⟨h8,h9⟩ := hlk y hy
        refine ⟨?_,h9⟩
        simp only [List.mem_append,List.mem_cons,List.not_mem_nil,or_false] at h8
        rcases h8 with (h8 | rfl) | rfl
        · exact (k.fr i y hi (rr.f y (u4 y h8))).1
        · exact k.mr
        · exact k.mn
      · show WR h5 wb fs _ _ _ _
        have FiK : ∀ b,b < h0.n → Fi b → h5.get b = h0.get b := fun b hb hF => keep5 b hb (k.fi b hF).2.2.2.2 (k.fi b hF).2.2.2.1 fun e => (k.fr i b hi (obrF b e)).2.2.2.2.2 hF
        refine ⟨sx,rb,nb,rcap,ncap,xs.set i (slv obr' (L.length + 1)),J,J',fun j b => if j = i then (Fr i b ∨ h1.n ≤ b) ∧ b < h5.n else Fr j b,Fi,by omega,by omega,by omega,?_,k.sch.frame (by omega) FiK,g5r,?_,by rw [List.length_set]; exact k.xl,by rw [List.length_set]; exact k.rl,by rw [List.length_set]; exact k.nl,?_,?_,?_,?_,.inl k.mw,.inl k.mr,.inl k.mn,k.d1,k.d2,k.d3⟩
        · rw [keep5 wb k.lw k.d2 k.d1 (fun e => (k.fr i wb hi (obrF wb e)).2.2.1 rfl),k.cell]
        · rw [g5 nb (Ne.symm k.d3),u5.same nb (by omega) (fun hm => (k.fr i nb hi (obrF nb (u4 nb hm))).2.2.2.2.1 rfl),s13.2 nb (by omega),g1n]
        · intro j y R' hy hR'
          by_cases hji : j = i
          · subst hji
            rw [List.getElem?_set,if_pos rfl,if_pos (by rw [k.xl]; exact hi)] at hy
            rw [List.getElem?_set,if_pos rfl,if_pos (by rw [k.rl]; exact hi)] at hR'
            cases hy; cases hR'
            have obrlt : ∀ b,obr' = some b → b < h5.n := fun b e => by subst e; have := u2.1; omega
            have hobr' : ∀ b,obr' = some b → obr = some b ∨ h3.n ≤ b := fun b e => by
              rcases u3 with ⟨rfl,_⟩ | rfl
              · exact .inl e
              · cases e; exact .inr (Nat.le_refl _)
            have hobv : ∀ b,obv = some b → h1.n ≤ b ∧ b < h2.n := fun b e => by
              subst e
              refine ⟨?_,t2.1⟩
              rcases t3 with ⟨e,_⟩ | e
              · cases e
              · cases e; exact Nat.le_refl _
            have hs2n := s3.1
            refine ⟨obr',L ++ [⟨N,vals,obv⟩],by rw [List.map_append,rr.map]; rfl,by rw [List.length_append]; rfl,?_,fun w hw => ?_,fun b e => ?_,fun w hw b e => ?_,?_⟩
            · have : (L ++ [(⟨N,vals,obv⟩ : RwB)]).flatMap rc = L.flatMap rc ++ [.int .i64 (N : Int),slv obv vals.length] := by rw [List.flatMap_append]; simp [rc]
              rw [this]
              refine u2.frame (by omega) fun b e => g5 b fun e2 => ?_
              subst e2
              rcases hobr' b e with h | h
              · exact (k.fr j b hi (obrF b h)).2.2.2.1 rfl
              · omega
            · rcases List.mem_append.1 hw with hw | hw
              · refine (rr.vals w hw).frame (by omega) fun b e => ?_
                have hv := (rr.fv w hw b e)
                exact keep5 b (k.fr j b hi hv.1).2.1 (k.fr j b hi hv.1).2.2.2.2.1 (k.fr j b hi hv.1).2.2.2.1 hv.2
              · rw [List.mem_singleton.1 hw]
                refine t2.frame (by omega) fun b e => ?_
                have hb := hobv b e
                rw [g5 b (by omega),u5.same b (by omega) (fun hm => by have := (k.fr j b hi (obrF b (u4 b hm))).2.1; omega),s3.2 b hb.2]
            · have := obrlt b e
              simp only [if_true]
              rcases hobr' b e with h | h
              · exact ⟨.inl (obrF b h),this⟩
              · exact ⟨.inr (by omega),this⟩
            · simp only [if_true]
              rcases List.mem_append.1 hw with hw | hw
              · have hv := rr.fv w hw b e
                have hb := (k.fr j b hi hv.1).2.1
                refine ⟨⟨.inl hv.1,by omega⟩,fun e2 => ?_⟩
                rcases hobr' b e2 with h | h
                · exact hv.2 h
                · omega
              · rw [List.mem_singleton.1 hw] at e
                have hb := hobv b e
                refine ⟨⟨.inr hb.1,by omega⟩,fun e2 => ?_⟩
                rcases hobr' b e2 with h | h
                · have := (k.fr j b hi (obrF b h)).2.1; omega
                · omega
            · rw [List.pairwise_append]
              refine ⟨rr.dis,List.pairwise_singleton _ _,fun w hw w' hw' b e e' => ?_⟩
              rw [List.mem_singleton.1 hw'] at e'
              have hb := hobv b e'
              have := (k.fr j b hi (rr.fv w hw b e).1).2.1
              omega
          · rw [List.getElem?_set,if_neg (Ne.symm hji)] at hy hR'
            have hj : j < fs.length := by rw [← k.rl]; exact (List.getElem?_eq_some_iff.1 hR').1
            have := (k.rr j y R' hy hR').frame (h1 := h5) (by omega) fun b hb hF => keep5 b hb (k.fr j b hj hF).2.2.2.2.1 (k.fr j b hj hF).2.2.2.1 fun e => k.dis j i b hj hi hji hF (obrF b e)
            simpa only [hji,if_false] using this
        · intro j b hj hF
          by_cases hji : j = i
          · subst hji
            simp only [if_true] at hF
            refine ⟨?_,hF.2,?_,?_,?_,fun hFi => ?_⟩
            · rcases hF.1 with h | h
              · exact .inl (k.fr j b hi h).1
              · exact .inr (by omega)
            · rcases hF.1 with h | h
              · exact (k.fr j b hi h).2.2.1
              · omega
            · rcases hF.1 with h | h
              · exact (k.fr j b hi h).2.2.2.1
              · omega
            · rcases hF.1 with h | h
              · exact (k.fr j b hi h).2.2.2.2.1
              · omega
            · rcases hF.1 with h | h
              · exact (k.fr j b hi h).2.2.2.2.2 hFi
              · have := (k.fi b hFi).2.1; omega
          · simp only [hji,if_false] at hF
            exact ⟨.inl (k.fr j b hj hF).1,by have := (k.fr j b hj hF).2.1; omega,(k.fr j b hj hF).2.2⟩
        · intro j j' b hj hj' hne hF hF'
          by_cases hji : j = i
          · have hj'i : j' ≠ i := fun e => hne (by rw [hji,e])
            simp only [hji,if_true] at hF
            simp only [hj'i,if_false] at hF'
            have hlt' := (k.fr j' b hj' hF').2.1
            rcases hF.1 with h | h
            · exact k.dis i j' b hi hj' (Ne.symm hj'i) h hF'
            · omega
          · simp only [hji,if_false] at hF
            by_cases hj'i : j' = i
            · simp only [hj'i,if_true] at hF'
              have hlt' := (k.fr j b hj hF).2.1
              rcases hF'.1 with h | h
              · exact k.dis j i b hj hi hji hF h
              · omega
            · simp only [hj'i,if_false] at hF'
              exact k.dis j j' b hj hj' hne hF hF'
        · exact fun b hF => ⟨(k.fi b hF).1,by have := (k.fi b hF).2.1; omega,(k.fi b hF).2.2⟩
    · simp -implicitDefEqProofs only [↓jn3,↓wsD,wsP,Nat.reduceBEq,reduceCtorEq,logOf,Nat.reduceAdd,Nat.reduceLeDiff,Nat.reduceMul,co_slv,wsF,v3,v4]
      exact Rn_low (by simp) rfl (.inr (.inl ⟨hl,hm,rfl⟩))
  · have hne : ((vals.length : Int) != (f.cols.length : Int)) = true := by simp; omega
    simp -implicitDefEqProofs only [↓jn3,↓wsD,wsP,Nat.reduceBEq,reduceCtorEq,logOf,Nat.reduceAdd,Nat.reduceLeDiff,Nat.reduceMul,co_slv,wsF,k.cell,idx1 hi,k.nexts,hNm,hge,rv.len,e2,l2,hcx.len,hne]
    exact Rn_low (by simp) rfl (.inl ⟨hl,rfl⟩)
end Go.L1


set_option maxRecDepth 100000
namespace Go.L1
def Can (S : List Sp) : Prop := S.Pairwise (fun a b => a.2 < b.1) ∧ ∀ p ∈ S,p.1 < p.2
def spansOf (ids : List Nat) : List Sp := joinS (ids.map fun i => (i,i + 1))
theorem spansOf_snoc (ids : List Nat) (n : Nat) : spansOf (ids ++ [n]) = addS (spansOf ids) n (n + 1) := by
  simp only [spansOf,List.map_append,List.map_cons,List.map_nil,joinS_snoc]
theorem addS_app {S : List Sp} {f t : Nat} (h : ∀ p ∈ S,p.2 < f) (hft : f < t) : addS S f t = S ++ [(f,t)] := by
  unfold addS
  rcases List.eq_nil_or_concat S with rfl | ⟨S0,⟨a,b⟩,rfl⟩
  · simp [hft]
  · rw [List.concat_eq_append] at *
    have hb := h (a,b) (by simp)
    simp only [List.getLast?_concat]
    rw [if_neg (by simp only at hb; omega),if_pos hft]
theorem joinS_can {S : List Sp} (h : Can S) : joinS S = S := by
  generalize hn : S.length = n
  induction n generalizing S with
  | zero => rw [List.length_eq_zero_iff.1 hn]; rfl
  | succ n ih =>
    rcases List.eq_nil_or_concat S with rfl | ⟨S0,p,rfl⟩
    · rfl
    · rw [List.concat_eq_append] at *
      obtain ⟨h1,h2⟩ := h
      rw [List.pairwise_append] at h1
      rw [joinS_snoc,ih ⟨h1.1,fun q hq => h2 q (by simp [hq])⟩ (by simpa using hn)]
      exact addS_app (fun q hq => h1.2.2 q hq p (by simp)) (h2 p (by simp))
theorem hasS_app (S T : List Sp) (i : Int) : hasS (S ++ T) i = (hasS S i || hasS T i) := by simp [hasS]
theorem rankS_app (S : List Sp) (p : Sp) (i : Nat) : rankS (S ++ [p]) i = if p.1 < i then rankS S i + (min i p.2 - p.1) else rankS S i := by simp [rankS]
structure SpOk (S : List Sp) (ids : List Nat) (n : Nat) : Prop where
  can : Can S
  le : ∀ p ∈ S,p.2 ≤ n
  has : ∀ i : Nat,hasS S (i : Int) = decide (i ∈ ids)
  rank : ∀ i,n ≤ i → rankS S i = ids.length
  len : S.length ≤ ids.length
theorem SpOk.nil : SpOk [] [] 0 := ⟨⟨List.Pairwise.nil,by simp⟩,by simp,fun i => by simp [hasS],fun i _ => rfl,Nat.le_refl _⟩
theorem SpOk.skip {S : List Sp} {ids : List Nat} {n m : Nat} (h : SpOk S ids n) (hm : n ≤ m) : SpOk S ids m := ⟨h.can,fun p hp => Nat.le_trans (h.le p hp) hm,h.has,fun i hi => h.rank i (by omega),h.len⟩
theorem SpOk.snoc {S : List Sp} {ids : List Nat} {n : Nat} (h : SpOk S ids n) : SpOk (addS S n (n + 1)) (ids ++ [n]) (n + 1) := by
  obtain ⟨⟨c1,c2⟩,le,has,rank,len⟩ := h
  rcases List.eq_nil_or_concat S with rfl | ⟨S0,⟨a,b⟩,rfl⟩
  · have e : addS [] n (n + 1) = [(n,n + 1)] := by simp [addS]
    rw [e]
    refine ⟨⟨List.pairwise_singleton _ _,by simp⟩,by simp,fun i => ?_,fun i hi => ?_,by simp⟩
    · have := has i
      simp only [hasS,List.any_nil] at this
      have h0 : ¬ i ∈ ids := by simpa using this.symm
      rw [Bool.eq_iff_iff]
      simp [hasS,h0]
      omega
    · have h1 := rank i (by omega)
      have h2 : ids.length = 0 := by rw [← h1]; rfl
      have h3 : rankS [(n,n + 1)] i = if n < i then 0 + (min i (n + 1) - n) else 0 := rfl
      rw [h3,if_pos (by omega),List.length_append,h2]
      simp only [List.length_singleton]; omega
  · rw [List.concat_eq_append] at *
    have hab := c2 (a,b) (by simp)
    have hbn := le (a,b) (by simp)
    simp only at hab hbn
    rw [List.pairwise_append] at c1
    have hS0 : ∀ p ∈ S0,p.2 < a := fun p hp => c1.2.2 p hp (a,b) (by simp)
    by_cases hnb : n ≤ b
    · have hb : b = n := by omega
      subst hb
      have e : addS (S0 ++ [(a,b)]) b (b + 1) = S0 ++ [(a,b + 1)] := by
        simp only [addS,List.getLast?_concat,List.dropLast_concat]
        rw [if_pos (Nat.le_refl _),Nat.max_eq_right (by omega)]
      rw [e]
      refine ⟨⟨?_,fun p hp => ?_⟩,fun p hp => ?_,fun i => ?_,fun i hi => ?_,?_⟩
      · rw [List.pairwise_append]
        exact ⟨c1.1,List.pairwise_singleton _ _,fun p hp q hq => by rw [List.mem_singleton.1 hq]; exact hS0 p hp⟩
      · rcases List.mem_append.1 hp with hp | hp
        · exact c2 p (by simp [hp])
        · rw [List.mem_singleton.1 hp]; simp only; omega
      · rcases List.mem_append.1 hp with hp | hp
        · have := le p (by simp [hp]); omega
        · rw [List.mem_singleton.1 hp]; simp
      · have := has i
        rw [hasS_app] at this ⊢
        rw [Bool.eq_iff_iff] at this ⊢
        have e1 : hasS [(a,b)] (i : Int) = true ↔ a ≤ i ∧ i < b := by simp [hasS]
        have e2 : hasS [(a,b + 1)] (i : Int) = true ↔ a ≤ i ∧ i < b + 1 := by simp [hasS]
        simp only [Bool.or_eq_true,e1,e2,decide_eq_true_eq,List.mem_append,List.mem_cons,List.not_mem_nil,or_false] at this ⊢
        rw [← this]
        constructor
        · rintro (h | h)
          · exact .inl (.inl h)
          · rcases Nat.lt_or_ge i b with h' | h'
            · exact .inl (.inr ⟨h.1,h'⟩)
            · exact .inr (by omega)
        · rintro ((h | h) | h)
          · exact .inl h
          · exact .inr (by omega)
          · exact .inr (by omega)
      · have := rank i (by omega)
        rw [rankS_app,if_pos (by simp only; omega)] at this ⊢
        rw [List.length_append,List.length_singleton,← this]
        simp only
        omega
      · simp only [List.length_append,List.length_singleton] at len ⊢; omega
    · have e : addS (S0 ++ [(a,b)]) n (n + 1) = (S0 ++ [(a,b)]) ++ [(n,n + 1)] := addS_app (fun p hp => by
        rcases List.mem_append.1 hp with hp | hp
        · have := hS0 p hp; omega
        · rw [List.mem_singleton.1 hp]; simp only; omega) (by omega)
      rw [e]
      refine ⟨⟨?_,fun p hp => ?_⟩,fun p hp => ?_,fun i => ?_,fun i hi => ?_,?_⟩
      · rw [List.pairwise_append]
        refine ⟨List.pairwise_append.2 c1,List.pairwise_singleton _ _,fun p hp q hq => ?_⟩
        rw [List.mem_singleton.1 hq]
        rcases List.mem_append.1 hp with hp | hp
        · have := hS0 p hp; simp only; omega
        · rw [List.mem_singleton.1 hp]; simp only; omega
      · rcases List.mem_append.1 hp with hp | hp
        · exact c2 p hp
        · rw [List.mem_singleton.1 hp]; simp only; omega
      · rcases List.mem_append.1 hp with hp | hp
        · have := le p hp; omega
        · rw [List.mem_singleton.1 hp]; simp
      · rw [hasS_app,has i,Bool.eq_iff_iff]
        by_cases hm : i ∈ ids <;> simp [hasS,hm] <;> omega
      · rw [rankS_app,if_pos (by simp only; omega),rank i (by omega),List.length_append,List.length_singleton]
        simp only
        omega
      · simp only [List.length_append,List.length_singleton] at len ⊢; omega
end Go.L1


set_option maxRecDepth 100000
namespace Go.L1
open Go Go.Proofs
def V0 : V := ⟨0,0,[]⟩
structure TabA' (h : H) (tb : Nat) (f : Fm) (R : List Rw) (n : Nat) (M I : Nat → Prop) (ls : List (List V)) (S : List Sp) : Prop where
  tab : TabR h tb f ls S n M I
  sp : SpOk S (R.map Prod.fst) n
  srt : R.Pairwise fun a b => a.1 < b.1
  row : ∀ r ∈ R,r.1 < n ∧ r.2.length = f.cols.length
  val : ∀ r ∈ R,∀ (i : Nat) (l : List V),ls[i]? = some l → l[r.1]? = r.2[i]?
  dead : ∀ id,id < n → (∀ r ∈ R,r.1 ≠ id) → ∀ l ∈ ls,l[id]? = some V0
def TabA (h : H) (tb : Nat) (f : Fm) (R : List Rw) (n : Nat) (M I : Nat → Prop) : Prop := ∃ ls S,TabA' h tb f R n M I ls S
theorem TabA.frame {h h1 : H} {tb n : Nat} {f : Fm} {R : List Rw} {M I : Nat → Prop} (r : TabA h tb f R n M I) (hn : h.n ≤ h1.n) (hf : ∀ b,b < h.n → M b ∨ I b → h1.get b = h.get b) : TabA h1 tb f R n M I := by
  obtain ⟨ls,S,r⟩ := r
  exact ⟨ls,S,r.tab.frame hn hf,r.sp,r.srt,r.row,r.val,r.dead⟩
theorem TabA.mono {h : H} {tb n : Nat} {f : Fm} {R : List Rw} {M I M' I' : Nat → Prop} (r : TabA h tb f R n M I) (hM : ∀ b,M b → M' b) (hI : ∀ b,I b → I' b) : TabA h tb f R n M' I' := by
  obtain ⟨ls,S,r⟩ := r
  exact ⟨ls,S,r.tab.mono hM hI,r.sp,r.srt,r.row,r.val,r.dead⟩
theorem TabR.ll {h : H} {tb n : Nat} {f : Fm} {ls : List (List V)} {S : List Sp} {M I : Nat → Prop} (r : TabR h tb f ls S n M I) : f.cols.length = ls.length := by
  obtain ⟨_,_,_,_,_,_,_,_,_,_,_,_,k⟩ := r
  exact k.cs.len2
theorem c_tabins {h : H} {tb n : Nat} {f : Fm} {R : List Rw} {M I Fv : Nat → Prop} {vx : Value} {vals : List V} (r : TabA h tb f R n M I) (rv : Rd h 3 vx vals.length (vals.flatMap V.cs) Fv) (hvM : ∀ b,Fv b → ¬ M b) (hs : ∀ v ∈ vals,v.s.length < 1000)
    (hll : f.cols.length < 1000) (hn : n < 50000) (hR : R.length < 255) :
    Rn (icP (.fn N_k35) [pt tb 0,vx] h) fun r => (vals.length ≠ f.cols.length ∧ r = (.tuple [.int .i64 0,.int .i64 1].toArray,h,[])) ∨ (vals.length = f.cols.length ∧ mayRow f.cols vals = false ∧ r = (.tuple [.int .i64 0,.int .i64 4].toArray,h,[])) ∨
      (vals.length = f.cols.length ∧ mayRow f.cols vals = true ∧ r.1 = .tuple [.int .i64 (n : Int),.int .i64 0].toArray ∧ (∀ x ∈ r.2.2,M x ∧ x < h.n) ∧ r.2.2 ≠ [] ∧ TabA r.2.1 tb f (R ++ [(n,vals)]) (n + 1) (fun b => M b ∨ h.n ≤ b) (fun b => I b ∨ h.n ≤ b)) := by
  obtain ⟨ls,S,r⟩ := r
  have hSl : S.length ≤ R.length := by simpa using r.sp.len
  refine (c_tins r.tab rv hvM hs hll hn (by omega) (fun p hp => ⟨r.sp.can.2 p hp,r.sp.le p hp⟩) (r.sp.can.1.imp_of_mem fun {a b} ha _ hab => by have := r.sp.can.2 a ha; omega)).mono fun q hq => ?_
  rcases hq with h1 | h1 | ⟨hl,hm,h1,h2,h2',h3⟩
  · exact .inl h1
  · exact .inr (.inl h1)
  · refine .inr (.inr ⟨hl,hm,h1,h2,h2',apnd ls vals,_,h3,?_,?_,?_,?_,?_⟩)
    · rw [joinS_snoc,joinS_can r.sp.can]
      simpa using r.sp.snoc
    · rw [List.pairwise_append]
      refine ⟨r.srt,List.pairwise_singleton _ _,fun a ha b hb => ?_⟩
      rw [List.mem_singleton.1 hb]
      exact (r.row a ha).1
    · intro a ha
      rcases List.mem_append.1 ha with ha | ha
      · have := r.row a ha; exact ⟨by omega,this.2⟩
      · rw [List.mem_singleton.1 ha]; exact ⟨by simp,hl⟩
    · have hll2 := r.tab.ll
      intro a ha i l hi
      have hi2 := (List.getElem?_eq_some_iff.1 hi).1
      rw [apnd_len (by omega)] at hi2
      obtain ⟨l0,hl0⟩ : ∃ p,ls[i]? = some p := ⟨_,List.getElem?_eq_getElem hi2⟩
      obtain ⟨v0,hv0⟩ : ∃ p,vals[i]? = some p := ⟨_,List.getElem?_eq_getElem (by omega)⟩
      have hll0 := r.tab.lens l0 (List.mem_of_getElem? hl0)
      rw [apnd_get hl0 hv0] at hi
      cases hi
      rcases List.mem_append.1 ha with ha | ha
      · rw [List.getElem?_append_left (by rw [hll0]; exact (r.row a ha).1)]
        exact r.val a ha i l0 hl0
      · rw [List.mem_singleton.1 ha]
        simp only
        rw [List.getElem?_append_right (by omega),hll0,Nat.sub_self,hv0]; rfl
    · have hll2 := r.tab.ll
      intro id hid hno l hl'
      obtain ⟨i,hi⟩ := List.getElem?_of_mem hl'
      have hi2 := (List.getElem?_eq_some_iff.1 hi).1
      rw [apnd_len (by omega)] at hi2
      obtain ⟨l0,hl0⟩ : ∃ p,ls[i]? = some p := ⟨_,List.getElem?_eq_getElem hi2⟩
      obtain ⟨v0,hv0⟩ : ∃ p,vals[i]? = some p := ⟨_,List.getElem?_eq_getElem (by omega)⟩
      have hll0 := r.tab.lens l0 (List.mem_of_getElem? hl0)
      rw [apnd_get hl0 hv0] at hi
      cases hi
      have hne : id ≠ n := fun e => hno (n,vals) (by simp) e.symm
      rw [List.getElem?_append_left (by omega)]
      exact r.dead id (by omega) (fun a ha => hno a (by simp [ha])) l0 (List.mem_of_getElem? hl0)
def mapE (fs : List Fm) (tbs : List Nat) : List (Value × Value) := (fs.zip tbs).map fun p => (st p.1.name,pt p.2 0)
structure DbR (h : H) (db mp : Nat) (sv : Value) (fs : List Fm) (tbs : List Nat) (A : List (List Rw × Nat)) (Ms Is : Nat → Nat → Prop) : Prop where
  l1 : db < h.n
  l2 : mp < h.n
  cell : h.get db = some (.cells [sv,.map (some mp)] T_data_DB false)
  map : h.get mp = some (.map (mapE fs tbs))
  tl : tbs.length = fs.length
  al : A.length = fs.length
  tab : ∀ (i : Nat) (tb : Nat) (f : Fm) (a : List Rw × Nat),tbs[i]? = some tb → fs[i]? = some f → A[i]? = some a → TabA h tb f a.1 a.2 (Ms i) (Is i)
  dis : ∀ i j b,i < fs.length → j < fs.length → i ≠ j → Ms i b → ¬ Ms j b ∧ ¬ Is j b
  own : ∀ i b,i < fs.length → Ms i b → b < h.n ∧ b ≠ db ∧ b ≠ mp
  iown : ∀ i b,i < fs.length → Is i b → b < h.n
theorem oLk_t (C : Cont) (x k : Value) : oLk pgB C T_MstringPtable_Table x k false = rLook C (.pointer none) x k false := by kernel_rfl
theorem lookK_map (fs : List Fm) : ∀ (tbs : List Nat) (name : List UInt8),tbs.length = fs.length → lookK ⟨name.toArray⟩ (mapE fs tbs) = some ((fs.findIdx? fun f => f.name == name).bind fun i => (tbs[i]?).map fun tb => pt tb 0) := by
  induction fs with
  | nil => intro tbs name h; rfl
  | cons f fs ih =>
    intro tbs name h
    cases tbs with
    | nil => cases h
    | cons tb tbs =>
      have ih2 := ih tbs name (by simpa using h)
      show (if (bl ⟨name.toArray⟩ == bl ⟨f.name.toArray⟩) = true then some (some (pt tb 0)) else lookK ⟨name.toArray⟩ (mapE fs tbs)) = _
      rw [bl_st,bl_st]
      by_cases e : f.name = name
      · subst e; rw [List.findIdx?_cons]; simp
      · have e' : ¬ name = f.name := fun h => e h.symm
        rw [if_neg (by simpa using e'),ih2,List.findIdx?_cons,if_neg (by simpa using e)]
        cases fs.findIdx? fun f => f.name == name with
        | none => rfl
        | some i => simp
theorem c_dbtable {h : H} {db mp : Nat} {sv : Value} {fs : List Fm} {tbs : List Nat} {A : List (List Rw × Nat)} {Ms Is : Nat → Nat → Prop} (r : DbR h db mp sv fs tbs A Ms Is) (name : List UInt8) :
    icP (.fn N_k33) [pt db 0,st name] h = some ((((fs.findIdx? fun f => f.name == name).bind fun i => (tbs[i]?).map fun tb => pt tb 0).getD (.pointer none)),h,[]) := by
  refine Rn.eq (Rn.up (fun _ => ic_k33 rfl _ _) ?_)
  unfold F_k33
  have hlk : rLook h.get (.pointer none) (.map (some mp)) (st name) false = some (((fs.findIdx? fun f => f.name == name).bind fun i => (tbs[i]?).map fun tb => pt tb 0).getD (.pointer none)) := by
    simp only [rLook,st,r.map,lookK_map fs tbs name r.tl,lookRes,cond_false]
    cases (fs.findIdx? fun f => f.name == name).bind fun i => (tbs[i]?).map fun tb => pt tb 0 <;> rfl
  obtain ⟨x,hx,hxb⟩ : ∃ x : Option Addr,((fs.findIdx? fun f => f.name == name).bind fun i => (tbs[i]?).map fun tb => pt tb 0).getD (.pointer none) = .pointer x ∧ belowV h.n 4 (.pointer x) = true := by
    cases hf : fs.findIdx? fun f => f.name == name with
    | none => exact ⟨none,rfl,rfl⟩
    | some i =>
      have hi : i < fs.length := by
        rw [List.findIdx?_eq_some_iff_getElem] at hf
        exact hf.1
      obtain ⟨tb,ht⟩ : ∃ p,tbs[i]? = some p := ⟨_,List.getElem?_eq_getElem (by rw [r.tl]; exact hi)⟩
      obtain ⟨f,hf'⟩ : ∃ p,fs[i]? = some p := ⟨_,List.getElem?_eq_getElem hi⟩
      obtain ⟨a,ha⟩ : ∃ p,A[i]? = some p := ⟨_,List.getElem?_eq_getElem (by rw [r.al]; exact hi)⟩
      obtain ⟨ls,S,rt⟩ := r.tab i tb f a ht hf' ha
      refine ⟨some ⟨tb,0,none⟩,by simp [ht],?_⟩
      have := rt.tab.lt
      simpa [belowV] using this
  rw [hx] at hlk ⊢
  simp -implicitDefEqProofs only [↓jn3,↓wsD,wsP,Nat.reduceBEq,reduceCtorEq,logOf,Nat.reduceAdd,Nat.reduceLeDiff,Nat.reduceMul,co_slv,wsF,r.cell,oLk_t,hlk]
  exact Rn_low (by simp) hxb rfl
end Go.L1
