/- Texts of a proof: no condition. -/
import Derived.Test.YtmhdgdehbkjhhaaGreatLawC
set_option autoImplicit true
set_option relaxedAutoImplicit true
set_option linter.all false
set_option linter.unusedVariables false
set_option linter.unusedSimpArgs false
set_option maxRecDepth 100000
namespace Go.L1
open Go Go.Proofs
theorem TabR.bd {h : H} {tb n : Nat} {f : Fm} {ls : List (List V)} {S : List Sp} {M I : Nat → Prop} (r : TabR h tb f ls S n M I) : TabR h tb f ls S n (fun b => M b ∧ b < h.n) (fun b => I b ∧ b < h.n) := by
  obtain ⟨a1,a2,a3,a4,a5,fcols,fdeps,pcols,lv,cps,Fc,Fi,k⟩ := r
  exact ⟨a1,⟨a2,a1⟩,a3,a4,a5,fcols,fdeps,pcols,lv,cps,Fc,Fi,k.cell,k.cols,k.deps,k.ptrs,k.live,k.cs,fun i b hi hF => ⟨⟨(k.fc i b hi hF).1,k.cs.lt i b hi hF⟩,(k.fc i b hi hF).2⟩,fun b hb => ⟨⟨(k.fi b hb).1,(k.fi b hb).2.2⟩,(k.fi b hb).2⟩⟩
theorem TabA.bd {h : H} {tb n : Nat} {f : Fm} {R : List Rw} {M I : Nat → Prop} (r : TabA h tb f R n M I) : TabA h tb f R n (fun b => M b ∧ b < h.n) (fun b => I b ∧ b < h.n) := by
  obtain ⟨ls,S,r⟩ := r
  exact ⟨ls,S,r.tab.bd,r.sp,r.srt,r.row,r.val,r.dead⟩
section
variable {h h1 : H} {db mp : Nat} {sv : Value} {fs : List Fm} {tbs : List Nat} {A : List (List Rw × Nat)} {Ms Is : Nat → Nat → Prop}
theorem DbR.sup (r : DbR h db mp sv fs tbs A Ms Is) (s : Sup h h1) : DbR h1 db mp sv fs tbs A Ms Is :=
  ⟨by have := r.l1; have := s.1; omega,by have := r.l2; have := s.1; omega,by rw [s.2 db r.l1,r.cell],by rw [s.2 mp r.l2,r.map],r.tl,r.al,fun i tb f a h1' h2 h3 => (r.tab i tb f a h1' h2 h3).frame s.1 fun b hb _ => s.2 b hb,r.dis,fun i b hi hM => ⟨by have := (r.own i b hi hM).1; have := s.1; omega,(r.own i b hi hM).2⟩,fun i b hi hI => by have := r.iown i b hi hI; have := s.1; omega⟩
theorem DbR.upd (r : DbR h db mp sv fs tbs A Ms Is) {lg : List Nat} (hst : Stp h h1 lg) {i tb : Nat} {f : Fm} {R : List Rw} {n : Nat} (ht : tbs[i]? = some tb) (hf : fs[i]? = some f) (hlg : ∀ x ∈ lg,Ms i x) (hT : TabA h1 tb f R n (fun b => Ms i b ∨ h.n ≤ b) (fun b => Is i b ∨ h.n ≤ b)) :
    DbR h1 db mp sv fs tbs (A.set i (R,n)) (fun j b => if j = i then (Ms i b ∨ h.n ≤ b) ∧ b < h1.n else Ms j b) (fun j b => if j = i then (Is i b ∨ h.n ≤ b) ∧ b < h1.n else Is j b) := by
  have hi := (List.getElem?_eq_some_iff.1 hf).1
  have hle := hst.le
  have keep : ∀ b,b < h.n → ¬ Ms i b → h1.get b = h.get b := fun b hb hm => hst.same b hb fun hx => hm (hlg b hx)
  have l1 := r.l1
  have l2 := r.l2
  refine ⟨by omega,by omega,by rw [keep db r.l1 fun hm => (r.own i db hi hm).2.1 rfl,r.cell],by rw [keep mp r.l2 fun hm => (r.own i mp hi hm).2.2 rfl,r.map],r.tl,by rw [List.length_set]; exact r.al,fun j tb' f' a hj1 hj2 hj3 => ?_,fun j k b hj hk hne hM => ?_,fun j b hj hM => ?_,fun j b hj hI => ?_⟩
  · by_cases e : j = i
    · subst e
      rw [ht] at hj1; rw [hf] at hj2
      cases hj1; cases hj2
      rw [List.getElem?_set,if_pos rfl,if_pos (by rw [r.al]; exact hi)] at hj3
      cases hj3
      simp only [if_true]
      exact hT.bd
    · rw [List.getElem?_set,if_neg (Ne.symm e)] at hj3
      simp only [e,if_false]
      have hj := (List.getElem?_eq_some_iff.1 hj2).1
      refine (r.tab j tb' f' a hj1 hj2 hj3).frame hle fun b hb hmi => keep b hb fun hm => ?_
      have := r.dis i j b hi hj (Ne.symm e) hm
      exact hmi.elim this.1 this.2
  · by_cases e : j = i
    · have e' : k ≠ i := fun h => hne (by rw [e,h])
      simp only [e,if_true] at hM
      simp only [e',if_false]
      rcases hM.1 with hM' | hM'
      · exact r.dis i k b hi hk (Ne.symm e') hM'
      · exact ⟨fun hm => by have := (r.own k b hk hm).1; omega,fun hm => by have := r.iown k b hk hm; omega⟩
    · simp only [e,if_false] at hM
      have hb := (r.own j b hj hM).1
      by_cases e' : k = i
      · simp only [e',if_true]
        have := r.dis j i b hj hi e hM
        exact ⟨fun hm => hm.1.elim this.1 fun h => by omega,fun hm => hm.1.elim this.2 fun h => by omega⟩
      · simp only [e',if_false]
        exact r.dis j k b hj hk hne hM
  · by_cases e : j = i
    · simp only [e,if_true] at hM
      refine ⟨hM.2,?_,?_⟩
      · rcases hM.1 with h | h
        · exact (r.own i b hi h).2.1
        · omega
      · rcases hM.1 with h | h
        · exact (r.own i b hi h).2.2
        · omega
    · simp only [e,if_false] at hM
      have := r.own j b hj hM
      exact ⟨by omega,this.2⟩
  · by_cases e : j = i
    · simp only [e,if_true] at hI
      exact hI.2
    · simp only [e,if_false] at hI
      have := r.iown j b hj hI
      omega
end
def opA (d : Int) (t : List UInt8) (id : Int) (c : List UInt8) (vx : Value) : Value := .agg #[.int .i64 d,st t,.int .i64 id,st c,vx]
theorem aBx_op {n : Nat} {d : Int} {t : List UInt8} {id : Int} {c : List UInt8} {a : Option Addr} {k cap : Nat} : aBx n T_api_Op 5 (opA d t id c (.slice a k cap)) = some (pt n 0,.cells [.int .i64 d,st t,.int .i64 id,st c,.slice a k cap] T_api_Op false) := rfl
theorem c_num (k : Nat) (h : H) : icP (.fn N_k30) [.int .i64 (k : Int)] h = some ((⟨1,k,[]⟩ : V).v,h,[]) := by
  refine Rn.eq (Rn.up (fun _ => ic_k30 rfl _) ?_)
  unfold F_k30
  have e1 : oBuild pgB T_api_Value [(0,.int .i64 1),(1,.int .i64 (k : Int))] = some ((⟨1,k,[]⟩ : V).v) := by
    show oBuild pgB T_api_Value [(0,.int .i64 1),(1,.int .i64 (k : Int))] = some (.agg #[.int .i64 1,.int .i64 (k : Int),.string ⟨#[]⟩])
    kernel_rfl
  simp -implicitDefEqProofs only [↓jn3,↓wsD,wsP,Nat.reduceBEq,reduceCtorEq,logOf,Nat.reduceAdd,Nat.reduceLeDiff,Nat.reduceMul,co_slv,wsF,e1]
  exact Rn_low (by simp) (bel_V _ _) rfl
theorem c_textv (s : List UInt8) (h : H) : icP (.fn N_k31) [st s] h = some ((⟨2,0,s⟩ : V).v,h,[]) := by
  refine Rn.eq (Rn.up (fun _ => ic_k31 rfl _) ?_)
  unfold F_k31
  have e1 : oBuild pgB T_api_Value [(0,.int .i64 2),(2,st s)] = some ((⟨2,0,s⟩ : V).v) := by
    show oBuild pgB T_api_Value [(0,.int .i64 2),(2,st s)] = some (.agg #[.int .i64 2,.int .i64 0,st s])
    kernel_rfl
  simp -implicitDefEqProofs only [↓jn3,↓wsD,wsP,Nat.reduceBEq,reduceCtorEq,logOf,Nat.reduceAdd,Nat.reduceLeDiff,Nat.reduceMul,co_slv,wsF,e1]
  exact Rn_low (by simp) (bel_V _ _) rfl
theorem c_one_ins {h : H} {db mp : Nat} {sv : Value} {fs : List Fm} {tbs : List Nat} {A : List (List Rw × Nat)} {Ms Is : Nat → Nat → Prop} (r : DbR h db mp sv fs tbs A Ms Is) {i tb : Nat} {f : Fm} {R : List Rw} {n : Nat} {name : List UInt8}
    (hfi : fs.findIdx? (fun f => f.name == name) = some i) (ht : tbs[i]? = some tb) (hf : fs[i]? = some f) (hA : A[i]? = some (R,n)) (id : Int) (col : List UInt8) {vx : Value} {vals : List V} {Fv : Nat → Prop} (rv : Rd h 3 vx vals.length (vals.flatMap V.cs) Fv) (hvM : ∀ b,Fv b → ¬ Ms i b) (hs : ∀ v ∈ vals,v.s.length < 1000)
    (hll : f.cols.length < 1000) (hn : n < 50000) (hR : R.length < 255) (hvl : vals.length = f.cols.length) (hm : mayRow f.cols vals = true) :
    Rn (icP (.fn N_k70) [pt db 0,opA 1 name id col vx] h) fun r => r.1 = .tuple [.int .i64 (n : Int),.int .i64 0].toArray ∧ (∀ x ∈ r.2.2,Ms i x ∧ x < h.n) ∧ r.2.2 ≠ [] ∧
      TabA r.2.1 tb f (R ++ [(n,vals)]) (n + 1) (fun b => Ms i b ∨ h.n ≤ b) (fun b => Is i b ∨ h.n ≤ b) := by
  refine Rn.up (fun _ => ic_k70 rfl _ _) ?_
  unfold F_k70
  obtain ⟨a,c,hvx⟩ := rv.low
  subst hvx
  simp -implicitDefEqProofs only [↓jn3,↓wsD,wsP,Nat.reduceBEq,reduceCtorEq,logOf,Nat.reduceAdd,Nat.reduceLeDiff,Nat.reduceMul,co_slv,aBx_op]
  generalize hh1 : h.push (.cells [.int .i64 1,st name,.int .i64 id,st col,.slice a vals.length c] T_api_Op false) = h1
  have s1 : Sup h h1 := by rw [← hh1]; exact Sup.push _ _
  have n1 : h1.n = h.n + 1 := by rw [← hh1]; rfl
  have g1 : h1.get h.n = some (.cells [.int .i64 1,st name,.int .i64 id,st col,.slice a vals.length c] T_api_Op false) := by rw [← hh1,H.get_push,if_pos rfl]
  have e1 := c_dbtable (r.sup s1) name
  rw [hfi] at e1
  simp only [Option.bind_some,ht,Option.map_some,Option.getD_some] at e1
  have hi := (List.getElem?_eq_some_iff.1 hf).1
  obtain ⟨⟨v2,h2,lg⟩,e2,hq⟩ := c_tabins ((r.sup s1).tab i tb f (R,n) ht hf hA) (rv.sup s1) hvM hs hll hn hR
  rcases hq with ⟨hc,_⟩ | ⟨_,hc,_⟩ | ⟨_,_,q1,q2,q2',q3⟩
  · exact absurd hvl hc
  · rw [hm] at hc; cases hc
  simp only at q1 q2 q2' q3
  subst q1
  have hst := icP_stp _ _ _ _ _ _ e2
  have hle := hst.le
  have z1 : ((1 : Int) != 1) = false := rfl
  have z2 : ((1 : Int) == 3) = false := rfl
  have z3 : ((1 : Int) == 1) = true := rfl
  simp -implicitDefEqProofs only [↓jn3,↓wsD,wsP,Nat.reduceBEq,reduceCtorEq,logOf,Nat.reduceAdd,Nat.reduceLeDiff,Nat.reduceMul,co_slv,wsF,hh1,e1,g1,z1,z2,z3,e2]
  have hT : TabA h2 tb f (R ++ [(n,vals)]) (n + 1) (fun b => Ms i b ∨ h.n ≤ b) (fun b => Is i b ∨ h.n ≤ b) := q3.mono (fun b hb => hb.imp (fun h => h) fun h => by omega) (fun b hb => hb.imp (fun h => h) fun h => by omega)
  obtain ⟨x,hx⟩ := List.exists_mem_of_ne_nil lg q2'
  have hxn := (r.own i x hi (q2 x hx).1).1
  exact Rn_mut x hx hxn fun k hk hmk => ⟨rfl,fun y hy => ⟨(q2 y (hk y hy).1).1,(hk y hy).2⟩,List.ne_nil_of_mem hmk,hT⟩
end Go.L1


set_option maxRecDepth 100000
namespace Go.L1
open Go Go.Proofs
def opC (name : List UInt8) (vx : Value) : List Value := [.int .i64 1,st name,.int .i64 0,st [],vx]
theorem opC_len (name : List UInt8) (vx : Value) : (opC name vx).length = 5 := rfl
structure OpsR (h : H) (ox : Value) (name : List UInt8) (O : List (List V)) (F : Nat → Prop) (vxs : List Value) : Prop where
  len : vxs.length = O.length
  rd : Rd h 5 ox O.length (vxs.flatMap (opC name)) F
  val : ∀ (k : Nat) (vx : Value) (vals : List V),vxs[k]? = some vx → O[k]? = some vals → Rd h 3 vx vals.length (vals.flatMap V.cs) F
theorem OpsR.frame {h h1 : H} {ox : Value} {name : List UInt8} {O : List (List V)} {F : Nat → Prop} {vxs : List Value} (r : OpsR h ox name O F vxs) (hn : h.n ≤ h1.n) (hf : ∀ b,b < h.n → F b → h1.get b = h.get b) : OpsR h1 ox name O F vxs :=
  ⟨r.len,r.rd.frame hn hf,fun k vx vals h1 h2 => (r.val k vx vals h1 h2).frame hn hf⟩
theorem OpsR.op {h : H} {ox : Value} {name : List UInt8} {O : List (List V)} {F : Nat → Prop} {vxs : List Value} (r : OpsR h ox name O F vxs) {k : Nat} {vx : Value} (hv : vxs[k]? = some vx) :
    ∃ b o,rIdxS 5 ox (.int .i64 (k : Int)) = some (pt b o) ∧ rLdA h.get 5 (pt b o) = some (opA 1 name 0 [] vx) := by
  have hk : k < O.length := by rw [← r.len]; exact (List.getElem?_eq_some_iff.1 hv).1
  obtain ⟨b,o,e,hb,hF,kk⟩ := r.rd.elt hk
  refine ⟨b,o,e,?_⟩
  rw [(kk h rfl).1]
  have := (flat_row (opC_len name) hv []).2
  rw [List.append_nil] at this
  rw [this]; rfl
def fz : Value := .agg #[.int .i64 0,.int .i64 0,st [],.int .i64 0,st []]
def idsC (n k : Nat) : List Value := (List.range k).map fun j => .int .i64 ((n + j : Nat) : Int)
theorem idsC_succ (n k : Nat) : idsC n (k + 1) = idsC n k ++ [.int .i64 ((n + k : Nat) : Int)] := by simp [idsC,List.range_succ]
theorem idsC_len (n k : Nat) : (idsC n k).length = k := by simp [idsC]
def newR (n : Nat) (O : List (List V)) : List Rw := (List.range O.length).map fun j => (n + j,(O[j]?).getD [])
theorem newR_snoc (n : Nat) (O : List (List V)) (vals : List V) : newR n (O ++ [vals]) = newR n O ++ [(n + O.length,vals)] := by
  unfold newR
  rw [List.length_append,List.length_singleton,List.range_succ,List.map_append]
  congr 1
  · apply List.map_congr_left
    intro j hj
    have hj := List.mem_range.1 hj
    rw [List.getElem?_append_left hj]
  · simp
theorem newR_len (n : Nat) (O : List (List V)) : (newR n O).length = O.length := by simp [newR]
theorem oB_f0 : oBuild pgB T_api_Fault [] = some fz := by
  show oBuild pgB T_api_Fault [] = some (.agg #[.int .i64 0,.int .i64 0,.string ⟨#[]⟩,.int .i64 0,.string ⟨#[]⟩])
  kernel_rfl
theorem oB_f5 : oBuild pgB T_api_Fault [(0,.int .i64 5)] = some (.agg #[.int .i64 5,.int .i64 0,st [],.int .i64 0,st []]) := by
  show oBuild pgB T_api_Fault [(0,.int .i64 5)] = some (.agg #[.int .i64 5,.int .i64 0,.string ⟨#[]⟩,.int .i64 0,.string ⟨#[]⟩])
  kernel_rfl
theorem set_same {α : Type} {l : List α} {i : Nat} {a : α} (h : l[i]? = some a) : l.set i a = l := by
  apply List.ext_getElem?
  intro j
  rw [List.getElem?_set]
  by_cases e : i = j
  · subst e; rw [if_pos rfl,if_pos (List.getElem?_eq_some_iff.1 h).1,h]
  · rw [if_neg e]
theorem c_bapply {h : H} {db mp : Nat} {sv : Value} {fs : List Fm} {tbs : List Nat} {A : List (List Rw × Nat)} {Ms Is : Nat → Nat → Prop} (r : DbR h db mp sv fs tbs A Ms Is) {i tb : Nat} {f : Fm} {R : List Rw} {n : Nat} {name : List UInt8}
    (hfi : fs.findIdx? (fun f => f.name == name) = some i) (ht : tbs[i]? = some tb) (hf : fs[i]? = some f) (hA : A[i]? = some (R,n)) {ox : Value} {O : List (List V)} {Fo : Nat → Prop} {vxs : List Value} (ro : OpsR h ox name O Fo vxs) (hvM : ∀ b,b < h.n → Fo b → ¬ Ms i b)
    (hO : ∀ vals ∈ O,vals.length = f.cols.length ∧ mayRow f.cols vals = true ∧ ∀ v ∈ vals,v.s.length < 1000) (hll : f.cols.length < 1000) (hn : n < 40000) (hR : R.length < 200) (hO1 : 1 ≤ O.length) (hO2 : O.length ≤ 40) :
    Rn (icP (.fn N_k25) [pt db 0,ox] h) fun r => ∃ x,r.1 = .tuple [x,fz].toArray ∧ (∀ x ∈ r.2.2,Ms i x ∧ x < h.n) ∧ Rd r.2.1 1 x O.length (idsC n O.length) (fun b => h.n ≤ b) ∧
      ∃ Ms' Is',DbR r.2.1 db mp sv fs tbs (A.set i (R ++ newR n O,n + O.length)) Ms' Is' ∧ (∀ j b,Ms' j b → Ms j b ∨ h.n ≤ b) ∧ (∀ j b,Is' j b → Is j b ∨ h.n ≤ b) := by
  refine Rn.up (fun _ => ic_k25 rfl _ _) ?_
  unfold F_k25
  have hi := (List.getElem?_eq_some_iff.1 hf).1
  have z1 : ((O.length : Int) == 0) = false := by simp; intro h; rw [h] at hO1; simp at hO1
  have z2 : decide ((O.length : Int) > 40) = false := by rw [decide_eq_false_iff_not]; omega
  have hol := ro.rd.len
  simp -implicitDefEqProofs only [↓jn3,↓wsD,wsP,Nat.reduceBEq,reduceCtorEq,logOf,Nat.reduceAdd,Nat.reduceLeDiff,Nat.reduceMul,co_slv,hol,z1,z2]
  generalize hh1 : h.push (.cells [.int .i64 0,.int .i64 0,.string ⟨#[]⟩,.int .i64 0,.string ⟨#[]⟩] T_api_Fault false) = h1
  have s1 : Sup h h1 := by rw [← hh1]; exact Sup.push _ _
  have n1 : h1.n = h.n + 1 := by rw [← hh1]; rfl
  have g1 : h1.get h.n = some (.cells [.int .i64 0,.int .i64 0,.string ⟨#[]⟩,.int .i64 0,.string ⟨#[]⟩] T_api_Fault false) := by rw [← hh1,H.get_push,if_pos rfl]
  refine Rn_ob (lw_cnt (fun x => Ms i x ∨ h.n ≤ x) O.length (fun k vs h' => h1.n ≤ h'.n ∧ (∀ b,b < h1.n → ¬ Ms i b → h'.get b = h1.get b) ∧
      (∃ Ms' Is' ob,DbR h' db mp sv fs tbs (A.set i (R ++ newR n (O.take k),n + k)) Ms' Is' ∧ (∀ j b,Ms' j b → Ms j b ∨ h1.n ≤ b) ∧ (∀ j b,Is' j b → Is j b ∨ h1.n ≤ b) ∧ own h' T_i64_b ob (idsC n k) ∧ (∀ b,ob = some b → h1.n ≤ b ∧ ∀ j,j < fs.length → ¬ Ms' j b ∧ ¬ Is' j b) ∧
        vs = [pt db 0,.slice none 0 0,pt h.n 0,slv ob k,ox,.int .i64 O.length,.int .i64 (k : Int)]))
    (fun ex vs h' => ex = .exit 0 ∧ h1.n ≤ h'.n ∧ (∀ b,b < h1.n → ¬ Ms i b → h'.get b = h1.get b) ∧
      (∃ Ms' Is' ob,DbR h' db mp sv fs tbs (A.set i (R ++ newR n O,n + O.length)) Ms' Is' ∧ (∀ j b,Ms' j b → Ms j b ∨ h1.n ≤ b) ∧ (∀ j b,Is' j b → Is j b ∨ h1.n ≤ b) ∧ own h' T_i64_b ob (idsC n O.length) ∧ (∀ b,ob = some b → h1.n ≤ b ∧ ∀ j,j < fs.length → ¬ Ms' j b ∧ ¬ Is' j b) ∧ nt vs 2 = pt h.n 0 ∧ nt vs 3 = slv ob O.length))
    (fun k vs h' hk hI => ?_) (fun vs h' hI => ?_) (Nat.zero_le _) ⟨Nat.le_refl _,fun b hb _ => rfl,Ms,Is,none,?_,fun j b h => .inl h,fun j b h => .inl h,rfl,by simp,rfl⟩) fun o ⟨hlo,q1,q2,q3,Ms',Is',ob,q4,q5,q6,q7,q8,q9,q10⟩ => ?_
  · obtain ⟨k1,k2,Ms',Is',ob,k3,k4,k5,k6,k7,rfl⟩ := hI
    obtain ⟨vx,hvx⟩ : ∃ p,vxs[k]? = some p := ⟨_,List.getElem?_eq_getElem (by rw [ro.len]; exact hk)⟩
    obtain ⟨vals,hvals⟩ : ∃ p,O[k]? = some p := ⟨_,List.getElem?_eq_getElem hk⟩
    have hOv := hO vals (List.mem_of_getElem? hvals)
    have roF : ∀ b,b < h.n → Fo b → h'.get b = h.get b := fun b hb hF => by rw [k2 b (by omega) (hvM b hb hF),s1.2 b hb]
    have ro' := ro.frame (h1 := h') (by omega) roF
    obtain ⟨b1,o1,e1,e2⟩ := ro'.op hvx
    obtain ⟨va,vc,hvv⟩ := (ro.val k vx vals hvx hvals).low
    subst hvv
    have hlt : decide ((k : Int) < O.length) = true := by rw [decide_eq_true_eq]; omega
    have w : IntKind.i64.wrap ((k : Int) + 1) = ((k + 1 : Nat) : Int) := by rw [wrapI (by omega) (by omega)]; rfl
    have co : cellsOf (opA 1 name 0 [] (.slice va vals.length vc)) = some [.int .i64 1,st name,.int .i64 0,st [],.slice va vals.length vc] := rfl
    have cof : Value.agg [Value.int .i64 1,st name,.int .i64 0,st [],.slice va vals.length vc].toArray = opA 1 name 0 [] (.slice va vals.length vc) := rfl
    have co5 : ([Value.int .i64 1,st name,.int .i64 0,st [],.slice va vals.length vc] : List Value).length = 5 := rfl
    unfold F_k25_L250
    simp -implicitDefEqProofs only [↓jn3,↓wsD,wsP,Nat.reduceBEq,reduceCtorEq,logOf,Nat.reduceAdd,Nat.reduceLeDiff,Nat.reduceMul,co_slv,hlt,e1,e2,co,cof]
    generalize hh2 : (h'.push (.cells [.int .i64 0,.string ⟨#[]⟩,.int .i64 0,.string ⟨#[]⟩,.slice none 0 0] T_api_Op false)).set h'.n (.cells [.int .i64 1,st name,.int .i64 0,st [],.slice va vals.length vc] T_api_Op false) = h2
    have s2 : Sup h' h2 := by rw [← hh2]; exact box_sup
    have n2 : h2.n = h'.n + 1 := by rw [← hh2]; rfl
    have g2 : h2.get h'.n = some (.cells [.int .i64 1,st name,.int .i64 0,st [],.slice va vals.length vc] T_api_Op false) := by rw [← hh2]; exact box_get
    have hAk : (A.set i (R ++ newR n (O.take k),n + k))[i]? = some (R ++ newR n (O.take k),n + k) := by
      rw [List.getElem?_set,if_pos rfl,if_pos (by rw [r.al]; exact hi)]
    have htl : (O.take k).length = k := by rw [List.length_take]; omega
    have hvM' : ∀ b,b < h.n → Fo b → ¬ Ms' i b := fun b hb hF hm => by
      rcases k4 i b hm with h | h
      · exact hvM b hb hF h
      · omega
    have rvk := ((ro.val k _ vals hvx hvals).frame (h1 := h') (by omega) roF).sup s2
    have rvk2 : Rd h2 3 (.slice va vals.length vc) vals.length (vals.flatMap V.cs) (fun b => Fo b ∧ b < h.n) := by
      obtain ⟨hl,a,c,hx,hh⟩ := (ro.val k _ vals hvx hvals)
      refine ⟨hl,a,c,hx,?_⟩
      rcases hh with ⟨h0,hb0⟩ | ⟨b,o,vs,ty,ro',ha,hb,hF,hg,hrest⟩
      · exact .inl ⟨h0,fun ad e => by have := hb0 ad e; have := s2.1; omega⟩
      · exact .inr ⟨b,o,vs,ty,ro',ha,by have := s2.1; omega,⟨hF,hb⟩,by rw [s2.2 b (by omega),roF b hb hF,hg],hrest⟩
    obtain ⟨⟨v3,h3,lg3⟩,e3,t1,t2,t2',t3⟩ := c_one_ins (k3.sup s2) hfi ht hf hAk 0 [] rvk2 (fun b hF => hvM' b hF.2 hF.1) hOv.2.2 hll (by omega) (by rw [List.length_append,newR_len,htl]; omega) hOv.1 hOv.2.1
    simp only at t1 t2 t2' t3
    subst t1
    have st3 := icP_stp _ _ _ _ _ _ e3
    have hle3 := st3.le
    have DB3 := (k3.sup s2).upd st3 ht hf (fun x hx => (t2 x hx).1) t3
    rw [List.set_set] at DB3
    have z3 : ((0 : Int) != 0) = false := rfl
    have z4 : ((1 : Int) == 1) = true := rfl
    have nb : ∀ b,b < h2.n → ¬ Ms' i b → h3.get b = h2.get b := fun b hb hm => st3.same b hb fun hx => hm (t2 b hx).1
    have hMlt : ∀ j b,j < fs.length → Ms' j b → b < h'.n := fun j b hj hm => (k3.own j b hj hm).1
    have hIlt : ∀ j b,j < fs.length → Is' j b → b < h'.n := fun j b hj hm => k3.iown j b hj hm
    have g3 : h3.get h'.n = some (.cells [.int .i64 1,st name,.int .i64 0,st [],.slice va vals.length vc] T_api_Op false) := by
      rw [nb h'.n (by omega) (fun hm => by have := hMlt i _ hi hm; omega),g2]
    simp -implicitDefEqProofs only [↓jn3,↓wsD,wsP,Nat.reduceBEq,reduceCtorEq,logOf,Nat.reduceAdd,Nat.reduceLeDiff,Nat.reduceMul,co_slv,e3,z3,g3,z4,bS_i]
    generalize hh4 : h3.push (.cells [.int .i64 ((n + k : Nat) : Int)] T_i64_b false) = h4
    have s4 : Sup h3 h4 := by rw [← hh4]; exact Sup.push _ _
    have n4 : h4.n = h3.n + 1 := by rw [← hh4]; rfl
    have g4 : h4.get h3.n = some (.cells [.int .i64 ((n + k : Nat) : Int)] T_i64_b false) := by rw [← hh4,H.get_push,if_pos rfl]
    have hsx : sliceCells h4.get 1 (some ⟨h3.n,0,none⟩) 1 = some [.int .i64 ((n + k : Nat) : Int)] := by rw [sliceCells_eq g4 (by simp)]; rfl
    have obk : ∀ b,ob = some b → b < h'.n := fun b e => by subst e; exact k6.1
    obtain ⟨⟨v5,h5,lg5⟩,e5,ob',p1,p2,p3,p4,p5⟩ := rApp_own (es := 1) (bytes := 8) (zero := [(.int .i64 0)]) (n := k) (m := 1) (xc := 1) (k6.frame (h1 := h4) (by have := s2.1; have := s4.1; omega) fun b e => by
      have := obk b e
      rw [s4.2 b (by omega),nb b (by omega) (k7 b e |>.2 i hi).1,s2.2 b this]) (by rw [idsC_len]; omega) (by omega) hsx rfl (by simp only [lim]; omega)
    simp only at p1 p2 p3 p4 p5
    subst p1
    have hle5 := p5.le
    simp -implicitDefEqProofs only [↓jn3,↓wsD,wsP,Nat.reduceBEq,reduceCtorEq,logOf,Nat.reduceAdd,Nat.reduceLeDiff,Nat.reduceMul,co_slv,e5,w]
    have s2n := s2.1
    have obn : ∀ b,ob' = some b → (ob = some b ∨ h4.n ≤ b) := fun b e => by
      rcases p3 with ⟨rfl,_⟩ | rfl
      · exact .inl e
      · cases e; exact .inr (Nat.le_refl _)
    have keep5 : ∀ b,b < h3.n → ob ≠ some b → h5.get b = h3.get b := fun b hb hne => by rw [p5.same b (by omega) (fun hm => hne (p4 b hm)),s4.2 b hb]
    have htk : O.take (k + 1) = O.take k ++ [vals] := by rw [List.take_add_one,hvals]; rfl
    have hnr : R ++ newR n (O.take (k + 1)) = R ++ newR n (O.take k) ++ [(n + k,vals)] := by rw [htk,newR_snoc,htl,List.append_assoc]
    refine Rn.ret ⟨fun x hx => ?_,.inl ⟨rfl,by show h1.n ≤ h5.n; omega,fun b hb hm => ?_,(fun j b => if j = i then (Ms' i b ∨ h2.n ≤ b) ∧ b < h3.n else Ms' j b),(fun j b => if j = i then (Is' i b ∨ h2.n ≤ b) ∧ b < h3.n else Is' j b),ob',?_,fun j b hm => ?_,fun j b hm => ?_,by rw [idsC_succ]; exact p2,fun b e => ⟨?_,fun j hj => ?_⟩,rfl⟩⟩
    · simp only [List.mem_append,List.mem_cons,List.not_mem_nil,or_false] at hx
      rcases hx with hx | hx | rfl
      · exact .inr (by have := (k7 x (p4 x hx)).1; omega)
      · rcases k4 i x (t2 x hx).1 with h | h
        · exact .inl h
        · exact .inr (by omega)
      · exact .inr (by omega)
    · show h5.get b = _
      rw [keep5 b (by omega) (fun e => by have := (k7 b e).1; omega),nb b (by omega) (fun hm' => (k4 i b hm').elim hm fun h => by omega),s2.2 b (by omega),k2 b hb hm]
    · rw [hnr]
      have hfin : n + (k + 1) = n + k + 1 := rfl
      rw [hfin]
      refine ⟨by have := DB3.l1; show db < h5.n; omega,by have := DB3.l2; show mp < h5.n; omega,?_,?_,DB3.tl,DB3.al,fun j tb' f' a h1' h2' h3' => (DB3.tab j tb' f' a h1' h2' h3').frame (by show h3.n ≤ h5.n; omega) fun b hb hmi => keep5 b hb fun e => ?_,DB3.dis,fun j b hj hm => ⟨by have := (DB3.own j b hj hm).1; show b < h5.n; omega,(DB3.own j b hj hm).2⟩,fun j b hj hm => by have := DB3.iown j b hj hm; show b < h5.n; omega⟩
      · show h5.get db = _
        rw [keep5 db DB3.l1 (fun e => by have := (k7 db e).1; have := r.l1; omega),DB3.cell]
      · show h5.get mp = _
        rw [keep5 mp DB3.l2 (fun e => by have := (k7 mp e).1; have := r.l2; omega),DB3.map]
      · have hj := (List.getElem?_eq_some_iff.1 h2').1
        have hob := k7 b e
        have hbl := obk b e
        rcases hmi with hmi | hmi
        · by_cases hji : j = i
          · simp only [hji,if_true] at hmi
            rcases hmi.1 with h | h
            · exact (hob.2 i hi).1 h
            · omega
          · simp only [hji,if_false] at hmi
            exact (hob.2 j hj).1 hmi
        · by_cases hji : j = i
          · simp only [hji,if_true] at hmi
            rcases hmi.1 with h | h
            · exact (hob.2 i hi).2 h
            · omega
          · simp only [hji,if_false] at hmi
            exact (hob.2 j hj).2 hmi
    · by_cases hji : j = i
      · simp only [hji,if_true] at hm
        subst hji
        rcases hm.1 with h | h
        · exact k4 j b h
        · exact .inr (by omega)
      · simp only [hji,if_false] at hm
        exact k4 j b hm
    · by_cases hji : j = i
      · simp only [hji,if_true] at hm
        subst hji
        rcases hm.1 with h | h
        · exact k5 j b h
        · exact .inr (by omega)
      · simp only [hji,if_false] at hm
        exact k5 j b hm
    · rcases obn b e with h | h
      · exact (k7 b h).1
      · omega
    · rcases obn b e with h | h
      · have hob := k7 b h
        have hbl := obk b h
        by_cases hji : j = i
        · simp only [hji,if_true]
          exact ⟨fun hm => hm.1.elim (hob.2 i hi).1 fun h => by omega,fun hm => hm.1.elim (hob.2 i hi).2 fun h => by omega⟩
        · simp only [hji,if_false]
          exact hob.2 j hj
      · by_cases hji : j = i
        · simp only [hji,if_true]
          exact ⟨fun hm => by have := hm.2; omega,fun hm => by have := hm.2; omega⟩
        · simp only [hji,if_false]
          exact ⟨fun hm => by have := hMlt j b hj hm; omega,fun hm => by have := hIlt j b hj hm; omega⟩
  · obtain ⟨k1,k2,Ms',Is',ob,k3,k4,k5,k6,k7,rfl⟩ := hI
    rw [List.take_length] at k3
    unfold F_k25_L250
    simp -implicitDefEqProofs only [↓jn3,↓wsD,wsP,Nat.reduceBEq,reduceCtorEq,logOf,Nat.reduceAdd,Nat.reduceLeDiff,Nat.reduceMul,co_slv,Int.lt_irrefl,decide_false]
    exact Rn.ret ⟨by simp,by simp,rfl,k1,k2,Ms',Is',ob,k3,k4,k5,k6,k7,rfl,rfl⟩
  · have : A.set i (R ++ newR n (O.take 0),n + 0) = A := by
      have : R ++ newR n (O.take 0) = R := by simp [newR]
      rw [this,Nat.add_zero]
      exact set_same hA
    rw [this]
    exact r.sup s1
  · obtain ⟨ex,vs,h2,lg⟩ := o
    simp only at hlo q1 q2 q3 q4 q7 q9 q10
    subst q1
    have g2 : h2.get h.n = some (.cells [.int .i64 0,.int .i64 0,.string ⟨#[]⟩,.int .i64 0,.string ⟨#[]⟩] T_api_Fault false) := by
      rw [q3 h.n (by omega) (fun hm => by have := (r.own i _ hi hm).1; omega),g1]
    have cf : cellsOf fz = some [.int .i64 0,.int .i64 0,st [],.int .i64 0,st []] := rfl
    have cff : Value.agg [Value.int .i64 0,.int .i64 0,st [],.int .i64 0,st []].toArray = fz := rfl
    simp -implicitDefEqProofs only [↓jn3,↓wsD,wsP,Nat.reduceBEq,reduceCtorEq,logOf,Nat.reduceAdd,Nat.reduceLeDiff,Nat.reduceMul,co_slv,wsF,q9,q10,oB_f0,cf,cff,g2,rsT_slv]
    generalize hh3 : h2.set h.n (.cells [.int .i64 0,.int .i64 0,st [],.int .i64 0,st []] T_api_Fault false) = h3
    have n3 : h3.n = h2.n := by rw [← hh3]; rfl
    have g3 : ∀ b,b ≠ h.n → h3.get b = h2.get b := fun b hb => by rw [← hh3,H.get_set,if_neg hb]
    obtain ⟨b0,rfl⟩ : ∃ b,ob = some b := by
      cases ob with
      | none =>
        have q7 : idsC n O.length = [] := q7
        have := idsC_len n O.length
        rw [q7] at this
        simp at this; omega
      | some b => exact ⟨b,rfl⟩
    have hb0 := (q8 b0 rfl).1
    have hbel : belowV h.n 4 (tupled [slv (some b0) O.length,fz]) = false := by
      simp [tupled,belowV,slv]; omega
    refine ⟨_,rfl,?_⟩
    simp only [settle,hbel,Bool.and_false,Bool.false_eq_true,if_false]
    refine ⟨slv (some b0) O.length,rfl,fun x hx => ?_,?_,Ms',Is',?_,fun j b hm => (q5 j b hm).imp (fun h => h) fun h => by omega,fun j b hm => (q6 j b hm).imp (fun h => h) fun h => by omega⟩
    · obtain ⟨hx1,hx2⟩ := List.mem_filter.1 hx
      have hx2 : x < h.n := by simpa using hx2
      refine ⟨?_,hx2⟩
      simp only [List.mem_append,List.mem_cons,List.not_mem_nil,or_false] at hx1
      rcases hx1 with rfl | hx1
      · omega
      · exact (hlo x hx1).resolve_right (by omega)
    · refine (q7.frame (h1 := h3) (by omega) fun b e => g3 b (by cases e; omega)).rd (by rw [idsC_len]; omega) (by omega) fun b e => by cases e; omega
    · refine ⟨by have := q4.l1; omega,by have := q4.l2; omega,by rw [g3 db (by have := r.l1; omega),q4.cell],by rw [g3 mp (by have := r.l2; omega),q4.map],q4.tl,q4.al,fun j tb' f' a h1' h2' h3' => (q4.tab j tb' f' a h1' h2' h3').frame (by omega) fun b hb hmi => g3 b fun e => ?_,q4.dis,fun j b hj hm => ⟨by have := (q4.own j b hj hm).1; omega,(q4.own j b hj hm).2⟩,fun j b hj hm => by have := q4.iown j b hj hm; omega⟩
      have hj := (List.getElem?_eq_some_iff.1 h2').1
      subst e
      rcases hmi with hm | hm
      · rcases q5 j _ hm with h | h
        · have := (r.own j _ hj h).1; omega
        · omega
      · rcases q6 j _ hm with h | h
        · have := r.iown j _ hj h; omega
        · omega
end Go.L1


set_option maxRecDepth 100000
namespace Go.L1
open Go Go.Proofs
theorem findIdx_none {α : Type} {l : List α} {q : α → Bool} (h : ∀ (i : Nat) (a : α),l[i]? = some a → q a = false) : l.findIdx? q = none := by
  rw [List.findIdx?_eq_none_iff]
  intro a ha
  obtain ⟨i,hi⟩ := List.getElem?_of_mem ha
  exact h i a hi
theorem findIdx_some {α : Type} {l : List α} {q : α → Bool} {i : Nat} {a : α} (ha : l[i]? = some a) (hq : q a = true) (h : ∀ (j : Nat) (b : α),j < i → l[j]? = some b → q b = false) : l.findIdx? q = some i := by
  obtain ⟨hi,rfl⟩ := List.getElem?_eq_some_iff.1 ha
  rw [List.findIdx?_eq_some_iff_getElem]
  exact ⟨hi,hq,fun j hj => by have := h j _ hj (List.getElem?_eq_getElem (by omega)); simp [this]⟩
theorem c_rfind {h : H} {sx : Value} {fs : List Fm} {F : Nat → Prop} (r : SchR h sx fs F) (hl : fs.length < 100) (name : List UInt8) :
    icP (.fn N_k41) [sx,st name] h = some (.int .i64 (ixV (fs.findIdx? fun f => f.name == name)),h,[]) := by
  refine Rn.eq (Rn.up (fun _ => ic_k41 rfl _ _) ?_)
  unfold F_k41
  have hsl : rLenL sx = some (.int .i64 fs.length) := by
    obtain ⟨ts,_,h2,_⟩ := r
    exact h2.len
  simp -implicitDefEqProofs only [↓jn3,↓wsD,wsP,Nat.reduceBEq,reduceCtorEq,logOf,Nat.reduceAdd,Nat.reduceLeDiff,Nat.reduceMul,co_slv]
  refine Rn_ob (lw_cnt (fun _ => False) fs.length (fun i vs h' => h' = h ∧ (∀ (j : Nat) (f : Fm),j < i → fs[j]? = some f → (f.name == name) = false) ∧ ∃ z,vs = [sx,st name,z,.int .i64 (i : Int)])
    (fun ex vs h' => h' = h ∧ ((ex = .exit 0 ∧ fs.findIdx? (fun f => f.name == name) = none) ∨ (ex = .ret ∧ ∃ i : Nat,nt vs 2 = .int .i64 i ∧ fs.findIdx? (fun f => f.name == name) = some i)))
    (fun i vs h' hi hI => ?_) (fun vs h' hI => ?_) (Nat.zero_le _) ⟨rfl,fun j f hj => absurd hj (Nat.not_lt_zero _),_,rfl⟩) fun o ⟨hlo,e1,hq⟩ => ?_
  · obtain ⟨rfl,hI,z,rfl⟩ := hI
    obtain ⟨f,hf⟩ : ∃ p,fs[i]? = some p := ⟨_,List.getElem?_eq_getElem hi⟩
    obtain ⟨b,o,cx,dx,e,_,_,kk,_,_⟩ := r.elt hf
    have hlt : decide ((i : Int) < fs.length) = true := by rw [decide_eq_true_eq]; omega
    have w : IntKind.i64.wrap ((i : Int) + 1) = ((i + 1 : Nat) : Int) := by rw [wrapI (by omega) (by omega)]; rfl
    have l0 := (kk h' rfl).1
    simp only [rLd1_u] at l0
    unfold F_k41_L58
    cases hn : f.name == name
    · have hs : (bl ⟨f.name.toArray⟩ == bl ⟨name.toArray⟩) = false := by rw [bl_st,bl_st]; exact hn
      simp -implicitDefEqProofs only [↓jn3,↓wsD,wsP,Nat.reduceBEq,reduceCtorEq,logOf,Nat.reduceAdd,Nat.reduceLeDiff,Nat.reduceMul,co_slv,hsl,hlt,e,l0,st,hs,w]
      refine Rn.ret ⟨by simp,.inl ⟨rfl,rfl,fun j f' hj hf' => ?_,_,rfl⟩⟩
      rcases Nat.lt_succ_iff_lt_or_eq.1 hj with h | rfl
      · exact hI j f' h hf'
      · rw [hf] at hf'; cases hf'; exact hn
    · have hs : (bl ⟨f.name.toArray⟩ == bl ⟨name.toArray⟩) = true := by rw [bl_st,bl_st]; exact hn
      simp -implicitDefEqProofs only [↓jn3,↓wsD,wsP,Nat.reduceBEq,reduceCtorEq,logOf,Nat.reduceAdd,Nat.reduceLeDiff,Nat.reduceMul,co_slv,hsl,hlt,e,l0,st,hs,w]
      exact Rn.ret ⟨by simp,.inr ⟨by simp,rfl,.inr ⟨rfl,i,rfl,findIdx_some hf hn hI⟩⟩⟩
  · obtain ⟨rfl,hI,z,rfl⟩ := hI
    unfold F_k41_L58
    simp -implicitDefEqProofs only [↓jn3,↓wsD,wsP,Nat.reduceBEq,reduceCtorEq,logOf,Nat.reduceAdd,Nat.reduceLeDiff,Nat.reduceMul,co_slv,hsl,Int.lt_irrefl,decide_false]
    refine Rn.ret ⟨by simp,by simp,rfl,.inl ⟨rfl,findIdx_none fun j f hf => hI j f (List.getElem?_eq_some_iff.1 hf).1 hf⟩⟩
  · obtain ⟨ex,vs,h1,lg⟩ := o
    simp only at hlo e1 hq
    subst e1
    have : lg = [] := List.eq_nil_iff_forall_not_mem.2 hlo
    subst this
    rcases hq with ⟨rfl,hz⟩ | ⟨rfl,i,hi,hz⟩
    · simp -implicitDefEqProofs only [↓jn3,↓wsD,wsP,Nat.reduceBEq,reduceCtorEq,logOf,Nat.reduceAdd,Nat.reduceLeDiff,Nat.reduceMul,co_slv,wsF,hz]
      exact Rn_low (by simp) rfl rfl
    · simp -implicitDefEqProofs only [↓jn3,↓wsD,wsP,Nat.reduceBEq,reduceCtorEq,logOf,Nat.reduceAdd,Nat.reduceLeDiff,Nat.reduceMul,co_slv,wsF,hz,hi]
      exact Rn_low (by simp) rfl rfl
theorem WR.bd {h : H} {wb : Nat} {fs : List Fm} {Rs : List (List Rw)} {Ns : List Nat} {M I : Nat → Prop} (r : WR h wb fs Rs Ns M I) : WR h wb fs Rs Ns (fun b => M b ∧ b < h.n) (fun b => I b ∧ b < h.n) := by
  obtain ⟨sx,rb,nb,rcap,ncap,xs,J,J',Fr,Fi,k⟩ := r
  exact ⟨sx,rb,nb,rcap,ncap,xs,J,J',Fr,Fi,k.lw,k.lr,k.ln,k.cell,k.sch,k.rows,k.nexts,k.xl,k.rl,k.nl,k.rr,fun i b hi hF => ⟨⟨(k.fr i b hi hF).1,(k.fr i b hi hF).2.1⟩,(k.fr i b hi hF).2⟩,k.dis,fun b hF => ⟨⟨(k.fi b hF).1,(k.fi b hF).2.1⟩,(k.fi b hF).2⟩,⟨k.mw,k.lw⟩,⟨k.mr,k.lr⟩,⟨k.mn,k.ln⟩,k.d1,k.d2,k.d3⟩
theorem WR.mono {h : H} {wb : Nat} {fs : List Fm} {Rs : List (List Rw)} {Ns : List Nat} {M I M' I' : Nat → Prop} (r : WR h wb fs Rs Ns M I) (hM : ∀ b,M b → M' b) (hI : ∀ b,I b → I' b) : WR h wb fs Rs Ns M' I' := by
  obtain ⟨sx,rb,nb,rcap,ncap,xs,J,J',Fr,Fi,k⟩ := r
  exact ⟨sx,rb,nb,rcap,ncap,xs,J,J',Fr,Fi,k.lw,k.lr,k.ln,k.cell,k.sch,k.rows,k.nexts,k.xl,k.rl,k.nl,k.rr,fun i b hi hF => ⟨hM _ (k.fr i b hi hF).1,(k.fr i b hi hF).2⟩,k.dis,fun b hF => ⟨hI _ (k.fi b hF).1,(k.fi b hF).2⟩,hM _ k.mw,hM _ k.mr,hM _ k.mn,k.d1,k.d2,k.d3⟩
theorem WR.sup {h h1 : H} {wb : Nat} {fs : List Fm} {Rs : List (List Rw)} {Ns : List Nat} {M I : Nat → Prop} (r : WR h wb fs Rs Ns M I) (s : Sup h h1) : WR h1 wb fs Rs Ns M I := r.frame s.1 fun b hb _ => s.2 b hb
theorem c_rone_ins {h : H} {wb : Nat} {fs : List Fm} {Rs : List (List Rw)} {Ns : List Nat} {M I : Nat → Prop} (r : WR h wb fs Rs Ns M I) (hMlt : ∀ b,M b → b < h.n) {i : Nat} {f : Fm} {R : List Rw} {N : Nat} {name : List UInt8} (hfi : fs.findIdx? (fun f => f.name == name) = some i) (hf : fs[i]? = some f) (hR : Rs[i]? = some R) (hN : Ns[i]? = some N)
    (id : Int) (col : List UInt8) {vx : Value} {vals : List V} {Fv : Nat → Prop} (rv : Rd h 3 vx vals.length (vals.flatMap V.cs) Fv) (hvM : ∀ b,Fv b → ¬ M b) (hsv : ∀ v ∈ vals,v.s.length < 1000) (hll : f.cols.length < 1000) (hfl : fs.length < 100) (hNl : N < 50000) (hRl : R.length < 50000) (hvl : vals.length = f.cols.length) (hm : mayRow f.cols vals = true) :
    Rn (icP (.fn N_k71) [pt wb 0,opA 1 name id col vx] h) fun r => r.1 = .tuple [.int .i64 (N : Int),.int .i64 0].toArray ∧ (∀ x ∈ r.2.2,M x ∧ x < h.n) ∧ r.2.2 ≠ [] ∧ WR r.2.1 wb fs (Rs.set i (R ++ [(N,vals)])) (Ns.set i (N + 1)) (fun b => M b ∨ h.n ≤ b) I := by
  refine Rn.up (fun _ => ic_k71 rfl _ _) ?_
  unfold F_k71
  obtain ⟨a,c,hvx⟩ := rv.low
  subst hvx
  have z1 : decide ((1 : Int) < 1) = false := rfl
  have z2 : decide ((1 : Int) > 3) = false := rfl
  have z3 : ((1 : Int) == 3) = false := rfl
  have z4 : ((1 : Int) == 1) = true := rfl
  have z5 : decide ((i : Int) < 0) = false := by simp
  simp -implicitDefEqProofs only [↓jn3,↓wsD,wsP,Nat.reduceBEq,reduceCtorEq,logOf,Nat.reduceAdd,Nat.reduceLeDiff,Nat.reduceMul,co_slv,aBx_op,z1,z2,z3]
  generalize hh1 : h.push (.cells [.int .i64 1,st name,.int .i64 id,st col,.slice a vals.length c] T_api_Op false) = h1
  have s1 : Sup h h1 := by rw [← hh1]; exact Sup.push _ _
  have n1 : h1.n = h.n + 1 := by rw [← hh1]; rfl
  have g1 : h1.get h.n = some (.cells [.int .i64 1,st name,.int .i64 id,st col,.slice a vals.length c] T_api_Op false) := by rw [← hh1,H.get_push,if_pos rfl]
  have r1 := r.sup s1
  have r' := r
  obtain ⟨sx,rb,nb,rcap,ncap,xs,J,J',Fr,Fi,k⟩ := r'
  have e1 := c_rfind (k.sch.frame s1.1 fun b hb _ => s1.2 b hb) hfl name
  rw [hfi] at e1
  simp only [ixV] at e1
  obtain ⟨⟨v2,h2,lg⟩,e2,hq⟩ := c_rins r1 hf hR hN (rv.sup s1) hvM hsv hll hNl hRl
  rcases hq with ⟨hc,_⟩ | ⟨_,hc,_⟩ | ⟨_,_,q1,q2,q2',q3⟩
  · exact absurd hvl hc
  · rw [hm] at hc; cases hc
  simp only at q1 q2 q2' q3
  subst q1
  have cell := k.cell
  simp -implicitDefEqProofs only [↓jn3,↓wsD,wsP,Nat.reduceBEq,reduceCtorEq,logOf,Nat.reduceAdd,Nat.reduceLeDiff,Nat.reduceMul,co_slv,wsF,hh1,g1,cell,Nat.ne_of_lt k.lw,e1,z5,z4,e2]
  obtain ⟨x,hx⟩ := List.exists_mem_of_ne_nil lg q2'
  have hxn := hMlt x (q2 x hx).1
  exact Rn_mut x hx hxn fun k hk hmk => ⟨rfl,fun y hy => ⟨(q2 y (hk y hy).1).1,(hk y hy).2⟩,List.ne_nil_of_mem hmk,q3.mono (fun b hb => hb.imp (fun h => h) fun h => by omega) fun _ h => h⟩
end Go.L1


set_option maxRecDepth 100000
namespace Go.L1
open Go Go.Proofs
theorem c_rapply {h : H} {wb : Nat} {fs : List Fm} {Rs : List (List Rw)} {Ns : List Nat} {M I : Nat → Prop} (r0 : WR h wb fs Rs Ns M I) {i : Nat} {f : Fm} {R : List Rw} {n : Nat} {name : List UInt8}
    (hfi : fs.findIdx? (fun f => f.name == name) = some i) (hf : fs[i]? = some f) (hR : Rs[i]? = some R) (hN : Ns[i]? = some n) {ox : Value} {O : List (List V)} {Fo : Nat → Prop} {vxs : List Value} (ro : OpsR h ox name O Fo vxs) (hvM : ∀ b,b < h.n → Fo b → ¬ M b)
    (hO : ∀ vals ∈ O,vals.length = f.cols.length ∧ mayRow f.cols vals = true ∧ ∀ v ∈ vals,v.s.length < 1000) (hll : f.cols.length < 1000) (hfl : fs.length < 100) (hn : n < 40000) (hRl : R.length < 200) (hO1 : 1 ≤ O.length) (hO2 : O.length ≤ 40) :
    Rn (icP (.fn N_k26) [pt wb 0,ox] h) fun r => ∃ x,r.1 = .tuple [x,fz].toArray ∧ (∀ x ∈ r.2.2,M x ∧ x < h.n) ∧ Rd r.2.1 1 x O.length (idsC n O.length) (fun b => h.n ≤ b) ∧
      WR r.2.1 wb fs (Rs.set i (R ++ newR n O)) (Ns.set i (n + O.length)) (fun b => M b ∨ h.n ≤ b) I := by
  refine Rn.up (fun _ => ic_k26 rfl _ _) ?_
  unfold F_k26
  have hi := (List.getElem?_eq_some_iff.1 hf).1
  have z1 : ((O.length : Int) == 0) = false := by simp; intro h; rw [h] at hO1; simp at hO1
  have z2 : decide ((O.length : Int) > 40) = false := by rw [decide_eq_false_iff_not]; omega
  have hol := ro.rd.len
  simp -implicitDefEqProofs only [↓jn3,↓wsD,wsP,Nat.reduceBEq,reduceCtorEq,logOf,Nat.reduceAdd,Nat.reduceLeDiff,Nat.reduceMul,co_slv,hol,z1,z2]
  generalize hh1 : h.push (.cells [.int .i64 0,.int .i64 0,.string ⟨#[]⟩,.int .i64 0,.string ⟨#[]⟩] T_api_Fault false) = h1
  have s1 : Sup h h1 := by rw [← hh1]; exact Sup.push _ _
  have n1 : h1.n = h.n + 1 := by rw [← hh1]; rfl
  have g1 : h1.get h.n = some (.cells [.int .i64 0,.int .i64 0,.string ⟨#[]⟩,.int .i64 0,.string ⟨#[]⟩] T_api_Fault false) := by rw [← hh1,H.get_push,if_pos rfl]
  have r := r0.bd
  have rl : Rs.length = fs.length := by obtain ⟨sx,rb,nb,rcap,ncap,xs,J,J',Fr,Fi,k⟩ := r0; exact k.rl
  have nl : Ns.length = fs.length := by obtain ⟨sx,rb,nb,rcap,ncap,xs,J,J',Fr,Fi,k⟩ := r0; exact k.nl
  refine Rn_ob (lw_cnt (fun x => (M x ∧ x < h.n) ∨ h.n ≤ x) O.length (fun k vs h' => h1.n ≤ h'.n ∧ (∀ b,b < h1.n → ¬ (M b ∧ b < h.n) → h'.get b = h1.get b) ∧
      (∃ M' ob,WR h' wb fs (Rs.set i (R ++ newR n (O.take k))) (Ns.set i (n + k)) M' (fun b => I b ∧ b < h.n) ∧ (∀ b,M' b → ((M b ∧ b < h.n) ∨ h1.n ≤ b) ∧ b < h'.n) ∧ own h' T_i64_b ob (idsC n k) ∧ (∀ b,ob = some b → h1.n ≤ b ∧ ¬ M' b) ∧
        vs = [pt wb 0,ox,.slice none 0 0,pt h.n 0,slv ob k,.int .i64 (k : Int)]))
    (fun ex vs h' => ex = .exit 0 ∧ h1.n ≤ h'.n ∧ (∀ b,b < h1.n → ¬ (M b ∧ b < h.n) → h'.get b = h1.get b) ∧
      (∃ M' ob,WR h' wb fs (Rs.set i (R ++ newR n O)) (Ns.set i (n + O.length)) M' (fun b => I b ∧ b < h.n) ∧ (∀ b,M' b → ((M b ∧ b < h.n) ∨ h1.n ≤ b) ∧ b < h'.n) ∧ own h' T_i64_b ob (idsC n O.length) ∧ (∀ b,ob = some b → h1.n ≤ b ∧ ¬ M' b) ∧ nt vs 3 = pt h.n 0 ∧ nt vs 4 = slv ob O.length))
    (fun k vs h' hk hI => ?_) (fun vs h' hI => ?_) (Nat.zero_le _) ⟨Nat.le_refl _,fun b hb _ => rfl,_,none,?_,fun b hb => ⟨.inl hb,by omega⟩,rfl,by simp,rfl⟩) fun o ⟨hlo,q1,q2,q3,M',ob,q4,q5,q7,q8,q9,q10⟩ => ?_
  · obtain ⟨k1,k2,M',ob,k3,k4,k6,k7,rfl⟩ := hI
    obtain ⟨vx,hvx⟩ : ∃ p,vxs[k]? = some p := ⟨_,List.getElem?_eq_getElem (by rw [ro.len]; exact hk)⟩
    obtain ⟨vals,hvals⟩ : ∃ p,O[k]? = some p := ⟨_,List.getElem?_eq_getElem hk⟩
    have hOv := hO vals (List.mem_of_getElem? hvals)
    have roF : ∀ b,b < h.n → Fo b → h'.get b = h.get b := fun b hb hF => by rw [k2 b (by omega) (fun hm => hvM b hb hF hm.1),s1.2 b hb]
    have ro' := ro.frame (h1 := h') (by omega) roF
    obtain ⟨b1,o1,e1,e2⟩ := ro'.op hvx
    obtain ⟨va,vc,hvv⟩ := (ro.val k vx vals hvx hvals).low
    subst hvv
    have hlt : decide ((k : Int) < O.length) = true := by rw [decide_eq_true_eq]; omega
    have w : IntKind.i64.wrap ((k : Int) + 1) = ((k + 1 : Nat) : Int) := by rw [wrapI (by omega) (by omega)]; rfl
    have co : cellsOf (opA 1 name 0 [] (.slice va vals.length vc)) = some [.int .i64 1,st name,.int .i64 0,st [],.slice va vals.length vc] := rfl
    have cof : Value.agg [Value.int .i64 1,st name,.int .i64 0,st [],.slice va vals.length vc].toArray = opA 1 name 0 [] (.slice va vals.length vc) := rfl
    unfold F_k26_L250
    simp -implicitDefEqProofs only [↓jn3,↓wsD,wsP,Nat.reduceBEq,reduceCtorEq,logOf,Nat.reduceAdd,Nat.reduceLeDiff,Nat.reduceMul,co_slv,hol,hlt,e1,e2,co,cof]
    generalize hh2 : (h'.push (.cells [.int .i64 0,.string ⟨#[]⟩,.int .i64 0,.string ⟨#[]⟩,.slice none 0 0] T_api_Op false)).set h'.n (.cells [.int .i64 1,st name,.int .i64 0,st [],.slice va vals.length vc] T_api_Op false) = h2
    have s2 : Sup h' h2 := by rw [← hh2]; exact box_sup
    have n2 : h2.n = h'.n + 1 := by rw [← hh2]; rfl
    have g2 : h2.get h'.n = some (.cells [.int .i64 1,st name,.int .i64 0,st [],.slice va vals.length vc] T_api_Op false) := by rw [← hh2]; exact box_get
    have hRk : (Rs.set i (R ++ newR n (O.take k)))[i]? = some (R ++ newR n (O.take k)) := by rw [List.getElem?_set,if_pos rfl,if_pos (by rw [rl]; exact hi)]
    have hNk : (Ns.set i (n + k))[i]? = some (n + k) := by rw [List.getElem?_set,if_pos rfl,if_pos (by rw [nl]; exact hi)]
    have htl : (O.take k).length = k := by rw [List.length_take]; omega
    have s2n := s2.1
    have rvk2 : Rd h2 3 (.slice va vals.length vc) vals.length (vals.flatMap V.cs) (fun b => Fo b ∧ b < h.n) := by
      obtain ⟨hl,a,c,hx,hh⟩ := (ro.val k _ vals hvx hvals)
      refine ⟨hl,a,c,hx,?_⟩
      rcases hh with ⟨h0,hb0⟩ | ⟨b,o,vs,ty,ro',ha,hb,hF,hg,hrest⟩
      · exact .inl ⟨h0,fun ad e => by have := hb0 ad e; omega⟩
      · exact .inr ⟨b,o,vs,ty,ro',ha,by omega,⟨hF,hb⟩,by rw [s2.2 b (by omega),roF b hb hF,hg],hrest⟩
    obtain ⟨⟨v3,h3,lg3⟩,e3,t1,t2,t2',t3⟩ := c_rone_ins (k3.sup s2) (fun b hm => by have := (k4 b hm).2; omega) hfi hf hRk hNk 0 [] rvk2 (fun b hF hm => by
      rcases (k4 b hm).1 with h | h
      · exact hvM b hF.2 hF.1 h.1
      · have := hF.2; omega) hOv.2.2 hll hfl (by omega) (by rw [List.length_append,newR_len,htl]; omega) hOv.1 hOv.2.1
    simp only at t1 t2 t2' t3
    subst t1
    have st3 := icP_stp _ _ _ _ _ _ e3
    have hle3 := st3.le
    rw [List.set_set,List.set_set] at t3
    have t3 := t3.bd
    have z3 : ((0 : Int) != 0) = false := rfl
    have z4 : ((1 : Int) == 1) = true := rfl
    have nb : ∀ b,b < h2.n → ¬ M' b → h3.get b = h2.get b := fun b hb hm => st3.same b hb fun hx => hm (t2 b hx).1
    have g3 : h3.get h'.n = some (.cells [.int .i64 1,st name,.int .i64 0,st [],.slice va vals.length vc] T_api_Op false) := by
      rw [nb h'.n (by omega) (fun hm => by have := (k4 _ hm).2; omega),g2]
    simp -implicitDefEqProofs only [↓jn3,↓wsD,wsP,Nat.reduceBEq,reduceCtorEq,logOf,Nat.reduceAdd,Nat.reduceLeDiff,Nat.reduceMul,co_slv,e3,z3,g3,z4,bS_i]
    generalize hh4 : h3.push (.cells [.int .i64 ((n + k : Nat) : Int)] T_i64_b false) = h4
    have s4 : Sup h3 h4 := by rw [← hh4]; exact Sup.push _ _
    have n4 : h4.n = h3.n + 1 := by rw [← hh4]; rfl
    have g4 : h4.get h3.n = some (.cells [.int .i64 ((n + k : Nat) : Int)] T_i64_b false) := by rw [← hh4,H.get_push,if_pos rfl]
    have hsx : sliceCells h4.get 1 (some ⟨h3.n,0,none⟩) 1 = some [.int .i64 ((n + k : Nat) : Int)] := by rw [sliceCells_eq g4 (by simp)]; rfl
    have obk : ∀ b,ob = some b → b < h'.n := fun b e => by subst e; exact k6.1
    have s4n := s4.1
    obtain ⟨⟨v5,h5,lg5⟩,e5,ob',p1,p2,p3,p4,p5⟩ := rApp_own (es := 1) (bytes := 8) (zero := [(.int .i64 0)]) (n := k) (m := 1) (xc := 1) (k6.frame (h1 := h4) (by omega) fun b e => by
      have := obk b e
      rw [s4.2 b (by omega),nb b (by omega) (k7 b e).2,s2.2 b this]) (by rw [idsC_len]; omega) (by omega) hsx rfl (by simp only [lim]; omega)
    simp only at p1 p2 p3 p4 p5
    subst p1
    have hle5 := p5.le
    simp -implicitDefEqProofs only [↓jn3,↓wsD,wsP,Nat.reduceBEq,reduceCtorEq,logOf,Nat.reduceAdd,Nat.reduceLeDiff,Nat.reduceMul,co_slv,e5,w]
    have obn : ∀ b,ob' = some b → (ob = some b ∨ h4.n ≤ b) := fun b e => by
      rcases p3 with ⟨rfl,_⟩ | rfl
      · exact .inl e
      · cases e; exact .inr (Nat.le_refl _)
    have keep5 : ∀ b,b < h3.n → ob ≠ some b → h5.get b = h3.get b := fun b hb hne => by rw [p5.same b (by omega) (fun hm => hne (p4 b hm)),s4.2 b hb]
    have htk : O.take (k + 1) = O.take k ++ [vals] := by rw [List.take_add_one,hvals]; rfl
    have hnr : R ++ newR n (O.take (k + 1)) = R ++ newR n (O.take k) ++ [(n + k,vals)] := by rw [htk,newR_snoc,htl,List.append_assoc]
    refine Rn.ret ⟨fun x hx => ?_,.inl ⟨rfl,by show h1.n ≤ h5.n; omega,fun b hb hm => ?_,(fun b => (M' b ∨ h2.n ≤ b) ∧ b < h3.n),ob',?_,fun b hm => ?_,by rw [idsC_succ]; exact p2,fun b e => ⟨?_,?_⟩,rfl⟩⟩
    · simp only [List.mem_append,List.mem_cons,List.not_mem_nil,or_false] at hx
      rcases hx with hx | hx | rfl
      · exact .inr (by have := (k7 x (p4 x hx)).1; omega)
      · rcases (k4 x (t2 x hx).1).1 with h | h
        · exact .inl h
        · exact .inr (by omega)
      · exact .inr (by omega)
    · show h5.get b = _
      rw [keep5 b (by omega) (fun e => by have := (k7 b e).1; omega),nb b (by omega) (fun hm' => (k4 b hm').1.elim hm fun h => by omega),s2.2 b (by omega),k2 b hb hm]
    · rw [hnr]
      have hfin : n + (k + 1) = n + k + 1 := rfl
      rw [hfin]
      refine ((t3.mono (fun b h => h) (fun b h => h.1)).frame (h1 := h5) (by show h3.n ≤ h5.n; omega) fun b hb hmi => keep5 b hb fun e => ?_)
      have hob := k7 b e
      have hbl := obk b e
      rcases hmi with hmi | hmi
      · rcases hmi.1 with h | h
        · exact hob.2 h
        · omega
      · have := hmi.2; omega
    · refine ⟨?_,by have := hm.2; show b < h5.n; omega⟩
      rcases hm.1 with h | h
      · exact (k4 b h).1
      · exact .inr (by omega)
    · rcases obn b e with h | h
      · exact (k7 b h).1
      · omega
    · rintro ⟨hm,hb3⟩
      rcases obn b e with h | h
      · rcases hm with hm | hm
        · exact (k7 b h).2 hm
        · have := obk b h; omega
      · omega
  · obtain ⟨k1,k2,M',ob,k3,k4,k6,k7,rfl⟩ := hI
    rw [List.take_length] at k3
    unfold F_k26_L250
    simp -implicitDefEqProofs only [↓jn3,↓wsD,wsP,Nat.reduceBEq,reduceCtorEq,logOf,Nat.reduceAdd,Nat.reduceLeDiff,Nat.reduceMul,co_slv,hol,Int.lt_irrefl,decide_false]
    exact Rn.ret ⟨by simp,by simp,rfl,k1,k2,M',ob,k3,k4,k6,k7,rfl,rfl⟩
  · have e1 : Rs.set i (R ++ newR n (O.take 0)) = Rs := by
      have : R ++ newR n (O.take 0) = R := by simp [newR]
      rw [this]; exact set_same hR
    rw [e1,Nat.add_zero,set_same hN]
    exact r.sup s1
  · obtain ⟨ex,vs,h2,lg⟩ := o
    simp only at hlo q1 q2 q3 q4 q5 q7 q9 q10
    subst q1
    have g2 : h2.get h.n = some (.cells [.int .i64 0,.int .i64 0,.string ⟨#[]⟩,.int .i64 0,.string ⟨#[]⟩] T_api_Fault false) := by
      rw [q3 h.n (by omega) (fun hm => by have := hm.2; omega),g1]
    have cf : cellsOf fz = some [.int .i64 0,.int .i64 0,st [],.int .i64 0,st []] := rfl
    have cff : Value.agg [Value.int .i64 0,.int .i64 0,st [],.int .i64 0,st []].toArray = fz := rfl
    simp -implicitDefEqProofs only [↓jn3,↓wsD,wsP,Nat.reduceBEq,reduceCtorEq,logOf,Nat.reduceAdd,Nat.reduceLeDiff,Nat.reduceMul,co_slv,wsF,q9,q10,oB_f0,cf,cff,g2,rsT_slv]
    generalize hh3 : h2.set h.n (.cells [.int .i64 0,.int .i64 0,st [],.int .i64 0,st []] T_api_Fault false) = h3
    have n3 : h3.n = h2.n := by rw [← hh3]; rfl
    have g3 : ∀ b,b ≠ h.n → h3.get b = h2.get b := fun b hb => by rw [← hh3,H.get_set,if_neg hb]
    obtain ⟨b0,rfl⟩ : ∃ b,ob = some b := by
      cases ob with
      | none =>
        have q7 : idsC n O.length = [] := q7
        have := idsC_len n O.length
        rw [q7] at this
        simp at this; omega
      | some b => exact ⟨b,rfl⟩
    have hb0 := (q8 b0 rfl).1
    have hbel : belowV h.n 4 (tupled [slv (some b0) O.length,fz]) = false := by
      simp [tupled,belowV,slv]; omega
    refine ⟨_,rfl,?_⟩
    simp only [settle,hbel,Bool.and_false,Bool.false_eq_true,if_false]
    refine ⟨slv (some b0) O.length,rfl,fun x hx => ?_,?_,?_⟩
    · obtain ⟨hx1,hx2⟩ := List.mem_filter.1 hx
      have hx2 : x < h.n := by simpa using hx2
      refine ⟨?_,hx2⟩
      simp only [List.mem_append,List.mem_cons,List.not_mem_nil,or_false] at hx1
      rcases hx1 with rfl | hx1
      · omega
      · exact ((hlo x hx1).resolve_right (by omega)).1
    · refine (q7.frame (h1 := h3) (by omega) fun b e => g3 b (by cases e; omega)).rd (by rw [idsC_len]; omega) (by omega) fun b e => by cases e; omega
    · refine (q4.frame (h1 := h3) (by omega) fun b hb hmi => g3 b fun e => ?_).mono (fun b hm => (q5 b hm).1.imp (fun h => h.1) fun h => by omega) fun b hi => hi.1
      subst e
      rcases hmi with hm | hm
      · rcases (q5 _ hm).1 with h | h
        · have := h.2; omega
        · omega
      · have := hm.2; omega
end Go.L1


set_option maxRecDepth 100000
namespace Go.L1
open Go Go.Proofs
def fV (e : Int) : Value := .agg #[.int .i64 e,.int .i64 0,st [],.int .i64 0,st []]
theorem aBx_fV (n : Nat) (e : Int) : aBx n T_api_Fault 5 (fV e) = some (pt n 0,.cells [.int .i64 e,.int .i64 0,.string ⟨#[]⟩,.int .i64 0,.string ⟨#[]⟩] T_api_Fault false) := rfl
theorem c_eqfault (e : Int) (h : H) : icP (.fn N_k27) [fV e,fV e] h = some (.bool true,h,[]) := by
  refine Rn.eq (Rn.up (fun _ => ic_k27 rfl _ _) ?_)
  unfold F_k27
  simp -implicitDefEqProofs only [↓jn3,↓wsD,wsP,Nat.reduceBEq,reduceCtorEq,logOf,Nat.reduceAdd,Nat.reduceLeDiff,Nat.reduceMul,co_slv,wsF,aBx_fV]
  exact Rn_low (by simp) rfl rfl
theorem c_rcompare (v : V) (h : H) : icP (.fn N_k105) [v.v,v.v] h = some (.int .i64 0,h,[]) := by
  refine Rn.eq (Rn.up (fun _ => ic_k105 rfl _ _) ?_)
  unfold F_k105
  have e1 : binV pgB.ty (tyD .string) .lss (st v.s) (st v.s) = some (.bool false) := by
    show some (Value.bool (bytesLess (bl ⟨v.s.toArray⟩) (bl ⟨v.s.toArray⟩))) = _
    rw [bl_irr]
  have e2 : binV pgB.ty (tyD .string) .eql (st v.s) (st v.s) = some (.bool true) := by
    show some (Value.bool (bl ⟨v.s.toArray⟩ == bl ⟨v.s.toArray⟩)) = _
    rw [beq_self_eq_true]
  simp -implicitDefEqProofs only [↓jn3,↓wsD,wsP,Nat.reduceBEq,reduceCtorEq,logOf,Nat.reduceAdd,Nat.reduceLeDiff,Nat.reduceMul,co_slv,wsF,Int.lt_irrefl,decide_false,e1,e2]
  exact Rn_low (by simp) rfl rfl
theorem Rd.cell1 {h : H} {x : Value} {n : Nat} {cs : List Value} {F : Nat → Prop} (r : Rd h 1 x n cs F) {i : Nat} {v : Value} (hv : cs[i]? = some v) :
    ∃ b o,rIdxS 1 x (.int .i64 (i : Int)) = some (pt b o) ∧ b < h.n ∧ F b ∧ rLd1 h.get (pt b o) = some v := by
  have hl : cs.length = n * 1 := r.1
  have hi : i < n := by have := (List.getElem?_eq_some_iff.1 hv).1; omega
  obtain ⟨b,o,e,hb,hF,k⟩ := r.elt hi
  refine ⟨b,o,e,hb,hF,?_⟩
  have := (k h rfl).2 0 (by omega)
  rw [Nat.add_zero] at this
  rw [this,Nat.mul_one,Nat.add_zero,hv]
theorem c_eqids {h : H} {x y : Value} {n0 n : Nat} {F G : Nat → Prop} (rx : Rd h 1 x n (idsC n0 n) F) (ry : Rd h 1 y n (idsC n0 n) G) (hn : n < 100000) : icP (.fn N_k28) [x,y] h = some (.bool true,h,[]) := by
  refine Rn.eq (Rn.up (fun _ => ic_k28 rfl _ _) ?_)
  unfold F_k28
  simp -implicitDefEqProofs only [↓jn3,↓wsD,wsP,Nat.reduceBEq,reduceCtorEq,logOf,Nat.reduceAdd,Nat.reduceLeDiff,Nat.reduceMul,co_slv,rx.len,ry.len,bne_self_eq_false]
  refine Rn_ob (lw_cnt (fun _ => False) n (fun i vs h' => h' = h ∧ vs = [x,y,.bool false,.int .i64 (i : Int)]) (fun ex vs h' => h' = h ∧ ex = .exit 0)
    (fun i vs h' hi hI => ?_) (fun vs h' hI => ?_) (Nat.zero_le _) ⟨rfl,rfl⟩) fun o ⟨hlo,e1,hq⟩ => ?_
  · obtain ⟨rfl,rfl⟩ := hI
    have hc : (idsC n0 n)[i]? = some (.int .i64 ((n0 + i : Nat) : Int)) := by simp [idsC,List.getElem?_range hi]
    obtain ⟨b,o,i1,_,_,l1⟩ := rx.cell1 hc
    obtain ⟨b',o',i2,_,_,l2⟩ := ry.cell1 hc
    have hlt : decide ((i : Int) < n) = true := by simpa using hi
    have hw : IntKind.i64.wrap ((i : Int) + 1) = ((i + 1 : Nat) : Int) := by rw [wrapI (by omega) (by omega)]; rfl
    unfold F_k28_L122
    simp -implicitDefEqProofs only [↓jn3,↓wsD,wsP,Nat.reduceBEq,reduceCtorEq,logOf,Nat.reduceAdd,Nat.reduceLeDiff,Nat.reduceMul,co_slv,rx.len,hlt,i1,i2,l1,l2,hw,bne_self_eq_false]
    exact Rn.ret ⟨fun _ h => by simp at h,.inl ⟨rfl,rfl,rfl⟩⟩
  · obtain ⟨rfl,rfl⟩ := hI
    unfold F_k28_L122
    simp -implicitDefEqProofs only [↓jn3,↓wsD,wsP,Nat.reduceBEq,reduceCtorEq,logOf,Nat.reduceAdd,Nat.reduceLeDiff,Nat.reduceMul,co_slv,rx.len,Int.lt_irrefl,decide_false]
    exact Rn.ret ⟨fun _ h => by simp at h,by simp,rfl,rfl⟩
  · obtain ⟨ex,vs,h1,lg⟩ := o
    simp only at hlo e1 hq
    subst e1 hq
    have : lg = [] := List.eq_nil_iff_forall_not_mem.2 hlo
    subst this
    simp -implicitDefEqProofs only [↓jn3,↓wsD,wsP,Nat.reduceBEq,reduceCtorEq,logOf,Nat.reduceAdd,Nat.reduceLeDiff,Nat.reduceMul,co_slv,wsF]
    exact Rn_low (by simp) rfl rfl
theorem c_rrow {h : H} {x y : Value} {vals : List V} {F G : Nat → Prop} (rx : Rd h 3 x vals.length (vals.flatMap V.cs) F) (ry : Rd h 3 y vals.length (vals.flatMap V.cs) G) (hn : vals.length < 100000) : icP (.fn N_k68) [x,y] h = some (.int .i64 0,h,[]) := by
  refine Rn.eq (Rn.up (fun _ => ic_k68 rfl _ _) ?_)
  unfold F_k68
  simp -implicitDefEqProofs only [↓jn3,↓wsD,wsP,Nat.reduceBEq,reduceCtorEq,logOf,Nat.reduceAdd,Nat.reduceLeDiff,Nat.reduceMul,co_slv]
  refine Rn_ob (lw_cnt (fun _ => False) vals.length (fun i vs h' => h' = h ∧ ∃ t,vs = x :: y :: .int .i64 0 :: .int .i64 (i : Int) :: t ∧ t.length = 4) (fun ex vs h' => h' = h ∧ ex = .exit 0 ∧ nt vs 0 = x ∧ nt vs 1 = y)
    (fun i vs h' hi hI => ?_) (fun vs h' hI => ?_) (Nat.zero_le _) ⟨rfl,_,rfl,rfl⟩) fun o ⟨hlo,e1,hq,hq0,hq1⟩ => ?_
  · obtain ⟨rfl,t,rfl,ht⟩ := hI
    obtain ⟨v,hv⟩ : ∃ p,vals[i]? = some p := ⟨_,List.getElem?_eq_getElem hi⟩
    obtain ⟨b,o,i1,_,_,l1⟩ := rx.val hv
    obtain ⟨b',o',i2,_,_,l2⟩ := ry.val hv
    have hlt : decide ((i : Int) < vals.length) = true := by simpa using hi
    have hw : IntKind.i64.wrap ((i : Int) + 1) = ((i + 1 : Nat) : Int) := by rw [wrapI (by omega) (by omega)]; rfl
    unfold F_k68_L58
    simp -implicitDefEqProofs only [↓jn3,↓wsD,wsP,Nat.reduceBEq,reduceCtorEq,logOf,Nat.reduceAdd,Nat.reduceLeDiff,Nat.reduceMul,co_slv,rx.len,ry.len,hlt,i1,i2,l1 _ rfl,l2 _ rfl,hw,c_rcompare]
    exact Rn.ret ⟨fun _ h => by simp at h,.inl ⟨rfl,rfl,_,rfl,rfl⟩⟩
  · obtain ⟨rfl,t,rfl,ht⟩ := hI
    unfold F_k68_L58
    simp -implicitDefEqProofs only [↓jn3,↓wsD,wsP,Nat.reduceBEq,reduceCtorEq,logOf,Nat.reduceAdd,Nat.reduceLeDiff,Nat.reduceMul,co_slv,rx.len,ry.len,Int.lt_irrefl,decide_false]
    exact Rn.ret ⟨fun _ h => by simp at h,by simp,rfl,rfl,rfl,rfl⟩
  · obtain ⟨ex,vs,h1,lg⟩ := o
    simp only at hlo e1 hq hq0 hq1
    subst e1 hq
    have : lg = [] := List.eq_nil_iff_forall_not_mem.2 hlo
    subst this
    simp -implicitDefEqProofs only [↓jn3,↓wsD,wsP,Nat.reduceBEq,reduceCtorEq,logOf,Nat.reduceAdd,Nat.reduceLeDiff,Nat.reduceMul,co_slv,wsF,hq0,hq1,rx.len,ry.len,Int.lt_irrefl,decide_false]
    exact Rn_low (by simp) rfl rfl
end Go.L1


set_option maxRecDepth 100000
namespace Go.L1
open Go Go.Proofs
theorem RowsC.rlen {h : H} {x : Value} {R : List Rw} {F : Nat → Prop} {ob : Option Nat} {L : List RwB} (r : RowsC h x R F ob L) : rLenL (slv ob L.length) = some (.int .i64 L.length) := rLenL_slv fun e => by
  have := r.own
  rw [e] at this
  have this : L.flatMap rc = [] := this
  have h2 := flat_len rc_len L
  rw [this] at h2
  simp at h2; omega
theorem RowsC.elt {h : H} {x : Value} {R : List Rw} {F : Nat → Prop} {ob : Option Nat} {L : List RwB} (r : RowsC h x R F ob L) {k : Nat} {w : RwB} (hw : L[k]? = some w) :
    ∃ b o,rIdxS 2 (slv ob L.length) (.int .i64 (k : Int)) = some (pt b o) ∧ b < h.n ∧ ∀ h' : H,h'.get b = h.get b → rLd1 h'.get (pt b o) = some (.int .i64 (w.id : Int)) ∧ rLd1 h'.get (pt b (o + 1)) = some (slv w.ob w.vals.length) := by
  have rd := r.own.rd (F := fun _ => True) (es := 2) (flat_len rc_len L) (by omega) fun b _ => trivial
  have hk := (List.getElem?_eq_some_iff.1 hw).1
  obtain ⟨b,o,e,hb,_,kk⟩ := rd.elt hk
  refine ⟨b,o,e,hb,fun h' hg => ?_⟩
  have hc := fun j hj => flat_cell (j := j) rc_len hw hj []
  simp only [List.append_nil] at hc
  have h0 := (kk h' hg).2 0 (by omega)
  rw [Nat.add_zero,hc 0 (by omega)] at h0
  exact ⟨h0,by rw [(kk h' hg).2 1 (by omega),hc 1 (by omega)]; rfl⟩
theorem c_rows {h : H} {db mp : Nat} {sv : Value} {fs : List Fm} {tbs : List Nat} {A : List (List Rw × Nat)} {Ms Is : Nat → Nat → Prop} (r : DbR h db mp sv fs tbs A Ms Is) {wb : Nat} {Rs : List (List Rw)} {Ns : List Nat} {M I : Nat → Prop} (w : WR h wb fs Rs Ns M I)
    {i tb : Nat} {f : Fm} {R : List Rw} {n : Nat} (hfi : fs.findIdx? (fun g => g.name == f.name) = some i) (ht : tbs[i]? = some tb) (hf : fs[i]? = some f) (hA : A[i]? = some (R,n)) (hR : Rs[i]? = some R) (hN : Ns[i]? = some n) (hRl : R.length < 1000) (hcl : f.cols.length < 1000) :
    icP (.fn N_k23) [pt db 0,pt wb 0,.int .i64 (i : Int),st f.name] h = some (.bool true,h,[]) := by
  refine Rn.eq (Rn.up (fun _ => ic_k23 rfl _ _ _ _) ?_)
  unfold F_k23
  have hi := (List.getElem?_eq_some_iff.1 hf).1
  obtain ⟨ls,S,T⟩ := r.tab i tb f (R,n) ht hf hA
  obtain ⟨sx,rb,nb,rcap,ncap,xs,J,J',Fr,Fi,k⟩ := w
  obtain ⟨x,hx⟩ : ∃ p,xs[i]? = some p := ⟨_,List.getElem?_eq_getElem (by rw [k.xl]; exact hi)⟩
  obtain ⟨ob,L,kr⟩ := k.rr i x R hx hR
  have hxe := kr.hx
  subst hxe
  have hL := kr.len
  have et := c_dbtable r f.name
  rw [hfi] at et
  simp only [Option.bind_some,ht,Option.map_some,Option.getD_some] at et
  obtain ⟨bm,e1,rb1⟩ := c_tlive T.tab
  have hn6 := T.tab.nlt
  have e2 := c_bcount rb1 (by have := T.sp.len; simp at this; omega) fun p hp => ⟨T.sp.can.2 p hp,by have := T.sp.le p hp; simp only at this; omega⟩
  rw [T.sp.rank _ (by show n ≤ 65536; omega),List.length_map] at e2
  have e3 := c_tnext T.tab
  have x1 := idx1 (b := rb) (c := rcap) hi
  have x2 := idx1 (b := nb) (c := ncap) hi
  have x3 : (xs ++ J)[i]? = some (slv ob L.length) := by rw [List.getElem?_append_left (by rw [k.xl]; exact hi),hx]
  have x4 : (Ns.map (fun n : Nat => Value.int .i64 (n : Int)) ++ J')[i]? = some (.int .i64 (n : Int)) := by
    rw [List.getElem?_append_left (by rw [List.length_map,k.nl]; exact hi),List.getElem?_map,hN]; rfl
  have hLR : ((R.length : Int) != (L.length : Int)) = false := by rw [hL]; exact bne_self_eq_false _
  simp only at e3
  simp -implicitDefEqProofs only [↓jn3,↓wsD,wsP,Nat.reduceBEq,reduceCtorEq,logOf,Nat.reduceAdd,Nat.reduceLeDiff,Nat.reduceMul,co_slv,et,e1,e2,e3,k.cell,x1,x2,k.rows,k.nexts,x3,x4,kr.rlen,hLR,bne_self_eq_false]
  refine Rn_ob (lw_cnt (fun x => h.n ≤ x) L.length (fun j vs h' => Sup h h' ∧ ∃ t,vs = pt wb 0 :: .int .i64 (i : Int) :: .bool false :: pt tb 0 :: .int .i64 (j : Int) :: t ∧ t.length = 14) (fun ex vs h' => ex = .exit 0)
    (fun j vs h' hj hI => ?_) (fun vs h' hI => ?_) (Nat.zero_le _) ⟨Sup.refl _,_,rfl,rfl⟩) fun o ⟨hlo,hq⟩ => ?_
  · obtain ⟨s,t,rfl,htl⟩ := hI
    obtain ⟨q,hq⟩ : ∃ p,L[j]? = some p := ⟨_,List.getElem?_eq_getElem hj⟩
    have hqL := List.mem_of_getElem? hq
    have hqR : (q.id,q.vals) ∈ R := by rw [← kr.map]; exact List.mem_map.2 ⟨q,hqL,rfl⟩
    have hrow := T.row _ hqR
    simp only at hrow
    have T' := T.tab.frame s.1 fun b hb _ => s.2 b hb
    obtain ⟨⟨v5,h5,lg5⟩,e5,p1,p2,x5,p3,p4⟩ := c_trow T' (id := q.id) (by rw [T.sp.has]; exact decide_eq_true (List.mem_map.2 ⟨_,hqR,rfl⟩)) (row := q.vals) (by rw [hrow.2,T.tab.ll]) (fun c l v hl hv => by
      have := T.val _ hqR c l hl
      simp only at this
      rw [this,hv]) (by rw [← T.tab.ll]; omega)
    simp only at p1 p2 p3 p4
    subst p1 p3
    have ho := (kr.vals q hqL).rd (F := fun _ => True) (es := 3) (flat_len V.cs_len q.vals) (by omega) fun b _ => trivial
    have ho5 := ho.sup (s.trans p2)
    have e6 := c_rrow p4 ho5 (by omega)
    obtain ⟨a5,c5,rfl⟩ := p4.low
    obtain ⟨b,o,i1,hb,kk⟩ := kr.elt hq
    have k1 := kk h' (s.2 b hb)
    have k2 := kk h5 ((s.trans p2).2 b hb)
    rw [rLd1_u] at k1 k2
    have hlt : decide ((j : Int) < L.length) = true := by simpa using hj
    have hw : IntKind.i64.wrap ((j : Int) + 1) = ((j + 1 : Nat) : Int) := by rw [wrapI (by omega) (by omega)]; rfl
    have c1 : h'.get wb = _ := (s.2 wb k.lw).trans k.cell
    have c2 : h5.get wb = _ := ((s.trans p2).2 wb k.lw).trans k.cell
    have c3 : h'.get rb = _ := (s.2 rb k.lr).trans k.rows
    have c4 : h5.get rb = _ := ((s.trans p2).2 rb k.lr).trans k.rows
    have k12 := k1.2
    have k22 := k2.2
    rw [rLd1_u] at k12 k22
    unfold F_k23_L250
    simp -implicitDefEqProofs only [↓jn3,↓wsD,wsP,Nat.reduceBEq,reduceCtorEq,logOf,Nat.reduceAdd,Nat.reduceLeDiff,Nat.reduceMul,co_slv,c1,c2,c3,c4,x1,x3,kr.rlen,hlt,i1,k1.1,k22,e5,e6,hw,bne_self_eq_false]
    refine Rn.ret ⟨fun _ h => by simp at h,.inl ⟨rfl,s.trans p2,_,rfl,rfl⟩⟩
  · obtain ⟨s,t,rfl,htl⟩ := hI
    have c1 : h'.get wb = _ := (s.2 wb k.lw).trans k.cell
    have c3 : h'.get rb = _ := (s.2 rb k.lr).trans k.rows
    unfold F_k23_L250
    simp -implicitDefEqProofs only [↓jn3,↓wsD,wsP,Nat.reduceBEq,reduceCtorEq,logOf,Nat.reduceAdd,Nat.reduceLeDiff,Nat.reduceMul,co_slv,c1,c3,x1,x3,kr.rlen,Int.lt_irrefl,decide_false]
    exact Rn.ret ⟨fun _ h => by simp at h,by simp,rfl⟩
  · obtain ⟨ex,vs,h1,lg⟩ := o
    simp only at hlo hq
    subst hq
    simp -implicitDefEqProofs only [↓jn3,↓wsD,wsP,Nat.reduceBEq,reduceCtorEq,logOf,Nat.reduceAdd,Nat.reduceLeDiff,Nat.reduceMul,co_slv,wsF]
    exact Rn_low (by simpa using hlo) rfl rfl
end Go.L1


set_option maxRecDepth 100000
namespace Go.L1
open Go Go.Proofs
theorem c_same {h : H} {db mp : Nat} {sv : Value} {fs : List Fm} {tbs : List Nat} {A : List (List Rw × Nat)} {Ms Is : Nat → Nat → Prop} (r : DbR h db mp sv fs tbs A Ms Is) {wb : Nat} {M I : Nat → Prop} (w : WR h wb fs (A.map Prod.fst) (A.map Prod.snd) M I)
    (hd : ∀ (i : Nat) (f : Fm),fs[i]? = some f → fs.findIdx? (fun g => g.name == f.name) = some i) (hRl : ∀ a ∈ A,a.1.length < 1000) (hcl : ∀ f ∈ fs,f.cols.length < 1000) (hfl : fs.length < 1000) :
    icP (.fn N_k29) [pt db 0,pt wb 0] h = some (.bool true,h,[]) := by
  refine Rn.eq (Rn.up (fun _ => ic_k29 rfl _ _) ?_)
  unfold F_k29
  have hrows : ∀ (i : Nat) (f : Fm),fs[i]? = some f → icP (.fn N_k23) [pt db 0,pt wb 0,.int .i64 (i : Int),st f.name] h = some (.bool true,h,[]) := fun i f hf => by
    have hi := (List.getElem?_eq_some_iff.1 hf).1
    obtain ⟨tb,ht⟩ : ∃ p,tbs[i]? = some p := ⟨_,List.getElem?_eq_getElem (by rw [r.tl]; exact hi)⟩
    obtain ⟨⟨R,n⟩,hA⟩ : ∃ p,A[i]? = some p := ⟨_,List.getElem?_eq_getElem (by rw [r.al]; exact hi)⟩
    exact c_rows r w (hd i f hf) ht hf hA (by rw [List.getElem?_map,hA]; rfl) (by rw [List.getElem?_map,hA]; rfl) (hRl _ (List.mem_of_getElem? hA)) (hcl _ (List.mem_of_getElem? hf))
  obtain ⟨sx,rb,nb,rcap,ncap,xs,J,J',Fr,Fi,k⟩ := w
  have hsl : rLenL sx = some (.int .i64 fs.length) := by
    obtain ⟨ts,_,h2,_⟩ := k.sch
    exact h2.len
  simp -implicitDefEqProofs only [↓jn3,↓wsD,wsP,Nat.reduceBEq,reduceCtorEq,logOf,Nat.reduceAdd,Nat.reduceLeDiff,Nat.reduceMul,co_slv]
  refine Rn_ob (lw_cnt (fun _ => False) fs.length (fun j vs h' => h' = h ∧ vs = [pt db 0,pt wb 0,.bool false,.int .i64 (j : Int)]) (fun ex vs h' => h' = h ∧ ex = .exit 0)
    (fun j vs h' hj hI => ?_) (fun vs h' hI => ?_) (Nat.zero_le _) ⟨rfl,rfl⟩) fun o ⟨hlo,e1,hq⟩ => ?_
  · obtain ⟨rfl,rfl⟩ := hI
    obtain ⟨f,hf⟩ : ∃ p,fs[j]? = some p := ⟨_,List.getElem?_eq_getElem hj⟩
    obtain ⟨b,o,cx,dx,i1,hb,_,kk,_⟩ := k.sch.elt hf
    have k1 := (kk h' rfl).1
    rw [rLd1_u] at k1
    have hlt : decide ((j : Int) < fs.length) = true := by simpa using hj
    have hw : IntKind.i64.wrap ((j : Int) + 1) = ((j + 1 : Nat) : Int) := by rw [wrapI (by omega) (by omega)]; rfl
    unfold F_k29_L58
    simp -implicitDefEqProofs only [↓jn3,↓wsD,wsP,Nat.reduceBEq,reduceCtorEq,logOf,Nat.reduceAdd,Nat.reduceLeDiff,Nat.reduceMul,co_slv,k.cell,hsl,hlt,i1,k1,hrows j f hf,hw]
    exact Rn.ret ⟨fun _ h => by simp at h,.inl ⟨rfl,rfl,rfl⟩⟩
  · obtain ⟨rfl,rfl⟩ := hI
    unfold F_k29_L58
    simp -implicitDefEqProofs only [↓jn3,↓wsD,wsP,Nat.reduceBEq,reduceCtorEq,logOf,Nat.reduceAdd,Nat.reduceLeDiff,Nat.reduceMul,co_slv,k.cell,hsl,Int.lt_irrefl,decide_false]
    exact Rn.ret ⟨fun _ h => by simp at h,by simp,rfl,rfl⟩
  · obtain ⟨ex,vs,h1,lg⟩ := o
    simp only at hlo e1 hq
    subst e1 hq
    have : lg = [] := List.eq_nil_iff_forall_not_mem.2 hlo
    subst this
    simp -implicitDefEqProofs only [↓jn3,↓wsD,wsP,Nat.reduceBEq,reduceCtorEq,logOf,Nat.reduceAdd,Nat.reduceLeDiff,Nat.reduceMul,co_slv,wsF]
    exact Rn_low (by simp) rfl rfl
end Go.L1


set_option maxRecDepth 100000
namespace Go.L1
open Go Go.Proofs
theorem oB_f5' : oBuild pgB T_api_Fault [(0,.int .i64 5)] = some (fV 5) := oB_f5
theorem co_fV (e : Int) : cellsOf (fV e) = some [.int .i64 e,.int .i64 0,st [],.int .i64 0,st []] := rfl
theorem ag_fV (e : Int) : Value.agg [Value.int .i64 e,.int .i64 0,st [],.int .i64 0,st []].toArray = fV e := rfl
theorem z00 : (((0 : Nat) : Int) == 0) = true := rfl
theorem c_bapply0 {h : H} {d : Value} {a : Option Addr} {n c : Nat} (hn : n = 0 ∨ 40 < n) : icP (.fn N_k25) [d,.slice a n c] h = some (.tuple [.slice none 0 0,fV 5].toArray,h,[]) := by
  refine Rn.eq (Rn.up (fun _ => ic_k25 rfl _ _) ?_)
  unfold F_k25
  rcases hn with rfl | hn
  · simp -implicitDefEqProofs only [↓jn3,↓wsD,wsP,Nat.reduceBEq,reduceCtorEq,logOf,Nat.reduceAdd,Nat.reduceLeDiff,Nat.reduceMul,co_slv,wsF,oB_f5',co_fV,ag_fV,z00]
    exact Rn_low (by simp) rfl rfl
  · have z1 : ((n : Int) == 0) = false := by simp; omega
    have z2 : decide ((n : Int) > 40) = true := by rw [decide_eq_true_eq]; omega
    simp -implicitDefEqProofs only [↓jn3,↓wsD,wsP,Nat.reduceBEq,reduceCtorEq,logOf,Nat.reduceAdd,Nat.reduceLeDiff,Nat.reduceMul,co_slv,wsF,oB_f5',co_fV,ag_fV,z1,z2]
    exact Rn_low (by simp) rfl rfl
theorem c_rapply0 {h : H} {d : Value} {a : Option Addr} {n c : Nat} (hn : n = 0 ∨ 40 < n) : icP (.fn N_k26) [d,.slice a n c] h = some (.tuple [.slice none 0 0,fV 5].toArray,h,[]) := by
  refine Rn.eq (Rn.up (fun _ => ic_k26 rfl _ _) ?_)
  unfold F_k26
  rcases hn with rfl | hn
  · simp -implicitDefEqProofs only [↓jn3,↓wsD,wsP,Nat.reduceBEq,reduceCtorEq,logOf,Nat.reduceAdd,Nat.reduceLeDiff,Nat.reduceMul,co_slv,wsF,oB_f5',co_fV,ag_fV,z00]
    exact Rn_low (by simp) rfl rfl
  · have z1 : ((n : Int) == 0) = false := by simp; omega
    have z2 : decide ((n : Int) > 40) = true := by rw [decide_eq_true_eq]; omega
    simp -implicitDefEqProofs only [↓jn3,↓wsD,wsP,Nat.reduceBEq,reduceCtorEq,logOf,Nat.reduceAdd,Nat.reduceLeDiff,Nat.reduceMul,co_slv,wsF,oB_f5',co_fV,ag_fV,z1,z2]
    exact Rn_low (by simp) rfl rfl
end Go.L1


set_option maxRecDepth 100000
namespace Go.L1
open Go Go.Proofs
theorem Rd_full {h : H} {es b n c : Nat} {cs : List Value} {ty : Nat} {ro : Bool} {F : Nat → Prop} (hg : h.get b = some (.cells cs ty ro)) (hl : cs.length = n * es) (hb : b < h.n) (hF : F b) : Rd h es (.slice (some ⟨b,0,none⟩) n c) n cs F :=
  ⟨hl,_,_,rfl,.inr ⟨b,0,_,_,_,rfl,hb,hF,hg,by omega,by rw [List.drop_zero,← hl,List.take_length]⟩⟩
theorem Rd_nil {h : H} {es c : Nat} {F : Nat → Prop} : Rd h es (.slice none 0 c) 0 [] F := ⟨by simp,_,_,rfl,.inl ⟨rfl,by simp⟩⟩
theorem dep0 {h : H} {F : Nat → Prop} {c : Nat} : DepR h (.slice none 0 c) [] F := ⟨[],rfl,Rd_nil,fun i v d hv => by simp at hv⟩
theorem dep1 {h : H} {F : Nat → Prop} {b b2 c c2 ty ty2 : Nat} {ro ro2 : Bool} {l : List (List UInt8)} {t : List UInt8} (g1 : h.get b = some (.cells [.slice (some ⟨b2,0,none⟩) l.length c2,st t] ty ro)) (g2 : h.get b2 = some (.cells (l.map st) ty2 ro2)) (h1 : b < h.n) (h2 : b2 < h.n) (hF : F b) (hF2 : F b2) :
    DepR h (.slice (some ⟨b,0,none⟩) 1 c) [(l,t)] F := by
  refine ⟨[.slice (some ⟨b2,0,none⟩) l.length c2],rfl,Rd_full g1 rfl h1 hF,fun i v d hv hd => ?_⟩
  obtain rfl : i = 0 := by have := (List.getElem?_eq_some_iff.1 hv).1; simp at this; omega
  simp only [List.getElem?_cons_zero,Option.some.injEq] at hv hd
  subst hv hd
  exact Rd_full g2 (by simp) h2 hF2
theorem col0 {h : H} {cb : Nat} {kd : Int} {F : Nat → Prop} (hc : cb < h.n) (hF : F cb) (hg : h.get cb = some (.cells [.int .i64 kd,.slice none 0 0,.pointer none,.int .i64 0] T_column_Column false)) : ColR h cb kd [] F :=
  ⟨[],⟨hc,hF,by simp,none,.pointer none,0,fun _ => False,hg,rfl,by simp,id,fun b hb => hb.elim,.inl ⟨rfl,rfl⟩⟩,List.Pairwise.nil,fun s n => by simp [cnt]⟩
theorem tab0 {h : H} {f : Fm} {N tb cb pb cc pc t1 t2 : Nat} {r1 r2 : Bool} {cps ds : List Nat} {fd : Value} (hn : N + 189 ≤ h.n)
    (g1 : h.get (N + tb) = some (.cells [st f.name,.slice (some ⟨N + cb,0,none⟩) f.cols.length cc,st f.key,fd,.slice (some ⟨N + pb,0,none⟩) cps.length pc,.slice none 0 0,.int .i64 0] T_table_Table false))
    (g2 : h.get (N + cb) = some (.cells (f.cols.flatMap cf) t1 r1)) (g3 : h.get (N + pb) = some (.cells ((cps.map (N + ·)).map fun b => pt b 0) t2 r2))
    (gc : ∀ (i : Nat) (c : ColF) (p : Nat),f.cols[i]? = some c → cps[i]? = some p → h.get (N + p) = some (.cells [.int .i64 c.kind,.slice none 0 0,.pointer none,.int .i64 0] T_column_Column false))
    (gd : DepR h fd f.deps (fun b => ∃ x ∈ cb :: pb :: ds,b = N + x)) (hl : cps.length = f.cols.length)
    (hlt : ∀ x ∈ tb :: cps ++ cb :: pb :: ds,x < 189) (hd1 : ∀ x ∈ tb :: cps,x ∉ cb :: pb :: ds) (hd2 : tb ∉ cps) (hd3 : cps.Nodup) :
    TabA h (N + tb) f [] 0 (fun b => ∃ x ∈ tb :: cps,b = N + x) (fun b => ∃ x ∈ cb :: pb :: ds,b = N + x) := by
  have lt : ∀ {x},x ∈ tb :: cps ++ cb :: pb :: ds → N + x < h.n := fun hx => by have := hlt _ hx; omega
  refine ⟨f.cols.map fun _ => [],[],⟨lt (by simp),⟨tb,by simp,rfl⟩,by omega,fun l hl => ?_,by simp,?_⟩,SpOk.nil,List.Pairwise.nil,by simp,by simp,fun id hid => by omega⟩
  · obtain ⟨_,_,rfl⟩ := List.mem_map.1 hl
    rfl
  · refine ⟨.slice (some ⟨N + cb,0,none⟩) f.cols.length cc,fd,.slice (some ⟨N + pb,0,none⟩) cps.length pc,.slice none 0 0,cps.map (N + ·),fun i b => (cps.map (N + ·))[i]? = some b,fun b => ∃ x ∈ cb :: pb :: ds,b = N + x,?_⟩
    refine ⟨g1,Rd_full g2 (flat_len cf_len _) (lt (by simp)) ⟨cb,by simp,rfl⟩,gd,?_,Rd_nil,⟨by simpa using hl,by simp,fun i p l c hp hl' hc => ?_,fun i b hi hb => ?_,fun i j b hi hj hne h1 h2 => ?_⟩,fun i b hi hb => ?_,fun b hb => ⟨hb,?_,?_⟩⟩
    · rw [List.length_map]
      exact Rd_full g3 (by simp) (lt (by simp)) ⟨pb,by simp,rfl⟩
    · rw [List.getElem?_map,Option.map_eq_some_iff] at hp hl'
      obtain ⟨x,hx,rfl⟩ := hp
      obtain ⟨_,_,rfl⟩ := hl'
      exact col0 (lt (by simp [List.mem_of_getElem? hx])) (by rw [List.getElem?_map,hx]; rfl) (gc i c x hc hx)
    · rw [List.getElem?_map,Option.map_eq_some_iff] at hb
      obtain ⟨x,hx,rfl⟩ := hb
      exact lt (by simp [List.mem_of_getElem? hx])
    · rw [List.getElem?_map,Option.map_eq_some_iff] at h1 h2
      obtain ⟨x,hx,rfl⟩ := h1
      obtain ⟨y,hy,e⟩ := h2
      have : x = y := by omega
      subst this
      exact hne ((List.getElem?_inj (List.getElem?_eq_some_iff.1 hx).1 hd3).1 (by rw [hx,hy]))
    · rw [List.getElem?_map,Option.map_eq_some_iff] at hb
      obtain ⟨x,hx,rfl⟩ := hb
      have hm := List.mem_of_getElem? hx
      refine ⟨⟨x, by simp [hm], rfl⟩, fun e => hd2 (by have : x = tb := by omega
                                                       rw [← this]; exact hm),?_⟩
      rintro ⟨y,hy,e⟩
      have : x = y := by omega
      subst this
      exact hd1 x (by simp [hm]) hy
    · rintro rfl
      obtain ⟨y,hy,e⟩ := hb
      have : tb = y := by omega
      subst this
      exact hd1 tb (by simp) hy
    · obtain ⟨y,hy,rfl⟩ := hb
      exact lt (by simp only [List.mem_append]; exact .inr hy)
end Go.L1


set_option maxRecDepth 100000
namespace Go.L1
open Go Go.Proofs
theorem DbR.frame {h h1 : H} {db mp : Nat} {sv : Value} {fs : List Fm} {tbs : List Nat} {A : List (List Rw × Nat)} {Ms Is : Nat → Nat → Prop} (r : DbR h db mp sv fs tbs A Ms Is) (hn : h.n ≤ h1.n) (hf : ∀ b,b < h.n → (b = db ∨ b = mp ∨ ∃ i,i < fs.length ∧ (Ms i b ∨ Is i b)) → h1.get b = h.get b) : DbR h1 db mp sv fs tbs A Ms Is := by
  obtain ⟨l1,l2,cell,map,tl,al,tab,dis,own,iown⟩ := r
  exact ⟨by omega,by omega,by rw [hf _ l1 (.inl rfl),cell],by rw [hf _ l2 (.inr (.inl rfl)),map],tl,al,fun i tb f a ht hf' ha => (tab i tb f a ht hf' ha).frame hn fun b hb hm => hf b hb (.inr (.inr ⟨i,(List.getElem?_eq_some_iff.1 hf').1,hm⟩)),dis,
    fun i b hi hb => by have := own i b hi hb; exact ⟨by omega,this.2⟩,fun i b hi hb => by have := iown i b hi hb; omega⟩
def tId : List UInt8 := [105,100]
def tLand : List UInt8 := [108,97,110,100]
def tShop : List UInt8 := [115,104,111,112]
def tDay : List UInt8 := [100,97,121]
def tSale : List UInt8 := [115,97,108,101]
def tCity : List UInt8 := [99,105,116,121]
def tZone : List UInt8 := [122,111,110,101]
def tMonth : List UInt8 := [109,111,110,116,104]
def tYear : List UInt8 := [121,101,97,114]
def fLand : Fm := ⟨tLand,[⟨tId,1,true,[]⟩,⟨[110,97,109,101],2,false,[]⟩],tId,[]⟩
def fShop : Fm := ⟨tShop,[⟨tId,1,true,[]⟩,⟨tCity,2,true,[]⟩,⟨tZone,2,false,[]⟩,⟨tLand,1,false,tLand⟩],tId,[([tCity],tZone)]⟩
def fDay : Fm := ⟨tDay,[⟨[100],2,true,[]⟩,⟨tMonth,1,true,[]⟩,⟨tYear,1,false,[]⟩],[100],[([tMonth],tYear)]⟩
def fSale : Fm := ⟨tSale,[⟨tShop,1,false,tShop⟩,⟨tDay,2,false,tDay⟩,⟨[110],1,false,[]⟩,⟨[116,97,103],2,false,[]⟩],[],[]⟩
def fsS : List Fm := [fLand,fShop,fDay,fSale]
def msL (i : Nat) : List Nat := ([[29,31,35],[72,74,78,82,86],[123,125,129,133],[162,164,168,172,176]][i]?).getD []
def isL (i : Nat) : List Nat := ([[26,37],[65,88,67,69],[116,135,118,120],[159,178]][i]?).getD []
def wmL : List Nat := [3,186,188]
def wiL : List Nat := [184,41,92,7,6,139,10,9,182]
def inL (N : Nat) (l : List Nat) (b : Nat) : Prop := ∃ x ∈ l,b = N + x
def starH (h : H) : H := pushAll h (starO.map (renO (h.n + ·)))
theorem starH_n (h : H) : (starH h).n = h.n + 189 := by
  unfold starH
  rw [pushAll_n,List.length_map]
  exact congrArg (h.n + ·) (show starO.length = 189 by kernel_rfl)
theorem starH_sup (h : H) : Sup h (starH h) := ⟨by rw [starH_n]; omega,fun b hb => by unfold starH; rw [pushAll_get,if_pos hb]⟩
theorem starH_get (h : H) (i : Nat) {o : IObj} (ho : starO[i]? = some o) : (starH h).get (h.n + i) = some (renO (h.n + ·) o) := by
  unfold starH
  rw [pushAll_get,if_neg (by omega),Nat.add_sub_cancel_left,List.getElem?_map,ho]; rfl
theorem c_star (h : H) : icP (.fn N_k12) [] h = some (.tuple [pt (h.n + 2) 0,pt (h.n + 3) 0].toArray,starH h,[]) := ic_spec (s := knownS starO starV) rfl rfl
theorem tLandR (h : H) : TabA (starH h) (h.n + 29) fLand [] 0 (inL h.n (msL 0)) (inL h.n (isL 0)) :=
  tab0 (cb := 26) (pb := 37) (cps := [31,35]) (ds := []) (by rw [starH_n]; omega) (starH_get h 29 rfl) (starH_get h 26 rfl) (starH_get h 37 rfl)
    (fun i c p hc hp => match i,hc,hp with
      | 0,hc,hp => by cases hc; cases hp; exact starH_get h 31 rfl
      | 1,hc,hp => by cases hc; cases hp; exact starH_get h 35 rfl) dep0 rfl (by decide) (by decide) (by decide) (by decide)
theorem tShopR (h : H) : TabA (starH h) (h.n + 72) fShop [] 0 (inL h.n (msL 1)) (inL h.n (isL 1)) :=
  tab0 (cb := 65) (pb := 88) (cps := [74,78,82,86]) (ds := [67,69]) (by rw [starH_n]; omega) (starH_get h 72 rfl) (starH_get h 65 rfl) (starH_get h 88 rfl)
    (fun i c p hc hp => match i,hc,hp with
      | 0,hc,hp => by cases hc; cases hp; exact starH_get h 74 rfl
      | 1,hc,hp => by cases hc; cases hp; exact starH_get h 78 rfl
      | 2,hc,hp => by cases hc; cases hp; exact starH_get h 82 rfl
      | 3,hc,hp => by cases hc; cases hp; exact starH_get h 86 rfl) (dep1 (b := h.n + 67) (b2 := h.n + 69) (starH_get h 67 rfl) (starH_get h 69 rfl) (by rw [starH_n]; omega) (by rw [starH_n]; omega) ⟨67,by decide,rfl⟩ ⟨69,by decide,rfl⟩) rfl (by decide) (by decide) (by decide) (by decide)
theorem tDayR (h : H) : TabA (starH h) (h.n + 123) fDay [] 0 (inL h.n (msL 2)) (inL h.n (isL 2)) :=
  tab0 (cb := 116) (pb := 135) (cps := [125,129,133]) (ds := [118,120]) (by rw [starH_n]; omega) (starH_get h 123 rfl) (starH_get h 116 rfl) (starH_get h 135 rfl)
    (fun i c p hc hp => match i,hc,hp with
      | 0,hc,hp => by cases hc; cases hp; exact starH_get h 125 rfl
      | 1,hc,hp => by cases hc; cases hp; exact starH_get h 129 rfl
      | 2,hc,hp => by cases hc; cases hp; exact starH_get h 133 rfl) (dep1 (b := h.n + 118) (b2 := h.n + 120) (starH_get h 118 rfl) (starH_get h 120 rfl) (by rw [starH_n]; omega) (by rw [starH_n]; omega) ⟨118,by decide,rfl⟩ ⟨120,by decide,rfl⟩) rfl (by decide) (by decide) (by decide) (by decide)
theorem tSaleR (h : H) : TabA (starH h) (h.n + 162) fSale [] 0 (inL h.n (msL 3)) (inL h.n (isL 3)) :=
  tab0 (cb := 159) (pb := 178) (cps := [164,168,172,176]) (ds := []) (by rw [starH_n]; omega) (starH_get h 162 rfl) (starH_get h 159 rfl) (starH_get h 178 rfl)
    (fun i c p hc hp => match i,hc,hp with
      | 0,hc,hp => by cases hc; cases hp; exact starH_get h 164 rfl
      | 1,hc,hp => by cases hc; cases hp; exact starH_get h 168 rfl
      | 2,hc,hp => by cases hc; cases hp; exact starH_get h 172 rfl
      | 3,hc,hp => by cases hc; cases hp; exact starH_get h 176 rfl) dep0 rfl (by decide) (by decide) (by decide) (by decide)
theorem dis_star : ∀ i < 4,∀ j < 4,i = j ∨ ∀ x ∈ msL i,x ∉ msL j ∧ x ∉ isL j := by decide
theorem own_star : ∀ i < 4,∀ x ∈ msL i,x < 189 ∧ x ≠ 2 ∧ x ≠ 1 := by decide
theorem iown_star : ∀ i < 4,∀ x ∈ isL i,x < 189 := by decide
def tbsS (N : Nat) : List Nat := [N + 29,N + 72,N + 123,N + 162]
def A0 : List (List Rw × Nat) := [([],0),([],0),([],0),([],0)]
theorem c_starD (h : H) : DbR (starH h) (h.n + 2) (h.n + 1) (pt (h.n + 0) 0) fsS (tbsS h.n) A0 (fun i => inL h.n (msL i)) (fun i => inL h.n (isL i)) where
  l1 := by rw [starH_n]; omega
  l2 := by rw [starH_n]; omega
  cell := starH_get h 2 rfl
  map := starH_get h 1 rfl
  tl := rfl
  al := rfl
  tab := fun i tb f a ht hf ha => match i,ht,hf,ha with
    | 0,ht,hf,ha => by cases ht; cases hf; cases ha; exact tLandR h
    | 1,ht,hf,ha => by cases ht; cases hf; cases ha; exact tShopR h
    | 2,ht,hf,ha => by cases ht; cases hf; cases ha; exact tDayR h
    | 3,ht,hf,ha => by cases ht; cases hf; cases ha; exact tSaleR h
  dis := fun i j b hi hj hne ⟨x,hx,e⟩ => by
    have := (dis_star i hi j hj).resolve_left hne x hx
    refine ⟨fun ⟨y,hy,e'⟩ => this.1 ?_,fun ⟨y,hy,e'⟩ => this.2 ?_⟩ <;> (have : x = y := by omega) <;> subst this <;> exact hy
  own := fun i b hi ⟨x,hx,e⟩ => by
    have := own_star i hi x hx
    have n := starH_n h
    subst e; omega
  iown := fun i b hi ⟨x,hx,e⟩ => by
    have := iown_star i hi x hx
    have n := starH_n h
    subst e; omega
theorem rows0 {h : H} {F : Nat → Prop} : RowsR h (.slice none 0 0) [] F := ⟨none,[],rfl,rfl,rfl,by simp,by simp,by simp,List.Pairwise.nil⟩
theorem wi_star : ∀ x ∈ wiL,x < 189 ∧ x ≠ 3 ∧ x ≠ 186 ∧ x ≠ 188 := by decide
theorem sch_star (h : H) : SchR (starH h) (.slice (some ⟨h.n + 184,0,none⟩) 4 uc) fsS (inL h.n wiL) := by
  have lt : ∀ x,x < 189 → h.n + x < (starH h).n := fun x hx => by rw [starH_n]; omega
  refine ⟨[(.slice (some ⟨h.n + 41,0,none⟩) 2 uc,.slice none 0 0),(.slice (some ⟨h.n + 92,0,none⟩) 4 uc,.slice (some ⟨h.n + 7,0,none⟩) 1 1),(.slice (some ⟨h.n + 139,0,none⟩) 3 uc,.slice (some ⟨h.n + 10,0,none⟩) 1 1),(.slice (some ⟨h.n + 182,0,none⟩) 4 uc,.slice none 0 0)],
    rfl,Rd_full (starH_get h 184 rfl) rfl (lt _ (by omega)) ⟨184,by decide,rfl⟩,fun i t f ht hf => match i,ht,hf with
    | 0,ht,hf => ?_
    | 1,ht,hf => ?_
    | 2,ht,hf => ?_
    | 3,ht,hf => ?_⟩
  · cases ht; cases hf
    exact ⟨Rd_full (starH_get h 41 rfl) rfl (lt _ (by omega)) ⟨41,by decide,rfl⟩,dep0⟩
  · cases ht; cases hf
    exact ⟨Rd_full (starH_get h 92 rfl) rfl (lt _ (by omega)) ⟨92,by decide,rfl⟩,dep1 (b := h.n + 7) (b2 := h.n + 6) (starH_get h 7 rfl) (starH_get h 6 rfl) (lt _ (by omega)) (lt _ (by omega)) ⟨7,by decide,rfl⟩ ⟨6,by decide,rfl⟩⟩
  · cases ht; cases hf
    exact ⟨Rd_full (starH_get h 139 rfl) rfl (lt _ (by omega)) ⟨139,by decide,rfl⟩,dep1 (b := h.n + 10) (b2 := h.n + 9) (starH_get h 10 rfl) (starH_get h 9 rfl) (lt _ (by omega)) (lt _ (by omega)) ⟨10,by decide,rfl⟩ ⟨9,by decide,rfl⟩⟩
  · cases ht; cases hf
    exact ⟨Rd_full (starH_get h 182 rfl) rfl (lt _ (by omega)) ⟨182,by decide,rfl⟩,dep0⟩
theorem c_starW (h : H) : WR (starH h) (h.n + 3) fsS (A0.map Prod.fst) (A0.map Prod.snd) (inL h.n wmL) (inL h.n wiL) := by
  have lt : ∀ x,x < 189 → h.n + x < (starH h).n := fun x hx => by rw [starH_n]; omega
  refine ⟨.slice (some ⟨h.n + 184,0,none⟩) 4 uc,h.n + 186,h.n + 188,uc,uc,[.slice none 0 0,.slice none 0 0,.slice none 0 0,.slice none 0 0],[],[],fun _ _ => False,inL h.n wiL,lt _ (by omega),lt _ (by omega),lt _ (by omega),starH_get h 3 rfl,sch_star h,starH_get h 186 rfl,starH_get h 188 rfl,rfl,rfl,rfl,fun i x R hx hR => match i,hx,hR with
    | 0,hx,hR => ?_
    | 1,hx,hR => ?_
    | 2,hx,hR => ?_
    | 3,hx,hR => ?_,fun i b hi hb => hb.elim,fun i j b hi hj hne hb => hb.elim,fun b ⟨x,hx,e⟩ => ?_,⟨3,by decide,rfl⟩,⟨186,by decide,rfl⟩,⟨188,by decide,rfl⟩,by omega,by omega,by omega⟩
  · cases hx; cases hR; exact rows0
  · cases hx; cases hR; exact rows0
  · cases hx; cases hR; exact rows0
  · cases hx; cases hR; exact rows0
  · have := wi_star x hx
    have := lt x this.1
    subst e
    exact ⟨⟨x,hx,rfl⟩,this,by omega,by omega,by omega⟩
theorem dw_star : ∀ i < 4,∀ x ∈ msL i ++ isL i ++ [1,2],x ∉ wmL ∧ (x ∉ wiL) := by decide
end Go.L1


set_option maxRecDepth 100000
namespace Go.L1
open Go Go.Proofs
theorem bS_V2 (n : Nat) (v w : V) : aBuildS pgB n T_Lapi_Value 2 [(0,v.v),(1,w.v)] = some (.slice (some ⟨n,0,none⟩) 2 2,.cells (v.cs ++ w.cs) T_api_Value false) := by
  show aBuildS pgB n T_Lapi_Value 2 [(0,.agg #[.int .i64 v.k,.int .i64 v.n,st v.s]),(1,.agg #[.int .i64 w.k,.int .i64 w.n,st w.s])] = some (.slice (some ⟨n,0,none⟩) 2 2,.cells [.int .i64 v.k,.int .i64 v.n,st v.s,.int .i64 w.k,.int .i64 w.n,st w.s] T_api_Value false)
  kernel_rfl
theorem oB_op (a : Option Addr) (n c : Nat) : oBuild pgB T_api_Op [(0,.int .i64 1),(1,.string ⟨#[108,97,110,100]⟩),(4,.slice a n c)] = some (opA 1 tLand 0 [] (.slice a n c)) := by
  show oBuild pgB T_api_Op [(0,.int .i64 1),(1,.string ⟨#[108,97,110,100]⟩),(4,.slice a n c)] = some (.agg #[.int .i64 1,.string ⟨#[108,97,110,100]⟩,.int .i64 0,.string ⟨#[]⟩,.slice a n c])
  kernel_rfl
theorem bS_op (k : Nat) (a : Option Addr) (n c : Nat) : aBuildS pgB k T_Lapi_Op 1 [(0,opA 1 tLand 0 [] (.slice a n c))] = some (.slice (some ⟨k,0,none⟩) 1 1,.cells (opC tLand (.slice a n c)) T_api_Op false) := by
  show aBuildS pgB k T_Lapi_Op 1 [(0,.agg #[.int .i64 1,.string ⟨#[108,97,110,100]⟩,.int .i64 0,.string ⟨#[]⟩,.slice a n c])] = some (.slice (some ⟨k,0,none⟩) 1 1,.cells [.int .i64 1,.string ⟨#[108,97,110,100]⟩,.int .i64 0,.string ⟨#[]⟩,.slice a n c] T_api_Op false)
  kernel_rfl
def mRow (i : Nat) : List V := [⟨1,i,[]⟩,⟨2,0,[120]⟩]
def mO (n : Nat) : List (List V) := (List.range n).map mRow
theorem mO_len (n : Nat) : (mO n).length = n := by simp [mO]
structure MkR (h : H) (N k : Nat) (ob : Option Nat) (vxs : List Value) : Prop where
  len : vxs.length = k
  own : own h T_api_Op ob (vxs.flatMap (opC tLand))
  val : ∀ (j : Nat) (vx : Value),vxs[j]? = some vx → Rd h 3 vx 2 ((mRow j).flatMap V.cs) fun b => N ≤ b ∧ ob ≠ some b
  ge : ∀ b,ob = some b → N ≤ b
theorem MkR.ops {h : H} {N k : Nat} {ob : Option Nat} {vxs : List Value} (r : MkR h N k ob vxs) : OpsR h (slv ob k) tLand (mO k) (fun b => N ≤ b) vxs := by
  refine ⟨by rw [r.len,mO_len],?_,fun j vx vals h1 h2 => ?_⟩
  · rw [mO_len]
    exact r.own.rd (by rw [flat_len (opC_len tLand),r.len]) (by omega) r.ge
  · have hj := (List.getElem?_eq_some_iff.1 h2).1
    rw [mO_len] at hj
    simp only [mO,List.getElem?_map,List.getElem?_range hj,Option.map_some,Option.some.injEq] at h2
    subst h2
    exact (r.val j vx h1).mono fun b _ hb => hb.1
theorem c_mkloop {h : H} {n : Nat} (hn : n ≤ 60) {d w : Value} {t : List Value} :
    Rn (lw (F_k7_L2042 icP lw) (.int .i64 (n : Int) :: .bool false :: d :: w :: .slice none 0 0 :: .int .i64 0 :: t) h) fun o =>
      (∀ x ∈ o.lg,h.n ≤ x) ∧ o.ex = .exit 0 ∧ Sup h o.h ∧ nt o.vs 0 = .int .i64 (n : Int) ∧ nt o.vs 2 = d ∧ nt o.vs 3 = w ∧ ∃ ob vxs,MkR o.h h.n n ob vxs ∧ nt o.vs 4 = slv ob n := by
  refine (lw_cnt (fun x => h.n ≤ x) n (fun k vs h' => Sup h h' ∧ ∃ ob vxs t,MkR h' h.n k ob vxs ∧ vs = .int .i64 (n : Int) :: .bool false :: d :: w :: slv ob k :: .int .i64 (k : Int) :: t)
    (fun ex vs h' => ex = .exit 0 ∧ Sup h h' ∧ nt vs 0 = .int .i64 (n : Int) ∧ nt vs 2 = d ∧ nt vs 3 = w ∧ ∃ ob vxs,MkR h' h.n n ob vxs ∧ nt vs 4 = slv ob n)
    (fun k vs h' hk hI => ?_) (fun vs h' hI => ?_) (Nat.zero_le _) ⟨Sup.refl _,none,[],_,⟨rfl,rfl,fun j vx hv => by simp at hv,by simp⟩,rfl⟩).mono fun o ⟨h1,h2⟩ => ⟨h1,h2⟩
  · obtain ⟨s,ob,vxs,t,r,rfl⟩ := hI
    have hlt : decide ((k : Int) < n) = true := by rw [decide_eq_true_eq]; omega
    have hw : IntKind.i64.wrap ((k : Int) + 1) = ((k + 1 : Nat) : Int) := by rw [wrapI (by omega) (by omega)]; rfl
    have e1 := c_num k h'
    have e2 : icP (.fn N_k31) [.string ⟨#[120]⟩] h' = some ((⟨2,0,[120]⟩ : V).v,h',[]) := c_textv [120] h'
    unfold F_k7_L2042
    simp -implicitDefEqProofs only [↓jn3,↓wsD,wsP,Nat.reduceBEq,reduceCtorEq,logOf,Nat.reduceAdd,Nat.reduceLeDiff,Nat.reduceMul,co_slv,hlt,e1,e2,bS_V2,oB_op,bS_op]
    generalize hh2 : (h'.push (.cells ((⟨1,(k : Int),[]⟩ : V).cs ++ (⟨2,0,[120]⟩ : V).cs) T_api_Value false)).push (.cells (opC tLand (.slice (some ⟨h'.n,0,none⟩) 2 2)) T_api_Op false) = h2
    have s2 : Sup h' h2 := by rw [← hh2]; exact (Sup.push _ _).trans (Sup.push _ _)
    have n2 : h2.n = h'.n + 2 := by rw [← hh2]; rfl
    have g1 : h2.get h'.n = some (.cells ((mRow k).flatMap V.cs) T_api_Value false) := by rw [← hh2,H.get_push,if_neg (by show h'.n ≠ h'.n + 1; omega),H.get_push,if_pos rfl]; rfl
    have g2 : h2.get (h'.n + 1) = some (.cells (opC tLand (.slice (some ⟨h'.n,0,none⟩) 2 2)) T_api_Op false) := by rw [← hh2,H.get_push]; exact if_pos rfl
    have hsx : sliceCells h2.get 5 (some ⟨h'.n + 1,0,none⟩) 1 = some (opC tLand (.slice (some ⟨h'.n,0,none⟩) 2 2)) := by rw [sliceCells_eq g2 (by simp [opC_len])]; rfl
    have obk : ∀ b,ob = some b → b < h'.n := fun b e => by have := r.own; subst e; exact this.1
    obtain ⟨⟨v5,h5,lg5⟩,e5,ob',p1,p2,p3,p4,p5⟩ := rApp_own (es := 5) (bytes := 72) (zero := [(.int .i64 0),(.string ⟨#[]⟩),(.int .i64 0),(.string ⟨#[]⟩),(.slice none 0 0)]) (n := k) (m := 1) (xc := 1) (r.own.frame (h1 := h2) s2.1 fun b e => s2.2 b (obk b e)) (by rw [flat_len (opC_len tLand),r.len]) (by omega) hsx rfl (by simp only [lim]; omega)
    simp only at p1 p2 p3 p4 p5
    subst p1
    have hle5 := p5.le
    have s1 := s.1
    have obn : ∀ b,ob' = some b → (ob = some b ∨ h2.n ≤ b) := fun b e => by
      rcases p3 with ⟨rfl,_⟩ | rfl
      · exact .inl e
      · cases e; exact .inr (Nat.le_refl _)
    simp -implicitDefEqProofs only [↓jn3,↓wsD,wsP,Nat.reduceBEq,reduceCtorEq,logOf,Nat.reduceAdd,Nat.reduceLeDiff,Nat.reduceMul,co_slv,n2,e5,hw]
    refine Rn.ret ⟨fun x hx => ?_,.inl ⟨rfl,⟨by show h.n ≤ h5.n; omega,fun b hb => ?_⟩,ob',vxs ++ [.slice (some ⟨h'.n,0,none⟩) 2 2],_,⟨by simp [r.len],?_,fun j vx hv => ?_,fun b e => ?_⟩,rfl⟩⟩
    · have hx : x ∈ lg5 := by simpa using hx
      exact r.ge x (p4 x hx)
    · show h5.get b = _
      rw [p5.same b (by omega) (fun hm => by have := r.ge b (p4 b hm); omega),s2.2 b (by omega),s.2 b hb]
    · rw [List.flatMap_append]; simpa using p2
    · show Rd h5 3 vx 2 _ _
      have keep5 : ∀ b,b < h2.n → ob ≠ some b → h5.get b = h2.get b := fun b hb hne => p5.same b hb fun hm => hne (p4 b hm)
      by_cases hj : j < vxs.length
      · rw [List.getElem?_append_left hj] at hv
        refine (((r.val j vx hv).frame (h1 := h5) (by omega) fun b hb hF => by rw [keep5 b (by omega) hF.2,s2.2 b hb]).mono fun b hb hF => hF) |> fun q => ?_
        obtain ⟨hl,a,c,hx,hh⟩ := r.val j vx hv
        refine ⟨hl,a,c,hx,?_⟩
        rcases hh with ⟨h0,_⟩ | ⟨b,o,vs,ty,ro,ha,hb,hF,hg,hrest⟩
        · omega
        · exact .inr ⟨b,o,vs,ty,ro,ha,by omega,⟨hF.1,fun e => (obn b e).elim hF.2 fun h => by omega⟩,by rw [keep5 b (by omega) hF.2,s2.2 b hb,hg],hrest⟩
      · rw [List.getElem?_append_right (by omega)] at hv
        have hjk : j = vxs.length := by
          have := (List.getElem?_eq_some_iff.1 hv).1
          simp at this; omega
        subst hjk
        simp only [Nat.sub_self,List.getElem?_cons_zero,Option.some.injEq] at hv
        subst hv
        rw [r.len]
        have hne : ob ≠ some h'.n := fun e => by have := obk _ e; omega
        exact Rd_full (by rw [keep5 _ (by omega) hne,g1]) rfl (by omega) ⟨s1,fun e => (obn _ e).elim hne fun h => by omega⟩
    · rcases obn b e with h | h
      · exact r.ge b h
      · omega
  · obtain ⟨s,ob,vxs,t,r,rfl⟩ := hI
    unfold F_k7_L2042
    simp -implicitDefEqProofs only [↓jn3,↓wsD,wsP,Nat.reduceBEq,reduceCtorEq,logOf,Nat.reduceAdd,Nat.reduceLeDiff,Nat.reduceMul,co_slv,Int.lt_irrefl,decide_false]
    exact Rn.ret ⟨by simp,by simp,rfl,s,rfl,rfl,rfl,ob,vxs,r,rfl⟩
end Go.L1


set_option maxRecDepth 100000
namespace Go.L1
open Go Go.Proofs
def mOO (n : Nat) : List (List V) := if 1 ≤ n ∧ n ≤ 40 then mO n else []
def mE (n : Nat) : Int := if 1 ≤ n ∧ n ≤ 40 then 0 else 5
theorem mOO_len (n : Nat) : (mOO n).length ≤ 40 := by unfold mOO; split <;> simp [mO_len]; omega
theorem mO_ok {n : Nat} : ∀ vals ∈ mO n,vals.length = fLand.cols.length ∧ mayRow fLand.cols vals = true ∧ ∀ v ∈ vals,v.s.length < 1000 := by
  intro vals hv
  obtain ⟨i,hi,rfl⟩ := List.mem_map.1 hv
  refine ⟨rfl,?_,fun v hv => ?_⟩
  · simp only [mayRow,List.all_eq_true,List.mem_range]
    intro x hx
    rcases x with _ | _ | x
    · rfl
    · rfl
    · exact absurd hx (by show ¬ _ < 2; omega)
  · simp only [mRow,List.mem_cons,List.not_mem_nil,or_false] at hv
    rcases hv with rfl | rfl <;> simp
theorem OpsR.low {h : H} {ox : Value} {name : List UInt8} {O : List (List V)} {F : Nat → Prop} {vxs : List Value} (r : OpsR h ox name O F vxs) : ∃ a c,ox = .slice a O.length c := r.rd.low
theorem A0_set (R : List Rw) (n : Nat) : (A0.set 0 (R,n)).map Prod.fst = (A0.map Prod.fst).set 0 R ∧ (A0.set 0 (R,n)).map Prod.snd = (A0.map Prod.snd).set 0 n := ⟨rfl,rfl⟩
theorem c_many1 {h : H} {db mp : Nat} {sv : Value} {tbs : List Nat} {tb : Nat} {Ms Is : Nat → Nat → Prop} (r : DbR h db mp sv fsS tbs A0 Ms Is) (ht : tbs[0]? = some tb) {ox : Value} {n : Nat} {Fo : Nat → Prop} {vxs : List Value} (ro : OpsR h ox tLand (mO n) Fo vxs) (hvM : ∀ b,b < h.n → Fo b → ¬ Ms 0 b) (hn : n ≤ 60) :
    Rn (icP (.fn N_k25) [pt db 0,ox] h) fun r => ∃ x,r.1 = .tuple [x,fV (mE n)].toArray ∧ (∀ x ∈ r.2.2,Ms 0 x ∧ x < h.n) ∧ Rd r.2.1 1 x (mOO n).length (idsC 0 (mOO n).length) (fun b => h.n ≤ b) ∧
      ∃ Ms' Is',DbR r.2.1 db mp sv fsS tbs (A0.set 0 (newR 0 (mOO n),(mOO n).length)) Ms' Is' ∧ (∀ j b,Ms' j b → Ms j b ∨ h.n ≤ b) ∧ (∀ j b,Is' j b → Is j b ∨ h.n ≤ b) := by
  by_cases hc : 1 ≤ n ∧ n ≤ 40
  · have e1 : mOO n = mO n := if_pos hc
    have e2 : mE n = 0 := if_pos hc
    rw [e1,e2]
    refine (c_bapply r (i := 0) (f := fLand) (R := []) (n := 0) (name := tLand) rfl ht rfl rfl ro hvM mO_ok (by decide) (by omega) (by simp) (by rw [mO_len]; omega) (by rw [mO_len]; omega)).mono fun q ⟨x,q1,q2,q3,Ms',Is',q4,q5,q6⟩ => ⟨x,q1,q2,q3,Ms',Is',?_,q5,q6⟩
    rw [List.nil_append,Nat.zero_add] at q4
    exact q4
  · have e1 : mOO n = [] := if_neg hc
    have e2 : mE n = 5 := if_neg hc
    rw [e1,e2]
    obtain ⟨a,c,rfl⟩ := ro.low
    exact ⟨_,c_bapply0 (by rw [mO_len]; omega),_,rfl,by simp,Rd_nil,Ms,Is,r,fun j b h => .inl h,fun j b h => .inl h⟩
theorem c_many2 {h : H} {wb : Nat} {M I : Nat → Prop} (r : WR h wb fsS (A0.map Prod.fst) (A0.map Prod.snd) M I) {ox : Value} {n : Nat} {Fo : Nat → Prop} {vxs : List Value} (ro : OpsR h ox tLand (mO n) Fo vxs) (hvM : ∀ b,b < h.n → Fo b → ¬ M b) (hn : n ≤ 60) :
    Rn (icP (.fn N_k26) [pt wb 0,ox] h) fun r => ∃ x,r.1 = .tuple [x,fV (mE n)].toArray ∧ (∀ x ∈ r.2.2,M x ∧ x < h.n) ∧ Rd r.2.1 1 x (mOO n).length (idsC 0 (mOO n).length) (fun b => h.n ≤ b) ∧
      WR r.2.1 wb fsS ((A0.set 0 (newR 0 (mOO n),(mOO n).length)).map Prod.fst) ((A0.set 0 (newR 0 (mOO n),(mOO n).length)).map Prod.snd) (fun b => M b ∨ h.n ≤ b) I := by
  by_cases hc : 1 ≤ n ∧ n ≤ 40
  · have e1 : mOO n = mO n := if_pos hc
    have e2 : mE n = 0 := if_pos hc
    rw [e1,e2]
    refine (c_rapply r (i := 0) (f := fLand) (R := []) (n := 0) (name := tLand) rfl rfl rfl rfl ro hvM mO_ok (by decide) (by decide) (by omega) (by simp) (by rw [mO_len]; omega) (by rw [mO_len]; omega)).mono fun q ⟨x,q1,q2,q3,q4⟩ => ⟨x,q1,q2,q3,?_⟩
    rw [List.nil_append,Nat.zero_add] at q4
    exact q4
  · have e1 : mOO n = [] := if_neg hc
    have e2 : mE n = 5 := if_neg hc
    rw [e1,e2]
    obtain ⟨a,c,rfl⟩ := ro.low
    exact ⟨_,c_rapply0 (by rw [mO_len]; omega),_,rfl,by simp,Rd_nil,WR.mono r (fun b h => .inl h) fun b h => h⟩
end Go.L1


set_option maxRecDepth 100000
namespace Go.L1
open Go Go.Proofs
theorem c_begun13 (h : H) : icP (.fn N_k24) [] h = some (.bool true,h,[]) := ic_spec (s := tS) rfl rfl
theorem bB_eql {ty : Nat → Option TyI} (a b : Bool) : binV ty (tyD .bool) .eql (.bool a) (.bool b) = some (.bool (a == b)) := rfl
theorem mE_eq (n : Nat) : (mE n == 0) = (decide ((n : Int) ≥ 1) && decide ((n : Int) ≤ 40)) := by
  unfold mE
  by_cases h : 1 ≤ n ∧ n ≤ 40
  · rw [if_pos h,decide_eq_true (by omega),decide_eq_true (by omega)]; rfl
  · rw [if_neg h]
    by_cases h1 : 1 ≤ n
    · rw [decide_eq_true (show (n : Int) ≥ 1 by omega),decide_eq_false (show ¬ (n : Int) ≤ 40 by omega)]; rfl
    · rw [decide_eq_false (show ¬ (n : Int) ≥ 1 by omega)]; rfl
theorem dist_fs : ∀ (i : Nat) (f : Fm),fsS[i]? = some f → fsS.findIdx? (fun g => g.name == f.name) = some i
  | 0,_,h => by cases h; rfl
  | 1,_,h => by cases h; rfl
  | 2,_,h => by cases h; rfl
  | 3,_,h => by cases h; rfl
theorem c_batchmany (i : Int) (h : H) : icP (.fn N_k7) [.int .i64 i] h = some (.bool true,h,[]) := by
  refine Rn.eq (Rn.up (fun _ => ic_k7 rfl _) ?_)
  unfold F_k7
  by_cases hi0 : i < 0
  · simp -implicitDefEqProofs only [↓jn3,↓wsD,wsP,Nat.reduceBEq,reduceCtorEq,logOf,Nat.reduceAdd,Nat.reduceLeDiff,Nat.reduceMul,co_slv,wsF,c_begun13,decide_eq_true hi0]
    exact Rn_low (by simp) rfl rfl
  by_cases hi60 : i > 60
  · simp -implicitDefEqProofs only [↓jn3,↓wsD,wsP,Nat.reduceBEq,reduceCtorEq,logOf,Nat.reduceAdd,Nat.reduceLeDiff,Nat.reduceMul,co_slv,wsF,c_begun13,decide_eq_false hi0,decide_eq_true hi60]
    exact Rn_low (by simp) rfl rfl
  obtain ⟨n,rfl⟩ : ∃ n : Nat,i = (n : Int) := ⟨i.toNat,by omega⟩
  have hn : n ≤ 60 := by omega
  simp -implicitDefEqProofs only [↓jn3,↓wsD,wsP,Nat.reduceBEq,reduceCtorEq,logOf,Nat.reduceAdd,Nat.reduceLeDiff,Nat.reduceMul,co_slv,c_begun13,decide_eq_false hi0,decide_eq_false hi60,c_star]
  have sS := starH_sup h
  have nS := starH_n h
  have dS := c_starD h
  have wS := c_starW h
  generalize starH h = hS at *
  refine Rn_ob (c_mkloop hn) fun o ⟨hlo,q1,s1,q2,q3,q4,ob,vxs,mk,q5⟩ => ?_
  obtain ⟨ex,vs,h1,lg⟩ := o
  simp only at hlo q1 s1 q2 q3 q4 mk q5
  subst q1
  have dw : ∀ x y,(∃ i < 4,x ∈ msL i ++ isL i ++ [1,2]) → y ∈ wmL ++ wiL → x ≠ y := fun x y ⟨i,hi,hx⟩ hy e => by
    subst e
    have := dw_star i hi x hx
    rcases List.mem_append.1 hy with h | h
    · exact this.1 h
    · exact this.2 h
  have hs11 := s1.1
  have mlt : ∀ i b,i < 4 → inL h.n (msL i) b → b < hS.n := fun i b hi hm => (dS.own i b hi hm).1
  have wlt : ∀ b,inL h.n wmL b → b < hS.n := fun b ⟨x,hx,e⟩ => by
    have : ∀ x ∈ wmL,x < 189 := by decide
    have := this x hx
    omega
  have ro := mk.ops
  obtain ⟨⟨v2,h2,lg2⟩,e2,x,t1,t2,t3,Ms',Is',t4,t5,t6⟩ := c_many1 (dS.sup s1) rfl ro (fun b hb hF hm => by have := mlt 0 b (by omega) hm; omega) hn
  simp only at t1 t2 t3 t4
  subst t1
  have st2 := icP_stp _ _ _ _ _ _ e2
  have le2 := st2.le
  have w2 := (wS.sup s1).frame le2 fun b hb hm => st2.same b hb fun hx => by
    obtain ⟨y,hy,ey⟩ := (t2 b hx).1
    have hm : ∃ z,z ∈ wmL ++ wiL ∧ b = h.n + z := by
      rcases hm with ⟨z,hz,ez⟩ | ⟨z,hz,ez⟩
      · exact ⟨z,List.mem_append_left _ hz,ez⟩
      · exact ⟨z,List.mem_append_right _ hz,ez⟩
    obtain ⟨z,hz,ez⟩ := hm
    exact dw y z ⟨0,by omega,by simp [hy]⟩ hz (by omega)
  have ro2 := ro.frame le2 fun b hb hF => st2.same b hb fun hx => by have := mlt 0 b (by omega) (t2 b hx).1; omega
  have hN := h.n
  generalize hh3 : (h2.push (.cells [.int .i64 0,.int .i64 0,.string ⟨#[]⟩,.int .i64 0,.string ⟨#[]⟩] T_api_Fault false)).set h2.n (.cells [.int .i64 (mE n),.int .i64 0,st [],.int .i64 0,st []] T_api_Fault false) = h3
  have s3 : Sup h2 h3 := by rw [← hh3]; exact box_sup
  have n3 : h3.n = h2.n + 1 := by rw [← hh3]; rfl
  have g3 : h3.get h2.n = some (.cells [.int .i64 (mE n),.int .i64 0,st [],.int .i64 0,st []] T_api_Fault false) := by rw [← hh3]; exact box_get
  have s31 := s3.1
  obtain ⟨⟨v4,h4,lg4⟩,e4,y,u1,u2,u3,u4⟩ := c_many2 (w2.sup s3) (ro2.frame s31 fun b hb _ => s3.2 b hb) (fun b hb hF hm => by have := wlt b hm; omega) hn
  simp only at u1 u2 u3 u4
  subst u1
  have st4 := icP_stp _ _ _ _ _ _ e4
  have le4 := st4.le
  have keep4 : ∀ b,b < h3.n → hS.n ≤ b → h4.get b = h3.get b := fun b hb hg => st4.same b hb fun hx => by have := wlt b (u2 b hx).1; omega
  have t33 : Rd h3 1 x (mOO n).length (idsC 0 (mOO n).length) (fun b => h1.n ≤ b) := t3.sup s3
  have x4 := t33.frame le4 fun b hb hF => keep4 b hb (by omega)
  have d4 := (t4.sup s3).frame le4 fun b hb hm => st4.same b hb fun hx => by
    obtain ⟨z,hz,ez⟩ := (u2 b hx).1
    have hb1 : b < h1.n := by have := wlt b ⟨z,hz,ez⟩; omega
    rcases hm with rfl | rfl | ⟨j,hj,hm⟩
    · exact dw 2 z ⟨0,by omega,by simp⟩ (by simp [hz]) (by omega)
    · exact dw 1 z ⟨0,by omega,by simp⟩ (by simp [hz]) (by omega)
    · rcases hm with hm | hm
      · obtain ⟨y,hy,ey⟩ := (t5 j b hm).resolve_right (by omega)
        exact dw y z ⟨j,hj,by simp [hy]⟩ (by simp [hz]) (by omega)
      · obtain ⟨y,hy,ey⟩ := (t6 j b hm).resolve_right (by omega)
        exact dw y z ⟨j,hj,by simp [hy]⟩ (by simp [hz]) (by omega)
  generalize hh5 : (h4.push (.cells [.int .i64 0,.int .i64 0,.string ⟨#[]⟩,.int .i64 0,.string ⟨#[]⟩] T_api_Fault false)).set h4.n (.cells [.int .i64 (mE n),.int .i64 0,st [],.int .i64 0,st []] T_api_Fault false) = h5
  have s5 : Sup h4 h5 := by rw [← hh5]; exact box_sup
  have n5 : h5.n = h4.n + 1 := by rw [← hh5]; rfl
  have g5 : h5.get h4.n = some (.cells [.int .i64 (mE n),.int .i64 0,st [],.int .i64 0,st []] T_api_Fault false) := by rw [← hh5]; exact box_get
  have g52 : h5.get h2.n = some (.cells [.int .i64 (mE n),.int .i64 0,st [],.int .i64 0,st []] T_api_Fault false) := by rw [s5.2 _ (by omega),keep4 _ (by omega) (by omega),g3]
  have y5 := u3.sup s5
  have x5 := x4.sup s5
  have f1 := c_eqfault (mE n) h5
  have f2 := c_eqids x5 y5 (by have := mOO_len n; omega)
  have f3 := c_same (d4.sup s5) (u4.sup s5) dist_fs (fun a ha => by
    have hl := mOO_len n
    have : a = (newR 0 (mOO n),(mOO n).length) ∨ a = ([],0) := by
      simp only [A0,List.set_cons_zero,List.mem_cons,List.not_mem_nil,or_false] at ha
      rcases ha with h | h | h | h
      · exact .inl h
      · exact .inr h
      · exact .inr h
      · exact .inr h
    rcases this with rfl | rfl
    · rw [newR_len]; omega
    · simp) (by decide) (by decide)
  obtain ⟨ax,cx,rfl⟩ := x5.low
  obtain ⟨ay,cy,rfl⟩ := y5.low
  simp -implicitDefEqProofs only [↓jn3,↓wsD,wsP,Nat.reduceBEq,reduceCtorEq,logOf,Nat.reduceAdd,Nat.reduceLeDiff,Nat.reduceMul,co_slv,wsF,q2,q3,q4,q5,e2,co_fV,ag_fV,hh3,e4,hh5,g5,g52,f1,f2,f3,bB_eql,mE_eq]
  have hlg : ∀ x ∈ [h4.n] ++ (lg4 ++ ([h2.n] ++ (lg2 ++ lg))),h.n ≤ x := by
    intro x hx
    simp only [List.mem_append,List.mem_cons,List.not_mem_nil,or_false] at hx
    rcases hx with rfl | hx | rfl | hx | hx
    · omega
    · obtain ⟨z,hz,ez⟩ := (u2 x hx).1
      omega
    · omega
    · obtain ⟨z,hz,ez⟩ := (t2 x hx).1
      omega
    · have := hlo x hx; omega
  cases hb1 : decide ((n : Int) ≥ 1) <;> cases hb2 : decide ((n : Int) ≤ 40) <;> simp -implicitDefEqProofs only [↓jn3,↓wsD,wsP,Nat.reduceBEq,reduceCtorEq,logOf,Nat.reduceAdd,Nat.reduceLeDiff,Nat.reduceMul,co_slv,wsF,f3,hb1,hb2,bB_eql,Bool.and_true,Bool.and_false] <;> exact Rn_low hlg rfl rfl
end Go.L1
